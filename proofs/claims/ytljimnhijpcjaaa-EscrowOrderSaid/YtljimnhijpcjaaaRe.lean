/- What is said of EscrowReasons's function. Definitions alone; no conditions. -/
import Derived.Test.YtljimnhijpcjaaaLp
set_option linter.unusedVariables false
namespace Go.Proofs.Ytljimnhijpcjaaa.VC
open Go
structure RF where
  w : (((Int)) × ((Int)))
def sp28 : Spc := spcOf [.v kRG] [] (G := RF) (fun d => ⟨d.1.1⟩) (fun g => ((g.w, ()), ())) (fun _ => rfl) (fun x => .det [WFit x.w] [] (.bool (decide (Num (wv x.w)))) [] []) (own := false) (still := false)
structure ReArg where
  b : (((Int)) × ((Int)))
  v : (Int)
  d : List ((((Int)) × ((Int))))
  tx : (Int)
  delta : (Int)
def sp6 : Spc := spcOf [.v kRG, .v kI, .v (.slice kN), .v kI, .v kI] [] (G := ReArg) (fun d => ⟨d.1.1, d.1.2.1, d.1.2.2.1, d.1.2.2.2.1, d.1.2.2.2.2.1⟩) (fun g => ((g.b, g.v, g.d, g.tx, g.delta, ()), ())) (fun _ => rfl) (fun x => .det [] [] (.bool true) [] []) (own := false) (still := false)
def mineTo (l : List (Int × Int)) (t : Int) : Int := (l.filter fun p => decide (p.1 = t)).foldl (fun _ p => p.2) 0
def othersTo (l : List (Int × Int)) (t : Int) : List (Int × Int) := l.filter fun p => decide (p.1 ≠ t)
def outB (e : Esc) (v : Int) : Bool := decide (v < e.lo) || decide (v > e.hi)
def badB (e : Esc) (l : List (Int × Int)) (d : Int) (k : Nat) : Bool := outB e (outV e.st l (k : Int)) || outB e (outV e.st l (k : Int) + d)
def badAny (e : Esc) (l : List (Int × Int)) (d : Int) (n : Nat) : Bool := (List.range n).any (badB e l d)
structure ReAt where
  i : Nat
  xs : List (Int × Int)
  m : Int
structure SbAt where
  s : Nat
  a : Bool
def escIn (st : St) (t : Nat) (f : Esc → Inv) : Inv := match st.tmp t with
  | .ptr p _ => match st.at p with
    | .cells [.int _ a, .int _ b, .int _ s, .map q] => match st.at q with
      | .mapo (.int .i64) (.int .i64) E => f ⟨a, b, s, E⟩
      | _ => f ⟨0, 0, 0, []⟩
    | _ => f ⟨0, 0, 0, []⟩
  | _ => f ⟨0, 0, 0, []⟩
def ann6 (x : ReArg) : Ann where
  loop id := match id with
    | 11 => some ([17, 15, 16, 15], fun st => escIn st 11 fun e => { T := ReAt, ok := fun y => y.i ≤ (netsTo e.nets 8).length ∧ y.xs = othersTo ((netsTo e.nets 8).take y.i) (1 + x.tx % 8) ∧ y.m = mineTo ((netsTo e.nets 8).take y.i) (1 + x.tx % 8), ms := fun y => (netsTo e.nets 8).length - y.i, tk := [17, 15, 16], tm := fun y => [i64 y.i, .sl 900, i64 y.m], hk := [900], hp := fun y => [.arr 51 kN y.xs], mat := [(15, 900, 51, kN)] })
    | 19 => some ([20, 19], fun st => escIn st 11 fun e => { T := SbAt, ok := fun y => y.s ≤ 2 ^ (othersTo (netsTo e.nets 8) (1 + x.tx % 8)).length ∧ y.a = badAny e (othersTo (netsTo e.nets 8) (1 + x.tx % 8)) (mineTo (netsTo e.nets 8) (1 + x.tx % 8) + x.delta) y.s, ms := fun y => 2 ^ (othersTo (netsTo e.nets 8) (1 + x.tx % 8)).length - y.s, tk := [20, 19], tm := fun y => [i64 y.s, .bool y.a], hk := [], hp := fun _ => [], mat := [] })
    | _ => none
  cut _ := none
  loose _ := []
end Go.Proofs.Ytljimnhijpcjaaa.VC

