/- What is said of EscrowPlays. Definitions alone; no conditions. -/
import Derived.Test.YtljimnhijpcjaaaPq
set_option linter.unusedVariables false
namespace Go.Proofs.Ytljimnhijpcjaaa.VC
open Go

structure PlaysArg where
  b : (((Int)) × ((Int)))
  v : (Int)
  s : List ((((Int)) × ((Int)) × ((Int)) × ((Int))))
def sp4 : Spc := spcOf [.v kRG, .v kI, .v (.slice kOpK)] [] (G := PlaysArg) (fun d => ⟨d.1.1, d.1.2.1, d.1.2.2.1⟩) (fun g => ((g.b, g.v, g.s, ()), ())) (fun _ => rfl) (fun x => .det [] [] (.bool true) [] []) (own := false) (still := false)
structure PlyAt where
  i : Nat
  l : List (Nat × Nat)
  es : EscP
  rs : RefP
structure PlkAt where
  k : Nat
def plIn (st : St) (f : List (Nat × Nat) → EscP → RefP → Inv) : Inv :=
  match HT.rd (.arr 36 kPr) (st.at (pl 57 0)), PT.rd (.pool 1 hEscP) (st.at 901), PT.rd (.pool 2 hRefP) (st.at 902) with
  | some l, some es, some rs => f l es rs
  | _, _, _ => f [] [] []
def annPly (x : PlaysArg) : Ann where
  loop id := match id with
    | 14 => inv0 { T := PlyAt, ok := fun y => y.i ≤ 300 ∧ y.i ≤ x.s.length ∧ PlOk y.i y.l y.es y.rs, ms := fun y => x.s.length - y.i, tk := [12, 11], tm := fun y => [i64 y.i, .sl (pl 57 0)], hk := [pl 57 0, 901, 902], hp := fun y => [.arr 36 kPr y.l, .pool 1 hEscP y.es [], .pool 2 hRefP y.rs []], mat := [] }
    | 23 => some ([15, 14], fun st => plIn st fun l es rs => { T := PlkAt, ok := fun y => y.k ≤ l.length, ms := fun y => l.length - y.k, tk := [15, 14], tm := fun y => [i64 y.k, .tt], hk := [901, 902], hp := fun _ => [.pool 1 hEscP es [], .pool 2 hRefP rs []], mat := [] })
    | _ => none
  cut _ := none
  loose id := match id with
    | 25 => [901, 902]
    | _ => []
  ghost id := match id with
    | 12 => [.np 901 1 hEscP, .np 902 2 hRefP, .pk (pl 21 0) 1 [pl 21 0, pl 21 1] [7], .pk (pl 44 0) 1 [pl 44 0, pl 44 1] [7], .pk (pl 27 0) 2 [pl 27 0] [9], .pk (pl 49 0) 2 [pl 49 0] [9]]
    | _ => []
end Go.Proofs.Ytljimnhijpcjaaa.VC

