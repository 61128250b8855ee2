/- What is said of EscrowOutcomes's function. Definitions alone; no conditions. -/
import Derived.Test.YtljimnhijpcjaaaWp
set_option linter.unusedVariables false
namespace Go.Proofs.Ytljimnhijpcjaaa.VC
open Go
def lowAny (b : Int) (l : List (Int × Int)) (n : Nat) (lo : Int) : Bool := (List.range n).any fun (k : Nat) => decide (outV b l (k : Int) ≤ lo)
def highAny (b : Int) (l : List (Int × Int)) (n : Nat) (hi : Int) : Bool := (List.range n).any fun (k : Nat) => decide (hi ≤ outV b l (k : Int))
structure SetAt where
  s : Nat
  a : Bool
  b : Bool
def byEsc (st : St) (t : Nat) (f : Int → List (Int × Int) → Inv) : Inv := match st.tmp t with
  | .ptr p _ => match st.at p with
    | .cells [_, _, .int _ s, .map q] => match st.at q with
      | .mapo (.int .i64) (.int .i64) E => f s E
      | _ => f 0 []
    | _ => f 0 []
  | _ => f 0 []
def ann5 (x : MadeArg) : Ann where
  loop id := match id with
    | 11 => inv0 { T := At, ok := fun y => y.i ≤ 8, ms := fun y => 8 - y.i, tk := [11], tm := fun y => [i64 y.i], hk := [], hp := fun _ => [], mat := [] }
    | 20 => some ([16, 14, 15], fun st => byEsc st 7 fun s E => { T := SetAt, ok := fun y => y.s ≤ 2 ^ (netsTo E 8).length ∧ y.a = lowAny s (netsTo E 8) y.s (s + lowS (valsOf E)) ∧ y.b = highAny s (netsTo E 8) y.s (s + highS (valsOf E)), ms := fun y => 2 ^ (netsTo E 8).length - y.s, tk := [16, 14, 15], tm := fun y => [i64 y.s, .bool y.a, .bool y.b], hk := [], hp := fun _ => [], mat := [] })
    | _ => none
  cut _ := none
  loose _ := []
end Go.Proofs.Ytljimnhijpcjaaa.VC

