/- What is said of TxnsLife's function. Definitions alone; no conditions. -/
import Derived.Test.YtgoikphefcgleaaBk
set_option linter.unusedVariables false
namespace Go.Proofs.Ytgoikphefcgleaa.VC
open Go
/-- Lives that have come so far. -/
structure Lives (i : Nat) (next : Int) (l : List Lv) : Prop where
  up : Up l
  len : l.length ≤ 32
  ent : ∀ x ∈ l, 1 ≤ x.1 ∧ x.1 < next ∧ 1 ≤ x.2.1 ∧ x.2.1 < 2 * (i : Int) + 1 ∧ ¬ (x.2.2.1 = true ∧ x.2.2.2 = true)
  nx : 1 ≤ next ∧ next ≤ (i : Int) + 1
structure LfAt where
  i : Nat
  next : Int
  l : List Lv
/-- Words that ask for the list at a place. -/
def byL (st : St) (p : Nat) (f : List Lv → Inv) : Inv := match st.at p with
  | .arr _ (.pair (.int .i64) (.pair (.int .i64) (.pair .bool .bool))) xs => f xs
  | _ => f []
structure MovesArg where
  moves : List ((((Int)) × ((Int))))
def sp4 : Spc := spcOf [.v (.slice kM)] [] (G := MovesArg) (fun d => ⟨d.1.1⟩) (fun g => ((g.moves, ()), ())) (fun _ => rfl) (fun x => .det [] [] (.bool true) [] []) (own := false) (still := false)
def ann4 (x : MovesArg) : Ann where
  loop id := match id with
    | 7 => inv0 { T := LfAt, ok := fun y => y.i ≤ 300 ∧ Lives y.i y.next y.l, ms := fun y => 300 - y.i, tk := [7, 6, 5], tm := fun y => [i64 y.i, i64 y.next, .sl 900], hk := [pl 21 0, pl 21 1, 900], hp := fun y => [.cells [.map (pl 21 1), i64 y.next], .mapo kI kL (ents y.l), .arr 67 kL y.l], mat := [(5, 900, 67, kL)] }
    | _ => none
  cut id := match id with
    | 20 => some ([10], fun st => byInt st 7 fun i => byInt st 6 fun n => byL st 900 fun l => { T := Tab, ok := fun t => t = (if 32 ≤ l.length then ⟨n, ents l⟩ else ⟨n + 1, ents (l ++ [(n, 2 * i + 1, false, false)])⟩), ms := fun _ => 0, tk := [10], tm := fun _ => [.bool (decide (32 ≤ l.length))], hk := [pl 21 0, pl 21 1], hp := fun t => [.cells [.map (pl 21 1), i64 t.next], .mapo kI kL t.live], mat := [] })
    | 42 => some ([5, 6], fun st => byInt st 7 fun i => { T := LfAt, ok := fun y => (y.i : Int) = i + 1 ∧ Lives y.i y.next y.l, ms := fun _ => 0, tk := [5, 6], tm := fun y => [.sl 900, i64 y.next], hk := [pl 21 0, pl 21 1, 900], hp := fun y => [.cells [.map (pl 21 1), i64 y.next], .mapo kI kL (ents y.l), .arr 67 kL y.l], mat := [] })
    | _ => none
  loose _ := []
  ghost id := match id with
    | 40 => [.mv (pl 220 0) 900 [5]]
    | _ => []
end Go.Proofs.Ytgoikphefcgleaa.VC

