/- What is said of TxnsBack's function. Definitions alone; no conditions. -/
import Derived.Test.YtgoikphefcgleaaSp
set_option linter.unusedVariables false
namespace Go.Proofs.Ytgoikphefcgleaa.VC
open Go
abbrev kM : Ty := (.pair kI kI)
/-- A table that has come so far. -/
structure Tab.Fine (t : Tab) (lim : Int) : Prop where
  nodup : (keysOf t.live).Nodup
  len : t.live.length ≤ 32
  ent : ∀ e ∈ t.live, e.2.1 = e.1 ∧ 1 ≤ e.1 ∧ e.1 < t.next ∧ 1 ≤ e.2.2.1 ∧ e.2.2.1 ≤ lim ∧ ¬ (e.2.2.2.1 = true ∧ e.2.2.2.2 = true)
  nx : 1 ≤ t.next ∧ t.next ≤ lim + 1
structure OneAt where
  i : Nat
  t : Tab
structure TwoAt where
  i : Nat
  t : Tab
  u : Tab
/-- The same table, but for the order of its entries. -/
structure Tab.Like (t u : Tab) : Prop where
  nx : t.next = u.next
  perm : t.live.Perm u.live
  nodup : (keysOf t.live).Nodup
  ok : t.ok
structure BackArg where
  moves : List ((((Int)) × ((Int))))
  records : List ((((Int)) × ((Int)) × ((Int)) × ((Int)) × ((((Int)) × ((Int)))) × ((((Int)) × ((Int)))) × ((Int)) × ((((Int)) × ((Int)) × (((Int)) × ((Int))) × ((Int)))) × (((List ((((Int)) × ((Int)) × (Bool) × (Bool)))) × (List ((((Int)) × ((Int))))) × ((Int))))))
  dirty : List ((((Int)) × ((Int))))
  odd : (((Int)) × ((Int)) × (Bool) × (Bool))
def sp5 : Spc := spcOf [.v (.slice kM), .v (.slice kR), .v (.slice kD), .v kL] [] (G := BackArg) (fun d => ⟨d.1.1, d.1.2.1, d.1.2.2.1, d.1.2.2.2.1⟩) (fun g => ((g.moves, g.records, g.dirty, g.odd, ()), ())) (fun _ => rfl) (fun x => .det [] [] (.bool true) [] []) (own := false) (still := false)
def ann5 (x : BackArg) : Ann where
  loop id := match id with
    | 5 => inv0 { T := OneAt, ok := fun y => y.i ≤ 60 ∧ y.t.Fine y.i, ms := fun y => 60 - y.i, tk := [11], tm := fun y => [i64 y.i], hk := [pl 27 0, pl 27 1], hp := fun y => [.cells [.map (pl 27 1), i64 y.t.next], .mapo kI kL y.t.live], mat := [] }
    | 17 => inv0 { T := TwoAt, ok := fun y => y.i ≤ 100 ∧ y.t.Like y.u, ms := fun y => 100 - y.i, tk := [17], tm := fun y => [i64 y.i], hk := [pl 27 0, pl 27 1, pl 104 0, pl 104 1], hp := fun y => [.cells [.map (pl 27 1), i64 y.t.next], .mapo kI kL y.t.live, .cells [.map (pl 104 1), i64 y.u.next], .mapo kI kL y.u.live], mat := [] }
    | _ => none
  cut _ := none
  loose id := match id with
    | 11 => [pl 27 0, pl 27 1]
    | 19 => [pl 27 0, pl 27 1, pl 104 0, pl 104 1]
    | _ => []
end Go.Proofs.Ytgoikphefcgleaa.VC

