/- What is said of the laws' functions over analysis. Definitions alone; no conditions. -/
import Derived.Test.YtncecddhknfimaaAr
set_option linter.unusedVariables false
namespace Go.Proofs.Ytncecddhknfimaa.VC
open Go
abbrev kM : Ty := (.pair kI (.pair kI (.pair kI kI)))
abbrev kF : Ty := (.pair (.slice kL) (.pair (.slice kD) (.pair kI kI)))
abbrev Mv : Type := Int × Int × Int × Int
abbrev Fo : Type := List Lv × List (Int × Int) × Int × Int
structure RsArg where
  n : (Int)
  m : (Int)
def sp19 : Spc := spcOf [.v kI, .v kI] [] (G := RsArg) (fun d => ⟨d.1.1, d.1.2.1⟩) (fun g => ((g.n, g.m, ()), ())) (fun _ => rfl) (fun x => .det [1 ≤ x.m, x.m ≤ 4611686018427387904] [] (i64 (rs x.n x.m)) [] []) (own := false) (still := false)
structure NumArg where
  e : (Int)
def sp11 : Spc := spcOf [.v kI] [] (G := NumArg) (fun d => ⟨d.1.1⟩) (fun g => ((g.e, ()), ())) (fun _ => rfl) (fun x => .det [] [] (i64 x.e) [] []) (own := false) (still := false)
structure SlvArg where
  a : List ((((Int)) × ((Int)) × (Bool) × (Bool)))
  b : List ((((Int)) × ((Int)) × (Bool) × (Bool)))
def sp17 : Spc := spcOf [.v (.slice kL), .v (.slice kL)] [] (G := SlvArg) (fun d => ⟨d.1.1, d.1.2.1⟩) (fun g => ((g.a, g.b, ()), ())) (fun _ => rfl) (fun x => .det [] [] (.bool (decide (x.a = x.b))) [] []) (lends := true) (lendsOk := by intro _ g; simp only [Con.ownedAll]; (repeat' apply And.intro) <;> first | rfl | (intro _; rfl)) (own := false) (still := false)
def sinceF : List (Int × Int) → Int → Int
  | [], _ => 0
  | x :: l, p => if x.1 = p then x.2 else sinceF l p
structure SincArg where
  l : List ((((Int)) × ((Int))))
  page : (Int)
def sp18 : Spc := spcOf [.v (.slice kD), .v kI] [] (G := SincArg) (fun d => ⟨d.1.1, d.1.2.1⟩) (fun g => ((g.l, g.page, ()), ())) (fun _ => rfl) (fun x => .any [] [] Int (fun o => o = sinceF x.l x.page) i64 (fun _ => []) (fun _ => [])) (lends := true) (lendsOk := by intro _ g; simp only [Con.ownedAll]; (repeat' apply And.intro) <;> first | rfl | (intro _; rfl)) (own := false) (still := false)
structure SfArg where
  a : ((List ((((Int)) × ((Int)) × (Bool) × (Bool)))) × (List ((((Int)) × ((Int))))) × ((Int)) × ((Int)))
  b : ((List ((((Int)) × ((Int)) × (Bool) × (Bool)))) × (List ((((Int)) × ((Int))))) × ((Int)) × ((Int)))
def sp12 : Spc := spcOf [.v kF, .v kF] [] (G := SfArg) (fun d => ⟨d.1.1, d.1.2.1⟩) (fun g => ((g.a, g.b, ()), ())) (fun _ => rfl) (fun x => .det [] [] (.bool (decide (x.a = x.b))) [] []) (lends := true) (lendsOk := by intro _ g; simp only [Con.ownedAll]; (repeat' apply And.intro) <;> first | rfl | (intro _; rfl)) (own := false) (still := false)
def bitD (s : Int) (i : Nat) : Bool := decide (s / 2 ^ (i % 60) % 2 = 0)
def dropTo (m : Mv) (lsn : Int) (d : List (Int × Int)) : Nat → List (Int × Int)
  | 0 => []
  | i + 1 => if 16 ≤ (dropTo m lsn d i).length then dropTo m lsn d i else if bitD m.2.2.2 i then dropTo m lsn d i ++ [((d.getD i (0, 0)).1, min ((d.getD i (0, 0)).2 + rs m.2.1 3) (lsn - 1))] else dropTo m lsn d i
def dropD (m : Mv) (lsn : Int) (d : List (Int × Int)) : List (Int × Int) := dropTo m lsn d d.length
def noPt : Pt := ([], [], 0)
def zC : Ctr := (0, 0, (0, 0), 0)
def recB (lsn kind : Int) (x : Lv) : Rc := (lsn, kind, x.1, x.2.1, (0, 0), (0, 0), 0, zC, noPt)
def stepF (m : Mv) (lsn : Int) (f : Fo) : Rc :=
  if rs m.1 12 = 0 then (lsn, 2, 0, 0, (rs m.2.2.1 20, 0), (20 + rs m.2.2.1 7, 0), 0, (lsn, 1, (0, 0), 0), noPt)
  else if rs m.1 12 = 1 ∨ rs m.1 12 = 2 then (lsn, 8, 0, 0, (0, 0), (0, 0), 0, zC, (f.1, dropD m lsn f.2.1, f.2.2.2))
  else if f.1.length = 0 ∨ (rs m.1 12 < 5 ∧ f.1.length < 32) then (lsn, 1, f.2.2.2, 0, (0, 0), (0, 0), 0, zC, noPt)
  else
    let x := f.1.getD (rs m.2.1 f.1.length).toNat noLv
    if x.2.2.1 = true ∨ (x.2.2.2 = true ∧ rs m.1 12 < 8) then recB lsn 7 x
    else if rs m.1 12 = 10 then recB lsn (if x.2.2.2 = true then 7 else 5) x
    else if rs m.1 12 = 11 ∧ x.2.2.2 = false then recB lsn 6 x
    else (lsn, if x.2.2.2 = true then 4 else 3, x.1, x.2.1, (rs m.2.2.1 20, 0), (20 + rs m.2.2.1 7, 0), 1, (1, 0, (0, 0), 0), noPt)
abbrev rcA (r : Rc) : AV := .agg [i64 r.1, i64 r.2.1, i64 r.2.2.1, i64 r.2.2.2.1, i64 r.2.2.2.2.1.1, i64 r.2.2.2.2.1.2, i64 r.2.2.2.2.2.1.1, i64 r.2.2.2.2.2.1.2, i64 r.2.2.2.2.2.2.1, i64 r.2.2.2.2.2.2.2.1.1, i64 r.2.2.2.2.2.2.2.1.2.1, i64 r.2.2.2.2.2.2.2.1.2.2.1.1, i64 r.2.2.2.2.2.2.2.1.2.2.1.2, i64 r.2.2.2.2.2.2.2.1.2.2.2, .lst kL (ptsR r).1, .lst kD (ptsR r).2.1, i64 (ptsR r).2.2]
structure StepArg where
  m : (((Int)) × ((Int)) × ((Int)) × ((Int)))
  lsn : (Int)
  f : ((List ((((Int)) × ((Int)) × (Bool) × (Bool)))) × (List ((((Int)) × ((Int))))) × ((Int)) × ((Int)))
def sp35 : Spc := spcOf [.v kM, .v kI, .v kF] [] (G := StepArg) (fun d => ⟨d.1.1, d.1.2.1, d.1.2.2.1⟩) (fun g => ((g.m, g.lsn, g.f, ()), ())) (fun _ => rfl) (fun x => .any [x.f.1.length ≤ 32, x.f.2.1.length ≤ 64, 1 ≤ x.lsn ∧ x.lsn ≤ 1000, ∀ d ∈ x.f.2.1, 0 ≤ d.2 ∧ d.2 ≤ 1000] [] Rc (fun o => o = stepF x.m x.lsn x.f) rcA (fun _ => []) (fun _ => [])) (own := false) (still := false)
structure DrAt where
  i : Nat
def ann35 (x : StepArg) : Ann where
  loop id := match id with
    | 9 => inv0 { T := DrAt, ok := fun y => y.i ≤ x.f.2.1.length, ms := fun y => x.f.2.1.length - y.i, tk := [11], tm := fun y => [i64 y.i], hk := [pl 10 0, 900], hp := fun y => [.cells [.lst kL x.f.1, .sl 900, i64 x.f.2.2.2], .arr 62 kD (dropTo x.m x.lsn x.f.2.1 y.i)], mat := [] }
    | _ => none
  cut _ := none
  loose id := match id with
    | _ => []
  ghost id := match id with
    | 8 => [.nc (pl 10 0) 1 900 62 kD]
    | 15 => [.fz 900 []]
    | _ => []
def ann17 (x : SlvArg) : Ann where
  loop id := match id with
    | 4 => inv0 { T := NAt, ok := fun y => y.i ≤ x.a.length ∧ x.a.length = x.b.length ∧ x.a.take y.i = x.b.take y.i, ms := fun y => x.a.length - y.i, tk := [5], tm := fun y => [i64 y.i], hk := [], hp := fun _ => [], mat := [] }
    | _ => none
  cut _ := none
  loose _ := []
def ann18 (x : SincArg) : Ann where
  loop id := match id with
    | 2 => inv0 { T := NAt, ok := fun y => y.i ≤ x.l.length ∧ sinceF x.l x.page = sinceF (x.l.drop y.i) x.page, ms := fun y => x.l.length - y.i, tk := [5], tm := fun y => [i64 y.i], hk := [], hp := fun _ => [], mat := [] }
    | _ => none
  cut _ := none
  loose _ := []
def ann12 (x : SfArg) : Ann where
  loop id := match id with
    | 4 => inv0 { T := NAt, ok := fun y => y.i ≤ x.a.1.length ∧ x.a.1.take y.i = x.b.1.take y.i, ms := fun y => x.a.1.length - y.i, tk := [5], tm := fun y => [i64 y.i], hk := [], hp := fun _ => [], mat := [] }
    | 9 => inv0 { T := NAt, ok := fun y => y.i ≤ x.a.2.1.length ∧ x.a.2.1.take y.i = x.b.2.1.take y.i, ms := fun y => x.a.2.1.length - y.i, tk := [6], tm := fun y => [i64 y.i], hk := [], hp := fun _ => [], mat := [] }
    | _ => none
  cut _ := none
  loose _ := []
/-- What Run finds of a log, from the beginning. -/
def fndOf (l : List Rc) : Fo := match goF ⟨1, []⟩ (zeros 64) l with
  | some (t, s) => (t.list, dirt s 64, fromOf (dirt s 64), t.next)
  | none => ([], [], 0, 0)
def growF : List Mv → List Rc → List Rc
  | [], l => l
  | m :: ms, l => growF ms (l ++ [stepF m ((l.length : Int) + 1) (fndOf l)])
structure GrArg where
  moves : List ((((Int)) × ((Int)) × ((Int)) × ((Int))))
def sp16 : Spc := spcOf [.v (.slice kM)] [] (G := GrArg) (fun d => ⟨d.1.1⟩) (fun g => ((g.moves, ()), ())) (fun _ => rfl) (fun x => .any [] [] (List Rc) (fun l => l = growF (x.moves.take 80) []) (fun _ => .tup [.sl 0, .tt]) (fun _ => []) (fun l => [.arr 55 kR l])) (own := false) (still := false)
def sp6 : Spc := spcOf [] [] (G := Unit) (fun _ => ()) (fun _ => ((), ())) (fun _ => rfl) (fun _ => .det [] [] .tt [] [])
structure GrAt where
  i : Nat
  l : List Rc
def ann16 (x : GrArg) : Ann where
  loop id := match id with
    | 3 => inv0 { T := GrAt, ok := fun y => y.i ≤ x.moves.length ∧ y.i ≤ 80 ∧ y.l = growF (x.moves.take y.i) [], ms := fun y => x.moves.length - y.i, tk := [5, 4], tm := fun y => [i64 y.i, .sl 900], hk := [900], hp := fun y => [.arr 55 kR y.l], mat := [(4, 900, 55, kR)] }
    | _ => none
  cut _ := none
  loose id := match id with
    | 8 => [900]
    | _ => []
  ghost id := match id with
    | 8 => [.fz (pl 22 0) [], .fz (pl 22 1) []]
    | _ => []
def ann6 (x : Unit) : Ann where
  loop _ := none
  cut _ := none
  loose _ := []
  ghost id := match id with
    | 3 => [.fz (pl 18 0) [2]]
    | _ => []
structure MvsArg where
  moves : List ((((Int)) × ((Int)) × ((Int)) × ((Int))))
def sp4 : Spc := spcOf [.v (.slice kM)] [] (G := MvsArg) (fun d => ⟨d.1.1⟩) (fun g => ((g.moves, ()), ())) (fun _ => rfl) (fun x => .det [] [] (.bool true) [] []) (own := false) (still := false)
structure MvnArg where
  moves : List ((((Int)) × ((Int)) × ((Int)) × ((Int))))
  n : (Int)
def sp5 : Spc := spcOf [.v (.slice kM), .v kI] [] (G := MvnArg) (fun d => ⟨d.1.1, d.1.2.1⟩) (fun g => ((g.moves, g.n, ()), ())) (fun _ => rfl) (fun x => .det [] [] (.bool true) [] []) (own := false) (still := false)
def livesAt (st : St) (p : Nat) (f : List Lv → Inv) : Inv := match st.at p with
  | .arr _ (.pair (.int .i64) (.pair (.int .i64) (.pair .bool .bool))) l => f l
  | _ => f []
def dirtAt (st : St) (p : Nat) (f : List (Int × Int) → Inv) : Inv := match st.at p with
  | .arr _ (.pair (.int .i64) (.int .i64)) l => f l
  | _ => f []
structure GlAt where
  i : Nat
structure LeAt where
  least : Int
  k : Nat
def grownL (ms : List Mv) : List Rc := growF (ms.take 80) []
def cntK (k : Int) (l : List Rc) : Nat := (l.filter fun r => decide (r.2.1 = k)).length
def ann5 (x : MvnArg) : Ann where
  loop id := match id with
    | 13 => inv0 { T := GlAt, ok := fun y => y.i ≤ ((grownL x.moves).take (rs x.n ((grownL x.moves).length + 1)).toNat).length, ms := fun y => ((grownL x.moves).take (rs x.n ((grownL x.moves).length + 1)).toNat).length - y.i, tk := [9, 10, 11], tm := fun y => [i64 (cntK 1 (((grownL x.moves).take (rs x.n ((grownL x.moves).length + 1)).toNat).take y.i)), i64 (cntK 7 (((grownL x.moves).take (rs x.n ((grownL x.moves).length + 1)).toNat).take y.i)), i64 y.i], hk := [], hp := fun _ => [], mat := [] }
    | 20 => some ([12], fun st => livesAt st (pl 31 0) fun f => { T := GlAt, ok := fun y => y.i ≤ f.length, ms := fun y => f.length - y.i, tk := [12], tm := fun y => [i64 y.i], hk := [], hp := fun _ => [], mat := [] })
    | _ => none
  cut id := match id with
    | _ => none
  loose _ := []
def ann4 (x : MvsArg) : Ann where
  loop id := match id with
    | 10 => inv0 { T := GlAt, ok := fun y => y.i ≤ (grownL x.moves).length, ms := fun y => (grownL x.moves).length - y.i, tk := [7], tm := fun y => [i64 y.i], hk := [], hp := fun _ => [], mat := [] }
    | 20 => some ([10, 11], fun st => dirtAt st (pl 43 1) fun d => { T := LeAt, ok := fun y => y.k ≤ d.length ∧ y.least = fromOf (d.take y.k), ms := fun y => d.length - y.k, tk := [10, 11], tm := fun y => [i64 y.least, i64 y.k], hk := [], hp := fun _ => [], mat := [] })
    | 31 => some ([14], fun st => byInt st 7 fun i => { T := GlAt, ok := fun y => i < (y.i : Int) ∧ y.i ≤ (grownL x.moves).length, ms := fun y => (grownL x.moves).length - y.i, tk := [14], tm := fun y => [i64 y.i], hk := [], hp := fun _ => [], mat := [] })
    | _ => none
  cut _ := none
  loose _ := []
end Go.Proofs.Ytncecddhknfimaa.VC

