/- What is said of analysis's functions. Definitions alone; no conditions. -/
import Derived.Test.YtncecddhknfimaaTp
set_option linter.unusedVariables false
namespace Go.Proofs.Ytncecddhknfimaa.VC
open Go
def rightF : Int → List Rc → Int
  | _, [] => 0
  | n, r :: l => if r.1 ≠ n + 1 then 60 else if checkR r ≠ 0 then checkR r else rightF (n + 1) l
structure RecArg where
  l : List ((((Int)) × ((Int)) × ((Int)) × ((Int)) × ((((Int)) × ((Int)))) × ((((Int)) × ((Int)))) × ((Int)) × ((((Int)) × ((Int)) × (((Int)) × ((Int))) × ((Int)))) × (((List ((((Int)) × ((Int)) × (Bool) × (Bool)))) × (List ((((Int)) × ((Int))))) × ((Int))))))
def sp21 : Spc := spcOf [.v (.slice kR)] [] (G := RecArg) (fun d => ⟨d.1.1⟩) (fun g => ((g.l, ()), ())) (fun _ => rfl) (fun x => .any [] [] Int (fun o => o = rightF 0 x.l) i64 (fun _ => []) (fun _ => [])) (lends := true) (lendsOk := by intro _ g; simp only [Con.ownedAll]; (repeat' apply And.intro) <;> first | rfl | (intro _; rfl)) (own := false) (still := false)
structure NAt where
  i : Nat
def ann21 (x : RecArg) : Ann where
  loop id := match id with
    | 2 => inv0 { T := NAt, ok := fun y => y.i ≤ x.l.length ∧ rightF 0 x.l = rightF (y.i : Int) (x.l.drop y.i), ms := fun y => x.l.length - y.i, tk := [8], tm := fun y => [i64 y.i], hk := [], hp := fun _ => [], mat := [] }
    | _ => none
  cut _ := none
  loose _ := []
def noR : Rc := (0, 0, 0, 0, (0, 0), (0, 0), 0, (0, 0, (0, 0), 0), ([], [], 0))
abbrev ptsR (r : Rc) : Pt := r.2.2.2.2.2.2.2.2
def putS (s : List Int) (p v : Int) : List Int := if s.getD p.toNat 0 = 0 then s.set p.toNat v else s
def chg (r : Rc) : Prop := r.2.1 = 2 ∨ r.2.1 = 3 ∨ r.2.1 = 4
instance (r : Rc) : Decidable (chg r) := by unfold chg; infer_instance
def chgS (s : List Int) (r : Rc) : List Int := if chg r then putS (putS s r.2.2.2.2.1.1 r.1) r.2.2.2.2.2.1.1 r.1 else s
def noteR (t : Tab) (r : Rc) : NoteOut := t.note r.1 r.2.1 r.2.2.1 r.2.2.2.1
def goF : Tab → List Int → List Rc → Option (Tab × List Int)
  | t, s, [] => some (t, s)
  | t, s, r :: l => if (noteR t r).e ≠ 0 then none else goF (noteR t r).t (chgS s r) l
def setsS (s : List Int) (d : List (Int × Int)) : List Int := d.foldl (fun s x => s.set x.1.toNat x.2) s
def startT (l : List Rc) (point : Int) : Tab := if point ≤ 0 then ⟨1, []⟩ else ⟨(ptsR (l.getD (point - 1).toNat noR)).2.2, ents (ptsR (l.getD (point - 1).toNat noR)).1⟩
def startS (l : List Rc) (point : Int) : List Int := if point ≤ 0 then zeros 64 else setsS (zeros 64) (ptsR (l.getD (point - 1).toNat noR)).2.1
def pointBad (l : List Rc) (point : Int) : Prop := point < 0 ∨ (l.length : Int) < point ∨ (0 < point ∧ (l.getD (point - 1).toNat noR).2.1 ≠ 8)
instance (l : List Rc) (point : Int) : Decidable (pointBad l point) := by unfold pointBad; infer_instance
def runF (l : List Rc) (point : Int) : Option (Tab × List Int) := goF (startT l point) (startS l point) (l.drop point.toNat)
def runE (l : List Rc) (point : Int) : Int := if rightF 0 l ≠ 0 then rightF 0 l else if pointBad l point then 4 else if (runF l point).isNone then 60 else 0
def dirt (s : List Int) (n : Nat) : List (Int × Int) := (List.range n).filterMap fun (k : Nat) => if s.getD k 0 = 0 then none else some ((k : Int), s.getD k 0)
def fromOf (l : List (Int × Int)) : Int := l.foldl (fun f d => if f = 0 ∨ d.2 < f then d.2 else f) 0
structure Fnd where
  t : Tab
  s : List Int
abbrev Fnd.live (f : Fnd) : List Lv := f.t.list
abbrev Fnd.dirty (f : Fnd) : List (Int × Int) := dirt f.s 64
structure RunArg where
  l : List ((((Int)) × ((Int)) × ((Int)) × ((Int)) × ((((Int)) × ((Int)))) × ((((Int)) × ((Int)))) × ((Int)) × ((((Int)) × ((Int)) × (((Int)) × ((Int))) × ((Int)))) × (((List ((((Int)) × ((Int)) × (Bool) × (Bool)))) × (List ((((Int)) × ((Int))))) × ((Int))))))
  point : (Int)
def sp9 : Spc := spcOf [.v (.slice kR), .v kI] [] (G := RunArg) (fun d => ⟨d.1.1, d.1.2.1⟩) (fun g => ((g.l, g.point, ()), ())) (fun _ => rfl) (fun x => .or
  (.any [] [] Int (fun e => e ≠ 0 ∧ runE x.l x.point = e) (fun e => .tup [.agg [.nsl, .nsl, i64 0, i64 0], i64 e]) (fun _ => []) (fun _ => []))
  (.any [] [] Fnd (fun o => runE x.l x.point = 0 ∧ runF x.l x.point = some (o.t, o.s)) (fun o => .tup [.agg [.sl 0, .sl 1, i64 (fromOf o.dirty), i64 o.t.next], i64 0]) (fun _ => []) (fun o => [.arr 67 kL o.live, .arr 62 kD o.dirty]))) (lends := true) (lendsOk := by intro _ g; simp only [Con.ownedAll]; (repeat' apply And.intro) <;> first | rfl | (intro _; rfl)) (own := false) (still := false)
/-- New and Load where they answer a table. -/
def sp22b : Spc := spcOf [.v kI] [] (G := NewArg) (fun d => ⟨d.1.1⟩) (fun g => ((g.n, ()), ())) (fun _ => rfl) (fun x => .det [within x.n 1 2147483648 = true] [] (.tup [.ptr 0 0, i64 0]) [] [.cells [.map 1, i64 x.n], .mapo kI kL []]) (own := false) (still := false)
def sp23b : Spc := spcOf [.v kP] [] (G := LoadArg) (fun d => ⟨d.1.1⟩) (fun g => ((g.p, ()), ())) (fun _ => rfl) (fun x => .det [LoadOk x.p] [] (.tup [.ptr 0 0, i64 0]) [] [.cells [.map 1, i64 x.p.2.2], .mapo kI kL (ents x.p.1)]) (lends := true) (lendsOk := by intro _ g; simp only [Con.ownedAll]; (repeat' apply And.intro) <;> first | rfl | (intro _; rfl)) (own := false) (still := false)
structure GoAt where
  i : Nat
  t : Tab
  s : List Int
def tabAt (st : St) (f : Nat → Inv) : Inv := match st.tmp 8 with
  | .ptr (p + 1) _ => f (p + 1)
  | _ => f 0
def intsAt (st : St) (p : Nat) (f : List Int → Inv) : Inv := match st.at p with
  | .arr _ (.int .i64) l => f l
  | _ => f []
def lsnAt (st : St) (p : Nat) (f : Int → Inv) : Inv := match st.at p with
  | .cells (.int .i64 n :: _) => f n
  | _ => f 0
def cellSl (st : St) (p : Nat) (f : Nat → Int → Inv) : Inv := match st.at p with
  | .cells [.sl q, _, _, .int .i64 n] => f q n
  | _ => f 0 0
def vecAt (st : St) (t : Nat) (f : List Int → Inv) : Inv := match st.tmp t with
  | .vec .i64 l => f l
  | _ => f []
def kindAt (st : St) (p : Nat) (f : Int → Inv) : Inv := match st.at p with
  | .cells (_ :: .int .i64 n :: _) => f n
  | _ => f 0
structure JAt where
  j : Nat
def ann9 (x : RunArg) : Ann where
  loop id := match id with
    | 12 => some ([68, 7], fun _ => { T := NAt, ok := fun y => y.i ≤ (ptsR (x.l.getD (x.point - 1).toNat noR)).2.1.length, ms := fun y => (ptsR (x.l.getD (x.point - 1).toNat noR)).2.1.length - y.i, tk := [68, 7], tm := fun y => [i64 y.i, .eptr (pl 7 0) 0 1 0], hk := [pl 7 0], hp := fun y => [.arr 71 kI (setsS (zeros 64) ((ptsR (x.l.getD (x.point - 1).toNat noR)).2.1.take y.i))], mat := [] })
    | 19 => some ([86, 7], fun st => tabAt st fun p => { T := GoAt, ok := fun y => y.i ≤ (x.l.drop x.point.toNat).length ∧ goF (startT x.l x.point) (startS x.l x.point) ((x.l.drop x.point.toNat).take y.i) = some (y.t, y.s) ∧ y.t.ok ∧ y.s.length = 64, ms := fun y => (x.l.drop x.point.toNat).length - y.i, tk := [86, 7], tm := fun y => [i64 y.i, .eptr (pl 7 0) 0 1 0], hk := [p, p + 1, pl 7 0, pl 4 0], hp := fun y => [.cells [.map (p + 1), i64 y.t.next], .mapo kI kL y.t.live, .arr 71 kI y.s, .cells [.nsl, .nsl, i64 0, i64 0]], mat := [] })
    | 25 => some ([116, 7], fun st => intsAt st (pl 7 0) fun s => intsAt st (pl 114 0) fun ab => lsnAt st (pl 14 0) fun lsn => { T := JAt, ok := fun y => y.j ≤ 2, ms := fun y => 2 - y.j, tk := [116, 7], tm := fun y => [i64 y.j, .eptr (pl 7 0) 0 1 0], hk := [pl 7 0], hp := fun y => [.arr 71 kI (if y.j = 0 then s else if y.j = 1 then putS s (ab.getD 0 0) lsn else putS (putS s (ab.getD 0 0) lsn) (ab.getD 1 0) lsn)], mat := [] })
    | 33 => some ([136], fun st => cellSl st (pl 17 0) fun q n => vecAt st 135 fun s => { T := NAt, ok := fun y => y.i ≤ 64, ms := fun y => 64 - y.i, tk := [136], tm := fun y => [i64 y.i], hk := [pl 17 0, 900], hp := fun y => [.cells [.sl q, .sl 900, i64 (fromOf (dirt s y.i)), i64 n], .arr 62 kD (dirt s y.i)], mat := [] })
    | _ => none
  cut id := match id with
    | 24 => some ([], fun st => kindAt st (pl 14 0) fun k => { T := Unit, ok := fun _ => k = 2 ∨ k = 3 ∨ k = 4, ms := fun _ => 0, tk := [], tm := fun _ => [], hk := [], hp := fun _ => [], mat := [] })
    | _ => none
  loose _ := []
  ghost id := match id with
    | 32 => [.nc (pl 17 0) 1 900 62 kD]
    | _ => []
end Go.Proofs.Ytncecddhknfimaa.VC

