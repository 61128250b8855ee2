/- What is said of the transactions' functions. Definitions alone; no conditions. -/
import Derived.Test.YtncecddhknfimaaKp
set_option linter.unusedVariables false
namespace Go.Proofs.Ytncecddhknfimaa.VC
open Go
structure Tab where
  next : (Int)
  live : List (((Int)) × ((((Int)) × ((Int)) × (Bool) × (Bool))))
abbrev Tab.at (r : Tab) (n : Nat) : List Itm := [.cells ([.map (n + 1)] ++ Ty.enc kI r.next), .mapo kI kL r.live]
def mgL (E : List (Int × Lv)) (c : Int) : Option Lv := mgetT kI kL E c
def msL (E : List (Int × Lv)) (c : Int) (x : Lv) : List (Int × Lv) := msetT kI kL E c x
def mdL (E : List (Int × Lv)) (c : Int) : List (Int × Lv) := mdelT kI kL E c
def Tab.ok (t : Tab) : Prop := t.live.length ≤ 32 ∧ 1 ≤ t.next ∧ t.next ≤ top + 1

structure BeginOut where
  n : Int
  e : Int
  t : Tab
def Tab.begin (t : Tab) (lsn : Int) : BeginOut :=
  if within lsn 1 top = false then ⟨0, 4, t⟩
  else if 32 ≤ t.live.length ∨ top < t.next then ⟨0, 131, t⟩
  else ⟨t.next, 0, ⟨t.next + 1, msL t.live t.next (t.next, lsn, false, false)⟩⟩
def isOpen (x : Lv) : Bool := !x.2.2.1 && !x.2.2.2
def may (kind : Int) (x : Lv) : Bool := if kind = 4 then x.2.2.2 else if kind = 7 then !isOpen x else isOpen x
def thn (kind : Int) (x : Lv) : Lv := if kind = 5 then (x.1, x.2.1, true, x.2.2.2) else if kind = 6 then (x.1, x.2.1, x.2.2.1, true) else x
def upto (x : Lv) (lsn : Int) : Lv := (x.1, lsn, x.2.2.1, x.2.2.2)
structure NoteOut where
  e : Int
  t : Tab
def Tab.goes (t : Tab) (x : Lv) (lsn kind tx prev : Int) : NoteOut :=
  if prev ≠ x.2.1 ∨ lsn ≤ x.2.1 then ⟨4, t⟩
  else if may kind x = false then ⟨70, t⟩
  else ⟨0, ⟨t.next, if kind = 7 then mdL (msL t.live tx (upto (thn kind x) lsn)) tx else msL t.live tx (upto (thn kind x) lsn)⟩⟩
def Tab.note (t : Tab) (lsn kind tx prev : Int) : NoteOut :=
  if within lsn 1 top = false then ⟨4, t⟩
  else if kind = 2 ∨ kind = 8 then ⟨0, t⟩
  else if kind = 1 then (if tx ≠ t.next then ⟨130, t⟩ else ⟨(t.begin lsn).e, (t.begin lsn).t⟩)
  else if ¬ (3 ≤ kind ∧ kind ≤ 7) then ⟨70, t⟩
  else match mgL t.live tx with
    | none => ⟨130, t⟩
    | some x => t.goes x lsn kind tx prev
def Tab.list (t : Tab) : List Lv := (rising (keysOf t.live)).map fun k => (mgL t.live k).getD noLv

def sp37 : Spc := spcOf [.v kI, .v kI, .v kI] [] (G := InArg) (fun d => ⟨d.1.1, d.1.2.1, d.1.2.2.1⟩) (fun g => ((g.n, g.lo, g.hi, ()), ())) (fun _ => rfl) (fun x => .det [] [] (.bool (within x.n x.lo x.hi)) [] []) (own := false) (still := false)
structure NewArg where
  n : (Int)
def sp22 : Spc := spcOf [.v kI] [] (G := NewArg) (fun d => ⟨d.1.1⟩) (fun g => ((g.n, ()), ())) (fun _ => rfl) (fun x => .or
  (.any [] [] Unit (fun _ => within x.n 1 2147483648 = false) (fun _ => .tup [.nptr, i64 4]) (fun _ => []) (fun _ => []))
  (.any [] [] Unit (fun _ => within x.n 1 2147483648 = true) (fun _ => .tup [.ptr 0 0, i64 0]) (fun _ => []) (fun _ => [.cells [.map 1, i64 x.n], .mapo kI kL []]))) (own := false) (still := false)
structure BeginArg where
  t : Tab
  lsn : (Int)
def sp38 : Spc := spcOf [.p 0, .v kI] [.cells [.m 1, .v kI], .mapo kI kL] (G := BeginArg) (fun d => ⟨⟨d.2.1.2.1, d.2.2.1⟩, d.1.2.1⟩) (fun g => (((), g.lsn, ()), (((), g.t.next, ()), g.t.live, ()))) (fun _ => rfl) (fun x => .any [x.t.ok] [0, 1] BeginOut (fun o => o = x.t.begin x.lsn) (fun o => .tup [i64 o.n, i64 o.e]) (fun o => [.cells [.map 1, i64 o.t.next], .mapo kI kL o.t.live]) (fun _ => [])) (own := false) (still := false)
structure LvArg where
  x : (((Int)) × ((Int)) × (Bool) × (Bool))
def sp52 : Spc := spcOf [.v kL] [] (G := LvArg) (fun d => ⟨d.1.1⟩) (fun g => ((g.x, ()), ())) (fun _ => rfl) (fun x => .det [] [] (.bool (isOpen x.x)) [] []) (own := false) (still := false)
def sp54 : Spc := spcOf [.v kL] [] (G := LvArg) (fun d => ⟨d.1.1⟩) (fun g => ((g.x, ()), ())) (fun _ => rfl) (fun x => .det [] [] (.bool x.x.2.2.2) [] []) (own := false) (still := false)
def sp57 : Spc := spcOf [.v kL] [] (G := LvArg) (fun d => ⟨d.1.1⟩) (fun g => ((g.x, ()), ())) (fun _ => rfl) (fun x => .det [] [] (.bool (!isOpen x.x)) [] []) (own := false) (still := false)
structure LvAt where
  tx : (Int)
  last : (Int)
  c : Bool
  u : Bool
abbrev LvAt.at (r : LvAt) (n : Nat) : List Itm := [.cells (Ty.enc kI r.tx ++ Ty.enc kI r.last ++ Ty.enc .bool r.c ++ Ty.enc .bool r.u)]
structure LvP where
  p : LvAt
def sp53 : Spc := spcOf [.p 0] [.cells [.v kI, .v kI, .v .bool, .v .bool]] (G := LvP) (fun d => ⟨⟨d.2.1.1, d.2.1.2.1, d.2.1.2.2.1, d.2.1.2.2.2.1⟩⟩) (fun g => (((), ()), ((g.p.tx, g.p.last, g.p.c, g.p.u, ()), ()))) (fun _ => rfl) (fun x => .det [] [] (.tup []) [] []) (own := false) (still := false)
def sp55 : Spc := spcOf [.p 0] [.cells [.v kI, .v kI, .v .bool, .v .bool]] (G := LvP) (fun d => ⟨⟨d.2.1.1, d.2.1.2.1, d.2.1.2.2.1, d.2.1.2.2.2.1⟩⟩) (fun g => (((), ()), ((g.p.tx, g.p.last, g.p.c, g.p.u, ()), ()))) (fun _ => rfl) (fun x => .det [] [0] (.tup []) [.cells [i64 x.p.tx, i64 x.p.last, .bool true, .bool x.p.u]] []) (own := false) (still := false)
def sp56 : Spc := spcOf [.p 0] [.cells [.v kI, .v kI, .v .bool, .v .bool]] (G := LvP) (fun d => ⟨⟨d.2.1.1, d.2.1.2.1, d.2.1.2.2.1, d.2.1.2.2.2.1⟩⟩) (fun g => (((), ()), ((g.p.tx, g.p.last, g.p.c, g.p.u, ()), ()))) (fun _ => rfl) (fun x => .det [] [0] (.tup []) [.cells [i64 x.p.tx, i64 x.p.last, .bool x.p.c, .bool true]] []) (own := false) (still := false)
def mv (k : Int) (q : Int) (f g : FuncId) : Con := .any [] [] Unit (fun _ => k = q) (fun _ => .tup [.agg [.fn f [], .fn g []], .tt]) (fun _ => []) (fun _ => [])
structure Num where
  k : (Int)
def sp39 : Spc := spcOf [.v kI] [] (G := Num) (fun d => ⟨d.1.1⟩) (fun g => ((g.k, ()), ())) (fun _ => rfl) (fun x => .or (mv x.k 3 52 53) (.or (mv x.k 4 54 53) (.or (mv x.k 5 52 55) (.or (mv x.k 6 52 56) (.or (mv x.k 7 57 53) (.any [] [] Unit (fun _ => ¬ (3 ≤ x.k ∧ x.k ≤ 7)) (fun _ => .tup [.agg [.nfn, .nfn], .ff]) (fun _ => []) (fun _ => []))))))) (own := false) (still := false)
structure NoteArg where
  t : Tab
  r : (((Int)) × ((Int)) × ((Int)) × ((Int)) × ((((Int)) × ((Int)))) × ((((Int)) × ((Int)))) × ((Int)) × ((((Int)) × ((Int)) × (((Int)) × ((Int))) × ((Int)))) × (((List ((((Int)) × ((Int)) × (Bool) × (Bool)))) × (List ((((Int)) × ((Int))))) × ((Int)))))
def sp24 : Spc := spcOf [.p 0, .v kR] [.cells [.m 1, .v kI], .mapo kI kL] (G := NoteArg) (fun d => ⟨⟨d.2.1.2.1, d.2.2.1⟩, d.1.2.1⟩) (fun g => (((), g.r, ()), (((), g.t.next, ()), g.t.live, ()))) (fun _ => rfl) (fun x => .any [x.t.ok] [0, 1] NoteOut (fun o => o = x.t.note x.r.1 x.r.2.1 x.r.2.2.1 x.r.2.2.2.1) (fun o => i64 o.e) (fun o => [.cells [.map 1, i64 o.t.next], .mapo kI kL o.t.live]) (fun _ => [])) (lends := true) (lendsOk := by intro _ g; simp only [Con.ownedAll]; (repeat' apply And.intro) <;> first | rfl | (intro _; rfl)) (own := false) (still := false)
structure TabOnly where
  t : Tab
def sp26 : Spc := spcOf [.p 0] [.cells [.m 1, .v kI], .mapo kI kL] (G := TabOnly) (fun d => ⟨⟨d.2.1.2.1, d.2.2.1⟩⟩) (fun g => (((), ()), (((), g.t.next, ()), g.t.live, ()))) (fun _ => rfl) (fun x => .det [] [] (i64 x.t.next) [] []) (own := false) (still := false)
structure GetOut where
  x : Lv
  e : Int
def Tab.get (t : Tab) (tx : Int) : GetOut := match mgL t.live tx with
  | none => ⟨noLv, 130⟩
  | some x => ⟨x, 0⟩
/-- maps.Keys: a function that holds the map. -/
def sp41 : Spc := spcOf [.m 0] [.mapo kI kL] (G := List (Int × Lv)) (fun d => d.2.1) (fun g => (((), ()), (g, ()))) (fun _ => rfl) (fun _ => .det [] [] (.fn 60 [.ptr 1 0]) [] [.cells [.map 0]])
/-- slices.Sorted of what maps.Keys gives. -/
def sp40 : Spc where
  G := List (Int × Lv)
  args _ := [.fn 60 [.ptr 0 0]]
  heap E := [.cells [.map 1], .mapo kI kL E]
  find a h := match a, h with
    | [.fn 60 [.ptr 0 0]], [.cells [.map 1], .mapo (.int .i64) (.pair (.int .i64) (.pair (.int .i64) (.pair .bool .bool))) E] => some E
    | _, _ => none
  ok := by intro a h g hh; split at hh <;> simp at hh; subst hh; exact ⟨.refl _, .refl _⟩
  con E := .det [E.length * 8 ≤ 140737488355328] [] (.sl 2) [] [.arr 3 kI (rising (keysOf E))]
  own := false
def sp25 : Spc := spcOf [.p 0] [.cells [.m 1, .v kI], .mapo kI kL] (G := TabOnly) (fun d => ⟨⟨d.2.1.2.1, d.2.2.1⟩⟩) (fun g => (((), ()), (((), g.t.next, ()), g.t.live, ()))) (fun _ => rfl) (fun x => .det [x.t.ok] [] (.sl 2) [] [.arr 67 kL x.t.list]) (own := false) (still := false)
structure LsAt where
  i : Nat
def ann25 (x : TabOnly) : Ann where
  loop id := match id with
    | 3 => inv0 { T := LsAt, ok := fun y => y.i ≤ x.t.live.length, ms := fun y => x.t.live.length - y.i, tk := [13, 3], tm := fun y => [i64 y.i, .sl 900], hk := [900], hp := fun y => [.arr 67 kL (x.t.list.take y.i)], mat := [(3, 900, 67, kL)] }
    | _ => none
  cut _ := none
  loose _ := []
/-- By the rest. -/
def rs (n m : Int) : Int := n % m
structure Nm where
  n : Int
  m : Int
def lifeNext (x : Lv) (k : Int) : Int := if x.2.2.1 then 7 else if x.2.2.2 then [4, 4, 7].getD (rs k 3).toNat 0 else [3, 3, 3, 5, 6].getD (rs k 5).toNat 0
def lifeWrong (x : Lv) (k : Int) : Int := if x.2.2.1 then [3, 4, 5, 6].getD (rs k 4).toNat 0 else if x.2.2.2 then [3, 5, 6].getD (rs k 3).toNat 0 else [4, 7].getD (rs k 2).toNat 0
/-- The records of lives, as a table's entries. -/
def ents (l : List Lv) : List (Int × Lv) := l.map fun x => (x.1, x)
def Up (l : List Lv) : Prop := l.Pairwise fun a b => a.1 < b.1
/-- May these be loaded? -/
def goodL (next : Int) : Int → List Lv → Prop
  | _, [] => True
  | last, x :: l => last < x.1 ∧ x.1 < next ∧ 1 ≤ x.2.1 ∧ x.2.1 ≤ top ∧ ¬ (x.2.2.1 = true ∧ x.2.2.2 = true) ∧ goodL next x.1 l
structure Pts where
  live : List Lv
  dirty : List (Int × Int)
  next : Int
def LoadOk (p : List Lv × List (Int × Int) × Int) : Prop := within p.2.2 1 2147483648 = true ∧ p.1.length ≤ 32 ∧ goodL p.2.2 0 p.1
structure LoadArg where
  p : ((List ((((Int)) × ((Int)) × (Bool) × (Bool)))) × (List ((((Int)) × ((Int))))) × ((Int)))
def sp23 : Spc := spcOf [.v kP] [] (G := LoadArg) (fun d => ⟨d.1.1⟩) (fun g => ((g.p, ()), ())) (fun _ => rfl) (fun x => .or
  (.any [] [] Unit (fun _ => ¬ LoadOk x.p) (fun _ => .tup [.nptr, i64 23]) (fun _ => []) (fun _ => []))
  (.any [] [] Unit (fun _ => LoadOk x.p) (fun _ => .tup [.ptr 0 0, i64 0]) (fun _ => []) (fun _ => [.cells [.map 1, i64 x.p.2.2], .mapo kI kL (ents x.p.1)]))) (lends := true) (lendsOk := by intro _ g; simp only [Con.ownedAll]; (repeat' apply And.intro) <;> first | rfl | (intro _; rfl)) (own := false) (still := false)
def lastF : Int → List Lv → Int
  | a, [] => a
  | _, x :: l => lastF x.1 l
def lastOf (l : List Lv) : Int := lastF 0 l
structure LdAt where
  i : Nat
  last : Int
def ann23 (x : LoadArg) : Ann where
  loop id := match id with
    | 6 => inv0 { T := LdAt, ok := fun y => y.i ≤ x.p.1.length ∧ y.last = lastOf (x.p.1.take y.i) ∧ goodL x.p.2.2 0 (x.p.1.take y.i), ms := fun y => x.p.1.length - y.i, tk := [26, 6], tm := fun y => [i64 y.i, i64 y.last], hk := [pl 12 1], hp := fun y => [.mapo kI kL (ents (x.p.1.take y.i))], mat := [] }
    | _ => none
  cut _ := none
  loose _ := []

end Go.Proofs.Ytncecddhknfimaa.VC

