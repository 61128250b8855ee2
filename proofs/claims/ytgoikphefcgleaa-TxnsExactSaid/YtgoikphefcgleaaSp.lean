/- What is said of the transactions' functions, and of the document's. Definitions alone; no conditions. -/
import Derived.Test.YtgoikphefcgleaaPp
import Derived.Test.YtgoikphefcgleaaIx
import Derived.Test.YtgoikphefcgleaaKs
set_option linter.unusedVariables false
namespace Go.Proofs.Ytgoikphefcgleaa.VC
open Go
abbrev Lv : Type := Int × Int × Bool × Bool
abbrev Ctr : Type := Int × Int × (Int × Int) × Int
abbrev Pt : Type := List Lv × List (Int × Int) × Int
abbrev Rc : Type := Int × Int × Int × Int × (Int × Int) × (Int × Int) × Int × Ctr × Pt
abbrev lv (x : Lv) : AV := .agg [i64 x.1, i64 x.2.1, .bool x.2.2.1, .bool x.2.2.2]
def noLv : Lv := (0, 0, false, false)
abbrev top : Int := 2147483647
def within (n lo hi : Int) : Bool := decide (lo ≤ n) && decide (n ≤ hi)
abbrev kI : Ty := .int .i64
abbrev kS : Ty := (.pair kI kI)
abbrev kC : Ty := (.pair kI (.pair kI (.pair (.pair kI kI) kI)))
abbrev kL : Ty := (.pair kI (.pair kI (.pair .bool .bool)))
abbrev kD : Ty := (.pair kI kI)
abbrev kP : Ty := (.pair (.slice kL) (.pair (.slice kD) kI))
abbrev kR : Ty := (.pair kI (.pair kI (.pair kI (.pair kI (.pair kS (.pair kS (.pair kI (.pair kC kP))))))))
structure Tab where
  next : (Int)
  live : List (((Int)) × ((((Int)) × ((Int)) × (Bool) × (Bool))))
abbrev Tab.at (r : Tab) (n : Nat) : List Itm := [.cells ([.map (n + 1)] ++ Ty.enc kI r.next), .mapo kI kL r.live]
def mgL (E : List (Int × Lv)) (c : Int) : Option Lv := mgetT kI kL E c
def msL (E : List (Int × Lv)) (c : Int) (x : Lv) : List (Int × Lv) := msetT kI kL E c x
def mdL (E : List (Int × Lv)) (c : Int) : List (Int × Lv) := mdelT kI kL E c
def Tab.ok (t : Tab) : Prop := t.live.length ≤ 32 ∧ 1 ≤ t.next ∧ t.next ≤ top + 1

structure BeginOut where
  n : Int
  e : Int
  t : Tab
def Tab.begin (t : Tab) (lsn : Int) : BeginOut :=
  if within lsn 1 top = false then ⟨0, 4, t⟩
  else if 32 ≤ t.live.length ∨ top < t.next then ⟨0, 131, t⟩
  else ⟨t.next, 0, ⟨t.next + 1, msL t.live t.next (t.next, lsn, false, false)⟩⟩
def isOpen (x : Lv) : Bool := !x.2.2.1 && !x.2.2.2
def may (kind : Int) (x : Lv) : Bool := if kind = 4 then x.2.2.2 else if kind = 7 then !isOpen x else isOpen x
def thn (kind : Int) (x : Lv) : Lv := if kind = 5 then (x.1, x.2.1, true, x.2.2.2) else if kind = 6 then (x.1, x.2.1, x.2.2.1, true) else x
def upto (x : Lv) (lsn : Int) : Lv := (x.1, lsn, x.2.2.1, x.2.2.2)
structure NoteOut where
  e : Int
  t : Tab
def Tab.goes (t : Tab) (x : Lv) (lsn kind tx prev : Int) : NoteOut :=
  if prev ≠ x.2.1 ∨ lsn ≤ x.2.1 then ⟨4, t⟩
  else if may kind x = false then ⟨70, t⟩
  else ⟨0, ⟨t.next, if kind = 7 then mdL (msL t.live tx (upto (thn kind x) lsn)) tx else msL t.live tx (upto (thn kind x) lsn)⟩⟩
def Tab.note (t : Tab) (lsn kind tx prev : Int) : NoteOut :=
  if within lsn 1 top = false then ⟨4, t⟩
  else if kind = 2 ∨ kind = 8 then ⟨0, t⟩
  else if kind = 1 then (if tx ≠ t.next then ⟨130, t⟩ else ⟨(t.begin lsn).e, (t.begin lsn).t⟩)
  else if ¬ (3 ≤ kind ∧ kind ≤ 7) then ⟨70, t⟩
  else match mgL t.live tx with
    | none => ⟨130, t⟩
    | some x => t.goes x lsn kind tx prev
def Tab.list (t : Tab) : List Lv := (rising (keysOf t.live)).map fun k => (mgL t.live k).getD noLv

structure InArg where
  n : (Int)
  lo : (Int)
  hi : (Int)
def sp24 : Spc := spcOf [.v kI, .v kI, .v kI] [] (G := InArg) (fun d => ⟨d.1.1, d.1.2.1, d.1.2.2.1⟩) (fun g => ((g.n, g.lo, g.hi, ()), ())) (fun _ => rfl) (fun x => .det [] [] (.bool (within x.n x.lo x.hi)) [] []) (own := false) (still := false)
structure NewArg where
  n : (Int)
def sp7 : Spc := spcOf [.v kI] [] (G := NewArg) (fun d => ⟨d.1.1⟩) (fun g => ((g.n, ()), ())) (fun _ => rfl) (fun x => .or
  (.any [] [] Unit (fun _ => within x.n 1 2147483648 = false) (fun _ => .tup [.nptr, i64 4]) (fun _ => []) (fun _ => []))
  (.any [] [] Unit (fun _ => within x.n 1 2147483648 = true) (fun _ => .tup [.ptr 0 0, i64 0]) (fun _ => []) (fun _ => [.cells [.map 1, i64 x.n], .mapo kI kL []]))) (own := false) (still := false)
structure BeginArg where
  t : Tab
  lsn : (Int)
def sp14 : Spc := spcOf [.p 0, .v kI] [.cells [.m 1, .v kI], .mapo kI kL] (G := BeginArg) (fun d => ⟨⟨d.2.1.2.1, d.2.2.1⟩, d.1.2.1⟩) (fun g => (((), g.lsn, ()), (((), g.t.next, ()), g.t.live, ()))) (fun _ => rfl) (fun x => .any [x.t.ok] [0, 1] BeginOut (fun o => o = x.t.begin x.lsn) (fun o => .tup [i64 o.n, i64 o.e]) (fun o => [.cells [.map 1, i64 o.t.next], .mapo kI kL o.t.live]) (fun _ => [])) (own := false) (still := false)
structure LvArg where
  x : (((Int)) × ((Int)) × (Bool) × (Bool))
def sp42 : Spc := spcOf [.v kL] [] (G := LvArg) (fun d => ⟨d.1.1⟩) (fun g => ((g.x, ()), ())) (fun _ => rfl) (fun x => .det [] [] (.bool (isOpen x.x)) [] []) (own := false) (still := false)
def sp44 : Spc := spcOf [.v kL] [] (G := LvArg) (fun d => ⟨d.1.1⟩) (fun g => ((g.x, ()), ())) (fun _ => rfl) (fun x => .det [] [] (.bool x.x.2.2.2) [] []) (own := false) (still := false)
def sp47 : Spc := spcOf [.v kL] [] (G := LvArg) (fun d => ⟨d.1.1⟩) (fun g => ((g.x, ()), ())) (fun _ => rfl) (fun x => .det [] [] (.bool (!isOpen x.x)) [] []) (own := false) (still := false)
structure LvAt where
  tx : (Int)
  last : (Int)
  c : Bool
  u : Bool
abbrev LvAt.at (r : LvAt) (n : Nat) : List Itm := [.cells (Ty.enc kI r.tx ++ Ty.enc kI r.last ++ Ty.enc .bool r.c ++ Ty.enc .bool r.u)]
structure LvP where
  p : LvAt
def sp43 : Spc := spcOf [.p 0] [.cells [.v kI, .v kI, .v .bool, .v .bool]] (G := LvP) (fun d => ⟨⟨d.2.1.1, d.2.1.2.1, d.2.1.2.2.1, d.2.1.2.2.2.1⟩⟩) (fun g => (((), ()), ((g.p.tx, g.p.last, g.p.c, g.p.u, ()), ()))) (fun _ => rfl) (fun x => .det [] [] (.tup []) [] []) (own := false) (still := false)
def sp45 : Spc := spcOf [.p 0] [.cells [.v kI, .v kI, .v .bool, .v .bool]] (G := LvP) (fun d => ⟨⟨d.2.1.1, d.2.1.2.1, d.2.1.2.2.1, d.2.1.2.2.2.1⟩⟩) (fun g => (((), ()), ((g.p.tx, g.p.last, g.p.c, g.p.u, ()), ()))) (fun _ => rfl) (fun x => .det [] [0] (.tup []) [.cells [i64 x.p.tx, i64 x.p.last, .bool true, .bool x.p.u]] []) (own := false) (still := false)
def sp46 : Spc := spcOf [.p 0] [.cells [.v kI, .v kI, .v .bool, .v .bool]] (G := LvP) (fun d => ⟨⟨d.2.1.1, d.2.1.2.1, d.2.1.2.2.1, d.2.1.2.2.2.1⟩⟩) (fun g => (((), ()), ((g.p.tx, g.p.last, g.p.c, g.p.u, ()), ()))) (fun _ => rfl) (fun x => .det [] [0] (.tup []) [.cells [i64 x.p.tx, i64 x.p.last, .bool x.p.c, .bool true]] []) (own := false) (still := false)
def mv (k : Int) (q : Int) (f g : FuncId) : Con := .any [] [] Unit (fun _ => k = q) (fun _ => .tup [.agg [.fn f [], .fn g []], .tt]) (fun _ => []) (fun _ => [])
structure Num where
  k : (Int)
def sp30 : Spc := spcOf [.v kI] [] (G := Num) (fun d => ⟨d.1.1⟩) (fun g => ((g.k, ()), ())) (fun _ => rfl) (fun x => .or (mv x.k 3 42 43) (.or (mv x.k 4 44 43) (.or (mv x.k 5 42 45) (.or (mv x.k 6 42 46) (.or (mv x.k 7 47 43) (.any [] [] Unit (fun _ => ¬ (3 ≤ x.k ∧ x.k ≤ 7)) (fun _ => .tup [.agg [.nfn, .nfn], .ff]) (fun _ => []) (fun _ => []))))))) (own := false) (still := false)
structure NoteArg where
  t : Tab
  r : (((Int)) × ((Int)) × ((Int)) × ((Int)) × ((((Int)) × ((Int)))) × ((((Int)) × ((Int)))) × ((Int)) × ((((Int)) × ((Int)) × (((Int)) × ((Int))) × ((Int)))) × (((List ((((Int)) × ((Int)) × (Bool) × (Bool)))) × (List ((((Int)) × ((Int))))) × ((Int)))))
def sp15 : Spc := spcOf [.p 0, .v kR] [.cells [.m 1, .v kI], .mapo kI kL] (G := NoteArg) (fun d => ⟨⟨d.2.1.2.1, d.2.2.1⟩, d.1.2.1⟩) (fun g => (((), g.r, ()), (((), g.t.next, ()), g.t.live, ()))) (fun _ => rfl) (fun x => .any [x.t.ok] [0, 1] NoteOut (fun o => o = x.t.note x.r.1 x.r.2.1 x.r.2.2.1 x.r.2.2.2.1) (fun o => i64 o.e) (fun o => [.cells [.map 1, i64 o.t.next], .mapo kI kL o.t.live]) (fun _ => [])) (lends := true) (lendsOk := by intro _ g; simp only [Con.ownedAll]; (repeat' apply And.intro) <;> first | rfl | (intro _; rfl)) (own := false) (still := false)
structure TabOnly where
  t : Tab
def sp20 : Spc := spcOf [.p 0] [.cells [.m 1, .v kI], .mapo kI kL] (G := TabOnly) (fun d => ⟨⟨d.2.1.2.1, d.2.2.1⟩⟩) (fun g => (((), ()), (((), g.t.next, ()), g.t.live, ()))) (fun _ => rfl) (fun x => .det [] [] (i64 x.t.next) [] []) (own := false) (still := false)
structure GetOut where
  x : Lv
  e : Int
def Tab.get (t : Tab) (tx : Int) : GetOut := match mgL t.live tx with
  | none => ⟨noLv, 130⟩
  | some x => ⟨x, 0⟩
/-- maps.Keys: a function that holds the map. -/
def sp33 : Spc := spcOf [.m 0] [.mapo kI kL] (G := List (Int × Lv)) (fun d => d.2.1) (fun g => (((), ()), (g, ()))) (fun _ => rfl) (fun _ => .det [] [] (.fn 50 [.ptr 1 0]) [] [.cells [.map 0]])
/-- slices.Sorted of what maps.Keys gives. -/
def sp32 : Spc where
  G := List (Int × Lv)
  args _ := [.fn 50 [.ptr 0 0]]
  heap E := [.cells [.map 1], .mapo kI kL E]
  find a h := match a, h with
    | [.fn 50 [.ptr 0 0]], [.cells [.map 1], .mapo (.int .i64) (.pair (.int .i64) (.pair (.int .i64) (.pair .bool .bool))) E] => some E
    | _, _ => none
  ok := by intro a h g hh; split at hh <;> simp at hh; subst hh; exact ⟨.refl _, .refl _⟩
  con E := .det [E.length * 8 ≤ 140737488355328] [] (.sl 2) [] [.arr 3 kI (rising (keysOf E))]
  own := false
def sp19 : Spc := spcOf [.p 0] [.cells [.m 1, .v kI], .mapo kI kL] (G := TabOnly) (fun d => ⟨⟨d.2.1.2.1, d.2.2.1⟩⟩) (fun g => (((), ()), (((), g.t.next, ()), g.t.live, ()))) (fun _ => rfl) (fun x => .det [x.t.ok] [] (.sl 2) [] [.arr 73 kL x.t.list]) (own := false) (still := false)
structure LsAt where
  i : Nat
def ann19 (x : TabOnly) : Ann where
  loop id := match id with
    | 3 => inv0 { T := LsAt, ok := fun y => y.i ≤ x.t.live.length, ms := fun y => x.t.live.length - y.i, tk := [13, 3], tm := fun y => [i64 y.i, .sl 900], hk := [900], hp := fun y => [.arr 73 kL (x.t.list.take y.i)], mat := [(3, 900, 73, kL)] }
    | _ => none
  cut _ := none
  loose _ := []
/-- By the rest. -/
def rs (n m : Int) : Int := n % m
structure Nm where
  n : Int
  m : Int
def lifeNext (x : Lv) (k : Int) : Int := if x.2.2.1 then 7 else if x.2.2.2 then [4, 4, 7].getD (rs k 3).toNat 0 else [3, 3, 3, 5, 6].getD (rs k 5).toNat 0
def lifeWrong (x : Lv) (k : Int) : Int := if x.2.2.1 then [3, 4, 5, 6].getD (rs k 4).toNat 0 else if x.2.2.2 then [3, 5, 6].getD (rs k 3).toNat 0 else [4, 7].getD (rs k 2).toNat 0
/-- The records of lives, as a table's entries. -/
def ents (l : List Lv) : List (Int × Lv) := l.map fun x => (x.1, x)
def Up (l : List Lv) : Prop := l.Pairwise fun a b => a.1 < b.1
/-- May these be loaded? -/
def goodL (next : Int) : Int → List Lv → Prop
  | _, [] => True
  | last, x :: l => last < x.1 ∧ x.1 < next ∧ 1 ≤ x.2.1 ∧ x.2.1 ≤ top ∧ ¬ (x.2.2.1 = true ∧ x.2.2.2 = true) ∧ goodL next x.1 l
structure Pts where
  live : List Lv
  dirty : List (Int × Int)
  next : Int
def LoadOk (p : List Lv × List (Int × Int) × Int) : Prop := within p.2.2 1 2147483648 = true ∧ p.1.length ≤ 32 ∧ goodL p.2.2 0 p.1
structure LoadArg where
  p : ((List ((((Int)) × ((Int)) × (Bool) × (Bool)))) × (List ((((Int)) × ((Int))))) × ((Int)))
def sp21 : Spc := spcOf [.v kP] [] (G := LoadArg) (fun d => ⟨d.1.1⟩) (fun g => ((g.p, ()), ())) (fun _ => rfl) (fun x => .or
  (.any [] [] Unit (fun _ => ¬ LoadOk x.p) (fun _ => .tup [.nptr, i64 23]) (fun _ => []) (fun _ => []))
  (.any [] [] Unit (fun _ => LoadOk x.p) (fun _ => .tup [.ptr 0 0, i64 0]) (fun _ => []) (fun _ => [.cells [.map 1, i64 x.p.2.2], .mapo kI kL (ents x.p.1)]))) (lends := true) (lendsOk := by intro _ g; simp only [Con.ownedAll]; (repeat' apply And.intro) <;> first | rfl | (intro _; rfl)) (own := false) (still := false)
def lastF : Int → List Lv → Int
  | a, [] => a
  | _, x :: l => lastF x.1 l
def lastOf (l : List Lv) : Int := lastF 0 l
structure LdAt where
  i : Nat
  last : Int
def ann21 (x : LoadArg) : Ann where
  loop id := match id with
    | 6 => inv0 { T := LdAt, ok := fun y => y.i ≤ x.p.1.length ∧ y.last = lastOf (x.p.1.take y.i) ∧ goodL x.p.2.2 0 (x.p.1.take y.i), ms := fun y => x.p.1.length - y.i, tk := [26, 6], tm := fun y => [i64 y.i, i64 y.last], hk := [pl 12 1], hp := fun y => [.mapo kI kL (ents (x.p.1.take y.i))], mat := [] }
    | _ => none
  cut _ := none
  loose _ := []

structure GetArg where
  t : Tab
  tx : (Int)
def sp23 : Spc := spcOf [.p 0, .v kI] [.cells [.m 1, .v kI], .mapo kI kL] (G := GetArg) (fun d => ⟨⟨d.2.1.2.1, d.2.2.1⟩, d.1.2.1⟩) (fun g => (((), g.tx, ()), (((), g.t.next, ()), g.t.live, ()))) (fun _ => rfl) (fun x => .any [] [] GetOut (fun o => o = x.t.get x.tx) (fun o => .tup [lv o.x, i64 o.e]) (fun _ => []) (fun _ => [])) (own := false) (still := false)
def sp12 : Spc := spcOf [.v kI] [] (G := Num) (fun d => ⟨d.1.1⟩) (fun g => ((g.k, ()), ())) (fun _ => rfl) (fun x => .det [] [] (i64 x.k) [] []) (own := false) (still := false)
structure TwoL where
  a : List ((((Int)) × ((Int)) × (Bool) × (Bool)))
  b : List ((((Int)) × ((Int)) × (Bool) × (Bool)))
def sp22 : Spc := spcOf [.v (.slice kL), .v (.slice kL)] [] (G := TwoL) (fun d => ⟨d.1.1, d.1.2.1⟩) (fun g => ((g.a, g.b, ()), ())) (fun _ => rfl) (fun x => .det [] [] (.bool (decide (x.a = x.b))) [] []) (own := false) (still := false)
structure At where
  i : Nat
def ann22 (x : TwoL) : Ann where
  loop id := match id with
    | 4 => inv0 { T := At, ok := fun y => y.i ≤ x.a.length ∧ x.a.length = x.b.length ∧ x.a.take y.i = x.b.take y.i, ms := fun y => x.a.length - y.i, tk := [5], tm := fun y => [i64 y.i], hk := [], hp := fun _ => [], mat := [] }
    | _ => none
  cut _ := none
  loose _ := []
structure RefT where
  next : (Int)
  L : List ((((Int)) × ((Int)) × (Bool) × (Bool)))
abbrev RefT.at (r : RefT) (n : Nat) : List Itm := [.cells ([.sl (n + 1)] ++ Ty.enc kI r.next), .arr 73 kL r.L]
abbrev refC (t : RefT) (n : Nat) : List Itm := [.cells [.sl n, i64 t.next], .arr 73 kL t.L]
structure RBeginOut where
  n : Int
  e : Int
  t : RefT
def RefT.ok (t : RefT) : Prop := t.L.length ≤ 32 ∧ 1 ≤ t.next ∧ t.next ≤ top + 1
def RefT.begin (t : RefT) (lsn : Int) : RBeginOut :=
  if within lsn 1 top = false then ⟨0, 4, t⟩
  else if 32 ≤ t.L.length ∨ top < t.next then ⟨0, 131, t⟩
  else ⟨t.next, 0, ⟨t.next + 1, t.L ++ [(t.next, lsn, false, false)]⟩⟩
def RefT.place (t : RefT) (tx : Int) : Int := idxI (t.L.map (·.1)) tx
def RefT.get (t : RefT) (tx : Int) : GetOut := if t.place tx < 0 then ⟨noLv, 130⟩ else ⟨t.L.getD (t.place tx).toNat noLv, 0⟩
structure RNoteOut where
  e : Int
  t : RefT
def RefT.goes (t : RefT) (lsn kind tx prev : Int) : RNoteOut :=
  if t.place tx < 0 then ⟨130, t⟩
  else if prev ≠ (t.L.getD (t.place tx).toNat noLv).2.1 ∨ lsn ≤ (t.L.getD (t.place tx).toNat noLv).2.1 then ⟨4, t⟩
  else if may kind (t.L.getD (t.place tx).toNat noLv) = false then ⟨70, t⟩
  else ⟨0, ⟨t.next, t.L.take (t.place tx).toNat ++ (if kind = 7 then [] else [upto (thn kind (t.L.getD (t.place tx).toNat noLv)) lsn]) ++ t.L.drop ((t.place tx).toNat + 1)⟩⟩
def RefT.note (t : RefT) (lsn kind tx prev : Int) : RNoteOut :=
  if within lsn 1 top = false then ⟨4, t⟩
  else if kind = 2 ∨ kind = 8 then ⟨0, t⟩
  else if kind = 1 then (if tx ≠ t.next then ⟨130, t⟩ else ⟨(t.begin lsn).e, (t.begin lsn).t⟩)
  else if ¬ (3 ≤ kind ∧ kind ≤ 7) then ⟨70, t⟩
  else t.goes lsn kind tx prev
def sp56 : Spc := spcOf [.v kI, .v kI, .v kI] [] (G := InArg) (fun d => ⟨d.1.1, d.1.2.1, d.1.2.2.1⟩) (fun g => ((g.n, g.lo, g.hi, ()), ())) (fun _ => rfl) (fun x => .det [] [] (.bool (within x.n x.lo x.hi)) [] []) (own := false) (still := false)
def live5 (l : List Lv) (next : Int) : Prop := l.length ≤ 32 ∧ goodL next 0 l
structure L5Arg where
  l : List ((((Int)) × ((Int)) × (Bool) × (Bool)))
  next : (Int)
def sp51 : Spc := spcOf [.v (.slice kL), .v kI] [] (G := L5Arg) (fun d => ⟨d.1.1, d.1.2.1⟩) (fun g => ((g.l, g.next, ()), ())) (fun _ => rfl) (fun x => .or (.any [x.next ≤ 2147483648] [] Unit (fun _ => live5 x.l x.next) (fun _ => .tt) (fun _ => []) (fun _ => [])) (.any [x.next ≤ 2147483648] [] Unit (fun _ => ¬ live5 x.l x.next) (fun _ => .ff) (fun _ => []) (fun _ => []))) (own := false) (still := false)
def ann51 (x : L5Arg) : Ann where
  loop id := match id with
    | 4 => inv0 { T := At, ok := fun y => y.i ≤ x.l.length ∧ goodL x.next 0 (x.l.take y.i), ms := fun y => x.l.length - y.i, tk := [5], tm := fun y => [i64 y.i], hk := [], hp := fun _ => [], mat := [] }
    | _ => none
  cut _ := none
  loose _ := []
def sp8 : Spc := spcOf [.v kI] [] (G := Num) (fun d => ⟨d.1.1⟩) (fun g => ((g.k, ()), ())) (fun _ => rfl) (fun x => .or
  (.any [] [] Unit (fun _ => within x.k 1 2147483648 = false) (fun _ => .tup [.nptr, i64 4]) (fun _ => []) (fun _ => []))
  (.any [] [] Unit (fun _ => within x.k 1 2147483648 = true) (fun _ => .tup [.ptr 0 0, i64 0]) (fun _ => []) (fun _ => refC ⟨x.k, []⟩ 1))) (own := false) (still := false)
def ann8 (x : Num) : Ann where
  loop _ := none
  cut _ := none
  loose _ := []
  fin := [.nc (pl 12 0) 0 901 73 kL]
def sp35 : Spc := spcOf [.v kP] [] (G := LoadArg) (fun d => ⟨d.1.1⟩) (fun g => ((g.p, ()), ())) (fun _ => rfl) (fun x => .or
  (.any [] [] Unit (fun _ => ¬ LoadOk x.p) (fun _ => .tup [.nptr, i64 23]) (fun _ => []) (fun _ => []))
  (.any [] [] Unit (fun _ => LoadOk x.p) (fun _ => .tup [.ptr 0 0, i64 0]) (fun _ => []) (fun _ => refC ⟨x.p.2.2, x.p.1⟩ 1))) (lends := true) (lendsOk := by intro _ g; simp only [Con.ownedAll]; (repeat' apply And.intro) <;> first | rfl | (intro _; rfl)) (own := false) (still := false)
structure RefOnly where
  t : RefT
def sp38 : Spc := spcOf [.p 0] [.cells [.s 1, .v kI], .arr 73 kL] (G := RefOnly) (fun d => ⟨⟨d.2.1.2.1, d.2.2.1⟩⟩) (fun g => (((), ()), (((), g.t.next, ()), g.t.L, ()))) (fun _ => rfl) (fun x => .det [] [] (i64 x.t.next) [] []) (own := false) (still := false)
def sp37 : Spc := spcOf [.p 0] [.cells [.s 1, .v kI], .arr 73 kL] (G := RefOnly) (fun d => ⟨⟨d.2.1.2.1, d.2.2.1⟩⟩) (fun g => (((), ()), (((), g.t.next, ()), g.t.L, ()))) (fun _ => rfl) (fun x => .det [x.t.L.length ≤ 32] [] (.sl 2) [] [.arr 73 kL x.t.L]) (own := false) (still := false)
structure RefInt where
  t : RefT
  k : (Int)
def sp40 : Spc := spcOf [.p 0, .v kI] [.cells [.s 1, .v kI], .arr 73 kL] (G := RefInt) (fun d => ⟨⟨d.2.1.2.1, d.2.2.1⟩, d.1.2.1⟩) (fun g => (((), g.k, ()), (((), g.t.next, ()), g.t.L, ()))) (fun _ => rfl) (fun x => .any [] [] Int (fun o => o = x.t.place x.k) i64 (fun _ => []) (fun _ => [])) (own := false) (still := false)
def ann40 (x : RefInt) : Ann where
  loop id := match id with
    | 2 => inv0 { T := At, ok := fun y => y.i ≤ x.t.L.length ∧ ∀ p ∈ x.t.L.take y.i, p.1 ≠ x.k, ms := fun y => x.t.L.length - y.i, tk := [5], tm := fun y => [i64 y.i], hk := [], hp := fun _ => [], mat := [] }
    | _ => none
  cut _ := none
  loose _ := []
def sp28 : Spc := spcOf [.p 0, .v kI] [.cells [.s 1, .v kI], .arr 73 kL] (G := RefInt) (fun d => ⟨⟨d.2.1.2.1, d.2.2.1⟩, d.1.2.1⟩) (fun g => (((), g.k, ()), (((), g.t.next, ()), g.t.L, ()))) (fun _ => rfl) (fun x => .any [] [] GetOut (fun o => o = x.t.get x.k) (fun o => .tup [lv o.x, i64 o.e]) (fun _ => []) (fun _ => [])) (own := false) (still := false)
def sp27 : Spc := spcOf [.p 0, .v kI] [.cells [.s 1, .v kI], .arr 73 kL] (G := RefInt) (fun d => ⟨⟨d.2.1.2.1, d.2.2.1⟩, d.1.2.1⟩) (fun g => (((), g.k, ()), (((), g.t.next, ()), g.t.L, ()))) (fun _ => rfl) (fun x => .any [x.t.ok] [0, 1] RBeginOut (fun o => o = x.t.begin x.k) (fun o => .tup [i64 o.n, i64 o.e]) (fun o => refC o.t 1) (fun _ => [])) (own := false) (still := false)
def ann27 (x : RefInt) : Ann where
  loop _ := none
  cut _ := none
  loose id := match id with
    | 5 => [0, 1]
    | _ => []
structure RefRec where
  t : RefT
  r : (((Int)) × ((Int)) × ((Int)) × ((Int)) × ((((Int)) × ((Int)))) × ((((Int)) × ((Int)))) × ((Int)) × ((((Int)) × ((Int)) × (((Int)) × ((Int))) × ((Int)))) × (((List ((((Int)) × ((Int)) × (Bool) × (Bool)))) × (List ((((Int)) × ((Int))))) × ((Int)))))
def sp52 : Spc := spcOf [.p 0, .v kR] [.cells [.s 1, .v kI], .arr 73 kL] (G := RefRec) (fun d => ⟨⟨d.2.1.2.1, d.2.2.1⟩, d.1.2.1⟩) (fun g => (((), g.r, ()), (((), g.t.next, ()), g.t.L, ()))) (fun _ => rfl) (fun x => .any [x.t.ok, 3 ≤ x.r.2.1, x.r.2.1 ≤ 7] [0, 1] RNoteOut (fun o => o = x.t.goes x.r.1 x.r.2.1 x.r.2.2.1 x.r.2.2.2.1) (fun o => i64 o.e) (fun o => refC o.t 1) (fun _ => [])) (lends := true) (lendsOk := by intro _ g; simp only [Con.ownedAll]; (repeat' apply And.intro) <;> first | rfl | (intro _; rfl)) (own := false) (still := false)
structure BAt where
  b : Bool
structure GoAt where
  xs : List Lv
def ann52 (x : RefRec) : Ann where
  loop _ := none
  cut id := match id with
    | 8 => inv0 { T := BAt, ok := fun y => y.b = isOpen (x.t.L.getD (x.t.place x.r.2.2.1).toNat noLv), ms := fun _ => 0, tk := [7], tm := fun y => [.bool y.b], hk := [], hp := fun _ => [], mat := [] }
    | 9 => inv0 { T := BAt, ok := fun y => y.b = !(may x.r.2.1 (x.t.L.getD (x.t.place x.r.2.2.1).toNat noLv)), ms := fun _ => 0, tk := [76], tm := fun y => [.bool y.b], hk := [], hp := fun _ => [], mat := [] }
    | 17 => inv0 { T := GoAt, ok := fun y => y.xs = x.t.L.take (x.t.place x.r.2.2.1).toNat ++ (if x.r.2.1 = 7 then [] else [upto (thn x.r.2.1 (x.t.L.getD (x.t.place x.r.2.2.1).toNat noLv)) x.r.1]), ms := fun _ => 0, tk := [8], tm := fun _ => [.sl (pl 84 0)], hk := [pl 6 0, pl 84 0], hp := fun y => [.gone, .arr 73 kL y.xs], mat := [] }
    | _ => none
  loose _ := []
  ghost id := match id with
    | 18 => [.mv (pl 84 0) 1 []]
    | _ => []
def sp41 : Spc := spcOf [.p 0, .v kR] [.cells [.s 1, .v kI], .arr 73 kL] (G := RefRec) (fun d => ⟨⟨d.2.1.2.1, d.2.2.1⟩, d.1.2.1⟩) (fun g => (((), g.r, ()), (((), g.t.next, ()), g.t.L, ()))) (fun _ => rfl) (fun x => .any [x.t.ok] [0, 1] RNoteOut (fun o => o = x.t.note x.r.1 x.r.2.1 x.r.2.2.1 x.r.2.2.2.1) (fun o => i64 o.e) (fun o => refC o.t 1) (fun _ => [])) (lends := true) (lendsOk := by intro _ g; simp only [Con.ownedAll]; (repeat' apply And.intro) <;> first | rfl | (intro _; rfl)) (own := false) (still := false)
abbrev kR1 : Ty := .ref 1
abbrev kR2 : Ty := .ref 2
abbrev kH : Ty := .hdr 3 (.pair (.int .i64) (.pair (.int .i64) (.pair .bool .bool)))
abbrev kOp : Ty := (.pair kI (.pair .bool (.pair kI (.pair kR kP))))
structure Tbl where
  a : (Nat)
  b : (Nat)
  c : (Nat)
  d : (Nat)
  L : List ((Lh))
  M : List ((Lh))
abbrev Tbl.at (r : Tbl) (n : Nat) : List Itm := [.cells (Ty.enc kR1 r.a ++ Ty.enc kR1 r.b ++ Ty.enc kR2 r.c ++ Ty.enc kR2 r.d ++ [.sl (n + 1)] ++ [.sl (n + 2)]), .arr 48 kH r.L, .arr 48 kH r.M]
abbrev hTabP : List HT := [.cells [.m 1, .v kI], .mapo kI kL]
abbrev TabP : Type := List (Nat × HTden hTabP)
abbrev ofTabP (d : HTden hTabP) : Tab := ⟨d.1.2.1, d.2.1⟩
abbrev toTabP (d : Tab) : HTden hTabP := (((), d.next, ()), d.live, ())
abbrev hRefP : List HT := [.cells [.s 1, .v kI], .arr 73 kL]
abbrev RefP : Type := List (Nat × HTden hRefP)
abbrev ofRefP (d : HTden hRefP) : RefT := ⟨d.1.2.1, d.2.1⟩
abbrev toRefP (d : RefT) : HTden hRefP := (((), d.next, ()), d.L, ())
abbrev LsP : Type := List (Nat × Nat × List ((((Int)) × ((Int)) × (Bool) × (Bool))))
abbrev mk13 (k : Nat) : Lv := (-1 - (k : Int), 0, false, false)
structure Alike (t : Tab) (q : RefT) : Prop where
  nx : t.next = q.next
  n1 : 1 ≤ q.next
  n2 : q.next ≤ top + 1
  live : t.live = ents q.L
  up : Up q.L
  lt : ∀ x ∈ q.L, x.1 < q.next
  len : q.L.length ≤ 32
def Pr (p r : Nat) (es : TabP) (rs : RefP) : Prop := ∃ g q, pget es p = some (toTabP g) ∧ pget rs r = some (toRefP q) ∧ Alike g q
/-- The two of a table, each beside the document's. -/
structure TwoOk (t : Tbl) (es : TabP) (rs : RefP) : Prop where
  ac : Pr t.a t.c es rs
  bd : Pr t.b t.d es rs
  ab : t.a ≠ t.b
  cd : t.c ≠ t.d
  es : PoolOk es
  rs : PoolOk rs
/-- The same, of a table that may still lack one. -/
structure PreOk (t : Tbl) (es : TabP) (rs : RefP) : Prop where
  ac : (t.a = 0 ∧ t.c = 0) ∨ Pr t.a t.c es rs
  bd : (t.b = 0 ∧ t.d = 0) ∨ Pr t.b t.d es rs
  ab : t.a = t.b → t.a = 0
  cd : t.c = t.d → t.c = 0
  es : PoolOk es
  rs : PoolOk rs
structure TOut where
  t : Tbl
structure BegOut where
  t : Tbl
  es : TabP
  rs : RefP
structure PsOut where
  es : TabP
  rs : RefP
structure TblOut where
  t : Tbl
  es : TabP
  rs : RefP
  ls : LsP
abbrev tblC (t : Tbl) : Itm := .cells [.ref 1 t.a, .ref 1 t.b, .ref 2 t.c, .ref 2 t.d, .sl 1, .sl 2]
abbrev poE (es : TabP) : Itm := .pool 1 hTabP es []
abbrev poR (rs : RefP) : Itm := .pool 2 hRefP rs []
abbrev poL (ls : LsP) : Itm := .apool 3 73 kL ls
abbrev W01 (w : Int) : Prop := w = 0 ∨ w = 1
def Tbl.put (t : Tbl) (w : Int) (p r : Nat) : Tbl := if r = 0 then t else if w = 0 then ⟨p, t.b, r, t.d, t.L, t.M⟩ else ⟨t.a, p, t.c, r, t.L, t.M⟩
structure BgnArg where
  t : Tbl
  w : (Int)
  p : (Nat)
  e : (Int)
  r : (Nat)
  f : (Int)
  es : TabP
def sp9 : Spc := spcOfP [.p 0, .v kI, .v kR1, .v kI, .v kR2, .v kI] [.cells [.v kR1, .v kR1, .v kR2, .v kR2, .s 1, .s 2], .arr 48 kH, .arr 48 kH] [.pool 1 hTabP] (G := BgnArg) (fun d => ⟨⟨d.2.1.1.1, d.2.1.1.2.1, d.2.1.1.2.2.1, d.2.1.1.2.2.2.1, d.2.1.2.1, d.2.1.2.2.1⟩, d.1.2.1, d.1.2.2.1, d.1.2.2.2.1, d.1.2.2.2.2.1, d.1.2.2.2.2.2.1, d.2.2.1⟩) (fun g => (((), g.w, g.p, g.e, g.r, g.f, ()), ((g.t.a, g.t.b, g.t.c, g.t.d, (), (), ()), g.t.L, g.t.M, ()), (g.es, ()))) (fun _ => rfl) (fun x => .any [W01 x.w, x.e = x.f, x.p = 0 ↔ x.r = 0] [0] TOut (fun o => o.t = x.t.put x.w x.p x.r) (fun _ => .tt) (fun o => [tblC o.t]) (fun _ => [])) (own := false) (still := false) (raw := true)
def annB (gh : Nat → List Gh) (cut : Nat → Option (List Nat × (St → Inv))) (lo : Nat → List Nat) : Ann where
  loop _ := none
  cut := cut
  loose := lo
  ghost := gh
def ann9 (x : BgnArg) : Ann := annB (fun id => match id with
  | 4 => [.cs 1 [0, 1]]
  | _ => []) (fun _ => none) (fun _ => [])
abbrev mkD : Int × Int := (23130, 0)
abbrev mkL : Lv := (23130, 0, false, false)
def sp34 : Spc := spcOf [.v kP] [] (G := LoadArg) (fun d => ⟨d.1.1⟩) (fun g => ((g.p, ()), ())) (fun _ => rfl) (fun x => .det [x.p.1.length ≤ 100, x.p.2.1.length ≤ 100] [] (.agg [.pfx 0 x.p.1.length, .pfx 1 x.p.2.1.length, i64 x.p.2.2]) [] [.arr 73 kL (x.p.1 ++ [mkL]), .arr 118 kD (x.p.2.1 ++ [mkD])]) (own := false) (still := false)
def ann34 (x : LoadArg) : Ann := annB (fun _ => []) (fun _ => none) (fun _ => [])
structure KptArg where
  n : Nat
  m : Nat
  k : Int
  p : Pt
  xs : List Lv
  ys : List (Int × Int)
def sp36 : Spc := spcOf [.g [.px 0, .px 1, .v kI], .v kP] [.arr 73 kL, .arr 118 kD] (G := KptArg) (fun d => ⟨d.1.1.1, d.1.1.2.1, d.1.1.2.2.1, d.1.2.1, d.2.1, d.2.2.1⟩) (fun g => (((g.n, g.m, g.k, ()), g.p, ()), (g.xs, g.ys, ()))) (fun _ => rfl) (fun x => .det [x.n = x.p.1.length ∧ x.m = x.p.2.1.length ∧ x.xs = x.p.1 ++ [mkL] ∧ x.ys = x.p.2.1 ++ [mkD] ∧ x.p.1.length ≤ 100 ∧ x.p.2.1.length ≤ 100] [] .tt [] []) (own := true)
def ann36 (x : KptArg) : Ann where
  loop id := match id with
    | 4 => inv0 { T := At, ok := fun y => y.i ≤ x.p.2.1.length, ms := fun y => x.p.2.1.length - y.i, tk := [7], tm := fun y => [i64 y.i], hk := [], hp := fun _ => [], mat := [] }
    | _ => none
  cut _ := none
  loose _ := []
/-- What stands of a table, whatever is put into it. -/
def BegPost (t : Tbl) (o : BegOut) : Prop := PreOk o.t o.es o.rs ∧ o.t.L = t.L ∧ o.t.M = t.M ∧ (t.a ≠ 0 → o.t.a ≠ 0) ∧ (t.b ≠ 0 → o.t.b ≠ 0)
def cutP (p : Pt) : Pt := (p.1.take 100, p.2.1.take 100, p.2.2)
structure LdsArg where
  t : Tbl
  w : (Int)
  p : ((List ((((Int)) × ((Int)) × (Bool) × (Bool)))) × (List ((((Int)) × ((Int))))) × ((Int)))
  es : TabP
  rs : RefP
def sp25 : Spc := spcOfP [.p 0, .v kI, .v kP] [.cells [.v kR1, .v kR1, .v kR2, .v kR2, .s 1, .s 2], .arr 48 kH, .arr 48 kH] [.pool 1 hTabP, .pool 2 hRefP] (G := LdsArg) (fun d => ⟨⟨d.2.1.1.1, d.2.1.1.2.1, d.2.1.1.2.2.1, d.2.1.1.2.2.2.1, d.2.1.2.1, d.2.1.2.2.1⟩, d.1.2.1, d.1.2.2.1, d.2.2.1, d.2.2.2.1⟩) (fun g => (((), g.w, g.p, ()), ((g.t.a, g.t.b, g.t.c, g.t.d, (), (), ()), g.t.L, g.t.M, ()), (g.es, g.rs, ()))) (fun _ => rfl) (fun x => .any [W01 x.w, PreOk x.t x.es x.rs] [0, 3, 4] BegOut (BegPost x.t) (fun _ => .tt) (fun o => [tblC o.t, poE o.es, poR o.rs]) (fun _ => [])) (own := false) (still := false) (raw := false)
structure PtAt where
  p : Pt
structure XsAt where
  i : Nat
  xs : List Lv
def ann25 (x : LdsArg) : Ann where
  loop id := match id with
    | 11 => inv0 { T := XsAt, ok := fun y => y.i ≤ (cutP x.p).1.length ∧ y.xs.length = (cutP x.p).1.length + 1, ms := fun y => (cutP x.p).1.length - y.i, tk := [12], tm := fun y => [i64 y.i], hk := [pl 30 0], hp := fun y => [.arr 73 kL y.xs], mat := [] }
    | _ => none
  cut id := match id with
    | 3 => inv0 { T := PtAt, ok := fun y => y.p = (x.p.1.take 100, x.p.2.1, x.p.2.2), ms := fun _ => 0, tk := [], tm := fun _ => [], hk := [pl 5 0], hp := fun y => [.cells [.lst kL y.p.1, .lst kD y.p.2.1, i64 y.p.2.2]], mat := [] }
    | 5 => inv0 { T := PtAt, ok := fun y => y.p = cutP x.p, ms := fun _ => 0, tk := [], tm := fun _ => [], hk := [pl 5 0], hp := fun y => [.cells [.lst kL y.p.1, .lst kD y.p.2.1, i64 y.p.2.2]], mat := [] }
    | _ => none
  loose _ := []
  ghost id := match id with
    | 14 => [.pk (pl 33 0) 1 [pl 33 0, pl 33 1] [8], .pk (pl 38 0) 2 [pl 38 0, pl 38 1] [10]]
    | _ => []
def tabW (t : Tbl) (es : TabP) (w : Int) : Tab := ofTabP ((pget es (if w = 0 then t.a else t.b)).getD (HTdflt hTabP))
def refW (t : Tbl) (rs : RefP) (w : Int) : RefT := ofRefP ((pget rs (if w = 0 then t.c else t.d)).getD (HTdflt hRefP))
abbrev KeepOut : Type := KeepO Lv
abbrev KeepPre (L M : List Lh) (ls : LsP) (l : Lh) : Prop := KeepPreG mk13 L M ls l
abbrev KeepPost (L M : List Lh) (ls : LsP) (l : Lh) (o : KeepOut) : Prop := KeepPostG mk13 L M ls l o
structure KpArg where
  b : Tbl
  l : (Lh)
  ls : LsP
def sp39 : Spc := spcOfP [.po 0 4, .v kH] [.cells [.v kR1, .v kR1, .v kR2, .v kR2, .s 1, .s 2], .arr 48 kH, .arr 48 kH] [.apool 3 73 kL] (G := KpArg) (fun d => ⟨⟨d.2.1.1.1, d.2.1.1.2.1, d.2.1.1.2.2.1, d.2.1.1.2.2.2.1, d.2.1.2.1, d.2.1.2.2.1⟩, d.1.2.1, d.2.2.1⟩) (fun g => (((), g.l, ()), ((g.b.a, g.b.b, g.b.c, g.b.d, (), (), ()), g.b.L, g.b.M, ()), (g.ls, ()))) (fun _ => rfl) (fun x => .any [KeepPre x.b.L x.b.M x.ls x.l] [0, 1, 2, 3] KeepOut (KeepPost x.b.L x.b.M x.ls x.l) (fun _ => .tup []) (fun o => [tblC x.b, .arr 48 kH o.L, .arr 48 kH o.M, poL o.ls]) (fun _ => [])) (own := true) (still := false) (raw := false)
structure KwAt where
  i : Nat
  ls : LsP
def ann39 (x : KpArg) : Ann where
  loop id := match id with
    | 2 => inv0 { T := KwAt, ok := fun y => y.i ≤ x.l.n ∧ BookOk mk13 y.ls x.b.L x.b.M ∧ Wr y.ls x.l (mk13 x.b.L.length) y.i ∧ ∀ b, b ≠ x.l.b → SameAt x.ls y.ls b, ms := fun y => x.l.n - y.i, tk := [5], tm := fun y => [i64 y.i], hk := [3], hp := fun y => [poL y.ls], mat := [] }
    | _ => none
  cut _ := none
  loose id := match id with
    | 6 => [0, 1, 2, 3]
    | _ => []
structure HoArg where
  b : Tbl
  ls : LsP
def sp11 : Spc := spcOfP [.po 0 4] [.cells [.v kR1, .v kR1, .v kR2, .v kR2, .s 1, .s 2], .arr 48 kH, .arr 48 kH] [.apool 3 73 kL] (G := HoArg) (fun d => ⟨⟨d.2.1.1.1, d.2.1.1.2.1, d.2.1.1.2.2.1, d.2.1.1.2.2.2.1, d.2.1.2.1, d.2.1.2.2.1⟩, d.2.2.1⟩) (fun g => (((), ()), ((g.b.a, g.b.b, g.b.c, g.b.d, (), (), ()), g.b.L, g.b.M, ()), (g.ls, ()))) (fun _ => rfl) (fun x => .det [BookOk mk13 x.ls x.b.L x.b.M, x.b.L.length ≤ 1000] [] .tt [] []) (own := false) (still := false) (raw := false)
structure HjAt where
  j : Nat
def ann11 (x : HoArg) : Ann where
  loop id := match id with
    | 2 => inv0 { T := At, ok := fun y => y.i ≤ x.b.L.length, ms := fun y => x.b.L.length - y.i, tk := [3], tm := fun y => [i64 y.i], hk := [], hp := fun _ => [], mat := [] }
    | 6 => some ([5], fun st => byInt st 3 fun n => { T := HjAt, ok := fun y => y.j ≤ (x.b.M.getD n.toNat Lh.nil).n, ms := fun y => (x.b.M.getD n.toNat Lh.nil).n - y.j, tk := [5], tm := fun y => [i64 y.j], hk := [], hp := fun _ => [], mat := [] })
    | _ => none
  cut _ := none
  loose _ := []
def TblPre (t : Tbl) (es : TabP) (rs : RefP) (ls : LsP) : Prop := TwoOk t es rs ∧ BookOk mk13 ls t.L t.M ∧ t.L.length ≤ 600
def TblPost (t : Tbl) (o : TblOut) : Prop := TwoOk o.t o.es o.rs ∧ BookOk mk13 o.ls o.t.L o.t.M ∧ o.t.L.length ≤ t.L.length + 2
structure LsArg where
  t : Tbl
  w : (Int)
  es : TabP
  rs : RefP
  ls : LsP
def sp26 : Spc := spcOfP [.p 0, .v kI] [.cells [.v kR1, .v kR1, .v kR2, .v kR2, .s 1, .s 2], .arr 48 kH, .arr 48 kH] [.pool 1 hTabP, .pool 2 hRefP, .apool 3 73 kL] (G := LsArg) (fun d => ⟨⟨d.2.1.1.1, d.2.1.1.2.1, d.2.1.1.2.2.1, d.2.1.1.2.2.2.1, d.2.1.2.1, d.2.1.2.2.1⟩, d.1.2.1, d.2.2.1, d.2.2.2.1, d.2.2.2.2.1⟩) (fun g => (((), g.w, ()), ((g.t.a, g.t.b, g.t.c, g.t.d, (), (), ()), g.t.L, g.t.M, ()), (g.es, g.rs, g.ls, ()))) (fun _ => rfl) (fun x => .any [W01 x.w, TblPre x.t x.es x.rs x.ls] [0, 1, 2, 3, 4, 5] KeepOut (fun o => BookOk mk13 o.ls o.L o.M ∧ o.L.length = x.t.L.length + 2) (fun _ => .tt) (fun o => [tblC x.t, .arr 48 kH o.L, .arr 48 kH o.M, poE x.es, poR x.rs, poL o.ls]) (fun _ => [])) (own := false) (still := false) (raw := false)
structure LiAt where
  l : List Lv
def lsW (x : LsArg) (t u : Nat) (l : List Lv) : Inv := { T := LiAt, ok := fun y => y.l = l, ms := fun _ => 0, tk := [1, t], tm := fun y => [i64 x.w, .sl (pl u 0)], hk := [3, 4, pl u 0], hp := fun y => [poE x.es, poR x.rs, .arr 73 kL y.l], mat := [] }
def ann26 (x : LsArg) : Ann where
  loop _ := none
  cut id := match id with
    | 2 => inv0 (lsW x 5 14 (tabW x.t x.es x.w).list)
    | 3 => inv0 (lsW x 6 21 (tabW x.t x.es x.w).list)
    | 4 => inv0 { T := LiAt, ok := fun y => y.l = [], ms := fun _ => 0, tk := [1, 7], tm := fun y => [i64 x.w, .tt], hk := [3, 4], hp := fun y => [poE x.es, poR x.rs], mat := [] }
    | _ => none
  loose id := match id with
    | 3 => [3, 4]
    | _ => []
  ghost id := match id with
    | 1 => [.cs 1 [0, 1]]
    | 2 => [.cs 1 [0, 1]]
    | 3 => [.cs 1 [0, 1]]
    | 4 => [.pl (pl 14 0) 3 [5], .pl (pl 21 0) 3 [6]]
    | _ => []
def cutR (r : Rc) : Rc := if 100 < r.2.2.2.2.2.2.2.2.1.length ∨ 100 < r.2.2.2.2.2.2.2.2.2.1.length then (r.1, r.2.1, r.2.2.1, r.2.2.2.1, r.2.2.2.2.1, r.2.2.2.2.2.1, r.2.2.2.2.2.2.1, r.2.2.2.2.2.2.2.1, [], [], 0) else r
structure NtArg where
  t : Tbl
  w : (Int)
  r : (((Int)) × ((Int)) × ((Int)) × ((Int)) × ((((Int)) × ((Int)))) × ((((Int)) × ((Int)))) × ((Int)) × ((((Int)) × ((Int)) × (((Int)) × ((Int))) × ((Int)))) × (((List ((((Int)) × ((Int)) × (Bool) × (Bool)))) × (List ((((Int)) × ((Int))))) × ((Int)))))
  es : TabP
  rs : RefP
def sp29 : Spc := spcOfP [.p 0, .v kI, .v kR] [.cells [.v kR1, .v kR1, .v kR2, .v kR2, .s 1, .s 2], .arr 48 kH, .arr 48 kH] [.pool 1 hTabP, .pool 2 hRefP] (G := NtArg) (fun d => ⟨⟨d.2.1.1.1, d.2.1.1.2.1, d.2.1.1.2.2.1, d.2.1.1.2.2.2.1, d.2.1.2.1, d.2.1.2.2.1⟩, d.1.2.1, d.1.2.2.1, d.2.2.1, d.2.2.2.1⟩) (fun g => (((), g.w, g.r, ()), ((g.t.a, g.t.b, g.t.c, g.t.d, (), (), ()), g.t.L, g.t.M, ()), (g.es, g.rs, ()))) (fun _ => rfl) (fun x => .any [W01 x.w, TwoOk x.t x.es x.rs] [3, 4] PsOut (fun o => TwoOk x.t o.es o.rs) (fun _ => .tt) (fun o => [poE o.es, poR o.rs]) (fun _ => [])) (own := false) (still := false) (raw := false)
structure RcAt where
  r : Rc
def ann29 (x : NtArg) : Ann where
  loop _ := none
  cut id := match id with
    | 3 => inv0 { T := RcAt, ok := fun y => y.r = cutR x.r, ms := fun _ => 0, tk := [], tm := fun _ => [], hk := [pl 5 0], hp := fun y => [.cells (kR.enc y.r)], mat := [] }
    | _ => none
  loose id := match id with
    | 5 => [3, 4]
    | 6 => [3, 4]
    | _ => []
  ghost id := match id with
    | 5 => [.cs 1 [0, 1]]
    | _ => []
structure PyArg where
  t : Tbl
  o : (((Int)) × (Bool) × ((Int)) × ((((Int)) × ((Int)) × ((Int)) × ((Int)) × ((((Int)) × ((Int)))) × ((((Int)) × ((Int)))) × ((Int)) × ((((Int)) × ((Int)) × (((Int)) × ((Int))) × ((Int)))) × (((List ((((Int)) × ((Int)) × (Bool) × (Bool)))) × (List ((((Int)) × ((Int))))) × ((Int)))))) × (((List ((((Int)) × ((Int)) × (Bool) × (Bool)))) × (List ((((Int)) × ((Int))))) × ((Int)))))
  es : TabP
  rs : RefP
  ls : LsP
def sp10 : Spc := spcOfP [.p 0, .v kOp] [.cells [.v kR1, .v kR1, .v kR2, .v kR2, .s 1, .s 2], .arr 48 kH, .arr 48 kH] [.pool 1 hTabP, .pool 2 hRefP, .apool 3 73 kL] (G := PyArg) (fun d => ⟨⟨d.2.1.1.1, d.2.1.1.2.1, d.2.1.1.2.2.1, d.2.1.1.2.2.2.1, d.2.1.2.1, d.2.1.2.2.1⟩, d.1.2.1, d.2.2.1, d.2.2.2.1, d.2.2.2.2.1⟩) (fun g => (((), g.o, ()), ((g.t.a, g.t.b, g.t.c, g.t.d, (), (), ()), g.t.L, g.t.M, ()), (g.es, g.rs, g.ls, ()))) (fun _ => rfl) (fun x => .any [TblPre x.t x.es x.rs x.ls] [0, 1, 2, 3, 4, 5] TblOut (TblPost x.t) (fun _ => .tt) (fun o => [tblC o.t, .arr 48 kH o.t.L, .arr 48 kH o.t.M, poE o.es, poR o.rs, poL o.ls]) (fun _ => [])) (own := false) (still := false) (raw := false)
structure WAt where
  w : Int
def ann10 (x : PyArg) : Ann where
  loop _ := none
  cut id := match id with
    | 4 => inv0 { T := WAt, ok := fun y => W01 y.w, ms := fun _ => 0, tk := [5], tm := fun y => [i64 y.w], hk := [], hp := fun _ => [], mat := [] }
    | _ => none
  loose id := match id with
    | 14 => [3, 4]
    | 15 => [3, 4]
    | 18 => [3, 4]
    | 19 => [3, 4]
    | _ => []
  ghost id := match id with
    | 8 => [.pk (pl 27 0) 1 [pl 27 0, pl 27 1] [6], .pk (pl 33 0) 2 [pl 33 0, pl 33 1] [8]]
    | 14 => [.cs 5 [0, 1]]
    | 18 => [.cs 5 [0, 1]]
    | _ => []
def sp6 : Spc := spcOf [] [] (G := Unit) (fun _ => ()) (fun _ => ((), ())) (fun _ => rfl) (fun _ => .det [] [] .tt [] [])
structure ExArg where
  s : List ((((Int)) × (Bool) × ((Int)) × ((((Int)) × ((Int)) × ((Int)) × ((Int)) × ((((Int)) × ((Int)))) × ((((Int)) × ((Int)))) × ((Int)) × ((((Int)) × ((Int)) × (((Int)) × ((Int))) × ((Int)))) × (((List ((((Int)) × ((Int)) × (Bool) × (Bool)))) × (List ((((Int)) × ((Int))))) × ((Int)))))) × (((List ((((Int)) × ((Int)) × (Bool) × (Bool)))) × (List ((((Int)) × ((Int))))) × ((Int))))))
def sp3 : Spc := spcOf [.v (.slice kOp)] [] (G := ExArg) (fun d => ⟨d.1.1⟩) (fun g => ((g.s, ()), ())) (fun _ => rfl) (fun x => .det [] [] (.bool true) [] []) (own := false) (still := false)
structure WxAt where
  i : Nat
  o : BegOut
structure ExAt where
  i : Nat
  o : TblOut
def ann3 (x : ExArg) : Ann where
  loop id := match id with
    | 5 => inv0 { T := WxAt, ok := fun y => y.i ≤ 2 ∧ PreOk y.o.t y.o.es y.o.rs ∧ y.o.t.L = [] ∧ y.o.t.M = [] ∧ (1 ≤ y.i → y.o.t.a ≠ 0) ∧ (2 ≤ y.i → y.o.t.b ≠ 0), ms := fun y => 2 - y.i, tk := [4], tm := fun y => [i64 y.i], hk := [pl 15 0, 901, 902], hp := fun y => [.cells [.ref 1 y.o.t.a, .ref 1 y.o.t.b, .ref 2 y.o.t.c, .ref 2 y.o.t.d, .sl 904, .sl 905], poE y.o.es, poR y.o.rs], mat := [] }
    | 13 => inv0 { T := ExAt, ok := fun y => y.i ≤ 200 ∧ y.i ≤ x.s.length ∧ TwoOk y.o.t y.o.es y.o.rs ∧ BookOk mk13 y.o.ls y.o.t.L y.o.t.M ∧ y.o.t.L.length ≤ 2 * y.i, ms := fun y => x.s.length - y.i, tk := [10], tm := fun y => [i64 y.i], hk := [pl 15 0, 904, 905, 901, 902, 903], hp := fun y => [.cells [.ref 1 y.o.t.a, .ref 1 y.o.t.b, .ref 2 y.o.t.c, .ref 2 y.o.t.d, .sl 904, .sl 905], .arr 48 kH y.o.t.L, .arr 48 kH y.o.t.M, poE y.o.es, poR y.o.rs, poL y.o.ls], mat := [] }
    | _ => none
  cut _ := none
  loose _ := []
  ghost id := match id with
    | 4 => [.np 901 1 hTabP, .np 902 2 hRefP, .na 903 3 73 kL, .nc (pl 15 0) 4 904 48 kH, .nc (pl 15 0) 5 905 48 kH]
    | 9 => [.pk (pl 21 0) 1 [pl 21 0, pl 21 1] [5], .pk (pl 25 0) 2 [pl 25 0, pl 25 1] [7]]
    | _ => []
end Go.Proofs.Ytgoikphefcgleaa.VC

