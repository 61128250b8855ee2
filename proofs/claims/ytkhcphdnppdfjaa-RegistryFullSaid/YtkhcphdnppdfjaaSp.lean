/- What is said of the registry's functions. Definitions alone; no conditions. -/
import Derived.Test.YtkhcphdnppdfjaaVt
import Derived.Test.YtkhcphdnppdfjaaWb
set_option linter.unusedVariables false
namespace Go.Proofs.Ytkhcphdnppdfjaa.VC
open Go

abbrev i64 (n : Int) : AV := .int .i64 n
abbrev TI64 : Ty := .int .i64
abbrev TSlot : Ty := .pair TI64 TI64
abbrev slot (s : Int × Int) : AV := .agg [i64 s.1, i64 s.2]
/-- The place that is made for a slot. -/
def pl (t i : Nat) : Nat := 1000 + 16 * t + i
def noAnn : Ann := ⟨fun _ => none, fun _ => none, fun _ => []⟩

abbrev mgE (E : List (Int × (Int × Int))) (c : Int) : Option (Int × Int) := mgetT TI64 TSlot E c
abbrev msE (E : List (Int × (Int × Int))) (c : Int) (x : Int × Int) : List (Int × (Int × Int)) := msetT TI64 TSlot E c x
abbrev mgM (E : List (Int × Int)) (c : Int) : Option Int := mgetT TI64 TI64 E c
abbrev msM (E : List (Int × Int)) (c : Int) (x : Int) : List (Int × Int) := msetT TI64 TI64 E c x

/-- A registry. -/
structure Reg where
  pages : Int
  E : List (Int × (Int × Int))
  M : List (Int × Int)
abbrev Reg.heap (r : Reg) : List Itm := [.cells [i64 r.pages, .map 1, .map 2], .mapo TI64 TSlot r.E, .mapo TI64 TI64 r.M]

/-- Small enough that no sum leaves its kind. -/
def Reg.ok (r : Reg) : Prop := 2 ≤ r.pages ∧ r.pages ≤ 64 ∧ r.E.length ≤ 1000000 ∧ r.M.length ≤ 1000000 ∧ (∀ e ∈ r.M, 0 ≤ e.2 ∧ e.2 ≤ 1000000) ∧ (∀ e ∈ r.E, 0 ≤ e.2.1 ∧ e.2.1 ≤ 1000000)

def wh (k : Int) : Int × Int := (k / 31, k % 31)
def sm (pages k : Int) : Int × Int := (pages - 1 - k / 84, k % 84)
def nd (n e : Int) : Int := (n + e - 1) / e

structure Planned where
  a : Int × Int
  b : Int × Int
  e : Int
def Reg.plan (r : Reg) (c g : Int) : Planned :=
  if c < 1 ∨ 1048576 < c ∨ g < 1 ∨ 1048576 < g then ⟨(0, 0), (0, 0), 4⟩
  else if (mgE r.E c).isSome then ⟨(0, 0), (0, 0), 121⟩
  else if r.pages < nd (r.E.length + 1) 31 + nd (if (mgM r.M g).isSome then r.M.length else r.M.length + 1) 84 then ⟨(0, 0), (0, 0), 6⟩
  else ⟨wh r.E.length, sm r.pages ((mgM r.M g).getD r.M.length), 0⟩
def Reg.add (r : Reg) (c g : Int) : Reg := ⟨r.pages, msE r.E c (r.E.length, g), if (mgM r.M g).isSome then r.M else msM r.M g r.M.length⟩
def Reg.takeE (r : Reg) (c g : Int) (w s : Int × Int) : Int := if (r.plan c g).e ≠ 0 then (r.plan c g).e else if (r.plan c g).a ≠ w ∨ (r.plan c g).b ≠ s then 83 else 0
def Reg.take (r : Reg) (c g : Int) (w s : Int × Int) : Reg := if r.takeE c g w s = 0 then r.add c g else r
structure Found where
  a : Int × Int
  g : Int
  b : Int × Int
  e : Int
def Reg.find (r : Reg) (c : Int) : Found :=
  match mgE r.E c with
  | none => ⟨(0, 0), 0, (0, 0), 120⟩
  | some x => ⟨wh x.1, x.2, sm r.pages ((mgM r.M x.2).getD 0), 0⟩
def Reg.group (r : Reg) (g : Int) : Planned :=
  match mgM r.M g with
  | none => ⟨(0, 0), (0, 0), 122⟩
  | some k => ⟨sm r.pages k, (0, 0), 0⟩
def keysOf {v : Type} (E : List (Int × v)) : List Int := E.map (·.1)
/-- Numbers, rising. -/
def rising (l : List Int) : List Int := l.mergeSort (fun a b => decide (a ≤ b))

/-! ### The specifications -/

def int1 (con : Int → Con) : Spc where
  G := Int
  args k := [i64 k]
  heap _ := []
  find a h := match a, h with
    | [.int .i64 k], [] => some k
    | _, _ => none
  ok := by intro a h g hh; split at hh <;> simp at hh; subst hh; exact ⟨.refl _, .refl _⟩
  con := con
  own := false

def sp15 : Spc := int1 fun k => .det [] [] (i64 k) [] []
def sp29 : Spc := int1 fun k => .det [0 ≤ k] [] (slot (wh k)) [] []
def sp18 : Spc := int1 fun n => .or
  (.any [] [] Unit (fun _ => ¬ (2 ≤ n ∧ n ≤ 64)) (fun _ => .tup [.nptr, i64 2]) (fun _ => []) (fun _ => []))
  (.any [] [] Unit (fun _ => 2 ≤ n ∧ n ≤ 64) (fun _ => .tup [.ptr 0 0, i64 0]) (fun _ => []) (fun _ => (Reg.mk n [] []).heap))

def sp32 : Spc where
  G := Int × Int
  args k := [i64 k.1, i64 k.2]
  heap _ := []
  find a h := match a, h with
    | [.int .i64 k, .int .i64 n], [] => some (k, n)
    | _, _ => none
  ok := by intro a h g hh; split at hh <;> simp at hh; subst hh; exact ⟨.refl _, .refl _⟩
  con k := .det [0 ≤ k.1, k.1 ≤ 1000000000, 0 < k.2, k.2 ≤ 1000000000] [] (i64 (nd k.1 k.2)) [] []
  own := false

structure RegInt where
  r : Reg
  k : Int
def regInt (con : RegInt → Con) : Spc where
  G := RegInt
  args x := [.ptr 0 0, i64 x.k]
  heap x := x.r.heap
  find a h := match a, h with
    | [.ptr 0 0, .int .i64 k], [.cells [.int .i64 p, .map 1, .map 2], .mapo (.int .i64) (.pair (.int .i64) (.int .i64)) E, .mapo (.int .i64) (.int .i64) M] => some ⟨⟨p, E, M⟩, k⟩
    | _, _ => none
  ok := by intro a h g hh; split at hh <;> simp at hh; subst hh; exact ⟨.refl _, .refl _⟩
  con := con
  own := false
def sp30 : Spc := regInt fun x => .det [0 ≤ x.r.pages, x.r.pages ≤ 64, 0 ≤ x.k] [] (slot (sm x.r.pages x.k)) [] []
def sp13 : Spc := regInt fun x => .det [x.r.ok] [] (.tup [slot (x.r.find x.k).a, i64 (x.r.find x.k).g, slot (x.r.find x.k).b, i64 (x.r.find x.k).e]) [] []
def sp14 : Spc := regInt fun x => .det [x.r.ok] [] (.tup [slot (x.r.group x.k).a, i64 (x.r.group x.k).e]) [] []

structure RegInt2 where
  r : Reg
  c : Int
  g : Int
def sp20 : Spc where
  G := RegInt2
  args x := [.ptr 0 0, i64 x.c, i64 x.g]
  heap x := x.r.heap
  find a h := match a, h with
    | [.ptr 0 0, .int .i64 c, .int .i64 g], [.cells [.int .i64 p, .map 1, .map 2], .mapo (.int .i64) (.pair (.int .i64) (.int .i64)) E, .mapo (.int .i64) (.int .i64) M] => some ⟨⟨p, E, M⟩, c, g⟩
    | _, _ => none
  ok := by intro a h g hh; split at hh <;> simp at hh; subst hh; exact ⟨.refl _, .refl _⟩
  con x := .det [x.r.ok] [] (.tup [slot (x.r.plan x.c x.g).a, slot (x.r.plan x.c x.g).b, i64 (x.r.plan x.c x.g).e]) [] []
  own := false

structure RegTake where
  r : Reg
  c : Int
  g : Int
  w : Int × Int
  s : Int × Int
def sp19 : Spc where
  G := RegTake
  args x := [.ptr 0 0, i64 x.c, i64 x.g, slot x.w, slot x.s]
  heap x := x.r.heap
  find a h := match a, h with
    | [.ptr 0 0, .int .i64 c, .int .i64 g, .agg [.int .i64 w1, .int .i64 w2], .agg [.int .i64 s1, .int .i64 s2]], [.cells [.int .i64 p, .map 1, .map 2], .mapo (.int .i64) (.pair (.int .i64) (.int .i64)) E, .mapo (.int .i64) (.int .i64) M] => some ⟨⟨p, E, M⟩, c, g, (w1, w2), (s1, s2)⟩
    | _, _ => none
  ok := by intro a h g hh; split at hh <;> simp at hh; subst hh; exact ⟨.refl _, .refl _⟩
  con x := .det [x.r.ok] [1, 2] (i64 (x.r.takeE x.c x.g x.w x.s)) [.mapo TI64 TSlot (x.r.take x.c x.g x.w x.s).E, .mapo TI64 TI64 (x.r.take x.c x.g x.w x.s).M] []
  own := false

structure RegOnly where
  r : Reg
def regOnly (con : Reg → Con) : Spc where
  G := Reg
  args x := [.ptr 0 0]
  heap x := x.heap
  find a h := match a, h with
    | [.ptr 0 0], [.cells [.int .i64 p, .map 1, .map 2], .mapo (.int .i64) (.pair (.int .i64) (.int .i64)) E, .mapo (.int .i64) (.int .i64) M] => some ⟨p, E, M⟩
    | _, _ => none
  ok := by intro a h g hh; split at hh <;> simp at hh; subst hh; exact ⟨.refl _, .refl _⟩
  con := con
  own := false
def sp16 : Spc := regOnly fun r => .det [r.ok] [] (.sl 3) [] [.arr 3 TI64 (rising (keysOf r.E))]
def sp17 : Spc := regOnly fun r => .det [r.ok] [] (.sl 3) [] [.arr 3 TI64 (rising (keysOf r.M))]

/-- slices.Sort. -/
def sp31 : Spc where
  G := List Int
  args x := [.sl 0]
  heap x := [.arr 3 TI64 x]
  find a h := match a, h with
    | [.sl 0], [.arr 3 (.int .i64) x] => some x
    | _, _ => none
  ok := by intro a h g hh; split at hh <;> simp at hh; subst hh; exact ⟨.refl _, .refl _⟩
  con x := .det [x.length < 4611686018427387904] [0] (.tup []) [.arr 3 TI64 (rising x)] []
  own := true
  still := true

/-- Keys, collected: what is left, what is out. -/
structure Keys (v : Type) where
  left : List (Int × v)
  out : List Int
def annKeys (v : Ty) (m : Nat) (E : List (Int × v.den)) : Ann where
  loop id := match id with
    | 3 => inv0 {
        T := Keys v.den
        ok := fun x => (x.out ++ keysOf x.left).Perm (keysOf E)
        ms := fun x => x.left.length
        tk := [3]
        tm := fun _ => [.sl 900]
        hk := [900, pl 9 0]
        hp := fun x => [.arr 3 TI64 x.out, .iter m TI64 v x.left none]
        mat := [(3, 900, 3, TI64)] }
    | _ => none
  cut _ := none
  loose _ := []
def ann16 (r : Reg) : Ann := annKeys TSlot 1 r.E
def ann17 (r : Reg) : Ann := annKeys TI64 2 r.M

structure Two where
  a : List Int
  b : List Int
def sp21 : Spc where
  G := Two
  args x := [.lst TI64 x.a, .lst TI64 x.b]
  heap _ := []
  find a h := match a, h with
    | [.lst (.int .i64) a, .lst (.int .i64) b], [] => some ⟨a, b⟩
    | _, _ => none
  ok := by intro a h g hh; split at hh <;> simp at hh; subst hh; exact ⟨.refl _, .refl _⟩
  con x := .det [] [] (.bool (decide (x.a = x.b))) [] []
  own := false
structure At where
  i : Nat
def ann21 (x : Two) : Ann where
  loop id := match id with
    | 4 => inv0 { T := At, ok := fun y => y.i ≤ x.a.length ∧ x.a.length = x.b.length ∧ x.a.take y.i = x.b.take y.i, ms := fun y => x.a.length - y.i, tk := [5], tm := fun y => [i64 y.i], hk := [], hp := fun _ => [], mat := [] }
    | _ => none
  cut _ := none
  loose _ := []
/-- By the rest. -/
def rst (n lo hi : Int) : Int := lo + n % (hi - lo + 1)
structure Three where
  n : Int
  lo : Int
  hi : Int
def sp11 : Spc where
  G := Three
  args x := [i64 x.n, i64 x.lo, i64 x.hi]
  heap _ := []
  find a h := match a, h with
    | [.int .i64 a, .int .i64 b, .int .i64 c], [] => some ⟨a, b, c⟩
    | _, _ => none
  ok := by intro a h g hh; split at hh <;> simp at hh; subst hh; exact ⟨.refl _, .refl _⟩
  con x := .det [0 ≤ x.lo, x.lo ≤ x.hi, x.hi ≤ 1000000] [] (i64 (rst x.n x.lo x.hi)) [] []
  own := false
def sp7 : Spc where
  G := Unit
  args _ := []
  heap _ := []
  find a h := match a, h with
    | [], [] => some ()
    | _, _ => none
  ok := by intro a h g hh; split at hh <;> simp at hh; exact ⟨.refl _, .refl _⟩
  con _ := .det [] [] (.bool true) [] []
  own := false
structure Pair2 where
  a : Int
  b : Int
def sp6 : Spc where
  G := Pair2
  args x := [i64 x.a, i64 x.b]
  heap _ := []
  find a h := match a, h with
    | [.int .i64 a, .int .i64 b], [] => some ⟨a, b⟩
    | _, _ => none
  ok := by intro a h g hh; split at hh <;> simp at hh; subst hh; exact ⟨.refl _, .refl _⟩
  con _ := .det [] [] (.bool true) [] []
  own := false
/-- The n-th round: counters 1 to n are in, each so many of one group. -/
structure Full where
  n : Int
  E : List (Int × (Int × Int))
  M : List (Int × Int)
def Full.ok (each : Int) (x : Full) : Prop := 0 ≤ x.n ∧ x.n ≤ 500 ∧ (x.E.length : Int) = x.n ∧ (∀ c, (mgE x.E c).isSome = true ↔ 1 ≤ c ∧ c ≤ x.n) ∧ (x.M.length : Int) = (x.n + each - 1) / each ∧ (∀ g, (mgM x.M g).isSome = true ↔ 1 ≤ g ∧ g ≤ x.M.length) ∧
  (∀ e ∈ x.M, 0 ≤ e.2 ∧ e.2 ≤ 1000000) ∧ (∀ e ∈ x.E, 0 ≤ e.2.1 ∧ e.2.1 ≤ 1000000)
def ann6 (x : Pair2) : Ann where
  loop id := match id with
    | 9 => inv0 { T := Full, ok := Full.ok (rst x.b 1 40), ms := fun y => (500 - y.n).toNat, tk := [7], tm := fun y => [i64 y.n], hk := [pl 21 1, pl 21 2], hp := fun y => [.mapo TI64 TSlot y.E, .mapo TI64 TI64 y.M], mat := [] }
    | _ => none
  cut _ := none
  loose _ := []

def vc (body : Option Code) (rs : Array ResultVar) (nt : Nat) (sps : List (FuncId × Option Spc)) (s : Spc) (A : s.G → Ann) : Prop := vcF ⟨TT, EQ, look none sps, nt⟩ (body.getD .skip) rs.toList s A
end Go.Proofs.Ytkhcphdnppdfjaa.VC
