/- What is said of the registry's functions, and of the document's. Definitions alone; no conditions. -/
import Derived.Test.YtkhcphdnppdfjaaPp
set_option linter.unusedVariables false
namespace Go.Proofs.Ytkhcphdnppdfjaa.VC
open Go
abbrev kI : Ty := .int .i64
abbrev kS : Ty := (.pair kI kI)
abbrev kH : Ty := .hdr 3 (.int .i64)
structure Reg where
  pages : (Int)
  E : List (((Int)) × ((((Int)) × ((Int)))))
  M : List (((Int)) × ((Int)))
abbrev Reg.at (r : Reg) (n : Nat) : List Itm := [.cells (Ty.enc kI r.pages ++ [.map (n + 1)] ++ [.map (n + 2)]), .mapo kI kS r.E, .mapo kI kI r.M]
structure RefR where
  pages : (Int)
  C : List ((((Int)) × ((Int))))
  G : List ((Int))
abbrev RefR.at (r : RefR) (n : Nat) : List Itm := [.cells (Ty.enc kI r.pages ++ [.sl (n + 1)] ++ [.sl (n + 2)]), .arr 91 kS r.C, .arr 3 kI r.G]
abbrev slot (s : Int × Int) : AV := .agg [i64 s.1, i64 s.2]
abbrev mgE (E : List (Int × (Int × Int))) (c : Int) : Option (Int × Int) := mgetT kI kS E c
abbrev msE (E : List (Int × (Int × Int))) (c : Int) (x : Int × Int) : List (Int × (Int × Int)) := msetT kI kS E c x
abbrev mgM (E : List (Int × Int)) (c : Int) : Option Int := mgetT kI kI E c
abbrev msM (E : List (Int × Int)) (c : Int) (x : Int) : List (Int × Int) := msetT kI kI E c x
/-- Small enough that no sum leaves its kind. -/
def Reg.ok (r : Reg) : Prop := 2 ≤ r.pages ∧ r.pages ≤ 64 ∧ r.E.length ≤ 1000000 ∧ r.M.length ≤ 1000000 ∧ (∀ e ∈ r.M, 0 ≤ e.2 ∧ e.2 ≤ 1000000) ∧ (∀ e ∈ r.E, 0 ≤ e.2.1 ∧ e.2.1 ≤ 1000000)
def wh (k : Int) : Int × Int := (k / 31, k % 31)
def sm (pages k : Int) : Int × Int := (pages - 1 - k / 84, k % 84)
def nd (n e : Int) : Int := (n + e - 1) / e
structure Planned where
  a : Int × Int
  b : Int × Int
  e : Int
def Reg.plan (r : Reg) (c g : Int) : Planned :=
  if c < 1 ∨ 1048576 < c ∨ g < 1 ∨ 1048576 < g then ⟨(0, 0), (0, 0), 4⟩
  else if (mgE r.E c).isSome then ⟨(0, 0), (0, 0), 121⟩
  else if r.pages < nd (r.E.length + 1) 31 + nd (if (mgM r.M g).isSome then r.M.length else r.M.length + 1) 84 then ⟨(0, 0), (0, 0), 6⟩
  else ⟨wh r.E.length, sm r.pages ((mgM r.M g).getD r.M.length), 0⟩
def Reg.add (r : Reg) (c g : Int) : Reg := ⟨r.pages, msE r.E c (r.E.length, g), if (mgM r.M g).isSome then r.M else msM r.M g r.M.length⟩
def Reg.takeE (r : Reg) (c g : Int) (w s : Int × Int) : Int := if (r.plan c g).e ≠ 0 then (r.plan c g).e else if (r.plan c g).a ≠ w ∨ (r.plan c g).b ≠ s then 83 else 0
def Reg.take (r : Reg) (c g : Int) (w s : Int × Int) : Reg := if r.takeE c g w s = 0 then r.add c g else r
structure Found where
  a : Int × Int
  g : Int
  b : Int × Int
  e : Int
def Reg.find (r : Reg) (c : Int) : Found :=
  match mgE r.E c with
  | none => ⟨(0, 0), 0, (0, 0), 120⟩
  | some x => ⟨wh x.1, x.2, sm r.pages ((mgM r.M x.2).getD 0), 0⟩
def Reg.group (r : Reg) (g : Int) : Planned :=
  match mgM r.M g with
  | none => ⟨(0, 0), (0, 0), 122⟩
  | some k => ⟨sm r.pages k, (0, 0), 0⟩
structure Num1 where
  v : (Int)
def sp15 : Spc := spcOf [.v kI] [] (G := Num1) (fun d => ⟨d.1.1⟩) (fun g => ((g.v, ()), ())) (fun _ => rfl) (fun x => .det [] [] (i64 x.v) [] []) (own := false) (still := false)
def sp29 : Spc := spcOf [.v kI] [] (G := Num1) (fun d => ⟨d.1.1⟩) (fun g => ((g.v, ()), ())) (fun _ => rfl) (fun x => .det [0 ≤ x.v] [] (slot (wh x.v)) [] []) (own := false) (still := false)
def sp18 : Spc := spcOf [.v kI] [] (G := Num1) (fun d => ⟨d.1.1⟩) (fun g => ((g.v, ()), ())) (fun _ => rfl) (fun x => .or
  (.any [] [] Unit (fun _ => ¬ (2 ≤ x.v ∧ x.v ≤ 64)) (fun _ => .tup [.nptr, i64 2]) (fun _ => []) (fun _ => []))
  (.any [] [] Unit (fun _ => 2 ≤ x.v ∧ x.v ≤ 64) (fun _ => .tup [.ptr 0 0, i64 0]) (fun _ => []) (fun _ => [.cells [i64 x.v, .map 1, .map 2], .mapo kI kS [], .mapo kI kI []]))) (own := false) (still := false)
structure Two where
  a : (Int)
  b : (Int)
def sp32 : Spc := spcOf [.v kI, .v kI] [] (G := Two) (fun d => ⟨d.1.1, d.1.2.1⟩) (fun g => ((g.a, g.b, ()), ())) (fun _ => rfl) (fun x => .det [0 ≤ x.a, x.a ≤ 1000000000, 0 < x.b, x.b ≤ 1000000000] [] (i64 (nd x.a x.b)) [] []) (own := false) (still := false)
structure RegInt where
  r : Reg
  k : (Int)
def sp30 : Spc := spcOf [.p 0, .v kI] [.cells [.v kI, .m 1, .m 2], .mapo kI kS, .mapo kI kI] (G := RegInt) (fun d => ⟨⟨d.2.1.1, d.2.2.1, d.2.2.2.1⟩, d.1.2.1⟩) (fun g => (((), g.k, ()), ((g.r.pages, (), (), ()), g.r.E, g.r.M, ()))) (fun _ => rfl) (fun x => .det [0 ≤ x.r.pages, x.r.pages ≤ 64, 0 ≤ x.k] [] (slot (sm x.r.pages x.k)) [] []) (own := false) (still := false)
def sp13 : Spc := spcOf [.p 0, .v kI] [.cells [.v kI, .m 1, .m 2], .mapo kI kS, .mapo kI kI] (G := RegInt) (fun d => ⟨⟨d.2.1.1, d.2.2.1, d.2.2.2.1⟩, d.1.2.1⟩) (fun g => (((), g.k, ()), ((g.r.pages, (), (), ()), g.r.E, g.r.M, ()))) (fun _ => rfl) (fun x => .any [x.r.ok] [] Found (fun o => o = x.r.find x.k) (fun o => .tup [slot o.a, i64 o.g, slot o.b, i64 o.e]) (fun _ => []) (fun _ => [])) (own := false) (still := false)
def sp14 : Spc := spcOf [.p 0, .v kI] [.cells [.v kI, .m 1, .m 2], .mapo kI kS, .mapo kI kI] (G := RegInt) (fun d => ⟨⟨d.2.1.1, d.2.2.1, d.2.2.2.1⟩, d.1.2.1⟩) (fun g => (((), g.k, ()), ((g.r.pages, (), (), ()), g.r.E, g.r.M, ()))) (fun _ => rfl) (fun x => .any [x.r.ok] [] Planned (fun o => o = x.r.group x.k) (fun o => .tup [slot o.a, i64 o.e]) (fun _ => []) (fun _ => [])) (own := false) (still := false)
structure RegInt2 where
  r : Reg
  c : (Int)
  g : (Int)
def sp20 : Spc := spcOf [.p 0, .v kI, .v kI] [.cells [.v kI, .m 1, .m 2], .mapo kI kS, .mapo kI kI] (G := RegInt2) (fun d => ⟨⟨d.2.1.1, d.2.2.1, d.2.2.2.1⟩, d.1.2.1, d.1.2.2.1⟩) (fun g => (((), g.c, g.g, ()), ((g.r.pages, (), (), ()), g.r.E, g.r.M, ()))) (fun _ => rfl) (fun x => .any [x.r.ok] [] Planned (fun o => o = x.r.plan x.c x.g) (fun o => .tup [slot o.a, slot o.b, i64 o.e]) (fun _ => []) (fun _ => [])) (own := false) (still := false)
structure TakeOut where
  e : Int
  r : Reg
structure RegTake where
  r : Reg
  c : (Int)
  g : (Int)
  w : (((Int)) × ((Int)))
  s : (((Int)) × ((Int)))
def sp19 : Spc := spcOf [.p 0, .v kI, .v kI, .v kS, .v kS] [.cells [.v kI, .m 1, .m 2], .mapo kI kS, .mapo kI kI] (G := RegTake) (fun d => ⟨⟨d.2.1.1, d.2.2.1, d.2.2.2.1⟩, d.1.2.1, d.1.2.2.1, d.1.2.2.2.1, d.1.2.2.2.2.1⟩) (fun g => (((), g.c, g.g, g.w, g.s, ()), ((g.r.pages, (), (), ()), g.r.E, g.r.M, ()))) (fun _ => rfl) (fun x => .any [x.r.ok] [1, 2] TakeOut (fun o => o = ⟨x.r.takeE x.c x.g x.w x.s, x.r.take x.c x.g x.w x.s⟩) (fun o => i64 o.e) (fun o => [.mapo kI kS o.r.E, .mapo kI kI o.r.M]) (fun _ => [])) (own := false) (still := false)
structure RegOnly where
  r : Reg
def sp16 : Spc := spcOf [.p 0] [.cells [.v kI, .m 1, .m 2], .mapo kI kS, .mapo kI kI] (G := RegOnly) (fun d => ⟨⟨d.2.1.1, d.2.2.1, d.2.2.2.1⟩⟩) (fun g => (((), ()), ((g.r.pages, (), (), ()), g.r.E, g.r.M, ()))) (fun _ => rfl) (fun x => .det [x.r.ok] [] (.sl 3) [] [.arr 3 kI (rising (keysOf x.r.E))]) (own := false) (still := false)
def sp17 : Spc := spcOf [.p 0] [.cells [.v kI, .m 1, .m 2], .mapo kI kS, .mapo kI kI] (G := RegOnly) (fun d => ⟨⟨d.2.1.1, d.2.2.1, d.2.2.2.1⟩⟩) (fun g => (((), ()), ((g.r.pages, (), (), ()), g.r.E, g.r.M, ()))) (fun _ => rfl) (fun x => .det [x.r.ok] [] (.sl 3) [] [.arr 3 kI (rising (keysOf x.r.M))]) (own := false) (still := false)
/-- slices.Sort. -/
def sp31 : Spc where
  G := List Int
  args x := [.sl 0]
  heap x := [.arr 3 (.int .i64) x]
  find a h := match a, h with
    | [.sl 0], [.arr 3 (.int .i64) x] => some x
    | _, _ => none
  ok := by intro a h g hh; split at hh <;> simp at hh; subst hh; exact ⟨.refl _, .refl _⟩
  con x := .det [x.length < 4611686018427387904] [0] (.tup []) [.arr 3 (.int .i64) (rising x)] []
  own := true
  still := true
/-- Keys, collected: what is left, what is out. -/
structure Keys (v : Type) where
  left : List (Int × v)
  out : List Int
def annKeys (v : Ty) (m : Nat) (E : List (Int × v.den)) : Ann where
  loop id := match id with
    | 3 => inv0 {
        T := Keys v.den
        ok := fun x => (x.out ++ keysOf x.left).Perm (keysOf E)
        ms := fun x => x.left.length
        tk := [3]
        tm := fun _ => [.sl 900]
        hk := [900, pl 9 0]
        hp := fun x => [.arr 3 kI x.out, .iter m kI v x.left none]
        mat := [(3, 900, 3, kI)] }
    | _ => none
  cut _ := none
  loose _ := []
def ann16 (x : RegOnly) : Ann := annKeys kS 1 x.r.E
def ann17 (x : RegOnly) : Ann := annKeys kI 2 x.r.M
structure TwoL where
  a : List ((Int))
  b : List ((Int))
def sp21 : Spc := spcOf [.v (.slice kI), .v (.slice kI)] [] (G := TwoL) (fun d => ⟨d.1.1, d.1.2.1⟩) (fun g => ((g.a, g.b, ()), ())) (fun _ => rfl) (fun x => .det [] [] (.bool (decide (x.a = x.b))) [] []) (own := false) (still := false)
structure At where
  i : Nat
def ann21 (x : TwoL) : Ann where
  loop id := match id with
    | 4 => inv0 { T := At, ok := fun y => y.i ≤ x.a.length ∧ x.a.length = x.b.length ∧ x.a.take y.i = x.b.take y.i, ms := fun y => x.a.length - y.i, tk := [5], tm := fun y => [i64 y.i], hk := [], hp := fun _ => [], mat := [] }
    | _ => none
  cut _ := none
  loose _ := []
def sp7 : Spc := spcOf [] [] (G := Unit) (fun _ => ()) (fun _ => ((), ())) (fun _ => rfl) (fun _ => .det [] [] .tt [] [])
/-- Where a number first stands; -1: nowhere. -/
def idxI (l : List Int) (n : Int) : Int := match l.findIdx? (fun x => decide (x = n)) with
  | some i => (i : Int)
  | none => -1
def RefR.ok (q : RefR) : Prop := 2 ≤ q.pages ∧ q.pages ≤ 64 ∧ q.C.length ≤ 1000000 ∧ q.G.length ≤ 1000000
def RefR.counter (q : RefR) (c : Int) : Int := idxI (q.C.map (·.1)) c
def RefR.group' (q : RefR) (g : Int) : Int := idxI q.G g
def RefR.plan (q : RefR) (c g : Int) : Planned :=
  if c < 1 ∨ 1048576 < c ∨ g < 1 ∨ 1048576 < g then ⟨(0, 0), (0, 0), 4⟩
  else if 0 ≤ q.counter c then ⟨(0, 0), (0, 0), 121⟩
  else if q.pages < nd (q.C.length + 1) 31 + nd (if q.group' g < 0 then q.G.length + 1 else q.G.length) 84 then ⟨(0, 0), (0, 0), 6⟩
  else ⟨wh q.C.length, sm q.pages (if q.group' g < 0 then (q.G.length : Int) else q.group' g), 0⟩
def RefR.takeE (q : RefR) (c g : Int) (w s : Int × Int) : Int := if (q.plan c g).e ≠ 0 then (q.plan c g).e else if (q.plan c g).a ≠ w ∨ (q.plan c g).b ≠ s then 83 else 0
def RefR.take (q : RefR) (c g : Int) (w s : Int × Int) : RefR := if q.takeE c g w s = 0 then ⟨q.pages, q.C ++ [(c, g)], if q.group' g < 0 then q.G ++ [g] else q.G⟩ else q
def RefR.find (q : RefR) (c : Int) : Found :=
  if q.counter c < 0 then ⟨(0, 0), 0, (0, 0), 120⟩
  else ⟨wh (q.counter c), (q.C.getD (q.counter c).toNat (0, 0)).2, sm q.pages (q.group' (q.C.getD (q.counter c).toNat (0, 0)).2), 0⟩
def RefR.group (q : RefR) (g : Int) : Planned := if q.group' g < 0 then ⟨(0, 0), (0, 0), 122⟩ else ⟨sm q.pages (q.group' g), (0, 0), 0⟩
def sp22 : Spc := spcOf [.v kI] [] (G := Num1) (fun d => ⟨d.1.1⟩) (fun g => ((g.v, ()), ())) (fun _ => rfl) (fun x => .or
  (.any [] [] Unit (fun _ => ¬ (2 ≤ x.v ∧ x.v ≤ 64)) (fun _ => .tup [.nptr, i64 2]) (fun _ => []) (fun _ => []))
  (.any [] [] Unit (fun _ => 2 ≤ x.v ∧ x.v ≤ 64) (fun _ => .tup [.ptr 0 0, i64 0]) (fun _ => []) (fun _ => [.cells [i64 x.v, .sl 1, .sl 2], .arr 91 kS [], .arr 3 kI []]))) (own := false) (still := false)
def ann22 (x : Num1) : Ann where
  loop _ := none
  cut _ := none
  loose _ := []
  fin := [.nc (pl 12 0) 1 901 91 kS, .nc (pl 12 0) 2 902 3 kI]
def sp43 : Spc := spcOf [.v kI, .v kI] [] (G := Two) (fun d => ⟨d.1.1, d.1.2.1⟩) (fun g => ((g.a, g.b, ()), ())) (fun _ => rfl) (fun x => .det [0 ≤ x.a, x.a ≤ 1000000000, 0 < x.b, x.b ≤ 1000000000] [] (i64 (nd x.a x.b)) [] []) (own := false) (still := false)
def sp44 : Spc := spcOf [.v kI] [] (G := Num1) (fun d => ⟨d.1.1⟩) (fun g => ((g.v, ()), ())) (fun _ => rfl) (fun x => .det [0 ≤ x.v] [] (slot (wh x.v)) [] []) (own := false) (still := false)
structure RefInt where
  r : RefR
  k : (Int)
def sp45 : Spc := spcOf [.p 0, .v kI] [.cells [.v kI, .s 1, .s 2], .arr 91 kS, .arr 3 kI] (G := RefInt) (fun d => ⟨⟨d.2.1.1, d.2.2.1, d.2.2.2.1⟩, d.1.2.1⟩) (fun g => (((), g.k, ()), ((g.r.pages, (), (), ()), g.r.C, g.r.G, ()))) (fun _ => rfl) (fun x => .det [0 ≤ x.r.pages, x.r.pages ≤ 64, 0 ≤ x.k] [] (slot (sm x.r.pages x.k)) [] []) (own := false) (still := false)
def sp42 : Spc := spcOf [.p 0, .v kI] [.cells [.v kI, .s 1, .s 2], .arr 91 kS, .arr 3 kI] (G := RefInt) (fun d => ⟨⟨d.2.1.1, d.2.2.1, d.2.2.2.1⟩, d.1.2.1⟩) (fun g => (((), g.k, ()), ((g.r.pages, (), (), ()), g.r.C, g.r.G, ()))) (fun _ => rfl) (fun x => .any [] [] Int (fun o => o = x.r.counter x.k) i64 (fun _ => []) (fun _ => [])) (own := false) (still := false)
def sp34 : Spc := spcOf [.p 0, .v kI] [.cells [.v kI, .s 1, .s 2], .arr 91 kS, .arr 3 kI] (G := RefInt) (fun d => ⟨⟨d.2.1.1, d.2.2.1, d.2.2.2.1⟩, d.1.2.1⟩) (fun g => (((), g.k, ()), ((g.r.pages, (), (), ()), g.r.C, g.r.G, ()))) (fun _ => rfl) (fun x => .any [] [] Int (fun o => o = x.r.group' x.k) i64 (fun _ => []) (fun _ => [])) (own := false) (still := false)
def ann42 (x : RefInt) : Ann where
  loop id := match id with
    | 2 => inv0 { T := At, ok := fun y => y.i ≤ x.r.C.length ∧ ∀ p ∈ x.r.C.take y.i, p.1 ≠ x.k, ms := fun y => x.r.C.length - y.i, tk := [5], tm := fun y => [i64 y.i], hk := [], hp := fun _ => [], mat := [] }
    | _ => none
  cut _ := none
  loose _ := []
def ann34 (x : RefInt) : Ann where
  loop id := match id with
    | 2 => inv0 { T := At, ok := fun y => y.i ≤ x.r.G.length ∧ ∀ p ∈ x.r.G.take y.i, p ≠ x.k, ms := fun y => x.r.G.length - y.i, tk := [5], tm := fun y => [i64 y.i], hk := [], hp := fun _ => [], mat := [] }
    | _ => none
  cut _ := none
  loose _ := []
structure RefInt2 where
  r : RefR
  c : (Int)
  g : (Int)
def sp33 : Spc := spcOf [.p 0, .v kI, .v kI] [.cells [.v kI, .s 1, .s 2], .arr 91 kS, .arr 3 kI] (G := RefInt2) (fun d => ⟨⟨d.2.1.1, d.2.2.1, d.2.2.2.1⟩, d.1.2.1, d.1.2.2.1⟩) (fun g => (((), g.c, g.g, ()), ((g.r.pages, (), (), ()), g.r.C, g.r.G, ()))) (fun _ => rfl) (fun x => .any [x.r.ok] [] Planned (fun o => o = x.r.plan x.c x.g) (fun o => .tup [slot o.a, slot o.b, i64 o.e]) (fun _ => []) (fun _ => [])) (own := false) (still := false)
structure RTakeOut where
  e : Int
  r : RefR
structure RefTake where
  r : RefR
  c : (Int)
  g : (Int)
  w : (((Int)) × ((Int)))
  s : (((Int)) × ((Int)))
def sp24 : Spc := spcOf [.p 0, .v kI, .v kI, .v kS, .v kS] [.cells [.v kI, .s 1, .s 2], .arr 91 kS, .arr 3 kI] (G := RefTake) (fun d => ⟨⟨d.2.1.1, d.2.2.1, d.2.2.2.1⟩, d.1.2.1, d.1.2.2.1, d.1.2.2.2.1, d.1.2.2.2.2.1⟩) (fun g => (((), g.c, g.g, g.w, g.s, ()), ((g.r.pages, (), (), ()), g.r.C, g.r.G, ()))) (fun _ => rfl) (fun x => .any [x.r.ok] [0, 1, 2] RTakeOut (fun o => o = ⟨x.r.takeE x.c x.g x.w x.s, x.r.take x.c x.g x.w x.s⟩) (fun o => i64 o.e) (fun o => [.cells [i64 x.r.pages, .sl 1, .sl 2], .arr 91 kS o.r.C, .arr 3 kI o.r.G]) (fun _ => [])) (own := false) (still := false)
/-- The groups of its counters are there. -/
def RefR.whole (q : RefR) : Prop := ∀ p ∈ q.C, p.2 ∈ q.G
def sp35 : Spc := spcOf [.p 0, .v kI] [.cells [.v kI, .s 1, .s 2], .arr 91 kS, .arr 3 kI] (G := RefInt) (fun d => ⟨⟨d.2.1.1, d.2.2.1, d.2.2.2.1⟩, d.1.2.1⟩) (fun g => (((), g.k, ()), ((g.r.pages, (), (), ()), g.r.C, g.r.G, ()))) (fun _ => rfl) (fun x => .any [x.r.ok ∧ x.r.whole] [] Found (fun o => o = x.r.find x.k) (fun o => .tup [slot o.a, i64 o.g, slot o.b, i64 o.e]) (fun _ => []) (fun _ => [])) (own := false) (still := false)
def sp36 : Spc := spcOf [.p 0, .v kI] [.cells [.v kI, .s 1, .s 2], .arr 91 kS, .arr 3 kI] (G := RefInt) (fun d => ⟨⟨d.2.1.1, d.2.2.1, d.2.2.2.1⟩, d.1.2.1⟩) (fun g => (((), g.k, ()), ((g.r.pages, (), (), ()), g.r.C, g.r.G, ()))) (fun _ => rfl) (fun x => .any [x.r.ok] [] Planned (fun o => o = x.r.group x.k) (fun o => .tup [slot o.a, i64 o.e]) (fun _ => []) (fun _ => [])) (own := false) (still := false)
structure RiArg where
  l : List ((Int))
def sp46 : Spc := spcOf [.v (.slice kI)] [] (G := RiArg) (fun d => ⟨d.1.1⟩) (fun g => ((g.l, ()), ())) (fun _ => rfl) (fun x => .any [x.l.length ≤ 1000000] [] (List Int) (fun o => o = rising x.l) (fun _ => .sl 0) (fun _ => []) (fun o => [.arr 3 kI o])) (lends := true) (lendsOk := by intro _ g; simp only [Con.ownedAll]; (repeat' apply And.intro) <;> first | rfl | (intro _; rfl)) (own := false) (still := false)
structure RiAt where
  i : Nat
  xs : List Int
structure RjAt where
  k : Nat
  xs : List Int
def ann46 (x : RiArg) : Ann where
  loop id := match id with
    | 3 => inv0 { T := RiAt, ok := fun y => y.i ≤ x.l.length ∧ y.xs.Perm (x.l.take y.i) ∧ y.xs.Pairwise (· ≤ ·), ms := fun y => x.l.length - y.i, tk := [4, 3], tm := fun y => [i64 y.i, .sl 900], hk := [900], hp := fun y => [.arr 3 kI y.xs], mat := [(3, 900, 3, kI)] }
    | 7 => some ([5, 3], fun st => byInt st 4 fun n => { T := RjAt, ok := fun y => y.k ≤ n.toNat ∧ y.xs.Perm (x.l.take (n.toNat + 1)) ∧ ∃ a v b, y.xs = a ++ v :: b ∧ a.length = y.k ∧ (a ++ b).Pairwise (· ≤ ·) ∧ ∀ w ∈ b, v < w, ms := fun y => y.k, tk := [5, 3], tm := fun y => [i64 y.k, .sl 900], hk := [900], hp := fun y => [.arr 3 kI y.xs], mat := [] })
    | _ => none
  cut _ := none
  loose id := match id with
    | 8 => [900]
    | _ => []
structure RefOnly where
  r : RefR
def sp37 : Spc := spcOf [.p 0] [.cells [.v kI, .s 1, .s 2], .arr 91 kS, .arr 3 kI] (G := RefOnly) (fun d => ⟨⟨d.2.1.1, d.2.2.1, d.2.2.2.1⟩⟩) (fun g => (((), ()), ((g.r.pages, (), (), ()), g.r.C, g.r.G, ()))) (fun _ => rfl) (fun x => .any [x.r.ok] [] (List Int) (fun o => o = rising (x.r.C.map (·.1))) (fun _ => .sl 3) (fun _ => []) (fun o => [.arr 3 kI o])) (own := false) (still := false)
def ann37 (x : RefOnly) : Ann where
  loop id := match id with
    | 3 => inv0 { T := At, ok := fun y => y.i ≤ x.r.C.length, ms := fun y => x.r.C.length - y.i, tk := [4, 3], tm := fun y => [i64 y.i, .sl 900], hk := [900], hp := fun y => [.arr 3 kI ((x.r.C.take y.i).map (·.1))], mat := [(3, 900, 3, kI)] }
    | _ => none
  cut _ := none
  loose _ := []
def sp38 : Spc := spcOf [.p 0] [.cells [.v kI, .s 1, .s 2], .arr 91 kS, .arr 3 kI] (G := RefOnly) (fun d => ⟨⟨d.2.1.1, d.2.2.1, d.2.2.2.1⟩⟩) (fun g => (((), ()), ((g.r.pages, (), (), ()), g.r.C, g.r.G, ()))) (fun _ => rfl) (fun x => .any [x.r.ok] [] (List Int) (fun o => o = rising x.r.G) (fun _ => .sl 3) (fun _ => []) (fun o => [.arr 3 kI o])) (own := false) (still := false)
abbrev kR1 : Ty := .ref 1
abbrev kR2 : Ty := .ref 2
abbrev kOp : Ty := (.pair kI (.pair .bool (.pair kI (.pair kI (.pair kS (.pair kS kI))))))
structure Tbl where
  a : (Nat)
  b : (Nat)
  c : (Nat)
  d : (Nat)
  L : List ((Lh))
  M : List ((Lh))
abbrev Tbl.at (r : Tbl) (n : Nat) : List Itm := [.cells (Ty.enc kR1 r.a ++ Ty.enc kR1 r.b ++ Ty.enc kR2 r.c ++ Ty.enc kR2 r.d ++ [.sl (n + 1)] ++ [.sl (n + 2)]), .arr 56 kH r.L, .arr 56 kH r.M]
abbrev hRegP : List HT := [.cells [.v kI, .m 1, .m 2], .mapo kI kS, .mapo kI kI]
abbrev RegP : Type := List (Nat × HTden hRegP)
abbrev ofRegP (d : HTden hRegP) : Reg := ⟨d.1.1, d.2.1, d.2.2.1⟩
abbrev toRegP (d : Reg) : HTden hRegP := ((d.pages, (), (), ()), d.E, d.M, ())
abbrev hRefP : List HT := [.cells [.v kI, .s 1, .s 2], .arr 91 kS, .arr 3 kI]
abbrev RefP : Type := List (Nat × HTden hRefP)
abbrev ofRefP (d : HTden hRefP) : RefR := ⟨d.1.1, d.2.1, d.2.2.1⟩
abbrev toRefP (d : RefR) : HTden hRefP := ((d.pages, (), (), ()), d.C, d.G, ())
abbrev LsP : Type := List (Nat × Nat × List ((Int)))
abbrev mk12 (k : Nat) : Int := -1 - (k : Int)
/-- A registry and the document's: alike. -/
structure Alike (r : Reg) (q : RefR) : Prop where
  pg : r.pages = q.pages
  p2 : 2 ≤ q.pages
  p64 : q.pages ≤ 64
  e : r.E = (List.range q.C.length).map fun i => ((q.C.getD i (0, 0)).1, ((i : Int), (q.C.getD i (0, 0)).2))
  m : r.M = (List.range q.G.length).map fun i => (q.G.getD i 0, (i : Int))
  ndC : (q.C.map (·.1)).Nodup
  ndG : q.G.Nodup
  whole : q.whole
  lc : q.C.length ≤ 1984
  lg : q.G.length ≤ 5376
def Pr (p r : Nat) (es : RegP) (rs : RefP) : Prop := ∃ g q, pget es p = some (toRegP g) ∧ pget rs r = some (toRefP q) ∧ Alike g q
/-- The two of a table, each beside the document's. -/
structure TwoOk (t : Tbl) (es : RegP) (rs : RefP) : Prop where
  ac : Pr t.a t.c es rs
  bd : Pr t.b t.d es rs
  ab : t.a ≠ t.b
  cd : t.c ≠ t.d
  es : PoolOk es
  rs : PoolOk rs
/-- The same, of a table that may still lack one. -/
structure PreOk (t : Tbl) (es : RegP) (rs : RefP) : Prop where
  ac : (t.a = 0 ∧ t.c = 0) ∨ Pr t.a t.c es rs
  bd : (t.b = 0 ∧ t.d = 0) ∨ Pr t.b t.d es rs
  ab : t.a = t.b → t.a = 0
  cd : t.c = t.d → t.c = 0
  es : PoolOk es
  rs : PoolOk rs
structure BegOut where
  t : Tbl
  es : RegP
  rs : RefP
structure PsOut where
  es : RegP
  rs : RefP
structure TblOut where
  t : Tbl
  es : RegP
  rs : RefP
  ls : LsP
abbrev tblC (t : Tbl) : Itm := .cells [.ref 1 t.a, .ref 1 t.b, .ref 2 t.c, .ref 2 t.d, .sl 1, .sl 2]
abbrev poE (es : RegP) : Itm := .pool 1 hRegP es []
abbrev poR (rs : RefP) : Itm := .pool 2 hRefP rs []
abbrev poL (ls : LsP) : Itm := .apool 3 3 kI ls
abbrev W01 (w : Int) : Prop := w = 0 ∨ w = 1
def BegPost (t : Tbl) (w n : Int) (o : BegOut) : Prop := PreOk o.t o.es o.rs ∧ o.t.L = t.L ∧ o.t.M = t.M ∧ (t.a ≠ 0 ∨ (w = 0 ∧ 2 ≤ n ∧ n ≤ 64) → o.t.a ≠ 0) ∧ (t.b ≠ 0 ∨ (w = 1 ∧ 2 ≤ n ∧ n ≤ 64) → o.t.b ≠ 0)
structure BegArg where
  t : Tbl
  w : (Int)
  n : (Int)
  es : RegP
  rs : RefP
def sp8 : Spc := spcOfP [.p 0, .v kI, .v kI] [.cells [.v kR1, .v kR1, .v kR2, .v kR2, .s 1, .s 2], .arr 56 kH, .arr 56 kH] [.pool 1 hRegP, .pool 2 hRefP] (G := BegArg) (fun d => ⟨⟨d.2.1.1.1, d.2.1.1.2.1, d.2.1.1.2.2.1, d.2.1.1.2.2.2.1, d.2.1.2.1, d.2.1.2.2.1⟩, d.1.2.1, d.1.2.2.1, d.2.2.1, d.2.2.2.1⟩) (fun g => (((), g.w, g.n, ()), ((g.t.a, g.t.b, g.t.c, g.t.d, (), (), ()), g.t.L, g.t.M, ()), (g.es, g.rs, ()))) (fun _ => rfl) (fun x => .any [W01 x.w, PreOk x.t x.es x.rs] [0, 3, 4] BegOut (BegPost x.t x.w x.n) (fun _ => .tt) (fun o => [tblC o.t, poE o.es, poR o.rs]) (fun _ => [])) (own := false) (still := false) (raw := false)
def ann8 (x : BegArg) : Ann where
  loop _ := none
  cut _ := none
  loose _ := []
  ghost id := match id with
    | 5 => [.pk (pl 13 0) 1 [pl 13 0, pl 13 1, pl 13 2] [7], .pk (pl 18 0) 2 [pl 18 0, pl 18 1, pl 18 2] [9]]
    | 6 => [.cs 1 [0, 1]]
    | _ => []
structure PlnArg where
  t : Tbl
  w : (Int)
  c : (Int)
  g : (Int)
  es : RegP
  rs : RefP
def sp23 : Spc := spcOfP [.p 0, .v kI, .v kI, .v kI] [.cells [.v kR1, .v kR1, .v kR2, .v kR2, .s 1, .s 2], .arr 56 kH, .arr 56 kH] [.pool 1 hRegP, .pool 2 hRefP] (G := PlnArg) (fun d => ⟨⟨d.2.1.1.1, d.2.1.1.2.1, d.2.1.1.2.2.1, d.2.1.1.2.2.2.1, d.2.1.2.1, d.2.1.2.2.1⟩, d.1.2.1, d.1.2.2.1, d.1.2.2.2.1, d.2.2.1, d.2.2.2.1⟩) (fun g => (((), g.w, g.c, g.g, ()), ((g.t.a, g.t.b, g.t.c, g.t.d, (), (), ()), g.t.L, g.t.M, ()), (g.es, g.rs, ()))) (fun _ => rfl) (fun x => .det [W01 x.w, TwoOk x.t x.es x.rs] [3, 4] .tt [poE x.es, poR x.rs] []) (own := false) (still := false) (raw := false)
def annCs (id0 : Nat) (ls : List Nat) (lo : Nat → List Nat) : Ann where
  loop _ := none
  cut _ := none
  loose := lo
  ghost id := bif Nat.beq id id0 then [.cs 1 [0, 1]] else []
def ann23 (x : PlnArg) : Ann := annCs 1 [] fun _ => []
def sp25 : Spc := spcOfP [.p 0, .v kI, .v kI, .v kI] [.cells [.v kR1, .v kR1, .v kR2, .v kR2, .s 1, .s 2], .arr 56 kH, .arr 56 kH] [.pool 1 hRegP, .pool 2 hRefP] (G := PlnArg) (fun d => ⟨⟨d.2.1.1.1, d.2.1.1.2.1, d.2.1.1.2.2.1, d.2.1.1.2.2.2.1, d.2.1.2.1, d.2.1.2.2.1⟩, d.1.2.1, d.1.2.2.1, d.1.2.2.2.1, d.2.2.1, d.2.2.2.1⟩) (fun g => (((), g.w, g.c, g.g, ()), ((g.t.a, g.t.b, g.t.c, g.t.d, (), (), ()), g.t.L, g.t.M, ()), (g.es, g.rs, ()))) (fun _ => rfl) (fun x => .any [W01 x.w, TwoOk x.t x.es x.rs] [3, 4] PsOut (fun o => TwoOk x.t o.es o.rs) (fun _ => .tt) (fun o => [poE o.es, poR o.rs]) (fun _ => [])) (own := false) (still := false) (raw := false)
def ann25 (x : PlnArg) : Ann := annCs 1 [] fun id => match id with
  | 2 => [3, 4]
  | _ => []
def sp26 : Spc := spcOfP [.p 0, .v kI, .v kI, .v kI] [.cells [.v kR1, .v kR1, .v kR2, .v kR2, .s 1, .s 2], .arr 56 kH, .arr 56 kH] [.pool 1 hRegP, .pool 2 hRefP] (G := PlnArg) (fun d => ⟨⟨d.2.1.1.1, d.2.1.1.2.1, d.2.1.1.2.2.1, d.2.1.1.2.2.2.1, d.2.1.2.1, d.2.1.2.2.1⟩, d.1.2.1, d.1.2.2.1, d.1.2.2.2.1, d.2.2.1, d.2.2.2.1⟩) (fun g => (((), g.w, g.c, g.g, ()), ((g.t.a, g.t.b, g.t.c, g.t.d, (), (), ()), g.t.L, g.t.M, ()), (g.es, g.rs, ()))) (fun _ => rfl) (fun x => .det [W01 x.w, TwoOk x.t x.es x.rs] [3, 4] .tt [poE x.es, poR x.rs] []) (own := false) (still := false) (raw := false)
def regW (t : Tbl) (es : RegP) (w : Int) : Reg := ofRegP ((pget es (if w = 0 then t.a else t.b)).getD (HTdflt hRegP))
def refW (t : Tbl) (rs : RefP) (w : Int) : RefR := ofRefP ((pget rs (if w = 0 then t.c else t.d)).getD (HTdflt hRefP))
def ann26 (x : PlnArg) : Ann where
  loop _ := none
  cut id := match id with
    | 2 => inv0 { T := Found, ok := fun y => y = (regW x.t x.es x.w).find x.c, ms := fun _ => 0, tk := [1, 9, 10, 11, 12], tm := fun y => [i64 x.w, .ptr (pl 9 0) 0, i64 y.g, .ptr (pl 11 0) 0, i64 y.e], hk := [3, 4, pl 9 0, pl 11 0], hp := fun y => [poE x.es, poR x.rs, .cells [i64 y.a.1, i64 y.a.2], .cells [i64 y.b.1, i64 y.b.2]], mat := [] }
    | 3 => inv0 { T := Found, ok := fun y => y = (refW x.t x.rs x.w).find x.c, ms := fun _ => 0, tk := [1, 13, 14, 15, 16], tm := fun y => [i64 x.w, .ptr (pl 13 0) 0, i64 y.g, .ptr (pl 15 0) 0, i64 y.e], hk := [3, 4, pl 13 0, pl 15 0], hp := fun y => [poE x.es, poR x.rs, .cells [i64 y.a.1, i64 y.a.2], .cells [i64 y.b.1, i64 y.b.2]], mat := [] }
    | 4 => inv0 { T := Planned, ok := fun y => y = (regW x.t x.es x.w).group x.g, ms := fun _ => 0, tk := [1, 17, 18], tm := fun y => [i64 x.w, .ptr (pl 17 0) 0, i64 y.e], hk := [3, 4, pl 17 0], hp := fun y => [poE x.es, poR x.rs, .cells [i64 y.a.1, i64 y.a.2]], mat := [] }
    | 5 => inv0 { T := Planned, ok := fun y => y = (refW x.t x.rs x.w).group x.g, ms := fun _ => 0, tk := [1, 19, 20], tm := fun y => [i64 x.w, .ptr (pl 19 0) 0, i64 y.e], hk := [3, 4, pl 19 0], hp := fun y => [poE x.es, poR x.rs, .cells [i64 y.a.1, i64 y.a.2]], mat := [] }
    | _ => none
  loose _ := []
  ghost id := match id with
    | 1 => [.cs 1 [0, 1]]
    | 2 => [.cs 1 [0, 1]]
    | 3 => [.cs 1 [0, 1]]
    | 4 => [.cs 1 [0, 1]]
    | _ => []
abbrev KeepOut : Type := KeepO Int
abbrev KeepPre (L M : List Lh) (ls : LsP) (l : Lh) : Prop := KeepPreG mk12 L M ls l
abbrev KeepPost (L M : List Lh) (ls : LsP) (l : Lh) (o : KeepOut) : Prop := KeepPostG mk12 L M ls l o
structure KpArg where
  b : Tbl
  l : (Lh)
  ls : LsP
def sp39 : Spc := spcOfP [.po 0 4, .v kH] [.cells [.v kR1, .v kR1, .v kR2, .v kR2, .s 1, .s 2], .arr 56 kH, .arr 56 kH] [.apool 3 3 kI] (G := KpArg) (fun d => ⟨⟨d.2.1.1.1, d.2.1.1.2.1, d.2.1.1.2.2.1, d.2.1.1.2.2.2.1, d.2.1.2.1, d.2.1.2.2.1⟩, d.1.2.1, d.2.2.1⟩) (fun g => (((), g.l, ()), ((g.b.a, g.b.b, g.b.c, g.b.d, (), (), ()), g.b.L, g.b.M, ()), (g.ls, ()))) (fun _ => rfl) (fun x => .any [KeepPre x.b.L x.b.M x.ls x.l] [0, 1, 2, 3] KeepOut (KeepPost x.b.L x.b.M x.ls x.l) (fun _ => .tup []) (fun o => [tblC x.b, .arr 56 kH o.L, .arr 56 kH o.M, poL o.ls]) (fun _ => [])) (own := true) (still := false) (raw := false)
structure KwAt where
  i : Nat
  ls : LsP
def ann39 (x : KpArg) : Ann where
  loop id := match id with
    | 2 => inv0 { T := KwAt, ok := fun y => y.i ≤ x.l.n ∧ BookOk mk12 y.ls x.b.L x.b.M ∧ Wr y.ls x.l (mk12 x.b.L.length) y.i ∧ ∀ b, b ≠ x.l.b → SameAt x.ls y.ls b, ms := fun y => x.l.n - y.i, tk := [5], tm := fun y => [i64 y.i], hk := [3], hp := fun y => [poL y.ls], mat := [] }
    | _ => none
  cut _ := none
  loose id := match id with
    | 6 => [0, 1, 2, 3]
    | _ => []
structure HoArg where
  b : Tbl
  ls : LsP
def sp10 : Spc := spcOfP [.po 0 4] [.cells [.v kR1, .v kR1, .v kR2, .v kR2, .s 1, .s 2], .arr 56 kH, .arr 56 kH] [.apool 3 3 kI] (G := HoArg) (fun d => ⟨⟨d.2.1.1.1, d.2.1.1.2.1, d.2.1.1.2.2.1, d.2.1.1.2.2.2.1, d.2.1.2.1, d.2.1.2.2.1⟩, d.2.2.1⟩) (fun g => (((), ()), ((g.b.a, g.b.b, g.b.c, g.b.d, (), (), ()), g.b.L, g.b.M, ()), (g.ls, ()))) (fun _ => rfl) (fun x => .det [BookOk mk12 x.ls x.b.L x.b.M, x.b.L.length ≤ 1000] [] .tt [] []) (own := false) (still := false) (raw := false)
structure HjAt where
  j : Nat
def ann10 (x : HoArg) : Ann where
  loop id := match id with
    | 2 => inv0 { T := At, ok := fun y => y.i ≤ x.b.L.length, ms := fun y => x.b.L.length - y.i, tk := [3], tm := fun y => [i64 y.i], hk := [], hp := fun _ => [], mat := [] }
    | 5 => some ([4], fun st => byInt st 3 fun n => { T := HjAt, ok := fun y => y.j ≤ (x.b.M.getD n.toNat Lh.nil).n, ms := fun y => (x.b.M.getD n.toNat Lh.nil).n - y.j, tk := [4], tm := fun y => [i64 y.j], hk := [], hp := fun _ => [], mat := [] })
    | _ => none
  cut _ := none
  loose _ := []
def TblPre (t : Tbl) (es : RegP) (rs : RefP) (ls : LsP) : Prop := TwoOk t es rs ∧ BookOk mk12 ls t.L t.M ∧ t.L.length ≤ 600
def TblPost (t : Tbl) (o : TblOut) : Prop := TwoOk o.t o.es o.rs ∧ BookOk mk12 o.ls o.t.L o.t.M ∧ o.t.L.length ≤ t.L.length + 4
structure LsArg where
  t : Tbl
  w : (Int)
  es : RegP
  rs : RefP
  ls : LsP
def sp27 : Spc := spcOfP [.p 0, .v kI] [.cells [.v kR1, .v kR1, .v kR2, .v kR2, .s 1, .s 2], .arr 56 kH, .arr 56 kH] [.pool 1 hRegP, .pool 2 hRefP, .apool 3 3 kI] (G := LsArg) (fun d => ⟨⟨d.2.1.1.1, d.2.1.1.2.1, d.2.1.1.2.2.1, d.2.1.1.2.2.2.1, d.2.1.2.1, d.2.1.2.2.1⟩, d.1.2.1, d.2.2.1, d.2.2.2.1, d.2.2.2.2.1⟩) (fun g => (((), g.w, ()), ((g.t.a, g.t.b, g.t.c, g.t.d, (), (), ()), g.t.L, g.t.M, ()), (g.es, g.rs, g.ls, ()))) (fun _ => rfl) (fun x => .any [W01 x.w, TblPre x.t x.es x.rs x.ls] [0, 1, 2, 3, 4, 5] KeepOut (fun o => BookOk mk12 o.ls o.L o.M ∧ o.L.length = x.t.L.length + 4) (fun _ => .tt) (fun o => [tblC x.t, .arr 56 kH o.L, .arr 56 kH o.M, poE x.es, poR x.rs, poL o.ls]) (fun _ => [])) (own := false) (still := false) (raw := false)
structure LiAt where
  l : List Int
def lsW (x : LsArg) (t u : Nat) (l : List Int) : Inv := { T := LiAt, ok := fun y => y.l = l, ms := fun _ => 0, tk := [1, t], tm := fun y => [i64 x.w, .sl (pl u 0)], hk := [3, 4, pl u 0], hp := fun y => [poE x.es, poR x.rs, .arr 3 kI y.l], mat := [] }
def ann27 (x : LsArg) : Ann where
  loop _ := none
  cut id := match id with
    | 2 => inv0 (lsW x 5 16 (rising (keysOf (regW x.t x.es x.w).E)))
    | 3 => inv0 (lsW x 6 23 (rising (keysOf (regW x.t x.es x.w).E)))
    | 4 => inv0 (lsW x 7 30 (rising (keysOf (regW x.t x.es x.w).M)))
    | 5 => inv0 (lsW x 8 37 (rising (keysOf (regW x.t x.es x.w).M)))
    | 6 => inv0 { T := LiAt, ok := fun y => y.l = [], ms := fun _ => 0, tk := [1, 9], tm := fun y => [i64 x.w, .tt], hk := [3, 4], hp := fun y => [poE x.es, poR x.rs], mat := [] }
    | _ => none
  loose _ := []
  ghost id := match id with
    | 1 => [.cs 1 [0, 1]]
    | 2 => [.cs 1 [0, 1]]
    | 3 => [.cs 1 [0, 1]]
    | 4 => [.cs 1 [0, 1]]
    | 5 => [.cs 1 [0, 1]]
    | 6 => [.pl (pl 16 0) 3 [5], .pl (pl 23 0) 3 [6], .pl (pl 30 0) 3 [7], .pl (pl 37 0) 3 [8]]
    | _ => []
structure MnArg where
  t : Tbl
  w : (Int)
  o : (((Int)) × (Bool) × ((Int)) × ((Int)) × ((((Int)) × ((Int)))) × ((((Int)) × ((Int)))) × ((Int)))
  es : RegP
  rs : RefP
def sp28 : Spc := spcOfP [.p 0, .v kI, .v kOp] [.cells [.v kR1, .v kR1, .v kR2, .v kR2, .s 1, .s 2], .arr 56 kH, .arr 56 kH] [.pool 1 hRegP, .pool 2 hRefP] (G := MnArg) (fun d => ⟨⟨d.2.1.1.1, d.2.1.1.2.1, d.2.1.1.2.2.1, d.2.1.1.2.2.2.1, d.2.1.2.1, d.2.1.2.2.1⟩, d.1.2.1, d.1.2.2.1, d.2.2.1, d.2.2.2.1⟩) (fun g => (((), g.w, g.o, ()), ((g.t.a, g.t.b, g.t.c, g.t.d, (), (), ()), g.t.L, g.t.M, ()), (g.es, g.rs, ()))) (fun _ => rfl) (fun x => .any [W01 x.w, TwoOk x.t x.es x.rs] [3, 4] PsOut (fun o => TwoOk x.t o.es o.rs) (fun _ => .tt) (fun o => [poE o.es, poR o.rs]) (fun _ => [])) (own := false) (still := false) (raw := false)
structure MnAt where
  i : Nat
  es : RegP
  rs : RefP
def ann28 (x : MnArg) : Ann where
  loop id := match id with
    | 2 => inv0 { T := MnAt, ok := fun y => y.i ≤ 400 ∧ TwoOk x.t y.es y.rs, ms := fun y => 400 - y.i, tk := [7], tm := fun y => [i64 y.i], hk := [3, 4], hp := fun y => [poE y.es, poR y.rs], mat := [] }
    | _ => none
  cut _ := none
  loose _ := []
structure PyArg where
  t : Tbl
  o : (((Int)) × (Bool) × ((Int)) × ((Int)) × ((((Int)) × ((Int)))) × ((((Int)) × ((Int)))) × ((Int)))
  es : RegP
  rs : RefP
  ls : LsP
def sp9 : Spc := spcOfP [.p 0, .v kOp] [.cells [.v kR1, .v kR1, .v kR2, .v kR2, .s 1, .s 2], .arr 56 kH, .arr 56 kH] [.pool 1 hRegP, .pool 2 hRefP, .apool 3 3 kI] (G := PyArg) (fun d => ⟨⟨d.2.1.1.1, d.2.1.1.2.1, d.2.1.1.2.2.1, d.2.1.1.2.2.2.1, d.2.1.2.1, d.2.1.2.2.1⟩, d.1.2.1, d.2.2.1, d.2.2.2.1, d.2.2.2.2.1⟩) (fun g => (((), g.o, ()), ((g.t.a, g.t.b, g.t.c, g.t.d, (), (), ()), g.t.L, g.t.M, ()), (g.es, g.rs, g.ls, ()))) (fun _ => rfl) (fun x => .any [TblPre x.t x.es x.rs x.ls] [0, 1, 2, 3, 4, 5] TblOut (TblPost x.t) (fun _ => .tt) (fun o => [tblC o.t, .arr 56 kH o.t.L, .arr 56 kH o.t.M, poE o.es, poR o.rs, poL o.ls]) (fun _ => [])) (own := false) (still := false) (raw := false)
structure WAt where
  w : Int
def ann9 (x : PyArg) : Ann where
  loop _ := none
  cut id := match id with
    | 4 => inv0 { T := WAt, ok := fun y => W01 y.w, ms := fun _ => 0, tk := [5], tm := fun y => [i64 y.w], hk := [], hp := fun _ => [], mat := [] }
    | _ => none
  loose id := match id with
    | 10 => [3, 4]
    | _ => []
  ghost id := match id with
    | 10 => [.cs 5 [0, 1]]
    | _ => []
structure ExArg where
  s : List ((((Int)) × (Bool) × ((Int)) × ((Int)) × ((((Int)) × ((Int)))) × ((((Int)) × ((Int)))) × ((Int))))
def sp3 : Spc := spcOf [.v (.slice kOp)] [] (G := ExArg) (fun d => ⟨d.1.1⟩) (fun g => ((g.s, ()), ())) (fun _ => rfl) (fun x => .det [] [] (.bool true) [] []) (own := false) (still := false)
structure ExAt where
  i : Nat
  o : TblOut
def ann3 (x : ExArg) : Ann where
  loop id := match id with
    | 7 => inv0 { T := ExAt, ok := fun y => y.i ≤ 100 ∧ y.i ≤ x.s.length ∧ TwoOk y.o.t y.o.es y.o.rs ∧ BookOk mk12 y.o.ls y.o.t.L y.o.t.M ∧ y.o.t.L.length ≤ 4 * y.i, ms := fun y => x.s.length - y.i, tk := [4], tm := fun y => [i64 y.i], hk := [pl 9 0, 904, 905, 901, 902, 903], hp := fun y => [.cells [.ref 1 y.o.t.a, .ref 1 y.o.t.b, .ref 2 y.o.t.c, .ref 2 y.o.t.d, .sl 904, .sl 905], .arr 56 kH y.o.t.L, .arr 56 kH y.o.t.M, poE y.o.es, poR y.o.rs, poL y.o.ls], mat := [] }
    | _ => none
  cut _ := none
  loose _ := []
  ghost id := match id with
    | 4 => [.np 901 1 hRegP, .np 902 2 hRefP, .na 903 3 3 kI, .nc (pl 9 0) 4 904 56 kH, .nc (pl 9 0) 5 905 56 kH]
    | _ => []
end Go.Proofs.Ytkhcphdnppdfjaa.VC

