/- What is said of what a record does to a page. Definitions alone; no conditions. -/
import Derived.Test.YtaomhhamepalmaaWf
set_option linter.unusedVariables false
namespace Go.Proofs.Ytaomhhamepalmaa.VC
open Go

abbrev kI : Ty := .int .i64
abbrev kU : Ty := .int .u64
abbrev kS : Ty := (.pair kI kI)
abbrev kC : Ty := (.pair kI (.pair kI (.pair (.pair kI kI) kI)))
abbrev kG : Ty := (.pair kI kI)
abbrev kL : Ty := (.pair kI (.pair kI (.pair .bool .bool)))
abbrev kD : Ty := (.pair kI kI)
abbrev kP : Ty := (.pair (.slice kL) (.pair (.slice kD) kI))
abbrev kR : Ty := (.pair kI (.pair kI (.pair kI (.pair kI (.pair kS (.pair kS (.pair kI (.pair kC kP))))))))
abbrev kW : Ty := (.pair kI kU)
abbrev kPG : Ty := (.pair kI (.pair kI (.pair (.slice kC) (.slice kG))))
abbrev Cn : Type := Int × Int × (Int × Int) × Int
abbrev Gr : Type := Int × Int
abbrev Rc : Type := Int × Int × Int × Int × (Int × Int) × (Int × Int) × Int × Cn × (List (Int × Int × Bool × Bool) × List (Int × Int) × Int)
abbrev Pg : Type := Int × Int × List Cn × List Gr
abbrev Rc.lsn (r : Rc) : Int := r.1
abbrev Rc.kind (r : Rc) : Int := r.2.1
abbrev Rc.wp (r : Rc) : Int := r.2.2.2.2.1.1
abbrev Rc.wi (r : Rc) : Int := r.2.2.2.2.1.2
abbrev Rc.sp (r : Rc) : Int := r.2.2.2.2.2.1.1
abbrev Rc.si (r : Rc) : Int := r.2.2.2.2.2.1.2
abbrev Rc.delta (r : Rc) : Int := r.2.2.2.2.2.2.1
abbrev Rc.c (r : Rc) : Cn := r.2.2.2.2.2.2.2.1

def Num (x : Int) : Prop := -9223372036854775808 ≤ x ∧ x ≤ 9223372036854775807
instance (x : Int) : Decidable (Num x) := inferInstanceAs (Decidable (_ ∧ _))
def ans (x : Int) : Int × Int := if Num x then (x, 0) else (0, 10)
def hiW (x : Int) : Int := x / 18446744073709551616
def loW (x : Int) : Int := x % 18446744073709551616
def wval (w : Int × Int) : Int := w.1 * 18446744073709551616 + w.2
abbrev wdA (n : Int) : AV := .agg [i64 (hiW n), .int .u64 (loW n)]
abbrev ansA (o : Int × Int) : AV := .tup [i64 o.1, i64 o.2]
structure Num1 where
  v : (Int)
def sp39 : Spc := spcOf [.v kI] [] (G := Num1) (fun d => ⟨d.1.1⟩) (fun g => ((g.v, ()), ())) (fun _ => rfl) (fun x => .det [] [] (wdA x.v) [] []) (own := false) (still := false)
structure WV where
  w : (((Int)) × ((Int)))
  v : (Int)
def sp40 : Spc := spcOf [.v kW, .v kI] [] (G := WV) (fun d => ⟨d.1.1, d.1.2.1⟩) (fun g => ((g.w, g.v, ()), ())) (fun _ => rfl) (fun x => .det [-4611686018427387904 ≤ x.w.1, x.w.1 ≤ 4611686018427387904] [] (wdA (wval x.w + x.v)) [] []) (own := false) (still := false)
def sp42 : Spc := spcOf [.v kW, .v kI] [] (G := WV) (fun d => ⟨d.1.1, d.1.2.1⟩) (fun g => ((g.w, g.v, ()), ())) (fun _ => rfl) (fun x => .det [-4611686018427387904 ≤ x.w.1, x.w.1 ≤ 4611686018427387904] [] (wdA (wval x.w - x.v)) [] []) (own := false) (still := false)
structure W1 where
  w : (((Int)) × ((Int)))
def sp41 : Spc := spcOf [.v kW] [] (G := W1) (fun d => ⟨d.1.1⟩) (fun g => ((g.w, ()), ())) (fun _ => rfl) (fun x => .any [] [] (Int × Int) (fun o => o = ans (wval x.w)) ansA (fun _ => []) (fun _ => [])) (own := false) (still := false)
structure Two where
  a : (Int)
  b : (Int)
def sp29 : Spc := spcOf [.v kI, .v kI] [] (G := Two) (fun d => ⟨d.1.1, d.1.2.1⟩) (fun g => ((g.a, g.b, ()), ())) (fun _ => rfl) (fun x => .any [] [] (Int × Int) (fun o => o = ans (x.a + x.b)) ansA (fun _ => []) (fun _ => [])) (own := false) (still := false)
def sp30 : Spc := spcOf [.v kI, .v kI] [] (G := Two) (fun d => ⟨d.1.1, d.1.2.1⟩) (fun g => ((g.a, g.b, ()), ())) (fun _ => rfl) (fun x => .any [] [] (Int × Int) (fun o => o = ans (x.a - x.b)) ansA (fun _ => []) (fun _ => [])) (own := false) (still := false)
def stepV (k d v : Int) : Int × Int := if k = 30 then ans (v - d) else ans (v + d)
structure StepArg where
  v : Int
  r : Rc
def sp31a : Spc := spcOf [.v kI, .p 0, .p 1] [.cells [.fn0 29], .cells [.v kR]] (G := StepArg) (fun d => ⟨d.1.1, d.2.2.1.1⟩) (fun g => ((g.v, (), (), ()), (((), ()), (g.r, ()), ()))) (fun _ => rfl) (fun x => .any [] [] (Int × Int) (fun o => o = stepV 29 x.r.2.2.2.2.2.2.1 x.v) ansA (fun _ => []) (fun _ => []))
def sp31b : Spc := spcOf [.v kI, .p 0, .p 1] [.cells [.fn0 30], .cells [.v kR]] (G := StepArg) (fun d => ⟨d.1.1, d.2.2.1.1⟩) (fun g => ((g.v, (), (), ()), (((), ()), (g.r, ()), ()))) (fun _ => rfl) (fun x => .any [] [] (Int × Int) (fun o => o = stepV 30 x.r.2.2.2.2.2.2.1 x.v) ansA (fun _ => []) (fun _ => []))
def sp43 : Spc := spcOf [.v kI, .p 0] [.cells [.v kR]] (G := StepArg) (fun d => ⟨d.1.1, d.2.1.1⟩) (fun g => ((g.v, (), ()), ((g.r, ()), ()))) (fun _ => rfl) (fun x => .any [] [] (Int × Int) (fun o => o = ans (x.v + x.r.2.2.2.2.2.2.2.1.2.2.2)) ansA (fun _ => []) (fun _ => []))
structure Cs where
  l : List ((((Int)) × ((Int)) × (((Int)) × ((Int))) × ((Int))))
def sp37 : Spc := spcOf [.v (.slice kC)] [] (G := Cs) (fun d => ⟨d.1.1⟩) (fun g => ((g.l, ()), ())) (fun _ => rfl) (fun x => .det [x.l.length ≤ 1000000] [] (.sl 0) [] [.arr 40 kC x.l]) (own := false) (still := false)
structure Gs where
  l : List ((((Int)) × ((Int))))
def sp38 : Spc := spcOf [.v (.slice kG)] [] (G := Gs) (fun d => ⟨d.1.1⟩) (fun g => ((g.l, ()), ())) (fun _ => rfl) (fun x => .det [x.l.length ≤ 1000000] [] (.sl 0) [] [.arr 69 kG x.l]) (own := false) (still := false)
abbrev pgS (n : Nat) (p : Pg) : AV := .agg [i64 p.1, i64 p.2.1, .sl n, .sl (n + 1)]
abbrev pgN (p : Pg) : List Itm := [.arr 40 kC p.2.2.1, .arr 69 kG p.2.2.2]
abbrev pgD (p : Pg) : AV := .agg [i64 p.1, i64 p.2.1, .lst kC p.2.2.1, .lst kG p.2.2.2]
abbrev zC : Cn := (0, 0, (0, 0), 0)
abbrev zG : Gr := (0, 0)
def Fit (p : Pg) : Prop := p.2.2.1.length ≤ 1000000 ∧ p.2.2.2.length ≤ 1000000
structure PA where
  p : (((Int)) × ((Int)) × (List ((((Int)) × ((Int)) × (((Int)) × ((Int))) × ((Int))))) × (List ((((Int)) × ((Int))))))
def sp28 : Spc := spcOf [.v kPG] [] (G := PA) (fun d => ⟨d.1.1⟩) (fun g => ((g.p, ()), ())) (fun _ => rfl) (fun x => .det [Fit x.p] [] (pgS 0 x.p) [] (pgN x.p)) (lends := true) (lendsOk := by intro _ g; simp only [Con.ownedAll]; (repeat' apply And.intro) <;> first | rfl | (intro _; rfl)) (own := false) (still := false)
def changesB (k : Int) : Bool := decide (k = 2) || decide (k = 3) || decide (k = 4)
structure Kd where
  k : (Int)
def sp27 : Spc := spcOf [.v kI] [] (G := Kd) (fun d => ⟨d.1.1⟩) (fun g => ((g.k, ()), ())) (fun _ => rfl) (fun x => .det [] [] (.bool (changesB x.k)) [] []) (own := false) (still := false)
structure PgR where
  p : Pg
  r : Rc
abbrev withC (c : Cn) (v : Int) : Cn := (c.1, c.2.1, c.2.2.1, v)
abbrev withG (g : Gr) (v : Int) : Gr := (g.1, v)
def setC (l : List Cn) (i : Nat) (x : Int × Int) : Int × List Cn := if x.2 ≠ 0 then (x.2, l) else (0, l.set i (withC (l.getD i (0, 0, (0, 0), 0)) x.1))
def setG (l : List Gr) (i : Nat) (x : Int × Int) : Int × List Gr := if x.2 ≠ 0 then (x.2, l) else (0, l.set i (withG (l.getD i (0, 0)) x.1))
def counterF (f d : Int) (p : Pg) (r : Rc) : Int × List Cn :=
  if 0 < p.2.2.2.length then (83, p.2.2.1)
  else if r.2.1 = 2 then (if r.2.2.2.2.1.2 ≠ p.2.2.1.length ∨ 31 ≤ r.2.2.2.2.1.2 then (83, p.2.2.1) else (0, p.2.2.1 ++ [r.2.2.2.2.2.2.2.1]))
  else if r.2.2.2.2.1.2 < 0 ∨ (p.2.2.1.length : Int) ≤ r.2.2.2.2.1.2 then (83, p.2.2.1)
  else if (p.2.2.1.getD r.2.2.2.2.1.2.toNat (0, 0, (0, 0), 0)).1 ≠ r.2.2.2.2.2.2.2.1.1 then (83, p.2.2.1)
  else setC p.2.2.1 r.2.2.2.2.1.2.toNat (stepV f d (p.2.2.1.getD r.2.2.2.2.1.2.toNat (0, 0, (0, 0), 0)).2.2.2)
def sumF (f d : Int) (p : Pg) (r : Rc) : Int × List Gr :=
  if 0 < p.2.2.1.length then (83, p.2.2.2)
  else if r.2.1 = 2 then
    (if r.2.2.2.2.2.1.2 < 0 ∨ (p.2.2.2.length : Int) < r.2.2.2.2.2.1.2 then (83, p.2.2.2)
    else if r.2.2.2.2.2.1.2 = p.2.2.2.length then (if r.2.2.2.2.2.1.2 < 84 then (0, p.2.2.2 ++ [(r.2.2.2.2.2.2.2.1.2.1, r.2.2.2.2.2.2.2.1.2.2.2)]) else (83, p.2.2.2))
    else if (p.2.2.2.getD r.2.2.2.2.2.1.2.toNat (0, 0)).1 ≠ r.2.2.2.2.2.2.2.1.2.1 then (83, p.2.2.2)
    else setG p.2.2.2 r.2.2.2.2.2.1.2.toNat (ans ((p.2.2.2.getD r.2.2.2.2.2.1.2.toNat (0, 0)).2 + r.2.2.2.2.2.2.2.1.2.2.2)))
  else if r.2.2.2.2.2.1.2 < 0 ∨ (p.2.2.2.length : Int) ≤ r.2.2.2.2.2.1.2 then (83, p.2.2.2)
  else setG p.2.2.2 r.2.2.2.2.2.1.2.toNat (stepV f d (p.2.2.2.getD r.2.2.2.2.2.1.2.toNat (0, 0)).2)
structure CntArg where
  p : Pg
  r : Rc
  q : Rc
def pgSpc (f : FuncId) (con : CntArg → Con) : Spc := spcOf [.p 0, .v kR, .fn 31 [1, 2]] [.cells [.v kI, .v kI, .s 3, .s 4], .cells [.fn0 f], .cells [.v kR], .arr 40 kC, .arr 69 kG] (G := CntArg) (fun d => ⟨(d.2.1.1, d.2.1.2.1, d.2.2.2.2.1, d.2.2.2.2.2.1), d.1.2.1, d.2.2.2.1.1⟩) (fun g => (((), g.r, (), ()), ((g.p.1, g.p.2.1, (), (), ()), ((), ()), (g.q, ()), g.p.2.2.1, g.p.2.2.2, ()))) (fun _ => rfl) con
def sp32a : Spc := pgSpc 29 fun x => .any [] [0, 3] (Int × List Cn) (fun o => o = counterF 29 x.q.2.2.2.2.2.2.1 x.p x.r) (fun o => i64 o.1) (fun o => [.cells [i64 x.p.1, i64 x.p.2.1, .sl 3, .sl 4], .arr 40 kC o.2]) (fun _ => [])
def sp32b : Spc := pgSpc 30 fun x => .any [] [0, 3] (Int × List Cn) (fun o => o = counterF 30 x.q.2.2.2.2.2.2.1 x.p x.r) (fun o => i64 o.1) (fun o => [.cells [i64 x.p.1, i64 x.p.2.1, .sl 3, .sl 4], .arr 40 kC o.2]) (fun _ => [])
def sp33a : Spc := pgSpc 29 fun x => .any [] [0, 4] (Int × List Gr) (fun o => o = sumF 29 x.q.2.2.2.2.2.2.1 x.p x.r) (fun o => i64 o.1) (fun o => [.cells [i64 x.p.1, i64 x.p.2.1, .sl 3, .sl 4], .arr 69 kG o.2]) (fun _ => [])
def sp33b : Spc := pgSpc 30 fun x => .any [] [0, 4] (Int × List Gr) (fun o => o = sumF 30 x.q.2.2.2.2.2.2.1 x.p x.r) (fun o => i64 o.1) (fun o => [.cells [i64 x.p.1, i64 x.p.2.1, .sl 3, .sl 4], .arr 69 kG o.2]) (fun _ => [])
def sp32 : Spc := sp32a.both sp32b rfl rfl
def sp33 : Spc := sp33a.both sp33b rfl rfl
/-- What a record does to a page: an error's number, whether it did something, the page. -/
def doF (p : Pg) (r : Rc) : Int × Bool × Pg :=
  if changesB r.2.1 = false then (70, false, (0, 0, [], []))
  else if r.1 < 1 ∨ 2147483647 < r.1 ∨ r.2.2.2.2.1.1 = r.2.2.2.2.2.1.1 then (23, false, (0, 0, [], []))
  else if p.1 ≠ r.2.2.2.2.1.1 ∧ p.1 ≠ r.2.2.2.2.2.1.1 then (82, false, (0, 0, [], []))
  else if r.1 ≤ p.2.1 then (0, false, p)
  else if p.1 = r.2.2.2.2.1.1 then
    (if (counterF (if r.2.1 = 4 then 30 else 29) r.2.2.2.2.2.2.1 p r).1 ≠ 0 then ((counterF (if r.2.1 = 4 then 30 else 29) r.2.2.2.2.2.2.1 p r).1, false, (0, 0, [], []))
    else (0, true, (p.1, r.1, (counterF (if r.2.1 = 4 then 30 else 29) r.2.2.2.2.2.2.1 p r).2, p.2.2.2)))
  else
    (if (sumF (if r.2.1 = 4 then 30 else 29) r.2.2.2.2.2.2.1 p r).1 ≠ 0 then ((sumF (if r.2.1 = 4 then 30 else 29) r.2.2.2.2.2.2.1 p r).1, false, (0, 0, [], []))
    else (0, true, (p.1, r.1, p.2.2.1, (sumF (if r.2.1 = 4 then 30 else 29) r.2.2.2.2.2.2.1 p r).2)))
def pz : AV := .agg [i64 0, i64 0, .nsl, .nsl]
structure PgRc where
  p : (((Int)) × ((Int)) × (List ((((Int)) × ((Int)) × (((Int)) × ((Int))) × ((Int))))) × (List ((((Int)) × ((Int))))))
  r : (((Int)) × ((Int)) × ((Int)) × ((Int)) × ((((Int)) × ((Int)))) × ((((Int)) × ((Int)))) × ((Int)) × ((((Int)) × ((Int)) × (((Int)) × ((Int))) × ((Int)))) × (((List ((((Int)) × ((Int)) × (Bool) × (Bool)))) × (List ((((Int)) × ((Int))))) × ((Int)))))
def sp17 : Spc := spcOf [.v kPG, .v kR] [] (G := PgRc) (fun d => ⟨d.1.1, d.1.2.1⟩) (fun g => ((g.p, g.r, ()), ())) (fun _ => rfl) (fun x => .or
  (.any [Fit x.p] [] Int (fun e => e ≠ 0 ∧ (doF x.p x.r).1 = e) (fun e => .tup [pz, .ff, i64 e]) (fun _ => []) (fun _ => []))
  (.any [Fit x.p] [] (Bool × Pg) (fun o => doF x.p x.r = (0, o.1, o.2)) (fun o => .tup [pgS 0 o.2, .bool o.1, i64 0]) (fun _ => []) (fun o => pgN o.2))) (lends := true) (lendsOk := by intro _ g; simp only [Con.ownedAll]; (repeat' apply And.intro) <;> first | rfl | (intro _; rfl)) (own := false) (still := false)
def sp13 : Spc := spcOf [.v kPG, .v kR] [] (G := PgRc) (fun d => ⟨d.1.1, d.1.2.1⟩) (fun g => ((g.p, g.r, ()), ())) (fun _ => rfl) (fun x => .or
  (.any [Fit x.p] [] Int (fun e => e ≠ 0 ∧ (doF x.p x.r).1 = e) (fun e => .tup [pz, .ff, .ff]) (fun _ => []) (fun _ => []))
  (.any [Fit x.p] [] (Bool × Pg) (fun o => doF x.p x.r = (0, o.1, o.2)) (fun o => .tup [pgS 0 o.2, .bool o.1, .tt]) (fun _ => []) (fun o => pgN o.2))) (lends := true) (lendsOk := by intro _ g; simp only [Con.ownedAll]; (repeat' apply And.intro) <;> first | rfl | (intro _; rfl)) (own := false) (still := false)
def cutP (p : Pg) : Pg := (p.1, p.2.1, p.2.2.1.take 200, p.2.2.2.take 200)
def sp10 : Spc := spcOf [.v kPG] [] (G := PA) (fun d => ⟨d.1.1⟩) (fun g => ((g.p, ()), ())) (fun _ => rfl) (fun x => .det [] [] (pgD (cutP x.p)) [] []) (own := false) (still := false)
def mkC : Cn := (23130, 0, (0, 0), 0)
def mkG : Gr := (23130, 0)
def sp14 : Spc := spcOf [.v kPG] [] (G := PA) (fun d => ⟨d.1.1⟩) (fun g => ((g.p, ()), ())) (fun _ => rfl) (fun x => .det [x.p.2.2.1.length ≤ 200, x.p.2.2.2.length ≤ 200] [] (.agg [i64 x.p.1, i64 x.p.2.1, .pfx 0 x.p.2.2.1.length, .pfx 1 x.p.2.2.2.length]) [] [.arr 40 kC (x.p.2.2.1 ++ [mkC]), .arr 69 kG (x.p.2.2.2 ++ [mkG])]) (lends := true) (lendsOk := by intro _ g; simp only [Con.ownedAll]; (repeat' apply And.intro) <;> first | rfl | (intro _; rfl)) (own := false) (still := false)
def sp14f : Spc := spcOf [.v kPG] [] (G := PA) (fun d => ⟨d.1.1⟩) (fun g => ((g.p, ()), ())) (fun _ => rfl) (fun x => .det [x.p.2.2.1.length ≤ 200, x.p.2.2.2.length ≤ 200] [] (pgD x.p) [] []) (own := false) (still := false)
def sp16a : Spc := spcOf [.g [.v kI, .v kI, .s 0, .s 1]] [.arr 40 kC, .arr 69 kG] (G := Pg) (fun d => (d.1.1.1, d.1.1.2.1, d.2.1, d.2.2.1)) (fun g => (((g.1, g.2.1, (), (), ()), ()), (g.2.2.1, g.2.2.2, ()))) (fun _ => rfl) (fun x => .det [] [] (pgS 0 x) [] []) (own := true)
def sp16b : Spc := spcOf [.v kPG] [] (G := Pg) (fun d => d.1.1) (fun g => ((g, ()), ())) (fun _ => rfl) (fun x => .det [] [] (pgD x) [] []) (own := true)
def sp16 : Spc := sp16a.both sp16b rfl rfl
def goF (p : Pg) (r : Rc) : Pg := if (doF p r).1 = 0 then (doF p r).2.2 else p
def allF (p : Pg) (l : List Rc) : Pg := l.foldl goF p
structure AllArg where
  p : (((Int)) × ((Int)) × (List ((((Int)) × ((Int)) × (((Int)) × ((Int))) × ((Int))))) × (List ((((Int)) × ((Int))))))
  l : List ((((Int)) × ((Int)) × ((Int)) × ((Int)) × ((((Int)) × ((Int)))) × ((((Int)) × ((Int)))) × ((Int)) × ((((Int)) × ((Int)) × (((Int)) × ((Int))) × ((Int)))) × (((List ((((Int)) × ((Int)) × (Bool) × (Bool)))) × (List ((((Int)) × ((Int))))) × ((Int))))))
def sp19 : Spc := spcOf [.v kPG, .v (.slice kR)] [] (G := AllArg) (fun d => ⟨d.1.1, d.1.2.1⟩) (fun g => ((g.p, g.l, ()), ())) (fun _ => rfl) (fun x => .any [x.p.2.2.1.length ≤ 1000 ∧ x.p.2.2.2.length ≤ 1000 ∧ x.l.length ≤ 1000] [] Pg (fun o => o = allF x.p x.l) (fun o => pgD o) (fun _ => []) (fun _ => [])) (own := false) (still := false)
def sp18 : Spc := spcOf [.v kI] [] (G := Kd) (fun d => ⟨d.1.1⟩) (fun g => ((g.k, ()), ())) (fun _ => rfl) (fun x => .det [] [] (i64 x.k) [] []) (own := false) (still := false)
structure Ints where
  a : List ((Int))
  b : List ((Int))
def sp20 : Spc := spcOf [.v (.slice kI), .v (.slice kI)] [] (G := Ints) (fun d => ⟨d.1.1, d.1.2.1⟩) (fun g => ((g.a, g.b, ()), ())) (fun _ => rfl) (fun x => .det [] [] (.bool (decide (x.a = x.b))) [] []) (own := false) (still := false)
def samePg (p q : Pg) : Bool := decide (p.1 = q.1) && decide (p.2.1 = q.2.1) && decide (p.2.2.1 = q.2.2.1) && decide (p.2.2.2 = q.2.2.2)
structure Pages where
  p : (((Int)) × ((Int)) × (List ((((Int)) × ((Int)) × (((Int)) × ((Int))) × ((Int))))) × (List ((((Int)) × ((Int))))))
  q : (((Int)) × ((Int)) × (List ((((Int)) × ((Int)) × (((Int)) × ((Int))) × ((Int))))) × (List ((((Int)) × ((Int))))))
def sp15 : Spc := spcOf [.v kPG, .v kPG] [] (G := Pages) (fun d => ⟨d.1.1, d.1.2.1⟩) (fun g => ((g.p, g.q, ()), ())) (fun _ => rfl) (fun x => .det [] [] (.bool (samePg x.p x.q)) [] []) (own := false) (still := false)
def pagesF (r : Rc) : List Int := if changesB r.2.1 = false then [] else if r.2.2.2.2.1.1 = r.2.2.2.2.2.1.1 then [r.2.2.2.2.1.1] else [min r.2.2.2.2.1.1 r.2.2.2.2.2.1.1, max r.2.2.2.2.1.1 r.2.2.2.2.2.1.1]
structure RcA where
  r : (((Int)) × ((Int)) × ((Int)) × ((Int)) × ((((Int)) × ((Int)))) × ((((Int)) × ((Int)))) × ((Int)) × ((((Int)) × ((Int)) × (((Int)) × ((Int))) × ((Int)))) × (((List ((((Int)) × ((Int)) × (Bool) × (Bool)))) × (List ((((Int)) × ((Int))))) × ((Int)))))
def sp21 : Spc := spcOf [.v kR] [] (G := RcA) (fun d => ⟨d.1.1⟩) (fun g => ((g.r, ()), ())) (fun _ => rfl) (fun x => .or (.any [] [] Unit (fun _ => pagesF x.r = []) (fun _ => .nsl) (fun _ => []) (fun _ => [])) (.any [] [] (List Int) (fun o => o = pagesF x.r) (fun _ => .sl 0) (fun _ => []) (fun o => [.arr 3 kI o]))) (lends := true) (lendsOk := by intro _ g; simp only [Con.ownedAll]; (repeat' apply And.intro) <;> first | rfl | (intro _; rfl)) (own := false) (still := false)
def sp8 : Spc := spcOf [] [] (G := Unit) (fun _ => ()) (fun _ => ((), ())) (fun _ => rfl) (fun _ => .det [] [] .tt [] [])
structure At where
  i : Nat
structure AtP where
  i : Nat
  p : Pg
def ann20 (x : Ints) : Ann where
  loop id := match id with
    | 4 => inv0 { T := At, ok := fun y => y.i ≤ x.a.length ∧ x.a.take y.i = x.b.take y.i, ms := fun y => x.a.length - y.i, tk := [5], tm := fun y => [i64 y.i], hk := [], hp := fun _ => [], mat := [] }
    | _ => none
  cut _ := none
  loose _ := []
def ann15 (x : Pages) : Ann where
  loop id := match id with
    | 4 => inv0 { T := At, ok := fun y => y.i ≤ x.p.2.2.1.length ∧ x.p.2.2.1.take y.i = x.q.2.2.1.take y.i, ms := fun y => x.p.2.2.1.length - y.i, tk := [5], tm := fun y => [i64 y.i], hk := [], hp := fun _ => [], mat := [] }
    | 9 => inv0 { T := At, ok := fun y => y.i ≤ x.p.2.2.2.length ∧ x.p.2.2.2.take y.i = x.q.2.2.2.take y.i, ms := fun y => x.p.2.2.2.length - y.i, tk := [6], tm := fun y => [i64 y.i], hk := [], hp := fun _ => [], mat := [] }
    | _ => none
  cut _ := none
  loose _ := []
def ann19 (x : AllArg) : Ann where
  loop id := match id with
    | 2 => inv0 { T := AtP, ok := fun y => y.i ≤ x.l.length ∧ y.p = allF x.p (x.l.take y.i), ms := fun y => x.l.length - y.i, tk := [5], tm := fun y => [i64 y.i], hk := [pl 2 0], hp := fun y => [.cells [i64 y.p.1, i64 y.p.2.1, .lst kC y.p.2.2.1, .lst kG y.p.2.2.2]], mat := [] }
    | _ => none
  cut _ := none
  loose _ := []
  ghost id := match id with
    | 6 => [.fz (pl 21 0) [], .fz (pl 21 1) []]
    | _ => []
def ann37 (x : Cs) : Ann where
  loop _ := none
  cut _ := none
  loose _ := []
  fin := [.nw 2 901 40 kC]
def ann38 (x : Gs) : Ann where
  loop _ := none
  cut _ := none
  loose _ := []
  fin := [.nw 2 901 69 kG]
def ann28 (x : PA) : Ann where
  loop _ := none
  cut _ := none
  loose id := match id with
    | 2 => [pl 3 0]
    | _ => []
def ann32 (x : CntArg) : Ann where
  loop _ := none
  cut _ := none
  loose id := match id with
    | 7 => [0, 3]
    | _ => []
def ann33 (x : CntArg) : Ann where
  loop _ := none
  cut _ := none
  loose id := match id with
    | 7 => [0, 4]
    | _ => []
def ann14f (x : PA) : Ann where
  loop _ := none
  cut _ := none
  loose _ := []
  fin := [.fz (pl 7 0) [], .fz (pl 13 0) []]
end Go.Proofs.Ytaomhhamepalmaa.VC

