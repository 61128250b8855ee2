/- What is to be shown of functions, shown. Plain lemmas; no conditions but those that each names. -/
import Derived.Test.YtaomhhamepalmaaEx1
import Derived.Test.YtaomhhamepalmaaEx
import Derived.KernelRfl
set_option linter.unusedVariables false
set_option linter.unusedSimpArgs false
set_option linter.unusedSectionVars false
namespace Go.Proofs.Ytaomhhamepalmaa.VC
open Go
set_option maxRecDepth 100000

theorem pack_then {α : Type} {P P' Q : LPool α} {xs ys : List α} {h k : Lh} (p : PackL P xs h P') (q : PackL P' ys k Q) : (pget2 Q h.b).take h.n = xs ∧ h.n ≤ (pget2 Q h.b).length := by
  rcases p with ⟨rfl, rfl, _⟩ | ⟨h1, h2, h3, h4, h5, rfl⟩
  · exact ⟨rfl, Nat.zero_le _⟩
  · have e : pget (P ++ [(h.b, h.c, xs)]) h.b = some (h.c, xs) := pget_app_eq h2
    have s := pack_same q (b := h.b) (.inr (by rw [e]; rfl))
    rw [s.g2, pget2_of e, h3]
    exact ⟨List.take_length, Nat.le_refl _⟩
theorem pack_now {α : Type} {P P' : LPool α} {xs : List α} {h : Lh} (p : PackL P xs h P') : (pget2 P' h.b).take h.n = xs ∧ h.n ≤ (pget2 P' h.b).length := pack_then p (.inl ⟨rfl, rfl, rfl⟩ : PackL P' [] Lh.nil P')
theorem pack_two {α : Type} {P P' P'' Q : LPool α} {xs ys zs : List α} {h k l : Lh} (p : PackL P xs h P') (q : PackL P' ys k P'') (r : PackL P'' zs l Q) : (pget2 Q h.b).take h.n = xs ∧ h.n ≤ (pget2 Q h.b).length := by
  rcases p with ⟨rfl, rfl, _⟩ | ⟨h1, h2, h3, h4, h5, rfl⟩
  · exact ⟨rfl, Nat.zero_le _⟩
  · have e : pget (P ++ [(h.b, h.c, xs)]) h.b = some (h.c, xs) := pget_app_eq h2
    have s : SameAt (P ++ [(h.b, h.c, xs)]) P'' h.b := pack_same q (.inr (by rw [e]; rfl))
    have e2 : pget P'' h.b = some (h.c, xs) := (show pget P'' h.b = pget (P ++ [(h.b, h.c, xs)]) h.b from s).trans e
    have t : SameAt P'' Q h.b := pack_same r (.inr (by rw [e2]; rfl))
    rw [t.g2, pget2_of e2, h3]
    exact ⟨List.take_length, Nat.le_refl _⟩
theorem do_err {p : Pg} {r : Rc} (h : (doF p r).1 ≠ 0) : doF p r = ((doF p r).1, false, (0, 0, [], [])) := by
  revert h
  unfold doF
  (repeat' split) <;> first | (intro _; rfl) | (intro h; exact absurd rfl h)
theorem xp_err {p : Pg} {r : Rc} {cs : CsP} {gs : GsP} {e : Int} (he : e ≠ 0 ∧ (doF p r).1 = e) : XpOk p r cs gs ⟨0, 0, Lh.nil, Lh.nil, cs, gs, false, e⟩ := by
  have h : (doF p r).1 ≠ 0 := by rw [he.2]; exact he.1
  have D := do_err h
  have E : (doF p r).2 = (false, (0, 0, [], [])) := congrArg Prod.snd D
  exact ⟨he.2.symm, by rw [E], by rw [E], by rw [E], .inl ⟨by rw [E], rfl, rfl⟩, .inl ⟨by rw [E], rfl, rfl⟩⟩
theorem xp_ok {p : Pg} {r : Rc} {cs : CsP} {gs : GsP} {w : Bool × Pg} (hw : doF p r = (0, w)) {c d : Lh} {P1 : CsP} {Q1 : GsP} (h1 : PackL cs w.2.2.2.1 c P1) (h2 : PackL gs w.2.2.2.2 d Q1) : XpOk p r cs gs ⟨w.2.1, w.2.2.1, c, d, P1, Q1, w.1, 0⟩ :=
  ⟨by rw [hw], by rw [hw], by rw [hw], by rw [hw], by rw [hw]; exact h1, by rw [hw]; exact h2⟩
theorem counter_sm {f d : Int} {p : Pg} {r : Rc} (h : p.2.2.1.length ≤ 200) : (counterF f d p r).2.length ≤ 200 := by
  unfold counterF setC
  (repeat' split) <;> simp <;> omega
theorem sum_sm {f d : Int} {p : Pg} {r : Rc} (h : p.2.2.2.length ≤ 200) : (sumF f d p r).2.length ≤ 200 := by
  unfold sumF setG
  (repeat' split) <;> simp <;> omega
theorem do_sm {p : Pg} {r : Rc} (h : Sm p) : Sm (doF p r).2.2 := by
  obtain ⟨h1, h2⟩ := h
  unfold Sm doF
  (repeat' split) <;> first | exact ⟨Nat.zero_le _, Nat.zero_le _⟩ | exact ⟨h1, h2⟩ | exact ⟨counter_sm h1, h2⟩ | exact ⟨h1, sum_sm h2⟩
theorem pages_len {r : Rc} : (pagesF r).length ≤ 1000000 := by unfold pagesF; (repeat' split) <;> simp
def vc11 : Prop := vc Try.f11.body Try.f11.results Try.f11.ntmps [(14, some sp14), (17, some sp17), (22, some sp22), (21, some sp21), (23, some sp23), (18, some sp18), (16, some sp16p), (15, some sp15), (24, some sp24), (20, some sp20), (25, some sp25)] sp11 ann11
theorem vc11_is : vc11 = (
∀ (g : DsArg), Holds (InR IntKind.i64 g.p.fst) → Holds (InR IntKind.i64 g.p.snd.fst) → Holds (kC.slice.ok g.p.snd.snd.fst) → Holds (kG.slice.ok g.p.snd.snd.snd) → Holds (InR IntKind.i64 g.r.fst) → Holds (InR IntKind.i64 g.r.snd.fst) → Holds (InR IntKind.i64 g.r.snd.snd.fst) → Holds (InR IntKind.i64 g.r.snd.snd.snd.fst) → Holds (InR IntKind.i64 g.r.snd.snd.snd.snd.fst.fst) → Holds (InR IntKind.i64 g.r.snd.snd.snd.snd.fst.snd) → Holds (InR IntKind.i64 g.r.snd.snd.snd.snd.snd.fst.fst) → Holds (InR IntKind.i64 g.r.snd.snd.snd.snd.snd.fst.snd) → Holds (InR IntKind.i64 g.r.snd.snd.snd.snd.snd.snd.fst) → Holds (InR IntKind.i64 g.r.snd.snd.snd.snd.snd.snd.snd.fst.fst) → Holds (InR IntKind.i64 g.r.snd.snd.snd.snd.snd.snd.snd.fst.snd.fst) → Holds (InR IntKind.i64 g.r.snd.snd.snd.snd.snd.snd.snd.fst.snd.snd.fst.fst) → Holds (InR IntKind.i64 g.r.snd.snd.snd.snd.snd.snd.snd.fst.snd.snd.fst.snd) → Holds (InR IntKind.i64 g.r.snd.snd.snd.snd.snd.snd.snd.fst.snd.snd.snd) → Holds (kL.slice.ok g.r.snd.snd.snd.snd.snd.snd.snd.snd.fst) → Holds (kD.slice.ok g.r.snd.snd.snd.snd.snd.snd.snd.snd.snd.fst) → Holds (InR IntKind.i64 g.r.snd.snd.snd.snd.snd.snd.snd.snd.snd.snd) → Holds (kHC.slice.ok g.b.C) → Holds (kHC.slice.ok g.b.CM) → Holds (kHG.slice.ok g.b.G) → Holds (kHG.slice.ok g.b.GM) → Holds (kHN.slice.ok g.b.N) → Holds (kHN.slice.ok g.b.NM) → Holds (APoolOk kC g.cs) → Holds (APoolOk kG g.gs) → Holds (APoolOk kI g.ns) → Holds (Bks g.b g.cs g.gs g.ns) → Holds (g.b.C.length ≤ (500 : Nat)) → Holds (Sm g.p) → Holds (g.p.snd.snd.fst.length ≤ (200 : Nat)) ∧ Holds (g.p.snd.snd.snd.length ≤ (200 : Nat)) ∧ (Holds (Fit (g.p.fst, g.p.snd.fst, List.take g.p.snd.snd.fst.length (g.p.snd.snd.fst ++ [mkC]), List.take g.p.snd.snd.snd.length (g.p.snd.snd.snd ++ [mkG]))) ∧ (∀ (r : Int), Holds (r ≠ (0 : Int) ∧ (doF (g.p.fst, g.p.snd.fst, List.take g.p.snd.snd.fst.length (g.p.snd.snd.fst ++ [mkC]), List.take g.p.snd.snd.snd.length (g.p.snd.snd.snd ++ [mkG])) g.r).fst = r) → ∃ (x : XpAt), Holds (XpOk g.p g.r g.4 g.5 x) ∧ false = x.d ∧ r = x.e ∧ (0 : Int) = x.a ∧ (0 : Int) = x.b ∧ Lh.nil = x.h ∧ Lh.nil = x.i ∧ g.cs = x.cs ∧ g.gs = x.gs) ∧ ∀ (r : Bool × Pg), Holds (doF (g.p.fst, g.p.snd.fst, List.take g.p.snd.snd.fst.length (g.p.snd.snd.fst ++ [mkC]), List.take g.p.snd.snd.snd.length (g.p.snd.snd.snd ++ [mkG])) g.r = ((0 : Int), r)) → ∀ (g_1 : Lh) (P' : List (Nat × Nat × List kC.den)), Holds (PackL g.cs r.snd.snd.snd.fst g_1 P') → ∀ (g_2 : Lh) (P'_1 : List (Nat × Nat × List kG.den)), Holds (PackL g.gs r.snd.snd.snd.snd g_2 P'_1) → ∃ (x : XpAt), Holds (XpOk g.p g.r g.4 g.5 x) ∧ r.fst = x.d ∧ (0 : Int) = x.e ∧ r.snd.fst = x.a ∧ r.snd.snd.fst = x.b ∧ g_1 = x.h ∧ g_2 = x.i ∧ P' = x.cs ∧ P'_1 = x.gs) ∧ ∀ (x : XpAt), Holds (XpOk g.p g.r g.4 g.5 x) → (Holds (Fit (g.p.fst, g.p.snd.fst, List.take g.p.snd.snd.fst.length (g.p.snd.snd.fst ++ [mkC]), List.take g.p.snd.snd.snd.length (g.p.snd.snd.snd ++ [mkG]))) ∧ (∀ (r : Int), Holds (r ≠ (0 : Int) ∧ (doF (g.p.fst, g.p.snd.fst, List.take g.p.snd.snd.fst.length (g.p.snd.snd.fst ++ [mkC]), List.take g.p.snd.snd.snd.length (g.p.snd.snd.snd ++ [mkG])) g.r).fst = r) → ∃ (x_1 : XpAt), Holds (XpOk g.p g.r x.5 x.6 x_1) ∧ false = x_1.d ∧ r = x_1.e ∧ (0 : Int) = x_1.a ∧ (0 : Int) = x_1.b ∧ Lh.nil = x_1.h ∧ Lh.nil = x_1.i ∧ x.cs = x_1.cs ∧ x.gs = x_1.gs) ∧ ∀ (r : Bool × Pg), Holds (doF (g.p.fst, g.p.snd.fst, List.take g.p.snd.snd.fst.length (g.p.snd.snd.fst ++ [mkC]), List.take g.p.snd.snd.snd.length (g.p.snd.snd.snd ++ [mkG])) g.r = ((0 : Int), r)) → ∀ (g_1 : Lh) (P' : List (Nat × Nat × List kC.den)), Holds (PackL x.cs r.snd.snd.snd.fst g_1 P') → ∀ (g_2 : Lh) (P'_1 : List (Nat × Nat × List kG.den)), Holds (PackL x.gs r.snd.snd.snd.snd g_2 P'_1) → ∃ (x_1 : XpAt), Holds (XpOk g.p g.r x.5 x.6 x_1) ∧ r.fst = x_1.d ∧ (0 : Int) = x_1.e ∧ r.snd.fst = x_1.a ∧ r.snd.snd.fst = x_1.b ∧ g_1 = x_1.h ∧ g_2 = x_1.i ∧ P' = x_1.cs ∧ P'_1 = x_1.gs) ∧ ∀ (x_1 : XpAt), Holds (XpOk g.p g.r x.5 x.6 x_1) → (Holds (Fit g.p) ∧ (∀ (r : Int), Holds (r ≠ (0 : Int) ∧ (doF g.p g.r).fst = r) → ∃ (x : WpAt), Holds (x.e = (doF g.p g.r).fst ∧ x.d = (doF g.p g.r).snd.fst ∧ x.w = (doF g.p g.r).snd.snd) ∧ false = x.d ∧ r = x.e ∧ (0 : Int) = x.w.fst ∧ (0 : Int) = x.w.snd.fst ∧ nilT (Int × Int × (Int × Int) × Int) = x.w.snd.snd.fst ∧ nilT (Int × Int) = x.w.snd.snd.snd) ∧ ∀ (r : Bool × Pg), Holds (doF g.p g.r = ((0 : Int), r)) → ∃ (x : WpAt), Holds (x.e = (doF g.p g.r).fst ∧ x.d = (doF g.p g.r).snd.fst ∧ x.w = (doF g.p g.r).snd.snd) ∧ r.fst = x.d ∧ (0 : Int) = x.e ∧ r.snd.fst = x.w.fst ∧ r.snd.snd.fst = x.w.snd.fst ∧ r.snd.snd.snd.fst = x.w.snd.snd.fst ∧ r.snd.snd.snd.snd = x.w.snd.snd.snd) ∧ ∀ (x_2 : WpAt), Holds (x_2.e = (doF g.p g.r).fst ∧ x_2.d = (doF g.p g.r).snd.fst ∧ x_2.w = (doF g.p g.r).snd.snd) → ((∀ (r : Unit), Holds (pagesF g.r = []) → ∃ (x : NpAt), Holds (PackL g.6 (pagesF g.r) x.h x.ns) ∧ Lh.nil = x.h ∧ g.ns = x.ns) ∧ ∀ (r : List Int), Holds (r = pagesF g.r) → ∀ (g_1 : Lh) (P' : List (Nat × Nat × List kI.den)), Holds (PackL g.ns r g_1 P') → ∃ (x : NpAt), Holds (PackL g.6 (pagesF g.r) x.h x.ns) ∧ g_1 = x.h ∧ P' = x.ns) ∧ ∀ (x_3 : NpAt), Holds (PackL g.6 (pagesF g.r) x_3.h x_3.ns) → ((∀ (r : Unit), Holds (pagesF g.r = []) → ∃ (x : NpAt), Holds (PackL x_3.2 (pagesF g.r) x.h x.ns) ∧ Lh.nil = x.h ∧ x_3.ns = x.ns) ∧ ∀ (r : List Int), Holds (r = pagesF g.r) → ∀ (g_1 : Lh) (P' : List (Nat × Nat × List kI.den)), Holds (PackL x_3.ns r g_1 P') → ∃ (x : NpAt), Holds (PackL x_3.2 (pagesF g.r) x.h x.ns) ∧ g_1 = x.h ∧ P' = x.ns) ∧ ∀ (x_4 : NpAt), Holds (PackL x_3.2 (pagesF g.r) x_4.h x_4.ns) → ((∀ (r : Unit), Holds (pagesF g.r = []) → ∃ (x : NpAt), Holds (PackL x_4.2 (pagesF g.r) x.h x.ns) ∧ Lh.nil = x.h ∧ x_4.ns = x.ns) ∧ ∀ (r : List Int), Holds (r = pagesF g.r) → ∀ (g_1 : Lh) (P' : List (Nat × Nat × List kI.den)), Holds (PackL x_4.ns r g_1 P') → ∃ (x : NpAt), Holds (PackL x_4.2 (pagesF g.r) x.h x.ns) ∧ g_1 = x.h ∧ P' = x.ns) ∧ ∀ (x_5 : NpAt), Holds (PackL x_4.2 (pagesF g.r) x_5.h x_5.ns) → SplitB (x.e == x_2.e) (SplitB (x_1.e == x_2.e) (SplitB (x.d == x_2.d) (SplitB (x_1.d == x_2.d) (Holds (x.h.n ≤ (pget2 x_1.cs x.h.b).length) ∧ Holds (x.i.n ≤ (pget2 x_1.gs x.i.b).length) ∧ SplitB (samePg (x.a, x.b, List.take x.h.n (pget2 x_1.cs x.h.b), List.take x.i.n (pget2 x_1.gs x.i.b)) x_2.w) (Holds (x_1.h.n ≤ (pget2 x_1.cs x_1.h.b).length) ∧ Holds (x_1.i.n ≤ (pget2 x_1.gs x_1.i.b).length) ∧ SplitB (samePg (x_1.a, x_1.b, List.take x_1.h.n (pget2 x_1.cs x_1.h.b), List.take x_1.i.n (pget2 x_1.gs x_1.i.b)) x_2.w) (Holds ({ a := g.p.fst, b := g.p.snd.fst, n := g.p.snd.snd.fst.length, m := g.p.snd.snd.snd.length, xs := g.p.snd.snd.fst ++ [mkC], ys := g.p.snd.snd.snd ++ [mkG] : PxArg } = { a := g.p.fst, b := g.p.snd.fst, n := g.p.snd.snd.fst.length, m := g.p.snd.snd.snd.length, xs := g.p.snd.snd.fst ++ [mkC], ys := g.p.snd.snd.snd ++ [mkG] : PxArg } ∧ g.p.snd.snd.fst.length ≤ (200 : Nat) ∧ g.p.snd.snd.snd.length ≤ (200 : Nat)) ∧ Holds (x_3.h.n ≤ (pget2 x_5.ns x_3.h.b).length) ∧ Holds (x_5.h.n ≤ (pget2 x_5.ns x_5.h.b).length) ∧ SplitB (decide (List.take x_3.h.n (pget2 x_5.ns x_3.h.b) = List.take x_5.h.n (pget2 x_5.ns x_5.h.b))) (Holds (x_4.h.n ≤ (pget2 x_5.ns x_4.h.b).length) ∧ Holds (x_5.h.n ≤ (pget2 x_5.ns x_5.h.b).length) ∧ ∃ (x : At), Holds (x.i = (0 : Nat)) ∧ decide (List.take x_4.h.n (pget2 x_5.ns x_4.h.b) = List.take x_5.h.n (pget2 x_5.ns x_5.h.b)) = true) (∃ (x : At), Holds (x.i = (0 : Nat)) ∧ False)) (∃ (x : At), Holds (x.i = (0 : Nat)) ∧ False)) (∃ (x : At), Holds (x.i = (0 : Nat)) ∧ False)) (∃ (x : At), Holds (x.i = (0 : Nat)) ∧ False)) (∃ (x : At), Holds (x.i = (0 : Nat)) ∧ False)) (∃ (x : At), Holds (x.i = (0 : Nat)) ∧ False)) (∃ (x : At), Holds (x.i = (0 : Nat)) ∧ False) ∧ ∀ (x_6 : At), Holds (x_6.i = (0 : Nat)) → Holds (KpPre g.b x_1.cs x_1.gs x_5.ns x.h x.i x_3.h) ∧ ∀ (r : KpOut), Holds (KpPost g.b x_1.cs x_1.gs x_5.ns x.h x.i x_3.h r) → Holds (KpPre { C := r.c.L, CM := r.c.M, G := r.g.L, GM := r.g.M, N := r.n.L, NM := r.n.M : Bk } r.c.ls r.g.ls r.n.ls x_1.h x_1.i x_4.h) ∧ ∀ (r_1 : KpOut), Holds (KpPost { C := r.c.L, CM := r.c.M, G := r.g.L, GM := r.g.M, N := r.n.L, NM := r.n.M : Bk } r.c.ls r.g.ls r.n.ls x_1.h x_1.i x_4.h r_1) → (∃ (x : XcAt), Holds (x.i ≤ g.p.snd.snd.fst.length ∧ x.xs.length = g.p.snd.snd.fst.length + (1 : Nat)) ∧ (0 : Int) = (↑x.i : Int) ∧ g.p.snd.snd.fst ++ [mkC] = x.xs) ∧ ∀ (x : XcAt), Holds (x.i ≤ g.p.snd.snd.fst.length ∧ x.xs.length = g.p.snd.snd.fst.length + (1 : Nat)) → SplitB (decide ((↑x.i : Int) < (↑g.p.snd.snd.fst.length : Int))) (Holds ((0 : Int) ≤ (↑x.i : Int)) ∧ Holds ((↑x.i : Int) < (↑g.p.snd.snd.fst.length : Int)) ∧ Holds ((↑x.i : Int).toNat < x.xs.length) ∧ ∃ (y : XcAt), Holds (y.i ≤ g.p.snd.snd.fst.length ∧ y.xs.length = g.p.snd.snd.fst.length + (1 : Nat)) ∧ Holds (g.p.snd.snd.fst.length - y.i < g.p.snd.snd.fst.length - x.i) ∧ IntKind.i64.wrap ((↑x.i : Int) + (1 : Int)) = (↑y.i : Int) ∧ x.xs.set (↑x.i : Int).toNat ((4 : Int), (0 : Int), ((0 : Int), (0 : Int)), (0 : Int)) = y.xs) ((∃ (x : XgAt), Holds (x.i ≤ g.p.snd.snd.snd.length ∧ x.ys.length = g.p.snd.snd.snd.length + (1 : Nat)) ∧ (0 : Int) = (↑x.i : Int) ∧ g.p.snd.snd.snd ++ [mkG] = x.ys) ∧ ∀ (x : XgAt), Holds (x.i ≤ g.p.snd.snd.snd.length ∧ x.ys.length = g.p.snd.snd.snd.length + (1 : Nat)) → SplitB (decide ((↑x.i : Int) < (↑g.p.snd.snd.snd.length : Int))) (Holds ((0 : Int) ≤ (↑x.i : Int)) ∧ Holds ((↑x.i : Int) < (↑g.p.snd.snd.snd.length : Int)) ∧ Holds ((↑x.i : Int).toNat < x.ys.length) ∧ ∃ (y : XgAt), Holds (y.i ≤ g.p.snd.snd.snd.length ∧ y.ys.length = g.p.snd.snd.snd.length + (1 : Nat)) ∧ Holds (g.p.snd.snd.snd.length - y.i < g.p.snd.snd.snd.length - x.i) ∧ IntKind.i64.wrap ((↑x.i : Int) + (1 : Int)) = (↑y.i : Int) ∧ x.ys.set (↑x.i : Int).toNat ((4 : Int), (0 : Int)) = y.ys) (∃ (r : DsOut), Holds (DsPost g.b g.p g.r r) ∧ x_2.w.fst = r.w.fst ∧ x_2.w.snd.fst = r.w.snd.fst ∧ x_2.w.snd.snd.fst = r.w.snd.snd.fst ∧ x_2.w.snd.snd.snd = r.w.snd.snd.snd ∧ x_2.e = r.e ∧ r_1.c.L = r.c.L ∧ r_1.c.M = r.c.M ∧ r_1.g.L = r.g.L ∧ r_1.g.M = r.g.M ∧ r_1.n.L = r.n.L ∧ r_1.n.M = r.n.M ∧ r_1.c.ls = r.c.ls ∧ r_1.g.ls = r.g.ls ∧ r_1.n.ls = r.n.ls))) := by kernel_rfl
set_option maxHeartbeats 1000000 in
theorem ok11 : vc11 := by
  rw [vc11_is]; intro g
  intro h1 h2 h3 h4 h5 h6 h7 h8 h9 h10 h11 h12 h13 h14 h15 h16 h17 h18 h19 h20 h21 h22 h23 h24 h25 h26 h27 h28 h29 h30 h31 h32 h33
  have B := h31.out
  have hl := h32.out
  have hs := h33.out
  clear h1 h2 h3 h4 h5 h6 h7 h8 h9 h10 h11 h12 h13 h14 h15 h16 h17 h18 h19 h20 h21 h22 h23 h24 h25 h26 h27 h28 h29 h30 h31 h32 h33
  obtain ⟨b, ⟨pa, pb, pc, pd⟩, r, cs, gs, ns⟩ := g
  dsimp only at B hl hs
  dsimp only
  simp only [List.take_left]
  have q1 : pc.length ≤ 200 := by exact hs.1
  have q2 : pd.length ≤ 200 := by exact hs.2
  have hf : Holds (Fit (pa, pb, pc, pd)) := ⟨show pc.length ≤ 1000000 ∧ pd.length ≤ 1000000 by omega⟩
  have dsm := do_sm (r := r) hs
  have np0 : ∀ (Q : NsP) (u : Unit), Holds (pagesF r = []) → ∃ (x : NpAt), Holds (PackL Q (pagesF r) x.h x.ns) ∧ Lh.nil = x.h ∧ Q = x.ns := fun Q _ h => ⟨⟨Lh.nil, Q⟩, ⟨.inl ⟨h.out, rfl, rfl⟩⟩, rfl, rfl⟩
  have np1 : ∀ (Q : NsP) (l : List Int), Holds (l = pagesF r) → ∀ (c : Lh) (P' : List (Nat × Nat × List kI.den)), Holds (PackL Q l c P') → ∃ (x : NpAt), Holds (PackL Q (pagesF r) x.h x.ns) ∧ c = x.h ∧ P' = x.ns := fun Q l h c P' h2 => ⟨⟨c, P'⟩, ⟨h.out ▸ h2.out⟩, rfl, rfl⟩
  refine ⟨⟨q1⟩, ⟨q2⟩, ⟨hf, fun e he => ⟨_, ⟨xp_err he.out⟩, rfl, rfl, rfl, rfl, rfl, rfl, rfl, rfl⟩, fun w hw c P1 h1 d Q1 h2 => ⟨_, ⟨xp_ok hw.out h1.out h2.out⟩, rfl, rfl, rfl, rfl, rfl, rfl, rfl, rfl⟩⟩, fun x hx => ⟨⟨hf, fun e he => ⟨_, ⟨xp_err he.out⟩, rfl, rfl, rfl, rfl, rfl, rfl, rfl, rfl⟩, fun w hw c P1 h1 d Q1 h2 => ⟨_, ⟨xp_ok hw.out h1.out h2.out⟩, rfl, rfl, rfl, rfl, rfl, rfl, rfl, rfl⟩⟩, fun y hy => ⟨⟨hf, fun e he => ?_, fun w hw => ?_⟩, fun w hw => ⟨⟨np0 _, np1 _⟩, fun n1 hn1 => ⟨⟨np0 _, np1 _⟩, fun n2 hn2 => ⟨⟨np0 _, np1 _⟩, fun n3 hn3 => ⟨?_, fun _ _ => ?_⟩⟩⟩⟩⟩⟩⟩
  · have he := he.out
    have h : (doF (pa, pb, pc, pd) r).1 ≠ 0 := by rw [he.2]; exact he.1
    have E : (doF (pa, pb, pc, pd) r).2 = (false, (0, 0, [], [])) := congrArg Prod.snd (do_err h)
    exact ⟨⟨(0, 0, [], []), false, e⟩, ⟨⟨he.2.symm, by rw [E], by rw [E]⟩⟩, rfl, rfl, rfl, rfl, rfl, rfl⟩
  · exact ⟨⟨w.2, w.1, 0⟩, ⟨⟨by rw [hw.out], by rw [hw.out], by rw [hw.out]⟩⟩, rfl, rfl, rfl, rfl, rfl, rfl⟩
  · obtain ⟨w1, w2, w3⟩ := hw.out
    have X := hx.out
    have Y := hy.out
    obtain ⟨c1, c2⟩ := pack_then X.c Y.c
    obtain ⟨d1, d2⟩ := pack_then X.g Y.g
    obtain ⟨c3, c4⟩ := pack_now Y.c
    obtain ⟨d3, d4⟩ := pack_now Y.g
    obtain ⟨m1, m2⟩ := pack_two hn1.out hn2.out hn3.out
    obtain ⟨m3, m4⟩ := pack_then hn2.out hn3.out
    obtain ⟨m5, m6⟩ := pack_now hn3.out
    have s1 : samePg (x.a, x.b, List.take x.h.n (pget2 y.cs x.h.b), List.take x.i.n (pget2 y.gs x.i.b)) w.w = true := by rw [c1, d1, X.a, X.b, w3]; exact same_self _
    have s2 : samePg (y.a, y.b, List.take y.h.n (pget2 y.cs y.h.b), List.take y.i.n (pget2 y.gs y.i.b)) w.w = true := by rw [c3, d3, Y.a, Y.b, w3]; exact same_self _
    have t1 : (x.e == w.e) = true := by rw [X.e, w1]; exact beq_self_eq_true _
    have t2 : (y.e == w.e) = true := by rw [Y.e, w1]; exact beq_self_eq_true _
    have t3 : (x.d == w.d) = true := by rw [X.d, w2]; exact beq_self_eq_true _
    have t4 : (y.d == w.d) = true := by rw [Y.d, w2]; exact beq_self_eq_true _
    have u1 : decide (List.take n1.h.n (pget2 n3.ns n1.h.b) = List.take n3.h.n (pget2 n3.ns n3.h.b)) = true := by rw [m1, m5]; exact decide_eq_true rfl
    have u2 : decide (List.take n2.h.n (pget2 n3.ns n2.h.b) = List.take n3.h.n (pget2 n3.ns n3.h.b)) = true := by rw [m3, m5]; exact decide_eq_true rfl
    simp [t1, t2, t3, t4, s1, s2, u1, u2, splitB_iff, holds_iff, c2, c4, d2, d4, m2, m4, m6, q1, q2]
    all_goals first | exact ⟨⟨0⟩, rfl⟩ | skip
  · obtain ⟨w1, w2, w3⟩ := hw.out
    have X := hx.out
    have Y := hy.out
    have zc := Nat.le_trans dsm.1 (show 200 ≤ 1000000 by decide)
    have zg := Nat.le_trans dsm.2 (show 200 ≤ 1000000 by decide)
    have RC := ((Rdy.nil b.C b.CM cs).pack B.c X.c zc).pack (pack_book X.c B.c) Y.c zc
    have BC := pack_book Y.c (pack_book X.c B.c)
    have RG := ((Rdy.nil b.G b.GM gs).pack B.g X.g zg).pack (pack_book X.g B.g) Y.g zg
    have BG := pack_book Y.g (pack_book X.g B.g)
    have RN := (((Rdy.nil b.N b.NM ns).pack B.n hn1.out pages_len).pack (pack_book hn1.out B.n) hn2.out pages_len).pack (pack_book hn2.out (pack_book hn1.out B.n)) hn3.out pages_len
    have BN := pack_book hn3.out (pack_book hn2.out (pack_book hn1.out B.n))
    simp only [List.nil_append, List.cons_append] at RC RG RN
    have e1 := B.e1
    have e2 := B.e2
    refine ⟨⟨⟨RC.pre BC (by omega), RG.pre BG (by omega), RN.pre BN (by omega), e1, e2⟩⟩, fun o ho => ?_⟩
    have O := ho.out
    have f1 := O.c.2.1
    have f2 := O.g.2.1
    have f3 := O.n.2.1
    have RC := RC.keep O.c
    have RG := RG.keep O.g
    have RN := RN.keep O.n
    refine ⟨⟨⟨RC.pre O.c.1 (by omega), RG.pre O.g.1 (by omega), RN.pre O.n.1 (by omega), by show o.g.L.length = o.c.L.length; omega, by show o.n.L.length = o.c.L.length; omega⟩⟩, fun o2 ho2 => ?_⟩
    have O2 := ho2.out
    have g1 : o2.c.L.length = o.c.L.length + 1 := O2.c.2.1
    have g2 : o2.g.L.length = o.g.L.length + 1 := O2.g.2.1
    have g3 : o2.n.L.length = o.n.L.length + 1 := O2.n.2.1
    refine ⟨⟨⟨0, pc ++ [mkC]⟩, ⟨Nat.zero_le _, by simp⟩, rfl, rfl⟩, fun i hi => ⟨fun a => ?_, fun _ => ⟨⟨⟨0, pd ++ [mkG]⟩, ⟨Nat.zero_le _, by simp⟩, rfl, rfl⟩, fun j hj => ⟨fun a => ?_, fun _ => ?_⟩⟩⟩⟩
    · obtain ⟨i1, i2⟩ := hi.out
      have a : i.i < pc.length := by simpa using a
      exact ⟨⟨by omega⟩, ⟨by omega⟩, ⟨by show i.i < _; omega⟩, ⟨i.i + 1, _⟩, ⟨by show i.i + 1 ≤ _; omega, by simpa using i2⟩, ⟨by show _ - (i.i + 1) < _; omega⟩, wrap_succ (by omega), rfl⟩
    · obtain ⟨i1, i2⟩ := hj.out
      have a : j.i < pd.length := by simpa using a
      exact ⟨⟨by omega⟩, ⟨by omega⟩, ⟨by show j.i < _; omega⟩, ⟨j.i + 1, _⟩, ⟨by show j.i + 1 ≤ _; omega, by simpa using i2⟩, ⟨by show _ - (j.i + 1) < _; omega⟩, wrap_succ (by omega), rfl⟩
    · exact ⟨⟨o2.c, o2.g, o2.n, w.e, w.w⟩, ⟨⟨⟨O2.c.1, O2.g.1, O2.n.1, by show o2.g.L.length = o2.c.L.length; omega, by show o2.n.L.length = o2.c.L.length; omega⟩, by show o2.c.L.length = _; omega, w1, w3⟩⟩, rfl, rfl, rfl, rfl, rfl, rfl, rfl, rfl, rfl, rfl, rfl, rfl, rfl, rfl⟩

def vc3 : Prop := vc Try.f3.body Try.f3.results Try.f3.ntmps [(8, some sp8), (10, some sp10), (9, some sp9), (11, some sp11), (12, some sp12)] sp3 ann3
theorem vc3_is : vc3 = (
∀ (g : ExArg), Holds (kOp.slice.ok g.s) → (∃ (x : ExAt), Holds (x.i ≤ (60 : Nat) ∧ x.i ≤ g.s.length ∧ Sm x.p ∧ Bks (bkO x.c x.g x.n) x.c.ls x.g.ls x.n.ls ∧ x.c.L.length ≤ (2 : Nat) * x.i) ∧ (0 : Int) = (↑x.i : Int) ∧ (0 : Int) = x.p.fst ∧ (0 : Int) = x.p.snd.fst ∧ nilT (Int × Int × (Int × Int) × Int) = x.p.snd.snd.fst ∧ nilT (Int × Int) = x.p.snd.snd.snd ∧ nilT Lh = x.c.L ∧ nilT Lh = x.c.M ∧ nilT Lh = x.g.L ∧ nilT Lh = x.g.M ∧ nilT Lh = x.n.L ∧ nilT Lh = x.n.M ∧ nilT (Nat × Nat × List (Int × Int × (Int × Int) × Int)) = x.c.ls ∧ nilT (Nat × Nat × List (Int × Int)) = x.g.ls ∧ nilT (Nat × Nat × List Int) = x.n.ls) ∧ ∀ (x : ExAt), Holds (x.i ≤ (60 : Nat) ∧ x.i ≤ g.s.length ∧ Sm x.p ∧ Bks (bkO x.c x.g x.n) x.c.ls x.g.ls x.n.ls ∧ x.c.L.length ≤ (2 : Nat) * x.i) → SplitB (decide ((↑x.i : Int) < (↑g.s.length : Int))) (SplitB (decide ((↑x.i : Int) < (60 : Int))) (Holds ((0 : Int) ≤ (↑x.i : Int)) ∧ Holds ((↑x.i : Int) < (↑g.s.length : Int)) ∧ Holds ((↑x.i : Int).toNat < g.s.length) ∧ SplitB (g.s.getD (↑x.i : Int).toNat (((0 : Int), (0 : Int), (0 : Int), (0 : Int), ((0 : Int), (0 : Int)), ((0 : Int), (0 : Int)), (0 : Int), ((0 : Int), (0 : Int), ((0 : Int), (0 : Int)), (0 : Int)), [], [], (0 : Int)), false, (0 : Int), (0 : Int), [], [])).snd.fst (Holds (Fit (cutP (g.s.getD (↑x.i : Int).toNat (((0 : Int), (0 : Int), (0 : Int), (0 : Int), ((0 : Int), (0 : Int)), ((0 : Int), (0 : Int)), (0 : Int), ((0 : Int), (0 : Int), ((0 : Int), (0 : Int)), (0 : Int)), [], [], (0 : Int)), false, (0 : Int), (0 : Int), [], [])).snd.snd)) ∧ ∃ (x_1 : PgAt), Holds (Sm x_1.p) ∧ (cutP (g.s.getD (↑x.i : Int).toNat (((0 : Int), (0 : Int), (0 : Int), (0 : Int), ((0 : Int), (0 : Int)), ((0 : Int), (0 : Int)), (0 : Int), ((0 : Int), (0 : Int), ((0 : Int), (0 : Int)), (0 : Int)), [], [], (0 : Int)), false, (0 : Int), (0 : Int), [], [])).snd.snd).fst = x_1.p.fst ∧ (cutP (g.s.getD (↑x.i : Int).toNat (((0 : Int), (0 : Int), (0 : Int), (0 : Int), ((0 : Int), (0 : Int)), ((0 : Int), (0 : Int)), (0 : Int), ((0 : Int), (0 : Int), ((0 : Int), (0 : Int)), (0 : Int)), [], [], (0 : Int)), false, (0 : Int), (0 : Int), [], [])).snd.snd).snd.fst = x_1.p.snd.fst ∧ (cutP (g.s.getD (↑x.i : Int).toNat (((0 : Int), (0 : Int), (0 : Int), (0 : Int), ((0 : Int), (0 : Int)), ((0 : Int), (0 : Int)), (0 : Int), ((0 : Int), (0 : Int), ((0 : Int), (0 : Int)), (0 : Int)), [], [], (0 : Int)), false, (0 : Int), (0 : Int), [], [])).snd.snd).snd.snd.fst = x_1.p.snd.snd.fst ∧ (cutP (g.s.getD (↑x.i : Int).toNat (((0 : Int), (0 : Int), (0 : Int), (0 : Int), ((0 : Int), (0 : Int)), ((0 : Int), (0 : Int)), (0 : Int), ((0 : Int), (0 : Int), ((0 : Int), (0 : Int)), (0 : Int)), [], [], (0 : Int)), false, (0 : Int), (0 : Int), [], [])).snd.snd).snd.snd.snd = x_1.p.snd.snd.snd) (∃ (x_1 : PgAt), Holds (Sm x_1.p) ∧ x.p.fst = x_1.p.fst ∧ x.p.snd.fst = x_1.p.snd.fst ∧ x.p.snd.snd.fst = x_1.p.snd.snd.fst ∧ x.p.snd.snd.snd = x_1.p.snd.snd.snd) ∧ ∀ (x_1 : PgAt), Holds (Sm x_1.p) → Holds (Bks { C := x.c.L, CM := x.c.M, G := x.g.L, GM := x.g.M, N := x.n.L, NM := x.n.M : Bk } x.c.ls x.g.ls x.n.ls) ∧ Holds (x.c.L.length ≤ (500 : Nat)) ∧ Holds (Sm x_1.p) ∧ ∀ (r : DsOut), Holds (DsPost { C := x.c.L, CM := x.c.M, G := x.g.L, GM := x.g.M, N := x.n.L, NM := x.n.M : Bk } x_1.p (g.s.getD (↑x.i : Int).toNat (((0 : Int), (0 : Int), (0 : Int), (0 : Int), ((0 : Int), (0 : Int)), ((0 : Int), (0 : Int)), (0 : Int), ((0 : Int), (0 : Int), ((0 : Int), (0 : Int)), (0 : Int)), [], [], (0 : Int)), false, (0 : Int), (0 : Int), [], [])).fst r) → Holds (Bks { C := r.c.L, CM := r.c.M, G := r.g.L, GM := r.g.M, N := r.n.L, NM := r.n.M : Bk } r.c.ls r.g.ls r.n.ls) ∧ Holds (r.c.L.length ≤ (1000 : Nat)) ∧ SplitB (r.e == (0 : Int)) (∃ (y : ExAt), Holds (y.i ≤ (60 : Nat) ∧ y.i ≤ g.s.length ∧ Sm y.p ∧ Bks (bkO y.c y.g y.n) y.c.ls y.g.ls y.n.ls ∧ y.c.L.length ≤ (2 : Nat) * y.i) ∧ Holds (g.s.length - y.i < g.s.length - x.i) ∧ IntKind.i64.wrap ((↑x.i : Int) + (1 : Int)) = (↑y.i : Int) ∧ r.w.fst = y.p.fst ∧ r.w.snd.fst = y.p.snd.fst ∧ r.w.snd.snd.fst = y.p.snd.snd.fst ∧ r.w.snd.snd.snd = y.p.snd.snd.snd ∧ r.c.L = y.c.L ∧ r.c.M = y.c.M ∧ r.g.L = y.g.L ∧ r.g.M = y.g.M ∧ r.n.L = y.n.L ∧ r.n.M = y.n.M ∧ r.c.ls = y.c.ls ∧ r.g.ls = y.g.ls ∧ r.n.ls = y.n.ls) (∃ (y : ExAt), Holds (y.i ≤ (60 : Nat) ∧ y.i ≤ g.s.length ∧ Sm y.p ∧ Bks (bkO y.c y.g y.n) y.c.ls y.g.ls y.n.ls ∧ y.c.L.length ≤ (2 : Nat) * y.i) ∧ Holds (g.s.length - y.i < g.s.length - x.i) ∧ IntKind.i64.wrap ((↑x.i : Int) + (1 : Int)) = (↑y.i : Int) ∧ x_1.p.fst = y.p.fst ∧ x_1.p.snd.fst = y.p.snd.fst ∧ x_1.p.snd.snd.fst = y.p.snd.snd.fst ∧ x_1.p.snd.snd.snd = y.p.snd.snd.snd ∧ r.c.L = y.c.L ∧ r.c.M = y.c.M ∧ r.g.L = y.g.L ∧ r.g.M = y.g.M ∧ r.n.L = y.n.L ∧ r.n.M = y.n.M ∧ r.c.ls = y.c.ls ∧ r.g.ls = y.g.ls ∧ r.n.ls = y.n.ls)) (true = true)) (true = true)) := by kernel_rfl
theorem cut_sm (p : Pg) : Sm (cutP p) := by unfold Sm cutP; simp only [List.length_take]; omega
theorem fit_sm {p : Pg} (h : Sm p) : Fit p := by obtain ⟨h1, h2⟩ := h; unfold Fit; omega
theorem ok3 : vc3 := by
  rw [vc3_is]; intro g h1
  have hm := max63 h1.out.1
  refine ⟨⟨⟨0, (0, 0, [], []), ⟨[], [], []⟩, ⟨[], [], []⟩, ⟨[], [], []⟩⟩, ⟨Nat.zero_le _, Nat.zero_le _, ⟨Nat.zero_le _, Nat.zero_le _⟩, ⟨BookOk.nil _ _, BookOk.nil _ _, BookOk.nil _ _, rfl, rfl⟩, Nat.le_refl _⟩, rfl, rfl, rfl, rfl, rfl, rfl, rfl, rfl, rfl, rfl, rfl, rfl, rfl, rfl⟩, fun x hx => ⟨fun a => ⟨fun a2 => ?_, fun _ => rfl⟩, fun _ => rfl⟩⟩
  obtain ⟨x1, x2, x3, x4, x5⟩ := hx.out
  have a : x.i < g.s.length := by simpa using a
  have a2 : x.i < 60 := by have := of_decide_eq_true a2; omega
  refine ⟨⟨by omega⟩, ⟨by omega⟩, ⟨a⟩, ⟨fun _ => ⟨⟨fit_sm (cut_sm _)⟩, ⟨_⟩, ⟨cut_sm _⟩, rfl, rfl, rfl, rfl⟩, fun _ => ⟨⟨x.p⟩, ⟨x3⟩, rfl, rfl, rfl, rfl⟩⟩, fun q hq => ⟨⟨x4⟩, ⟨by omega⟩, hq, fun r hr => ?_⟩⟩
  have R := hr.out
  have L := R.l
  dsimp only at L
  refine ⟨⟨R.bk⟩, ⟨by omega⟩, fun _ => ⟨⟨x.i + 1, r.w, r.c, r.g, r.n⟩, ⟨by show x.i + 1 ≤ _; omega, by show x.i + 1 ≤ _; omega, by show Sm r.w; rw [R.w]; exact do_sm hq.out, R.bk, by show r.c.L.length ≤ 2 * (x.i + 1); omega⟩, ⟨by show _ - (x.i + 1) < _; omega⟩, wrap_succ (by omega), rfl, rfl, rfl, rfl, rfl, rfl, rfl, rfl, rfl, rfl, rfl, rfl, rfl⟩, fun _ => ⟨⟨x.i + 1, q.p, r.c, r.g, r.n⟩, ⟨by show x.i + 1 ≤ _; omega, by show x.i + 1 ≤ _; omega, hq.out, R.bk, by show r.c.L.length ≤ 2 * (x.i + 1); omega⟩, ⟨by show _ - (x.i + 1) < _; omega⟩, wrap_succ (by omega), rfl, rfl, rfl, rfl, rfl, rfl, rfl, rfl, rfl, rfl, rfl, rfl, rfl⟩⟩

end Go.Proofs.Ytaomhhamepalmaa.VC
