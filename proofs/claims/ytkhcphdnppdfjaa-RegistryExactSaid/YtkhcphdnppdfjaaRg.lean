/- What is to be shown of functions, shown. Plain lemmas; no conditions but those that each names. -/
import Derived.Test.YtkhcphdnppdfjaaSp
import Derived.KernelRfl
set_option linter.unusedVariables false
set_option linter.unusedSimpArgs false
set_option linter.unusedSectionVars false
namespace Go.Proofs.Ytkhcphdnppdfjaa.VC
open Go
set_option maxRecDepth 100000

theorem Reg.ok.p {r : Reg} (h : r.ok) : 2 ≤ r.pages ∧ r.pages ≤ 64 ∧ (r.E.length : Int) ≤ 1000000 ∧ (r.M.length : Int) ≤ 1000000 := ⟨h.1, h.2.1, by have := h.2.2.1; omega, by have := h.2.2.2.1; omega⟩
theorem Reg.ok.m {r : Reg} (h : r.ok) (g : Int) : 0 ≤ (mgM r.M g).getD 0 ∧ (mgM r.M g).getD 0 ≤ 1000000 := by
  cases hg : mgM r.M g with
  | none => simp
  | some x => exact h.2.2.2.2.1 _ (mget_mem hg)
def vc15 : Prop := vc Try.f15.body Try.f15.results Try.f15.ntmps [] sp15 (fun _ => noAnn)
theorem vc15_is : vc15 = (
∀ (g : Num1), Holds (InR IntKind.i64 g.v) → g.v = g.v) := by kernel_rfl
theorem ok15 : vc15 := by rw [vc15_is]; intro g h; rfl

def vc29 : Prop := vc Try.f29.body Try.f29.results Try.f29.ntmps [] sp29 (fun _ => noAnn)
theorem vc29_is : vc29 = (
∀ (g : Num1), Holds (InR IntKind.i64 g.v) → Holds ((0 : Int) ≤ g.v) → Holds ((31 : Int) ≠ (0 : Int)) ∧ Holds ((31 : Int) ≠ (0 : Int)) ∧ IntKind.i64.wrap (g.v.tdiv (31 : Int)) = (wh g.v).fst ∧ g.v.tmod (31 : Int) = (wh g.v).snd) := by kernel_rfl
theorem ok29 : vc29 := by
  rw [vc29_is]
  intro g h1 h2
  simp only [holds_iff, inR64] at *
  refine ⟨by omega, by omega, ?_, ?_⟩
  · rw [tdiv_pos h2, wrap64 (by omega) (by omega)]; rfl
  · rw [tmod_pos h2]; rfl

def vc30 : Prop := vc Try.f30.body Try.f30.results Try.f30.ntmps [] sp30 (fun _ => noAnn)
theorem vc30_is : vc30 = (
∀ (g : RegInt), Holds (InR IntKind.i64 g.k) → Holds (InR IntKind.i64 g.r.pages) → Holds (MOk kI kS g.r.E) → Holds (MOk kI kI g.r.M) → Holds ((0 : Int) ≤ g.r.pages) → Holds (g.r.pages ≤ (64 : Int)) → Holds ((0 : Int) ≤ g.k) → Holds ((84 : Int) ≠ (0 : Int)) ∧ Holds ((84 : Int) ≠ (0 : Int)) ∧ IntKind.i64.wrap (IntKind.i64.wrap (g.r.pages - (1 : Int)) - IntKind.i64.wrap (g.k.tdiv (84 : Int))) = (sm g.r.pages g.k).fst ∧ g.k.tmod (84 : Int) = (sm g.r.pages g.k).snd) := by kernel_rfl
theorem ok30 : vc30 := by
  rw [vc30_is]
  intro g h1 h2 h3 h4 h5 h6 h7
  simp only [holds_iff, inR64] at *
  refine ⟨by omega, by omega, ?_, ?_⟩
  · rw [tdiv_pos h7]
    simp only [sm]
    rw [wrap64 (n := g.k / 84) (by omega) (by omega), wrap64 (n := g.r.pages - 1) (by omega) (by omega), wrap64 (by omega) (by omega)]
  · rw [tmod_pos h7]; rfl

def vc32 : Prop := vc Try.f32.body Try.f32.results Try.f32.ntmps [] sp32 (fun _ => noAnn)
theorem vc32_is : vc32 = (
∀ (g : Two), Holds (InR IntKind.i64 g.a) → Holds (InR IntKind.i64 g.b) → Holds ((0 : Int) ≤ g.a) → Holds (g.a ≤ (1000000000 : Int)) → Holds ((0 : Int) < g.b) → Holds (g.b ≤ (1000000000 : Int)) → Holds (g.b ≠ (0 : Int)) ∧ IntKind.i64.wrap ((IntKind.i64.wrap (IntKind.i64.wrap (g.a + g.b) - (1 : Int))).tdiv g.b) = nd g.a g.b) := by kernel_rfl
theorem ok32 : vc32 := by
  rw [vc32_is]
  intro g h1 h2 h3 h4 h5 h6
  simp only [holds_iff, inR64] at *
  refine ⟨by omega, ?_⟩
  have e1 : (g.a + g.b - 1) / g.b ≤ g.a + g.b - 1 := Int.ediv_le_self _ (by omega)
  have e2 : 0 ≤ (g.a + g.b - 1) / g.b := Int.ediv_nonneg (by omega) (by omega)
  rw [wrap64 (n := g.a + g.b) (by omega) (by omega), wrap64 (n := g.a + g.b - 1) (by omega) (by omega), tdiv_pos (by omega), wrap64 (by omega) (by omega)]
  rfl

def vc18 : Prop := vc Try.f18.body Try.f18.results Try.f18.ntmps [] sp18 (fun _ => noAnn)
theorem vc18_is : vc18 = (
∀ (g : Num1), Holds (InR IntKind.i64 g.v) → SplitB (decide (g.v < (2 : Int))) ((∃ (r : Unit), Holds ¬((2 : Int) ≤ g.v ∧ g.v ≤ (64 : Int)) ∧ (2 : Int) = (2 : Int)) ∨ ∃ (r : Unit), Holds ((2 : Int) ≤ g.v ∧ g.v ≤ (64 : Int)) ∧ False) (SplitB (decide (g.v > (64 : Int))) ((∃ (r : Unit), Holds ¬((2 : Int) ≤ g.v ∧ g.v ≤ (64 : Int)) ∧ (2 : Int) = (2 : Int)) ∨ ∃ (r : Unit), Holds ((2 : Int) ≤ g.v ∧ g.v ≤ (64 : Int)) ∧ False) ((∃ (r : Unit), Holds ¬((2 : Int) ≤ g.v ∧ g.v ≤ (64 : Int)) ∧ False) ∨ ∃ (r : Unit), Holds ((2 : Int) ≤ g.v ∧ g.v ≤ (64 : Int)) ∧ (0 : Int) = (0 : Int) ∧ g.v = g.v ∧ nilT (Int × Int × Int) = [] ∧ nilT (Int × Int) = []))) := by kernel_rfl
theorem ok18 : vc18 := by
  rw [vc18_is]
  intro g h
  simp only [holds_iff, splitB_iff, decide_eq_true_eq, decide_eq_false_iff_not]
  refine ⟨fun h1 => .inl ⟨(), by omega, by simp⟩, fun h1 => ⟨fun h2 => .inl ⟨(), by omega, by simp⟩, fun h2 => .inr ⟨(), by omega, by simp⟩⟩⟩

def vc20 : Prop := vc Try.f20.body Try.f20.results Try.f20.ntmps [(32, some sp32), (29, some sp29), (30, some sp30)] sp20 (fun _ => noAnn)
theorem vc20_is : vc20 = (
∀ (g : RegInt2), Holds (InR IntKind.i64 g.c) → Holds (InR IntKind.i64 g.g) → Holds (InR IntKind.i64 g.r.pages) → Holds (MOk kI kS g.r.E) → Holds (MOk kI kI g.r.M) → Holds g.r.ok → SplitB (decide (g.c < (1 : Int))) (∃ (r : Planned), Holds (r = g.r.plan g.c g.g) ∧ (0 : Int) = r.a.fst ∧ (0 : Int) = r.a.snd ∧ (0 : Int) = r.b.fst ∧ (0 : Int) = r.b.snd ∧ (4 : Int) = r.e) (SplitB (decide (g.c > (1048576 : Int))) (∃ (r : Planned), Holds (r = g.r.plan g.c g.g) ∧ (0 : Int) = r.a.fst ∧ (0 : Int) = r.a.snd ∧ (0 : Int) = r.b.fst ∧ (0 : Int) = r.b.snd ∧ (4 : Int) = r.e) (SplitB (decide (g.g < (1 : Int))) (∃ (r : Planned), Holds (r = g.r.plan g.c g.g) ∧ (0 : Int) = r.a.fst ∧ (0 : Int) = r.a.snd ∧ (0 : Int) = r.b.fst ∧ (0 : Int) = r.b.snd ∧ (4 : Int) = r.e) (SplitB (decide (g.g > (1048576 : Int))) (∃ (r : Planned), Holds (r = g.r.plan g.c g.g) ∧ (0 : Int) = r.a.fst ∧ (0 : Int) = r.a.snd ∧ (0 : Int) = r.b.fst ∧ (0 : Int) = r.b.snd ∧ (4 : Int) = r.e) (SplitB (mgetT kI kS g.r.E g.c).isSome (∃ (r : Planned), Holds (r = g.r.plan g.c g.g) ∧ (0 : Int) = r.a.fst ∧ (0 : Int) = r.a.snd ∧ (0 : Int) = r.b.fst ∧ (0 : Int) = r.b.snd ∧ (121 : Int) = r.e) (SplitB (!(mgetT kI kI g.r.M g.g).isSome) (Holds ((0 : Int) ≤ IntKind.i64.wrap ((↑g.r.E.length : Int) + (1 : Int))) ∧ Holds (IntKind.i64.wrap ((↑g.r.E.length : Int) + (1 : Int)) ≤ (1000000000 : Int)) ∧ Holds ((0 : Int) < (31 : Int)) ∧ Holds ((31 : Int) ≤ (1000000000 : Int)) ∧ Holds ((0 : Int) ≤ IntKind.i64.wrap ((↑g.r.M.length : Int) + (1 : Int))) ∧ Holds (IntKind.i64.wrap ((↑g.r.M.length : Int) + (1 : Int)) ≤ (1000000000 : Int)) ∧ Holds ((0 : Int) < (84 : Int)) ∧ Holds ((84 : Int) ≤ (1000000000 : Int)) ∧ SplitB (decide (IntKind.i64.wrap (nd (IntKind.i64.wrap ((↑g.r.E.length : Int) + (1 : Int))) (31 : Int) + nd (IntKind.i64.wrap ((↑g.r.M.length : Int) + (1 : Int))) (84 : Int)) > g.r.pages)) (∃ (r : Planned), Holds (r = g.r.plan g.c g.g) ∧ (0 : Int) = r.a.fst ∧ (0 : Int) = r.a.snd ∧ (0 : Int) = r.b.fst ∧ (0 : Int) = r.b.snd ∧ (6 : Int) = r.e) (Holds ((0 : Int) ≤ IntKind.i64.wrap (IntKind.i64.wrap ((↑g.r.E.length : Int) + (1 : Int)) - (1 : Int))) ∧ Holds ((0 : Int) ≤ g.r.pages) ∧ Holds (g.r.pages ≤ (64 : Int)) ∧ Holds ((0 : Int) ≤ (↑g.r.M.length : Int)) ∧ ∃ (r : Planned), Holds (r = g.r.plan g.c g.g) ∧ (wh (IntKind.i64.wrap (IntKind.i64.wrap ((↑g.r.E.length : Int) + (1 : Int)) - (1 : Int)))).fst = r.a.fst ∧ (wh (IntKind.i64.wrap (IntKind.i64.wrap ((↑g.r.E.length : Int) + (1 : Int)) - (1 : Int)))).snd = r.a.snd ∧ (sm g.r.pages (↑g.r.M.length : Int)).fst = r.b.fst ∧ (sm g.r.pages (↑g.r.M.length : Int)).snd = r.b.snd ∧ (0 : Int) = r.e)) (Holds ((0 : Int) ≤ IntKind.i64.wrap ((↑g.r.E.length : Int) + (1 : Int))) ∧ Holds (IntKind.i64.wrap ((↑g.r.E.length : Int) + (1 : Int)) ≤ (1000000000 : Int)) ∧ Holds ((0 : Int) < (31 : Int)) ∧ Holds ((31 : Int) ≤ (1000000000 : Int)) ∧ Holds ((0 : Int) ≤ (↑g.r.M.length : Int)) ∧ Holds ((↑g.r.M.length : Int) ≤ (1000000000 : Int)) ∧ Holds ((0 : Int) < (84 : Int)) ∧ Holds ((84 : Int) ≤ (1000000000 : Int)) ∧ SplitB (decide (IntKind.i64.wrap (nd (IntKind.i64.wrap ((↑g.r.E.length : Int) + (1 : Int))) (31 : Int) + nd (↑g.r.M.length : Int) (84 : Int)) > g.r.pages)) (∃ (r : Planned), Holds (r = g.r.plan g.c g.g) ∧ (0 : Int) = r.a.fst ∧ (0 : Int) = r.a.snd ∧ (0 : Int) = r.b.fst ∧ (0 : Int) = r.b.snd ∧ (6 : Int) = r.e) (Holds ((0 : Int) ≤ IntKind.i64.wrap (IntKind.i64.wrap ((↑g.r.E.length : Int) + (1 : Int)) - (1 : Int))) ∧ Holds ((0 : Int) ≤ g.r.pages) ∧ Holds (g.r.pages ≤ (64 : Int)) ∧ Holds ((0 : Int) ≤ (mgetT kI kI g.r.M g.g).getD ((0 : Int))) ∧ ∃ (r : Planned), Holds (r = g.r.plan g.c g.g) ∧ (wh (IntKind.i64.wrap (IntKind.i64.wrap ((↑g.r.E.length : Int) + (1 : Int)) - (1 : Int)))).fst = r.a.fst ∧ (wh (IntKind.i64.wrap (IntKind.i64.wrap ((↑g.r.E.length : Int) + (1 : Int)) - (1 : Int)))).snd = r.a.snd ∧ (sm g.r.pages ((mgetT kI kI g.r.M g.g).getD ((0 : Int)))).fst = r.b.fst ∧ (sm g.r.pages ((mgetT kI kI g.r.M g.g).getD ((0 : Int)))).snd = r.b.snd ∧ (0 : Int) = r.e)))))))) := by kernel_rfl
theorem ok20 : vc20 := by
  rw [vc20_is]
  intro g h1 h2 h3 h4 h5 h6
  simp only [holds_iff, inR64] at *
  obtain ⟨p1, p2, p3, p4⟩ := h6.p
  have m1 := h6.m g.g
  have w1 : IntKind.i64.wrap ((g.r.E.length : Int) + 1) = (g.r.E.length : Int) + 1 := wrap64 (by omega) (by omega)
  have w2 : IntKind.i64.wrap ((g.r.M.length : Int) + 1) = (g.r.M.length : Int) + 1 := wrap64 (by omega) (by omega)
  have w3 : IntKind.i64.wrap ((g.r.E.length : Int) + 1 - 1) = (g.r.E.length : Int) := by rw [show (g.r.E.length : Int) + 1 - 1 = g.r.E.length from by omega]; exact wrap64 (by omega) (by omega)
  have w4 : ∀ x y : Int, 0 ≤ x → x ≤ 1000001 → 0 ≤ y → y ≤ 1000001 → IntKind.i64.wrap (nd x 31 + nd y 84) = nd x 31 + nd y 84 := fun x y h1 h2 h3 h4 => by
    apply wrap64 <;> simp only [nd] <;> omega
  simp only [holds_iff, splitB_iff, decide_eq_true_eq, decide_eq_false_iff_not, w1, w2, w3, exists_eq_left]
  rw [w4 _ _ (by omega) (by omega) (by omega) (by omega), w4 _ _ (by omega) (by omega) (by omega) (by omega)]
  unfold Reg.plan
  refine ⟨fun a1 => by rw [if_pos (by omega)]; simp, fun a1 => ⟨fun a2 => by rw [if_pos (by omega)]; simp, fun a2 => ⟨fun a3 => by rw [if_pos (by omega)]; simp, fun a3 => ⟨fun a4 => by rw [if_pos (by omega)]; simp, fun a4 => ?_⟩⟩⟩⟩
  rw [if_neg (by omega)]
  refine ⟨fun a5 => by rw [if_pos a5]; simp, fun a5 => ?_⟩
  rw [if_neg (by simp only [mgE]; rw [a5]; simp)]
  refine ⟨fun a6 => ?_, fun a6 => ?_⟩
  · have a7 : mgM g.r.M g.g = none := by simpa using a6
    refine ⟨by omega, by omega, by omega, by omega, by omega, by omega, by omega, by omega, fun a8 => ?_, fun a8 => ?_⟩
    · rw [if_pos (by rw [a7]; simpa using a8)]; simp
    · rw [if_neg (by rw [a7]; simpa using a8)]
      refine ⟨by omega, by omega, by omega, by omega, rfl, rfl, ?_, ?_, rfl⟩ <;> rw [a7] <;> rfl
  · have a7 : (mgM g.r.M g.g).isSome = true := by simpa using a6
    obtain ⟨k, hk⟩ := Option.isSome_iff_exists.1 a7
    refine ⟨by omega, by omega, by omega, by omega, by omega, by omega, by omega, by omega, fun a8 => ?_, fun a8 => ?_⟩
    · rw [if_pos (by rw [a7]; simpa using a8)]; simp
    · rw [if_neg (by rw [a7]; simpa using a8)]
      refine ⟨by omega, by omega, by omega, m1.1, rfl, rfl, ?_, ?_, rfl⟩ <;> (unfold mgM at hk ⊢; rw [hk]; rfl)

def vc14 : Prop := vc Try.f14.body Try.f14.results Try.f14.ntmps [(30, some sp30)] sp14 (fun _ => noAnn)
theorem vc14_is : vc14 = (
∀ (g : RegInt), Holds (InR IntKind.i64 g.k) → Holds (InR IntKind.i64 g.r.pages) → Holds (MOk kI kS g.r.E) → Holds (MOk kI kI g.r.M) → Holds g.r.ok → SplitB (!(mgetT kI kI g.r.M g.k).isSome) (∃ (r : Planned), Holds (r = g.r.group g.k) ∧ (0 : Int) = r.a.fst ∧ (0 : Int) = r.a.snd ∧ (122 : Int) = r.e) (Holds ((0 : Int) ≤ g.r.pages) ∧ Holds (g.r.pages ≤ (64 : Int)) ∧ Holds ((0 : Int) ≤ (mgetT kI kI g.r.M g.k).getD ((0 : Int))) ∧ ∃ (r : Planned), Holds (r = g.r.group g.k) ∧ (sm g.r.pages ((mgetT kI kI g.r.M g.k).getD ((0 : Int)))).fst = r.a.fst ∧ (sm g.r.pages ((mgetT kI kI g.r.M g.k).getD ((0 : Int)))).snd = r.a.snd ∧ (0 : Int) = r.e)) := by kernel_rfl
theorem ok14 : vc14 := by
  rw [vc14_is]
  intro g h1 h2 h3 h4 h5
  simp only [holds_iff, inR64] at *
  obtain ⟨p1, p2, p3, p4⟩ := h5.p
  have m1 := h5.m g.k
  simp only [holds_iff, splitB_iff, exists_eq_left]
  unfold Reg.group
  refine ⟨fun a6 => ?_, fun a6 => ?_⟩
  · have a7 : mgM g.r.M g.k = none := by simpa using a6
    rw [a7]; simp
  · obtain ⟨k, hk⟩ := Option.isSome_iff_exists.1 (show (mgM g.r.M g.k).isSome = true by simpa using a6)
    refine ⟨by omega, by omega, m1.1, ?_⟩
    unfold mgM at hk ⊢
    rw [hk]
    exact ⟨rfl, rfl, rfl⟩

def vc13 : Prop := vc Try.f13.body Try.f13.results Try.f13.ntmps [(29, some sp29), (30, some sp30)] sp13 (fun _ => noAnn)
theorem vc13_is : vc13 = (
∀ (g : RegInt), Holds (InR IntKind.i64 g.k) → Holds (InR IntKind.i64 g.r.pages) → Holds (MOk kI kS g.r.E) → Holds (MOk kI kI g.r.M) → Holds g.r.ok → SplitB (!(mgetT kI kS g.r.E g.k).isSome) (∃ (r : Found), Holds (r = g.r.find g.k) ∧ (0 : Int) = r.a.fst ∧ (0 : Int) = r.a.snd ∧ (0 : Int) = r.g ∧ (0 : Int) = r.b.fst ∧ (0 : Int) = r.b.snd ∧ (120 : Int) = r.e) (Holds ((0 : Int) ≤ ((mgetT kI kS g.r.E g.k).getD ((0 : Int), (0 : Int))).fst) ∧ Holds ((0 : Int) ≤ g.r.pages) ∧ Holds (g.r.pages ≤ (64 : Int)) ∧ Holds ((0 : Int) ≤ (mgetT kI kI g.r.M ((mgetT kI kS g.r.E g.k).getD ((0 : Int), (0 : Int))).snd).getD ((0 : Int))) ∧ ∃ (r : Found), Holds (r = g.r.find g.k) ∧ (wh ((mgetT kI kS g.r.E g.k).getD ((0 : Int), (0 : Int))).fst).fst = r.a.fst ∧ (wh ((mgetT kI kS g.r.E g.k).getD ((0 : Int), (0 : Int))).fst).snd = r.a.snd ∧ ((mgetT kI kS g.r.E g.k).getD ((0 : Int), (0 : Int))).snd = r.g ∧ (sm g.r.pages ((mgetT kI kI g.r.M ((mgetT kI kS g.r.E g.k).getD ((0 : Int), (0 : Int))).snd).getD ((0 : Int)))).fst = r.b.fst ∧ (sm g.r.pages ((mgetT kI kI g.r.M ((mgetT kI kS g.r.E g.k).getD ((0 : Int), (0 : Int))).snd).getD ((0 : Int)))).snd = r.b.snd ∧ (0 : Int) = r.e)) := by kernel_rfl
theorem ok13 : vc13 := by
  rw [vc13_is]
  intro g h1 h2 h3 h4 h5
  simp only [holds_iff, inR64] at *
  obtain ⟨p1, p2, p3, p4⟩ := h5.p
  simp only [holds_iff, splitB_iff, exists_eq_left]
  unfold Reg.find
  refine ⟨fun a6 => ?_, fun a6 => ?_⟩
  · have a7 : mgE g.r.E g.k = none := by simpa using a6
    rw [a7]; simp
  · obtain ⟨x, hx⟩ := Option.isSome_iff_exists.1 (show (mgE g.r.E g.k).isSome = true by simpa using a6)
    have hm := h5.2.2.2.2.2 _ (mget_mem hx)
    have m1 := h5.m x.2
    unfold mgE at hx ⊢
    rw [hx]
    exact ⟨hm.1, by omega, by omega, m1.1, rfl, rfl, rfl, rfl, rfl, rfl⟩

def vc19 : Prop := vc Try.f19.body Try.f19.results Try.f19.ntmps [(20, some sp20)] sp19 (fun _ => noAnn)
theorem vc19_is : vc19 = (
∀ (g : RegTake), Holds (InR IntKind.i64 g.c) → Holds (InR IntKind.i64 g.g) → Holds (InR IntKind.i64 g.w.fst) → Holds (InR IntKind.i64 g.w.snd) → Holds (InR IntKind.i64 g.s.fst) → Holds (InR IntKind.i64 g.s.snd) → Holds (InR IntKind.i64 g.r.pages) → Holds (MOk kI kS g.r.E) → Holds (MOk kI kI g.r.M) → Holds g.r.ok → Holds g.r.ok ∧ ∀ (r : Planned), Holds (r = g.r.plan g.c g.g) → SplitB (r.e != (0 : Int)) (∃ (r_1 : TakeOut), Holds (r_1 = { e := g.r.takeE g.c g.g g.w g.s, r := g.r.take g.c g.g g.w g.s : TakeOut }) ∧ r.e = r_1.e ∧ g.r.E = r_1.r.E ∧ g.r.M = r_1.r.M) (SplitB (!(r.a.fst == g.w.fst && r.a.snd == g.w.snd)) (∃ (r : TakeOut), Holds (r = { e := g.r.takeE g.c g.g g.w g.s, r := g.r.take g.c g.g g.w g.s : TakeOut }) ∧ (83 : Int) = r.e ∧ g.r.E = r.r.E ∧ g.r.M = r.r.M) (SplitB (!(r.b.fst == g.s.fst && r.b.snd == g.s.snd)) (∃ (r : TakeOut), Holds (r = { e := g.r.takeE g.c g.g g.w g.s, r := g.r.take g.c g.g g.w g.s : TakeOut }) ∧ (83 : Int) = r.e ∧ g.r.E = r.r.E ∧ g.r.M = r.r.M) (Holds (g.r.E.length < maxLen) ∧ SplitB (!(mgetT kI kI g.r.M g.g).isSome) (Holds (g.r.M.length < maxLen) ∧ ∃ (r : TakeOut), Holds (r = { e := g.r.takeE g.c g.g g.w g.s, r := g.r.take g.c g.g g.w g.s : TakeOut }) ∧ (0 : Int) = r.e ∧ msetT kI kS g.r.E g.c ((↑g.r.E.length : Int), g.g) = r.r.E ∧ msetT kI kI g.r.M g.g (↑g.r.M.length : Int) = r.r.M) (∃ (r : TakeOut), Holds (r = { e := g.r.takeE g.c g.g g.w g.s, r := g.r.take g.c g.g g.w g.s : TakeOut }) ∧ (0 : Int) = r.e ∧ msetT kI kS g.r.E g.c ((↑g.r.E.length : Int), g.g) = r.r.E ∧ g.r.M = r.r.M))))) := by kernel_rfl
theorem ok19 : vc19 := by
  rw [vc19_is]
  intro g h1 h2 h3 h4 h5 h6 h7 h8 h9 h10
  simp only [holds_iff, inR64] at *
  obtain ⟨p1, p2, p3, p4⟩ := h10.p
  refine ⟨h10, ?_⟩
  have hr : (⟨g.r.pages, g.r.E, g.r.M⟩ : Reg) = g.r := rfl
  simp only [holds_iff, splitB_iff, hr, forall_eq, exists_eq_left]
  unfold Reg.take Reg.takeE
  refine ⟨fun a1 => ?_, fun a1 => ⟨fun a2 => ?_, fun a2 => ⟨fun a3 => ?_, fun a3 => ⟨?_, fun a4 => ?_, fun a4 => ?_⟩⟩⟩⟩
  · have : (g.r.plan g.c g.g).e ≠ 0 := by simpa using a1
    simp [this]
  all_goals have b1 : (g.r.plan g.c g.g).e = 0 := by simpa using a1
  · have b2 : (g.r.plan g.c g.g).a ≠ g.w := fun e => by rw [e] at a2; simp at a2
    simp [b1, b2]
  · have b3 : (g.r.plan g.c g.g).b ≠ g.s := fun e => by rw [e] at a3; simp at a3
    simp [b1, b3]
  all_goals have b2 : (g.r.plan g.c g.g).a = g.w := by simp at a2; exact Prod.ext a2.1 a2.2
  all_goals have b3 : (g.r.plan g.c g.g).b = g.s := by simp at a3; exact Prod.ext a3.1 a3.2
  · have : maxLen = 9223372036854775807 := by decide
    omega
  · have b4 : mgM g.r.M g.g = none := by simpa using a4
    refine ⟨?_, ?_⟩
    · have : maxLen = 9223372036854775807 := by decide
      omega
    · simp only [b1, b2, b3, ne_eq, not_true_eq_false, if_false, or_self, if_true, Reg.add]
      rw [b4]
      simp
  · have b4 : (mgM g.r.M g.g).isSome = true := by simpa using a4
    simp only [b1, b2, b3, ne_eq, not_true_eq_false, if_false, or_self, if_true, Reg.add, b4]
    simp

def vc16 : Prop := vc Try.f16.body Try.f16.results Try.f16.ntmps [(31, some sp31)] sp16 ann16
theorem vc16_is : vc16 = (
∀ (g : RegOnly), Holds (InR IntKind.i64 g.r.pages) → Holds (MOk kI kS g.r.E) → Holds (MOk kI kI g.r.M) → Holds g.r.ok → (∃ (x : Keys kS.den), Holds ((x.out ++ keysOf x.left).Perm (keysOf g.r.E)) ∧ nilT Int = x.out ∧ g.r.E = x.left) ∧ ∀ (x : Keys kS.den), Holds ((x.out ++ keysOf x.left).Perm (keysOf g.r.E)) → (∀ (r : Unit), Holds (x.left = []) → Holds (x.out.length < (4611686018427387904 : Nat)) ∧ rising x.out = rising (keysOf g.r.E)) ∧ ∀ (r : List (kI.den × kS.den) × (kI.den × kS.den) × List (kI.den × kS.den)), Holds (x.left = r.fst ++ r.snd.fst :: r.snd.snd) → Holds ((x.out.length + [r.snd.fst.fst].length) * (8 : Nat) ≤ (140737488355328 : Nat)) ∧ ∃ (y : Keys kS.den), Holds ((y.out ++ keysOf y.left).Perm (keysOf g.r.E)) ∧ Holds (y.left.length < x.left.length) ∧ x.out ++ [r.snd.fst.fst] = y.out ∧ r.fst ++ r.snd.snd = y.left) := by kernel_rfl
theorem ok16 : vc16 := by
  rw [vc16_is]
  intro g h1 h2 h3 h4
  obtain ⟨p1, p2, p3, p4⟩ := h4.out.p
  refine ⟨⟨⟨g.r.E, []⟩, ⟨by simp⟩, rfl, rfl⟩, fun x hx => ⟨fun _ hl => ?_, fun r hl => ⟨⟨?_⟩, ⟨r.1 ++ r.2.2, x.out ++ [r.2.1.1]⟩, ⟨?_⟩, ⟨?_⟩, rfl, rfl⟩⟩⟩
  · have h5 := keys_length hx.out
    rw [hl.out] at h5
    simp only [List.length_nil] at h5
    refine ⟨⟨by omega⟩, rising_perm ?_⟩
    have := hx.out
    rw [hl.out] at this
    simpa [keysOf] using this
  · have h5 := keys_length hx.out
    rw [hl.out] at h5
    simp only [List.length_append, List.length_cons] at h5
    simp only [List.length_cons, List.length_nil]
    omega
  · have := hx.out
    rw [hl.out] at this
    exact (keysOf_mid _ _ _ _).trans this
  · rw [hl.out]; simp

def vc17 : Prop := vc Try.f17.body Try.f17.results Try.f17.ntmps [(31, some sp31)] sp17 ann17
theorem vc17_is : vc17 = (
∀ (g : RegOnly), Holds (InR IntKind.i64 g.r.pages) → Holds (MOk kI kS g.r.E) → Holds (MOk kI kI g.r.M) → Holds g.r.ok → (∃ (x : Keys kI.den), Holds ((x.out ++ keysOf x.left).Perm (keysOf g.r.M)) ∧ nilT Int = x.out ∧ g.r.M = x.left) ∧ ∀ (x : Keys kI.den), Holds ((x.out ++ keysOf x.left).Perm (keysOf g.r.M)) → (∀ (r : Unit), Holds (x.left = []) → Holds (x.out.length < (4611686018427387904 : Nat)) ∧ rising x.out = rising (keysOf g.r.M)) ∧ ∀ (r : List (kI.den × kI.den) × (kI.den × kI.den) × List (kI.den × kI.den)), Holds (x.left = r.fst ++ r.snd.fst :: r.snd.snd) → Holds ((x.out.length + [r.snd.fst.fst].length) * (8 : Nat) ≤ (140737488355328 : Nat)) ∧ ∃ (y : Keys kI.den), Holds ((y.out ++ keysOf y.left).Perm (keysOf g.r.M)) ∧ Holds (y.left.length < x.left.length) ∧ x.out ++ [r.snd.fst.fst] = y.out ∧ r.fst ++ r.snd.snd = y.left) := by kernel_rfl
theorem ok17 : vc17 := by
  rw [vc17_is]
  intro g h1 h2 h3 h4
  obtain ⟨p1, p2, p3, p4⟩ := h4.out.p
  refine ⟨⟨⟨g.r.M, []⟩, ⟨by simp⟩, rfl, rfl⟩, fun x hx => ⟨fun _ hl => ?_, fun r hl => ⟨⟨?_⟩, ⟨r.1 ++ r.2.2, x.out ++ [r.2.1.1]⟩, ⟨?_⟩, ⟨?_⟩, rfl, rfl⟩⟩⟩
  · have h5 := keys_length hx.out
    rw [hl.out] at h5
    simp only [List.length_nil] at h5
    refine ⟨⟨by omega⟩, rising_perm ?_⟩
    have := hx.out
    rw [hl.out] at this
    simpa [keysOf] using this
  · have h5 := keys_length hx.out
    rw [hl.out] at h5
    simp only [List.length_append, List.length_cons] at h5
    simp only [List.length_cons, List.length_nil]
    omega
  · have := hx.out
    rw [hl.out] at this
    exact (keysOf_mid _ _ _ _).trans this
  · rw [hl.out]; simp

def vc21 : Prop := vc Try.f21.body Try.f21.results Try.f21.ntmps [] sp21 ann21
theorem vc21_is : vc21 = (
∀ (g : TwoL), Holds (kI.slice.ok g.a) → Holds (kI.slice.ok g.b) → SplitB ((↑g.a.length : Int) != (↑g.b.length : Int)) (false = decide (g.a = g.b)) ((∃ (x : At), Holds (x.i ≤ g.a.length ∧ g.a.length = g.b.length ∧ List.take x.i g.a = List.take x.i g.b) ∧ (0 : Int) = (↑x.i : Int)) ∧ ∀ (x : At), Holds (x.i ≤ g.a.length ∧ g.a.length = g.b.length ∧ List.take x.i g.a = List.take x.i g.b) → SplitB (decide ((↑x.i : Int) < (↑g.a.length : Int))) (Holds ((0 : Int) ≤ (↑x.i : Int)) ∧ Holds ((↑x.i : Int) < (↑g.a.length : Int)) ∧ Holds ((↑x.i : Int).toNat < g.a.length) ∧ Holds ((0 : Int) ≤ (↑x.i : Int)) ∧ Holds ((↑x.i : Int) < (↑g.b.length : Int)) ∧ Holds ((↑x.i : Int).toNat < g.b.length) ∧ SplitB (g.a.getD (↑x.i : Int).toNat ((0 : Int)) != g.b.getD (↑x.i : Int).toNat ((0 : Int))) (false = decide (g.a = g.b)) (∃ (y : At), Holds (y.i ≤ g.a.length ∧ g.a.length = g.b.length ∧ List.take y.i g.a = List.take y.i g.b) ∧ Holds (g.a.length - y.i < g.a.length - x.i) ∧ IntKind.i64.wrap ((↑x.i : Int) + (1 : Int)) = (↑y.i : Int))) (true = decide (g.a = g.b)))) := by kernel_rfl
theorem ok21 : vc21 := by
  rw [vc21_is]
  intro g h1 h2
  simp only [holds_iff] at h1 h2
  have l1 : (g.a.length : Int) ≤ 9223372036854775807 := by have := h1.1; have e : maxLen = 9223372036854775807 := by decide
                                                           omega
  refine ⟨fun hn => ?_, fun hn => ⟨⟨⟨0⟩, ⟨by simp, ?_, by simp⟩, rfl⟩, fun x hx => ⟨fun h => ?_, fun h => ?_⟩⟩⟩
  · have : g.a ≠ g.b := fun e => by rw [e] at hn; simp at hn
    simp [this]
  · simp at hn; omega
  · obtain ⟨x1, x2, x3⟩ := hx.out
    simp only [decide_eq_true_eq] at h
    have hi : x.i < g.a.length := by omega
    have hj : x.i < g.b.length := by omega
    refine ⟨⟨by omega⟩, ⟨h⟩, ⟨by simpa using hi⟩, ⟨by omega⟩, ⟨by omega⟩, ⟨by simpa using hj⟩, fun hd => ?_, fun hd => ⟨⟨x.i + 1⟩, ⟨(show x.i + 1 ≤ g.a.length by omega), x2, ?_⟩, ⟨(show g.a.length - (x.i + 1) < g.a.length - x.i by omega)⟩, ?_⟩⟩
    · have : g.a ≠ g.b := fun e => by rw [e] at hd; simp at hd
      simp [this]
    · show g.a.take (x.i + 1) = g.b.take (x.i + 1)
      simp [List.getD, hi, hj] at hd
      rw [List.take_succ_eq_append_getElem hi, List.take_succ_eq_append_getElem hj, x3, hd]
    · rw [wrap64 (by omega) (by omega)]; rfl
  · obtain ⟨x1, x2, x3⟩ := hx.out
    simp only [decide_eq_false_iff_not] at h
    have hi : x.i = g.a.length := by omega
    rw [hi, List.take_length, x2, List.take_length] at x3
    simp [x3]

def vc7 : Prop := vc Try.f7.body Try.f7.results Try.f7.ntmps [(18, some sp18), (15, some sp15), (20, some sp20), (19, some sp19), (13, some sp13), (14, some sp14), (16, some sp16), (17, some sp17), (21, some sp21)] sp7 (fun _ => noAnn)
theorem vc7_is : vc7 = (
∀ (g : Unit), (∀ (r : Unit), Holds ¬((2 : Int) ≤ (2 : Int) ∧ (2 : Int) ≤ (64 : Int)) → (∀ (r : Unit), Holds ¬((2 : Int) ≤ (65 : Int) ∧ (65 : Int) ≤ (64 : Int)) → False) ∧ ∀ (r : Unit), Holds ((2 : Int) ≤ (65 : Int) ∧ (65 : Int) ≤ (64 : Int)) → False) ∧ ∀ (r : Unit), Holds ((2 : Int) ≤ (2 : Int) ∧ (2 : Int) ≤ (64 : Int)) → (∀ (r : Unit), Holds ¬((2 : Int) ≤ (65 : Int) ∧ (65 : Int) ≤ (64 : Int)) → SplitB ((0 : Int) != (0 : Int)) False (SplitB ((2 : Int) != (2 : Int)) False (Holds { pages := (2 : Int), E := [], M := [] : Reg }.ok ∧ ∀ (r : Planned), Holds (r = { pages := (2 : Int), E := [], M := [] : Reg }.plan (7 : Int) (3 : Int)) → SplitB (!(r.a.fst == (0 : Int) && r.a.snd == (0 : Int))) False (SplitB (!(r.b.fst == (1 : Int) && r.b.snd == (0 : Int))) False (SplitB (r.e != (0 : Int)) False (Holds { pages := (2 : Int), E := [], M := [] : Reg }.ok ∧ ∀ (r_1 : TakeOut), Holds (r_1 = { e := { pages := (2 : Int), E := [], M := [] : Reg }.takeE (7 : Int) (3 : Int) r.a r.a, r := { pages := (2 : Int), E := [], M := [] : Reg }.take (7 : Int) (3 : Int) r.a r.a : TakeOut }) → SplitB (r_1.e != (83 : Int)) False (Holds { pages := (2 : Int), E := r_1.r.E, M := r_1.r.M : Reg }.ok ∧ ∀ (r_2 : TakeOut), Holds (r_2 = { e := { pages := (2 : Int), E := r_1.r.E, M := r_1.r.M : Reg }.takeE (7 : Int) (3 : Int) r.a r.b, r := { pages := (2 : Int), E := r_1.r.E, M := r_1.r.M : Reg }.take (7 : Int) (3 : Int) r.a r.b : TakeOut }) → SplitB (r_2.e != (0 : Int)) False (Holds { pages := (2 : Int), E := r_2.r.E, M := r_2.r.M : Reg }.ok ∧ ∀ (r_3 : Planned), Holds (r_3 = { pages := (2 : Int), E := r_2.r.E, M := r_2.r.M : Reg }.plan (5 : Int) (4 : Int)) → Holds { pages := (2 : Int), E := r_2.r.E, M := r_2.r.M : Reg }.ok ∧ ∀ (r_4 : Found), Holds (r_4 = { pages := (2 : Int), E := r_2.r.E, M := r_2.r.M : Reg }.find (7 : Int)) → Holds { pages := (2 : Int), E := r_2.r.E, M := r_2.r.M : Reg }.ok ∧ ∀ (r_5 : Planned), Holds (r_5 = { pages := (2 : Int), E := r_2.r.E, M := r_2.r.M : Reg }.group (3 : Int)) → Holds { pages := (2 : Int), E := r_2.r.E, M := r_2.r.M : Reg }.ok ∧ ∀ (r_6 : Planned), Holds (r_6 = { pages := (2 : Int), E := r_2.r.E, M := r_2.r.M : Reg }.group (4 : Int)) → SplitB (!(r_3.a.fst == (0 : Int) && r_3.a.snd == (1 : Int))) False (SplitB (!(r_3.b.fst == (1 : Int) && r_3.b.snd == (1 : Int))) False (SplitB (r_3.e != (0 : Int)) False (SplitB (!(r_4.a.fst == r.a.fst && r_4.a.snd == r.a.snd)) False (SplitB (r_4.g != (3 : Int)) False (SplitB (!(r_4.b.fst == r.b.fst && r_4.b.snd == r.b.snd)) False (SplitB (r_4.e != (0 : Int)) False (SplitB (!(r_5.a.fst == r.b.fst && r_5.a.snd == r.b.snd)) False (SplitB (r_5.e != (0 : Int)) False (SplitB (r_6.e != (122 : Int)) False (Holds { pages := (2 : Int), E := r_2.r.E, M := r_2.r.M : Reg }.ok ∧ SplitB (decide (rising (keysOf r_2.r.E) = [(7 : Int)])) (Holds { pages := (2 : Int), E := r_2.r.E, M := r_2.r.M : Reg }.ok ∧ decide (rising (keysOf r_2.r.M) = [(3 : Int)]) = true) False)))))))))))))))))) ∧ ∀ (r : Unit), Holds ((2 : Int) ≤ (65 : Int) ∧ (65 : Int) ≤ (64 : Int)) → SplitB ((0 : Int) != (0 : Int)) False False) := by kernel_rfl
theorem pl0 : (Reg.mk 2 [] []).plan 7 3 = ⟨(0, 0), (1, 0), 0⟩ := by kernel_rfl
theorem te0 : (Reg.mk 2 [] []).takeE 7 3 (0, 0) (0, 0) = 83 := by kernel_rfl
theorem tk0 : (Reg.mk 2 [] []).take 7 3 (0, 0) (0, 0) = ⟨2, [], []⟩ := by kernel_rfl
theorem te1 : (Reg.mk 2 [] []).takeE 7 3 (0, 0) (1, 0) = 0 := by kernel_rfl
theorem tk1 : (Reg.mk 2 [] []).take 7 3 (0, 0) (1, 0) = ⟨2, [(7, (0, 3))], [(3, 0)]⟩ := by kernel_rfl
theorem pl1 : (Reg.mk 2 [(7, (0, 3))] [(3, 0)]).plan 5 4 = ⟨(0, 1), (1, 1), 0⟩ := by kernel_rfl
theorem fd1 : (Reg.mk 2 [(7, (0, 3))] [(3, 0)]).find 7 = ⟨(0, 0), 3, (1, 0), 0⟩ := by kernel_rfl
theorem gr3 : (Reg.mk 2 [(7, (0, 3))] [(3, 0)]).group 3 = ⟨(1, 0), (0, 0), 0⟩ := by kernel_rfl
theorem gr4 : (Reg.mk 2 [(7, (0, 3))] [(3, 0)]).group 4 = ⟨(0, 0), (0, 0), 122⟩ := by kernel_rfl
theorem okR0 : (Reg.mk 2 [] []).ok := by simp [Reg.ok]
theorem okR1 : (Reg.mk 2 [(7, (0, 3))] [(3, 0)]).ok := by simp [Reg.ok]
theorem ri1 : rising (keysOf [((7 : Int), ((0 : Int), (3 : Int)))]) = [7] := by simp [rising, keysOf]
theorem ri2 : rising (keysOf [((3 : Int), (0 : Int))]) = [3] := by simp [rising, keysOf]
theorem ok7 : vc7 := by
  rw [vc7_is]
  intro g
  simp only [pl0, te0, tk0, te1, tk1, pl1, fd1, gr3, gr4, ri1, ri2, holds_iff, splitB_iff, okR0, okR1, forall_eq]
  simp

end Go.Proofs.Ytkhcphdnppdfjaa.VC
