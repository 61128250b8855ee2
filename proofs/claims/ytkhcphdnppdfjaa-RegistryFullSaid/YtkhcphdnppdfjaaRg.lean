/- The registry's functions: what is to be shown of each, shown. Plain lemmas; no conditions but those that each names. -/
import Derived.Test.YtkhcphdnppdfjaaSp
import Derived.Test.YtkhcphdnppdfjaaWa
import Derived.KernelRfl
set_option linter.unusedVariables false
set_option linter.unusedSimpArgs false
set_option linter.unusedSectionVars false
namespace Go.Proofs.Ytkhcphdnppdfjaa.VC
open Go
set_option maxRecDepth 100000

theorem Reg.ok.p {r : Reg} (h : r.ok) : 2 ≤ r.pages ∧ r.pages ≤ 64 ∧ (r.E.length : Int) ≤ 1000000 ∧ (r.M.length : Int) ≤ 1000000 := ⟨h.1, h.2.1, by have := h.2.2.1; omega, by have := h.2.2.2.1; omega⟩
theorem Reg.ok.m {r : Reg} (h : r.ok) (g : Int) : 0 ≤ (mgM r.M g).getD 0 ∧ (mgM r.M g).getD 0 ≤ 1000000 := by
  cases hg : mgM r.M g with
  | none => simp
  | some x => exact h.2.2.2.2.1 _ (mget_mem hg)

def vc15 : Prop := vc Try.f15.body Try.f15.results Try.f15.ntmps [] sp15 (fun _ => noAnn)
theorem vc15_is : vc15 = (
∀ (g : Int), Holds (InR IntKind.i64 g) → g = g) := by kernel_rfl
theorem ok15 : vc15 := by rw [vc15_is]; intro g h; rfl

def vc29 : Prop := vc Try.f29.body Try.f29.results Try.f29.ntmps [] sp29 (fun _ => noAnn)
theorem vc29_is : vc29 = (
∀ (g : Int), Holds (InR IntKind.i64 g) → Holds ((0 : Int) ≤ g) → Holds ((31 : Int) ≠ (0 : Int)) ∧ Holds ((31 : Int) ≠ (0 : Int)) ∧ IntKind.i64.wrap (g.tdiv (31 : Int)) = (wh g).fst ∧ g.tmod (31 : Int) = (wh g).snd) := by kernel_rfl
theorem ok29 : vc29 := by
  rw [vc29_is]
  intro g h1 h2
  simp only [holds_iff, inR64] at *
  refine ⟨by omega, by omega, ?_, ?_⟩
  · rw [tdiv_pos h2, wrap64 (by omega) (by omega)]; rfl
  · rw [tmod_pos h2]; rfl

def vc30 : Prop := vc Try.f30.body Try.f30.results Try.f30.ntmps [] sp30 (fun _ => noAnn)
theorem vc30_is : vc30 = (
∀ (g : RegInt), Holds (InR IntKind.i64 g.k) → Holds (InR IntKind.i64 g.r.pages) → Holds (MOk TI64 TSlot g.r.E) → Holds (MOk TI64 TI64 g.r.M) → Holds ((0 : Int) ≤ g.r.pages) → Holds (g.r.pages ≤ (64 : Int)) → Holds ((0 : Int) ≤ g.k) → Holds ((84 : Int) ≠ (0 : Int)) ∧ Holds ((84 : Int) ≠ (0 : Int)) ∧ IntKind.i64.wrap (IntKind.i64.wrap (g.r.pages - (1 : Int)) - IntKind.i64.wrap (g.k.tdiv (84 : Int))) = (sm g.r.pages g.k).fst ∧ g.k.tmod (84 : Int) = (sm g.r.pages g.k).snd) := by kernel_rfl
theorem ok30 : vc30 := by
  rw [vc30_is]
  intro g h1 h2 h3 h4 h5 h6 h7
  simp only [holds_iff, inR64] at *
  refine ⟨by omega, by omega, ?_, ?_⟩
  · rw [tdiv_pos h7]
    simp only [sm]
    rw [wrap64 (n := g.k / 84) (by omega) (by omega), wrap64 (n := g.r.pages - 1) (by omega) (by omega), wrap64 (by omega) (by omega)]
  · rw [tmod_pos h7]; rfl

def vc32 : Prop := vc Try.f32.body Try.f32.results Try.f32.ntmps [] sp32 (fun _ => noAnn)
theorem vc32_is : vc32 = (
∀ (g : Int × Int), Holds (InR IntKind.i64 g.fst) → Holds (InR IntKind.i64 g.snd) → Holds ((0 : Int) ≤ g.fst) → Holds (g.fst ≤ (1000000000 : Int)) → Holds ((0 : Int) < g.snd) → Holds (g.snd ≤ (1000000000 : Int)) → Holds (g.snd ≠ (0 : Int)) ∧ IntKind.i64.wrap ((IntKind.i64.wrap (IntKind.i64.wrap (g.fst + g.snd) - (1 : Int))).tdiv g.snd) = nd g.fst g.snd) := by kernel_rfl
theorem ok32 : vc32 := by
  rw [vc32_is]
  intro g h1 h2 h3 h4 h5 h6
  simp only [holds_iff, inR64] at *
  refine ⟨by omega, ?_⟩
  have e1 : (g.1 + g.2 - 1) / g.2 ≤ g.1 + g.2 - 1 := Int.ediv_le_self _ (by omega)
  have e2 : 0 ≤ (g.1 + g.2 - 1) / g.2 := Int.ediv_nonneg (by omega) (by omega)
  rw [wrap64 (n := g.1 + g.2) (by omega) (by omega), wrap64 (n := g.1 + g.2 - 1) (by omega) (by omega), tdiv_pos (by omega), wrap64 (by omega) (by omega)]
  rfl

def vc18 : Prop := vc Try.f18.body Try.f18.results Try.f18.ntmps [] sp18 (fun _ => noAnn)
theorem vc18_is : vc18 = (
∀ (g : Int), Holds (InR IntKind.i64 g) → SplitB (decide (g < (2 : Int))) ((∃ (r : Unit), Holds ¬((2 : Int) ≤ g ∧ g ≤ (64 : Int)) ∧ (2 : Int) = (2 : Int)) ∨ ∃ (r : Unit), Holds ((2 : Int) ≤ g ∧ g ≤ (64 : Int)) ∧ False) (SplitB (decide (g > (64 : Int))) ((∃ (r : Unit), Holds ¬((2 : Int) ≤ g ∧ g ≤ (64 : Int)) ∧ (2 : Int) = (2 : Int)) ∨ ∃ (r : Unit), Holds ((2 : Int) ≤ g ∧ g ≤ (64 : Int)) ∧ False) ((∃ (r : Unit), Holds ¬((2 : Int) ≤ g ∧ g ≤ (64 : Int)) ∧ False) ∨ ∃ (r : Unit), Holds ((2 : Int) ≤ g ∧ g ≤ (64 : Int)) ∧ (0 : Int) = (0 : Int) ∧ g = g ∧ nilT (Int × Int × Int) = [] ∧ nilT (Int × Int) = []))) := by kernel_rfl
theorem ok18 : vc18 := by
  rw [vc18_is]
  intro g h
  simp only [holds_iff, splitB_iff, decide_eq_true_eq, decide_eq_false_iff_not]
  refine ⟨fun h1 => .inl ⟨(), by omega, by simp⟩, fun h1 => ⟨fun h2 => .inl ⟨(), by omega, by simp⟩, fun h2 => .inr ⟨(), by omega, by simp⟩⟩⟩

def vc20 : Prop := vc Try.f20.body Try.f20.results Try.f20.ntmps [(29, some sp29), (30, some sp30), (32, some sp32)] sp20 (fun _ => noAnn)
theorem vc20_is : vc20 = (
∀ (g : RegInt2), Holds (InR IntKind.i64 g.c) → Holds (InR IntKind.i64 g.g) → Holds (InR IntKind.i64 g.r.pages) → Holds (MOk TI64 TSlot g.r.E) → Holds (MOk TI64 TI64 g.r.M) → Holds g.r.ok → SplitB (decide (g.c < (1 : Int))) ((0 : Int) = (g.r.plan g.c g.g).a.fst ∧ (0 : Int) = (g.r.plan g.c g.g).a.snd ∧ (0 : Int) = (g.r.plan g.c g.g).b.fst ∧ (0 : Int) = (g.r.plan g.c g.g).b.snd ∧ (4 : Int) = (g.r.plan g.c g.g).e) (SplitB (decide (g.c > (1048576 : Int))) ((0 : Int) = (g.r.plan g.c g.g).a.fst ∧ (0 : Int) = (g.r.plan g.c g.g).a.snd ∧ (0 : Int) = (g.r.plan g.c g.g).b.fst ∧ (0 : Int) = (g.r.plan g.c g.g).b.snd ∧ (4 : Int) = (g.r.plan g.c g.g).e) (SplitB (decide (g.g < (1 : Int))) ((0 : Int) = (g.r.plan g.c g.g).a.fst ∧ (0 : Int) = (g.r.plan g.c g.g).a.snd ∧ (0 : Int) = (g.r.plan g.c g.g).b.fst ∧ (0 : Int) = (g.r.plan g.c g.g).b.snd ∧ (4 : Int) = (g.r.plan g.c g.g).e) (SplitB (decide (g.g > (1048576 : Int))) ((0 : Int) = (g.r.plan g.c g.g).a.fst ∧ (0 : Int) = (g.r.plan g.c g.g).a.snd ∧ (0 : Int) = (g.r.plan g.c g.g).b.fst ∧ (0 : Int) = (g.r.plan g.c g.g).b.snd ∧ (4 : Int) = (g.r.plan g.c g.g).e) (SplitB (mgetT TI64 TSlot g.r.E g.c).isSome ((0 : Int) = (g.r.plan g.c g.g).a.fst ∧ (0 : Int) = (g.r.plan g.c g.g).a.snd ∧ (0 : Int) = (g.r.plan g.c g.g).b.fst ∧ (0 : Int) = (g.r.plan g.c g.g).b.snd ∧ (121 : Int) = (g.r.plan g.c g.g).e) (SplitB (!(mgetT TI64 TI64 g.r.M g.g).isSome) (Holds ((0 : Int) ≤ IntKind.i64.wrap ((↑g.r.E.length : Int) + (1 : Int))) ∧ Holds (IntKind.i64.wrap ((↑g.r.E.length : Int) + (1 : Int)) ≤ (1000000000 : Int)) ∧ Holds ((0 : Int) < (31 : Int)) ∧ Holds ((31 : Int) ≤ (1000000000 : Int)) ∧ Holds ((0 : Int) ≤ IntKind.i64.wrap ((↑g.r.M.length : Int) + (1 : Int))) ∧ Holds (IntKind.i64.wrap ((↑g.r.M.length : Int) + (1 : Int)) ≤ (1000000000 : Int)) ∧ Holds ((0 : Int) < (84 : Int)) ∧ Holds ((84 : Int) ≤ (1000000000 : Int)) ∧ SplitB (decide (IntKind.i64.wrap (nd (IntKind.i64.wrap ((↑g.r.E.length : Int) + (1 : Int))) (31 : Int) + nd (IntKind.i64.wrap ((↑g.r.M.length : Int) + (1 : Int))) (84 : Int)) > g.r.pages)) ((0 : Int) = (g.r.plan g.c g.g).a.fst ∧ (0 : Int) = (g.r.plan g.c g.g).a.snd ∧ (0 : Int) = (g.r.plan g.c g.g).b.fst ∧ (0 : Int) = (g.r.plan g.c g.g).b.snd ∧ (6 : Int) = (g.r.plan g.c g.g).e) (Holds ((0 : Int) ≤ IntKind.i64.wrap (IntKind.i64.wrap ((↑g.r.E.length : Int) + (1 : Int)) - (1 : Int))) ∧ Holds ((0 : Int) ≤ g.r.pages) ∧ Holds (g.r.pages ≤ (64 : Int)) ∧ Holds ((0 : Int) ≤ (↑g.r.M.length : Int)) ∧ (wh (IntKind.i64.wrap (IntKind.i64.wrap ((↑g.r.E.length : Int) + (1 : Int)) - (1 : Int)))).fst = (g.r.plan g.c g.g).a.fst ∧ (wh (IntKind.i64.wrap (IntKind.i64.wrap ((↑g.r.E.length : Int) + (1 : Int)) - (1 : Int)))).snd = (g.r.plan g.c g.g).a.snd ∧ (sm g.r.pages (↑g.r.M.length : Int)).fst = (g.r.plan g.c g.g).b.fst ∧ (sm g.r.pages (↑g.r.M.length : Int)).snd = (g.r.plan g.c g.g).b.snd ∧ (0 : Int) = (g.r.plan g.c g.g).e)) (Holds ((0 : Int) ≤ IntKind.i64.wrap ((↑g.r.E.length : Int) + (1 : Int))) ∧ Holds (IntKind.i64.wrap ((↑g.r.E.length : Int) + (1 : Int)) ≤ (1000000000 : Int)) ∧ Holds ((0 : Int) < (31 : Int)) ∧ Holds ((31 : Int) ≤ (1000000000 : Int)) ∧ Holds ((0 : Int) ≤ (↑g.r.M.length : Int)) ∧ Holds ((↑g.r.M.length : Int) ≤ (1000000000 : Int)) ∧ Holds ((0 : Int) < (84 : Int)) ∧ Holds ((84 : Int) ≤ (1000000000 : Int)) ∧ SplitB (decide (IntKind.i64.wrap (nd (IntKind.i64.wrap ((↑g.r.E.length : Int) + (1 : Int))) (31 : Int) + nd (↑g.r.M.length : Int) (84 : Int)) > g.r.pages)) ((0 : Int) = (g.r.plan g.c g.g).a.fst ∧ (0 : Int) = (g.r.plan g.c g.g).a.snd ∧ (0 : Int) = (g.r.plan g.c g.g).b.fst ∧ (0 : Int) = (g.r.plan g.c g.g).b.snd ∧ (6 : Int) = (g.r.plan g.c g.g).e) (Holds ((0 : Int) ≤ IntKind.i64.wrap (IntKind.i64.wrap ((↑g.r.E.length : Int) + (1 : Int)) - (1 : Int))) ∧ Holds ((0 : Int) ≤ g.r.pages) ∧ Holds (g.r.pages ≤ (64 : Int)) ∧ Holds ((0 : Int) ≤ (mgetT TI64 TI64 g.r.M g.g).getD ((0 : Int))) ∧ (wh (IntKind.i64.wrap (IntKind.i64.wrap ((↑g.r.E.length : Int) + (1 : Int)) - (1 : Int)))).fst = (g.r.plan g.c g.g).a.fst ∧ (wh (IntKind.i64.wrap (IntKind.i64.wrap ((↑g.r.E.length : Int) + (1 : Int)) - (1 : Int)))).snd = (g.r.plan g.c g.g).a.snd ∧ (sm g.r.pages ((mgetT TI64 TI64 g.r.M g.g).getD ((0 : Int)))).fst = (g.r.plan g.c g.g).b.fst ∧ (sm g.r.pages ((mgetT TI64 TI64 g.r.M g.g).getD ((0 : Int)))).snd = (g.r.plan g.c g.g).b.snd ∧ (0 : Int) = (g.r.plan g.c g.g).e)))))))) := by kernel_rfl
theorem ok20 : vc20 := by
  rw [vc20_is]
  intro g h1 h2 h3 h4 h5 h6
  simp only [holds_iff, inR64] at *
  obtain ⟨p1, p2, p3, p4⟩ := h6.p
  have m1 := h6.m g.g
  have w1 : IntKind.i64.wrap ((g.r.E.length : Int) + 1) = (g.r.E.length : Int) + 1 := wrap64 (by omega) (by omega)
  have w2 : IntKind.i64.wrap ((g.r.M.length : Int) + 1) = (g.r.M.length : Int) + 1 := wrap64 (by omega) (by omega)
  have w3 : IntKind.i64.wrap ((g.r.E.length : Int) + 1 - 1) = (g.r.E.length : Int) := by rw [show (g.r.E.length : Int) + 1 - 1 = g.r.E.length from by omega]; exact wrap64 (by omega) (by omega)
  have w4 : ∀ x y : Int, 0 ≤ x → x ≤ 1000001 → 0 ≤ y → y ≤ 1000001 → IntKind.i64.wrap (nd x 31 + nd y 84) = nd x 31 + nd y 84 := fun x y h1 h2 h3 h4 => by
    apply wrap64 <;> simp only [nd] <;> omega
  simp only [holds_iff, splitB_iff, decide_eq_true_eq, decide_eq_false_iff_not, w1, w2, w3]
  rw [w4 _ _ (by omega) (by omega) (by omega) (by omega), w4 _ _ (by omega) (by omega) (by omega) (by omega)]
  unfold Reg.plan
  refine ⟨fun a1 => by rw [if_pos (by omega)]; simp, fun a1 => ⟨fun a2 => by rw [if_pos (by omega)]; simp, fun a2 => ⟨fun a3 => by rw [if_pos (by omega)]; simp, fun a3 => ⟨fun a4 => by rw [if_pos (by omega)]; simp, fun a4 => ?_⟩⟩⟩⟩
  rw [if_neg (by omega)]
  refine ⟨fun a5 => by rw [if_pos a5]; simp, fun a5 => ?_⟩
  rw [if_neg (by simp only [mgE]; rw [a5]; simp)]
  refine ⟨fun a6 => ?_, fun a6 => ?_⟩
  · have a7 : mgM g.r.M g.g = none := by simpa using a6
    refine ⟨by omega, by omega, by omega, by omega, by omega, by omega, by omega, by omega, fun a8 => ?_, fun a8 => ?_⟩
    · rw [if_pos (by rw [a7]; simpa using a8)]; simp
    · rw [if_neg (by rw [a7]; simpa using a8)]
      refine ⟨by omega, by omega, by omega, by omega, rfl, rfl, ?_, ?_, rfl⟩ <;> rw [a7] <;> rfl
  · have a7 : (mgM g.r.M g.g).isSome = true := by simpa using a6
    obtain ⟨k, hk⟩ := Option.isSome_iff_exists.1 a7
    refine ⟨by omega, by omega, by omega, by omega, by omega, by omega, by omega, by omega, fun a8 => ?_, fun a8 => ?_⟩
    · rw [if_pos (by rw [a7]; simpa using a8)]; simp
    · rw [if_neg (by rw [a7]; simpa using a8)]
      refine ⟨by omega, by omega, by omega, m1.1, rfl, rfl, ?_, ?_, rfl⟩ <;> (unfold mgM at hk ⊢; rw [hk]; rfl)

def vc14 : Prop := vc Try.f14.body Try.f14.results Try.f14.ntmps [(30, some sp30)] sp14 (fun _ => noAnn)
theorem vc14_is : vc14 = (
∀ (g : RegInt), Holds (InR IntKind.i64 g.k) → Holds (InR IntKind.i64 g.r.pages) → Holds (MOk TI64 TSlot g.r.E) → Holds (MOk TI64 TI64 g.r.M) → Holds g.r.ok → SplitB (!(mgetT TI64 TI64 g.r.M g.k).isSome) ((0 : Int) = (g.r.group g.k).a.fst ∧ (0 : Int) = (g.r.group g.k).a.snd ∧ (122 : Int) = (g.r.group g.k).e) (Holds ((0 : Int) ≤ g.r.pages) ∧ Holds (g.r.pages ≤ (64 : Int)) ∧ Holds ((0 : Int) ≤ (mgetT TI64 TI64 g.r.M g.k).getD ((0 : Int))) ∧ (sm g.r.pages ((mgetT TI64 TI64 g.r.M g.k).getD ((0 : Int)))).fst = (g.r.group g.k).a.fst ∧ (sm g.r.pages ((mgetT TI64 TI64 g.r.M g.k).getD ((0 : Int)))).snd = (g.r.group g.k).a.snd ∧ (0 : Int) = (g.r.group g.k).e)) := by kernel_rfl
theorem ok14 : vc14 := by
  rw [vc14_is]
  intro g h1 h2 h3 h4 h5
  simp only [holds_iff, inR64] at *
  obtain ⟨p1, p2, p3, p4⟩ := h5.p
  have m1 := h5.m g.k
  simp only [holds_iff, splitB_iff]
  unfold Reg.group
  refine ⟨fun a6 => ?_, fun a6 => ?_⟩
  · have a7 : mgM g.r.M g.k = none := by simpa using a6
    rw [a7]; simp
  · obtain ⟨k, hk⟩ := Option.isSome_iff_exists.1 (show (mgM g.r.M g.k).isSome = true by simpa using a6)
    refine ⟨by omega, by omega, m1.1, ?_⟩
    unfold mgM at hk ⊢
    rw [hk]
    exact ⟨rfl, rfl, rfl⟩

def vc13 : Prop := vc Try.f13.body Try.f13.results Try.f13.ntmps [(29, some sp29), (30, some sp30)] sp13 (fun _ => noAnn)
theorem vc13_is : vc13 = (
∀ (g : RegInt), Holds (InR IntKind.i64 g.k) → Holds (InR IntKind.i64 g.r.pages) → Holds (MOk TI64 TSlot g.r.E) → Holds (MOk TI64 TI64 g.r.M) → Holds g.r.ok → SplitB (!(mgetT TI64 TSlot g.r.E g.k).isSome) ((0 : Int) = (g.r.find g.k).a.fst ∧ (0 : Int) = (g.r.find g.k).a.snd ∧ (0 : Int) = (g.r.find g.k).g ∧ (0 : Int) = (g.r.find g.k).b.fst ∧ (0 : Int) = (g.r.find g.k).b.snd ∧ (120 : Int) = (g.r.find g.k).e) (Holds ((0 : Int) ≤ ((mgetT TI64 TSlot g.r.E g.k).getD ((0 : Int), (0 : Int))).fst) ∧ Holds ((0 : Int) ≤ g.r.pages) ∧ Holds (g.r.pages ≤ (64 : Int)) ∧ Holds ((0 : Int) ≤ (mgetT TI64 TI64 g.r.M ((mgetT TI64 TSlot g.r.E g.k).getD ((0 : Int), (0 : Int))).snd).getD ((0 : Int))) ∧ (wh ((mgetT TI64 TSlot g.r.E g.k).getD ((0 : Int), (0 : Int))).fst).fst = (g.r.find g.k).a.fst ∧ (wh ((mgetT TI64 TSlot g.r.E g.k).getD ((0 : Int), (0 : Int))).fst).snd = (g.r.find g.k).a.snd ∧ ((mgetT TI64 TSlot g.r.E g.k).getD ((0 : Int), (0 : Int))).snd = (g.r.find g.k).g ∧ (sm g.r.pages ((mgetT TI64 TI64 g.r.M ((mgetT TI64 TSlot g.r.E g.k).getD ((0 : Int), (0 : Int))).snd).getD ((0 : Int)))).fst = (g.r.find g.k).b.fst ∧ (sm g.r.pages ((mgetT TI64 TI64 g.r.M ((mgetT TI64 TSlot g.r.E g.k).getD ((0 : Int), (0 : Int))).snd).getD ((0 : Int)))).snd = (g.r.find g.k).b.snd ∧ (0 : Int) = (g.r.find g.k).e)) := by kernel_rfl
theorem ok13 : vc13 := by
  rw [vc13_is]
  intro g h1 h2 h3 h4 h5
  simp only [holds_iff, inR64] at *
  obtain ⟨p1, p2, p3, p4⟩ := h5.p
  simp only [holds_iff, splitB_iff]
  unfold Reg.find
  refine ⟨fun a6 => ?_, fun a6 => ?_⟩
  · have a7 : mgE g.r.E g.k = none := by simpa using a6
    rw [a7]; simp
  · obtain ⟨x, hx⟩ := Option.isSome_iff_exists.1 (show (mgE g.r.E g.k).isSome = true by simpa using a6)
    have hm := h5.2.2.2.2.2 _ (mget_mem hx)
    have m1 := h5.m x.2
    unfold mgE at hx ⊢
    rw [hx]
    exact ⟨hm.1, by omega, by omega, m1.1, rfl, rfl, rfl, rfl, rfl, rfl⟩

def vc19 : Prop := vc Try.f19.body Try.f19.results Try.f19.ntmps [(20, some sp20)] sp19 (fun _ => noAnn)
theorem vc19_is : vc19 = (
∀ (g : RegTake), Holds (InR IntKind.i64 g.c) → Holds (InR IntKind.i64 g.g) → Holds (InR IntKind.i64 g.w.fst) → Holds (InR IntKind.i64 g.w.snd) → Holds (InR IntKind.i64 g.s.fst) → Holds (InR IntKind.i64 g.s.snd) → Holds (InR IntKind.i64 g.r.pages) → Holds (MOk TI64 TSlot g.r.E) → Holds (MOk TI64 TI64 g.r.M) → Holds g.r.ok → Holds g.r.ok ∧ SplitB ((g.r.plan g.c g.g).e != (0 : Int)) ((g.r.plan g.c g.g).e = g.r.takeE g.c g.g g.w g.s ∧ g.r.E = (g.r.take g.c g.g g.w g.s).E ∧ g.r.M = (g.r.take g.c g.g g.w g.s).M) (SplitB (!((g.r.plan g.c g.g).a.fst == g.w.fst && (g.r.plan g.c g.g).a.snd == g.w.snd)) ((83 : Int) = g.r.takeE g.c g.g g.w g.s ∧ g.r.E = (g.r.take g.c g.g g.w g.s).E ∧ g.r.M = (g.r.take g.c g.g g.w g.s).M) (SplitB (!((g.r.plan g.c g.g).b.fst == g.s.fst && (g.r.plan g.c g.g).b.snd == g.s.snd)) ((83 : Int) = g.r.takeE g.c g.g g.w g.s ∧ g.r.E = (g.r.take g.c g.g g.w g.s).E ∧ g.r.M = (g.r.take g.c g.g g.w g.s).M) (Holds (g.r.E.length < maxLen) ∧ SplitB (!(mgetT TI64 TI64 g.r.M g.g).isSome) (Holds (g.r.M.length < maxLen) ∧ (0 : Int) = g.r.takeE g.c g.g g.w g.s ∧ msetT TI64 TSlot g.r.E g.c ((↑g.r.E.length : Int), g.g) = (g.r.take g.c g.g g.w g.s).E ∧ msetT TI64 TI64 g.r.M g.g (↑g.r.M.length : Int) = (g.r.take g.c g.g g.w g.s).M) ((0 : Int) = g.r.takeE g.c g.g g.w g.s ∧ msetT TI64 TSlot g.r.E g.c ((↑g.r.E.length : Int), g.g) = (g.r.take g.c g.g g.w g.s).E ∧ g.r.M = (g.r.take g.c g.g g.w g.s).M))))) := by kernel_rfl
theorem ok19 : vc19 := by
  rw [vc19_is]
  intro g h1 h2 h3 h4 h5 h6 h7 h8 h9 h10
  simp only [holds_iff, inR64] at *
  obtain ⟨p1, p2, p3, p4⟩ := h10.p
  refine ⟨h10, ?_⟩
  have hr : (⟨g.r.pages, g.r.E, g.r.M⟩ : Reg) = g.r := rfl
  simp only [holds_iff, splitB_iff, hr]
  unfold Reg.take Reg.takeE
  refine ⟨fun a1 => ?_, fun a1 => ⟨fun a2 => ?_, fun a2 => ⟨fun a3 => ?_, fun a3 => ⟨?_, fun a4 => ?_, fun a4 => ?_⟩⟩⟩⟩
  · have : (g.r.plan g.c g.g).e ≠ 0 := by simpa using a1
    simp [this]
  all_goals have b1 : (g.r.plan g.c g.g).e = 0 := by simpa using a1
  · have b2 : (g.r.plan g.c g.g).a ≠ g.w := fun e => by rw [e] at a2; simp at a2
    simp [b1, b2]
  · have b3 : (g.r.plan g.c g.g).b ≠ g.s := fun e => by rw [e] at a3; simp at a3
    simp [b1, b3]
  all_goals have b2 : (g.r.plan g.c g.g).a = g.w := by simp at a2; exact Prod.ext a2.1 a2.2
  all_goals have b3 : (g.r.plan g.c g.g).b = g.s := by simp at a3; exact Prod.ext a3.1 a3.2
  · have : maxLen = 9223372036854775807 := by decide
    omega
  · have b4 : mgM g.r.M g.g = none := by simpa using a4
    refine ⟨?_, ?_⟩
    · have : maxLen = 9223372036854775807 := by decide
      omega
    · simp only [b1, b2, b3, ne_eq, not_true_eq_false, if_false, or_self, if_true, Reg.add]
      rw [b4]
      simp
  · have b4 : (mgM g.r.M g.g).isSome = true := by simpa using a4
    simp only [b1, b2, b3, ne_eq, not_true_eq_false, if_false, or_self, if_true, Reg.add, b4]
    simp

def vc16 : Prop := vc Try.f16.body Try.f16.results Try.f16.ntmps [(31, some sp31)] sp16 ann16
theorem vc16_is : vc16 = (
∀ (g : Reg), Holds (InR IntKind.i64 g.pages) → Holds (MOk TI64 TSlot g.E) → Holds (MOk TI64 TI64 g.M) → Holds g.ok → (∃ (x : Keys TSlot.den), Holds ((x.out ++ keysOf x.left).Perm (keysOf g.E)) ∧ nilT Int = x.out ∧ g.E = x.left) ∧ ∀ (x : Keys TSlot.den), Holds ((x.out ++ keysOf x.left).Perm (keysOf g.E)) → (∀ (r : Unit), Holds (x.left = []) → Holds (x.out.length < (4611686018427387904 : Nat)) ∧ rising x.out = rising (keysOf g.E)) ∧ ∀ (r : List (TI64.den × TSlot.den) × (TI64.den × TSlot.den) × List (TI64.den × TSlot.den)), Holds (x.left = r.fst ++ r.snd.fst :: r.snd.snd) → Holds ((x.out.length + [r.snd.fst.fst].length) * (8 : Nat) ≤ (140737488355328 : Nat)) ∧ ∃ (y : Keys TSlot.den), Holds ((y.out ++ keysOf y.left).Perm (keysOf g.E)) ∧ Holds (y.left.length < x.left.length) ∧ x.out ++ [r.snd.fst.fst] = y.out ∧ r.fst ++ r.snd.snd = y.left) := by kernel_rfl
theorem keysOf_mid {v : Type} (a : List (Int × v)) (e : Int × v) (b : List (Int × v)) (out : List Int) : (out ++ [e.1] ++ keysOf (a ++ b)).Perm (out ++ keysOf (a ++ e :: b)) := by
  simp only [keysOf, List.map_append, List.map_cons, List.append_assoc, List.singleton_append]
  refine List.Perm.append_left _ ?_
  exact List.perm_middle.symm
theorem rising_perm {a b : List Int} (h : a.Perm b) : rising a = rising b := by
  unfold rising
  have ha := List.mergeSort_perm a (fun a b => decide (a ≤ b))
  have hb := List.mergeSort_perm b (fun a b => decide (a ≤ b))
  have tr : ∀ a b c : Int, decide (a ≤ b) = true → decide (b ≤ c) = true → decide (a ≤ c) = true := fun a b c h1 h2 => by simp at *; omega
  have to : ∀ a b : Int, (decide (a ≤ b) || decide (b ≤ a)) = true := fun a b => by simp; omega
  refine List.Perm.eq_of_pairwise (le := fun a b => decide (a ≤ b) = true) (fun x y _ _ h1 h2 => by simp at *; omega) (List.pairwise_mergeSort tr to a) (List.pairwise_mergeSort tr to b) ((ha.trans h).trans hb.symm)
theorem keys_length {v : Type} {E left : List (Int × v)} {out : List Int} (h : (out ++ keysOf left).Perm (keysOf E)) : out.length + left.length = E.length := by
  have := h.length_eq
  simpa [keysOf] using this
theorem ok16 : vc16 := by
  rw [vc16_is]
  intro g h1 h2 h3 h4
  obtain ⟨p1, p2, p3, p4⟩ := h4.out.p
  refine ⟨⟨⟨g.E, []⟩, ⟨by simp⟩, rfl, rfl⟩, fun x hx => ⟨fun _ hl => ?_, fun r hl => ⟨⟨?_⟩, ⟨r.1 ++ r.2.2, x.out ++ [r.2.1.1]⟩, ⟨?_⟩, ⟨?_⟩, rfl, rfl⟩⟩⟩
  · have h5 := keys_length hx.out
    rw [hl.out] at h5
    simp only [List.length_nil] at h5
    refine ⟨⟨by omega⟩, rising_perm ?_⟩
    have := hx.out
    rw [hl.out] at this
    simpa [keysOf] using this
  · have h5 := keys_length hx.out
    rw [hl.out] at h5
    simp only [List.length_append, List.length_cons] at h5
    simp only [List.length_cons, List.length_nil]
    omega
  · have := hx.out
    rw [hl.out] at this
    exact (keysOf_mid _ _ _ _).trans this
  · rw [hl.out]; simp

def vc17 : Prop := vc Try.f17.body Try.f17.results Try.f17.ntmps [(31, some sp31)] sp17 ann17
theorem vc17_is : vc17 = (
∀ (g : Reg), Holds (InR IntKind.i64 g.pages) → Holds (MOk TI64 TSlot g.E) → Holds (MOk TI64 TI64 g.M) → Holds g.ok → (∃ (x : Keys TI64.den), Holds ((x.out ++ keysOf x.left).Perm (keysOf g.M)) ∧ nilT Int = x.out ∧ g.M = x.left) ∧ ∀ (x : Keys TI64.den), Holds ((x.out ++ keysOf x.left).Perm (keysOf g.M)) → (∀ (r : Unit), Holds (x.left = []) → Holds (x.out.length < (4611686018427387904 : Nat)) ∧ rising x.out = rising (keysOf g.M)) ∧ ∀ (r : List (TI64.den × TI64.den) × (TI64.den × TI64.den) × List (TI64.den × TI64.den)), Holds (x.left = r.fst ++ r.snd.fst :: r.snd.snd) → Holds ((x.out.length + [r.snd.fst.fst].length) * (8 : Nat) ≤ (140737488355328 : Nat)) ∧ ∃ (y : Keys TI64.den), Holds ((y.out ++ keysOf y.left).Perm (keysOf g.M)) ∧ Holds (y.left.length < x.left.length) ∧ x.out ++ [r.snd.fst.fst] = y.out ∧ r.fst ++ r.snd.snd = y.left) := by kernel_rfl
theorem ok17 : vc17 := by
  rw [vc17_is]
  intro g h1 h2 h3 h4
  obtain ⟨p1, p2, p3, p4⟩ := h4.out.p
  refine ⟨⟨⟨g.M, []⟩, ⟨by simp⟩, rfl, rfl⟩, fun x hx => ⟨fun _ hl => ?_, fun r hl => ⟨⟨?_⟩, ⟨r.1 ++ r.2.2, x.out ++ [r.2.1.1]⟩, ⟨?_⟩, ⟨?_⟩, rfl, rfl⟩⟩⟩
  · have h5 := keys_length hx.out
    rw [hl.out] at h5
    simp only [List.length_nil] at h5
    refine ⟨⟨by omega⟩, rising_perm ?_⟩
    have := hx.out
    rw [hl.out] at this
    simpa [keysOf] using this
  · have h5 := keys_length hx.out
    rw [hl.out] at h5
    simp only [List.length_append, List.length_cons] at h5
    simp only [List.length_cons, List.length_nil]
    omega
  · have := hx.out
    rw [hl.out] at this
    exact (keysOf_mid _ _ _ _).trans this
  · rw [hl.out]; simp

def vc21 : Prop := vc Try.f21.body Try.f21.results Try.f21.ntmps [] sp21 ann21
theorem vc21_is : vc21 = (
∀ (g : Two), Holds (TI64.slice.ok g.a) → Holds (TI64.slice.ok g.b) → SplitB ((↑g.a.length : Int) != (↑g.b.length : Int)) (false = decide (g.a = g.b)) ((∃ (x : At), Holds (x.i ≤ g.a.length ∧ g.a.length = g.b.length ∧ List.take x.i g.a = List.take x.i g.b) ∧ (0 : Int) = (↑x.i : Int)) ∧ ∀ (x : At), Holds (x.i ≤ g.a.length ∧ g.a.length = g.b.length ∧ List.take x.i g.a = List.take x.i g.b) → SplitB (decide ((↑x.i : Int) < (↑g.a.length : Int))) (Holds ((0 : Int) ≤ (↑x.i : Int)) ∧ Holds ((↑x.i : Int) < (↑g.a.length : Int)) ∧ Holds ((↑x.i : Int).toNat < g.a.length) ∧ Holds ((0 : Int) ≤ (↑x.i : Int)) ∧ Holds ((↑x.i : Int) < (↑g.b.length : Int)) ∧ Holds ((↑x.i : Int).toNat < g.b.length) ∧ SplitB (g.a.getD (↑x.i : Int).toNat ((0 : Int)) != g.b.getD (↑x.i : Int).toNat ((0 : Int))) (false = decide (g.a = g.b)) (∃ (y : At), Holds (y.i ≤ g.a.length ∧ g.a.length = g.b.length ∧ List.take y.i g.a = List.take y.i g.b) ∧ Holds (g.a.length - y.i < g.a.length - x.i) ∧ IntKind.i64.wrap ((↑x.i : Int) + (1 : Int)) = (↑y.i : Int))) (true = decide (g.a = g.b)))) := by kernel_rfl
theorem ok21 : vc21 := by
  rw [vc21_is]
  intro g h1 h2
  simp only [holds_iff] at h1 h2
  have l1 : (g.a.length : Int) ≤ 9223372036854775807 := by have := h1.1; have e : maxLen = 9223372036854775807 := by decide
                                                           omega
  refine ⟨fun hn => ?_, fun hn => ⟨⟨⟨0⟩, ⟨by simp, ?_, by simp⟩, rfl⟩, fun x hx => ⟨fun h => ?_, fun h => ?_⟩⟩⟩
  · have : g.a ≠ g.b := fun e => by rw [e] at hn; simp at hn
    simp [this]
  · simp at hn; omega
  · obtain ⟨x1, x2, x3⟩ := hx.out
    simp only [decide_eq_true_eq] at h
    have hi : x.i < g.a.length := by omega
    have hj : x.i < g.b.length := by omega
    refine ⟨⟨by omega⟩, ⟨h⟩, ⟨by simpa using hi⟩, ⟨by omega⟩, ⟨by omega⟩, ⟨by simpa using hj⟩, fun hd => ?_, fun hd => ⟨⟨x.i + 1⟩, ⟨(show x.i + 1 ≤ g.a.length by omega), x2, ?_⟩, ⟨(show g.a.length - (x.i + 1) < g.a.length - x.i by omega)⟩, ?_⟩⟩
    · have : g.a ≠ g.b := fun e => by rw [e] at hd; simp at hd
      simp [this]
    · show g.a.take (x.i + 1) = g.b.take (x.i + 1)
      simp [List.getD, hi, hj] at hd
      rw [List.take_succ_eq_append_getElem hi, List.take_succ_eq_append_getElem hj, x3, hd]
    · rw [wrap64 (by omega) (by omega)]; rfl
  · obtain ⟨x1, x2, x3⟩ := hx.out
    simp only [decide_eq_false_iff_not] at h
    have hi : x.i = g.a.length := by omega
    rw [hi, List.take_length, x2, List.take_length] at x3
    simp [x3]

def vc11 : Prop := vc Try.f11.body Try.f11.results Try.f11.ntmps [] sp11 (fun _ => noAnn)
theorem vc11_is : vc11 = (
∀ (g : Three), Holds (InR IntKind.i64 g.n) → Holds (InR IntKind.i64 g.lo) → Holds (InR IntKind.i64 g.hi) → Holds ((0 : Int) ≤ g.lo) → Holds (g.lo ≤ g.hi) → Holds (g.hi ≤ (1000000 : Int)) → Holds (IntKind.i64.wrap (IntKind.i64.wrap (g.hi - g.lo) + (1 : Int)) ≠ (0 : Int)) ∧ Holds (IntKind.i64.wrap (IntKind.i64.wrap (g.hi - g.lo) + (1 : Int)) ≠ (0 : Int)) ∧ IntKind.i64.wrap (g.lo + (IntKind.i64.wrap (g.n.tmod (IntKind.i64.wrap (IntKind.i64.wrap (g.hi - g.lo) + (1 : Int))) + IntKind.i64.wrap (IntKind.i64.wrap (g.hi - g.lo) + (1 : Int)))).tmod (IntKind.i64.wrap (IntKind.i64.wrap (g.hi - g.lo) + (1 : Int)))) = rst g.n g.lo g.hi) := by kernel_rfl
theorem ok11 : vc11 := by
  rw [vc11_is]
  intro g h1 h2 h3 h4 h5 h6
  simp only [holds_iff, inR64] at *
  have w1 : IntKind.i64.wrap (IntKind.i64.wrap (g.hi - g.lo) + 1) = g.hi - g.lo + 1 := by rw [wrap64 (n := g.hi - g.lo) (by omega) (by omega), wrap64 (by omega) (by omega)]
  rw [w1]
  have hm : 0 < g.hi - g.lo + 1 := by omega
  have e1 : -(g.hi - g.lo + 1) < g.n.tmod (g.hi - g.lo + 1) := by have := Int.lt_tmod_of_pos g.n hm; omega
  have e2 : g.n.tmod (g.hi - g.lo + 1) < g.hi - g.lo + 1 := Int.tmod_lt_of_pos g.n hm
  have e3 : IntKind.i64.wrap (g.n.tmod (g.hi - g.lo + 1) + (g.hi - g.lo + 1)) = g.n.tmod (g.hi - g.lo + 1) + (g.hi - g.lo + 1) := wrap64 (by omega) (by omega)
  have e4 : (g.n.tmod (g.hi - g.lo + 1) + (g.hi - g.lo + 1)).tmod (g.hi - g.lo + 1) = g.n % (g.hi - g.lo + 1) := by
    rw [tmod_pos (by omega), Int.add_emod_right]
    have := Int.tmod_eq_emod (a := g.n) (b := g.hi - g.lo + 1)
    rw [this]
    split
    · simp
    · rw [Int.sub_emod, Int.emod_emod_of_dvd _ (Int.dvd_refl _)]
      have : (((g.hi - g.lo + 1).natAbs : Int)) = g.hi - g.lo + 1 := by omega
      rw [this]
      simp
  have e5 := Int.emod_lt_of_pos g.n hm
  have e6 := Int.emod_nonneg g.n (show g.hi - g.lo + 1 ≠ 0 by omega)
  refine ⟨by omega, by omega, ?_⟩
  rw [e3, e4, wrap64 (by omega) (by omega)]
  rfl

def vc7 : Prop := vc Try.f7.body Try.f7.results Try.f7.ntmps [(18, some sp18), (15, some sp15), (20, some sp20), (19, some sp19), (13, some sp13), (14, some sp14), (16, some sp16), (17, some sp17), (21, some sp21)] sp7 (fun _ => noAnn)
theorem vc7_is : vc7 = (
∀ (g : Unit), (∀ (r : Unit), Holds ¬((2 : Int) ≤ (2 : Int) ∧ (2 : Int) ≤ (64 : Int)) → (∀ (r : Unit), Holds ¬((2 : Int) ≤ (65 : Int) ∧ (65 : Int) ≤ (64 : Int)) → false = true) ∧ ∀ (r : Unit), Holds ((2 : Int) ≤ (65 : Int) ∧ (65 : Int) ≤ (64 : Int)) → false = true) ∧ ∀ (r : Unit), Holds ((2 : Int) ≤ (2 : Int) ∧ (2 : Int) ≤ (64 : Int)) → (∀ (r : Unit), Holds ¬((2 : Int) ≤ (65 : Int) ∧ (65 : Int) ≤ (64 : Int)) → SplitB ((0 : Int) != (0 : Int)) (false = true) (SplitB ((2 : Int) != (2 : Int)) (false = true) (Holds { pages := (2 : Int), E := [], M := [] : Reg }.ok ∧ SplitB (!(({ pages := (2 : Int), E := [], M := [] : Reg }.plan (7 : Int) (3 : Int)).a.fst == (0 : Int) && ({ pages := (2 : Int), E := [], M := [] : Reg }.plan (7 : Int) (3 : Int)).a.snd == (0 : Int))) (false = true) (SplitB (!(({ pages := (2 : Int), E := [], M := [] : Reg }.plan (7 : Int) (3 : Int)).b.fst == (1 : Int) && ({ pages := (2 : Int), E := [], M := [] : Reg }.plan (7 : Int) (3 : Int)).b.snd == (0 : Int))) (false = true) (SplitB (({ pages := (2 : Int), E := [], M := [] : Reg }.plan (7 : Int) (3 : Int)).e != (0 : Int)) (false = true) (Holds { pages := (2 : Int), E := [], M := [] : Reg }.ok ∧ SplitB ({ pages := (2 : Int), E := [], M := [] : Reg }.takeE (7 : Int) (3 : Int) ({ pages := (2 : Int), E := [], M := [] : Reg }.plan (7 : Int) (3 : Int)).a ({ pages := (2 : Int), E := [], M := [] : Reg }.plan (7 : Int) (3 : Int)).a != (83 : Int)) (false = true) (Holds { pages := (2 : Int), E := ({ pages := (2 : Int), E := [], M := [] : Reg }.take (7 : Int) (3 : Int) ({ pages := (2 : Int), E := [], M := [] : Reg }.plan (7 : Int) (3 : Int)).a ({ pages := (2 : Int), E := [], M := [] : Reg }.plan (7 : Int) (3 : Int)).a).E, M := ({ pages := (2 : Int), E := [], M := [] : Reg }.take (7 : Int) (3 : Int) ({ pages := (2 : Int), E := [], M := [] : Reg }.plan (7 : Int) (3 : Int)).a ({ pages := (2 : Int), E := [], M := [] : Reg }.plan (7 : Int) (3 : Int)).a).M : Reg }.ok ∧ SplitB ({ pages := (2 : Int), E := ({ pages := (2 : Int), E := [], M := [] : Reg }.take (7 : Int) (3 : Int) ({ pages := (2 : Int), E := [], M := [] : Reg }.plan (7 : Int) (3 : Int)).a ({ pages := (2 : Int), E := [], M := [] : Reg }.plan (7 : Int) (3 : Int)).a).E, M := ({ pages := (2 : Int), E := [], M := [] : Reg }.take (7 : Int) (3 : Int) ({ pages := (2 : Int), E := [], M := [] : Reg }.plan (7 : Int) (3 : Int)).a ({ pages := (2 : Int), E := [], M := [] : Reg }.plan (7 : Int) (3 : Int)).a).M : Reg }.takeE (7 : Int) (3 : Int) ({ pages := (2 : Int), E := [], M := [] : Reg }.plan (7 : Int) (3 : Int)).a ({ pages := (2 : Int), E := [], M := [] : Reg }.plan (7 : Int) (3 : Int)).b != (0 : Int)) (false = true) (Holds { pages := (2 : Int), E := ({ pages := (2 : Int), E := ({ pages := (2 : Int), E := [], M := [] : Reg }.take (7 : Int) (3 : Int) ({ pages := (2 : Int), E := [], M := [] : Reg }.plan (7 : Int) (3 : Int)).a ({ pages := (2 : Int), E := [], M := [] : Reg }.plan (7 : Int) (3 : Int)).a).E, M := ({ pages := (2 : Int), E := [], M := [] : Reg }.take (7 : Int) (3 : Int) ({ pages := (2 : Int), E := [], M := [] : Reg }.plan (7 : Int) (3 : Int)).a ({ pages := (2 : Int), E := [], M := [] : Reg }.plan (7 : Int) (3 : Int)).a).M : Reg }.take (7 : Int) (3 : Int) ({ pages := (2 : Int), E := [], M := [] : Reg }.plan (7 : Int) (3 : Int)).a ({ pages := (2 : Int), E := [], M := [] : Reg }.plan (7 : Int) (3 : Int)).b).E, M := ({ pages := (2 : Int), E := ({ pages := (2 : Int), E := [], M := [] : Reg }.take (7 : Int) (3 : Int) ({ pages := (2 : Int), E := [], M := [] : Reg }.plan (7 : Int) (3 : Int)).a ({ pages := (2 : Int), E := [], M := [] : Reg }.plan (7 : Int) (3 : Int)).a).E, M := ({ pages := (2 : Int), E := [], M := [] : Reg }.take (7 : Int) (3 : Int) ({ pages := (2 : Int), E := [], M := [] : Reg }.plan (7 : Int) (3 : Int)).a ({ pages := (2 : Int), E := [], M := [] : Reg }.plan (7 : Int) (3 : Int)).a).M : Reg }.take (7 : Int) (3 : Int) ({ pages := (2 : Int), E := [], M := [] : Reg }.plan (7 : Int) (3 : Int)).a ({ pages := (2 : Int), E := [], M := [] : Reg }.plan (7 : Int) (3 : Int)).b).M : Reg }.ok ∧ Holds { pages := (2 : Int), E := ({ pages := (2 : Int), E := ({ pages := (2 : Int), E := [], M := [] : Reg }.take (7 : Int) (3 : Int) ({ pages := (2 : Int), E := [], M := [] : Reg }.plan (7 : Int) (3 : Int)).a ({ pages := (2 : Int), E := [], M := [] : Reg }.plan (7 : Int) (3 : Int)).a).E, M := ({ pages := (2 : Int), E := [], M := [] : Reg }.take (7 : Int) (3 : Int) ({ pages := (2 : Int), E := [], M := [] : Reg }.plan (7 : Int) (3 : Int)).a ({ pages := (2 : Int), E := [], M := [] : Reg }.plan (7 : Int) (3 : Int)).a).M : Reg }.take (7 : Int) (3 : Int) ({ pages := (2 : Int), E := [], M := [] : Reg }.plan (7 : Int) (3 : Int)).a ({ pages := (2 : Int), E := [], M := [] : Reg }.plan (7 : Int) (3 : Int)).b).E, M := ({ pages := (2 : Int), E := ({ pages := (2 : Int), E := [], M := [] : Reg }.take (7 : Int) (3 : Int) ({ pages := (2 : Int), E := [], M := [] : Reg }.plan (7 : Int) (3 : Int)).a ({ pages := (2 : Int), E := [], M := [] : Reg }.plan (7 : Int) (3 : Int)).a).E, M := ({ pages := (2 : Int), E := [], M := [] : Reg }.take (7 : Int) (3 : Int) ({ pages := (2 : Int), E := [], M := [] : Reg }.plan (7 : Int) (3 : Int)).a ({ pages := (2 : Int), E := [], M := [] : Reg }.plan (7 : Int) (3 : Int)).a).M : Reg }.take (7 : Int) (3 : Int) ({ pages := (2 : Int), E := [], M := [] : Reg }.plan (7 : Int) (3 : Int)).a ({ pages := (2 : Int), E := [], M := [] : Reg }.plan (7 : Int) (3 : Int)).b).M : Reg }.ok ∧ Holds { pages := (2 : Int), E := ({ pages := (2 : Int), E := ({ pages := (2 : Int), E := [], M := [] : Reg }.take (7 : Int) (3 : Int) ({ pages := (2 : Int), E := [], M := [] : Reg }.plan (7 : Int) (3 : Int)).a ({ pages := (2 : Int), E := [], M := [] : Reg }.plan (7 : Int) (3 : Int)).a).E, M := ({ pages := (2 : Int), E := [], M := [] : Reg }.take (7 : Int) (3 : Int) ({ pages := (2 : Int), E := [], M := [] : Reg }.plan (7 : Int) (3 : Int)).a ({ pages := (2 : Int), E := [], M := [] : Reg }.plan (7 : Int) (3 : Int)).a).M : Reg }.take (7 : Int) (3 : Int) ({ pages := (2 : Int), E := [], M := [] : Reg }.plan (7 : Int) (3 : Int)).a ({ pages := (2 : Int), E := [], M := [] : Reg }.plan (7 : Int) (3 : Int)).b).E, M := ({ pages := (2 : Int), E := ({ pages := (2 : Int), E := [], M := [] : Reg }.take (7 : Int) (3 : Int) ({ pages := (2 : Int), E := [], M := [] : Reg }.plan (7 : Int) (3 : Int)).a ({ pages := (2 : Int), E := [], M := [] : Reg }.plan (7 : Int) (3 : Int)).a).E, M := ({ pages := (2 : Int), E := [], M := [] : Reg }.take (7 : Int) (3 : Int) ({ pages := (2 : Int), E := [], M := [] : Reg }.plan (7 : Int) (3 : Int)).a ({ pages := (2 : Int), E := [], M := [] : Reg }.plan (7 : Int) (3 : Int)).a).M : Reg }.take (7 : Int) (3 : Int) ({ pages := (2 : Int), E := [], M := [] : Reg }.plan (7 : Int) (3 : Int)).a ({ pages := (2 : Int), E := [], M := [] : Reg }.plan (7 : Int) (3 : Int)).b).M : Reg }.ok ∧ Holds { pages := (2 : Int), E := ({ pages := (2 : Int), E := ({ pages := (2 : Int), E := [], M := [] : Reg }.take (7 : Int) (3 : Int) ({ pages := (2 : Int), E := [], M := [] : Reg }.plan (7 : Int) (3 : Int)).a ({ pages := (2 : Int), E := [], M := [] : Reg }.plan (7 : Int) (3 : Int)).a).E, M := ({ pages := (2 : Int), E := [], M := [] : Reg }.take (7 : Int) (3 : Int) ({ pages := (2 : Int), E := [], M := [] : Reg }.plan (7 : Int) (3 : Int)).a ({ pages := (2 : Int), E := [], M := [] : Reg }.plan (7 : Int) (3 : Int)).a).M : Reg }.take (7 : Int) (3 : Int) ({ pages := (2 : Int), E := [], M := [] : Reg }.plan (7 : Int) (3 : Int)).a ({ pages := (2 : Int), E := [], M := [] : Reg }.plan (7 : Int) (3 : Int)).b).E, M := ({ pages := (2 : Int), E := ({ pages := (2 : Int), E := [], M := [] : Reg }.take (7 : Int) (3 : Int) ({ pages := (2 : Int), E := [], M := [] : Reg }.plan (7 : Int) (3 : Int)).a ({ pages := (2 : Int), E := [], M := [] : Reg }.plan (7 : Int) (3 : Int)).a).E, M := ({ pages := (2 : Int), E := [], M := [] : Reg }.take (7 : Int) (3 : Int) ({ pages := (2 : Int), E := [], M := [] : Reg }.plan (7 : Int) (3 : Int)).a ({ pages := (2 : Int), E := [], M := [] : Reg }.plan (7 : Int) (3 : Int)).a).M : Reg }.take (7 : Int) (3 : Int) ({ pages := (2 : Int), E := [], M := [] : Reg }.plan (7 : Int) (3 : Int)).a ({ pages := (2 : Int), E := [], M := [] : Reg }.plan (7 : Int) (3 : Int)).b).M : Reg }.ok ∧ SplitB (!(({ pages := (2 : Int), E := ({ pages := (2 : Int), E := ({ pages := (2 : Int), E := [], M := [] : Reg }.take (7 : Int) (3 : Int) ({ pages := (2 : Int), E := [], M := [] : Reg }.plan (7 : Int) (3 : Int)).a ({ pages := (2 : Int), E := [], M := [] : Reg }.plan (7 : Int) (3 : Int)).a).E, M := ({ pages := (2 : Int), E := [], M := [] : Reg }.take (7 : Int) (3 : Int) ({ pages := (2 : Int), E := [], M := [] : Reg }.plan (7 : Int) (3 : Int)).a ({ pages := (2 : Int), E := [], M := [] : Reg }.plan (7 : Int) (3 : Int)).a).M : Reg }.take (7 : Int) (3 : Int) ({ pages := (2 : Int), E := [], M := [] : Reg }.plan (7 : Int) (3 : Int)).a ({ pages := (2 : Int), E := [], M := [] : Reg }.plan (7 : Int) (3 : Int)).b).E, M := ({ pages := (2 : Int), E := ({ pages := (2 : Int), E := [], M := [] : Reg }.take (7 : Int) (3 : Int) ({ pages := (2 : Int), E := [], M := [] : Reg }.plan (7 : Int) (3 : Int)).a ({ pages := (2 : Int), E := [], M := [] : Reg }.plan (7 : Int) (3 : Int)).a).E, M := ({ pages := (2 : Int), E := [], M := [] : Reg }.take (7 : Int) (3 : Int) ({ pages := (2 : Int), E := [], M := [] : Reg }.plan (7 : Int) (3 : Int)).a ({ pages := (2 : Int), E := [], M := [] : Reg }.plan (7 : Int) (3 : Int)).a).M : Reg }.take (7 : Int) (3 : Int) ({ pages := (2 : Int), E := [], M := [] : Reg }.plan (7 : Int) (3 : Int)).a ({ pages := (2 : Int), E := [], M := [] : Reg }.plan (7 : Int) (3 : Int)).b).M : Reg }.plan (5 : Int) (4 : Int)).a.fst == (0 : Int) && ({ pages := (2 : Int), E := ({ pages := (2 : Int), E := ({ pages := (2 : Int), E := [], M := [] : Reg }.take (7 : Int) (3 : Int) ({ pages := (2 : Int), E := [], M := [] : Reg }.plan (7 : Int) (3 : Int)).a ({ pages := (2 : Int), E := [], M := [] : Reg }.plan (7 : Int) (3 : Int)).a).E, M := ({ pages := (2 : Int), E := [], M := [] : Reg }.take (7 : Int) (3 : Int) ({ pages := (2 : Int), E := [], M := [] : Reg }.plan (7 : Int) (3 : Int)).a ({ pages := (2 : Int), E := [], M := [] : Reg }.plan (7 : Int) (3 : Int)).a).M : Reg }.take (7 : Int) (3 : Int) ({ pages := (2 : Int), E := [], M := [] : Reg }.plan (7 : Int) (3 : Int)).a ({ pages := (2 : Int), E := [], M := [] : Reg }.plan (7 : Int) (3 : Int)).b).E, M := ({ pages := (2 : Int), E := ({ pages := (2 : Int), E := [], M := [] : Reg }.take (7 : Int) (3 : Int) ({ pages := (2 : Int), E := [], M := [] : Reg }.plan (7 : Int) (3 : Int)).a ({ pages := (2 : Int), E := [], M := [] : Reg }.plan (7 : Int) (3 : Int)).a).E, M := ({ pages := (2 : Int), E := [], M := [] : Reg }.take (7 : Int) (3 : Int) ({ pages := (2 : Int), E := [], M := [] : Reg }.plan (7 : Int) (3 : Int)).a ({ pages := (2 : Int), E := [], M := [] : Reg }.plan (7 : Int) (3 : Int)).a).M : Reg }.take (7 : Int) (3 : Int) ({ pages := (2 : Int), E := [], M := [] : Reg }.plan (7 : Int) (3 : Int)).a ({ pages := (2 : Int), E := [], M := [] : Reg }.plan (7 : Int) (3 : Int)).b).M : Reg }.plan (5 : Int) (4 : Int)).a.snd == (1 : Int))) (false = true) (SplitB (!(({ pages := (2 : Int), E := ({ pages := (2 : Int), E := ({ pages := (2 : Int), E := [], M := [] : Reg }.take (7 : Int) (3 : Int) ({ pages := (2 : Int), E := [], M := [] : Reg }.plan (7 : Int) (3 : Int)).a ({ pages := (2 : Int), E := [], M := [] : Reg }.plan (7 : Int) (3 : Int)).a).E, M := ({ pages := (2 : Int), E := [], M := [] : Reg }.take (7 : Int) (3 : Int) ({ pages := (2 : Int), E := [], M := [] : Reg }.plan (7 : Int) (3 : Int)).a ({ pages := (2 : Int), E := [], M := [] : Reg }.plan (7 : Int) (3 : Int)).a).M : Reg }.take (7 : Int) (3 : Int) ({ pages := (2 : Int), E := [], M := [] : Reg }.plan (7 : Int) (3 : Int)).a ({ pages := (2 : Int), E := [], M := [] : Reg }.plan (7 : Int) (3 : Int)).b).E, M := ({ pages := (2 : Int), E := ({ pages := (2 : Int), E := [], M := [] : Reg }.take (7 : Int) (3 : Int) ({ pages := (2 : Int), E := [], M := [] : Reg }.plan (7 : Int) (3 : Int)).a ({ pages := (2 : Int), E := [], M := [] : Reg }.plan (7 : Int) (3 : Int)).a).E, M := ({ pages := (2 : Int), E := [], M := [] : Reg }.take (7 : Int) (3 : Int) ({ pages := (2 : Int), E := [], M := [] : Reg }.plan (7 : Int) (3 : Int)).a ({ pages := (2 : Int), E := [], M := [] : Reg }.plan (7 : Int) (3 : Int)).a).M : Reg }.take (7 : Int) (3 : Int) ({ pages := (2 : Int), E := [], M := [] : Reg }.plan (7 : Int) (3 : Int)).a ({ pages := (2 : Int), E := [], M := [] : Reg }.plan (7 : Int) (3 : Int)).b).M : Reg }.plan (5 : Int) (4 : Int)).b.fst == (1 : Int) && ({ pages := (2 : Int), E := ({ pages := (2 : Int), E := ({ pages := (2 : Int), E := [], M := [] : Reg }.take (7 : Int) (3 : Int) ({ pages := (2 : Int), E := [], M := [] : Reg }.plan (7 : Int) (3 : Int)).a ({ pages := (2 : Int), E := [], M := [] : Reg }.plan (7 : Int) (3 : Int)).a).E, M := ({ pages := (2 : Int), E := [], M := [] : Reg }.take (7 : Int) (3 : Int) ({ pages := (2 : Int), E := [], M := [] : Reg }.plan (7 : Int) (3 : Int)).a ({ pages := (2 : Int), E := [], M := [] : Reg }.plan (7 : Int) (3 : Int)).a).M : Reg }.take (7 : Int) (3 : Int) ({ pages := (2 : Int), E := [], M := [] : Reg }.plan (7 : Int) (3 : Int)).a ({ pages := (2 : Int), E := [], M := [] : Reg }.plan (7 : Int) (3 : Int)).b).E, M := ({ pages := (2 : Int), E := ({ pages := (2 : Int), E := [], M := [] : Reg }.take (7 : Int) (3 : Int) ({ pages := (2 : Int), E := [], M := [] : Reg }.plan (7 : Int) (3 : Int)).a ({ pages := (2 : Int), E := [], M := [] : Reg }.plan (7 : Int) (3 : Int)).a).E, M := ({ pages := (2 : Int), E := [], M := [] : Reg }.take (7 : Int) (3 : Int) ({ pages := (2 : Int), E := [], M := [] : Reg }.plan (7 : Int) (3 : Int)).a ({ pages := (2 : Int), E := [], M := [] : Reg }.plan (7 : Int) (3 : Int)).a).M : Reg }.take (7 : Int) (3 : Int) ({ pages := (2 : Int), E := [], M := [] : Reg }.plan (7 : Int) (3 : Int)).a ({ pages := (2 : Int), E := [], M := [] : Reg }.plan (7 : Int) (3 : Int)).b).M : Reg }.plan (5 : Int) (4 : Int)).b.snd == (1 : Int))) (false = true) (SplitB (({ pages := (2 : Int), E := ({ pages := (2 : Int), E := ({ pages := (2 : Int), E := [], M := [] : Reg }.take (7 : Int) (3 : Int) ({ pages := (2 : Int), E := [], M := [] : Reg }.plan (7 : Int) (3 : Int)).a ({ pages := (2 : Int), E := [], M := [] : Reg }.plan (7 : Int) (3 : Int)).a).E, M := ({ pages := (2 : Int), E := [], M := [] : Reg }.take (7 : Int) (3 : Int) ({ pages := (2 : Int), E := [], M := [] : Reg }.plan (7 : Int) (3 : Int)).a ({ pages := (2 : Int), E := [], M := [] : Reg }.plan (7 : Int) (3 : Int)).a).M : Reg }.take (7 : Int) (3 : Int) ({ pages := (2 : Int), E := [], M := [] : Reg }.plan (7 : Int) (3 : Int)).a ({ pages := (2 : Int), E := [], M := [] : Reg }.plan (7 : Int) (3 : Int)).b).E, M := ({ pages := (2 : Int), E := ({ pages := (2 : Int), E := [], M := [] : Reg }.take (7 : Int) (3 : Int) ({ pages := (2 : Int), E := [], M := [] : Reg }.plan (7 : Int) (3 : Int)).a ({ pages := (2 : Int), E := [], M := [] : Reg }.plan (7 : Int) (3 : Int)).a).E, M := ({ pages := (2 : Int), E := [], M := [] : Reg }.take (7 : Int) (3 : Int) ({ pages := (2 : Int), E := [], M := [] : Reg }.plan (7 : Int) (3 : Int)).a ({ pages := (2 : Int), E := [], M := [] : Reg }.plan (7 : Int) (3 : Int)).a).M : Reg }.take (7 : Int) (3 : Int) ({ pages := (2 : Int), E := [], M := [] : Reg }.plan (7 : Int) (3 : Int)).a ({ pages := (2 : Int), E := [], M := [] : Reg }.plan (7 : Int) (3 : Int)).b).M : Reg }.plan (5 : Int) (4 : Int)).e != (0 : Int)) (false = true) (SplitB (!(({ pages := (2 : Int), E := ({ pages := (2 : Int), E := ({ pages := (2 : Int), E := [], M := [] : Reg }.take (7 : Int) (3 : Int) ({ pages := (2 : Int), E := [], M := [] : Reg }.plan (7 : Int) (3 : Int)).a ({ pages := (2 : Int), E := [], M := [] : Reg }.plan (7 : Int) (3 : Int)).a).E, M := ({ pages := (2 : Int), E := [], M := [] : Reg }.take (7 : Int) (3 : Int) ({ pages := (2 : Int), E := [], M := [] : Reg }.plan (7 : Int) (3 : Int)).a ({ pages := (2 : Int), E := [], M := [] : Reg }.plan (7 : Int) (3 : Int)).a).M : Reg }.take (7 : Int) (3 : Int) ({ pages := (2 : Int), E := [], M := [] : Reg }.plan (7 : Int) (3 : Int)).a ({ pages := (2 : Int), E := [], M := [] : Reg }.plan (7 : Int) (3 : Int)).b).E, M := ({ pages := (2 : Int), E := ({ pages := (2 : Int), E := [], M := [] : Reg }.take (7 : Int) (3 : Int) ({ pages := (2 : Int), E := [], M := [] : Reg }.plan (7 : Int) (3 : Int)).a ({ pages := (2 : Int), E := [], M := [] : Reg }.plan (7 : Int) (3 : Int)).a).E, M := ({ pages := (2 : Int), E := [], M := [] : Reg }.take (7 : Int) (3 : Int) ({ pages := (2 : Int), E := [], M := [] : Reg }.plan (7 : Int) (3 : Int)).a ({ pages := (2 : Int), E := [], M := [] : Reg }.plan (7 : Int) (3 : Int)).a).M : Reg }.take (7 : Int) (3 : Int) ({ pages := (2 : Int), E := [], M := [] : Reg }.plan (7 : Int) (3 : Int)).a ({ pages := (2 : Int), E := [], M := [] : Reg }.plan (7 : Int) (3 : Int)).b).M : Reg }.find (7 : Int)).a.fst == ({ pages := (2 : Int), E := [], M := [] : Reg }.plan (7 : Int) (3 : Int)).a.fst && ({ pages := (2 : Int), E := ({ pages := (2 : Int), E := ({ pages := (2 : Int), E := [], M := [] : Reg }.take (7 : Int) (3 : Int) ({ pages := (2 : Int), E := [], M := [] : Reg }.plan (7 : Int) (3 : Int)).a ({ pages := (2 : Int), E := [], M := [] : Reg }.plan (7 : Int) (3 : Int)).a).E, M := ({ pages := (2 : Int), E := [], M := [] : Reg }.take (7 : Int) (3 : Int) ({ pages := (2 : Int), E := [], M := [] : Reg }.plan (7 : Int) (3 : Int)).a ({ pages := (2 : Int), E := [], M := [] : Reg }.plan (7 : Int) (3 : Int)).a).M : Reg }.take (7 : Int) (3 : Int) ({ pages := (2 : Int), E := [], M := [] : Reg }.plan (7 : Int) (3 : Int)).a ({ pages := (2 : Int), E := [], M := [] : Reg }.plan (7 : Int) (3 : Int)).b).E, M := ({ pages := (2 : Int), E := ({ pages := (2 : Int), E := [], M := [] : Reg }.take (7 : Int) (3 : Int) ({ pages := (2 : Int), E := [], M := [] : Reg }.plan (7 : Int) (3 : Int)).a ({ pages := (2 : Int), E := [], M := [] : Reg }.plan (7 : Int) (3 : Int)).a).E, M := ({ pages := (2 : Int), E := [], M := [] : Reg }.take (7 : Int) (3 : Int) ({ pages := (2 : Int), E := [], M := [] : Reg }.plan (7 : Int) (3 : Int)).a ({ pages := (2 : Int), E := [], M := [] : Reg }.plan (7 : Int) (3 : Int)).a).M : Reg }.take (7 : Int) (3 : Int) ({ pages := (2 : Int), E := [], M := [] : Reg }.plan (7 : Int) (3 : Int)).a ({ pages := (2 : Int), E := [], M := [] : Reg }.plan (7 : Int) (3 : Int)).b).M : Reg }.find (7 : Int)).a.snd == ({ pages := (2 : Int), E := [], M := [] : Reg }.plan (7 : Int) (3 : Int)).a.snd)) (false = true) (SplitB (({ pages := (2 : Int), E := ({ pages := (2 : Int), E := ({ pages := (2 : Int), E := [], M := [] : Reg }.take (7 : Int) (3 : Int) ({ pages := (2 : Int), E := [], M := [] : Reg }.plan (7 : Int) (3 : Int)).a ({ pages := (2 : Int), E := [], M := [] : Reg }.plan (7 : Int) (3 : Int)).a).E, M := ({ pages := (2 : Int), E := [], M := [] : Reg }.take (7 : Int) (3 : Int) ({ pages := (2 : Int), E := [], M := [] : Reg }.plan (7 : Int) (3 : Int)).a ({ pages := (2 : Int), E := [], M := [] : Reg }.plan (7 : Int) (3 : Int)).a).M : Reg }.take (7 : Int) (3 : Int) ({ pages := (2 : Int), E := [], M := [] : Reg }.plan (7 : Int) (3 : Int)).a ({ pages := (2 : Int), E := [], M := [] : Reg }.plan (7 : Int) (3 : Int)).b).E, M := ({ pages := (2 : Int), E := ({ pages := (2 : Int), E := [], M := [] : Reg }.take (7 : Int) (3 : Int) ({ pages := (2 : Int), E := [], M := [] : Reg }.plan (7 : Int) (3 : Int)).a ({ pages := (2 : Int), E := [], M := [] : Reg }.plan (7 : Int) (3 : Int)).a).E, M := ({ pages := (2 : Int), E := [], M := [] : Reg }.take (7 : Int) (3 : Int) ({ pages := (2 : Int), E := [], M := [] : Reg }.plan (7 : Int) (3 : Int)).a ({ pages := (2 : Int), E := [], M := [] : Reg }.plan (7 : Int) (3 : Int)).a).M : Reg }.take (7 : Int) (3 : Int) ({ pages := (2 : Int), E := [], M := [] : Reg }.plan (7 : Int) (3 : Int)).a ({ pages := (2 : Int), E := [], M := [] : Reg }.plan (7 : Int) (3 : Int)).b).M : Reg }.find (7 : Int)).g != (3 : Int)) (false = true) (SplitB (!(({ pages := (2 : Int), E := ({ pages := (2 : Int), E := ({ pages := (2 : Int), E := [], M := [] : Reg }.take (7 : Int) (3 : Int) ({ pages := (2 : Int), E := [], M := [] : Reg }.plan (7 : Int) (3 : Int)).a ({ pages := (2 : Int), E := [], M := [] : Reg }.plan (7 : Int) (3 : Int)).a).E, M := ({ pages := (2 : Int), E := [], M := [] : Reg }.take (7 : Int) (3 : Int) ({ pages := (2 : Int), E := [], M := [] : Reg }.plan (7 : Int) (3 : Int)).a ({ pages := (2 : Int), E := [], M := [] : Reg }.plan (7 : Int) (3 : Int)).a).M : Reg }.take (7 : Int) (3 : Int) ({ pages := (2 : Int), E := [], M := [] : Reg }.plan (7 : Int) (3 : Int)).a ({ pages := (2 : Int), E := [], M := [] : Reg }.plan (7 : Int) (3 : Int)).b).E, M := ({ pages := (2 : Int), E := ({ pages := (2 : Int), E := [], M := [] : Reg }.take (7 : Int) (3 : Int) ({ pages := (2 : Int), E := [], M := [] : Reg }.plan (7 : Int) (3 : Int)).a ({ pages := (2 : Int), E := [], M := [] : Reg }.plan (7 : Int) (3 : Int)).a).E, M := ({ pages := (2 : Int), E := [], M := [] : Reg }.take (7 : Int) (3 : Int) ({ pages := (2 : Int), E := [], M := [] : Reg }.plan (7 : Int) (3 : Int)).a ({ pages := (2 : Int), E := [], M := [] : Reg }.plan (7 : Int) (3 : Int)).a).M : Reg }.take (7 : Int) (3 : Int) ({ pages := (2 : Int), E := [], M := [] : Reg }.plan (7 : Int) (3 : Int)).a ({ pages := (2 : Int), E := [], M := [] : Reg }.plan (7 : Int) (3 : Int)).b).M : Reg }.find (7 : Int)).b.fst == ({ pages := (2 : Int), E := [], M := [] : Reg }.plan (7 : Int) (3 : Int)).b.fst && ({ pages := (2 : Int), E := ({ pages := (2 : Int), E := ({ pages := (2 : Int), E := [], M := [] : Reg }.take (7 : Int) (3 : Int) ({ pages := (2 : Int), E := [], M := [] : Reg }.plan (7 : Int) (3 : Int)).a ({ pages := (2 : Int), E := [], M := [] : Reg }.plan (7 : Int) (3 : Int)).a).E, M := ({ pages := (2 : Int), E := [], M := [] : Reg }.take (7 : Int) (3 : Int) ({ pages := (2 : Int), E := [], M := [] : Reg }.plan (7 : Int) (3 : Int)).a ({ pages := (2 : Int), E := [], M := [] : Reg }.plan (7 : Int) (3 : Int)).a).M : Reg }.take (7 : Int) (3 : Int) ({ pages := (2 : Int), E := [], M := [] : Reg }.plan (7 : Int) (3 : Int)).a ({ pages := (2 : Int), E := [], M := [] : Reg }.plan (7 : Int) (3 : Int)).b).E, M := ({ pages := (2 : Int), E := ({ pages := (2 : Int), E := [], M := [] : Reg }.take (7 : Int) (3 : Int) ({ pages := (2 : Int), E := [], M := [] : Reg }.plan (7 : Int) (3 : Int)).a ({ pages := (2 : Int), E := [], M := [] : Reg }.plan (7 : Int) (3 : Int)).a).E, M := ({ pages := (2 : Int), E := [], M := [] : Reg }.take (7 : Int) (3 : Int) ({ pages := (2 : Int), E := [], M := [] : Reg }.plan (7 : Int) (3 : Int)).a ({ pages := (2 : Int), E := [], M := [] : Reg }.plan (7 : Int) (3 : Int)).a).M : Reg }.take (7 : Int) (3 : Int) ({ pages := (2 : Int), E := [], M := [] : Reg }.plan (7 : Int) (3 : Int)).a ({ pages := (2 : Int), E := [], M := [] : Reg }.plan (7 : Int) (3 : Int)).b).M : Reg }.find (7 : Int)).b.snd == ({ pages := (2 : Int), E := [], M := [] : Reg }.plan (7 : Int) (3 : Int)).b.snd)) (false = true) (SplitB (({ pages := (2 : Int), E := ({ pages := (2 : Int), E := ({ pages := (2 : Int), E := [], M := [] : Reg }.take (7 : Int) (3 : Int) ({ pages := (2 : Int), E := [], M := [] : Reg }.plan (7 : Int) (3 : Int)).a ({ pages := (2 : Int), E := [], M := [] : Reg }.plan (7 : Int) (3 : Int)).a).E, M := ({ pages := (2 : Int), E := [], M := [] : Reg }.take (7 : Int) (3 : Int) ({ pages := (2 : Int), E := [], M := [] : Reg }.plan (7 : Int) (3 : Int)).a ({ pages := (2 : Int), E := [], M := [] : Reg }.plan (7 : Int) (3 : Int)).a).M : Reg }.take (7 : Int) (3 : Int) ({ pages := (2 : Int), E := [], M := [] : Reg }.plan (7 : Int) (3 : Int)).a ({ pages := (2 : Int), E := [], M := [] : Reg }.plan (7 : Int) (3 : Int)).b).E, M := ({ pages := (2 : Int), E := ({ pages := (2 : Int), E := [], M := [] : Reg }.take (7 : Int) (3 : Int) ({ pages := (2 : Int), E := [], M := [] : Reg }.plan (7 : Int) (3 : Int)).a ({ pages := (2 : Int), E := [], M := [] : Reg }.plan (7 : Int) (3 : Int)).a).E, M := ({ pages := (2 : Int), E := [], M := [] : Reg }.take (7 : Int) (3 : Int) ({ pages := (2 : Int), E := [], M := [] : Reg }.plan (7 : Int) (3 : Int)).a ({ pages := (2 : Int), E := [], M := [] : Reg }.plan (7 : Int) (3 : Int)).a).M : Reg }.take (7 : Int) (3 : Int) ({ pages := (2 : Int), E := [], M := [] : Reg }.plan (7 : Int) (3 : Int)).a ({ pages := (2 : Int), E := [], M := [] : Reg }.plan (7 : Int) (3 : Int)).b).M : Reg }.find (7 : Int)).e != (0 : Int)) (false = true) (SplitB (!(({ pages := (2 : Int), E := ({ pages := (2 : Int), E := ({ pages := (2 : Int), E := [], M := [] : Reg }.take (7 : Int) (3 : Int) ({ pages := (2 : Int), E := [], M := [] : Reg }.plan (7 : Int) (3 : Int)).a ({ pages := (2 : Int), E := [], M := [] : Reg }.plan (7 : Int) (3 : Int)).a).E, M := ({ pages := (2 : Int), E := [], M := [] : Reg }.take (7 : Int) (3 : Int) ({ pages := (2 : Int), E := [], M := [] : Reg }.plan (7 : Int) (3 : Int)).a ({ pages := (2 : Int), E := [], M := [] : Reg }.plan (7 : Int) (3 : Int)).a).M : Reg }.take (7 : Int) (3 : Int) ({ pages := (2 : Int), E := [], M := [] : Reg }.plan (7 : Int) (3 : Int)).a ({ pages := (2 : Int), E := [], M := [] : Reg }.plan (7 : Int) (3 : Int)).b).E, M := ({ pages := (2 : Int), E := ({ pages := (2 : Int), E := [], M := [] : Reg }.take (7 : Int) (3 : Int) ({ pages := (2 : Int), E := [], M := [] : Reg }.plan (7 : Int) (3 : Int)).a ({ pages := (2 : Int), E := [], M := [] : Reg }.plan (7 : Int) (3 : Int)).a).E, M := ({ pages := (2 : Int), E := [], M := [] : Reg }.take (7 : Int) (3 : Int) ({ pages := (2 : Int), E := [], M := [] : Reg }.plan (7 : Int) (3 : Int)).a ({ pages := (2 : Int), E := [], M := [] : Reg }.plan (7 : Int) (3 : Int)).a).M : Reg }.take (7 : Int) (3 : Int) ({ pages := (2 : Int), E := [], M := [] : Reg }.plan (7 : Int) (3 : Int)).a ({ pages := (2 : Int), E := [], M := [] : Reg }.plan (7 : Int) (3 : Int)).b).M : Reg }.group (3 : Int)).a.fst == ({ pages := (2 : Int), E := [], M := [] : Reg }.plan (7 : Int) (3 : Int)).b.fst && ({ pages := (2 : Int), E := ({ pages := (2 : Int), E := ({ pages := (2 : Int), E := [], M := [] : Reg }.take (7 : Int) (3 : Int) ({ pages := (2 : Int), E := [], M := [] : Reg }.plan (7 : Int) (3 : Int)).a ({ pages := (2 : Int), E := [], M := [] : Reg }.plan (7 : Int) (3 : Int)).a).E, M := ({ pages := (2 : Int), E := [], M := [] : Reg }.take (7 : Int) (3 : Int) ({ pages := (2 : Int), E := [], M := [] : Reg }.plan (7 : Int) (3 : Int)).a ({ pages := (2 : Int), E := [], M := [] : Reg }.plan (7 : Int) (3 : Int)).a).M : Reg }.take (7 : Int) (3 : Int) ({ pages := (2 : Int), E := [], M := [] : Reg }.plan (7 : Int) (3 : Int)).a ({ pages := (2 : Int), E := [], M := [] : Reg }.plan (7 : Int) (3 : Int)).b).E, M := ({ pages := (2 : Int), E := ({ pages := (2 : Int), E := [], M := [] : Reg }.take (7 : Int) (3 : Int) ({ pages := (2 : Int), E := [], M := [] : Reg }.plan (7 : Int) (3 : Int)).a ({ pages := (2 : Int), E := [], M := [] : Reg }.plan (7 : Int) (3 : Int)).a).E, M := ({ pages := (2 : Int), E := [], M := [] : Reg }.take (7 : Int) (3 : Int) ({ pages := (2 : Int), E := [], M := [] : Reg }.plan (7 : Int) (3 : Int)).a ({ pages := (2 : Int), E := [], M := [] : Reg }.plan (7 : Int) (3 : Int)).a).M : Reg }.take (7 : Int) (3 : Int) ({ pages := (2 : Int), E := [], M := [] : Reg }.plan (7 : Int) (3 : Int)).a ({ pages := (2 : Int), E := [], M := [] : Reg }.plan (7 : Int) (3 : Int)).b).M : Reg }.group (3 : Int)).a.snd == ({ pages := (2 : Int), E := [], M := [] : Reg }.plan (7 : Int) (3 : Int)).b.snd)) (false = true) (SplitB (({ pages := (2 : Int), E := ({ pages := (2 : Int), E := ({ pages := (2 : Int), E := [], M := [] : Reg }.take (7 : Int) (3 : Int) ({ pages := (2 : Int), E := [], M := [] : Reg }.plan (7 : Int) (3 : Int)).a ({ pages := (2 : Int), E := [], M := [] : Reg }.plan (7 : Int) (3 : Int)).a).E, M := ({ pages := (2 : Int), E := [], M := [] : Reg }.take (7 : Int) (3 : Int) ({ pages := (2 : Int), E := [], M := [] : Reg }.plan (7 : Int) (3 : Int)).a ({ pages := (2 : Int), E := [], M := [] : Reg }.plan (7 : Int) (3 : Int)).a).M : Reg }.take (7 : Int) (3 : Int) ({ pages := (2 : Int), E := [], M := [] : Reg }.plan (7 : Int) (3 : Int)).a ({ pages := (2 : Int), E := [], M := [] : Reg }.plan (7 : Int) (3 : Int)).b).E, M := ({ pages := (2 : Int), E := ({ pages := (2 : Int), E := [], M := [] : Reg }.take (7 : Int) (3 : Int) ({ pages := (2 : Int), E := [], M := [] : Reg }.plan (7 : Int) (3 : Int)).a ({ pages := (2 : Int), E := [], M := [] : Reg }.plan (7 : Int) (3 : Int)).a).E, M := ({ pages := (2 : Int), E := [], M := [] : Reg }.take (7 : Int) (3 : Int) ({ pages := (2 : Int), E := [], M := [] : Reg }.plan (7 : Int) (3 : Int)).a ({ pages := (2 : Int), E := [], M := [] : Reg }.plan (7 : Int) (3 : Int)).a).M : Reg }.take (7 : Int) (3 : Int) ({ pages := (2 : Int), E := [], M := [] : Reg }.plan (7 : Int) (3 : Int)).a ({ pages := (2 : Int), E := [], M := [] : Reg }.plan (7 : Int) (3 : Int)).b).M : Reg }.group (3 : Int)).e != (0 : Int)) (false = true) (SplitB (({ pages := (2 : Int), E := ({ pages := (2 : Int), E := ({ pages := (2 : Int), E := [], M := [] : Reg }.take (7 : Int) (3 : Int) ({ pages := (2 : Int), E := [], M := [] : Reg }.plan (7 : Int) (3 : Int)).a ({ pages := (2 : Int), E := [], M := [] : Reg }.plan (7 : Int) (3 : Int)).a).E, M := ({ pages := (2 : Int), E := [], M := [] : Reg }.take (7 : Int) (3 : Int) ({ pages := (2 : Int), E := [], M := [] : Reg }.plan (7 : Int) (3 : Int)).a ({ pages := (2 : Int), E := [], M := [] : Reg }.plan (7 : Int) (3 : Int)).a).M : Reg }.take (7 : Int) (3 : Int) ({ pages := (2 : Int), E := [], M := [] : Reg }.plan (7 : Int) (3 : Int)).a ({ pages := (2 : Int), E := [], M := [] : Reg }.plan (7 : Int) (3 : Int)).b).E, M := ({ pages := (2 : Int), E := ({ pages := (2 : Int), E := [], M := [] : Reg }.take (7 : Int) (3 : Int) ({ pages := (2 : Int), E := [], M := [] : Reg }.plan (7 : Int) (3 : Int)).a ({ pages := (2 : Int), E := [], M := [] : Reg }.plan (7 : Int) (3 : Int)).a).E, M := ({ pages := (2 : Int), E := [], M := [] : Reg }.take (7 : Int) (3 : Int) ({ pages := (2 : Int), E := [], M := [] : Reg }.plan (7 : Int) (3 : Int)).a ({ pages := (2 : Int), E := [], M := [] : Reg }.plan (7 : Int) (3 : Int)).a).M : Reg }.take (7 : Int) (3 : Int) ({ pages := (2 : Int), E := [], M := [] : Reg }.plan (7 : Int) (3 : Int)).a ({ pages := (2 : Int), E := [], M := [] : Reg }.plan (7 : Int) (3 : Int)).b).M : Reg }.group (4 : Int)).e != (122 : Int)) (false = true) (Holds { pages := (2 : Int), E := ({ pages := (2 : Int), E := ({ pages := (2 : Int), E := [], M := [] : Reg }.take (7 : Int) (3 : Int) ({ pages := (2 : Int), E := [], M := [] : Reg }.plan (7 : Int) (3 : Int)).a ({ pages := (2 : Int), E := [], M := [] : Reg }.plan (7 : Int) (3 : Int)).a).E, M := ({ pages := (2 : Int), E := [], M := [] : Reg }.take (7 : Int) (3 : Int) ({ pages := (2 : Int), E := [], M := [] : Reg }.plan (7 : Int) (3 : Int)).a ({ pages := (2 : Int), E := [], M := [] : Reg }.plan (7 : Int) (3 : Int)).a).M : Reg }.take (7 : Int) (3 : Int) ({ pages := (2 : Int), E := [], M := [] : Reg }.plan (7 : Int) (3 : Int)).a ({ pages := (2 : Int), E := [], M := [] : Reg }.plan (7 : Int) (3 : Int)).b).E, M := ({ pages := (2 : Int), E := ({ pages := (2 : Int), E := [], M := [] : Reg }.take (7 : Int) (3 : Int) ({ pages := (2 : Int), E := [], M := [] : Reg }.plan (7 : Int) (3 : Int)).a ({ pages := (2 : Int), E := [], M := [] : Reg }.plan (7 : Int) (3 : Int)).a).E, M := ({ pages := (2 : Int), E := [], M := [] : Reg }.take (7 : Int) (3 : Int) ({ pages := (2 : Int), E := [], M := [] : Reg }.plan (7 : Int) (3 : Int)).a ({ pages := (2 : Int), E := [], M := [] : Reg }.plan (7 : Int) (3 : Int)).a).M : Reg }.take (7 : Int) (3 : Int) ({ pages := (2 : Int), E := [], M := [] : Reg }.plan (7 : Int) (3 : Int)).a ({ pages := (2 : Int), E := [], M := [] : Reg }.plan (7 : Int) (3 : Int)).b).M : Reg }.ok ∧ SplitB (decide (rising (keysOf ({ pages := (2 : Int), E := ({ pages := (2 : Int), E := [], M := [] : Reg }.take (7 : Int) (3 : Int) ({ pages := (2 : Int), E := [], M := [] : Reg }.plan (7 : Int) (3 : Int)).a ({ pages := (2 : Int), E := [], M := [] : Reg }.plan (7 : Int) (3 : Int)).a).E, M := ({ pages := (2 : Int), E := [], M := [] : Reg }.take (7 : Int) (3 : Int) ({ pages := (2 : Int), E := [], M := [] : Reg }.plan (7 : Int) (3 : Int)).a ({ pages := (2 : Int), E := [], M := [] : Reg }.plan (7 : Int) (3 : Int)).a).M : Reg }.take (7 : Int) (3 : Int) ({ pages := (2 : Int), E := [], M := [] : Reg }.plan (7 : Int) (3 : Int)).a ({ pages := (2 : Int), E := [], M := [] : Reg }.plan (7 : Int) (3 : Int)).b).E) = [(7 : Int)])) (Holds { pages := (2 : Int), E := ({ pages := (2 : Int), E := ({ pages := (2 : Int), E := [], M := [] : Reg }.take (7 : Int) (3 : Int) ({ pages := (2 : Int), E := [], M := [] : Reg }.plan (7 : Int) (3 : Int)).a ({ pages := (2 : Int), E := [], M := [] : Reg }.plan (7 : Int) (3 : Int)).a).E, M := ({ pages := (2 : Int), E := [], M := [] : Reg }.take (7 : Int) (3 : Int) ({ pages := (2 : Int), E := [], M := [] : Reg }.plan (7 : Int) (3 : Int)).a ({ pages := (2 : Int), E := [], M := [] : Reg }.plan (7 : Int) (3 : Int)).a).M : Reg }.take (7 : Int) (3 : Int) ({ pages := (2 : Int), E := [], M := [] : Reg }.plan (7 : Int) (3 : Int)).a ({ pages := (2 : Int), E := [], M := [] : Reg }.plan (7 : Int) (3 : Int)).b).E, M := ({ pages := (2 : Int), E := ({ pages := (2 : Int), E := [], M := [] : Reg }.take (7 : Int) (3 : Int) ({ pages := (2 : Int), E := [], M := [] : Reg }.plan (7 : Int) (3 : Int)).a ({ pages := (2 : Int), E := [], M := [] : Reg }.plan (7 : Int) (3 : Int)).a).E, M := ({ pages := (2 : Int), E := [], M := [] : Reg }.take (7 : Int) (3 : Int) ({ pages := (2 : Int), E := [], M := [] : Reg }.plan (7 : Int) (3 : Int)).a ({ pages := (2 : Int), E := [], M := [] : Reg }.plan (7 : Int) (3 : Int)).a).M : Reg }.take (7 : Int) (3 : Int) ({ pages := (2 : Int), E := [], M := [] : Reg }.plan (7 : Int) (3 : Int)).a ({ pages := (2 : Int), E := [], M := [] : Reg }.plan (7 : Int) (3 : Int)).b).M : Reg }.ok ∧ decide (rising (keysOf ({ pages := (2 : Int), E := ({ pages := (2 : Int), E := [], M := [] : Reg }.take (7 : Int) (3 : Int) ({ pages := (2 : Int), E := [], M := [] : Reg }.plan (7 : Int) (3 : Int)).a ({ pages := (2 : Int), E := [], M := [] : Reg }.plan (7 : Int) (3 : Int)).a).E, M := ({ pages := (2 : Int), E := [], M := [] : Reg }.take (7 : Int) (3 : Int) ({ pages := (2 : Int), E := [], M := [] : Reg }.plan (7 : Int) (3 : Int)).a ({ pages := (2 : Int), E := [], M := [] : Reg }.plan (7 : Int) (3 : Int)).a).M : Reg }.take (7 : Int) (3 : Int) ({ pages := (2 : Int), E := [], M := [] : Reg }.plan (7 : Int) (3 : Int)).a ({ pages := (2 : Int), E := [], M := [] : Reg }.plan (7 : Int) (3 : Int)).b).M) = [(3 : Int)]) = true) (false = true))))))))))))))))))) ∧ ∀ (r : Unit), Holds ((2 : Int) ≤ (65 : Int) ∧ (65 : Int) ≤ (64 : Int)) → SplitB ((0 : Int) != (0 : Int)) (false = true) (false = true)) := by kernel_rfl
theorem pl0 : (Reg.mk 2 [] []).plan 7 3 = ⟨(0, 0), (1, 0), 0⟩ := by kernel_rfl
theorem te0 : (Reg.mk 2 [] []).takeE 7 3 (0, 0) (0, 0) = 83 := by kernel_rfl
theorem tk0 : (Reg.mk 2 [] []).take 7 3 (0, 0) (0, 0) = ⟨2, [], []⟩ := by kernel_rfl
theorem te1 : (Reg.mk 2 [] []).takeE 7 3 (0, 0) (1, 0) = 0 := by kernel_rfl
theorem tk1 : (Reg.mk 2 [] []).take 7 3 (0, 0) (1, 0) = ⟨2, [(7, (0, 3))], [(3, 0)]⟩ := by kernel_rfl
theorem pl1 : (Reg.mk 2 [(7, (0, 3))] [(3, 0)]).plan 5 4 = ⟨(0, 1), (1, 1), 0⟩ := by kernel_rfl
theorem fd1 : (Reg.mk 2 [(7, (0, 3))] [(3, 0)]).find 7 = ⟨(0, 0), 3, (1, 0), 0⟩ := by kernel_rfl
theorem gr3 : (Reg.mk 2 [(7, (0, 3))] [(3, 0)]).group 3 = ⟨(1, 0), (0, 0), 0⟩ := by kernel_rfl
theorem gr4 : (Reg.mk 2 [(7, (0, 3))] [(3, 0)]).group 4 = ⟨(0, 0), (0, 0), 122⟩ := by kernel_rfl
theorem okR0 : (Reg.mk 2 [] []).ok := by simp [Reg.ok]
theorem okR1 : (Reg.mk 2 [(7, (0, 3))] [(3, 0)]).ok := by simp [Reg.ok]
theorem ri1 : rising (keysOf [((7 : Int), ((0 : Int), (3 : Int)))]) = [7] := by simp [rising, keysOf]
theorem ri2 : rising (keysOf [((3 : Int), (0 : Int))]) = [3] := by simp [rising, keysOf]
theorem ok7 : vc7 := by
  rw [vc7_is]
  intro g
  simp only [pl0, te0, tk0, te1, tk1, pl1, fd1, gr3, gr4, ri1, ri2, holds_iff, splitB_iff, okR0, okR1]
  simp

def vc6 : Prop := vc Try.f6.body Try.f6.results Try.f6.ntmps [(7, some sp7), (11, some sp11), (18, some sp18), (15, some sp15), (20, some sp20), (19, some sp19), (16, some sp16)] sp6 ann6
theorem vc6_is : vc6 = (
∀ (g : Pair2), Holds (InR IntKind.i64 g.a) → Holds (InR IntKind.i64 g.b) → SplitB (!true) (false = true) (Holds ((0 : Int) ≤ (2 : Int)) ∧ Holds ((2 : Int) ≤ (12 : Int)) ∧ Holds ((12 : Int) ≤ (1000000 : Int)) ∧ Holds ((0 : Int) ≤ (1 : Int)) ∧ Holds ((1 : Int) ≤ (40 : Int)) ∧ Holds ((40 : Int) ≤ (1000000 : Int)) ∧ (∀ (r : Unit), Holds ¬((2 : Int) ≤ rst g.a (2 : Int) (12 : Int) ∧ rst g.a (2 : Int) (12 : Int) ≤ (64 : Int)) → false = true) ∧ ∀ (r : Unit), Holds ((2 : Int) ≤ rst g.a (2 : Int) (12 : Int) ∧ rst g.a (2 : Int) (12 : Int) ≤ (64 : Int)) → SplitB ((0 : Int) != (0 : Int)) (false = true) ((∃ (x : Full), Holds (Full.ok (rst g.b (1 : Int) (40 : Int)) x) ∧ (0 : Int) = x.n ∧ nilT (Int × Int × Int) = x.E ∧ nilT (Int × Int) = x.M) ∧ ∀ (x : Full), Holds (Full.ok (rst g.b (1 : Int) (40 : Int)) x) → SplitB (decide (x.n < (500 : Int))) (Holds (rst g.b (1 : Int) (40 : Int) ≠ (0 : Int)) ∧ Holds ((31 : Int) ≠ (0 : Int)) ∧ Holds ((84 : Int) ≠ (0 : Int)) ∧ Holds { pages := rst g.a (2 : Int) (12 : Int), E := x.E, M := x.M : Reg }.ok ∧ SplitB (!(({ pages := rst g.a (2 : Int) (12 : Int), E := x.E, M := x.M : Reg }.plan (IntKind.i64.wrap (x.n + (1 : Int))) (IntKind.i64.wrap (IntKind.i64.wrap (x.n.tdiv (rst g.b (1 : Int) (40 : Int))) + (1 : Int)))).e == (0 : Int)) == decide (IntKind.i64.wrap (IntKind.i64.wrap (IntKind.i64.wrap (x.n.tdiv (31 : Int)) + (1 : Int)) + IntKind.i64.wrap ((IntKind.i64.wrap (IntKind.i64.wrap (IntKind.i64.wrap (x.n.tdiv (rst g.b (1 : Int) (40 : Int))) + (1 : Int)) + (83 : Int))).tdiv (84 : Int))) ≤ rst g.a (2 : Int) (12 : Int))) (false = true) (SplitB (!decide (IntKind.i64.wrap (IntKind.i64.wrap (IntKind.i64.wrap (x.n.tdiv (31 : Int)) + (1 : Int)) + IntKind.i64.wrap ((IntKind.i64.wrap (IntKind.i64.wrap (IntKind.i64.wrap (x.n.tdiv (rst g.b (1 : Int) (40 : Int))) + (1 : Int)) + (83 : Int))).tdiv (84 : Int))) ≤ rst g.a (2 : Int) (12 : Int))) (SplitB (({ pages := rst g.a (2 : Int) (12 : Int), E := x.E, M := x.M : Reg }.plan (IntKind.i64.wrap (x.n + (1 : Int))) (IntKind.i64.wrap (IntKind.i64.wrap (x.n.tdiv (rst g.b (1 : Int) (40 : Int))) + (1 : Int)))).e != (6 : Int)) (false = true) (SplitB (!decide (IntKind.i64.wrap (IntKind.i64.wrap (IntKind.i64.wrap (x.n.tdiv (31 : Int)) + (1 : Int)) + IntKind.i64.wrap ((IntKind.i64.wrap (IntKind.i64.wrap (IntKind.i64.wrap (x.n.tdiv (rst g.b (1 : Int) (40 : Int))) + (1 : Int)) + (83 : Int))).tdiv (84 : Int))) ≤ rst g.a (2 : Int) (12 : Int))) (Holds { pages := rst g.a (2 : Int) (12 : Int), E := x.E, M := x.M : Reg }.ok ∧ SplitB ({ pages := rst g.a (2 : Int) (12 : Int), E := x.E, M := x.M : Reg }.takeE (IntKind.i64.wrap (x.n + (1 : Int))) (IntKind.i64.wrap (IntKind.i64.wrap (x.n.tdiv (rst g.b (1 : Int) (40 : Int))) + (1 : Int))) ({ pages := rst g.a (2 : Int) (12 : Int), E := x.E, M := x.M : Reg }.plan (IntKind.i64.wrap (x.n + (1 : Int))) (IntKind.i64.wrap (IntKind.i64.wrap (x.n.tdiv (rst g.b (1 : Int) (40 : Int))) + (1 : Int)))).a ({ pages := rst g.a (2 : Int) (12 : Int), E := x.E, M := x.M : Reg }.plan (IntKind.i64.wrap (x.n + (1 : Int))) (IntKind.i64.wrap (IntKind.i64.wrap (x.n.tdiv (rst g.b (1 : Int) (40 : Int))) + (1 : Int)))).b == (6 : Int)) (Holds { pages := rst g.a (2 : Int) (12 : Int), E := ({ pages := rst g.a (2 : Int) (12 : Int), E := x.E, M := x.M : Reg }.take (IntKind.i64.wrap (x.n + (1 : Int))) (IntKind.i64.wrap (IntKind.i64.wrap (x.n.tdiv (rst g.b (1 : Int) (40 : Int))) + (1 : Int))) ({ pages := rst g.a (2 : Int) (12 : Int), E := x.E, M := x.M : Reg }.plan (IntKind.i64.wrap (x.n + (1 : Int))) (IntKind.i64.wrap (IntKind.i64.wrap (x.n.tdiv (rst g.b (1 : Int) (40 : Int))) + (1 : Int)))).a ({ pages := rst g.a (2 : Int) (12 : Int), E := x.E, M := x.M : Reg }.plan (IntKind.i64.wrap (x.n + (1 : Int))) (IntKind.i64.wrap (IntKind.i64.wrap (x.n.tdiv (rst g.b (1 : Int) (40 : Int))) + (1 : Int)))).b).E, M := ({ pages := rst g.a (2 : Int) (12 : Int), E := x.E, M := x.M : Reg }.take (IntKind.i64.wrap (x.n + (1 : Int))) (IntKind.i64.wrap (IntKind.i64.wrap (x.n.tdiv (rst g.b (1 : Int) (40 : Int))) + (1 : Int))) ({ pages := rst g.a (2 : Int) (12 : Int), E := x.E, M := x.M : Reg }.plan (IntKind.i64.wrap (x.n + (1 : Int))) (IntKind.i64.wrap (IntKind.i64.wrap (x.n.tdiv (rst g.b (1 : Int) (40 : Int))) + (1 : Int)))).a ({ pages := rst g.a (2 : Int) (12 : Int), E := x.E, M := x.M : Reg }.plan (IntKind.i64.wrap (x.n + (1 : Int))) (IntKind.i64.wrap (IntKind.i64.wrap (x.n.tdiv (rst g.b (1 : Int) (40 : Int))) + (1 : Int)))).b).M : Reg }.ok ∧ ((↑(rising (keysOf ({ pages := rst g.a (2 : Int) (12 : Int), E := x.E, M := x.M : Reg }.take (IntKind.i64.wrap (x.n + (1 : Int))) (IntKind.i64.wrap (IntKind.i64.wrap (x.n.tdiv (rst g.b (1 : Int) (40 : Int))) + (1 : Int))) ({ pages := rst g.a (2 : Int) (12 : Int), E := x.E, M := x.M : Reg }.plan (IntKind.i64.wrap (x.n + (1 : Int))) (IntKind.i64.wrap (IntKind.i64.wrap (x.n.tdiv (rst g.b (1 : Int) (40 : Int))) + (1 : Int)))).a ({ pages := rst g.a (2 : Int) (12 : Int), E := x.E, M := x.M : Reg }.plan (IntKind.i64.wrap (x.n + (1 : Int))) (IntKind.i64.wrap (IntKind.i64.wrap (x.n.tdiv (rst g.b (1 : Int) (40 : Int))) + (1 : Int)))).b).E)).length : Int) == x.n) = true) (false = true)) (Holds { pages := rst g.a (2 : Int) (12 : Int), E := x.E, M := x.M : Reg }.ok ∧ SplitB ({ pages := rst g.a (2 : Int) (12 : Int), E := x.E, M := x.M : Reg }.takeE (IntKind.i64.wrap (x.n + (1 : Int))) (IntKind.i64.wrap (IntKind.i64.wrap (x.n.tdiv (rst g.b (1 : Int) (40 : Int))) + (1 : Int))) ({ pages := rst g.a (2 : Int) (12 : Int), E := x.E, M := x.M : Reg }.plan (IntKind.i64.wrap (x.n + (1 : Int))) (IntKind.i64.wrap (IntKind.i64.wrap (x.n.tdiv (rst g.b (1 : Int) (40 : Int))) + (1 : Int)))).a ({ pages := rst g.a (2 : Int) (12 : Int), E := x.E, M := x.M : Reg }.plan (IntKind.i64.wrap (x.n + (1 : Int))) (IntKind.i64.wrap (IntKind.i64.wrap (x.n.tdiv (rst g.b (1 : Int) (40 : Int))) + (1 : Int)))).b != (0 : Int)) (false = true) (∃ (y : Full), Holds (Full.ok (rst g.b (1 : Int) (40 : Int)) y) ∧ Holds (((500 : Int) - y.n).toNat < ((500 : Int) - x.n).toNat) ∧ IntKind.i64.wrap (x.n + (1 : Int)) = y.n ∧ ({ pages := rst g.a (2 : Int) (12 : Int), E := x.E, M := x.M : Reg }.take (IntKind.i64.wrap (x.n + (1 : Int))) (IntKind.i64.wrap (IntKind.i64.wrap (x.n.tdiv (rst g.b (1 : Int) (40 : Int))) + (1 : Int))) ({ pages := rst g.a (2 : Int) (12 : Int), E := x.E, M := x.M : Reg }.plan (IntKind.i64.wrap (x.n + (1 : Int))) (IntKind.i64.wrap (IntKind.i64.wrap (x.n.tdiv (rst g.b (1 : Int) (40 : Int))) + (1 : Int)))).a ({ pages := rst g.a (2 : Int) (12 : Int), E := x.E, M := x.M : Reg }.plan (IntKind.i64.wrap (x.n + (1 : Int))) (IntKind.i64.wrap (IntKind.i64.wrap (x.n.tdiv (rst g.b (1 : Int) (40 : Int))) + (1 : Int)))).b).E = y.E ∧ ({ pages := rst g.a (2 : Int) (12 : Int), E := x.E, M := x.M : Reg }.take (IntKind.i64.wrap (x.n + (1 : Int))) (IntKind.i64.wrap (IntKind.i64.wrap (x.n.tdiv (rst g.b (1 : Int) (40 : Int))) + (1 : Int))) ({ pages := rst g.a (2 : Int) (12 : Int), E := x.E, M := x.M : Reg }.plan (IntKind.i64.wrap (x.n + (1 : Int))) (IntKind.i64.wrap (IntKind.i64.wrap (x.n.tdiv (rst g.b (1 : Int) (40 : Int))) + (1 : Int)))).a ({ pages := rst g.a (2 : Int) (12 : Int), E := x.E, M := x.M : Reg }.plan (IntKind.i64.wrap (x.n + (1 : Int))) (IntKind.i64.wrap (IntKind.i64.wrap (x.n.tdiv (rst g.b (1 : Int) (40 : Int))) + (1 : Int)))).b).M = y.M)))) (SplitB (!decide (IntKind.i64.wrap (IntKind.i64.wrap (IntKind.i64.wrap (x.n.tdiv (31 : Int)) + (1 : Int)) + IntKind.i64.wrap ((IntKind.i64.wrap (IntKind.i64.wrap (IntKind.i64.wrap (x.n.tdiv (rst g.b (1 : Int) (40 : Int))) + (1 : Int)) + (83 : Int))).tdiv (84 : Int))) ≤ rst g.a (2 : Int) (12 : Int))) (Holds { pages := rst g.a (2 : Int) (12 : Int), E := x.E, M := x.M : Reg }.ok ∧ SplitB ({ pages := rst g.a (2 : Int) (12 : Int), E := x.E, M := x.M : Reg }.takeE (IntKind.i64.wrap (x.n + (1 : Int))) (IntKind.i64.wrap (IntKind.i64.wrap (x.n.tdiv (rst g.b (1 : Int) (40 : Int))) + (1 : Int))) ({ pages := rst g.a (2 : Int) (12 : Int), E := x.E, M := x.M : Reg }.plan (IntKind.i64.wrap (x.n + (1 : Int))) (IntKind.i64.wrap (IntKind.i64.wrap (x.n.tdiv (rst g.b (1 : Int) (40 : Int))) + (1 : Int)))).a ({ pages := rst g.a (2 : Int) (12 : Int), E := x.E, M := x.M : Reg }.plan (IntKind.i64.wrap (x.n + (1 : Int))) (IntKind.i64.wrap (IntKind.i64.wrap (x.n.tdiv (rst g.b (1 : Int) (40 : Int))) + (1 : Int)))).b == (6 : Int)) (Holds { pages := rst g.a (2 : Int) (12 : Int), E := ({ pages := rst g.a (2 : Int) (12 : Int), E := x.E, M := x.M : Reg }.take (IntKind.i64.wrap (x.n + (1 : Int))) (IntKind.i64.wrap (IntKind.i64.wrap (x.n.tdiv (rst g.b (1 : Int) (40 : Int))) + (1 : Int))) ({ pages := rst g.a (2 : Int) (12 : Int), E := x.E, M := x.M : Reg }.plan (IntKind.i64.wrap (x.n + (1 : Int))) (IntKind.i64.wrap (IntKind.i64.wrap (x.n.tdiv (rst g.b (1 : Int) (40 : Int))) + (1 : Int)))).a ({ pages := rst g.a (2 : Int) (12 : Int), E := x.E, M := x.M : Reg }.plan (IntKind.i64.wrap (x.n + (1 : Int))) (IntKind.i64.wrap (IntKind.i64.wrap (x.n.tdiv (rst g.b (1 : Int) (40 : Int))) + (1 : Int)))).b).E, M := ({ pages := rst g.a (2 : Int) (12 : Int), E := x.E, M := x.M : Reg }.take (IntKind.i64.wrap (x.n + (1 : Int))) (IntKind.i64.wrap (IntKind.i64.wrap (x.n.tdiv (rst g.b (1 : Int) (40 : Int))) + (1 : Int))) ({ pages := rst g.a (2 : Int) (12 : Int), E := x.E, M := x.M : Reg }.plan (IntKind.i64.wrap (x.n + (1 : Int))) (IntKind.i64.wrap (IntKind.i64.wrap (x.n.tdiv (rst g.b (1 : Int) (40 : Int))) + (1 : Int)))).a ({ pages := rst g.a (2 : Int) (12 : Int), E := x.E, M := x.M : Reg }.plan (IntKind.i64.wrap (x.n + (1 : Int))) (IntKind.i64.wrap (IntKind.i64.wrap (x.n.tdiv (rst g.b (1 : Int) (40 : Int))) + (1 : Int)))).b).M : Reg }.ok ∧ ((↑(rising (keysOf ({ pages := rst g.a (2 : Int) (12 : Int), E := x.E, M := x.M : Reg }.take (IntKind.i64.wrap (x.n + (1 : Int))) (IntKind.i64.wrap (IntKind.i64.wrap (x.n.tdiv (rst g.b (1 : Int) (40 : Int))) + (1 : Int))) ({ pages := rst g.a (2 : Int) (12 : Int), E := x.E, M := x.M : Reg }.plan (IntKind.i64.wrap (x.n + (1 : Int))) (IntKind.i64.wrap (IntKind.i64.wrap (x.n.tdiv (rst g.b (1 : Int) (40 : Int))) + (1 : Int)))).a ({ pages := rst g.a (2 : Int) (12 : Int), E := x.E, M := x.M : Reg }.plan (IntKind.i64.wrap (x.n + (1 : Int))) (IntKind.i64.wrap (IntKind.i64.wrap (x.n.tdiv (rst g.b (1 : Int) (40 : Int))) + (1 : Int)))).b).E)).length : Int) == x.n) = true) (false = true)) (Holds { pages := rst g.a (2 : Int) (12 : Int), E := x.E, M := x.M : Reg }.ok ∧ SplitB ({ pages := rst g.a (2 : Int) (12 : Int), E := x.E, M := x.M : Reg }.takeE (IntKind.i64.wrap (x.n + (1 : Int))) (IntKind.i64.wrap (IntKind.i64.wrap (x.n.tdiv (rst g.b (1 : Int) (40 : Int))) + (1 : Int))) ({ pages := rst g.a (2 : Int) (12 : Int), E := x.E, M := x.M : Reg }.plan (IntKind.i64.wrap (x.n + (1 : Int))) (IntKind.i64.wrap (IntKind.i64.wrap (x.n.tdiv (rst g.b (1 : Int) (40 : Int))) + (1 : Int)))).a ({ pages := rst g.a (2 : Int) (12 : Int), E := x.E, M := x.M : Reg }.plan (IntKind.i64.wrap (x.n + (1 : Int))) (IntKind.i64.wrap (IntKind.i64.wrap (x.n.tdiv (rst g.b (1 : Int) (40 : Int))) + (1 : Int)))).b != (0 : Int)) (false = true) (∃ (y : Full), Holds (Full.ok (rst g.b (1 : Int) (40 : Int)) y) ∧ Holds (((500 : Int) - y.n).toNat < ((500 : Int) - x.n).toNat) ∧ IntKind.i64.wrap (x.n + (1 : Int)) = y.n ∧ ({ pages := rst g.a (2 : Int) (12 : Int), E := x.E, M := x.M : Reg }.take (IntKind.i64.wrap (x.n + (1 : Int))) (IntKind.i64.wrap (IntKind.i64.wrap (x.n.tdiv (rst g.b (1 : Int) (40 : Int))) + (1 : Int))) ({ pages := rst g.a (2 : Int) (12 : Int), E := x.E, M := x.M : Reg }.plan (IntKind.i64.wrap (x.n + (1 : Int))) (IntKind.i64.wrap (IntKind.i64.wrap (x.n.tdiv (rst g.b (1 : Int) (40 : Int))) + (1 : Int)))).a ({ pages := rst g.a (2 : Int) (12 : Int), E := x.E, M := x.M : Reg }.plan (IntKind.i64.wrap (x.n + (1 : Int))) (IntKind.i64.wrap (IntKind.i64.wrap (x.n.tdiv (rst g.b (1 : Int) (40 : Int))) + (1 : Int)))).b).E = y.E ∧ ({ pages := rst g.a (2 : Int) (12 : Int), E := x.E, M := x.M : Reg }.take (IntKind.i64.wrap (x.n + (1 : Int))) (IntKind.i64.wrap (IntKind.i64.wrap (x.n.tdiv (rst g.b (1 : Int) (40 : Int))) + (1 : Int))) ({ pages := rst g.a (2 : Int) (12 : Int), E := x.E, M := x.M : Reg }.plan (IntKind.i64.wrap (x.n + (1 : Int))) (IntKind.i64.wrap (IntKind.i64.wrap (x.n.tdiv (rst g.b (1 : Int) (40 : Int))) + (1 : Int)))).a ({ pages := rst g.a (2 : Int) (12 : Int), E := x.E, M := x.M : Reg }.plan (IntKind.i64.wrap (x.n + (1 : Int))) (IntKind.i64.wrap (IntKind.i64.wrap (x.n.tdiv (rst g.b (1 : Int) (40 : Int))) + (1 : Int)))).b).M = y.M))))) (true = true)))) := by kernel_rfl
theorem rst_in {n lo hi : Int} (h : lo ≤ hi) : lo ≤ rst n lo hi ∧ rst n lo hi ≤ hi := by
  unfold rst
  have := Int.emod_lt_of_pos n (show 0 < hi - lo + 1 by omega)
  have := Int.emod_nonneg n (show hi - lo + 1 ≠ 0 by omega)
  omega
theorem div_next {n each : Int} (h : 0 < each) : n / each ≤ (n + each - 1) / each ∧ (n + each - 1) / each ≤ n / each + 1 ∧ (n + 1 + each - 1) / each = n / each + 1 := by
  have e1 : (n + each) / each = n / each + 1 := by
    have := Int.add_mul_ediv_right n 1 (show each ≠ 0 by omega)
    rwa [Int.one_mul] at this
  refine ⟨Int.ediv_le_ediv h (by omega), ?_, by rw [show n + 1 + each - 1 = n + each from by omega]; exact e1⟩
  rw [← e1]
  exact Int.ediv_le_ediv h (by omega)
section
variable {p each : Int} {x : Full} (hp : 2 ≤ p ∧ p ≤ 12) (he : 1 ≤ each ∧ each ≤ 40) (hx : x.ok each)
include hp he hx
theorem full_reg : (Reg.mk p x.E x.M).ok := by
  obtain ⟨h1, h2, h3, h4, h5, h6, h7, h8⟩ := hx
  obtain ⟨d1, d2, d3⟩ := div_next (n := x.n) (each := each) (by omega)
  have d4 : x.n / each ≤ x.n := Int.ediv_le_self _ h1
  refine ⟨(by show 2 ≤ p; omega), (by show p ≤ 64; omega), (by show x.E.length ≤ _; omega), (by show x.M.length ≤ _; omega), h7, h8⟩
theorem full_count : (if (mgM x.M (x.n / each + 1)).isSome = true then (x.M.length : Int) else x.M.length + 1) = x.n / each + 1 := by
  obtain ⟨h1, h2, h3, h4, h5, h6, h7, h8⟩ := hx
  obtain ⟨d1, d2, d3⟩ := div_next (n := x.n) (each := each) (by omega)
  have d4 : 0 ≤ x.n / each := Int.ediv_nonneg h1 (by omega)
  split
  · rename_i h
    have := (h6 _).1 h
    omega
  · rename_i h
    have : ¬ (1 ≤ x.n / each + 1 ∧ x.n / each + 1 ≤ x.M.length) := fun h' => h ((h6 _).2 h')
    omega
theorem full_plan : (Reg.mk p x.E x.M).plan (x.n + 1) (x.n / each + 1) = if x.n / 31 + 1 + (x.n / each + 1 + 83) / 84 ≤ p then ⟨wh x.n, sm p ((mgM x.M (x.n / each + 1)).getD x.M.length), 0⟩ else ⟨(0, 0), (0, 0), 6⟩ := by
  have hc := full_count hp he hx
  obtain ⟨h1, h2, h3, h4, h5, h6, h7, h8⟩ := hx
  have d4 : 0 ≤ x.n / each := Int.ediv_nonneg h1 (by omega)
  have d5 : x.n / each ≤ x.n := Int.ediv_le_self _ h1
  unfold Reg.plan
  rw [if_neg (by omega)]
  have hn : mgE x.E (x.n + 1) = none := by
    have := (h4 (x.n + 1))
    cases hg : mgE x.E (x.n + 1) with
    | none => rfl
    | some y => rw [hg] at this; have := this.1 rfl; omega
  simp only [hn, Option.isSome_none, Bool.false_eq_true, if_false, h3, hc]
  have e1 : nd (x.n + 1) 31 = x.n / 31 + 1 := by unfold nd; omega
  have e2 : nd (x.n / each + 1) 84 = (x.n / each + 1 + 83) / 84 := by unfold nd; congr 1; omega
  rw [e1, e2]
  by_cases hf : x.n / 31 + 1 + (x.n / each + 1 + 83) / 84 ≤ p
  · rw [if_neg (by omega), if_pos hf]
  · rw [if_pos (by omega), if_neg hf]
theorem full_next (hn : x.n < 500) : Full.ok each ⟨x.n + 1, ((Reg.mk p x.E x.M).add (x.n + 1) (x.n / each + 1)).E, ((Reg.mk p x.E x.M).add (x.n + 1) (x.n / each + 1)).M⟩ := by
  have hc := full_count hp he hx
  obtain ⟨h1, h2, h3, h4, h5, h6, h7, h8⟩ := hx
  obtain ⟨d1, d2, d3⟩ := div_next (n := x.n) (each := each) (by omega)
  have d4 : 0 ≤ x.n / each := Int.ediv_nonneg h1 (by omega)
  have d5 : x.n / each ≤ x.n := Int.ediv_le_self _ h1
  have hne : mgE x.E (x.n + 1) = none := by
    have := (h4 (x.n + 1))
    cases hg : mgE x.E (x.n + 1) with
    | none => rfl
    | some y => rw [hg] at this; have := this.1 rfl; omega
  have eE : ((Reg.mk p x.E x.M).add (x.n + 1) (x.n / each + 1)).E = x.E ++ [(x.n + 1, ((x.E.length : Int), x.n / each + 1))] := mset_none hne
  have hM : (((Reg.mk p x.E x.M).add (x.n + 1) (x.n / each + 1)).M.length : Int) = x.n / each + 1 ∧ (∀ g, (mgM ((Reg.mk p x.E x.M).add (x.n + 1) (x.n / each + 1)).M g).isSome = true ↔ 1 ≤ g ∧ g ≤ x.n / each + 1) ∧
      ∀ e ∈ ((Reg.mk p x.E x.M).add (x.n + 1) (x.n / each + 1)).M, 0 ≤ e.2 ∧ e.2 ≤ 1000000 := by
    unfold Reg.add
    cases hg : mgM x.M (x.n / each + 1) with
    | some k =>
      rw [hg] at hc
      simp only [Option.isSome_some, if_true] at hc ⊢
      exact ⟨hc, fun g => by rw [h6 g, hc], h7⟩
    | none =>
      rw [hg] at hc
      simp only [Option.isSome_none, Bool.false_eq_true, if_false] at hc ⊢
      have eM : msM x.M (x.n / each + 1) x.M.length = x.M ++ [(x.n / each + 1, (x.M.length : Int))] := mset_none hg
      rw [eM]
      refine ⟨by simpa using hc, fun g => ?_, fun e he' => ?_⟩
      · have := mget_app (q := .i64) (v := TI64) (E := x.M) (c := x.n / each + 1) (d := g) (x := (x.M.length : Int))
        show (mget (k := TI64) (v := TI64) _ g).isSome = true ↔ _
        rw [this, Option.isSome_or, Bool.or_eq_true]
        have h6g : (mget (k := TI64) (v := TI64) x.M g).isSome = true ↔ 1 ≤ g ∧ g ≤ x.M.length := h6 g
        rw [h6g]
        by_cases hgg : x.n / each + 1 = g
        · rw [if_pos hgg]; simp; omega
        · rw [if_neg hgg]; simp; omega
      · rcases List.mem_append.1 he' with h | h
        · exact h7 e h
        · simp at h; subst h; simp; omega
  refine ⟨(by show 0 ≤ x.n + 1; omega), (by show x.n + 1 ≤ 500; omega), ?_, fun c => ?_, ?_, fun g => ?_, hM.2.2, fun e he' => ?_⟩
  · show ((_ : List _).length : Int) = x.n + 1
    rw [eE]; simp [h3]
  · show (mgE _ c).isSome = true ↔ 1 ≤ c ∧ c ≤ x.n + 1
    rw [eE]
    have := mget_app (q := .i64) (v := TSlot) (E := x.E) (c := x.n + 1) (d := c) (x := ((x.E.length : Int), x.n / each + 1))
    show (mget (k := TI64) (v := TSlot) _ c).isSome = true ↔ _
    rw [this, Option.isSome_or, Bool.or_eq_true]
    have h4c : (mget (k := TI64) (v := TSlot) x.E c).isSome = true ↔ 1 ≤ c ∧ c ≤ x.n := h4 c
    rw [h4c]
    by_cases hcc : x.n + 1 = c
    · rw [if_pos hcc]; simp; omega
    · rw [if_neg hcc]; simp; omega
  · show ((_ : List _).length : Int) = (x.n + 1 + each - 1) / each
    rw [hM.1, d3]
  · show (mgM _ g).isSome = true ↔ 1 ≤ g ∧ g ≤ ((_ : List _).length : Int)
    rw [hM.1]; exact hM.2.1 g
  · have he'' : e ∈ ((Reg.mk p x.E x.M).add (x.n + 1) (x.n / each + 1)).E := he'
    rw [eE] at he''
    rcases List.mem_append.1 he'' with h | h
    · exact h8 e h
    · simp at h; subst h; simp; omega
end
theorem ok6 : vc6 := by
  rw [vc6_is]
  intro g h1 h2
  have hp := rst_in (n := g.a) (lo := 2) (hi := 12) (by omega)
  have he := rst_in (n := g.b) (lo := 1) (hi := 40) (by omega)
  generalize rst g.a 2 12 = p at *
  generalize rst g.b 1 40 = each at *
  refine ⟨fun h => by simp at h, fun _ => ⟨⟨by omega⟩, ⟨by omega⟩, ⟨by omega⟩, ⟨by omega⟩, ⟨by omega⟩, ⟨by omega⟩, fun _ h => absurd (show 2 ≤ p ∧ p ≤ 64 by omega) h.out, fun _ _ => ⟨fun h => by simp at h, fun _ => ⟨⟨⟨0, [], []⟩, ⟨?_⟩, rfl, rfl, rfl⟩, fun x hx => ⟨fun hn => ?_, fun _ => rfl⟩⟩⟩⟩⟩
  · refine ⟨by simp, by simp, by simp, fun c => ?_, ?_, fun c => ?_, by simp, by simp⟩
    · show (none : Option (Int × Int)).isSome = true ↔ 1 ≤ c ∧ c ≤ 0
      simp; omega
    · show (0 : Int) = (0 + each - 1) / each
      rw [Int.ediv_eq_zero_of_lt (by omega) (by omega)]
    · show (none : Option Int).isSome = true ↔ 1 ≤ c ∧ c ≤ ((0 : Nat) : Int)
      simp; omega
  · have hx := hx.out
    have hn : x.n < 500 := by simpa using hn
    have hreg := full_reg hp he hx
    have hplan := full_plan hp he hx
    have hnext := full_next hp he hx hn
    have h0 : 0 ≤ x.n := hx.1
    have d4 : 0 ≤ x.n / each := Int.ediv_nonneg h0 (by omega)
    have d5 : x.n / each ≤ x.n := Int.ediv_le_self _ h0
    have w1 : IntKind.i64.wrap (x.n + 1) = x.n + 1 := wrap64 (by omega) (by omega)
    have w2 : IntKind.i64.wrap (IntKind.i64.wrap (x.n.tdiv each) + 1) = x.n / each + 1 := by rw [tdiv_pos h0, wrap64 (n := x.n / each) (by omega) (by omega), wrap64 (by omega) (by omega)]
    have w3 : IntKind.i64.wrap (IntKind.i64.wrap (x.n.tdiv 31) + 1) = x.n / 31 + 1 := by rw [tdiv_pos h0, wrap64 (n := x.n / 31) (by omega) (by omega), wrap64 (by omega) (by omega)]
    have w4 : IntKind.i64.wrap (x.n / each + 1 + 83) = x.n / each + 1 + 83 := wrap64 (by omega) (by omega)
    have w5 : IntKind.i64.wrap ((x.n / each + 1 + 83).tdiv 84) = (x.n / each + 1 + 83) / 84 := by rw [tdiv_pos (by omega)]; exact wrap64 (by omega) (by omega)
    have w6 : IntKind.i64.wrap (x.n / 31 + 1 + (x.n / each + 1 + 83) / 84) = x.n / 31 + 1 + (x.n / each + 1 + 83) / 84 := wrap64 (by omega) (by omega)
    simp only [w1, w2, w3, w4, w5, w6, holds_iff, splitB_iff]
    by_cases hf : x.n / 31 + 1 + (x.n / each + 1 + 83) / 84 ≤ p
    · rw [if_pos hf] at hplan
      have hE : (Reg.mk p x.E x.M).takeE (x.n + 1) (x.n / each + 1) ((Reg.mk p x.E x.M).plan (x.n + 1) (x.n / each + 1)).a ((Reg.mk p x.E x.M).plan (x.n + 1) (x.n / each + 1)).b = 0 := by
        unfold Reg.takeE; rw [hplan]; simp
      have hT : (Reg.mk p x.E x.M).take (x.n + 1) (x.n / each + 1) ((Reg.mk p x.E x.M).plan (x.n + 1) (x.n / each + 1)).a ((Reg.mk p x.E x.M).plan (x.n + 1) (x.n / each + 1)).b = (Reg.mk p x.E x.M).add (x.n + 1) (x.n / each + 1) := by
        unfold Reg.take; rw [if_pos hE]
      rw [hT, hE]
      have hpe : ((Reg.mk p x.E x.M).plan (x.n + 1) (x.n / each + 1)).e = 0 := by rw [hplan]
      rw [hpe]
      simp only [hf, decide_true, Bool.not_true, beq_self_eq_true, Bool.false_eq_true, false_implies, true_implies, bne_self_eq_false, and_true, true_and, ne_eq]
      refine ⟨by omega, by omega, by omega, hreg, ?_⟩
      simp only [implies_true, true_and, hreg]
      exact ⟨_, hnext, by show (500 - (x.n + 1)).toNat < (500 - x.n).toNat; omega, rfl, rfl, rfl⟩
    · rw [if_neg hf] at hplan
      have hE : (Reg.mk p x.E x.M).takeE (x.n + 1) (x.n / each + 1) ((Reg.mk p x.E x.M).plan (x.n + 1) (x.n / each + 1)).a ((Reg.mk p x.E x.M).plan (x.n + 1) (x.n / each + 1)).b = 6 := by
        unfold Reg.takeE; rw [hplan]; simp
      have hT : (Reg.mk p x.E x.M).take (x.n + 1) (x.n / each + 1) ((Reg.mk p x.E x.M).plan (x.n + 1) (x.n / each + 1)).a ((Reg.mk p x.E x.M).plan (x.n + 1) (x.n / each + 1)).b = Reg.mk p x.E x.M := by
        unfold Reg.take; rw [if_neg (by rw [hE]; omega)]
      rw [hT, hE]
      have hpe : ((Reg.mk p x.E x.M).plan (x.n + 1) (x.n / each + 1)).e = 6 := by rw [hplan]
      rw [hpe]
      have hlen : ((rising (keysOf x.E)).length : Int) = x.n := by
        have := (List.mergeSort_perm (keysOf x.E) (fun a b => decide (a ≤ b))).length_eq
        unfold rising
        rw [this]
        simp only [keysOf, List.length_map]
        exact hx.2.2.1
      rw [hlen]
      simp only [hf, decide_false, Bool.not_false, beq_self_eq_true, hreg]
      refine ⟨by omega, by omega, by omega, trivial, ?_⟩
      simp

end Go.Proofs.Ytkhcphdnppdfjaa.VC
