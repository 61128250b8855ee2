/- What is to be shown of functions, shown. Plain lemmas; no conditions but those that each names. -/
import Derived.Test.YtfeanjnjcdmhcaaSp
import Derived.KernelRfl
set_option linter.unusedVariables false
set_option linter.unusedSimpArgs false
set_option linter.unusedSectionVars false
namespace Go.Proofs.Ytfeanjnjcdmhcaa.VC
open Go
set_option maxRecDepth 100000

theorem ans_yes {x : Int} (h : Num x) : ans x = (x, 0) := by unfold ans; rw [if_pos h]
theorem ans_no {x : Int} (h : ¬ Num x) : ans x = (0, 10) := by unfold ans; rw [if_neg h]
theorem wval_wd (n : Int) : wval (hiW n, loW n) = n := by unfold wval hiW loW; simp only; omega
theorem sum_bound : ∀ (l : List Int), (∀ x ∈ l, InR .i64 x) → -9223372036854775808 * (l.length : Int) ≤ l.sum ∧ l.sum ≤ 9223372036854775808 * (l.length : Int)
  | [], _ => by simp
  | x :: l, h => by
    have h1 := sum_bound l (fun y hy => h y (by simp [hy]))
    have h2 := h x (by simp)
    rw [inR64] at h2
    simp only [List.sum_cons, List.length_cons]
    omega
theorem low_bound : ∀ (l : List Int), (∀ x ∈ l, InR .i64 x) → -9223372036854775808 * (l.length : Int) ≤ lowS l ∧ lowS l ≤ 0
  | [], _ => by simp [lowS]
  | x :: l, h => by
    have h1 := low_bound l (fun y hy => h y (by simp [hy]))
    have h2 := h x (by simp)
    rw [inR64] at h2
    have e : lowS (x :: l) = (if x < 0 then x else 0) + lowS l := by simp [lowS]
    rw [e, List.length_cons]
    split <;> omega
theorem high_bound : ∀ (l : List Int), (∀ x ∈ l, InR .i64 x) → 0 ≤ highS l ∧ highS l ≤ 9223372036854775808 * (l.length : Int)
  | [], _ => by simp [highS]
  | x :: l, h => by
    have h1 := high_bound l (fun y hy => h y (by simp [hy]))
    have h2 := h x (by simp)
    rw [inR64] at h2
    have e : highS (x :: l) = (if x < 0 then 0 else x) + highS l := by simp [highS]
    rw [e, List.length_cons]
    split <;> omega
theorem low_snoc (l : List Int) (x : Int) : lowS (l ++ [x]) = lowS l + (if x < 0 then x else 0) := by simp [lowS]
theorem high_snoc (l : List Int) (x : Int) : highS (l ++ [x]) = highS l + (if x < 0 then 0 else x) := by simp [highS]
theorem take_ok {l : List Int} (h : ∀ x ∈ l, InR .i64 x) (i : Nat) : ∀ x ∈ l.take i, InR .i64 x := fun x hx => h x (List.mem_of_mem_take hx)
def vc33 : Prop := vc Try.f33.body Try.f33.results Try.f33.ntmps [] sp33 (fun _ => noAnn)
theorem vc33_is : vc33 = (
∀ (g : Num1), Holds (InR IntKind.i64 g.v) → Holds ((0 : Int) ≤ (63 : Int)) ∧ shrI IntKind.i64 g.v (63 : Int) = hiW g.v ∧ (bif decide (IntKind.i64 = IntKind.u64) then g.v else IntKind.u64.wrap g.v) = loW g.v) := by kernel_rfl
theorem ok33 : vc33 := by
  rw [vc33_is]
  intro g h
  have h := h.out
  rw [inR64] at h
  refine ⟨⟨by decide⟩, ?_, ?_⟩
  · rw [shr63]; unfold hiW; omega
  · show IntKind.u64.wrap g.v = _
    rw [u64_wrap]; rfl

def vc32 : Prop := vc Try.f32.body Try.f32.results Try.f32.ntmps [] sp32 (fun _ => noAnn)
theorem vc32_is : vc32 = (
∀ (g : W1), Holds (InR IntKind.i64 g.w.fst) → Holds (InR IntKind.u64 g.w.snd) → Holds ((0 : Int) ≤ (63 : Int)) ∧ SplitB (g.w.fst != shrI IntKind.i64 (bif decide (IntKind.u64 = IntKind.i64) then g.w.snd else IntKind.i64.wrap g.w.snd) (63 : Int)) (∃ (r : Int × Int), Holds (r = ans (wval g.w)) ∧ (0 : Int) = r.fst ∧ (10 : Int) = r.snd) (∃ (r : Int × Int), Holds (r = ans (wval g.w)) ∧ (bif decide (IntKind.u64 = IntKind.i64) then g.w.snd else IntKind.i64.wrap g.w.snd) = r.fst ∧ (0 : Int) = r.snd)) := by kernel_rfl
theorem ok32 : vc32 := by
  rw [vc32_is]
  intro g h1 h2
  have h1 := h1.out
  have h2 := h2.out
  rw [inR64] at h1
  rw [inU64] at h2
  have e0 : (bif decide (IntKind.u64 = IntKind.i64) then g.w.2 else IntKind.i64.wrap g.w.2) = IntKind.i64.wrap g.w.2 := rfl
  rw [e0, shr63, i64_wrap]
  simp only [splitB_iff, holds_iff, exists_eq_left, bne_iff_ne, ne_eq, bne_eq_false_iff_eq]
  refine ⟨by decide, fun a => ?_, fun a => ?_⟩
  · rw [ans_no (by unfold Num wval; omega)]; exact ⟨rfl, rfl⟩
  · rw [ans_yes (by unfold Num wval; omega)]; refine ⟨?_, rfl⟩; unfold wval; simp only; omega

def vc16 : Prop := vc Try.f16.body Try.f16.results Try.f16.ntmps [(33, some sp33), (31, some sp31), (32, some sp32)] sp16 (fun _ => noAnn)
theorem vc16_is : vc16 = (
∀ (g : Two), Holds (InR IntKind.i64 g.a) → Holds (InR IntKind.i64 g.b) → Holds ((-4611686018427387904 : Int) ≤ hiW g.a) ∧ Holds (hiW g.a ≤ (4611686018427387904 : Int)) ∧ ∀ (r : Int × Int), Holds (r = ans (wval (hiW (wval (hiW g.a, loW g.a) + g.b), loW (wval (hiW g.a, loW g.a) + g.b)))) → ∃ (r_1 : Int × Int), Holds (r_1 = ans (g.a + g.b)) ∧ r.fst = r_1.fst ∧ r.snd = r_1.snd) := by kernel_rfl
theorem ok16 : vc16 := by
  rw [vc16_is]
  intro g h1 h2
  have h1 := h1.out
  have h2 := h2.out
  rw [inR64] at h1 h2
  simp only [holds_iff, wval_wd, forall_eq, exists_eq_left, and_true]
  unfold hiW; omega

def vc12 : Prop := vc Try.f12.body Try.f12.results Try.f12.ntmps [(31, some sp31), (32, some sp32)] sp12 annSum
theorem vc12_is : vc12 = (
∀ (g : SumArg), Holds (kI.slice.ok g.l) → (∃ (x : At), Holds (x.i ≤ g.l.length) ∧ (0 : Int) = (↑x.i : Int) ∧ (0 : Int) = hiW (List.take x.i g.l).sum ∧ (0 : Int) = loW (List.take x.i g.l).sum) ∧ ∀ (x : At), Holds (x.i ≤ g.l.length) → SplitB (decide ((↑x.i : Int) < (↑g.l.length : Int))) (Holds ((0 : Int) ≤ (↑x.i : Int)) ∧ Holds ((↑x.i : Int) < (↑g.l.length : Int)) ∧ Holds ((↑x.i : Int).toNat < g.l.length) ∧ Holds ((-4611686018427387904 : Int) ≤ hiW (List.take x.i g.l).sum) ∧ Holds (hiW (List.take x.i g.l).sum ≤ (4611686018427387904 : Int)) ∧ ∃ (y : At), Holds (y.i ≤ g.l.length) ∧ Holds (g.l.length - y.i < g.l.length - x.i) ∧ IntKind.i64.wrap ((↑x.i : Int) + (1 : Int)) = (↑y.i : Int) ∧ hiW (wval (hiW (List.take x.i g.l).sum, loW (List.take x.i g.l).sum) + g.l.getD (↑x.i : Int).toNat ((0 : Int))) = hiW (List.take y.i g.l).sum ∧ loW (wval (hiW (List.take x.i g.l).sum, loW (List.take x.i g.l).sum) + g.l.getD (↑x.i : Int).toNat ((0 : Int))) = loW (List.take y.i g.l).sum) (∀ (r : Int × Int), Holds (r = ans (wval (hiW (List.take x.i g.l).sum, loW (List.take x.i g.l).sum))) → ∃ (r_1 : Int × Int), Holds (r_1 = ans g.l.sum) ∧ r.fst = r_1.fst ∧ r.snd = r_1.snd)) := by kernel_rfl
theorem ok12 : vc12 := by
  rw [vc12_is]
  intro g h
  obtain ⟨hl, he⟩ := h.out
  have hl := max63 hl
  simp only [splitB_iff, holds_iff, decide_eq_true_eq, decide_eq_false_iff_not, wval_wd, forall_eq, exists_eq_left, Int.toNat_natCast]
  refine ⟨⟨⟨0⟩, Nat.zero_le _, rfl, by simp [hiW], by simp [loW]⟩, fun x hx => ⟨fun a => ?_, fun a => ?_⟩⟩
  · have b := sum_bound _ (take_ok he x.i)
    rw [List.length_take] at b
    have e := take_succ_get (l := g.l) (i := x.i) (by omega) 0
    refine ⟨by omega, a, by omega, by unfold hiW; omega, by unfold hiW; omega, ⟨x.i + 1⟩, by show x.i + 1 ≤ _; omega, by show _ - (x.i + 1) < _; omega, wrap_succ (by omega), ?_, ?_⟩
    · show _ = hiW (g.l.take (x.i + 1)).sum
      rw [e]; simp
    · show _ = loW (g.l.take (x.i + 1)).sum
      rw [e]; simp
  · have : x.i = g.l.length := by omega
    rw [this, List.take_length]
    exact ⟨rfl, rfl⟩

def vc18 : Prop := vc Try.f18.body Try.f18.results Try.f18.ntmps [(33, some sp33), (31, some sp31), (32, some sp32)] sp18 annWorst
theorem vc18_is : vc18 = (
∀ (g : WorstArg), Holds (InR IntKind.i64 g.b) → Holds (kI.slice.ok g.l) → (∃ (x : At), Holds (x.i ≤ g.l.length) ∧ (0 : Int) = (↑x.i : Int) ∧ hiW g.b = hiW (g.b + lowS (List.take x.i g.l)) ∧ loW g.b = loW (g.b + lowS (List.take x.i g.l)) ∧ hiW g.b = hiW (g.b + highS (List.take x.i g.l)) ∧ loW g.b = loW (g.b + highS (List.take x.i g.l))) ∧ ∀ (x : At), Holds (x.i ≤ g.l.length) → SplitB (decide ((↑x.i : Int) < (↑g.l.length : Int))) (Holds ((0 : Int) ≤ (↑x.i : Int)) ∧ Holds ((↑x.i : Int) < (↑g.l.length : Int)) ∧ Holds ((↑x.i : Int).toNat < g.l.length) ∧ SplitB (decide (g.l.getD (↑x.i : Int).toNat ((0 : Int)) < (0 : Int))) (Holds ((-4611686018427387904 : Int) ≤ hiW (g.b + lowS (List.take x.i g.l))) ∧ Holds (hiW (g.b + lowS (List.take x.i g.l)) ≤ (4611686018427387904 : Int)) ∧ ∃ (y : At), Holds (y.i ≤ g.l.length) ∧ Holds (g.l.length - y.i < g.l.length - x.i) ∧ IntKind.i64.wrap ((↑x.i : Int) + (1 : Int)) = (↑y.i : Int) ∧ hiW (wval (hiW (g.b + lowS (List.take x.i g.l)), loW (g.b + lowS (List.take x.i g.l))) + g.l.getD (↑x.i : Int).toNat ((0 : Int))) = hiW (g.b + lowS (List.take y.i g.l)) ∧ loW (wval (hiW (g.b + lowS (List.take x.i g.l)), loW (g.b + lowS (List.take x.i g.l))) + g.l.getD (↑x.i : Int).toNat ((0 : Int))) = loW (g.b + lowS (List.take y.i g.l)) ∧ hiW (g.b + highS (List.take x.i g.l)) = hiW (g.b + highS (List.take y.i g.l)) ∧ loW (g.b + highS (List.take x.i g.l)) = loW (g.b + highS (List.take y.i g.l))) (Holds ((-4611686018427387904 : Int) ≤ hiW (g.b + highS (List.take x.i g.l))) ∧ Holds (hiW (g.b + highS (List.take x.i g.l)) ≤ (4611686018427387904 : Int)) ∧ ∃ (y : At), Holds (y.i ≤ g.l.length) ∧ Holds (g.l.length - y.i < g.l.length - x.i) ∧ IntKind.i64.wrap ((↑x.i : Int) + (1 : Int)) = (↑y.i : Int) ∧ hiW (g.b + lowS (List.take x.i g.l)) = hiW (g.b + lowS (List.take y.i g.l)) ∧ loW (g.b + lowS (List.take x.i g.l)) = loW (g.b + lowS (List.take y.i g.l)) ∧ hiW (wval (hiW (g.b + highS (List.take x.i g.l)), loW (g.b + highS (List.take x.i g.l))) + g.l.getD (↑x.i : Int).toNat ((0 : Int))) = hiW (g.b + highS (List.take y.i g.l)) ∧ loW (wval (hiW (g.b + highS (List.take x.i g.l)), loW (g.b + highS (List.take x.i g.l))) + g.l.getD (↑x.i : Int).toNat ((0 : Int))) = loW (g.b + highS (List.take y.i g.l)))) (∀ (r : Int × Int), Holds (r = ans (wval (hiW (g.b + lowS (List.take x.i g.l)), loW (g.b + lowS (List.take x.i g.l))))) → ∀ (r_1 : Int × Int), Holds (r_1 = ans (wval (hiW (g.b + highS (List.take x.i g.l)), loW (g.b + highS (List.take x.i g.l))))) → SplitB (r.snd != (0 : Int)) (∃ (r : Int × Int × Int), Holds (r = worstF g.b g.l) ∧ (0 : Int) = r.fst ∧ (0 : Int) = r.snd.fst ∧ (10 : Int) = r.snd.snd) (SplitB (r_1.snd != (0 : Int)) (∃ (r : Int × Int × Int), Holds (r = worstF g.b g.l) ∧ (0 : Int) = r.fst ∧ (0 : Int) = r.snd.fst ∧ (10 : Int) = r.snd.snd) (∃ (r_2 : Int × Int × Int), Holds (r_2 = worstF g.b g.l) ∧ r.fst = r_2.fst ∧ r_1.fst = r_2.snd.fst ∧ (0 : Int) = r_2.snd.snd)))) := by kernel_rfl
theorem ok18 : vc18 := by
  rw [vc18_is]
  intro g h0 h
  have h0 := h0.out
  rw [inR64] at h0
  obtain ⟨hl, he⟩ := h.out
  have hl := max63 hl
  simp only [splitB_iff, holds_iff, decide_eq_true_eq, decide_eq_false_iff_not, wval_wd, forall_eq, exists_eq_left, Int.toNat_natCast]
  refine ⟨⟨⟨0⟩, Nat.zero_le _, rfl, by simp [lowS], by simp [lowS], by simp [highS], by simp [highS]⟩, fun x hx => ⟨fun a => ?_, fun a => ?_⟩⟩
  · have b1 := low_bound _ (take_ok he x.i)
    have b2 := high_bound _ (take_ok he x.i)
    rw [List.length_take] at b1 b2
    have e := take_succ_get (l := g.l) (i := x.i) (by omega) 0
    refine ⟨by omega, a, by omega, fun c => ⟨by unfold hiW; omega, by unfold hiW; omega, ⟨x.i + 1⟩, by show x.i + 1 ≤ _; omega, by show _ - (x.i + 1) < _; omega, wrap_succ (by omega), ?_⟩, fun c => ⟨by unfold hiW; omega, by unfold hiW; omega, ⟨x.i + 1⟩, by show x.i + 1 ≤ _; omega, by show _ - (x.i + 1) < _; omega, wrap_succ (by omega), ?_⟩⟩
    · show _ = hiW (g.b + lowS (g.l.take (x.i + 1))) ∧ _ = loW (g.b + lowS (g.l.take (x.i + 1))) ∧ _ = hiW (g.b + highS (g.l.take (x.i + 1))) ∧ _ = loW (g.b + highS (g.l.take (x.i + 1)))
      rw [e, low_snoc, high_snoc, if_pos c, if_pos c]
      simp only [← Int.add_assoc, Int.add_zero, and_self]
    · show _ = hiW (g.b + lowS (g.l.take (x.i + 1))) ∧ _ = loW (g.b + lowS (g.l.take (x.i + 1))) ∧ _ = hiW (g.b + highS (g.l.take (x.i + 1))) ∧ _ = loW (g.b + highS (g.l.take (x.i + 1)))
      rw [e, low_snoc, high_snoc, if_neg c, if_neg c]
      simp only [← Int.add_assoc, Int.add_zero, and_self]
  · have : x.i = g.l.length := by omega
    rw [this, List.take_length]
    unfold worstF
    by_cases n1 : Num (g.b + lowS g.l) <;> by_cases n2 : Num (g.b + highS g.l) <;> simp [n1, n2, ans_yes, ans_no]

def vc19 : Prop := vc Try.f19.body Try.f19.results Try.f19.ntmps [] sp19 (fun _ => noAnn)
theorem vc19_is : vc19 = (
∀ (g : RgArg), Holds (InR IntKind.i64 g.r.fst) → Holds (InR IntKind.i64 g.r.snd) → SplitB (decide (g.r.fst > g.r.snd)) (∃ (r : Int), Holds (r = checkF g.r) ∧ (11 : Int) = r) (∃ (r : Int), Holds (r = checkF g.r) ∧ (0 : Int) = r)) := by kernel_rfl
theorem ok19 : vc19 := by
  rw [vc19_is]
  intro g h1 h2
  unfold checkF
  simp only [splitB_iff, holds_iff, exists_eq_left, decide_eq_true_eq, decide_eq_false_iff_not]
  exact ⟨fun a => by rw [if_pos a], fun a => by rw [if_neg a]⟩

def vc20 : Prop := vc Try.f20.body Try.f20.results Try.f20.ntmps [] sp20 (fun _ => noAnn)
theorem vc20_is : vc20 = (
∀ (g : HasArg), Holds (InR IntKind.i64 g.r.fst) → Holds (InR IntKind.i64 g.r.snd) → Holds (InR IntKind.i64 g.v) → SplitB (decide (g.r.fst ≤ g.v)) (decide (g.v ≤ g.r.snd) = hasB g.r g.v) (false = hasB g.r g.v)) := by kernel_rfl
theorem ok20 : vc20 := by
  rw [vc20_is]
  intro g h1 h2 h3
  unfold hasB
  simp only [splitB_iff]
  exact ⟨fun a => by simp at a; simp [a], fun a => by simp at a; simp; omega⟩

def vc22 : Prop := vc Try.f22.body Try.f22.results Try.f22.ntmps [(33, some sp33), (34, some sp34), (32, some sp32)] sp22 (fun _ => noAnn)
theorem vc22_is : vc22 = (
∀ (g : Two), Holds (InR IntKind.i64 g.a) → Holds (InR IntKind.i64 g.b) → Holds ((-4611686018427387904 : Int) ≤ hiW g.a) ∧ Holds (hiW g.a ≤ (4611686018427387904 : Int)) ∧ ∀ (r : Int × Int), Holds (r = ans (wval (hiW (wval (hiW g.a, loW g.a) - g.b), loW (wval (hiW g.a, loW g.a) - g.b)))) → ∃ (r_1 : Int × Int), Holds (r_1 = ans (g.a - g.b)) ∧ r.fst = r_1.fst ∧ r.snd = r_1.snd) := by kernel_rfl
theorem ok22 : vc22 := by
  rw [vc22_is]
  intro g h1 h2
  have h1 := h1.out
  have h2 := h2.out
  rw [inR64] at h1 h2
  simp only [holds_iff, wval_wd, forall_eq, exists_eq_left, and_true]
  unfold hiW; omega

def vc17 : Prop := vc Try.f17.body Try.f17.results Try.f17.ntmps [(22, some sp22)] sp17 (fun _ => noAnn)
theorem vc17_is : vc17 = (
∀ (g : Num1), Holds (InR IntKind.i64 g.v) → ∀ (r : Int × Int), Holds (r = ans ((0 : Int) - g.v)) → ∃ (r_1 : Int × Int), Holds (r_1 = ans ((0 : Int) - g.v)) ∧ r.fst = r_1.fst ∧ r.snd = r_1.snd) := by kernel_rfl
theorem ok17 : vc17 := by
  rw [vc17_is]
  intro g h1
  simp only [holds_iff, forall_eq, exists_eq_left, and_true]

def vc21 : Prop := vc Try.f21.body Try.f21.results Try.f21.ntmps [] sp21 (fun _ => noAnn)
theorem vc21_is : vc21 = (
∀ (g : WinArg), Holds (InR IntKind.i64 g.a.fst) → Holds (InR IntKind.i64 g.a.snd) → Holds (InR IntKind.i64 g.b.fst) → Holds (InR IntKind.i64 g.b.snd) → SplitB (decide (g.a.fst > g.a.snd)) (true = withinB g.a g.b) (SplitB (decide (g.b.fst ≤ g.a.fst)) (decide (g.a.snd ≤ g.b.snd) = withinB g.a g.b) (false = withinB g.a g.b))) := by kernel_rfl
theorem ok21 : vc21 := by
  rw [vc21_is]
  intro g _ _ _ _
  unfold withinB
  simp only [splitB_iff]
  refine ⟨fun a => by simp at a; simp [a], fun a => ⟨fun b => ?_, fun b => ?_⟩⟩
  · rw [a, b]; rfl
  · rw [a, b]; rfl

def vc14 : Prop := vc Try.f14.body Try.f14.results Try.f14.ntmps [] sp14 (fun _ => noAnn)
theorem vc14_is : vc14 = (
∀ (g : Num1), Holds (InR IntKind.i64 g.v) → g.v = g.v) := by kernel_rfl
theorem ok14 : vc14 := by rw [vc14_is]; intro g h; rfl

def vc23 : Prop := vc Try.f23.body Try.f23.results Try.f23.ntmps [] sp23 (fun _ => noAnn)
theorem vc23_is : vc23 = (
∀ (g : Two), Holds (InR IntKind.i64 g.a) → Holds (InR IntKind.i64 g.b) → SplitB (decide (g.b > (0 : Int))) (SplitB (decide (g.a > IntKind.i64.wrap ((9223372036854775807 : Int) - g.b))) (∃ (r : Int × Int), Holds (r = ans (g.a + g.b)) ∧ (0 : Int) = r.fst ∧ (10 : Int) = r.snd) (SplitB (decide (g.b < (0 : Int))) (SplitB (decide (g.a < IntKind.i64.wrap ((-9223372036854775808 : Int) - g.b))) (∃ (r : Int × Int), Holds (r = ans (g.a + g.b)) ∧ (0 : Int) = r.fst ∧ (10 : Int) = r.snd) (∃ (r : Int × Int), Holds (r = ans (g.a + g.b)) ∧ IntKind.i64.wrap (g.a + g.b) = r.fst ∧ (0 : Int) = r.snd)) (∃ (r : Int × Int), Holds (r = ans (g.a + g.b)) ∧ IntKind.i64.wrap (g.a + g.b) = r.fst ∧ (0 : Int) = r.snd))) (SplitB (decide (g.b < (0 : Int))) (SplitB (decide (g.a < IntKind.i64.wrap ((-9223372036854775808 : Int) - g.b))) (∃ (r : Int × Int), Holds (r = ans (g.a + g.b)) ∧ (0 : Int) = r.fst ∧ (10 : Int) = r.snd) (∃ (r : Int × Int), Holds (r = ans (g.a + g.b)) ∧ IntKind.i64.wrap (g.a + g.b) = r.fst ∧ (0 : Int) = r.snd)) (∃ (r : Int × Int), Holds (r = ans (g.a + g.b)) ∧ IntKind.i64.wrap (g.a + g.b) = r.fst ∧ (0 : Int) = r.snd))) := by kernel_rfl
theorem ok23 : vc23 := by
  rw [vc23_is]
  intro g h1 h2
  have h1 := h1.out
  have h2 := h2.out
  rw [inR64] at h1 h2
  simp only [splitB_iff, holds_iff, exists_eq_left, decide_eq_true_eq, decide_eq_false_iff_not, beq_iff_eq]
  have no : ¬ Num (g.a + g.b) → ((0 : Int) = (ans (g.a + g.b)).1 ∧ (10 : Int) = (ans (g.a + g.b)).2) := fun h => by rw [ans_no h]; exact ⟨rfl, rfl⟩
  have yes : Num (g.a + g.b) → (IntKind.i64.wrap (g.a + g.b) = (ans (g.a + g.b)).1 ∧ (0 : Int) = (ans (g.a + g.b)).2) := fun h => by rw [ans_yes h, wrap64 h.1 h.2]; exact ⟨rfl, rfl⟩
  refine ⟨fun a => ?_, fun a => ⟨fun b => ?_, fun b => ?_⟩⟩
  · rw [wrap64 (by omega) (by omega)]
    refine ⟨fun b => no (by unfold Num; omega), fun b => ⟨fun c => by omega, fun c => yes (by unfold Num; omega)⟩⟩
  · rw [wrap64 (by omega) (by omega)]
    exact ⟨fun c => no (by unfold Num; omega), fun c => yes (by unfold Num; omega)⟩
  · exact yes (by unfold Num; omega)

def vc24 : Prop := vc Try.f24.body Try.f24.results Try.f24.ntmps [(23, some sp23)] sp24 (fun _ => noAnn)
theorem vc24_is : vc24 = (
∀ (g : Two), Holds (InR IntKind.i64 g.a) → Holds (InR IntKind.i64 g.b) → SplitB (g.b != (-9223372036854775808 : Int)) (∀ (r : Int × Int), Holds (r = ans (g.a + IntKind.i64.wrap ((0 : Int) - g.b))) → ∃ (r_1 : Int × Int), Holds (r_1 = ans (g.a - g.b)) ∧ r.fst = r_1.fst ∧ r.snd = r_1.snd) (SplitB (decide (g.a ≥ (0 : Int))) (∃ (r : Int × Int), Holds (r = ans (g.a - g.b)) ∧ (0 : Int) = r.fst ∧ (10 : Int) = r.snd) (∃ (r : Int × Int), Holds (r = ans (g.a - g.b)) ∧ IntKind.i64.wrap (IntKind.i64.wrap (g.a + (1 : Int)) + (9223372036854775807 : Int)) = r.fst ∧ (0 : Int) = r.snd))) := by kernel_rfl
theorem ok24 : vc24 := by
  rw [vc24_is]
  intro g h1 h2
  have h1 := h1.out
  have h2 := h2.out
  rw [inR64] at h1 h2
  simp only [splitB_iff, holds_iff, exists_eq_left, decide_eq_true_eq, decide_eq_false_iff_not, forall_eq, bne_iff_ne, ne_eq, bne_eq_false_iff_eq]
  refine ⟨fun a => ?_, fun a => ⟨fun b => ?_, fun b => ?_⟩⟩
  · rw [wrap64 (by omega) (by omega)]
    have : g.a + (0 - g.b) = g.a - g.b := by omega
    rw [this]; exact ⟨rfl, rfl⟩
  · rw [ans_no (by unfold Num; omega)]; exact ⟨rfl, rfl⟩
  · rw [ans_yes (by unfold Num; omega), wrap64 (n := g.a + 1) (by omega) (by omega), wrap64 (by omega) (by omega)]
    exact ⟨by show _ = g.a - g.b; omega, rfl⟩

def vc25 : Prop := vc Try.f25.body Try.f25.results Try.f25.ntmps [(24, some sp24)] sp25 (fun _ => noAnn)
theorem vc25_is : vc25 = (
∀ (g : Num1), Holds (InR IntKind.i64 g.v) → ∀ (r : Int × Int), Holds (r = ans ((0 : Int) - g.v)) → ∃ (r_1 : Int × Int), Holds (r_1 = ans ((0 : Int) - g.v)) ∧ r.fst = r_1.fst ∧ r.snd = r_1.snd) := by kernel_rfl
theorem ok25 : vc25 := by
  rw [vc25_is]
  intro g h1
  simp only [holds_iff, forall_eq, exists_eq_left, and_true]

def vc28 : Prop := vc Try.f28.body Try.f28.results Try.f28.ntmps [] sp28 (fun _ => noAnn)
theorem vc28_is : vc28 = (
∀ (g : RgArg), Holds (InR IntKind.i64 g.r.fst) → Holds (InR IntKind.i64 g.r.snd) → SplitB (decide (g.r.fst > g.r.snd)) (∃ (r : Int), Holds (r = checkF g.r) ∧ (11 : Int) = r) (∃ (r : Int), Holds (r = checkF g.r) ∧ (0 : Int) = r)) := by kernel_rfl
theorem ok28 : vc28 := by
  rw [vc28_is]
  intro g h1 h2
  unfold checkF
  simp only [splitB_iff, holds_iff, exists_eq_left, decide_eq_true_eq, decide_eq_false_iff_not]
  exact ⟨fun a => by rw [if_pos a], fun a => by rw [if_neg a]⟩

def vc29 : Prop := vc Try.f29.body Try.f29.results Try.f29.ntmps [] sp29 (fun _ => noAnn)
theorem vc29_is : vc29 = (
∀ (g : HasArg), Holds (InR IntKind.i64 g.r.fst) → Holds (InR IntKind.i64 g.r.snd) → Holds (InR IntKind.i64 g.v) → SplitB (decide (g.r.fst ≤ g.v)) (decide (g.v ≤ g.r.snd) = hasB g.r g.v) (false = hasB g.r g.v)) := by kernel_rfl
theorem ok29 : vc29 := by
  rw [vc29_is]
  intro g h1 h2 h3
  unfold hasB
  simp only [splitB_iff]
  exact ⟨fun a => by simp at a; simp [a], fun a => by simp at a; simp; omega⟩

def vc30 : Prop := vc Try.f30.body Try.f30.results Try.f30.ntmps [] sp30 (fun _ => noAnn)
theorem vc30_is : vc30 = (
∀ (g : WinArg), Holds (InR IntKind.i64 g.a.fst) → Holds (InR IntKind.i64 g.a.snd) → Holds (InR IntKind.i64 g.b.fst) → Holds (InR IntKind.i64 g.b.snd) → SplitB (decide (g.a.fst > g.a.snd)) (true = withinB g.a g.b) (SplitB (decide (g.b.fst ≤ g.a.fst)) (decide (g.a.snd ≤ g.b.snd) = withinB g.a g.b) (false = withinB g.a g.b))) := by kernel_rfl
theorem ok30 : vc30 := by
  rw [vc30_is]
  intro g _ _ _ _
  unfold withinB
  simp only [splitB_iff]
  refine ⟨fun a => by simp at a; simp [a], fun a => ⟨fun b => ?_, fun b => ?_⟩⟩
  · rw [a, b]; rfl
  · rw [a, b]; rfl

def vc40 : Prop := vc Try.f40.body Try.f40.results Try.f40.ntmps [] sp40 ann40
theorem vc40_is : vc40 = (
∀ (g : SgArg), Holds (kI.slice.ok g.l) → Holds (g.l.length ≤ (1000000 : Nat)) → (∃ (x : SgAt), Holds (x.i ≤ g.l.length) ∧ (0 : Int) = (↑x.i : Int) ∧ nilT Int = signF (List.take x.i g.l) g.b) ∧ ∀ (x : SgAt), Holds (x.i ≤ g.l.length) → SplitB (decide ((↑x.i : Int) < (↑g.l.length : Int))) (Holds ((0 : Int) ≤ (↑x.i : Int)) ∧ Holds ((↑x.i : Int) < (↑g.l.length : Int)) ∧ Holds ((↑x.i : Int).toNat < g.l.length) ∧ SplitB (decide (g.l.getD (↑x.i : Int).toNat ((0 : Int)) < (0 : Int)) == g.b) (Holds ((0 : Int) ≤ (↑x.i : Int)) ∧ Holds ((↑x.i : Int) < (↑g.l.length : Int)) ∧ Holds ((↑x.i : Int).toNat < g.l.length) ∧ Holds (((signF (List.take x.i g.l) g.b).length + [g.l.getD (↑x.i : Int).toNat ((0 : Int))].length) * (8 : Nat) ≤ (140737488355328 : Nat)) ∧ ∃ (y : SgAt), Holds (y.i ≤ g.l.length) ∧ Holds (g.l.length - y.i < g.l.length - x.i) ∧ IntKind.i64.wrap ((↑x.i : Int) + (1 : Int)) = (↑y.i : Int) ∧ signF (List.take x.i g.l) g.b ++ [g.l.getD (↑x.i : Int).toNat ((0 : Int))] = signF (List.take y.i g.l) g.b) (∃ (y : SgAt), Holds (y.i ≤ g.l.length) ∧ Holds (g.l.length - y.i < g.l.length - x.i) ∧ IntKind.i64.wrap ((↑x.i : Int) + (1 : Int)) = (↑y.i : Int) ∧ signF (List.take x.i g.l) g.b = signF (List.take y.i g.l) g.b)) (∃ (r : List Int), Holds (r = signF g.l g.b) ∧ signF (List.take x.i g.l) g.b = r)) := by kernel_rfl
theorem signF_snoc (l : List Int) (x : Int) (b : Bool) : signF (l ++ [x]) b = signF l b ++ (if (decide (x < 0) == b) = true then [x] else []) := by
  unfold signF; rw [List.filter_append]; simp only [List.filter_cons, List.filter_nil]
theorem signF_len (l : List Int) (b : Bool) : (signF l b).length ≤ l.length := List.length_filter_le _ _
theorem ok40 : vc40 := by
  rw [vc40_is]
  intro g h1 h2
  have h2 := h2.out
  simp only [splitB_iff, holds_iff, exists_eq_left, decide_eq_true_eq, decide_eq_false_iff_not, Int.toNat_natCast]
  refine ⟨⟨⟨0⟩, Nat.zero_le _, rfl, by simp [signF]⟩, fun x hx => ⟨fun a => ?_, fun a => ?_⟩⟩
  · have e := take_succ_get (l := g.l) (i := x.i) (by omega) 0
    have hs := signF_snoc (g.l.take x.i) (g.l.getD x.i 0) g.b
    rw [← e] at hs
    have hlen := signF_len (g.l.take x.i) g.b
    rw [List.length_take] at hlen
    refine ⟨by omega, a, by omega, fun b => ⟨by omega, a, by omega, ?_, ⟨x.i + 1⟩, by show x.i + 1 ≤ _; omega, by show _ - (x.i + 1) < _; omega, wrap_succ (by omega), ?_⟩, fun b => ⟨⟨x.i + 1⟩, by show x.i + 1 ≤ _; omega, by show _ - (x.i + 1) < _; omega, wrap_succ (by omega), ?_⟩⟩
    · simp only [List.length_cons, List.length_nil]; omega
    · show _ = signF (g.l.take (x.i + 1)) g.b
      rw [hs, if_pos b]
    · show _ = signF (g.l.take (x.i + 1)) g.b
      rw [hs, if_neg (by rw [b]; simp)]; simp
  · rw [List.take_of_length_le (by omega)]

def vc35 : Prop := vc Try.f35.body Try.f35.results Try.f35.ntmps [(40, some sp40), (23, some sp23)] sp35 ann35
theorem vc35_is : vc35 = (
∀ (g : SumArg), Holds (kI.slice.ok g.l) → Holds (g.l.length ≤ (1000000 : Nat)) → Holds (g.l.length ≤ (1000000 : Nat)) ∧ ∀ (r : List Int), Holds (r = signF g.l true) → Holds (g.l.length ≤ (1000000 : Nat)) ∧ ∀ (r_1 : List Int), Holds (r_1 = signF g.l false) → (∃ (x : TwoAt), Holds (Num x.s ∧ x.s + x.a.sum + x.b.sum = g.l.sum ∧ (∀ (v : Int), v ∈ x.a → (-9223372036854775808 : Int) ≤ v ∧ v < (0 : Int)) ∧ ∀ (v : Int), v ∈ x.b → (0 : Int) ≤ v ∧ v ≤ (9223372036854775807 : Int)) ∧ (0 : Int) = x.s ∧ r = x.a ∧ r_1 = x.b) ∧ ∀ (x : TwoAt), Holds (Num x.s ∧ x.s + x.a.sum + x.b.sum = g.l.sum ∧ (∀ (v : Int), v ∈ x.a → (-9223372036854775808 : Int) ≤ v ∧ v < (0 : Int)) ∧ ∀ (v : Int), v ∈ x.b → (0 : Int) ≤ v ∧ v ≤ (9223372036854775807 : Int)) → SplitB (decide ((↑x.a.length : Int) > (0 : Int))) (SplitB (decide ((↑x.a.length : Int) > (0 : Int))) (SplitB (decide (x.s ≥ (0 : Int))) (Holds ((0 : Int) ≤ (0 : Int)) ∧ Holds ((0 : Int) < (↑x.a.length : Int)) ∧ Holds (Int.toNat (0 : Int) < x.a.length) ∧ Holds ((0 : Int) ≤ (1 : Int)) ∧ Holds ((1 : Int) ≤ (↑x.a.length : Int)) ∧ ∀ (r : Int × Int), Holds (r = ans (x.s + x.a.getD (Int.toNat (0 : Int)) ((0 : Int)))) → SplitB (r.snd != (0 : Int)) (∃ (r_2 : Int × Int), Holds (r_2 = ans g.l.sum) ∧ (0 : Int) = r_2.fst ∧ r.snd = r_2.snd) (∃ (y : TwoAt), Holds (Num y.s ∧ y.s + y.a.sum + y.b.sum = g.l.sum ∧ (∀ (v : Int), v ∈ y.a → (-9223372036854775808 : Int) ≤ v ∧ v < (0 : Int)) ∧ ∀ (v : Int), v ∈ y.b → (0 : Int) ≤ v ∧ v ≤ (9223372036854775807 : Int)) ∧ Holds (y.a.length + y.b.length < x.a.length + x.b.length) ∧ r.fst = y.s ∧ List.drop (Int.toNat (1 : Int)) x.a = y.a ∧ x.b = y.b)) (SplitB ((↑x.b.length : Int) == (0 : Int)) (Holds ((0 : Int) ≤ (0 : Int)) ∧ Holds ((0 : Int) < (↑x.a.length : Int)) ∧ Holds (Int.toNat (0 : Int) < x.a.length) ∧ Holds ((0 : Int) ≤ (1 : Int)) ∧ Holds ((1 : Int) ≤ (↑x.a.length : Int)) ∧ ∀ (r : Int × Int), Holds (r = ans (x.s + x.a.getD (Int.toNat (0 : Int)) ((0 : Int)))) → SplitB (r.snd != (0 : Int)) (∃ (r_2 : Int × Int), Holds (r_2 = ans g.l.sum) ∧ (0 : Int) = r_2.fst ∧ r.snd = r_2.snd) (∃ (y : TwoAt), Holds (Num y.s ∧ y.s + y.a.sum + y.b.sum = g.l.sum ∧ (∀ (v : Int), v ∈ y.a → (-9223372036854775808 : Int) ≤ v ∧ v < (0 : Int)) ∧ ∀ (v : Int), v ∈ y.b → (0 : Int) ≤ v ∧ v ≤ (9223372036854775807 : Int)) ∧ Holds (y.a.length + y.b.length < x.a.length + x.b.length) ∧ r.fst = y.s ∧ List.drop (Int.toNat (1 : Int)) x.a = y.a ∧ x.b = y.b)) (Holds ((0 : Int) ≤ (0 : Int)) ∧ Holds ((0 : Int) < (↑x.b.length : Int)) ∧ Holds (Int.toNat (0 : Int) < x.b.length) ∧ Holds ((0 : Int) ≤ (1 : Int)) ∧ Holds ((1 : Int) ≤ (↑x.b.length : Int)) ∧ ∀ (r : Int × Int), Holds (r = ans (x.s + x.b.getD (Int.toNat (0 : Int)) ((0 : Int)))) → SplitB (r.snd != (0 : Int)) (∃ (r_2 : Int × Int), Holds (r_2 = ans g.l.sum) ∧ (0 : Int) = r_2.fst ∧ r.snd = r_2.snd) (∃ (y : TwoAt), Holds (Num y.s ∧ y.s + y.a.sum + y.b.sum = g.l.sum ∧ (∀ (v : Int), v ∈ y.a → (-9223372036854775808 : Int) ≤ v ∧ v < (0 : Int)) ∧ ∀ (v : Int), v ∈ y.b → (0 : Int) ≤ v ∧ v ≤ (9223372036854775807 : Int)) ∧ Holds (y.a.length + y.b.length < x.a.length + x.b.length) ∧ r.fst = y.s ∧ x.a = y.a ∧ List.drop (Int.toNat (1 : Int)) x.b = y.b)))) (Holds ((0 : Int) ≤ (0 : Int)) ∧ Holds ((0 : Int) < (↑x.b.length : Int)) ∧ Holds (Int.toNat (0 : Int) < x.b.length) ∧ Holds ((0 : Int) ≤ (1 : Int)) ∧ Holds ((1 : Int) ≤ (↑x.b.length : Int)) ∧ ∀ (r : Int × Int), Holds (r = ans (x.s + x.b.getD (Int.toNat (0 : Int)) ((0 : Int)))) → SplitB (r.snd != (0 : Int)) (∃ (r_2 : Int × Int), Holds (r_2 = ans g.l.sum) ∧ (0 : Int) = r_2.fst ∧ r.snd = r_2.snd) (∃ (y : TwoAt), Holds (Num y.s ∧ y.s + y.a.sum + y.b.sum = g.l.sum ∧ (∀ (v : Int), v ∈ y.a → (-9223372036854775808 : Int) ≤ v ∧ v < (0 : Int)) ∧ ∀ (v : Int), v ∈ y.b → (0 : Int) ≤ v ∧ v ≤ (9223372036854775807 : Int)) ∧ Holds (y.a.length + y.b.length < x.a.length + x.b.length) ∧ r.fst = y.s ∧ x.a = y.a ∧ List.drop (Int.toNat (1 : Int)) x.b = y.b))) (SplitB (decide ((↑x.b.length : Int) > (0 : Int))) (SplitB (decide ((↑x.a.length : Int) > (0 : Int))) (SplitB (decide (x.s ≥ (0 : Int))) (Holds ((0 : Int) ≤ (0 : Int)) ∧ Holds ((0 : Int) < (↑x.a.length : Int)) ∧ Holds (Int.toNat (0 : Int) < x.a.length) ∧ Holds ((0 : Int) ≤ (1 : Int)) ∧ Holds ((1 : Int) ≤ (↑x.a.length : Int)) ∧ ∀ (r : Int × Int), Holds (r = ans (x.s + x.a.getD (Int.toNat (0 : Int)) ((0 : Int)))) → SplitB (r.snd != (0 : Int)) (∃ (r_2 : Int × Int), Holds (r_2 = ans g.l.sum) ∧ (0 : Int) = r_2.fst ∧ r.snd = r_2.snd) (∃ (y : TwoAt), Holds (Num y.s ∧ y.s + y.a.sum + y.b.sum = g.l.sum ∧ (∀ (v : Int), v ∈ y.a → (-9223372036854775808 : Int) ≤ v ∧ v < (0 : Int)) ∧ ∀ (v : Int), v ∈ y.b → (0 : Int) ≤ v ∧ v ≤ (9223372036854775807 : Int)) ∧ Holds (y.a.length + y.b.length < x.a.length + x.b.length) ∧ r.fst = y.s ∧ List.drop (Int.toNat (1 : Int)) x.a = y.a ∧ x.b = y.b)) (SplitB ((↑x.b.length : Int) == (0 : Int)) (Holds ((0 : Int) ≤ (0 : Int)) ∧ Holds ((0 : Int) < (↑x.a.length : Int)) ∧ Holds (Int.toNat (0 : Int) < x.a.length) ∧ Holds ((0 : Int) ≤ (1 : Int)) ∧ Holds ((1 : Int) ≤ (↑x.a.length : Int)) ∧ ∀ (r : Int × Int), Holds (r = ans (x.s + x.a.getD (Int.toNat (0 : Int)) ((0 : Int)))) → SplitB (r.snd != (0 : Int)) (∃ (r_2 : Int × Int), Holds (r_2 = ans g.l.sum) ∧ (0 : Int) = r_2.fst ∧ r.snd = r_2.snd) (∃ (y : TwoAt), Holds (Num y.s ∧ y.s + y.a.sum + y.b.sum = g.l.sum ∧ (∀ (v : Int), v ∈ y.a → (-9223372036854775808 : Int) ≤ v ∧ v < (0 : Int)) ∧ ∀ (v : Int), v ∈ y.b → (0 : Int) ≤ v ∧ v ≤ (9223372036854775807 : Int)) ∧ Holds (y.a.length + y.b.length < x.a.length + x.b.length) ∧ r.fst = y.s ∧ List.drop (Int.toNat (1 : Int)) x.a = y.a ∧ x.b = y.b)) (Holds ((0 : Int) ≤ (0 : Int)) ∧ Holds ((0 : Int) < (↑x.b.length : Int)) ∧ Holds (Int.toNat (0 : Int) < x.b.length) ∧ Holds ((0 : Int) ≤ (1 : Int)) ∧ Holds ((1 : Int) ≤ (↑x.b.length : Int)) ∧ ∀ (r : Int × Int), Holds (r = ans (x.s + x.b.getD (Int.toNat (0 : Int)) ((0 : Int)))) → SplitB (r.snd != (0 : Int)) (∃ (r_2 : Int × Int), Holds (r_2 = ans g.l.sum) ∧ (0 : Int) = r_2.fst ∧ r.snd = r_2.snd) (∃ (y : TwoAt), Holds (Num y.s ∧ y.s + y.a.sum + y.b.sum = g.l.sum ∧ (∀ (v : Int), v ∈ y.a → (-9223372036854775808 : Int) ≤ v ∧ v < (0 : Int)) ∧ ∀ (v : Int), v ∈ y.b → (0 : Int) ≤ v ∧ v ≤ (9223372036854775807 : Int)) ∧ Holds (y.a.length + y.b.length < x.a.length + x.b.length) ∧ r.fst = y.s ∧ x.a = y.a ∧ List.drop (Int.toNat (1 : Int)) x.b = y.b)))) (Holds ((0 : Int) ≤ (0 : Int)) ∧ Holds ((0 : Int) < (↑x.b.length : Int)) ∧ Holds (Int.toNat (0 : Int) < x.b.length) ∧ Holds ((0 : Int) ≤ (1 : Int)) ∧ Holds ((1 : Int) ≤ (↑x.b.length : Int)) ∧ ∀ (r : Int × Int), Holds (r = ans (x.s + x.b.getD (Int.toNat (0 : Int)) ((0 : Int)))) → SplitB (r.snd != (0 : Int)) (∃ (r_2 : Int × Int), Holds (r_2 = ans g.l.sum) ∧ (0 : Int) = r_2.fst ∧ r.snd = r_2.snd) (∃ (y : TwoAt), Holds (Num y.s ∧ y.s + y.a.sum + y.b.sum = g.l.sum ∧ (∀ (v : Int), v ∈ y.a → (-9223372036854775808 : Int) ≤ v ∧ v < (0 : Int)) ∧ ∀ (v : Int), v ∈ y.b → (0 : Int) ≤ v ∧ v ≤ (9223372036854775807 : Int)) ∧ Holds (y.a.length + y.b.length < x.a.length + x.b.length) ∧ r.fst = y.s ∧ x.a = y.a ∧ List.drop (Int.toNat (1 : Int)) x.b = y.b))) (∃ (r : Int × Int), Holds (r = ans g.l.sum) ∧ x.s = r.fst ∧ (0 : Int) = r.snd))) := by kernel_rfl
theorem sign_sum : ∀ (l : List Int), (signF l true).sum + (signF l false).sum = l.sum
  | [] => by simp [signF]
  | x :: l => by
    have ih := sign_sum l
    unfold signF at *
    rw [List.filter_cons, List.filter_cons]
    by_cases h : x < 0
    · simp [h] at *; omega
    · simp [h] at *; omega
theorem neg_sum : ∀ {l : List Int}, (∀ v ∈ l, -9223372036854775808 ≤ v ∧ v < 0) → l.sum ≤ 0
  | [], _ => by simp
  | x :: l, h => by have := h x (by simp); have := neg_sum (l := l) fun v hv => h v (by simp [hv]); simp; omega
theorem pos_sum : ∀ {l : List Int}, (∀ v ∈ l, 0 ≤ v ∧ v ≤ 9223372036854775807) → 0 ≤ l.sum
  | [], _ => by simp
  | x :: l, h => by have := h x (by simp); have := pos_sum (l := l) fun v hv => h v (by simp [hv]); simp; omega
theorem step_a {x : TwoAt} {t : Int} (h : Num x.s ∧ x.s + x.a.sum + x.b.sum = t ∧ (∀ v ∈ x.a, -9223372036854775808 ≤ v ∧ v < 0) ∧ (∀ v ∈ x.b, 0 ≤ v ∧ v ≤ 9223372036854775807)) (ha : 0 < x.a.length) (hc : 0 ≤ x.s ∨ x.b.length = 0) :
    ((ans (x.s + x.a.getD 0 0)).2 ≠ 0 → ((0 : Int) = (ans t).1 ∧ (ans (x.s + x.a.getD 0 0)).2 = (ans t).2)) ∧ ((ans (x.s + x.a.getD 0 0)).2 = 0 → ∃ y : TwoAt, (Num y.s ∧ y.s + y.a.sum + y.b.sum = t ∧ (∀ v ∈ y.a, -9223372036854775808 ≤ v ∧ v < 0) ∧ (∀ v ∈ y.b, 0 ≤ v ∧ v ≤ 9223372036854775807)) ∧ y.a.length + y.b.length < x.a.length + x.b.length ∧ (ans (x.s + x.a.getD 0 0)).1 = y.s ∧ x.a.drop 1 = y.a ∧ x.b = y.b) := by
  obtain ⟨s, a, b⟩ := x
  obtain ⟨h1, h2, h3, h4⟩ := h
  cases a with
  | nil => simp at ha
  | cons v a =>
    have hv := h3 v (by simp)
    have ha' : ∀ w ∈ a, -9223372036854775808 ≤ w ∧ w < 0 := fun w hw => h3 w (by simp [hw])
    have s1 := neg_sum ha'
    have s2 := pos_sum h4
    simp only [List.sum_cons] at h2
    show ((ans (s + v)).2 ≠ 0 → _ ∧ (ans (s + v)).2 = _) ∧ ((ans (s + v)).2 = 0 → ∃ y : TwoAt, _ ∧ _ ∧ (ans (s + v)).1 = _ ∧ a = _ ∧ _)
    unfold Num at h1
    simp only at h1 hc h2
    by_cases hn : Num (s + v)
    · rw [ans_yes hn]
      exact ⟨fun h => absurd rfl h, fun _ => ⟨⟨s + v, a, b⟩, ⟨hn, by show s + v + a.sum + b.sum = t; omega, ha', h4⟩, by show a.length + b.length < (v :: a).length + b.length; simp, rfl, rfl, rfl⟩⟩
    · rw [ans_no hn]
      refine ⟨fun _ => ?_, fun h => by simp at h⟩
      have hb : b.length = 0 := by
        rcases hc with hc | hc
        · exact absurd (show Num (s + v) by unfold Num; omega) hn
        · exact hc
      have hb0 : b = [] := List.length_eq_zero_iff.1 hb
      subst hb0
      simp only [List.sum_nil] at h2
      rw [ans_no (by unfold Num at hn ⊢; omega)]
      exact ⟨rfl, rfl⟩
theorem step_b {x : TwoAt} {t : Int} (h : Num x.s ∧ x.s + x.a.sum + x.b.sum = t ∧ (∀ v ∈ x.a, -9223372036854775808 ≤ v ∧ v < 0) ∧ (∀ v ∈ x.b, 0 ≤ v ∧ v ≤ 9223372036854775807)) (ha : 0 < x.b.length) (hc : x.s < 0 ∨ x.a.length = 0) :
    ((ans (x.s + x.b.getD 0 0)).2 ≠ 0 → ((0 : Int) = (ans t).1 ∧ (ans (x.s + x.b.getD 0 0)).2 = (ans t).2)) ∧ ((ans (x.s + x.b.getD 0 0)).2 = 0 → ∃ y : TwoAt, (Num y.s ∧ y.s + y.a.sum + y.b.sum = t ∧ (∀ v ∈ y.a, -9223372036854775808 ≤ v ∧ v < 0) ∧ (∀ v ∈ y.b, 0 ≤ v ∧ v ≤ 9223372036854775807)) ∧ y.a.length + y.b.length < x.a.length + x.b.length ∧ (ans (x.s + x.b.getD 0 0)).1 = y.s ∧ x.a = y.a ∧ x.b.drop 1 = y.b) := by
  obtain ⟨s, a, b⟩ := x
  obtain ⟨h1, h2, h3, h4⟩ := h
  cases b with
  | nil => simp at ha
  | cons v b =>
    have hv := h4 v (by simp)
    have hb' : ∀ w ∈ b, 0 ≤ w ∧ w ≤ 9223372036854775807 := fun w hw => h4 w (by simp [hw])
    have s1 := neg_sum h3
    have s2 := pos_sum hb'
    simp only [List.sum_cons] at h2
    show ((ans (s + v)).2 ≠ 0 → _ ∧ (ans (s + v)).2 = _) ∧ ((ans (s + v)).2 = 0 → ∃ y : TwoAt, _ ∧ _ ∧ (ans (s + v)).1 = _ ∧ _ ∧ b = _)
    unfold Num at h1
    simp only at h1 hc h2
    by_cases hn : Num (s + v)
    · rw [ans_yes hn]
      exact ⟨fun h => absurd rfl h, fun _ => ⟨⟨s + v, a, b⟩, ⟨hn, by show s + v + a.sum + b.sum = t; omega, h3, hb'⟩, by show a.length + b.length < a.length + (v :: b).length; simp, rfl, rfl, rfl⟩⟩
    · rw [ans_no hn]
      refine ⟨fun _ => ?_, fun h => by simp at h⟩
      have hb : a.length = 0 := by
        rcases hc with hc | hc
        · exact absurd (show Num (s + v) by unfold Num; omega) hn
        · exact hc
      have hb0 : a = [] := List.length_eq_zero_iff.1 hb
      subst hb0
      simp only [List.sum_nil] at h2
      rw [ans_no (by unfold Num at hn ⊢; omega)]
      exact ⟨rfl, rfl⟩
theorem ok35 : vc35 := by
  rw [vc35_is]
  intro g h1 h2
  have h2 := h2.out
  have z : (0 : Int).toNat = 0 := rfl
  have o : (1 : Int).toNat = 1 := rfl
  simp only [splitB_iff, holds_iff, exists_eq_left, decide_eq_true_eq, decide_eq_false_iff_not, forall_eq, bne_iff_ne, ne_eq, bne_eq_false_iff_eq, z, o, h2, true_and, beq_iff_eq, beq_eq_false_iff_ne]
  refine ⟨⟨⟨0, signF g.l true, signF g.l false⟩, ⟨show Num 0 by decide, ?_, fun v hv => ?_, fun v hv => ?_⟩, rfl, rfl, rfl⟩, fun x hx => ?_⟩
  · show 0 + (signF g.l true).sum + (signF g.l false).sum = _
    have := sign_sum g.l; omega
  · have h := List.mem_filter.1 hv; have h3 := h1.out.2 v h.1; rw [show kI.ok v = InR .i64 v from rfl, inR64] at h3; have h4 : v < 0 := by simpa using h.2
    omega
  · have h := List.mem_filter.1 hv; have h3 := h1.out.2 v h.1; rw [show kI.ok v = InR .i64 v from rfl, inR64] at h3; have h4 : 0 ≤ v := by simpa using h.2
    omega
  · have A := fun ha hc => step_a hx ha hc
    have B := fun ha hc => step_b hx ha hc
    simp only [ne_eq] at A B
    refine ⟨fun a => ⟨fun _ => ⟨fun b => ?_, fun b => ⟨fun c => ?_, fun c => ?_⟩⟩, fun a' => absurd a a'⟩, fun a => ⟨fun b => ⟨fun a' => absurd a' a, fun _ => ?_⟩, fun b => ?_⟩⟩
    · exact ⟨by decide, by omega, by omega, by decide, by omega, A (by omega) (.inl b)⟩
    · exact ⟨by decide, by omega, by omega, by decide, by omega, A (by omega) (.inr (by omega))⟩
    · exact ⟨by decide, by omega, by omega, by decide, by omega, B (by omega) (.inl (by omega))⟩
    · exact ⟨by decide, by omega, by omega, by decide, by omega, B (by omega) (.inr (by omega))⟩
    · obtain ⟨x1, x2, x3, x4⟩ := hx
      have ea : x.a = [] := List.length_eq_zero_iff.1 (by omega)
      have eb : x.b = [] := List.length_eq_zero_iff.1 (by omega)
      rw [ea, eb] at x2
      simp only [List.sum_nil] at x2
      rw [← x2, ans_yes (by simpa using x1)]
      exact ⟨by simp, rfl⟩

def vc37 : Prop := vc Try.f37.body Try.f37.results Try.f37.ntmps [(40, some sp40), (35, some sp35)] sp37 (fun _ => noAnn)
theorem vc37_is : vc37 = (
∀ (g : WorstArg), Holds (InR IntKind.i64 g.b) → Holds (kI.slice.ok g.l) → Holds (g.l.length ≤ (100000 : Nat)) → Holds (g.l.length ≤ (1000000 : Nat)) ∧ ∀ (r : List Int), Holds (r = signF g.l true) → Holds (([g.b].length + r.length) * (8 : Nat) ≤ (140737488355328 : Nat)) ∧ Holds (([g.b] ++ r).length ≤ (1000000 : Nat)) ∧ ∀ (r_1 : Int × Int), Holds (r_1 = ans ([g.b] ++ r).sum) → Holds (g.l.length ≤ (1000000 : Nat)) ∧ ∀ (r : List Int), Holds (r = signF g.l false) → Holds (([g.b].length + r.length) * (8 : Nat) ≤ (140737488355328 : Nat)) ∧ Holds (([g.b] ++ r).length ≤ (1000000 : Nat)) ∧ ∀ (r_2 : Int × Int), Holds (r_2 = ans ([g.b] ++ r).sum) → SplitB (r_1.snd != (0 : Int)) (∃ (r : Int × Int × Int), Holds (r = worstF g.b g.l) ∧ (0 : Int) = r.fst ∧ (0 : Int) = r.snd.fst ∧ (10 : Int) = r.snd.snd) (SplitB (r_2.snd != (0 : Int)) (∃ (r : Int × Int × Int), Holds (r = worstF g.b g.l) ∧ (0 : Int) = r.fst ∧ (0 : Int) = r.snd.fst ∧ (10 : Int) = r.snd.snd) (∃ (r : Int × Int × Int), Holds (r = worstF g.b g.l) ∧ r_1.fst = r.fst ∧ r_2.fst = r.snd.fst ∧ (0 : Int) = r.snd.snd))) := by kernel_rfl
theorem sign_low : ∀ (l : List Int), (signF l true).sum = lowS l
  | [] => by simp [signF, lowS]
  | x :: l => by
    have ih := sign_low l
    unfold signF lowS at *
    rw [List.filter_cons, List.map_cons, List.sum_cons]
    by_cases h : x < 0
    · simp [h] at *; omega
    · simp [h] at *; omega
theorem sign_high : ∀ (l : List Int), (signF l false).sum = highS l
  | [] => by simp [signF, highS]
  | x :: l => by
    have ih := sign_high l
    unfold signF highS at *
    rw [List.filter_cons, List.map_cons, List.sum_cons]
    by_cases h : x < 0
    · simp [h] at *; omega
    · simp [h] at *; omega
theorem ok37 : vc37 := by
  rw [vc37_is]
  intro g h0 h1 h2
  have h2 := h2.out
  have l1 := signF_len g.l true
  have l2 := signF_len g.l false
  simp only [splitB_iff, holds_iff, exists_eq_left, forall_eq, bne_iff_ne, ne_eq, bne_eq_false_iff_eq, List.singleton_append, List.sum_cons, List.length_cons, List.length_nil, sign_low, sign_high]
  refine ⟨by omega, by omega, by omega, by omega, by omega, by omega, ?_⟩
  unfold worstF
  by_cases n1 : Num (g.b + lowS g.l) <;> by_cases n2 : Num (g.b + highS g.l) <;> simp [n1, n2, ans_yes, ans_no]

def vc26 : Prop := vc Try.f26.body Try.f26.results Try.f26.ntmps [] sp26 (fun _ => noAnn)
theorem vc26_is : vc26 = (
∀ (g : SumArg), Holds (kI.slice.ok g.l) → Holds (g.l.length ≤ (2000 : Nat)) → Holds (g.l.length * (8 : Nat) ≤ (140737488355328 : Nat)) ∧ Holds ((g.l.length + [(5921370 : Int)].length) * (8 : Nat) ≤ (140737488355328 : Nat)) ∧ Holds ((0 : Int) ≤ (↑g.l.length : Int)) ∧ Holds ((↑g.l.length : Int) ≤ (↑(g.l ++ [(5921370 : Int)]).length : Int)) ∧ (↑g.l.length : Int).toNat = g.l.length ∧ g.l ++ [(5921370 : Int)] = g.l ++ [mk01]) := by kernel_rfl
theorem ok26 : vc26 := by
  rw [vc26_is]
  intro g h1 h2
  have h2 := h2.out
  simp only [holds_iff, List.length_append, List.length_cons, List.length_nil, Int.toNat_natCast]
  exact ⟨by omega, by omega, by omega, by omega, trivial, trivial⟩

def vc10 : Prop := vc Try.f10.body Try.f10.results Try.f10.ntmps [] sp10 (fun _ => noAnn)
theorem vc10_is : vc10 = (
∀ (g : CutArg), Holds (kI.slice.ok g.l) → Holds (InR IntKind.i64 g.n) → Holds (g.n = (2000 : Int)) → SplitB (decide ((↑g.l.length : Int) > g.n)) (Holds ((0 : Int) ≤ g.n) ∧ Holds (g.n ≤ (↑g.l.length : Int)) ∧ ∃ (r : List Int), Holds (r = List.take (2000 : Nat) g.l) ∧ List.take g.n.toNat g.l = r) (∃ (r : List Int), Holds (r = List.take (2000 : Nat) g.l) ∧ g.l = r)) := by kernel_rfl
theorem ok10 : vc10 := by
  rw [vc10_is]
  intro g h1 h2 h3
  have h3 := h3.out
  simp only [splitB_iff, holds_iff, exists_eq_left, decide_eq_true_eq, decide_eq_false_iff_not, h3]
  refine ⟨fun a => ⟨by omega, by omega, rfl⟩, fun a => ?_⟩
  rw [List.take_of_length_le (by omega)]

def vc36 : Prop := vc Try.f36.body Try.f36.results Try.f36.ntmps [] sp36 ann36
theorem vc36_is : vc36 = (
∀ (g : KeptArg), Holds (kI.slice.ok g.l) → Holds (kI.slice.ok g.xs) → Holds (g.xs = g.l ++ [mk01]) → Holds (g.l.length ≤ (2000 : Nat)) → Holds ((0 : Int) ≤ IntKind.i64.wrap ((↑g.l.length : Int) + (1 : Int))) ∧ Holds (IntKind.i64.wrap ((↑g.l.length : Int) + (1 : Int)) ≤ (↑g.xs.length : Int)) ∧ (∃ (x : KpAt), Holds (x.i ≤ g.l.length) ∧ (0 : Int) = (↑x.i : Int)) ∧ ∀ (x : KpAt), Holds (x.i ≤ g.l.length) → SplitB (decide ((↑x.i : Int) < (↑g.l.length : Int))) (Holds ((0 : Int) ≤ (↑x.i : Int)) ∧ Holds ((↑x.i : Int) < (↑(IntKind.i64.wrap ((↑g.l.length : Int) + (1 : Int))).toNat : Int)) ∧ Holds ((↑x.i : Int).toNat < g.xs.length) ∧ Holds ((0 : Int) ≤ (↑x.i : Int)) ∧ Holds ((↑x.i : Int) < (↑g.l.length : Int)) ∧ Holds ((↑x.i : Int).toNat < g.l.length) ∧ SplitB (g.xs.getD (↑x.i : Int).toNat ((0 : Int)) != g.l.getD (↑x.i : Int).toNat ((0 : Int))) False (∃ (y : KpAt), Holds (y.i ≤ g.l.length) ∧ Holds (g.l.length - y.i < g.l.length - x.i) ∧ IntKind.i64.wrap ((↑x.i : Int) + (1 : Int)) = (↑y.i : Int))) (Holds ((0 : Int) ≤ (↑g.l.length : Int)) ∧ Holds ((↑g.l.length : Int) < (↑(IntKind.i64.wrap ((↑g.l.length : Int) + (1 : Int))).toNat : Int)) ∧ Holds ((↑g.l.length : Int).toNat < g.xs.length) ∧ (g.xs.getD (↑g.l.length : Int).toNat ((0 : Int)) == (5921370 : Int)) = true)) := by kernel_rfl
theorem ok36 : vc36 := by
  rw [vc36_is]
  intro g h1 h2 h3 h4
  obtain ⟨n, l, xs⟩ := g
  have h3 : xs = l ++ [mk01] := h3.out
  have h4 : l.length ≤ 2000 := h4.out
  subst h3
  simp only [splitB_iff, holds_iff, decide_eq_true_eq, decide_eq_false_iff_not, Int.toNat_natCast, wrap_succ (show l.length < 9223372036854775807 by omega), List.length_append, List.length_cons, List.length_nil]
  refine ⟨by omega, by omega, ⟨⟨0⟩, by show 0 ≤ _; omega, rfl⟩, fun x hx => ⟨fun a => ⟨by omega, by omega, by omega, by omega, a, by omega, fun b => ?_, fun b => ⟨⟨x.i + 1⟩, by show x.i + 1 ≤ _; omega, by show _ - (x.i + 1) < _; omega, wrap_succ (by omega)⟩⟩, fun a => ⟨by omega, by omega, by omega, ?_⟩⟩⟩
  · have : (l ++ [mk01]).getD x.i 0 = l.getD x.i 0 := by
      simp only [List.getD]; rw [List.getElem?_append_left (by omega)]
    rw [this] at b; simp at b
  · simp

def vc27 : Prop := vc Try.f27.body Try.f27.results Try.f27.ntmps [(12, some sp12), (18, some sp18), (35, some sp35), (37, some sp37), (14, some sp14), (36, some sp36)] sp27 (fun _ => noAnn)
theorem vc27_is : vc27 = (
∀ (g : ListsArg), Holds (InR IntKind.i64 g.o.fst) → Holds (InR IntKind.i64 g.o.snd.fst) → Holds (InR IntKind.i64 g.o.snd.snd.fst) → Holds (kI.slice.ok g.o.snd.snd.snd.fst) → Holds (InR IntKind.i64 g.o.snd.snd.snd.snd.fst.fst) → Holds (InR IntKind.i64 g.o.snd.snd.snd.snd.fst.snd) → Holds (InR IntKind.i64 g.o.snd.snd.snd.snd.snd.fst) → Holds (InR IntKind.i64 g.o.snd.snd.snd.snd.snd.snd) → Holds (kI.slice.ok g.l) → Holds (kI.slice.ok g.xs) → Holds (g.n = g.l.length ∧ g.xs = g.l ++ [mk01] ∧ g.l.length ≤ (2000 : Nat)) → SplitB (g.o.fst == (4 : Int)) (∀ (r : Int × Int), Holds (r = ans (List.take g.n g.xs).sum) → Holds (g.l.length ≤ (1000000 : Nat)) ∧ ∀ (r_1 : Int × Int), Holds (r_1 = ans g.l.sum) → SplitB (r.fst == r_1.fst) (SplitB (r.snd == r_1.snd) (Holds (g.xs = g.l ++ [mk01]) ∧ Holds (g.l.length ≤ (2000 : Nat)) ∧ True) False) False) (∀ (r : Int × Int × Int), Holds (r = worstF g.o.snd.fst (List.take g.n g.xs)) → Holds (g.l.length ≤ (100000 : Nat)) ∧ ∀ (r_1 : Int × Int × Int), Holds (r_1 = worstF g.o.snd.fst g.l) → SplitB (r.fst == r_1.fst && r.snd.fst == r_1.snd.fst) (SplitB (r.snd.snd == r_1.snd.snd) (Holds (g.xs = g.l ++ [mk01]) ∧ Holds (g.l.length ≤ (2000 : Nat)) ∧ True) False) False)) := by kernel_rfl
theorem ok27 : vc27 := by
  rw [vc27_is]
  intro g _ _ _ _ _ _ _ _ _ _ h
  obtain ⟨o, n, l, xs⟩ := g
  obtain ⟨h1, h2, h3⟩ := h.out
  simp only at h1 h2 h3
  subst h1
  subst h2
  simp only [splitB_iff, holds_iff, forall_eq, List.take_left, beq_iff_eq, beq_self_eq_true, true_and, Bool.and_self]
  exact ⟨fun _ => ⟨by omega, fun _ => ⟨fun _ => ⟨h3, trivial⟩, by simp⟩, by simp⟩, fun _ => ⟨by omega, fun _ => ⟨fun _ => ⟨h3, trivial⟩, by simp⟩, by simp⟩⟩

def vc9 : Prop := vc Try.f9.body Try.f9.results Try.f9.ntmps [(16, some sp16), (12, some sp12), (18, some sp18), (22, some sp22), (17, some sp17), (14, some sp14), (19, some sp19), (20, some sp20), (21, some sp21)] sp9 (fun _ => noAnn)
theorem vc9_is : vc9 = (
∀ (g : Unit) (r : Int × Int), Holds (r = ans ((2 : Int) + (3 : Int))) → ∀ (r_1 : Int × Int), Holds (r_1 = ans ((9223372036854775807 : Int) + (1 : Int))) → ∀ (r_2 : Int × Int), Holds (r_2 = ans [(9223372036854775807 : Int), (1 : Int), (-1 : Int)].sum) → ∀ (r_3 : Int × Int × Int), Holds (r_3 = worstF (5 : Int) [(3 : Int), (-2 : Int)]) → ∀ (r_4 : Int × Int), Holds (r_4 = ans ((-1 : Int) - (-9223372036854775808 : Int))) → ∀ (r_5 : Int × Int), Holds (r_5 = ans ((0 : Int) - (-9223372036854775808 : Int))) → SplitB (r.snd != (0 : Int)) False (SplitB (r_1.snd != (10 : Int)) False (SplitB (r_2.snd != (0 : Int)) False (SplitB (r_3.snd.snd != (0 : Int)) False (SplitB (r_4.snd != (0 : Int)) False (SplitB (r_5.snd != (10 : Int)) False (∀ (r_6 : Int), Holds (r_6 = checkF ((1 : Int), (0 : Int))) → SplitB (r_6 != (11 : Int)) False (SplitB (!hasB (r_3.fst, r_3.snd.fst) (3 : Int)) False (SplitB (withinB (r_3.fst, r_3.snd.fst) ((3 : Int), (7 : Int))) False (SplitB (r.fst == (5 : Int)) (SplitB (r_2.fst == (9223372036854775807 : Int)) (SplitB (r_3.fst == (3 : Int) && r_3.snd.fst == (8 : Int)) ((r_4.fst == (9223372036854775807 : Int)) = true) False) False) False)))))))))) := by kernel_rfl
theorem ok9 : vc9 := by
  rw [vc9_is]
  intro g
  simp only [holds_iff, forall_eq]
  have e1 : ans (2 + 3) = (5, 0) := by decide
  have e2 : ans (9223372036854775807 + 1) = (0, 10) := by decide
  have e3 : ans ([9223372036854775807, 1, -1] : List Int).sum = (9223372036854775807, 0) := by decide
  have e4 : worstF 5 [3, -2] = (3, 8, 0) := by decide
  have e5 : ans (-1 - -9223372036854775808) = (9223372036854775807, 0) := by decide
  have e6 : ans (0 - -9223372036854775808) = (0, 10) := by decide
  have e7 : checkF (1, 0) = 11 := by decide
  have e8 : hasB (3, 8) 3 = true := by decide
  have e9 : withinB (3, 8) (3, 7) = false := by decide
  simp only [e1, e2, e3, e4, e5, e6, e7, e8, e9, splitB_iff]
  simp

def vc11 : Prop := vc Try.f11.body Try.f11.results Try.f11.ntmps [(16, some sp16), (23, some sp23), (14, some sp14), (22, some sp22), (24, some sp24), (17, some sp17), (25, some sp25), (26, some sp26), (27, some sp27), (19, some sp19), (28, some sp28), (20, some sp20), (29, some sp29), (21, some sp21), (30, some sp30)] sp11 ann11
theorem vc11_is : vc11 = (
∀ (g : PlArg), Holds (InR IntKind.i64 g.o.fst) → Holds (InR IntKind.i64 g.o.snd.fst) → Holds (InR IntKind.i64 g.o.snd.snd.fst) → Holds (kI.slice.ok g.o.snd.snd.snd.fst) → Holds (InR IntKind.i64 g.o.snd.snd.snd.snd.fst.fst) → Holds (InR IntKind.i64 g.o.snd.snd.snd.snd.fst.snd) → Holds (InR IntKind.i64 g.o.snd.snd.snd.snd.snd.fst) → Holds (InR IntKind.i64 g.o.snd.snd.snd.snd.snd.snd) → Holds (g.o.snd.snd.snd.fst.length ≤ (2000 : Nat)) → SplitB (g.o.fst == (1 : Int)) (∀ (r : Int × Int), Holds (r = ans (g.o.snd.fst + g.o.snd.snd.fst)) → ∀ (r_1 : Int × Int), Holds (r_1 = ans (g.o.snd.fst + g.o.snd.snd.fst)) → SplitB (r.fst == r_1.fst) ((r.snd == r_1.snd) = true) False) (SplitB (g.o.fst == (2 : Int)) (∀ (r : Int × Int), Holds (r = ans (g.o.snd.fst - g.o.snd.snd.fst)) → ∀ (r_1 : Int × Int), Holds (r_1 = ans (g.o.snd.fst - g.o.snd.snd.fst)) → SplitB (r.fst == r_1.fst) ((r.snd == r_1.snd) = true) False) (SplitB (g.o.fst == (3 : Int)) (∀ (r : Int × Int), Holds (r = ans ((0 : Int) - g.o.snd.fst)) → ∀ (r_1 : Int × Int), Holds (r_1 = ans ((0 : Int) - g.o.snd.fst)) → SplitB (r.fst == r_1.fst) ((r.snd == r_1.snd) = true) False) (SplitB (g.o.fst == (4 : Int)) (Holds (g.o.snd.snd.snd.fst.length ≤ (2000 : Nat)) ∧ Holds (g.o.snd.snd.snd.fst.length = g.o.snd.snd.snd.fst.length ∧ g.o.snd.snd.snd.fst ++ [mk01] = g.o.snd.snd.snd.fst ++ [mk01] ∧ g.o.snd.snd.snd.fst.length ≤ (2000 : Nat)) ∧ (∃ (x : PlAt), Holds (x.i ≤ g.o.snd.snd.snd.fst.length) ∧ (0 : Int) = (↑x.i : Int) ∧ g.o.snd.snd.snd.fst.length = g.o.snd.snd.snd.fst.length ∧ g.o.snd.snd.snd.fst ++ [mk01] = List.map xor3 (List.take x.i g.o.snd.snd.snd.fst) ++ List.drop x.i g.o.snd.snd.snd.fst ++ [mk01] ∧ nilT Int = List.map xor3 (List.take x.i g.o.snd.snd.snd.fst)) ∧ ∀ (x : PlAt), Holds (x.i ≤ g.o.snd.snd.snd.fst.length) → SplitB (decide ((↑x.i : Int) < (↑g.o.snd.snd.snd.fst.length : Int))) (Holds ((0 : Int) ≤ (↑x.i : Int)) ∧ Holds ((↑x.i : Int) < (↑g.o.snd.snd.snd.fst.length : Int)) ∧ Holds ((↑x.i : Int).toNat < (List.map xor3 (List.take x.i g.o.snd.snd.snd.fst) ++ List.drop x.i g.o.snd.snd.snd.fst ++ [mk01]).length) ∧ Holds ((0 : Int) ≤ (↑x.i : Int)) ∧ Holds ((↑x.i : Int) < (↑g.o.snd.snd.snd.fst.length : Int)) ∧ Holds ((↑x.i : Int).toNat < (List.map xor3 (List.take x.i g.o.snd.snd.snd.fst) ++ List.drop x.i g.o.snd.snd.snd.fst ++ [mk01]).length) ∧ Holds ((0 : Int) ≤ (↑x.i : Int)) ∧ Holds ((↑x.i : Int) < (↑g.o.snd.snd.snd.fst.length : Int)) ∧ Holds ((↑x.i : Int).toNat < ((List.map xor3 (List.take x.i g.o.snd.snd.snd.fst) ++ List.drop x.i g.o.snd.snd.snd.fst ++ [mk01]).set (↑x.i : Int).toNat (IntKind.i64.wrap (↑(BitVec.ofInt IntKind.i64.bits ((List.map xor3 (List.take x.i g.o.snd.snd.snd.fst) ++ List.drop x.i g.o.snd.snd.snd.fst ++ [mk01]).getD (↑x.i : Int).toNat ((0 : Int))) ^^^ BitVec.ofInt IntKind.i64.bits (3 : Int)).toNat : Int))).length) ∧ Holds (((List.map xor3 (List.take x.i g.o.snd.snd.snd.fst)).length + [((List.map xor3 (List.take x.i g.o.snd.snd.snd.fst) ++ List.drop x.i g.o.snd.snd.snd.fst ++ [mk01]).set (↑x.i : Int).toNat (IntKind.i64.wrap (↑(BitVec.ofInt IntKind.i64.bits ((List.map xor3 (List.take x.i g.o.snd.snd.snd.fst) ++ List.drop x.i g.o.snd.snd.snd.fst ++ [mk01]).getD (↑x.i : Int).toNat ((0 : Int))) ^^^ BitVec.ofInt IntKind.i64.bits (3 : Int)).toNat : Int))).getD (↑x.i : Int).toNat ((0 : Int))].length) * (8 : Nat) ≤ (140737488355328 : Nat)) ∧ ∃ (y : PlAt), Holds (y.i ≤ g.o.snd.snd.snd.fst.length) ∧ Holds (g.o.snd.snd.snd.fst.length - y.i < g.o.snd.snd.snd.fst.length - x.i) ∧ IntKind.i64.wrap ((↑x.i : Int) + (1 : Int)) = (↑y.i : Int) ∧ g.o.snd.snd.snd.fst.length = g.o.snd.snd.snd.fst.length ∧ (List.map xor3 (List.take x.i g.o.snd.snd.snd.fst) ++ List.drop x.i g.o.snd.snd.snd.fst ++ [mk01]).set (↑x.i : Int).toNat (IntKind.i64.wrap (↑(BitVec.ofInt IntKind.i64.bits ((List.map xor3 (List.take x.i g.o.snd.snd.snd.fst) ++ List.drop x.i g.o.snd.snd.snd.fst ++ [mk01]).getD (↑x.i : Int).toNat ((0 : Int))) ^^^ BitVec.ofInt IntKind.i64.bits (3 : Int)).toNat : Int)) = List.map xor3 (List.take y.i g.o.snd.snd.snd.fst) ++ List.drop y.i g.o.snd.snd.snd.fst ++ [mk01] ∧ List.map xor3 (List.take x.i g.o.snd.snd.snd.fst) ++ [((List.map xor3 (List.take x.i g.o.snd.snd.snd.fst) ++ List.drop x.i g.o.snd.snd.snd.fst ++ [mk01]).set (↑x.i : Int).toNat (IntKind.i64.wrap (↑(BitVec.ofInt IntKind.i64.bits ((List.map xor3 (List.take x.i g.o.snd.snd.snd.fst) ++ List.drop x.i g.o.snd.snd.snd.fst ++ [mk01]).getD (↑x.i : Int).toNat ((0 : Int))) ^^^ BitVec.ofInt IntKind.i64.bits (3 : Int)).toNat : Int))).getD (↑x.i : Int).toNat ((0 : Int))] = List.map xor3 (List.take y.i g.o.snd.snd.snd.fst)) (Holds (g.o.snd.snd.snd.fst.length = (List.map xor3 (List.take x.i g.o.snd.snd.snd.fst)).length ∧ List.map xor3 (List.take x.i g.o.snd.snd.snd.fst) ++ List.drop x.i g.o.snd.snd.snd.fst ++ [mk01] = List.map xor3 (List.take x.i g.o.snd.snd.snd.fst) ++ [mk01] ∧ (List.map xor3 (List.take x.i g.o.snd.snd.snd.fst)).length ≤ (2000 : Nat)) ∧ True)) (SplitB (g.o.fst == (5 : Int)) (Holds (g.o.snd.snd.snd.fst.length ≤ (2000 : Nat)) ∧ Holds (g.o.snd.snd.snd.fst.length = g.o.snd.snd.snd.fst.length ∧ g.o.snd.snd.snd.fst ++ [mk01] = g.o.snd.snd.snd.fst ++ [mk01] ∧ g.o.snd.snd.snd.fst.length ≤ (2000 : Nat)) ∧ (∃ (x : PlAt), Holds (x.i ≤ g.o.snd.snd.snd.fst.length) ∧ (0 : Int) = (↑x.i : Int) ∧ g.o.snd.snd.snd.fst.length = g.o.snd.snd.snd.fst.length ∧ g.o.snd.snd.snd.fst ++ [mk01] = List.map xor3 (List.take x.i g.o.snd.snd.snd.fst) ++ List.drop x.i g.o.snd.snd.snd.fst ++ [mk01] ∧ nilT Int = List.map xor3 (List.take x.i g.o.snd.snd.snd.fst)) ∧ ∀ (x : PlAt), Holds (x.i ≤ g.o.snd.snd.snd.fst.length) → SplitB (decide ((↑x.i : Int) < (↑g.o.snd.snd.snd.fst.length : Int))) (Holds ((0 : Int) ≤ (↑x.i : Int)) ∧ Holds ((↑x.i : Int) < (↑g.o.snd.snd.snd.fst.length : Int)) ∧ Holds ((↑x.i : Int).toNat < (List.map xor3 (List.take x.i g.o.snd.snd.snd.fst) ++ List.drop x.i g.o.snd.snd.snd.fst ++ [mk01]).length) ∧ Holds ((0 : Int) ≤ (↑x.i : Int)) ∧ Holds ((↑x.i : Int) < (↑g.o.snd.snd.snd.fst.length : Int)) ∧ Holds ((↑x.i : Int).toNat < (List.map xor3 (List.take x.i g.o.snd.snd.snd.fst) ++ List.drop x.i g.o.snd.snd.snd.fst ++ [mk01]).length) ∧ Holds ((0 : Int) ≤ (↑x.i : Int)) ∧ Holds ((↑x.i : Int) < (↑g.o.snd.snd.snd.fst.length : Int)) ∧ Holds ((↑x.i : Int).toNat < ((List.map xor3 (List.take x.i g.o.snd.snd.snd.fst) ++ List.drop x.i g.o.snd.snd.snd.fst ++ [mk01]).set (↑x.i : Int).toNat (IntKind.i64.wrap (↑(BitVec.ofInt IntKind.i64.bits ((List.map xor3 (List.take x.i g.o.snd.snd.snd.fst) ++ List.drop x.i g.o.snd.snd.snd.fst ++ [mk01]).getD (↑x.i : Int).toNat ((0 : Int))) ^^^ BitVec.ofInt IntKind.i64.bits (3 : Int)).toNat : Int))).length) ∧ Holds (((List.map xor3 (List.take x.i g.o.snd.snd.snd.fst)).length + [((List.map xor3 (List.take x.i g.o.snd.snd.snd.fst) ++ List.drop x.i g.o.snd.snd.snd.fst ++ [mk01]).set (↑x.i : Int).toNat (IntKind.i64.wrap (↑(BitVec.ofInt IntKind.i64.bits ((List.map xor3 (List.take x.i g.o.snd.snd.snd.fst) ++ List.drop x.i g.o.snd.snd.snd.fst ++ [mk01]).getD (↑x.i : Int).toNat ((0 : Int))) ^^^ BitVec.ofInt IntKind.i64.bits (3 : Int)).toNat : Int))).getD (↑x.i : Int).toNat ((0 : Int))].length) * (8 : Nat) ≤ (140737488355328 : Nat)) ∧ ∃ (y : PlAt), Holds (y.i ≤ g.o.snd.snd.snd.fst.length) ∧ Holds (g.o.snd.snd.snd.fst.length - y.i < g.o.snd.snd.snd.fst.length - x.i) ∧ IntKind.i64.wrap ((↑x.i : Int) + (1 : Int)) = (↑y.i : Int) ∧ g.o.snd.snd.snd.fst.length = g.o.snd.snd.snd.fst.length ∧ (List.map xor3 (List.take x.i g.o.snd.snd.snd.fst) ++ List.drop x.i g.o.snd.snd.snd.fst ++ [mk01]).set (↑x.i : Int).toNat (IntKind.i64.wrap (↑(BitVec.ofInt IntKind.i64.bits ((List.map xor3 (List.take x.i g.o.snd.snd.snd.fst) ++ List.drop x.i g.o.snd.snd.snd.fst ++ [mk01]).getD (↑x.i : Int).toNat ((0 : Int))) ^^^ BitVec.ofInt IntKind.i64.bits (3 : Int)).toNat : Int)) = List.map xor3 (List.take y.i g.o.snd.snd.snd.fst) ++ List.drop y.i g.o.snd.snd.snd.fst ++ [mk01] ∧ List.map xor3 (List.take x.i g.o.snd.snd.snd.fst) ++ [((List.map xor3 (List.take x.i g.o.snd.snd.snd.fst) ++ List.drop x.i g.o.snd.snd.snd.fst ++ [mk01]).set (↑x.i : Int).toNat (IntKind.i64.wrap (↑(BitVec.ofInt IntKind.i64.bits ((List.map xor3 (List.take x.i g.o.snd.snd.snd.fst) ++ List.drop x.i g.o.snd.snd.snd.fst ++ [mk01]).getD (↑x.i : Int).toNat ((0 : Int))) ^^^ BitVec.ofInt IntKind.i64.bits (3 : Int)).toNat : Int))).getD (↑x.i : Int).toNat ((0 : Int))] = List.map xor3 (List.take y.i g.o.snd.snd.snd.fst)) (Holds (g.o.snd.snd.snd.fst.length = (List.map xor3 (List.take x.i g.o.snd.snd.snd.fst)).length ∧ List.map xor3 (List.take x.i g.o.snd.snd.snd.fst) ++ List.drop x.i g.o.snd.snd.snd.fst ++ [mk01] = List.map xor3 (List.take x.i g.o.snd.snd.snd.fst) ++ [mk01] ∧ (List.map xor3 (List.take x.i g.o.snd.snd.snd.fst)).length ≤ (2000 : Nat)) ∧ True)) (SplitB (g.o.fst == (6 : Int)) (∀ (r : Int), Holds (r = checkF g.o.snd.snd.snd.snd.fst) → ∀ (r_1 : Int), Holds (r_1 = checkF g.o.snd.snd.snd.snd.fst) → (r == r_1) = true) (SplitB (g.o.fst == (7 : Int)) ((hasB g.o.snd.snd.snd.snd.fst g.o.snd.fst == hasB g.o.snd.snd.snd.snd.fst g.o.snd.fst) = true) (SplitB (g.o.fst == (8 : Int)) ((withinB g.o.snd.snd.snd.snd.fst g.o.snd.snd.snd.snd.snd == withinB g.o.snd.snd.snd.snd.fst g.o.snd.snd.snd.snd.snd) = true) True)))))))) := by kernel_rfl
theorem xor_at {l : List Int} {i : Nat} (hi : i < l.length) : ((l.take i).map xor3 ++ l.drop i ++ [mk01]).getD i 0 = l.getD i 0 := by
  have e : ((l.take i).map xor3).length = i := by rw [List.length_map, List.length_take]; omega
  simp only [List.getD]
  rw [List.append_assoc, List.getElem?_append_right (by omega), e, Nat.sub_self, List.getElem?_append_left (by rw [List.length_drop]; omega), List.getElem?_drop]
  rfl
theorem xor_set {l : List Int} {i : Nat} (hi : i < l.length) : ((l.take i).map xor3 ++ l.drop i ++ [mk01]).set i (xor3 (l.getD i 0)) = (l.take (i + 1)).map xor3 ++ l.drop (i + 1) ++ [mk01] := by
  have e : ((l.take i).map xor3).length = i := by rw [List.length_map, List.length_take]; omega
  rw [List.append_assoc, List.set_append_right _ _ (by omega), e, Nat.sub_self, take_succ_get hi 0, List.map_append]
  rw [List.drop_eq_getElem_cons hi, List.cons_append]
  simp [List.getD, hi]
theorem xor_next {l : List Int} {i : Nat} (hi : i < l.length) : (l.take i).map xor3 ++ [xor3 (l.getD i 0)] = (l.take (i + 1)).map xor3 := by
  rw [take_succ_get hi 0, List.map_append]; rfl
theorem xor_get {l : List Int} {i : Nat} (hi : i < l.length) : ((l.take (i + 1)).map xor3 ++ l.drop (i + 1) ++ [mk01]).getD i 0 = xor3 (l.getD i 0) := by
  rw [← xor_set hi]
  have e : i < ((l.take i).map xor3 ++ l.drop i ++ [mk01]).length := by simp; omega
  simp only [List.getD, List.getElem?_set_self e]; rfl
theorem ok11 : vc11 := by
  rw [vc11_is]
  intro g _ _ _ _ _ _ _ _ h
  have h := h.out
  have hx : ∀ a : Int, IntKind.i64.wrap ((BitVec.ofInt IntKind.i64.bits a ^^^ BitVec.ofInt IntKind.i64.bits 3).toNat : Int) = xor3 a := fun _ => rfl
  generalize g.o.2.2.2.1 = l at *
  simp only [splitB_iff, holds_iff, forall_eq, decide_eq_true_eq, decide_eq_false_iff_not, Int.toNat_natCast, hx, beq_iff_eq, beq_self_eq_true, true_and, and_true, imp_true_iff, h, beq_eq_false_iff_ne, ne_eq, not_true_eq_false, false_imp_iff]
  have main : ((∃ x : PlAt, x.i ≤ l.length ∧ (0 : Int) = ↑x.i ∧ l ++ [mk01] = List.map xor3 (List.take x.i l) ++ List.drop x.i l ++ [mk01] ∧ nilT Int = List.map xor3 (List.take x.i l)) ∧ ∀ x : PlAt, x.i ≤ l.length → ((x.i : Int) < (l.length : Int) → ((0 : Int) ≤ ↑x.i ∧ (x.i : Int) < (l.length : Int) ∧ x.i < (List.map xor3 (List.take x.i l) ++ List.drop x.i l ++ [mk01]).length ∧ (0 : Int) ≤ ↑x.i ∧ (x.i : Int) < (l.length : Int) ∧ x.i < (List.map xor3 (List.take x.i l) ++ List.drop x.i l ++ [mk01]).length ∧ (0 : Int) ≤ ↑x.i ∧ (x.i : Int) < (l.length : Int) ∧ x.i < ((List.map xor3 (List.take x.i l) ++ List.drop x.i l ++ [mk01]).set x.i (xor3 ((List.map xor3 (List.take x.i l) ++ List.drop x.i l ++ [mk01]).getD x.i 0))).length ∧ ((List.map xor3 (List.take x.i l)).length + [((List.map xor3 (List.take x.i l) ++ List.drop x.i l ++ [mk01]).set x.i (xor3 ((List.map xor3 (List.take x.i l) ++ List.drop x.i l ++ [mk01]).getD x.i 0))).getD x.i 0].length) * 8 ≤ 140737488355328 ∧ ∃ y : PlAt, y.i ≤ l.length ∧ l.length - y.i < l.length - x.i ∧ IntKind.i64.wrap ((x.i : Int) + 1) = ↑y.i ∧ (List.map xor3 (List.take x.i l) ++ List.drop x.i l ++ [mk01]).set x.i (xor3 ((List.map xor3 (List.take x.i l) ++ List.drop x.i l ++ [mk01]).getD x.i 0)) = List.map xor3 (List.take y.i l) ++ List.drop y.i l ++ [mk01] ∧ List.map xor3 (List.take x.i l) ++ [((List.map xor3 (List.take x.i l) ++ List.drop x.i l ++ [mk01]).set x.i (xor3 ((List.map xor3 (List.take x.i l) ++ List.drop x.i l ++ [mk01]).getD x.i 0))).getD x.i 0] = List.map xor3 (List.take y.i l))) ∧ (¬ (x.i : Int) < (l.length : Int) → l.length = (List.map xor3 (List.take x.i l)).length ∧ List.map xor3 (List.take x.i l) ++ List.drop x.i l ++ [mk01] = List.map xor3 (List.take x.i l) ++ [mk01] ∧ (List.map xor3 (List.take x.i l)).length ≤ 2000)) := by
    refine ⟨⟨⟨0⟩, Nat.zero_le _, rfl, by simp, by simp⟩, fun x hx => ⟨fun a => ?_, fun a => ?_⟩⟩
    · have hi : x.i < l.length := by omega
      rw [xor_at hi, xor_set hi, xor_get hi, xor_next hi]
      refine ⟨by omega, a, by simp; omega, by omega, a, by simp; omega, by omega, a, by simp; omega, by simp; omega, ⟨x.i + 1⟩, hi, by show _ - (x.i + 1) < _; omega, wrap_succ (by omega), rfl, rfl⟩
    · have hi : x.i = l.length := by omega
      rw [hi]
      simp; omega
  exact fun _ _ _ => ⟨fun _ => main, fun _ _ => main⟩

def vc4 : Prop := vc Try.f4.body Try.f4.results Try.f4.ntmps [(9, some sp9), (10, some sp10), (11, some sp11)] sp4 ann4
theorem vc4_is : vc4 = (
∀ (g : ExArg), Holds (kOp.slice.ok g.s) → (∃ (x : ExAt), Holds (x.i ≤ g.s.length) ∧ (0 : Int) = (↑x.i : Int)) ∧ ∀ (x : ExAt), Holds (x.i ≤ g.s.length) → SplitB (decide ((↑x.i : Int) < (↑g.s.length : Int))) (SplitB (decide ((↑x.i : Int) < (200 : Int))) (Holds ((0 : Int) ≤ (↑x.i : Int)) ∧ Holds ((↑x.i : Int) < (↑g.s.length : Int)) ∧ Holds ((↑x.i : Int).toNat < g.s.length) ∧ Holds ((2000 : Int) = (2000 : Int)) ∧ ∀ (r : List Int), Holds (r = List.take (2000 : Nat) (g.s.getD (↑x.i : Int).toNat ((0 : Int), (0 : Int), (0 : Int), [], ((0 : Int), (0 : Int)), (0 : Int), (0 : Int))).snd.snd.snd.fst) → Holds (r.length ≤ (2000 : Nat)) ∧ ∃ (y : ExAt), Holds (y.i ≤ g.s.length) ∧ Holds (g.s.length - y.i < g.s.length - x.i) ∧ IntKind.i64.wrap ((↑x.i : Int) + (1 : Int)) = (↑y.i : Int)) (true = true)) (true = true)) := by kernel_rfl
theorem ok4 : vc4 := by
  rw [vc4_is]
  intro g h
  have hl := max63 h.out.1
  simp only [splitB_iff, holds_iff, forall_eq, decide_eq_true_eq, decide_eq_false_iff_not, Int.toNat_natCast, true_and, imp_true_iff, and_true]
  exact ⟨⟨⟨0⟩, Nat.zero_le _, rfl⟩, fun x hx => fun a _ => ⟨by omega, a, by omega, by rw [List.length_take]; omega, ⟨x.i + 1⟩, by show x.i + 1 ≤ _; omega, by show _ - (x.i + 1) < _; omega, wrap_succ (by omega)⟩⟩

end Go.Proofs.Ytfeanjnjcdmhcaa.VC
