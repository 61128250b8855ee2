/- What is to be shown of functions, shown. Plain lemmas; no conditions but those that each names. -/
import Derived.Test.YtljimnhijpcjaaaSp
import Derived.KernelRfl
set_option linter.unusedVariables false
set_option linter.unusedSimpArgs false
set_option linter.unusedSectionVars false
namespace Go.Proofs.Ytljimnhijpcjaaa.VC
open Go
set_option maxRecDepth 100000

theorem ans_yes {x : Int} (h : Num x) : ans x = (x, 0) := by unfold ans; rw [if_pos h]
theorem ans_no {x : Int} (h : ¬ Num x) : ans x = (0, 10) := by unfold ans; rw [if_neg h]
theorem wval_wd (n : Int) : wval (hiW n, loW n) = n := by unfold wval hiW loW; simp only; omega
theorem sum_bound : ∀ (l : List Int), (∀ x ∈ l, InR .i64 x) → -9223372036854775808 * (l.length : Int) ≤ l.sum ∧ l.sum ≤ 9223372036854775808 * (l.length : Int)
  | [], _ => by simp
  | x :: l, h => by
    have h1 := sum_bound l (fun y hy => h y (by simp [hy]))
    have h2 := h x (by simp)
    rw [inR64] at h2
    simp only [List.sum_cons, List.length_cons]
    omega
theorem low_bound : ∀ (l : List Int), (∀ x ∈ l, InR .i64 x) → -9223372036854775808 * (l.length : Int) ≤ lowS l ∧ lowS l ≤ 0
  | [], _ => by simp [lowS]
  | x :: l, h => by
    have h1 := low_bound l (fun y hy => h y (by simp [hy]))
    have h2 := h x (by simp)
    rw [inR64] at h2
    have e : lowS (x :: l) = (if x < 0 then x else 0) + lowS l := by simp [lowS]
    rw [e, List.length_cons]
    split <;> omega
theorem high_bound : ∀ (l : List Int), (∀ x ∈ l, InR .i64 x) → 0 ≤ highS l ∧ highS l ≤ 9223372036854775808 * (l.length : Int)
  | [], _ => by simp [highS]
  | x :: l, h => by
    have h1 := high_bound l (fun y hy => h y (by simp [hy]))
    have h2 := h x (by simp)
    rw [inR64] at h2
    have e : highS (x :: l) = (if x < 0 then 0 else x) + highS l := by simp [highS]
    rw [e, List.length_cons]
    split <;> omega
theorem low_snoc (l : List Int) (x : Int) : lowS (l ++ [x]) = lowS l + (if x < 0 then x else 0) := by simp [lowS]
theorem high_snoc (l : List Int) (x : Int) : highS (l ++ [x]) = highS l + (if x < 0 then 0 else x) := by simp [highS]
theorem take_ok {l : List Int} (h : ∀ x ∈ l, InR .i64 x) (i : Nat) : ∀ x ∈ l.take i, InR .i64 x := fun x hx => h x (List.mem_of_mem_take hx)
def vc62 : Prop := vc Try.f62.body Try.f62.results Try.f62.ntmps [] sp62 (fun _ => noAnn)
theorem vc62_is : vc62 = (
∀ (g : Num1), Holds (InR IntKind.i64 g.v) → Holds ((0 : Int) ≤ (63 : Int)) ∧ shrI IntKind.i64 g.v (63 : Int) = hiW g.v ∧ (bif decide (IntKind.i64 = IntKind.u64) then g.v else IntKind.u64.wrap g.v) = loW g.v) := by kernel_rfl
theorem ok62 : vc62 := by
  rw [vc62_is]
  intro g h
  have h := h.out
  rw [inR64] at h
  refine ⟨⟨by decide⟩, ?_, ?_⟩
  · rw [shr63]; unfold hiW; omega
  · show IntKind.u64.wrap g.v = _
    rw [u64_wrap]; rfl

def vc64 : Prop := vc Try.f64.body Try.f64.results Try.f64.ntmps [] sp64 (fun _ => noAnn)
theorem vc64_is : vc64 = (
∀ (g : W1), Holds (InR IntKind.i64 g.w.fst) → Holds (InR IntKind.u64 g.w.snd) → Holds ((0 : Int) ≤ (63 : Int)) ∧ SplitB (g.w.fst != shrI IntKind.i64 (bif decide (IntKind.u64 = IntKind.i64) then g.w.snd else IntKind.i64.wrap g.w.snd) (63 : Int)) (∃ (r : Int × Int), Holds (r = ans (wval g.w)) ∧ (0 : Int) = r.fst ∧ (10 : Int) = r.snd) (∃ (r : Int × Int), Holds (r = ans (wval g.w)) ∧ (bif decide (IntKind.u64 = IntKind.i64) then g.w.snd else IntKind.i64.wrap g.w.snd) = r.fst ∧ (0 : Int) = r.snd)) := by kernel_rfl
theorem ok64 : vc64 := by
  rw [vc64_is]
  intro g h1 h2
  have h1 := h1.out
  have h2 := h2.out
  rw [inR64] at h1
  rw [inU64] at h2
  have e0 : (bif decide (IntKind.u64 = IntKind.i64) then g.w.2 else IntKind.i64.wrap g.w.2) = IntKind.i64.wrap g.w.2 := rfl
  rw [e0, shr63, i64_wrap]
  simp only [splitB_iff, holds_iff, exists_eq_left, bne_iff_ne, ne_eq, bne_eq_false_iff_eq]
  refine ⟨by decide, fun a => ?_, fun a => ?_⟩
  · rw [ans_no (by unfold Num wval; omega)]; exact ⟨rfl, rfl⟩
  · rw [ans_yes (by unfold Num wval; omega)]; refine ⟨?_, rfl⟩; unfold wval; simp only; omega

def vc52 : Prop := vc Try.f52.body Try.f52.results Try.f52.ntmps [(62, some sp62), (63, some sp63), (64, some sp64)] sp52 (fun _ => noAnn)
theorem vc52_is : vc52 = (
∀ (g : Two), Holds (InR IntKind.i64 g.a) → Holds (InR IntKind.i64 g.b) → Holds ((-4611686018427387904 : Int) ≤ hiW g.a) ∧ Holds (hiW g.a ≤ (4611686018427387904 : Int)) ∧ ∀ (r : Int × Int), Holds (r = ans (wval (hiW (wval (hiW g.a, loW g.a) + g.b), loW (wval (hiW g.a, loW g.a) + g.b)))) → ∃ (r_1 : Int × Int), Holds (r_1 = ans (g.a + g.b)) ∧ r.fst = r_1.fst ∧ r.snd = r_1.snd) := by kernel_rfl
theorem ok52 : vc52 := by
  rw [vc52_is]
  intro g h1 h2
  have h1 := h1.out
  have h2 := h2.out
  rw [inR64] at h1 h2
  simp only [holds_iff, wval_wd, forall_eq, exists_eq_left, and_true]
  unfold hiW; omega

def vc51 : Prop := vc Try.f51.body Try.f51.results Try.f51.ntmps [(63, some sp63), (64, some sp64)] sp51 annSum
theorem vc51_is : vc51 = (
∀ (g : SumArg), Holds (kI.slice.ok g.l) → (∃ (x : At), Holds (x.i ≤ g.l.length) ∧ (0 : Int) = (↑x.i : Int) ∧ (0 : Int) = hiW (List.take x.i g.l).sum ∧ (0 : Int) = loW (List.take x.i g.l).sum) ∧ ∀ (x : At), Holds (x.i ≤ g.l.length) → SplitB (decide ((↑x.i : Int) < (↑g.l.length : Int))) (Holds ((0 : Int) ≤ (↑x.i : Int)) ∧ Holds ((↑x.i : Int) < (↑g.l.length : Int)) ∧ Holds ((↑x.i : Int).toNat < g.l.length) ∧ Holds ((-4611686018427387904 : Int) ≤ hiW (List.take x.i g.l).sum) ∧ Holds (hiW (List.take x.i g.l).sum ≤ (4611686018427387904 : Int)) ∧ ∃ (y : At), Holds (y.i ≤ g.l.length) ∧ Holds (g.l.length - y.i < g.l.length - x.i) ∧ IntKind.i64.wrap ((↑x.i : Int) + (1 : Int)) = (↑y.i : Int) ∧ hiW (wval (hiW (List.take x.i g.l).sum, loW (List.take x.i g.l).sum) + g.l.getD (↑x.i : Int).toNat ((0 : Int))) = hiW (List.take y.i g.l).sum ∧ loW (wval (hiW (List.take x.i g.l).sum, loW (List.take x.i g.l).sum) + g.l.getD (↑x.i : Int).toNat ((0 : Int))) = loW (List.take y.i g.l).sum) (∀ (r : Int × Int), Holds (r = ans (wval (hiW (List.take x.i g.l).sum, loW (List.take x.i g.l).sum))) → ∃ (r_1 : Int × Int), Holds (r_1 = ans g.l.sum) ∧ r.fst = r_1.fst ∧ r.snd = r_1.snd)) := by kernel_rfl
theorem ok51 : vc51 := by
  rw [vc51_is]
  intro g h
  obtain ⟨hl, he⟩ := h.out
  have hl := max63 hl
  simp only [splitB_iff, holds_iff, decide_eq_true_eq, decide_eq_false_iff_not, wval_wd, forall_eq, exists_eq_left, Int.toNat_natCast]
  refine ⟨⟨⟨0⟩, Nat.zero_le _, rfl, by simp [hiW], by simp [loW]⟩, fun x hx => ⟨fun a => ?_, fun a => ?_⟩⟩
  · have b := sum_bound _ (take_ok he x.i)
    rw [List.length_take] at b
    have e := take_succ_get (l := g.l) (i := x.i) (by omega) 0
    refine ⟨by omega, a, by omega, by unfold hiW; omega, by unfold hiW; omega, ⟨x.i + 1⟩, by show x.i + 1 ≤ _; omega, by show _ - (x.i + 1) < _; omega, wrap_succ (by omega), ?_, ?_⟩
    · show _ = hiW (g.l.take (x.i + 1)).sum
      rw [e]; simp
    · show _ = loW (g.l.take (x.i + 1)).sum
      rw [e]; simp
  · have : x.i = g.l.length := by omega
    rw [this, List.take_length]
    exact ⟨rfl, rfl⟩

def vc49 : Prop := vc Try.f49.body Try.f49.results Try.f49.ntmps [(62, some sp62), (63, some sp63), (64, some sp64)] sp49 annWorst
theorem vc49_is : vc49 = (
∀ (g : WorstArg), Holds (InR IntKind.i64 g.b) → Holds (kI.slice.ok g.l) → (∃ (x : At), Holds (x.i ≤ g.l.length) ∧ (0 : Int) = (↑x.i : Int) ∧ hiW g.b = hiW (g.b + lowS (List.take x.i g.l)) ∧ loW g.b = loW (g.b + lowS (List.take x.i g.l)) ∧ hiW g.b = hiW (g.b + highS (List.take x.i g.l)) ∧ loW g.b = loW (g.b + highS (List.take x.i g.l))) ∧ ∀ (x : At), Holds (x.i ≤ g.l.length) → SplitB (decide ((↑x.i : Int) < (↑g.l.length : Int))) (Holds ((0 : Int) ≤ (↑x.i : Int)) ∧ Holds ((↑x.i : Int) < (↑g.l.length : Int)) ∧ Holds ((↑x.i : Int).toNat < g.l.length) ∧ SplitB (decide (g.l.getD (↑x.i : Int).toNat ((0 : Int)) < (0 : Int))) (Holds ((-4611686018427387904 : Int) ≤ hiW (g.b + lowS (List.take x.i g.l))) ∧ Holds (hiW (g.b + lowS (List.take x.i g.l)) ≤ (4611686018427387904 : Int)) ∧ ∃ (y : At), Holds (y.i ≤ g.l.length) ∧ Holds (g.l.length - y.i < g.l.length - x.i) ∧ IntKind.i64.wrap ((↑x.i : Int) + (1 : Int)) = (↑y.i : Int) ∧ hiW (wval (hiW (g.b + lowS (List.take x.i g.l)), loW (g.b + lowS (List.take x.i g.l))) + g.l.getD (↑x.i : Int).toNat ((0 : Int))) = hiW (g.b + lowS (List.take y.i g.l)) ∧ loW (wval (hiW (g.b + lowS (List.take x.i g.l)), loW (g.b + lowS (List.take x.i g.l))) + g.l.getD (↑x.i : Int).toNat ((0 : Int))) = loW (g.b + lowS (List.take y.i g.l)) ∧ hiW (g.b + highS (List.take x.i g.l)) = hiW (g.b + highS (List.take y.i g.l)) ∧ loW (g.b + highS (List.take x.i g.l)) = loW (g.b + highS (List.take y.i g.l))) (Holds ((-4611686018427387904 : Int) ≤ hiW (g.b + highS (List.take x.i g.l))) ∧ Holds (hiW (g.b + highS (List.take x.i g.l)) ≤ (4611686018427387904 : Int)) ∧ ∃ (y : At), Holds (y.i ≤ g.l.length) ∧ Holds (g.l.length - y.i < g.l.length - x.i) ∧ IntKind.i64.wrap ((↑x.i : Int) + (1 : Int)) = (↑y.i : Int) ∧ hiW (g.b + lowS (List.take x.i g.l)) = hiW (g.b + lowS (List.take y.i g.l)) ∧ loW (g.b + lowS (List.take x.i g.l)) = loW (g.b + lowS (List.take y.i g.l)) ∧ hiW (wval (hiW (g.b + highS (List.take x.i g.l)), loW (g.b + highS (List.take x.i g.l))) + g.l.getD (↑x.i : Int).toNat ((0 : Int))) = hiW (g.b + highS (List.take y.i g.l)) ∧ loW (wval (hiW (g.b + highS (List.take x.i g.l)), loW (g.b + highS (List.take x.i g.l))) + g.l.getD (↑x.i : Int).toNat ((0 : Int))) = loW (g.b + highS (List.take y.i g.l)))) (∀ (r : Int × Int), Holds (r = ans (wval (hiW (g.b + lowS (List.take x.i g.l)), loW (g.b + lowS (List.take x.i g.l))))) → ∀ (r_1 : Int × Int), Holds (r_1 = ans (wval (hiW (g.b + highS (List.take x.i g.l)), loW (g.b + highS (List.take x.i g.l))))) → SplitB (r.snd != (0 : Int)) (∃ (r : Int × Int × Int), Holds (r = worstF g.b g.l) ∧ (0 : Int) = r.fst ∧ (0 : Int) = r.snd.fst ∧ (10 : Int) = r.snd.snd) (SplitB (r_1.snd != (0 : Int)) (∃ (r : Int × Int × Int), Holds (r = worstF g.b g.l) ∧ (0 : Int) = r.fst ∧ (0 : Int) = r.snd.fst ∧ (10 : Int) = r.snd.snd) (∃ (r_2 : Int × Int × Int), Holds (r_2 = worstF g.b g.l) ∧ r.fst = r_2.fst ∧ r_1.fst = r_2.snd.fst ∧ (0 : Int) = r_2.snd.snd)))) := by kernel_rfl
theorem ok49 : vc49 := by
  rw [vc49_is]
  intro g h0 h
  have h0 := h0.out
  rw [inR64] at h0
  obtain ⟨hl, he⟩ := h.out
  have hl := max63 hl
  simp only [splitB_iff, holds_iff, decide_eq_true_eq, decide_eq_false_iff_not, wval_wd, forall_eq, exists_eq_left, Int.toNat_natCast]
  refine ⟨⟨⟨0⟩, Nat.zero_le _, rfl, by simp [lowS], by simp [lowS], by simp [highS], by simp [highS]⟩, fun x hx => ⟨fun a => ?_, fun a => ?_⟩⟩
  · have b1 := low_bound _ (take_ok he x.i)
    have b2 := high_bound _ (take_ok he x.i)
    rw [List.length_take] at b1 b2
    have e := take_succ_get (l := g.l) (i := x.i) (by omega) 0
    refine ⟨by omega, a, by omega, fun c => ⟨by unfold hiW; omega, by unfold hiW; omega, ⟨x.i + 1⟩, by show x.i + 1 ≤ _; omega, by show _ - (x.i + 1) < _; omega, wrap_succ (by omega), ?_⟩, fun c => ⟨by unfold hiW; omega, by unfold hiW; omega, ⟨x.i + 1⟩, by show x.i + 1 ≤ _; omega, by show _ - (x.i + 1) < _; omega, wrap_succ (by omega), ?_⟩⟩
    · show _ = hiW (g.b + lowS (g.l.take (x.i + 1))) ∧ _ = loW (g.b + lowS (g.l.take (x.i + 1))) ∧ _ = hiW (g.b + highS (g.l.take (x.i + 1))) ∧ _ = loW (g.b + highS (g.l.take (x.i + 1)))
      rw [e, low_snoc, high_snoc, if_pos c, if_pos c]
      simp only [← Int.add_assoc, Int.add_zero, and_self]
    · show _ = hiW (g.b + lowS (g.l.take (x.i + 1))) ∧ _ = loW (g.b + lowS (g.l.take (x.i + 1))) ∧ _ = hiW (g.b + highS (g.l.take (x.i + 1))) ∧ _ = loW (g.b + highS (g.l.take (x.i + 1)))
      rw [e, low_snoc, high_snoc, if_neg c, if_neg c]
      simp only [← Int.add_assoc, Int.add_zero, and_self]
  · have : x.i = g.l.length := by omega
    rw [this, List.take_length]
    unfold worstF
    by_cases n1 : Num (g.b + lowS g.l) <;> by_cases n2 : Num (g.b + highS g.l) <;> simp [n1, n2, ans_yes, ans_no]

def vc36 : Prop := vc Try.f36.body Try.f36.results Try.f36.ntmps [] sp36 (fun _ => noAnn)
theorem vc36_is : vc36 = (
∀ (g : RgArg), Holds (InR IntKind.i64 g.r.fst) → Holds (InR IntKind.i64 g.r.snd) → SplitB (decide (g.r.fst > g.r.snd)) (∃ (r : Int), Holds (r = checkF g.r) ∧ (11 : Int) = r) (∃ (r : Int), Holds (r = checkF g.r) ∧ (0 : Int) = r)) := by kernel_rfl
theorem ok36 : vc36 := by
  rw [vc36_is]
  intro g h1 h2
  unfold checkF
  simp only [splitB_iff, holds_iff, exists_eq_left, decide_eq_true_eq, decide_eq_false_iff_not]
  exact ⟨fun a => by rw [if_pos a], fun a => by rw [if_neg a]⟩

def vc37 : Prop := vc Try.f37.body Try.f37.results Try.f37.ntmps [] sp37 (fun _ => noAnn)
theorem vc37_is : vc37 = (
∀ (g : HasArg), Holds (InR IntKind.i64 g.r.fst) → Holds (InR IntKind.i64 g.r.snd) → Holds (InR IntKind.i64 g.v) → SplitB (decide (g.r.fst ≤ g.v)) (decide (g.v ≤ g.r.snd) = hasB g.r g.v) (false = hasB g.r g.v)) := by kernel_rfl
theorem ok37 : vc37 := by
  rw [vc37_is]
  intro g h1 h2 h3
  unfold hasB
  simp only [splitB_iff]
  exact ⟨fun a => by simp at a; simp [a], fun a => by simp at a; simp; omega⟩

end Go.Proofs.Ytljimnhijpcjaaa.VC
