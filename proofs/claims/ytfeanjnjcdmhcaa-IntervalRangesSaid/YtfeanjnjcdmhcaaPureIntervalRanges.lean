/- IntervalRanges: Check, Has and Within agree, of all ranges and numbers. No conditions. -/
import Derived.Test.YtfeanjnjcdmhcaaBase
import Derived.Test.YtfeanjnjcdmhcaaQx5
namespace Go.Proofs.Ytfeanjnjcdmhcaa.Pure
set_option linter.unusedSimpArgs false
set_option linter.unusedVariables false
open Go.RowKit Go.Proofs.Ytfeanjnjcdmhcaa.Q Go.Proofs.Ytfeanjnjcdmhcaa.Base

def has (lo hi v : Int) : Bool := decide (lo ≤ v) && decide (v ≤ hi)
def within (a b c d : Int) : Bool := decide (b < a) || (decide (c ≤ a) && decide (b ≤ d))
theorem has_f (lo hi v : Int) : interval_Has.f lo hi v = some (has lo hi v) := by
  unfold interval_Has.f has; split <;> simp [*]
theorem within_f (a b c d : Int) : interval_Within.f a b c d = some (within a b c d) := by
  unfold interval_Within.f within
  by_cases h : a > b
  · have h' : b < a := h
    rw [if_pos h]; simp [h']
  · have h' : ¬ b < a := h
    rw [if_neg h]; split <;> simp [*]
theorem check_f (lo hi : Int) : interval_Check.f lo hi = some (if lo ≤ hi then 0 else 11) := by
  unfold interval_Check.f; split <;> split <;> first | rfl | omega

theorem ranges_j3 (k : Nat) (a b c d : Int) : quotalaw01_IntervalRanges.j3 (k + 1) false a b c d = some true := by
  simp only [quotalaw01_IntervalRanges.j3, within_f]
  have : within a b a b = true := by unfold within; by_cases h : b < a <;> simp [h]
  rw [this]; simp [within]
theorem ranges_j2 (k : Nat) (v a b c d : Int) : quotalaw01_IntervalRanges.j2 (k + 2) v (within a b c d) false a b c d = some true := by
  simp only [quotalaw01_IntervalRanges.j2, has_f]
  rw [if_neg (by decide)]
  by_cases h : within a b c d = true
  · rw [if_pos h]
    simp only [Option.bind_some]
    by_cases h2 : has a b v = true
    · rw [if_pos h2]
      have : has c d v = true := by
        unfold within at h; unfold has at *
        simp at *; omega
      rw [this]; exact ranges_j3 k a b c d
    · rw [if_neg h2]; exact ranges_j3 k a b c d
  · rw [if_neg h]; exact ranges_j3 k a b c d
theorem ranges_j1 (k : Nat) (v a b c d : Int) : quotalaw01_IntervalRanges.j1 (k + 3) v (decide (a ≤ b)) false a b c d = some true := by
  simp only [quotalaw01_IntervalRanges.j1, has_f, within_f]
  rw [if_neg (by decide)]
  simp only [Option.bind_some]
  by_cases h : a ≤ b
  · simp only [h, decide_true, if_true]
    by_cases h1 : has c d a = true
    · rw [if_pos h1]
      have e : within a b c d = has c d b := by
        unfold within; unfold has at *
        simp at h1
        have n1 : ¬ b < a := by omega
        have n2 : c ≤ b := by omega
        simp [n1, n2, h1.1]
      have : (within a b c d != has c d b) = false := by rw [e]; simp
      rw [this]; exact ranges_j2 k v a b c d
    · rw [if_neg h1]
      have e : within a b c d = false := by
        unfold within; unfold has at *
        simp at h1
        have n1 : ¬ b < a := by omega
        simp [n1]; omega
      have : (within a b c d != false) = false := by rw [e]; rfl
      rw [this]; exact ranges_j2 k v a b c d
  · simp only [h, decide_false, Bool.false_eq_true, if_false]
    have e : within a b c d = true := by unfold within; simp; omega
    have : (within a b c d != true) = false := by rw [e]; rfl
    rw [this]; exact ranges_j2 k v a b c d
theorem ranges_j0 (k : Nat) (v a b c d : Int) : quotalaw01_IntervalRanges.j0 (k + 4) v (decide (a ≤ b)) false a b c d = some true := by
  simp only [quotalaw01_IntervalRanges.j0, has_f]
  rw [if_neg (by decide)]
  simp only [Option.bind_some]
  have e1 : has a b a = decide (a ≤ b) := by unfold has; simp
  have e2 : has a b b = decide (a ≤ b) := by unfold has; simp
  have z1 : (has a b a != decide (a ≤ b)) = false := by rw [e1]; simp
  have z2 : (has a b b != decide (a ≤ b)) = false := by rw [e2]; simp
  rw [z1, z2]
  by_cases h : v ≥ a
  · rw [if_pos h]
    have h' : a ≤ v := h
    have : (has a b v != decide (v ≤ b)) = false := by unfold has; simp [h']
    rw [this, if_neg (by decide), if_neg (by decide)]
    exact ranges_j1 k v a b c d
  · rw [if_neg h]
    have h' : ¬ a ≤ v := h
    have : (has a b v != false) = false := by unfold has; simp [h']
    rw [this, if_neg (by decide), if_neg (by decide)]
    exact ranges_j1 k v a b c d
theorem ranges_any (a b c d v : Int) : quotalaw01_IntervalRanges.f 10 a b c d v = some true := by
  unfold quotalaw01_IntervalRanges.f
  rw [awake_ans 10 (by omega)]
  simp only [Option.bind_some, if_true, check_f, quotalaw01_num.f]
  by_cases h : a ≤ b
  · simp only [h, if_true, decide_true]
    rw [if_neg (by decide)]
    have := ranges_j0 6 v a b c d
    simpa [h] using this
  · simp only [h, if_false, decide_false]
    rw [if_neg (by decide), if_neg (by decide)]
    have := ranges_j0 6 v a b c d
    simpa [h] using this
end Go.Proofs.Ytfeanjnjcdmhcaa.Pure
