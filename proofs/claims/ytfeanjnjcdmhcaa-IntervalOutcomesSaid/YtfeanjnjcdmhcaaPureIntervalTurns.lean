/- IntervalTurns: there and back, for all pairs of numbers of 64 bits. No conditions. -/
import Derived.Test.YtfeanjnjcdmhcaaBase
namespace Go.Proofs.Ytfeanjnjcdmhcaa.Pure
set_option linter.unusedSimpArgs false
set_option linter.unusedVariables false
open Go.RowKit Go.Proofs.Ytfeanjnjcdmhcaa.Q Go.Proofs.Ytfeanjnjcdmhcaa.Base

theorem ans_yes {x : Int} (h : Num x) : ans x = (x, 0) := by unfold ans; rw [if_pos h]
theorem ans_no {x : Int} (h : ¬ Num x) : ans x = (0, 10) := by unfold ans; rw [if_neg h]

theorem turns_j2 (k : Nat) (a : Int) (ha : Num a) : quotalaw01_IntervalTurns.j2 (k + 1) a = some true := by
  simp only [quotalaw01_IntervalTurns.j2, quotalaw01_num.f]
  rw [neg_ans a ha]
  simp only [Option.bind_some]
  by_cases h : Num (-a)
  · rw [ans_yes h]
    simp only [if_true]
    rw [neg_ans _ h]
    simp only [Option.bind_some, Int.neg_neg]
    rw [ans_yes ha]
    simp only [if_true]
    have : a ≠ -9223372036854775808 := by unfold Num at h; omega
    simp [this]
  · rw [ans_no h]
    simp
    unfold Num at h ha; omega

theorem turns_j1 (k : Nat) (a b : Int) (ha : Num a) (hb : Num b) : quotalaw01_IntervalTurns.j1 (k + 2) a b = some true := by
  simp only [quotalaw01_IntervalTurns.j1, quotalaw01_num.f]
  rw [sub_ans a b ha hb]
  simp only [Option.bind_some]
  by_cases h : Num (a - b)
  · rw [ans_yes h]
    simp only [if_true]
    rw [add_ans _ _ h hb]
    simp only [Option.bind_some]
    rw [show a - b + b = a from by omega, ans_yes ha]
    simp only [if_true]
    exact turns_j2 k a ha
  · rw [ans_no h]
    simp only [Option.bind_some, if_true]
    rw [if_neg (by decide), if_neg]
    · exact turns_j2 k a ha
    · unfold Num at h ha hb
      by_cases h1 : a < 0 <;> by_cases h2 : b < 0 <;> simp [h1, h2] <;> omega

theorem IntervalTurns : quotalaw01_IntervalTurns.Pure := by
  intro a b ha hb
  have ha := num_wf ha
  have hb := num_wf hb
  refine ⟨10, ?_⟩
  unfold quotalaw01_IntervalTurns.f
  rw [awake_ans 10 (by omega)]
  simp only [Option.bind_some, if_true]
  rw [add_ans a b ha hb, add_ans b a hb ha, show b + a = a + b from by omega]
  simp only [Option.bind_some, if_true, bne_self_eq_false]
  simp only [quotalaw01_IntervalTurns.j0, quotalaw01_num.f, Option.bind_some, Bool.false_eq_true, if_false]
  by_cases h : Num (a + b)
  · rw [ans_yes h]
    simp only [if_true]
    rw [sub_ans _ b h hb, sub_ans _ a h ha]
    simp only [Option.bind_some]
    rw [show a + b - b = a from by omega, show a + b - a = b from by omega, ans_yes ha, ans_yes hb]
    simp only [if_true]
    exact turns_j1 7 a b ha hb
  · rw [ans_no h]
    simp only [if_true]
    rw [if_neg (by decide), if_neg]
    · exact turns_j1 7 a b ha hb
    · unfold Num at h ha hb
      by_cases h1 : a < 0 <;> by_cases h2 : b < 0 <;> simp [h1, h2] <;> omega
end Go.Proofs.Ytfeanjnjcdmhcaa.Pure
