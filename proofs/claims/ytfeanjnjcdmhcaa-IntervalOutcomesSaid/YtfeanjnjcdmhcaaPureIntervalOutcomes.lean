/- IntervalOutcomes: every outcome lies in the worst case, whose ends are outcomes; of all bases, nets (the first 60) and choices. No conditions. -/
import Derived.Test.YtfeanjnjcdmhcaaPureIntervalSums
import Derived.Test.YtfeanjnjcdmhcaaQx7
namespace Go.Proofs.Ytfeanjnjcdmhcaa.Pure
set_option linter.unusedSimpArgs false
set_option linter.unusedVariables false
open Go.RowKit Go.Proofs.Ytfeanjnjcdmhcaa.Q Go.Proofs.Ytfeanjnjcdmhcaa.Base Go.Proofs.YtfeanjnjcdmhcaaW.PrintWords

theorem low_append (a b : List Int) : low (a ++ b) = low a + low b := by simp [low]
theorem high_append (a b : List Int) : high (a ++ b) = high a + high b := by simp [high]
theorem low_reverse (l : List Int) : low l.reverse = low l := by unfold low; rw [List.map_reverse, sum_reverse]
theorem high_reverse (l : List Int) : high l.reverse = high l := by unfold high; rw [List.map_reverse, sum_reverse]
theorem low_le (l : List Int) : low l ≤ 0 := by
  induction l with
  | nil => simp [low]
  | cons a l ih => rw [low_cons]; split <;> omega
theorem high_ge (l : List Int) : 0 ≤ high l := by
  induction l with
  | nil => simp [high]
  | cons a l ih => rw [high_cons]; split <;> omega
theorem low_one (v : Int) : low [v] = if v < 0 then v else 0 := by rw [low_cons]; simp [low]
theorem high_one (v : Int) : high [v] = if v < 0 then 0 else v := by rw [high_cons]; simp [high]

theorem worst_yes {a b : Int} (h1 : Num a) (h2 : Num b) : worstA a b = (a, b, 0) := by unfold worstA; rw [if_pos ⟨h1, h2⟩]
theorem worst_no {a b : Int} (h : ¬ (Num a ∧ Num b)) : worstA a b = (0, 0, 10) := by unfold worstA; rw [if_neg h]
section
variable (b : Int) (l : List Int) (hb : Num b) (hl : Nums l) (hn : l.length ≤ 60)
include hb hl hn

/-- One choice: the list that is gathered, from place i on. -/
theorem out_l2 (w t bits : Int) (d : Nat) : ∀ (k i : Nat) (acc : List Int), i ≤ l.length → l.length - i = d → 100 + d < k → Nums acc → acc.length ≤ i + 1 →
    b + low (l.take i) ≤ acc.sum → acc.sum ≤ b + high (l.take i) → Num (b + low l) → Num (b + high l) →
    ∃ k', k ≤ k' + d + 1 ∧ k' ≤ k ∧ quotalaw01_IntervalOutcomes.l2 k b l w t bits acc (i : Int) (b + low l) (b + high l) = quotalaw01_IntervalOutcomes.j6 k' b l w t false (b + low l) (b + high l) := by
  have _ := hb
  induction d with
  | zero =>
    intro k i acc h1 hd hk hacc hlen h2 h3 h4 h5
    obtain ⟨k, rfl⟩ : ∃ m, k = m + 1 := ⟨k - 1, by omega⟩
    have : i = l.length := by omega
    subst this
    rw [List.take_length] at h2 h3
    refine ⟨k, by omega, by omega, ?_⟩
    simp only [quotalaw01_IntervalOutcomes.l2]
    rw [if_neg (by omega), sum_ans k acc hacc (by omega) (by omega)]
    have hN : Num acc.sum := by unfold Num at *; omega
    rw [ans_yes hN]
    simp only [Option.bind_some, quotalaw01_num.f, if_true]
    unfold interval_Has.f
    rw [if_pos h2]
    simp [h3]
  | succ d ih =>
    intro k i acc h1 hd hk hacc hlen h2 h3 h4 h5
    obtain ⟨k, rfl⟩ : ∃ m, k = m + 1 := ⟨k - 1, by omega⟩
    have hi : i < l.length := by omega
    have hx : Num l[i] := hl _ (List.getElem_mem hi)
    have hx' : -9223372036854775808 ≤ l[i] ∧ l[i] ≤ 9223372036854775807 := hx
    have e : IntKind.u64.wrap (i : Int) = (i : Int) := by rw [u64_wrap]; omega
    have tl : low (l.take (i + 1)) = low (l.take i) + if l[i] < 0 then l[i] else 0 := by
      rw [List.take_succ_eq_append_getElem hi, low_append, low_one]
    have th : high (l.take (i + 1)) = high (l.take i) + if l[i] < 0 then 0 else l[i] := by
      rw [List.take_succ_eq_append_getElem hi, high_append, high_one]
    simp only [quotalaw01_IntervalOutcomes.l2]
    rw [if_pos (by omega), e, if_pos (by omega), rd_at hi, wrap_next hi (by omega)]
    split
    · rw [if_pos (by omega), if_pos (by omega)]
      obtain ⟨k', r1, r2, r3⟩ := ih k (i + 1) (acc ++ [l[i]]) (by omega) (by omega) (by omega)
        (by intro y hy; rcases List.mem_append.1 hy with hy | hy; exact hacc y hy; simp at hy; subst hy; exact hx) (by simp; omega)
        (by rw [tl]; simp; split <;> omega) (by rw [th]; simp; split <;> omega) h4 h5
      exact ⟨k', by omega, by omega, r3⟩
    · obtain ⟨k', r1, r2, r3⟩ := ih k (i + 1) acc (by omega) (by omega) (by omega) hacc (by omega)
        (by rw [tl]; split <;> omega) (by rw [th]; split <;> omega) h4 h5
      exact ⟨k', by omega, by omega, r3⟩

/-- All choices, from number t on. -/
theorem out_l1 (w : Int) (h4 : Num (b + low l)) (h5 : Num (b + high l)) (d : Nat) : ∀ (k t : Nat), t ≤ 1024 → 1024 - t = d → d * 70 + 300 < k →
    quotalaw01_IntervalOutcomes.l1 k b l w (t : Int) (b + low l) (b + high l) = some true := by
  induction d using Nat.strongRecOn with
  | ind d ih =>
    intro k t h1 hd hk
    obtain ⟨k, rfl⟩ : ∃ m, k = m + 1 := ⟨k - 1, by omega⟩
    simp only [quotalaw01_IntervalOutcomes.l1]
    by_cases hlt : t < 1024
    · rw [if_pos (by omega)]
      have key : ∀ bits : Int, quotalaw01_IntervalOutcomes.j4 k b l w (t : Int) bits (b + low l) (b + high l) = some true := by
        intro bits
        obtain ⟨k, rfl⟩ : ∃ m, k = m + 1 := ⟨k - 1, by omega⟩
        simp only [quotalaw01_IntervalOutcomes.j4]
        obtain ⟨k', r1, r2, r3⟩ := out_l2 b l hb hl hn w (t : Int) bits l.length k 0 [b] (by omega) (by omega) (by omega) (by intro y hy; simp at hy; subst hy; exact hb) (by simp) (by simp [low]) (by simp [high]) h4 h5
        rw [show ((0 : Nat) : Int) = 0 from rfl] at r3
        rw [r3]
        obtain ⟨k', rfl⟩ : ∃ m, k' = m + 1 := ⟨k' - 1, by omega⟩
        simp only [quotalaw01_IntervalOutcomes.j6]
        rw [if_neg (by decide)]
        have e : wrap64 ((t : Int) + 1) = ((t + 1 : Nat) : Int) := by unfold wrap64; omega
        have goOn := ih (1024 - (t + 1)) (by omega) k' (t + 1) (by omega) rfl (by omega)
        split
        · split
          · exact ih 1 (by omega) k' 1023 (by omega) rfl (by omega)
          · rw [e]; exact goOn
        · rw [e]; exact goOn
      split
      · exact key _
      · exact key _
    · rw [if_neg (by omega)]

theorem out_l0 (w : Int) (d : Nat) : ∀ (k i : Nat) (lo hi : List Int), i ≤ l.length → l.length - i = d → 72500 + d < k → Nums lo → Nums hi → lo.length ≤ i + 1 → hi.length ≤ i + 1 →
    lo.sum = b + low (l.take i) → hi.sum = b + high (l.take i) →
    quotalaw01_IntervalOutcomes.l0 k b l w (worstA (b + low l) (b + high l)).2.2 lo hi (i : Int) (worstA (b + low l) (b + high l)).1 (worstA (b + low l) (b + high l)).2.1 = some true := by
  induction d with
  | zero =>
    intro k i lo hi h1 hd hk a1 a2 a3 a4 a5 a6
    obtain ⟨k, rfl⟩ : ∃ m, k = m + 1 := ⟨k - 1, by omega⟩
    have : i = l.length := by omega
    subst this
    rw [List.take_length] at a5 a6
    simp only [quotalaw01_IntervalOutcomes.l0]
    rw [if_neg (by omega), sum_ans k lo a1 (by omega) (by omega), sum_ans k hi a2 (by omega) (by omega), a5, a6]
    simp only [Option.bind_some, quotalaw01_num.f]
    by_cases g1 : Num (b + low l)
    · by_cases g2 : Num (b + high l)
      · rw [worst_yes g1 g2, ans_yes g1, ans_yes g2]
        simp only [if_true]
        unfold interval_Check.f
        have z1 := low_le l
        have z2 := high_ge l
        rw [if_neg (by omega)]
        simp only [Option.bind_some, bne_self_eq_false]
        obtain ⟨k, rfl⟩ : ∃ m, k = m + 1 := ⟨k - 1, by omega⟩
        simp only [quotalaw01_IntervalOutcomes.j2]
        rw [if_neg (by decide)]
        exact out_l1 b l hb hl hn w g1 g2 1024 k 0 (by omega) (by omega) (by omega)
      · rw [worst_no (fun h => g2 h.2), ans_yes g1, ans_no g2]; simp
    · rw [worst_no (fun h => g1 h.1), ans_no g1]; simp
  | succ d ih =>
    intro k i lo hi h1 hd hk a1 a2 a3 a4 a5 a6
    obtain ⟨k, rfl⟩ : ∃ m, k = m + 1 := ⟨k - 1, by omega⟩
    have hi' : i < l.length := by omega
    have hx : Num l[i] := hl _ (List.getElem_mem hi')
    have tl : low (l.take (i + 1)) = low (l.take i) + if l[i] < 0 then l[i] else 0 := by
      rw [List.take_succ_eq_append_getElem hi', low_append, low_one]
    have th : high (l.take (i + 1)) = high (l.take i) + if l[i] < 0 then 0 else l[i] := by
      rw [List.take_succ_eq_append_getElem hi', high_append, high_one]
    have more : ∀ {r : List Int}, Nums r → Nums (r ++ [l[i]]) := by
      intro r hr y hy
      rcases List.mem_append.1 hy with hy | hy
      · exact hr y hy
      · simp at hy; subst hy; exact hx
    simp only [quotalaw01_IntervalOutcomes.l0]
    rw [if_pos (by omega), if_pos (by omega), rd_at hi', wrap_next hi' (by omega)]
    by_cases hv : l[i] < 0
    · rw [if_pos hv, if_pos (by omega)]
      exact ih k (i + 1) (lo ++ [l[i]]) hi (by omega) (by omega) (by omega) (more a1) a2 (by simp; omega) (by omega) (by rw [tl, if_pos hv]; simp; omega) (by rw [th, if_pos hv]; omega)
    · rw [if_neg hv, if_pos (by omega)]
      exact ih k (i + 1) lo (hi ++ [l[i]]) (by omega) (by omega) (by omega) a1 (more a2) (by omega) (by simp; omega) (by rw [tl, if_neg hv]; omega) (by rw [th, if_neg hv]; simp; omega)
end

theorem IntervalOutcomes : quotalaw01_IntervalOutcomes.Pure := by
  intro b l0 w hb _ _ hl _
  have hb := num_wf hb
  refine ⟨73000, ?_⟩
  unfold quotalaw01_IntervalOutcomes.f
  rw [awake_ans _ (by omega)]
  simp only [Option.bind_some, if_true]
  rw [show (60 : Int) = ((60 : Nat) : Int) from rfl, cut_ans]
  simp only [Option.bind_some]
  have hl' : Nums (l0.take 60) := nums_take (fun y hy => num_wf (hl y hy)) _
  have hn : (l0.take 60).length ≤ 60 := by simp; omega
  generalize l0.take 60 = l at *
  rw [worst_ans _ b l hb hl' (by omega) (by omega), turned_ans _ l (by omega) (by omega)]
  simp only [Option.bind_some]
  rw [worst_ans _ b l.reverse hb (fun y hy => hl' y (List.mem_reverse.1 hy)) (by simp; omega) (by simp; omega), low_reverse, high_reverse]
  simp only [Option.bind_some, beq_self_eq_true, Bool.not_true, Bool.or_self, Bool.false_eq_true, if_false, bne_self_eq_false]
  simp only [quotalaw01_IntervalOutcomes.j0]
  rw [if_neg (by decide)]
  have one : Nums [b] := by intro y hy; simp at hy; subst hy; exact hb
  exact out_l0 b l hb hl' hn w l.length 72999 0 [b] [b] (by omega) (by omega) (by omega) one one (by simp) (by simp) (by simp [low]) (by simp [high])
end Go.Proofs.Ytfeanjnjcdmhcaa.Pure
