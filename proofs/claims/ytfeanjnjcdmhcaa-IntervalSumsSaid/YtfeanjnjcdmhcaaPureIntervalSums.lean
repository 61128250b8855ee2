/- IntervalSums: order, halves, a number and its opposite put in; of all lists (the first 2000 numbers), places and numbers. No conditions. -/
import Derived.Test.YtfeanjnjcdmhcaaPureIntervalTurns
import Derived.Test.YtfeanjnjcdmhcaaQx6
namespace Go.Proofs.Ytfeanjnjcdmhcaa.Pure
set_option linter.unusedSimpArgs false
set_option linter.unusedVariables false
open Go.RowKit Go.Proofs.Ytfeanjnjcdmhcaa.Q Go.Proofs.Ytfeanjnjcdmhcaa.Base Go.Proofs.YtfeanjnjcdmhcaaW.PrintWords

theorem turned_loop (l : List Int) (hn : l.length ≤ 2000) (d : Nat) : ∀ (k : Nat) (acc : List Int), d ≤ l.length → acc.length = l.length - d → d < k →
    quotalaw01_turned.l0 k l acc ((d : Int) - 1) = some (acc ++ (l.take d).reverse) := by
  induction d with
  | zero =>
    intro k acc h1 h2 hk
    obtain ⟨k, rfl⟩ : ∃ m, k = m + 1 := ⟨k - 1, by omega⟩
    simp only [quotalaw01_turned.l0]
    rw [if_neg (by omega)]
    simp
  | succ d ih =>
    intro k acc h1 h2 hk
    obtain ⟨k, rfl⟩ : ∃ m, k = m + 1 := ⟨k - 1, by omega⟩
    simp only [quotalaw01_turned.l0]
    have e : ((d + 1 : Nat) : Int) - 1 = (d : Int) := by omega
    rw [e, if_pos (by omega), if_pos (by omega), if_pos (by omega), if_pos (by omega), rd_at (by omega : d < l.length)]
    have e2 : wrap64 ((d : Int) - 1) = (d : Int) - 1 := by unfold wrap64; omega
    rw [e2, ih k _ (by omega) (by simp; omega) (by omega), List.take_succ_eq_append_getElem (i := d) (l := l) (by omega)]
    simp only [List.reverse_append, List.reverse_cons, List.reverse_nil, List.nil_append, List.append_assoc, List.singleton_append]
theorem turned_ans (k : Nat) (l : List Int) (hn : l.length ≤ 2000) (hk : l.length < k) : quotalaw01_turned.f k l = some l.reverse := by
  unfold quotalaw01_turned.f
  have e2 : wrap64 ((l.length : Int) - 1) = (l.length : Int) - 1 := by unfold wrap64; omega
  rw [e2, turned_loop l hn l.length k [] (by omega) (by simp) hk]
  simp
theorem cut_ans (l : List Int) (n : Nat) : quotalaw01_cut.f l (n : Int) = some (l.take n) := by
  unfold quotalaw01_cut.f
  by_cases h : (l.length : Int) > (n : Int)
  · rw [if_pos h, if_pos (by omega), if_pos (by omega)]; simp
  · rw [if_neg h, List.take_of_length_le (by omega)]
theorem sum_reverse (l : List Int) : l.reverse.sum = l.sum := by
  induction l with
  | nil => rfl
  | cons a l ih => simp [ih]; omega
theorem brought_ans (x : Int) (n : Nat) (hx : Num x) (hn : n ≤ 2000) : ∃ t : Nat, t ≤ n ∧ quotalaw01_brought.f x (wrap64 ((n : Int) + 1)) = some (t : Int) := by
  have e : wrap64 ((n : Int) + 1) = ((n + 1 : Nat) : Int) := by unfold wrap64; omega
  rw [e]
  unfold quotalaw01_brought.f
  rw [if_neg (by omega)]
  have h1 := Int.tmod_lt_of_pos x (by omega : (0 : Int) < ((n + 1 : Nat) : Int))
  have h2 : -((n + 1 : Nat) : Int) < Int.tmod x ((n + 1 : Nat) : Int) := Int.lt_tmod_of_pos x (by omega)
  generalize Int.tmod x ((n + 1 : Nat) : Int) = y at *
  by_cases h : y < 0
  · rw [if_pos h]
    refine ⟨(y + ((n + 1 : Nat) : Int)).toNat, by omega, ?_⟩
    congr 1; unfold wrap64; omega
  · rw [if_neg h]
    exact ⟨y.toNat, by omega, by congr 1; omega⟩
theorem nums_take {l : List Int} (h : Nums l) (n : Nat) : Nums (l.take n) := fun x hx => h x (List.mem_of_mem_take hx)
theorem nums_drop {l : List Int} (h : Nums l) (n : Nat) : Nums (l.drop n) := fun x hx => h x (List.mem_of_mem_drop hx)
theorem take_drop_sum (l : List Int) (n : Nat) : (l.take n).sum + (l.drop n).sum = l.sum := by
  rw [← List.sum_append, List.take_append_drop]

theorem sums_j2 (k : Nat) (l : List Int) (hl : Nums l) (hn : l.length ≤ 2000) (x : Int) (hx : Num x) (t : Nat) (ht : t ≤ l.length) (hk : 2010 < k) :
    quotalaw01_IntervalSums.j2 (k + 1) l x (ans l.sum).1 (ans l.sum).2 (t : Int) = some true := by
  simp only [quotalaw01_IntervalSums.j2, quotalaw01_num.f]
  rw [neg_ans x hx]
  simp only [Option.bind_some]
  by_cases h : Num (-x)
  · rw [ans_yes h]
    simp only [if_true, Int.toNat_natCast, List.nil_append]
    rw [if_pos (by omega), if_pos (by omega), if_pos (by simp; omega), if_pos (by simp; omega), if_pos (by simp; omega), if_pos (by simp; omega)]
    rw [sum_ans k _ ?_ (by simp; omega) (by simp; omega)]
    · simp only [Option.bind_some]
      have e : (l.take t ++ [x] ++ l.drop t ++ [-x]).sum = l.sum := by
        rw [← take_drop_sum l t]; simp; omega
      rw [e]; simp
    · intro y hy
      simp only [List.mem_append, List.mem_singleton] at hy
      rcases hy with ((hy | rfl) | hy) | rfl
      · exact nums_take hl _ y hy
      · exact hx
      · exact nums_drop hl _ y hy
      · exact h
  · rw [ans_no h]
    simp

theorem sums_j1 (k : Nat) (l : List Int) (hl : Nums l) (hn : l.length ≤ 2000) (x : Int) (hx : Num x) (t : Nat) (ht : t ≤ l.length) (hk : 2010 < k) :
    quotalaw01_IntervalSums.j1 (k + 2) l x (ans l.sum).1 (ans l.sum).2 (t : Int) (ans (l.take t).sum).1 (ans (l.drop t).sum).1 (if (ans (l.take t).sum).2 = 0 then (ans (l.drop t).sum).2 == 0 else false) = some true := by
  simp only [quotalaw01_IntervalSums.j1, quotalaw01_num.f]
  by_cases h1 : Num (l.take t).sum
  · rw [ans_yes h1]
    by_cases h2 : Num (l.drop t).sum
    · rw [ans_yes h2]
      simp only [if_true, beq_self_eq_true]
      rw [add_ans _ _ h1 h2, take_drop_sum]
      simp only [Option.bind_some, if_true, bne_self_eq_false, Bool.false_eq_true, if_false]
      exact sums_j2 k l hl hn x hx t ht hk
    · rw [ans_no h2]
      simp only [if_true]
      rw [if_neg (by decide)]
      exact sums_j2 k l hl hn x hx t ht hk
  · rw [ans_no h1]
    have e : (if ((0, 10) : Int × Int).snd = 0 then (ans (List.drop t l).sum).snd == 0 else false) = false := by rw [if_neg (by decide)]
    rw [e, if_neg (by decide)]
    exact sums_j2 k l hl hn x hx t ht hk

theorem sums_j0 (k : Nat) (l : List Int) (hl : Nums l) (hn : l.length ≤ 2000) (x : Int) (hx : Num x) (p : Int) (hp : Num p) (hk : 2010 < k) :
    quotalaw01_IntervalSums.j0 (k + 3) l p x (ans l.sum).1 (ans l.sum).2 false = some true := by
  obtain ⟨t, ht, hb⟩ := brought_ans p l.length hp hn
  simp only [quotalaw01_IntervalSums.j0, quotalaw01_num.f]
  rw [if_neg (by decide), hb]
  simp only [Option.bind_some]
  rw [if_pos (by omega), if_pos (by omega)]
  rw [Int.toNat_natCast, sum_ans _ _ (nums_take hl t) (by simp; omega) (by simp; omega), sum_ans _ _ (nums_drop hl t) (by simp; omega) (by simp; omega)]
  simp only [Option.bind_some]
  have := sums_j1 k l hl hn x hx t ht hk
  by_cases h : (ans (l.take t).sum).2 = 0
  · rw [if_pos h] at this; rw [if_pos h]; exact this
  · rw [if_neg h] at this; rw [if_neg h]; exact this

theorem IntervalSums : quotalaw01_IntervalSums.Pure := by
  intro l0 p x _ _ hl hp hx
  have hp := num_wf hp
  have hx := num_wf hx
  refine ⟨2014, ?_⟩
  unfold quotalaw01_IntervalSums.f
  rw [awake_ans _ (by omega)]
  simp only [Option.bind_some, if_true]
  rw [show (2000 : Int) = ((2000 : Nat) : Int) from rfl, cut_ans]
  simp only [Option.bind_some]
  have hl' : Nums (l0.take 2000) := nums_take (fun y hy => num_wf (hl y hy)) _
  have hn : (l0.take 2000).length ≤ 2000 := by simp; omega
  generalize l0.take 2000 = l at *
  rw [sum_ans _ l hl' (by omega) (by omega), turned_ans _ l hn (by omega)]
  simp only [Option.bind_some]
  rw [sum_ans _ l.reverse (fun y hy => hl' y (List.mem_reverse.1 hy)) (by simp; omega) (by simp; omega), sum_reverse]
  simp only [Option.bind_some, if_true, quotalaw01_num.f]
  have h0 := sums_j0 2011 l hl' hn x hx p hp (by omega)
  by_cases h : (ans l.sum).2 = 0
  · rw [if_pos h]; exact h0
  · rw [if_neg h]
    have : ((ans l.sum).1 != 0) = false := by
      by_cases hN : Num l.sum
      · rw [ans_yes hN] at h; simp at h
      · rw [ans_no hN]; rfl
    rw [this]; exact h0
end Go.Proofs.Ytfeanjnjcdmhcaa.Pure
