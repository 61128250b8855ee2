/- What the printed functions of interval come to, over whole numbers: a sum, or 10 where it is none of 64 bits. -/
import Derived.Test.YtfeanjnjcdmhcaaQx2
import Derived.Test.YtfeanjnjcdmhcaaQx3
import Derived.Test.YtfeanjnjcdmhcaaQx4
namespace Go.Proofs.Ytfeanjnjcdmhcaa.Base
set_option linter.unusedSimpArgs false
set_option linter.unusedVariables false
open Go.RowKit Go.Proofs.Ytfeanjnjcdmhcaa.Q Go.Proofs.YtfeanjnjcdmhcaaW.PrintWords Go.Proofs.YtfeanjnjcdmhcaaW.PrintLast Go.Proofs.YtfeanjnjcdmhcaaW.PrintMore

def Num (x : Int) : Prop := -9223372036854775808 ≤ x ∧ x ≤ 9223372036854775807
instance (x : Int) : Decidable (Num x) := inferInstanceAs (Decidable (_ ∧ _))
def ans (x : Int) : Int × Int := if Num x then (x, 0) else (0, 10)
def hiW (x : Int) : Int := x / 18446744073709551616
def loW (x : Int) : Int := x % 18446744073709551616

theorem num_wf {x : Int} (h : (Lit.int .i64 x).wf = true) : Num x := by
  simp [Lit.wf, IntKind.min, IntKind.max, IntKind.signed, IntKind.bits] at h
  unfold Num; omega
theorem u64_wrap (v : Int) : IntKind.u64.wrap v = v % 18446744073709551616 := by
  simp [IntKind.wrap, IntKind.signed, IntKind.bits]
def Small (x : Int) : Prop := -1329227995784915872903807060280344576 ≤ x ∧ x ≤ 1329227995784915872903807060280344576

theorem plus_rep (x v : Int) (hx : Small x) (hv : Num v) : interval_wide_plus.f (hiW x) (loW x) v = some (hiW (x + v), loW (x + v)) := by
  unfold interval_wide_plus.f Wide.plusO Wide.plusF Wide.addLo Wide.addHi hiW loW
  unfold Small at hx; unfold Num at hv
  rw [if_pos (by omega), u64_wrap]
  have e1 : wrap64 (wrap64 (x / 18446744073709551616 + v / 9223372036854775808) + wrap64 ((x % 18446744073709551616 + v % 18446744073709551616) / 18446744073709551616)) = (x + v) / 18446744073709551616 := by
    have hv1 : (v / 9223372036854775808 = -1 ∧ v % 18446744073709551616 = v + 18446744073709551616) ∨ (v / 9223372036854775808 = 0 ∧ v % 18446744073709551616 = v) := by omega
    have hw : ∀ y : Int, -9223372036854775808 ≤ y → y ≤ 9223372036854775807 → wrap64 y = y := fun y h1 h2 => by unfold wrap64; omega
    rcases hv1 with ⟨a1, a2⟩ | ⟨a1, a2⟩ <;> rw [a1, a2]
    · rw [hw (_ + -1) (by omega) (by omega), hw (_ / _) (by omega) (by omega), hw _ (by omega) (by omega)]; omega
    · rw [hw (_ + 0) (by omega) (by omega), hw (_ / _) (by omega) (by omega), hw _ (by omega) (by omega)]; omega
  have e2 : (x % 18446744073709551616 + v % 18446744073709551616) % 18446744073709551616 = (x + v) % 18446744073709551616 := by omega
  rw [e1, e2]
theorem minus_rep (x v : Int) (hx : Small x) (hv : Num v) : interval_wide_minus.f (hiW x) (loW x) v = some (hiW (x - v), loW (x - v)) := by
  unfold interval_wide_minus.f Wide.minusO Wide.minusF Wide.subLo Wide.subHi hiW loW
  unfold Small at hx; unfold Num at hv
  rw [if_pos (by omega), u64_wrap]
  have e1 : wrap64 (wrap64 (x / 18446744073709551616 - v / 9223372036854775808) - wrap64 (if x % 18446744073709551616 < v % 18446744073709551616 then 1 else 0)) = (x - v) / 18446744073709551616 := by
    have hv1 : (v / 9223372036854775808 = -1 ∧ v % 18446744073709551616 = v + 18446744073709551616) ∨ (v / 9223372036854775808 = 0 ∧ v % 18446744073709551616 = v) := by omega
    have hw : ∀ y : Int, -9223372036854775808 ≤ y → y ≤ 9223372036854775807 → wrap64 y = y := fun y h1 h2 => by unfold wrap64; omega
    rcases hv1 with ⟨a1, a2⟩ | ⟨a1, a2⟩ <;> rw [a1, a2]
    · rw [hw (_ - -1) (by omega) (by omega)]; split <;> (first | rw [hw 1 (by omega) (by omega)] | rw [hw 0 (by omega) (by omega)]) <;> rw [hw _ (by omega) (by omega)] <;> omega
    · rw [hw (_ - 0) (by omega) (by omega)]; split <;> (first | rw [hw 1 (by omega) (by omega)] | rw [hw 0 (by omega) (by omega)]) <;> rw [hw _ (by omega) (by omega)] <;> omega
  have e2 : (x % 18446744073709551616 - v % 18446744073709551616) % 18446744073709551616 = (x - v) % 18446744073709551616 := by omega
  rw [e1, e2]
theorem number_rep (x : Int) (hx : Small x) : interval_wide_number.f (hiW x) (loW x) = some (ans x) := by
  unfold interval_wide_number.f ans hiW loW
  unfold Small at hx; unfold wrap64
  by_cases h' : Num x
  · rw [if_pos h']; have h : -9223372036854775808 ≤ x ∧ x ≤ 9223372036854775807 := h'
    rw [if_pos (by omega)]; congr 2; omega
  · rw [if_neg h']; have h : ¬ (-9223372036854775808 ≤ x ∧ x ≤ 9223372036854775807) := h'
    rw [if_neg (by omega)]
theorem of_rep (a : Int) (h : Num a) : interval_of.f a = some (hiW a, loW a) := by
  unfold interval_of.f hiW loW
  unfold Num at h
  rw [u64_wrap]
  congr 2; omega
theorem small_num {x : Int} (h : Num x) : Small x := by unfold Num at h; unfold Small; omega
theorem add_ans (a b : Int) (ha : Num a) (hb : Num b) : interval_Add.f a b = some (ans (a + b)) := by
  unfold interval_Add.f
  rw [of_rep a ha]; simp only [Option.bind_some]
  rw [plus_rep a b (small_num ha) hb]; simp only [Option.bind_some]
  rw [number_rep _ (by unfold Num at ha hb; unfold Small; omega)]; simp
theorem sub_ans (a b : Int) (ha : Num a) (hb : Num b) : interval_Sub.f a b = some (ans (a - b)) := by
  unfold interval_Sub.f
  rw [of_rep a ha]; simp only [Option.bind_some]
  rw [minus_rep a b (small_num ha) hb]; simp only [Option.bind_some]
  rw [number_rep _ (by unfold Num at ha hb; unfold Small; omega)]; simp
theorem neg_ans (a : Int) (ha : Num a) : interval_Neg.f a = some (ans (-a)) := by
  unfold interval_Neg.f
  rw [sub_ans 0 a (by unfold Num; omega) ha]; simp

def Nums (l : List Int) : Prop := ∀ x ∈ l, Num x
theorem rd_at {l : List Int} {i : Nat} (h : i < l.length) : rd l (i : Int) = l[i] := by
  unfold rd; simp [List.getD, h]
theorem wrap_next {i n : Nat} (h : i < n) (hn : n ≤ 140737488351232) : wrap64 ((i : Int) + 1) = ((i + 1 : Nat) : Int) := by
  unfold wrap64; omega

theorem sum_loop (l : List Int) (hl : Nums l) (hn : l.length ≤ 140737488351232) (d : Nat) : ∀ (k i : Nat) (s : Int), i ≤ l.length → l.length - i = d → d < k →
    -9223372036854775808 * (i : Int) ≤ s → s ≤ 9223372036854775808 * (i : Int) →
    interval_Sum.l0 k l (l.length : Int) (i : Int) (hiW s) (loW s) = some (ans (s + (l.drop i).sum)) := by
  induction d with
  | zero =>
    intro k i s h1 hd hk h2 h3
    obtain ⟨k, rfl⟩ : ∃ m, k = m + 1 := ⟨k - 1, by omega⟩
    have : i = l.length := by omega
    subst this
    simp only [interval_Sum.l0]
    rw [if_neg (by omega), number_rep _ (by unfold Small; omega)]
    simp
  | succ d ih =>
    intro k i s h1 hd hk h2 h3
    obtain ⟨k, rfl⟩ : ∃ m, k = m + 1 := ⟨k - 1, by omega⟩
    have hi : i < l.length := by omega
    have hx : Num l[i] := hl _ (List.getElem_mem hi)
    simp only [interval_Sum.l0]
    rw [if_pos (by omega), if_pos (by omega), if_pos (by omega), rd_at hi, plus_rep s _ (by unfold Small; omega) hx]
    simp only [Option.bind_some]
    rw [wrap_next hi hn, ih k (i + 1) (s + l[i]) (by omega) (by omega) (by omega) (by unfold Num at hx; omega) (by unfold Num at hx; omega), List.drop_eq_getElem_cons hi]
    congr 2
    simp only [List.sum_cons]; omega
theorem sum_ans (k : Nat) (l : List Int) (hl : Nums l) (hn : l.length ≤ 140737488351232) (hk : l.length < k) : interval_Sum.f k l = some (ans l.sum) := by
  unfold interval_Sum.f
  have := sum_loop l hl hn l.length k 0 0 (by omega) (by omega) hk (by omega) (by omega)
  rw [show hiW 0 = 0 from rfl, show loW 0 = 0 from rfl] at this
  simpa using this

def low (l : List Int) : Int := (l.map fun v => if v < 0 then v else 0).sum
def high (l : List Int) : Int := (l.map fun v => if v < 0 then 0 else v).sum
def worstA (a b : Int) : Int × Int × Int := if Num a ∧ Num b then (a, b, 0) else (0, 0, 10)
theorem low_cons (v : Int) (l : List Int) : low (v :: l) = (if v < 0 then v else 0) + low l := by simp [low]
theorem high_cons (v : Int) (l : List Int) : high (v :: l) = (if v < 0 then 0 else v) + high l := by simp [high]

theorem worst_loop (l : List Int) (hl : Nums l) (hn : l.length ≤ 140737488351232) (d : Nat) : ∀ (k i : Nat) (s t : Int), i ≤ l.length → l.length - i = d → d < k →
    -9223372036854775808 * ((i : Int) + 1) ≤ s → s ≤ 9223372036854775808 * ((i : Int) + 1) → -9223372036854775808 * ((i : Int) + 1) ≤ t → t ≤ 9223372036854775808 * ((i : Int) + 1) →
    interval_Worst.l0 k l (l.length : Int) (i : Int) (hiW s) (loW s) (hiW t) (loW t) = some (worstA (s + low (l.drop i)) (t + high (l.drop i))) := by
  induction d with
  | zero =>
    intro k i s t h1 hd hk h2 h3 h4 h5
    obtain ⟨k, rfl⟩ : ∃ m, k = m + 1 := ⟨k - 1, by omega⟩
    have : i = l.length := by omega
    subst this
    simp only [interval_Worst.l0]
    rw [if_neg (by omega), number_rep _ (by unfold Small; omega), number_rep _ (by unfold Small; omega)]
    simp only [Option.bind_some, List.drop_length, low, high, List.map_nil, List.sum_nil, Int.add_zero]
    unfold worstA ans
    by_cases a : Num s <;> by_cases b : Num t <;> simp [a, b]
  | succ d ih =>
    intro k i s t h1 hd hk h2 h3 h4 h5
    obtain ⟨k, rfl⟩ : ∃ m, k = m + 1 := ⟨k - 1, by omega⟩
    have hi : i < l.length := by omega
    have hx : Num l[i] := hl _ (List.getElem_mem hi)
    have hx' : -9223372036854775808 ≤ l[i] ∧ l[i] ≤ 9223372036854775807 := hx
    simp only [interval_Worst.l0]
    rw [if_pos (by omega), if_pos (by omega), if_pos (by omega), rd_at hi, wrap_next hi hn, List.drop_eq_getElem_cons hi, low_cons, high_cons]
    by_cases hv : l[i] < 0
    · rw [if_pos hv, plus_rep s _ (by unfold Small; omega) hx]
      simp only [Option.bind_some]
      rw [ih k (i + 1) (s + l[i]) t (by omega) (by omega) (by omega) (by omega) (by omega) (by omega) (by omega), if_pos hv, if_pos hv]
      congr 2 <;> omega
    · rw [if_neg hv, plus_rep t _ (by unfold Small; omega) hx]
      simp only [Option.bind_some]
      rw [ih k (i + 1) s (t + l[i]) (by omega) (by omega) (by omega) (by omega) (by omega) (by omega) (by omega), if_neg hv, if_neg hv]
      congr 2 <;> omega
theorem worst_ans (k : Nat) (b : Int) (l : List Int) (hb : Num b) (hl : Nums l) (hn : l.length ≤ 140737488351232) (hk : l.length < k) : interval_Worst.f k b l = some (worstA (b + low l) (b + high l)) := by
  unfold interval_Worst.f
  rw [of_rep b hb]
  simp only [Option.bind_some]
  have hb' : -9223372036854775808 ≤ b ∧ b ≤ 9223372036854775807 := hb
  have := worst_loop l hl hn l.length k 0 b b (by omega) (by omega) hk (by omega) (by omega) (by omega) (by omega)
  simpa using this

theorem awake_ans (k : Nat) (hk : 5 ≤ k) : quotalaw01_awake.f k = some true := by
  obtain ⟨k, rfl⟩ : ∃ m, k = m + 1 := ⟨k - 1, by omega⟩
  unfold quotalaw01_awake.f
  rw [add_ans 2 3 (by decide) (by decide), add_ans _ 1 (by decide) (by decide), sum_ans _ _ (by intro x hx; simp at hx; rcases hx with rfl | rfl | rfl <;> decide) (by decide) (by simp; omega),
    worst_ans _ _ _ (by decide) (by intro x hx; simp at hx; rcases hx with rfl | rfl <;> decide) (by decide) (by simp; omega), sub_ans _ _ (by decide) (by decide), neg_ans _ (by decide)]
  simp [quotalaw01_num.f, quotalaw01_awake.j0, interval_Check.f, interval_Has.f, interval_Within.f, ans, Num, worstA, low, high]
end Go.Proofs.Ytfeanjnjcdmhcaa.Base
