/- Words for loops over lists, for sums in two halves, and such. Plain lemmas; no conditions but those that each names. -/
import Derived.Test.YtljimnhijpcjaaaWd
set_option linter.unusedVariables false
set_option linter.unusedSimpArgs false
namespace Go.Proofs.Ytljimnhijpcjaaa.VC
open Go

theorem take_all {α : Type} {a b : List α} (h : a.length = b.length) {i : Nat} (hi : ¬ i < a.length) (ht : a.take i = b.take i) : a = b := by
  rw [List.take_of_length_le (by omega), List.take_of_length_le (by omega)] at ht; exact ht
theorem take_next {α : Type} {a b : List α} {i : Nat} (ha : i < a.length) (hb : i < b.length) (ht : a.take i = b.take i) {d : α} (e : a.getD i d = b.getD i d) : a.take (i + 1) = b.take (i + 1) := by
  rw [List.take_add_one, List.take_add_one, ht]
  simp [List.getD, List.getElem?_eq_getElem ha, List.getElem?_eq_getElem hb] at e
  simp [List.getElem?_eq_getElem ha, List.getElem?_eq_getElem hb, e]
theorem ne_get {α : Type} {a b : List α} {i : Nat} {d : α} (h : a.getD i d ≠ b.getD i d) : a ≠ b := fun e => h (by rw [e])
theorem take_succ_get {α : Type} {l : List α} {i : Nat} (h : i < l.length) (d : α) : l.take (i + 1) = l.take i ++ [l.getD i d] := by
  rw [List.take_add_one]; simp [List.getD, List.getElem?_eq_getElem h]

theorem shr63 (v : Int) : shrI .i64 v 63 = v / 9223372036854775808 := by
  unfold shrI
  rw [Int.fdiv_eq_ediv_of_nonneg _ (by decide)]; rfl
theorem u64_wrap (v : Int) : IntKind.u64.wrap v = v % 18446744073709551616 := by
  simp [IntKind.wrap, IntKind.signed, IntKind.bits]
theorem i64_wrap (v : Int) : IntKind.i64.wrap v = (v + 9223372036854775808) % 18446744073709551616 - 9223372036854775808 := by
  simp only [IntKind.wrap]; split <;> simp_all [IntKind.signed, IntKind.bits] <;> omega
theorem inU64 {n : Int} : InR .u64 n ↔ 0 ≤ n ∧ n ≤ 18446744073709551615 := Iff.rfl
theorem max63 {n : Nat} (h : n ≤ maxLen) : n ≤ 9223372036854775807 := h
theorem wrap_succ {n : Nat} (h : n < 9223372036854775807) : IntKind.i64.wrap ((n : Int) + 1) = ((n + 1 : Nat) : Int) := by
  rw [wrap64 (by omega) (by omega)]; rfl
theorem beq3 {a b : Int} : (a == b) = decide (a = b) := by
  by_cases h : a = b <;> simp [h]
theorem prod2 {α β : Type} {x y : α × β} : x = y ↔ x.1 = y.1 ∧ x.2 = y.2 := Prod.ext_iff
theorem and_mask (n : Nat) (hn : n ≤ 62) (a : Int) (b : Int) (hb : b = 2 ^ n - 1) : bitAnd .i64 a b = a % 2 ^ n := by
  have hp : (0 : Int) < 2 ^ n := Int.pow_pos (by decide)
  have hle : (2 : Nat) ^ n ≤ 2 ^ 62 := Nat.pow_le_pow_right (by decide) hn
  have hc : ((2 ^ n : Nat) : Int) = 2 ^ n := by simp
  have h1 : (BitVec.ofInt 64 b).toNat = 2 ^ n - 1 := by
    rw [BitVec.toNat_ofInt, hb]
    have : ((2 : Int) ^ n - 1) % 2 ^ 64 = 2 ^ n - 1 := by
      apply Int.emod_eq_of_lt <;> omega
    simp only [Int.reducePow] at this ⊢
    omega
  have h2 : (BitVec.ofInt 64 a).toNat % 2 ^ n = (a % 2 ^ n).toNat := by
    rw [BitVec.toNat_ofInt]
    have e0 : 0 ≤ a % ((2 ^ 64 : Nat) : Int) := Int.emod_nonneg _ (by decide)
    have e1 : 0 ≤ a % 2 ^ n := Int.emod_nonneg _ (by omega)
    have e2 : (a % ((2 ^ 64 : Nat) : Int)) % 2 ^ n = a % 2 ^ n := Int.emod_emod_of_dvd _ (by
      rw [← hc]
      exact Int.natCast_dvd_natCast.2 (Nat.pow_dvd_pow 2 (by omega)))
    have e3 : (((a % ((2 ^ 64 : Nat) : Int)).toNat % 2 ^ n : Nat) : Int) = a % 2 ^ n := by
      rw [Int.natCast_emod, Int.toNat_of_nonneg e0, hc, e2]
    omega
  unfold bitAnd
  show IntKind.i64.wrap ((BitVec.ofInt 64 a &&& BitVec.ofInt 64 b).toNat : Int) = _
  rw [BitVec.toNat_and, h1, Nat.and_two_pow_sub_one_eq_mod, h2]
  have e1 : 0 ≤ a % 2 ^ n := Int.emod_nonneg _ (by omega)
  have e4 : a % 2 ^ n < 2 ^ n := Int.emod_lt_of_pos _ hp
  rw [Int.toNat_of_nonneg e1]
  have : (2 : Int) ^ n ≤ 4611686018427387904 := by rw [← hc]; omega
  exact wrap64 (by omega) (by omega)
theorem shr_pow (k : Nat) (hk : k ≤ 64) (a b : Int) (hb : b = (k : Int)) : shrI .i64 a b = a / 2 ^ k := by
  unfold shrI
  rw [hb]
  have : min ((k : Int).toNat) IntKind.i64.bits = k := by show min _ 64 = k; omega
  rw [this, Int.fdiv_eq_ediv_of_nonneg _ (Int.le_of_lt (Int.pow_pos (by decide)))]
theorem shl_pow (k : Nat) (hk : k ≤ 62) (b : Int) (hb : b = (k : Int)) : shlI .i64 1 b = 2 ^ k := by
  unfold shlI
  rw [hb]
  have : min ((k : Int).toNat) IntKind.i64.bits = k := by show min _ 64 = k; omega
  rw [this, Int.one_mul]
  have hc : ((2 ^ k : Nat) : Int) = 2 ^ k := by simp
  have hle : (2 : Nat) ^ k ≤ 2 ^ 62 := Nat.pow_le_pow_right (by decide) hk
  exact wrap64 (by have := Int.pow_pos (n := 2) (m := k) (by decide); omega) (by rw [← hc]; omega)
end Go.Proofs.Ytljimnhijpcjaaa.VC
