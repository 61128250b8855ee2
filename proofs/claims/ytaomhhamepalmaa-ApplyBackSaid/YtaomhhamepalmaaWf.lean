/- Words for loops over lists, for sums in two halves, and such. Plain lemmas; no conditions but those that each names. -/
import Derived.Test.YtaomhhamepalmaaWd
set_option linter.unusedVariables false
set_option linter.unusedSimpArgs false
namespace Go.Proofs.Ytaomhhamepalmaa.VC
open Go

theorem take_all {α : Type} {a b : List α} (h : a.length = b.length) {i : Nat} (hi : ¬ i < a.length) (ht : a.take i = b.take i) : a = b := by
  rw [List.take_of_length_le (by omega), List.take_of_length_le (by omega)] at ht; exact ht
theorem take_next {α : Type} {a b : List α} {i : Nat} (ha : i < a.length) (hb : i < b.length) (ht : a.take i = b.take i) {d : α} (e : a.getD i d = b.getD i d) : a.take (i + 1) = b.take (i + 1) := by
  rw [List.take_add_one, List.take_add_one, ht]
  simp [List.getD, List.getElem?_eq_getElem ha, List.getElem?_eq_getElem hb] at e
  simp [List.getElem?_eq_getElem ha, List.getElem?_eq_getElem hb, e]
theorem ne_get {α : Type} {a b : List α} {i : Nat} {d : α} (h : a.getD i d ≠ b.getD i d) : a ≠ b := fun e => h (by rw [e])
theorem take_succ_get {α : Type} {l : List α} {i : Nat} (h : i < l.length) (d : α) : l.take (i + 1) = l.take i ++ [l.getD i d] := by
  rw [List.take_add_one]; simp [List.getD, List.getElem?_eq_getElem h]

theorem shr63 (v : Int) : shrI .i64 v 63 = v / 9223372036854775808 := by
  unfold shrI
  rw [Int.fdiv_eq_ediv_of_nonneg _ (by decide)]; rfl
theorem u64_wrap (v : Int) : IntKind.u64.wrap v = v % 18446744073709551616 := by
  simp [IntKind.wrap, IntKind.signed, IntKind.bits]
theorem i64_wrap (v : Int) : IntKind.i64.wrap v = (v + 9223372036854775808) % 18446744073709551616 - 9223372036854775808 := by
  simp only [IntKind.wrap]; split <;> simp_all [IntKind.signed, IntKind.bits] <;> omega
theorem inU64 {n : Int} : InR .u64 n ↔ 0 ≤ n ∧ n ≤ 18446744073709551615 := Iff.rfl
theorem max63 {n : Nat} (h : n ≤ maxLen) : n ≤ 9223372036854775807 := h
theorem wrap_succ {n : Nat} (h : n < 9223372036854775807) : IntKind.i64.wrap ((n : Int) + 1) = ((n + 1 : Nat) : Int) := by
  rw [wrap64 (by omega) (by omega)]; rfl
theorem beq3 {a b : Int} : (a == b) = decide (a = b) := by
  by_cases h : a = b <;> simp [h]
theorem prod2 {α β : Type} {x y : α × β} : x = y ↔ x.1 = y.1 ∧ x.2 = y.2 := Prod.ext_iff
end Go.Proofs.Ytaomhhamepalmaa.VC
