/- Where a number first stands. Definitions and plain lemmas; no conditions but those that each names. -/
import Derived.Test.YtgoikphefcgleaaWf
set_option linter.unusedVariables false
namespace Go.Proofs.Ytgoikphefcgleaa.VC
open Go
/-- Where a number first stands; -1: nowhere. -/
def idxI (l : List Int) (n : Int) : Int := match l.findIdx? (fun x => decide (x = n)) with
  | some i => (i : Int)
  | none => -1
theorem idx_some {l : List Int} {k : Int} {i : Nat} (hi : i < l.length) (h1 : l[i] = k) (h2 : ∀ p ∈ l.take i, p ≠ k) : idxI l k = (i : Int) := by
  unfold idxI
  have : l.findIdx? (fun x => decide (x = k)) = some i := by
    rw [List.findIdx?_eq_some_iff_getElem]
    refine ⟨hi, by simpa using h1, fun j hj => ?_⟩
    have := h2 l[j] (List.mem_take_iff_getElem.2 ⟨j, by omega, rfl⟩)
    simpa using this
  rw [this]
theorem idx_none {l : List Int} {k : Int} (h : ∀ p ∈ l, p ≠ k) : idxI l k = -1 := by
  unfold idxI
  have : l.findIdx? (fun x => decide (x = k)) = none := by
    rw [List.findIdx?_eq_none_iff]
    intro x hx
    simpa using h x hx
  rw [this]
theorem idx_cases (l : List Int) (k : Int) : (idxI l k = -1 ∧ ∀ p ∈ l, p ≠ k) ∨ ∃ i, ∃ hi : i < l.length, idxI l k = (i : Int) ∧ l[i] = k ∧ ∀ p ∈ l.take i, p ≠ k := by
  cases hf : l.findIdx? (fun x => decide (x = k)) with
  | none =>
    rw [List.findIdx?_eq_none_iff] at hf
    have : ∀ p ∈ l, p ≠ k := fun p hp => by simpa using hf p hp
    exact .inl ⟨idx_none this, this⟩
  | some i =>
    obtain ⟨hi, h1, h2⟩ := List.findIdx?_eq_some_iff_getElem.1 hf
    have h1 : l[i] = k := by simpa using h1
    have h2 : ∀ p ∈ l.take i, p ≠ k := fun p hp => by
      obtain ⟨j, hj, rfl⟩ := List.mem_take_iff_getElem.1 hp
      have := h2 j (by omega)
      simpa using this
    exact .inr ⟨i, hi, idx_some hi h1 h2, h1, h2⟩
theorem idx_lt (l : List Int) (k : Int) : -1 ≤ idxI l k ∧ idxI l k < l.length := by
  rcases idx_cases l k with ⟨h, _⟩ | ⟨i, hi, h, _⟩ <;> omega
end Go.Proofs.Ytgoikphefcgleaa.VC
