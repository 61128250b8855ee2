/- Objects of pools: one is put in its place, one more. Plain lemmas; no conditions but those that each names. -/
import Derived.Test.YtaomhhamepalmaaBk
set_option linter.unusedVariables false
set_option linter.unusedSimpArgs false
namespace Go.Proofs.Ytaomhhamepalmaa.VC
open Go
theorem pset_at {α : Type} : ∀ {P : List (Nat × α)} {n : Nat} {d x : α}, pget P n = some x → pget (pset P n d) n = some d
  | [], _, _, _, h => by cases h
  | (q, y) :: P, n, d, x, h => by
    unfold pget at h
    unfold pset
    cases hb : Nat.beq q n with
    | true => simp [pget, hb]
    | false =>
      rw [hb] at h
      have := pset_at (d := d) (P := P) h
      simpa [pget, hb] using this
theorem pset_ne {α : Type} {n m : Nat} {d : α} (hm : m ≠ n) : ∀ (P : List (Nat × α)), pget (pset P n d) m = pget P m
  | [] => rfl
  | (q, y) :: P => by
    have ih := pset_ne (d := d) hm P
    unfold pset
    cases hb : Nat.beq q n with
    | true =>
      have : Nat.beq q m = false := nbeq_ne (by rw [Nat.eq_of_beq_eq_true hb]; exact Ne.symm hm)
      simp [pget, this]
    | false =>
      simp only [cond_false, pget]
      rw [ih]
theorem pset_id {α : Type} : ∀ {P : List (Nat × α)} {n : Nat} {d : α}, pget P n = some d → pset P n d = P
  | [], _, _, _ => rfl
  | (q, y) :: P, n, d, h => by
    unfold pget at h
    unfold pset
    cases hb : Nat.beq q n with
    | true =>
      rw [hb] at h
      rw [show y = d from Option.some.inj h]; rfl
    | false =>
      rw [hb] at h
      simp only [cond_false]
      rw [pset_id (P := P) h]
theorem pget_left {α : Type} {Q : List (Nat × α)} : ∀ {P : List (Nat × α)} {n : Nat} {d : α}, pget P n = some d → pget (P ++ Q) n = some d
  | [], _, _, h => by cases h
  | (q, y) :: P, n, d, h => by
    unfold pget at h
    simp only [List.cons_append, pget]
    cases hb : Nat.beq q n with
    | true => rw [hb] at h; exact h
    | false => rw [hb] at h; exact pget_left (P := P) h
theorem pget_last {α : Type} {d : α} : ∀ {P : List (Nat × α)} {n : Nat}, pget P n = none → pget (P ++ [(n, d)]) n = some d
  | [], n, _ => by simp [pget]
  | (q, y) :: P, n, h => by
    unfold pget at h
    simp only [List.cons_append, pget]
    cases hb : Nat.beq q n with
    | true => rw [hb] at h; cases h
    | false => rw [hb] at h; exact pget_last (P := P) h
end Go.Proofs.Ytaomhhamepalmaa.VC
