/- Words at a loop's head, or where ways meet: what they say holds. Plain lemmas; no conditions but those that each names. -/
import Derived.Test.YtljimnhijpcjaaaVs
import Derived.Deep.LoopGhost
set_option linter.unusedVariables false
set_option linter.unusedSimpArgs false
set_option linter.unusedSectionVars false
namespace Go.Proofs.Ytljimnhijpcjaaa.VC
open Go

/-! ### Alike -/

theorem bif_some {α : Type} {b : Bool} {x : α} {y : α} (h : (bif b then some x else none) = some y) : b = true ∧ x = y := by
  cases b with
  | true => exact ⟨rfl, by simpa using h⟩
  | false => simp at h

theorem eqv_cv {c : Ctx} (v : AV) : ∀ (w : AV) (ps : List Prop) (cv : Value), eqv v w = some ps → (∀ p ∈ ps, p) → CV c v cv → CV c w cv := by
  refine AV.rec (motive_1 := fun v => ∀ (w : AV) (ps : List Prop) (cv : Value), eqv v w = some ps → (∀ p ∈ ps, p) → CV c v cv → CV c w cv)
    (motive_2 := fun l => ∀ (m : List AV) (ps : List Prop) (cvs : List Value), eqvL l m = some ps → (∀ p ∈ ps, p) → CVL c l cvs → CVL c m cvs) ?_ ?_ ?_ ?_ ?_ ?_ ?_ ?_ ?_ ?_ ?_ ?_ ?_ ?_ ?_ ?_ ?_ ?_ ?_ ?_ ?_ ?_ ?_ ?_ ?_ ?_ ?_ ?_ ?_ v
  · intro w ps cv h hp hv
    cases w
    case undef => simp [CV]
    all_goals (simp [eqv] at h)
  · intro w ps cv h hp hv
    cases w
    case undef => simp [CV]
    case skip => exact hv
    all_goals (simp [eqv] at h)
  · intro w ps cv h hp hv
    cases w
    case undef => simp [CV]
    case tt => exact hv
    case bool y1 => simp [eqv] at h; subst h; have e2 := hp _ (List.mem_singleton.2 rfl); simp only [CV] at hv ⊢; rw [hv, e2]
    all_goals (simp [eqv] at h)
  · intro w ps cv h hp hv
    cases w
    case undef => simp [CV]
    case ff => exact hv
    case bool y1 => simp [eqv] at h; subst h; have e2 := hp _ (List.mem_singleton.2 rfl); simp only [CV] at hv ⊢; rw [hv, e2]
    all_goals (simp [eqv] at h)
  · intro x1 w ps cv h hp hv
    cases w
    case undef => simp [CV]
    case tt => simp [eqv] at h; subst h; have e2 := hp _ (List.mem_singleton.2 rfl); simp only [CV] at hv ⊢; rw [hv, e2]
    case ff => simp [eqv] at h; subst h; have e2 := hp _ (List.mem_singleton.2 rfl); simp only [CV] at hv ⊢; rw [hv, e2]
    case bool y1 => simp only [eqv, Option.some.injEq] at h; subst h; have e2 := hp _ (List.mem_singleton.2 rfl); simp only [CV] at hv ⊢; rw [hv, e2]
    all_goals (simp [eqv] at h)
  · intro x1 x2 w ps cv h hp hv
    cases w
    case undef => simp [CV]
    case int y1 y2 => simp only [eqv] at h; obtain ⟨e, h⟩ := bif_some h; subst h; have e2 := hp _ (List.mem_singleton.2 rfl); simp at e; subst e; rw [← e2]; exact hv
    all_goals (simp [eqv] at h)
  · intro w ps cv h hp hv
    cases w
    case undef => simp [CV]
    case nptr => exact hv
    case ref q m => simp only [eqv, Option.some.injEq] at h; subst h; have e2 := hp _ (List.mem_singleton.2 rfl); subst e2; simp only [CV] at hv ⊢; exact hv
    all_goals (simp [eqv] at h)
  · intro x1 x2 w ps cv h hp hv
    cases w
    case undef => simp [CV]
    case ptr y1 y2 => simp only [eqv] at h; obtain ⟨e, h⟩ := bif_some h; simp only [Bool.and_eq_true] at e; rw [← Nat.eq_of_beq_eq_true e.1, ← Nat.eq_of_beq_eq_true e.2]; exact hv
    all_goals (simp [eqv] at h)
  · intro x1 x2 x3 x4 w ps cv h hp hv
    cases w
    case undef => simp [CV]
    case eptr y1 y2 y3 y4 => simp only [eqv] at h; obtain ⟨e, h⟩ := bif_some h; subst h; have e2 := hp _ (List.mem_singleton.2 rfl); simp only [Bool.and_eq_true] at e; rw [← Nat.eq_of_beq_eq_true e.1.1, ← Nat.eq_of_beq_eq_true e.1.2, ← Nat.eq_of_beq_eq_true e.2, ← e2]; exact hv
    all_goals (simp [eqv] at h)
  · intro x1 x2 x3 x4 w ps cv h hp hv
    cases w
    case undef => simp [CV]
    all_goals (simp [eqv] at h)
  · intro w ps cv h hp hv
    cases w
    case undef => simp [CV]
    case nsl => exact hv
    case lst y1 y2 => simp only [eqv, Option.some.injEq] at h; subst h; have e2 := hp _ (List.mem_singleton.2 rfl); subst e2; simp only [CV] at hv ⊢; subst hv; exact ⟨none, 0, rfl, Nat.le_refl _, ⟨Nat.zero_le _, fun _ => rfl⟩, fun h => absurd h (Nat.lt_irrefl 0)⟩
    case hd q e g => simp only [eqv, Option.some.injEq] at h; subst h; have e2 := hp _ (List.mem_singleton.2 rfl); subst e2; simp only [CV] at hv ⊢; exact ⟨⟨Nat.le_refl _, Nat.zero_le _, fun _ => rfl⟩, hv⟩
    all_goals (simp [eqv] at h)
  · intro x1 w ps cv h hp hv
    cases w
    case undef => simp [CV]
    case sl y1 => simp only [eqv] at h; obtain ⟨e, h⟩ := bif_some h; rw [← Nat.eq_of_beq_eq_true e]; exact hv
    all_goals (simp [eqv] at h)
  · intro x1 x2 w ps cv h hp hv
    cases w
    case undef => simp [CV]
    case pfx y1 y2 => simp only [eqv] at h; obtain ⟨e, h⟩ := bif_some h; subst h; have e2 := hp _ (List.mem_singleton.2 rfl); rw [← Nat.eq_of_beq_eq_true e, ← e2]; exact hv
    all_goals (simp [eqv] at h)
  · intro x1 x2 x3 x4 w ps cv h hp hv
    cases w
    case undef => simp [CV]
    case sub y1 y2 y3 y4 => simp only [eqv] at h; obtain ⟨e, h⟩ := bif_some h; subst h; simp only [Bool.and_eq_true] at e; have e2 := hp (x2 = y2) (by simp); have e3 := hp (x3 = y3) (by simp); rw [← Nat.eq_of_beq_eq_true e.1, ← Nat.eq_of_beq_eq_true e.2, ← e2, ← e3]; exact hv
    all_goals (simp [eqv] at h)
  · intro x1 x2 w ps cv h hp hv
    cases w
    case undef => simp [CV]
    case lst y1 y2 =>
      simp only [eqv] at h
      split at h
      · rename_i he
        subst he
        simp only [Option.some.injEq] at h
        subst h
        have e2 := hp _ (List.mem_singleton.2 rfl)
        rw [← e2]; exact hv
      · cases h
    all_goals (simp [eqv] at h)
  · intro w ps cv h hp hv
    cases w
    case undef => simp [CV]
    case nmap => exact hv
    all_goals (simp [eqv] at h)
  · intro x1 w ps cv h hp hv
    cases w
    case undef => simp [CV]
    case map y1 => simp only [eqv] at h; obtain ⟨e, h⟩ := bif_some h; rw [← Nat.eq_of_beq_eq_true e]; exact hv
    all_goals (simp [eqv] at h)
  · intro x1 x2 x3 w ps cv h hp hv
    cases w
    case undef => simp [CV]
    all_goals (simp [eqv] at h)
  · intro w ps cv h hp hv
    cases w
    case undef => simp [CV]
    case nfn => exact hv
    all_goals (simp [eqv] at h)
  · intro f cs ih w ps cv h hp hv
    cases w
    case undef => simp [CV]
    case fn g ds =>
      simp only [eqv] at h
      cases hb : Nat.beq f g with
      | false => simp [hb] at h
      | true =>
        simp only [hb, cond_true] at h
        rw [← Nat.eq_of_beq_eq_true hb]
        simp only [CV] at hv ⊢
        obtain ⟨l, h1, h2⟩ := hv
        exact ⟨l, h1, ih _ _ _ h hp h2⟩
    all_goals (simp [eqv] at h)
  · intro cs ih w ps cv h hp hv
    cases w
    case undef => simp [CV]
    case agg ds =>
      simp only [eqv] at h
      simp only [CV] at hv ⊢
      obtain ⟨l, h1, h2⟩ := hv
      exact ⟨l, h1, ih _ _ _ h hp h2⟩
    all_goals (simp [eqv] at h)
  · intro cs ih w ps cv h hp hv
    cases w
    case undef => simp [CV]
    case tup ds =>
      simp only [eqv] at h
      simp only [CV] at hv ⊢
      obtain ⟨l, h1, h2⟩ := hv
      exact ⟨l, h1, ih _ _ _ h hp h2⟩
    all_goals (simp [eqv] at h)
  · intro k1 x1 w ps cv h hp hv
    cases w
    case undef => simp [CV]
    all_goals (simp [eqv] at h)
  · intro q n w ps cv h hp hv
    cases w
    case undef => simp [CV]
    case nptr => simp only [eqv, Option.some.injEq] at h; subst h; have e2 := hp _ (List.mem_singleton.2 rfl); subst e2; simp only [CV] at hv ⊢; exact hv
    case ref r m => simp only [eqv] at h; obtain ⟨e, h⟩ := bif_some h; subst h; have e2 := hp _ (List.mem_singleton.2 rfl); rw [← e2]; simp only [CV] at hv ⊢; exact hv
    all_goals (simp [eqv] at h)
  · intro q n o w ps cv h hp hv
    cases w
    case undef => simp [CV]
    case rp r m u => simp only [eqv] at h; obtain ⟨e, h⟩ := bif_some h; subst h; have e2 := hp _ (List.mem_singleton.2 rfl); simp only [Bool.and_eq_true] at e; rw [← e2, ← Nat.eq_of_beq_eq_true e.2]; simp only [CV] at hv ⊢; exact hv
    all_goals (simp [eqv] at h)
  · intro q e g w ps cv h hp hv
    cases w
    case undef => simp [CV]
    case hd r f g' => simp only [eqv] at h; obtain ⟨e, h⟩ := bif_some h; subst h; have e2 := hp _ (List.mem_singleton.2 rfl); rw [← e2]; simp only [CV] at hv ⊢; exact hv
    all_goals (simp [eqv] at h)
  · intro q b i z o w ps cv h hp hv
    cases w
    case undef => simp [CV]
    all_goals (simp [eqv] at h)
  · intro m ps cvs h hp hv
    cases m with
    | nil => exact hv
    | cons w m => simp [eqvL] at h
  · intro v l ih1 ih2 m ps cvs h hp hv
    cases m with
    | nil => simp [eqvL] at h
    | cons w m =>
      simp only [eqvL] at h
      split at h
      · rename_i p q hp1 hq1
        simp only [Option.some.injEq] at h
        subst h
        cases cvs with
        | nil => exact hv.elim
        | cons x cvs => exact ⟨ih1 w p x hp1 (fun r hr => hp r (by simp [hr])) hv.1, ih2 m q cvs hq1 (fun r hr => hp r (by simp [hr])) hv.2⟩
      · cases h

theorem eqi_ok {c : Ctx} {p : Nat} {i j : Itm} {ps : List Prop} (h : eqi i j = some ps) (hp : ∀ q ∈ ps, q) (hi : IOk c p i) : IOk c p j := by
  unfold eqi at h
  split at h
  · trivial
  · rename_i vs us
    obtain ⟨b, l, t, h1, h2, h3, h4⟩ := hi
    refine ⟨b, l, t, h1, h2, ?_, h4⟩
    have : ∀ (vs us : List AV) (ps : List Prop) (l : List Value), eqvL vs us = some ps → (∀ q ∈ ps, q) → CVL c vs l → CVL c us l := by
      intro vs
      induction vs with
      | nil =>
        intro us ps l h hp hv
        cases us with
        | nil => exact hv
        | cons w m => simp [eqvL] at h
      | cons v vs ih =>
        intro us ps l h hp hv
        cases us with
        | nil => simp [eqvL] at h
        | cons w m =>
          simp only [eqvL] at h
          split at h
          · rename_i p q hp1 hq1
            simp only [Option.some.injEq] at h
            subst h
            cases l with
            | nil => exact hv.elim
            | cons x l => exact ⟨eqv_cv v w p x hp1 (fun r hr => hp r (by simp [hr])) hv.1, ih m q l hq1 (fun r hr => hp r (by simp [hr])) hv.2⟩
          · cases h
    exact this vs us ps l h hp h3
  · rename_i t e xs u e' ys
    cases hb : Nat.beq t u with
    | false => simp [hb] at h
    | true =>
      simp only [hb, cond_true] at h
      split at h
      · rename_i he
        subst he
        simp only [Option.some.injEq] at h
        subst h
        have e2 := hp _ (List.mem_singleton.2 rfl)
        rw [← Nat.eq_of_beq_eq_true hb, ← e2]
        exact hi
      · cases h
  · split at h
    · rename_i he
      obtain ⟨rfl, rfl⟩ := he
      simp only [Option.some.injEq] at h
      subst h
      have e2 := hp _ (List.mem_singleton.2 rfl)
      rw [← e2]
      exact hi
    · cases h
  · rename_i q H P hs r J Q gs
    cases hb : Nat.beq q r && hs.isEmpty && gs.isEmpty with
    | false => simp [hb] at h
    | true =>
      rw [hb] at h
      simp only [cond_true] at h
      simp only [Bool.and_eq_true, List.isEmpty_iff] at hb
      split at h
      · rename_i he
        subst he
        simp only [Option.some.injEq] at h
        subst h
        have e2 := hp _ (List.mem_singleton.2 rfl)
        rw [← Nat.eq_of_beq_eq_true hb.1.1, ← e2, hb.2, ← hb.1.2]
        exact hi
      · cases h
  · rename_i q t e P r u f Q
    cases hb : Nat.beq q r && Nat.beq t u with
    | false => simp [hb] at h
    | true =>
      rw [hb] at h
      simp only [cond_true] at h
      simp only [Bool.and_eq_true] at hb
      split at h
      · rename_i he
        subst he
        simp only [Option.some.injEq] at h
        subst h
        have e2 := hp _ (List.mem_singleton.2 rfl)
        rw [← Nat.eq_of_beq_eq_true hb.1, ← Nat.eq_of_beq_eq_true hb.2, ← e2]
        exact hi
      · cases h
  · rename_i m k v l now n k' v' l'
    cases hb : Nat.beq m n with
    | false => simp [hb] at h
    | true =>
      simp only [hb, cond_true] at h
      split at h
      · rename_i he
        obtain ⟨rfl, rfl⟩ := he
        simp only [Option.some.injEq] at h
        subst h
        have e2 := hp _ (List.mem_singleton.2 rfl)
        rw [← Nat.eq_of_beq_eq_true hb, ← e2]
        obtain ⟨b, mb, seen, es, clock, h1, h2, h3, h4, h5, h6, h7, h8, h9, h10⟩ := hi
        exact ⟨b, mb, seen, es, clock, h1, h2, h3, h4, h5, h6, h7, h8, (fun e he => nomatch he), h10⟩
      · cases h
  · cases h
end Go.Proofs.Ytljimnhijpcjaaa.VC
