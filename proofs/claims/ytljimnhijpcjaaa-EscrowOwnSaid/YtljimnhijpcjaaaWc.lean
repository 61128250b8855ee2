/- What kind of data a type has, and that an argument of it reads so. Plain lemmas; no conditions but those that each names. -/
import Derived.Test.YtljimnhijpcjaaaVz
set_option linter.unusedVariables false
set_option linter.unusedSimpArgs false
namespace Go.Proofs.Ytljimnhijpcjaaa.VC
open Go Go.RowKit Go.Deep Go.WideShapes

def kindsOf (f : TypeId → Option Ty) (P : Program) : List Field → Nat → Option Ty
  | [], _ => none
  | [x], off => match f x.type with
    | some e => bif Nat.beq x.offset off && Nat.beq (P.cellsOf x.type) e.sz then some e else none
    | none => none
  | x :: y :: l, off => match f x.type with
    | some e => match kindsOf f P (y :: l) (off + e.sz) with
      | some r => bif Nat.beq x.offset off && Nat.beq (P.cellsOf x.type) e.sz && (y :: l).all (fun g => Nat.ble (off + e.sz) g.offset) then some (.pair e r) else none
      | none => none
    | none => none
/-- The kind of a type's data, if it is one that is spoken of. -/
def kindOf (P : Program) : Nat → TypeId → Option Ty
  | 0, _ => none
  | n + 1, t => match P.underlying t with
    | some (.int k) => some (.int k)
    | some .bool => some .bool
    | some (.slice u) => match kindOf P n u with
      | some e => bif Nat.beq (P.cellsOf u) e.sz then some (.slice e) else none
      | none => none
    | some (.struct fs) => match kindsOf (kindOf P n) P fs.toList 0 with
      | some e => bif Nat.beq (P.cellsOf t) e.sz && e.agg then some e else none
      | none => none
    | _ => none

section
variable {H : Type} {P : Program} {enc : TypeId × Value → H} {w : World} {base : Nat} {spare : Nat → Bool} {held : Bool}

theorem segs_of {f : TypeId → Option Ty} (hf : ∀ t e, f t = some e → Rd enc P w base spare held e t) : ∀ (l : List Field) (off : Nat) (e : Ty), kindsOf f P l off = some e → Segs enc P w base spare held e l off
  | [], _, _, h => by simp [kindsOf] at h
  | [x], off, e, h => by
    simp only [kindsOf] at h
    split at h
    · rename_i e' he
      cases hb : Nat.beq x.offset off && Nat.beq (P.cellsOf x.type) e'.sz with
      | false => rw [hb] at h; cases h
      | true =>
        rw [hb] at h
        simp only [cond_true, Option.some.injEq] at h
        subst h
        simp only [Bool.and_eq_true] at hb
        exact segs_one (Nat.eq_of_beq_eq_true hb.1) (Nat.eq_of_beq_eq_true hb.2) (hf _ _ he)
    · cases h
  | x :: y :: l, off, e, h => by
    simp only [kindsOf] at h
    split at h
    · rename_i e' he
      split at h
      · rename_i r hr
        cases hb : Nat.beq x.offset off && Nat.beq (P.cellsOf x.type) e'.sz && (y :: l).all (fun g => Nat.ble (off + e'.sz) g.offset) with
        | false => rw [hb] at h; cases h
        | true =>
          rw [hb] at h
          simp only [cond_true, Option.some.injEq] at h
          subst h
          simp only [Bool.and_eq_true] at hb
          exact segs_cons (Nat.eq_of_beq_eq_true hb.1.1) (Nat.eq_of_beq_eq_true hb.1.2) (fun g hg => Nat.le_of_ble_eq_true (List.all_eq_true.1 hb.2 g hg)) (hf _ _ he) (segs_of hf (y :: l) _ _ hr)
      · cases h
    · cases h
theorem rd_of : ∀ (n : Nat) (t : TypeId) (e : Ty), kindOf P n t = some e → Rd enc P w base spare held e t
  | 0, _, _, h => by simp [kindOf] at h
  | n + 1, t, e, h => by
    simp only [kindOf] at h
    split at h
    · rename_i k hu
      simp at h; subst h
      exact rd_int hu
    · rename_i hu
      simp at h; subst h
      exact rd_bool hu
    · rename_i u hu
      split at h
      · rename_i e' he
        cases hb : Nat.beq (P.cellsOf u) e'.sz with
        | false => rw [hb] at h; cases h
        | true =>
          rw [hb] at h
          simp only [cond_true, Option.some.injEq] at h
          subst h
          exact rd_slice hu (Nat.eq_of_beq_eq_true hb) (rd_of n u _ he)
      · cases h
    · rename_i fs hu
      split at h
      · rename_i e' he
        cases hb : Nat.beq (P.cellsOf t) e'.sz && e'.agg with
        | false => rw [hb] at h; cases h
        | true =>
          rw [hb] at h
          simp only [cond_true, Option.some.injEq] at h
          subst h
          simp only [Bool.and_eq_true] at hb
          exact rd_struct hu (Nat.eq_of_beq_eq_true hb.1) (segs_of (rd_of n) _ _ _ he)
      · cases h
    · cases h
/-- An argument of a kind that is spoken of, opened. -/
theorem arg_of {r : Reach} {b0 : Nat} {t : TypeId} {v : Value} {x : DataW H} {p : List MemPlace} (n : Nat) {e : Ty} (hk : kindOf P (n + 1) t = some e) (hv : Value.okWide P w r b0 t v) (h : DataW.Trod enc P w base spare held t v x p) :
    ∃ a : e.den, CV (ctx0 w) (e.av a) v := by
  have hrd : Rd enc P w base spare held e t := rd_of (n + 1) t e hk
  simp only [kindOf] at hk
  split at hk
  · rename_i k hu
    simp at hk; subst hk
    exact arg_int hu hv h
  · rename_i hu
    simp at hk; subst hk
    exact arg_bool hu hv h
  · rename_i u hu
    split at hk
    · rename_i e' he
      cases hb : Nat.beq (P.cellsOf u) e'.sz with
      | false => rw [hb] at hk; cases hk
      | true =>
        rw [hb] at hk
        simp only [cond_true, Option.some.injEq] at hk
        subst hk
        exact arg_slice hu hrd hv h
    · cases hk
  · rename_i fs hu
    split at hk
    · rename_i e' he
      cases hb : Nat.beq (P.cellsOf t) e'.sz && e'.agg with
      | false => rw [hb] at hk; cases hk
      | true =>
        rw [hb] at hk
        simp only [cond_true, Option.some.injEq] at hk
        subst hk
        simp only [Bool.and_eq_true] at hb
        exact arg_struct hu hb.2 hrd hv h
    · cases hk
  · cases hk
end
end Go.Proofs.Ytljimnhijpcjaaa.VC
