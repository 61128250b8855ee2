/- What is read as data is data, of which less may be said. Definitions and plain lemmas; no conditions but those that each names. -/
import Derived.Test.YtljimnhijpcjaaaVc
set_option linter.unusedVariables false
namespace Go.Proofs.Ytljimnhijpcjaaa.VC
open Go

def AT.av : (a : AT) → a.den → AV
  | .v t, d => t.av d
  | .p i, _ => .ptr i 0
  | .s i, _ => .sl i
  | .m i, _ => .map i
  | .nil, _ => .nptr
  | .lit k n, _ => .int k n
  | .fn0 f, _ => .fn f []
  | .px i, (n : Nat) => .pfx i n
  | .po i o, _ => .ptr i o
def AT.rd : (a : AT) → AV → Option a.den
  | .v t, x => t.ofAV x
  | .p i, x => rdP i x
  | .s i, x => rdS i x
  | .m i, x => rdM i x
  | .nil, x => rdN x
  | .lit k n, x => rdL k n x
  | .fn0 f, x => rdF f x
  | .px i, x => rdX i x
  | .po i o, x => rdPO i o x
def ATavs : (l : List AT) → ATden l → List AV
  | [], _ => []
  | a :: l, d => a.av d.1 :: ATavs l d.2
def ATrds : (l : List AT) → List AV → Option (ATden l)
  | [], [] => some ()
  | a :: l, x :: xs => match a.rd x, ATrds l xs with
    | some d, some e => some (d, e)
    | _, _ => none
  | _, _ => none

theorem AV.LeL.append : ∀ {a b c d : List AV}, AV.LeL a b → AV.LeL c d → AV.LeL (a ++ c) (b ++ d)
  | _, _, _, _, .nil, h => h
  | _, _, _, _, .cons x y, h => .cons x (y.append h)

theorem decI_le {k : IntKind} {cs : List AV} {d : Int} (h : decI k cs = some d) : cs = [.int k d] := by
  unfold decI at h
  split at h
  · split at h
    · rename_i e; subst e; simp at h; rw [h]
    · cases h
  · cases h
theorem decB_le {cs : List AV} {d : Bool} (h : decB cs = some d) : AV.LeL cs [.bool d] := by
  unfold decB at h
  split at h
  · simp at h; subst h; exact .cons .tt .nil
  · simp at h; subst h; exact .cons .ff .nil
  · simp at h; subst h; exact .refl _
  · cases h
theorem decS_le {e : Ty} {cs : List AV} {d : List e.den} (h : decS e cs = some d) : AV.LeL cs [.lst e d] := by
  unfold decS at h
  split at h
  · simp at h; subst h; exact .cons (.nsl e) .nil
  · split at h
    · rename_i e; subst e; simp at h; subst h; exact .refl _
    · cases h
  · cases h
theorem decR_le {q : Nat} {cs : List AV} {d : Nat} (h : decR q cs = some d) : AV.LeL cs [.ref q d] := by
  unfold decR at h
  split at h
  · simp at h; subst h; exact .cons (.nref q) .nil
  · rename_i q' n
    cases hb : Nat.beq q' q with
    | false => rw [hb] at h; cases h
    | true => rw [hb] at h; simp at h; rw [Nat.eq_of_beq_eq_true hb, h]; exact .refl _
  · cases h
theorem decH_le {q : Nat} {e : Ty} {cs : List AV} {d : Lh} (h : decH q e cs = some d) : AV.LeL cs [.hd q e d] := by
  unfold decH at h
  split at h
  · simp at h; subst h; exact .cons (.nhd q e) .nil
  · rename_i q' e' l
    cases hb : Nat.beq q' q && decide (e' = e) with
    | false => rw [hb] at h; cases h
    | true =>
      rw [hb] at h
      simp only [Bool.and_eq_true, decide_eq_true_eq] at hb
      obtain ⟨hb1, rfl⟩ := hb
      simp at h; rw [Nat.eq_of_beq_eq_true hb1, h]; exact .refl _
  · cases h
theorem Ty.dec_le : ∀ (t : Ty) (cs : List AV) (d : t.den), t.dec cs = some d → AV.LeL cs (t.enc d)
  | .int k, cs, d, h => .of_eq (decI_le h)
  | .bool, cs, d, h => decB_le h
  | .unit, cs, d, h => by
    simp only [Ty.dec] at h
    unfold decU at h
    split at h
    · exact .nil
    · cases h
  | .pair a b, cs, d, h => by
    simp only [Ty.dec] at h
    split at h
    · rename_i x y h1 h2
      simp at h; subst h
      have := AV.LeL.append (Ty.dec_le a _ _ h1) (Ty.dec_le b _ _ h2)
      rwa [List.take_append_drop] at this
    · cases h
  | .slice e, cs, d, h => decS_le h
  | .ref q, cs, d, h => decR_le h
  | .hdr q e, cs, d, h => decH_le h
theorem Ty.ofAV_le {t : Ty} {x : AV} {d : t.den} (h : t.ofAV x = some d) : AV.Le x (t.av d) := by
  have one : ∀ {w : AV}, AV.LeL [x] [w] → AV.Le x w := fun h => by cases h with | cons h _ => exact h
  unfold Ty.ofAV at h
  split at h
  · split at h
    · rename_i cs ha
      have := Ty.dec_le t _ _ h
      cases t with
      | unit => exact .agg this
      | pair a b => exact .agg this
      | int k => cases ha
      | bool => cases ha
      | slice e => cases ha
      | ref q => cases ha
      | hdr q e => cases ha
    · cases h
  · split at h
    · cases h
    · have := Ty.dec_le t _ _ h
      cases t with
      | unit => rename_i ha; exact absurd rfl ha
      | pair a b => rename_i ha; exact absurd rfl ha
      | int k => exact one this
      | bool => exact one this
      | slice e => exact one this
      | ref q => exact one this
      | hdr q e => exact one this

theorem rdP_le {i : Nat} {x : AV} {d : Unit} (h : rdP i x = some d) : x = .ptr i 0 := by
  unfold rdP at h
  split at h
  · rename_i j
    cases hb : Nat.beq j i with
    | true => rw [Nat.eq_of_beq_eq_true hb]
    | false => rw [hb] at h; cases h
  · cases h
theorem rdS_le {i : Nat} {x : AV} {d : Unit} (h : rdS i x = some d) : x = .sl i := by
  unfold rdS at h
  split at h
  · rename_i j
    cases hb : Nat.beq j i with
    | true => rw [Nat.eq_of_beq_eq_true hb]
    | false => rw [hb] at h; cases h
  · cases h
theorem rdM_le {i : Nat} {x : AV} {d : Unit} (h : rdM i x = some d) : x = .map i := by
  unfold rdM at h
  split at h
  · rename_i j
    cases hb : Nat.beq j i with
    | true => rw [Nat.eq_of_beq_eq_true hb]
    | false => rw [hb] at h; cases h
  · cases h
theorem rdN_le {x : AV} {d : Unit} (h : rdN x = some d) : x = .nptr := by
  unfold rdN at h
  split at h
  · rfl
  · cases h
theorem rdL_le {k : IntKind} {n : Nat} {x : AV} {d : Unit} (h : rdL k n x = some d) : x = .int k n := by
  unfold rdL at h
  split at h
  · rename_i j m
    cases hb : Nat.beq m n && decide (j = k) with
    | true =>
      simp only [Bool.and_eq_true, decide_eq_true_eq] at hb
      rw [Nat.eq_of_beq_eq_true hb.1, hb.2]; rfl
    | false => rw [hb] at h; cases h
  · cases h
theorem rdF_le {f : FuncId} {x : AV} {d : Unit} (h : rdF f x = some d) : x = .fn f [] := by
  unfold rdF at h
  split at h
  · rename_i g
    cases hb : Nat.beq g f with
    | true => rw [Nat.eq_of_beq_eq_true hb]
    | false => rw [hb] at h; cases h
  · cases h
theorem rdX_le {i : Nat} {x : AV} {d : Nat} (h : rdX i x = some d) : x = .pfx i d := by
  unfold rdX at h
  split at h
  · rename_i j n
    cases hb : Nat.beq j i with
    | true => rw [hb] at h; simp at h; rw [Nat.eq_of_beq_eq_true hb, h]
    | false => rw [hb] at h; cases h
  · cases h
theorem rdPO_le {i o : Nat} {x : AV} {d : Unit} (h : rdPO i o x = some d) : x = .ptr i o := by
  unfold rdPO at h
  split at h
  · rename_i j u
    cases hb : Nat.beq j i && Nat.beq u o with
    | true =>
      simp only [Bool.and_eq_true] at hb
      rw [Nat.eq_of_beq_eq_true hb.1, Nat.eq_of_beq_eq_true hb.2]
    | false => rw [hb] at h; cases h
  · cases h
theorem AT.rd_le : ∀ {a : AT} {x : AV} {d : a.den}, a.rd x = some d → AV.Le x (a.av d)
  | .v t, x, d, h => Ty.ofAV_le h
  | .p i, x, d, h => rdP_le h ▸ .rfl _
  | .s i, x, d, h => rdS_le h ▸ .rfl _
  | .m i, x, d, h => rdM_le h ▸ .rfl _
  | .nil, x, d, h => rdN_le h ▸ .rfl _
  | .lit k n, x, d, h => rdL_le h ▸ .rfl _
  | .fn0 f, x, d, h => rdF_le h ▸ .rfl _
  | .px i, x, d, h => rdX_le h ▸ .rfl _
  | .po i o, x, d, h => rdPO_le h ▸ .rfl _
theorem hd1_le {α : Type} {f : AV → Option α} {l : List AV} {d : α} (h : hd1 f l = some d) : ∃ x, l = [x] ∧ f x = some d := by
  unfold hd1 at h
  split at h
  · exact ⟨_, rfl, h⟩
  · cases h
theorem AT.dec_le : ∀ {a : AT} {x : List AV} {d : a.den}, a.dec x = some d → AV.LeL x (a.enc d)
  | .v t, x, d, h => Ty.dec_le t _ _ h
  | .p i, x, d, h => by obtain ⟨y, rfl, h⟩ := hd1_le h; rw [rdP_le h]; exact .refl _
  | .s i, x, d, h => by obtain ⟨y, rfl, h⟩ := hd1_le h; rw [rdS_le h]; exact .refl _
  | .m i, x, d, h => by obtain ⟨y, rfl, h⟩ := hd1_le h; rw [rdM_le h]; exact .refl _
  | .nil, x, d, h => by obtain ⟨y, rfl, h⟩ := hd1_le h; rw [rdN_le h]; exact .refl _
  | .lit k n, x, d, h => by obtain ⟨y, rfl, h⟩ := hd1_le h; rw [rdL_le h]; exact .refl _
  | .fn0 f, x, d, h => by obtain ⟨y, rfl, h⟩ := hd1_le h; rw [rdF_le h]; exact .refl _
  | .px i, x, d, h => by obtain ⟨y, rfl, h⟩ := hd1_le h; rw [rdX_le h]; exact .refl _
  | .po i o, x, d, h => by obtain ⟨y, rfl, h⟩ := hd1_le h; rw [rdPO_le h]; exact .refl _
theorem ATrds_le : ∀ {l : List AT} {xs : List AV} {d : ATden l}, ATrds l xs = some d → AV.LeL xs (ATavs l d)
  | [], [], d, h => .nil
  | a :: l, x :: xs, d, h => by
    simp only [ATrds] at h
    split at h
    · rename_i h1 h2
      simp at h; subst h
      exact .cons (AT.rd_le h1) (ATrds_le h2)
    · cases h
  | [], _ :: _, _, h => by simp [ATrds] at h
  | _ :: _, [], _, h => by simp [ATrds] at h
theorem ATdec_le : ∀ {l : List AT} {xs : List AV} {d : ATden l}, ATdec l xs = some d → AV.LeL xs (ATenc l d)
  | [], [], d, h => .nil
  | [], _ :: _, _, h => by simp [ATdec] at h
  | a :: l, xs, d, h => by
    simp only [ATdec] at h
    split at h
    · rename_i h1 h2
      simp at h; subst h
      have := AV.LeL.append (AT.dec_le h1) (ATdec_le h2)
      rwa [List.take_append_drop] at this
    · cases h
theorem HT.rd_le : ∀ {h : HT} {it : Itm} {d : h.den}, h.rd it = some d → Itm.Le it (h.itm d)
  | .cells l, .cells vs, d, h => .cells (ATdec_le h)
  | .arr t e, .arr u e' xs, d, h => by
    simp only [HT.rd] at h
    split at h
    · rename_i he
      subst he
      cases hb : Nat.beq u t with
      | true => rw [hb] at h; simp at h; rw [Nat.eq_of_beq_eq_true hb, ← h]; exact .rfl _
      | false => rw [hb] at h; cases h
    · cases h
  | .mapo k v, .mapo k' v' E, d, h => by
    simp only [HT.rd] at h
    split at h
    · rename_i he
      obtain ⟨rfl, rfl⟩ := he
      simp at h; rw [← h]; exact .rfl _
    · cases h
  | .cells _, .gone, _, h => by simp [HT.rd] at h
  | .cells _, .arr .., _, h => by simp [HT.rd] at h
  | .cells _, .mapo .., _, h => by simp [HT.rd] at h
  | .cells _, .iter .., _, h => by simp [HT.rd] at h
  | .cells _, .pool .., _, h => by simp [HT.rd] at h
  | .cells _, .apool .., _, h => by simp [HT.rd] at h
  | .arr .., .gone, _, h => by simp [HT.rd] at h
  | .arr .., .cells _, _, h => by simp [HT.rd] at h
  | .arr .., .mapo .., _, h => by simp [HT.rd] at h
  | .arr .., .iter .., _, h => by simp [HT.rd] at h
  | .arr .., .pool .., _, h => by simp [HT.rd] at h
  | .arr .., .apool .., _, h => by simp [HT.rd] at h
  | .mapo .., .gone, _, h => by simp [HT.rd] at h
  | .mapo .., .cells _, _, h => by simp [HT.rd] at h
  | .mapo .., .arr .., _, h => by simp [HT.rd] at h
  | .mapo .., .iter .., _, h => by simp [HT.rd] at h
  | .mapo .., .pool .., _, h => by simp [HT.rd] at h
  | .mapo .., .apool .., _, h => by simp [HT.rd] at h
theorem HTrds_le : ∀ {l : List HT} {xs : List Itm} {d : HTden l}, HTrds l xs = some d → Itm.LeL xs (HTitms l d)
  | [], [], d, h => .nil
  | a :: l, x :: xs, d, h => by
    simp only [HTrds] at h
    split at h
    · rename_i h1 h2
      simp at h; subst h
      exact .cons (HT.rd_le h1) (HTrds_le h2)
    · cases h
  | [], _ :: _, _, h => by simp [HTrds] at h
  | _ :: _, [], _, h => by simp [HTrds] at h


/-! ### Pools -/

/-- A pool, as a place of its own. -/
inductive PT where
  | pool (q : Nat) (H : List HT) | apool (q : Nat) (t : TypeId) (e : Ty)
@[reducible] def PT.den : PT → Type
  | .pool _ H => List (Nat × HTden H)
  | .apool _ _ e => List (Nat × Nat × List e.den)
def PT.itm : (p : PT) → p.den → Itm
  | .pool q H, P => .pool q H P []
  | .apool q t e, P => .apool q t e P
def PT.q : PT → Nat
  | .pool q _ => q
  | .apool q _ _ => q
def PT.rd : (p : PT) → Itm → Option p.den
  | .pool q H, .pool r J P [] => if h : J = H then (bif Nat.beq r q then some (h ▸ P) else none) else none
  | .apool q t e, .apool r u f P => if h : f = e then (bif Nat.beq r q && Nat.beq u t then some (h ▸ P) else none) else none
  | _, _ => none
@[reducible] def PTden : List PT → Type
  | [] => Unit
  | a :: l => a.den × PTden l
def PTitms : (l : List PT) → PTden l → List Itm
  | [], _ => []
  | a :: l, d => a.itm d.1 :: PTitms l d.2
def PTrds : (l : List PT) → List Itm → Option (PTden l)
  | [], [] => some ()
  | a :: l, x :: xs => match a.rd x, PTrds l xs with
    | some d, some e => some (d, e)
    | _, _ => none
  | _, _ => none
theorem PT.rd_le {p : PT} {it : Itm} {d : p.den} (h : p.rd it = some d) : it = p.itm d := by
  unfold PT.rd at h
  split at h
  · rename_i q H r J P
    split at h
    · rename_i he
      subst he
      cases hb : Nat.beq r q with
      | true => rw [hb] at h; simp at h; rw [Nat.eq_of_beq_eq_true hb, ← h]; rfl
      | false => rw [hb] at h; cases h
    · cases h
  · rename_i q t e r u f P
    split at h
    · rename_i he
      subst he
      cases hb : Nat.beq r q && Nat.beq u t with
      | true =>
        rw [hb] at h; simp at h
        simp only [Bool.and_eq_true] at hb
        rw [Nat.eq_of_beq_eq_true hb.1, Nat.eq_of_beq_eq_true hb.2, ← h]; rfl
      | false => rw [hb] at h; cases h
    · cases h
  · cases h
theorem PTrds_le : ∀ {l : List PT} {xs : List Itm} {d : PTden l}, PTrds l xs = some d → Itm.LeL xs (PTitms l d)
  | [], [], d, h => .nil
  | a :: l, x :: xs, d, h => by
    simp only [PTrds] at h
    split at h
    · rename_i h1 h2
      simp at h; subst h
      exact .cons (PT.rd_le h1 ▸ .rfl _) (PTrds_le h2)
    · cases h
  | [], _ :: _, _, h => by simp [PTrds] at h
  | _ :: _, [], _, h => by simp [PTrds] at h
theorem Itm.LeL.append : ∀ {a b c d : List Itm}, Itm.LeL a b → Itm.LeL c d → Itm.LeL (a ++ c) (b ++ d)
  | _, _, _, _, .nil, h => h
  | _, _, _, _, .cons x y, h => .cons x (y.append h)
end Go.Proofs.Ytljimnhijpcjaaa.VC
