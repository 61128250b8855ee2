/- How arguments are told from their kinds: specifications by signature. Definitions and plain lemmas; no conditions but those that each names. -/
import Derived.Test.YtncecddhknfimaaVc
set_option linter.unusedVariables false
namespace Go.Proofs.Ytncecddhknfimaa.VC
open Go

/-- An argument: data; a pointer to a place; a list of one's own; a map; nil. -/
inductive AT where
  | v (t : Ty) | p (i : Nat) | s (i : Nat) | m (i : Nat) | nil | lit (k : IntKind) (n : Nat) | fn0 (f : FuncId)
@[reducible] def AT.den : AT → Type
  | .v t => t.den
  | _ => Unit
def AT.sz : AT → Nat
  | .v t => t.sz
  | _ => 1
def AT.av : (a : AT) → a.den → AV
  | .v t, d => t.av d
  | .p i, _ => .ptr i 0
  | .s i, _ => .sl i
  | .m i, _ => .map i
  | .nil, _ => .nptr
  | .lit k n, _ => .int k n
  | .fn0 f, _ => .fn f []
def AT.enc : (a : AT) → a.den → List AV
  | .v t, d => t.enc d
  | .p i, _ => [.ptr i 0]
  | .s i, _ => [.sl i]
  | .m i, _ => [.map i]
  | .nil, _ => [.nptr]
  | .lit k n, _ => [.int k n]
  | .fn0 f, _ => [.fn f []]
def rdP (i : Nat) : AV → Option Unit
  | .ptr j 0 => bif Nat.beq j i then some () else none
  | _ => none
def rdS (i : Nat) : AV → Option Unit
  | .sl j => bif Nat.beq j i then some () else none
  | _ => none
def rdM (i : Nat) : AV → Option Unit
  | .map j => bif Nat.beq j i then some () else none
  | _ => none
def rdN : AV → Option Unit
  | .nptr => some ()
  | _ => none
def rdL (k : IntKind) (n : Nat) : AV → Option Unit
  | .int j (.ofNat m) => bif Nat.beq m n && decide (j = k) then some () else none
  | _ => none
def rdF (f : FuncId) : AV → Option Unit
  | .fn g [] => bif Nat.beq g f then some () else none
  | _ => none
def AT.rd : (a : AT) → AV → Option a.den
  | .v t, x => t.ofAV x
  | .p i, x => rdP i x
  | .s i, x => rdS i x
  | .m i, x => rdM i x
  | .nil, x => rdN x
  | .lit k n, x => rdL k n x
  | .fn0 f, x => rdF f x
def hd1 (f : AV → Option Unit) : List AV → Option Unit
  | [x] => f x
  | _ => none
def AT.dec : (a : AT) → List AV → Option a.den
  | .v t, x => t.dec x
  | .p i, x => hd1 (rdP i) x
  | .s i, x => hd1 (rdS i) x
  | .m i, x => hd1 (rdM i) x
  | .nil, x => hd1 rdN x
  | .lit k n, x => hd1 (rdL k n) x
  | .fn0 f, x => hd1 (rdF f) x

@[reducible] def ATden : List AT → Type
  | [] => Unit
  | a :: l => a.den × ATden l
def ATavs : (l : List AT) → ATden l → List AV
  | [], _ => []
  | a :: l, d => a.av d.1 :: ATavs l d.2
def ATrds : (l : List AT) → List AV → Option (ATden l)
  | [], [] => some ()
  | a :: l, x :: xs => match a.rd x, ATrds l xs with
    | some d, some e => some (d, e)
    | _, _ => none
  | _, _ => none
def ATenc : (l : List AT) → ATden l → List AV
  | [], _ => []
  | a :: l, d => a.enc d.1 ++ ATenc l d.2
def ATdec : (l : List AT) → List AV → Option (ATden l)
  | [], [] => some ()
  | [], _ :: _ => none
  | a :: l, xs => match a.dec (xs.take a.sz), ATdec l (xs.drop a.sz) with
    | some d, some e => some (d, e)
    | _, _ => none

/-- A place: a struct's cells; a list; a map. -/
inductive HT where
  | cells (l : List AT) | arr (t : TypeId) (e : Ty) | mapo (k v : Ty)
@[reducible] def HT.den : HT → Type
  | .cells l => ATden l
  | .arr _ e => List e.den
  | .mapo k v => List (k.den × v.den)
def HT.itm : (h : HT) → h.den → Itm
  | .cells l, d => .cells (ATenc l d)
  | .arr t e, xs => .arr t e xs
  | .mapo k v, E => .mapo k v E
def HT.rd : (h : HT) → Itm → Option h.den
  | .cells l, .cells vs => ATdec l vs
  | .arr t e, .arr u e' xs => if h : e' = e then (bif Nat.beq u t then some (h ▸ xs) else none) else none
  | .mapo k v, .mapo k' v' E => if h : k' = k ∧ v' = v then some (h.1 ▸ h.2 ▸ E) else none
  | _, _ => none
@[reducible] def HTden : List HT → Type
  | [] => Unit
  | a :: l => a.den × HTden l
def HTitms : (l : List HT) → HTden l → List Itm
  | [], _ => []
  | a :: l, d => a.itm d.1 :: HTitms l d.2
def HTrds : (l : List HT) → List Itm → Option (HTden l)
  | [], [] => some ()
  | a :: l, x :: xs => match a.rd x, HTrds l xs with
    | some d, some e => some (d, e)
    | _, _ => none
  | _, _ => none

theorem AV.LeL.append : ∀ {a b c d : List AV}, AV.LeL a b → AV.LeL c d → AV.LeL (a ++ c) (b ++ d)
  | _, _, _, _, .nil, h => h
  | _, _, _, _, .cons x y, h => .cons x (y.append h)

theorem decI_le {k : IntKind} {cs : List AV} {d : Int} (h : decI k cs = some d) : cs = [.int k d] := by
  unfold decI at h
  split at h
  · split at h
    · rename_i e; subst e; simp at h; rw [h]
    · cases h
  · cases h
theorem decB_le {cs : List AV} {d : Bool} (h : decB cs = some d) : AV.LeL cs [.bool d] := by
  unfold decB at h
  split at h
  · simp at h; subst h; exact .cons .tt .nil
  · simp at h; subst h; exact .cons .ff .nil
  · simp at h; subst h; exact .refl _
  · cases h
theorem decS_le {e : Ty} {cs : List AV} {d : List e.den} (h : decS e cs = some d) : AV.LeL cs [.lst e d] := by
  unfold decS at h
  split at h
  · simp at h; subst h; exact .cons (.nsl e) .nil
  · split at h
    · rename_i e; subst e; simp at h; subst h; exact .refl _
    · cases h
  · cases h
theorem Ty.dec_le : ∀ (t : Ty) (cs : List AV) (d : t.den), t.dec cs = some d → AV.LeL cs (t.enc d)
  | .int k, cs, d, h => .of_eq (decI_le h)
  | .bool, cs, d, h => decB_le h
  | .unit, cs, d, h => by
    simp only [Ty.dec] at h
    unfold decU at h
    split at h
    · exact .nil
    · cases h
  | .pair a b, cs, d, h => by
    simp only [Ty.dec] at h
    split at h
    · rename_i x y h1 h2
      simp at h; subst h
      have := AV.LeL.append (Ty.dec_le a _ _ h1) (Ty.dec_le b _ _ h2)
      rwa [List.take_append_drop] at this
    · cases h
  | .slice e, cs, d, h => decS_le h
theorem Ty.ofAV_le {t : Ty} {x : AV} {d : t.den} (h : t.ofAV x = some d) : AV.Le x (t.av d) := by
  have one : ∀ {w : AV}, AV.LeL [x] [w] → AV.Le x w := fun h => by cases h with | cons h _ => exact h
  unfold Ty.ofAV at h
  split at h
  · split at h
    · rename_i cs ha
      have := Ty.dec_le t _ _ h
      cases t with
      | unit => exact .agg this
      | pair a b => exact .agg this
      | int k => cases ha
      | bool => cases ha
      | slice e => cases ha
    · cases h
  · split at h
    · cases h
    · have := Ty.dec_le t _ _ h
      cases t with
      | unit => rename_i ha; exact absurd rfl ha
      | pair a b => rename_i ha; exact absurd rfl ha
      | int k => exact one this
      | bool => exact one this
      | slice e => exact one this

theorem rdP_le {i : Nat} {x : AV} {d : Unit} (h : rdP i x = some d) : x = .ptr i 0 := by
  unfold rdP at h
  split at h
  · rename_i j
    cases hb : Nat.beq j i with
    | true => rw [Nat.eq_of_beq_eq_true hb]
    | false => rw [hb] at h; cases h
  · cases h
theorem rdS_le {i : Nat} {x : AV} {d : Unit} (h : rdS i x = some d) : x = .sl i := by
  unfold rdS at h
  split at h
  · rename_i j
    cases hb : Nat.beq j i with
    | true => rw [Nat.eq_of_beq_eq_true hb]
    | false => rw [hb] at h; cases h
  · cases h
theorem rdM_le {i : Nat} {x : AV} {d : Unit} (h : rdM i x = some d) : x = .map i := by
  unfold rdM at h
  split at h
  · rename_i j
    cases hb : Nat.beq j i with
    | true => rw [Nat.eq_of_beq_eq_true hb]
    | false => rw [hb] at h; cases h
  · cases h
theorem rdN_le {x : AV} {d : Unit} (h : rdN x = some d) : x = .nptr := by
  unfold rdN at h
  split at h
  · rfl
  · cases h
theorem rdL_le {k : IntKind} {n : Nat} {x : AV} {d : Unit} (h : rdL k n x = some d) : x = .int k n := by
  unfold rdL at h
  split at h
  · rename_i j m
    cases hb : Nat.beq m n && decide (j = k) with
    | true =>
      simp only [Bool.and_eq_true, decide_eq_true_eq] at hb
      rw [Nat.eq_of_beq_eq_true hb.1, hb.2]; rfl
    | false => rw [hb] at h; cases h
  · cases h
theorem rdF_le {f : FuncId} {x : AV} {d : Unit} (h : rdF f x = some d) : x = .fn f [] := by
  unfold rdF at h
  split at h
  · rename_i g
    cases hb : Nat.beq g f with
    | true => rw [Nat.eq_of_beq_eq_true hb]
    | false => rw [hb] at h; cases h
  · cases h
theorem AT.rd_le : ∀ {a : AT} {x : AV} {d : a.den}, a.rd x = some d → AV.Le x (a.av d)
  | .v t, x, d, h => Ty.ofAV_le h
  | .p i, x, d, h => rdP_le h ▸ .rfl _
  | .s i, x, d, h => rdS_le h ▸ .rfl _
  | .m i, x, d, h => rdM_le h ▸ .rfl _
  | .nil, x, d, h => rdN_le h ▸ .rfl _
  | .lit k n, x, d, h => rdL_le h ▸ .rfl _
  | .fn0 f, x, d, h => rdF_le h ▸ .rfl _
theorem hd1_le {f : AV → Option Unit} {l : List AV} {d : Unit} (h : hd1 f l = some d) : ∃ x, l = [x] ∧ f x = some d := by
  unfold hd1 at h
  split at h
  · exact ⟨_, rfl, h⟩
  · cases h
theorem AT.dec_le : ∀ {a : AT} {x : List AV} {d : a.den}, a.dec x = some d → AV.LeL x (a.enc d)
  | .v t, x, d, h => Ty.dec_le t _ _ h
  | .p i, x, d, h => by obtain ⟨y, rfl, h⟩ := hd1_le h; rw [rdP_le h]; exact .refl _
  | .s i, x, d, h => by obtain ⟨y, rfl, h⟩ := hd1_le h; rw [rdS_le h]; exact .refl _
  | .m i, x, d, h => by obtain ⟨y, rfl, h⟩ := hd1_le h; rw [rdM_le h]; exact .refl _
  | .nil, x, d, h => by obtain ⟨y, rfl, h⟩ := hd1_le h; rw [rdN_le h]; exact .refl _
  | .lit k n, x, d, h => by obtain ⟨y, rfl, h⟩ := hd1_le h; rw [rdL_le h]; exact .refl _
  | .fn0 f, x, d, h => by obtain ⟨y, rfl, h⟩ := hd1_le h; rw [rdF_le h]; exact .refl _
theorem ATrds_le : ∀ {l : List AT} {xs : List AV} {d : ATden l}, ATrds l xs = some d → AV.LeL xs (ATavs l d)
  | [], [], d, h => .nil
  | a :: l, x :: xs, d, h => by
    simp only [ATrds] at h
    split at h
    · rename_i h1 h2
      simp at h; subst h
      exact .cons (AT.rd_le h1) (ATrds_le h2)
    · cases h
  | [], _ :: _, _, h => by simp [ATrds] at h
  | _ :: _, [], _, h => by simp [ATrds] at h
theorem ATdec_le : ∀ {l : List AT} {xs : List AV} {d : ATden l}, ATdec l xs = some d → AV.LeL xs (ATenc l d)
  | [], [], d, h => .nil
  | [], _ :: _, _, h => by simp [ATdec] at h
  | a :: l, xs, d, h => by
    simp only [ATdec] at h
    split at h
    · rename_i h1 h2
      simp at h; subst h
      have := AV.LeL.append (AT.dec_le h1) (ATdec_le h2)
      rwa [List.take_append_drop] at this
    · cases h
theorem HT.rd_le : ∀ {h : HT} {it : Itm} {d : h.den}, h.rd it = some d → Itm.Le it (h.itm d)
  | .cells l, .cells vs, d, h => .cells (ATdec_le h)
  | .arr t e, .arr u e' xs, d, h => by
    simp only [HT.rd] at h
    split at h
    · rename_i he
      subst he
      cases hb : Nat.beq u t with
      | true => rw [hb] at h; simp at h; rw [Nat.eq_of_beq_eq_true hb, ← h]; exact .rfl _
      | false => rw [hb] at h; cases h
    · cases h
  | .mapo k v, .mapo k' v' E, d, h => by
    simp only [HT.rd] at h
    split at h
    · rename_i he
      obtain ⟨rfl, rfl⟩ := he
      simp at h; rw [← h]; exact .rfl _
    · cases h
  | .cells _, .gone, _, h => by simp [HT.rd] at h
  | .cells _, .arr .., _, h => by simp [HT.rd] at h
  | .cells _, .mapo .., _, h => by simp [HT.rd] at h
  | .cells _, .iter .., _, h => by simp [HT.rd] at h
  | .arr .., .gone, _, h => by simp [HT.rd] at h
  | .arr .., .cells _, _, h => by simp [HT.rd] at h
  | .arr .., .mapo .., _, h => by simp [HT.rd] at h
  | .arr .., .iter .., _, h => by simp [HT.rd] at h
  | .mapo .., .gone, _, h => by simp [HT.rd] at h
  | .mapo .., .cells _, _, h => by simp [HT.rd] at h
  | .mapo .., .arr .., _, h => by simp [HT.rd] at h
  | .mapo .., .iter .., _, h => by simp [HT.rd] at h
theorem HTrds_le : ∀ {l : List HT} {xs : List Itm} {d : HTden l}, HTrds l xs = some d → Itm.LeL xs (HTitms l d)
  | [], [], d, h => .nil
  | a :: l, x :: xs, d, h => by
    simp only [HTrds] at h
    split at h
    · rename_i h1 h2
      simp at h; subst h
      exact .cons (HT.rd_le h1) (HTrds_le h2)
    · cases h
  | [], _ :: _, _, h => by simp [HTrds] at h
  | _ :: _, [], _, h => by simp [HTrds] at h

/-- An argument: one of these; a struct of such; a function with pointers that it holds. -/
inductive RT where
  | one (a : AT) | g (l : List AT) | fn (f : FuncId) (ps : List Nat)
abbrev RT.v (t : Ty) : RT := .one (.v t)
abbrev RT.p (i : Nat) : RT := .one (.p i)
abbrev RT.s (i : Nat) : RT := .one (.s i)
abbrev RT.m (i : Nat) : RT := .one (.m i)
abbrev RT.nil : RT := .one .nil
abbrev RT.lit (k : IntKind) (n : Nat) : RT := .one (.lit k n)
@[reducible] def RT.den : RT → Type
  | .one a => a.den
  | .g l => ATden l
  | .fn _ _ => Unit
def RT.av : (a : RT) → a.den → AV
  | .one a, d => a.av d
  | .g l, d => .agg (ATenc l d)
  | .fn f ps, _ => .fn f (ps.map fun p => .ptr p 0)
def rdPs : List Nat → List AV → Bool
  | [], [] => true
  | p :: ps, .ptr q 0 :: l => Nat.beq q p && rdPs ps l
  | _, _ => false
def rdG (f : FuncId) (ps : List Nat) : AV → Option Unit
  | .fn g cs => bif Nat.beq g f && rdPs ps cs then some () else none
  | _ => none
def rdA (l : List AT) : AV → Option (ATden l)
  | .agg cs => ATdec l cs
  | _ => none
def RT.rd : (a : RT) → AV → Option a.den
  | .one a, x => a.rd x
  | .g l, x => rdA l x
  | .fn f ps, x => rdG f ps x
@[reducible] def RTden : List RT → Type
  | [] => Unit
  | a :: l => a.den × RTden l
def RTavs : (l : List RT) → RTden l → List AV
  | [], _ => []
  | a :: l, d => a.av d.1 :: RTavs l d.2
def RTrds : (l : List RT) → List AV → Option (RTden l)
  | [], [] => some ()
  | a :: l, x :: xs => match a.rd x, RTrds l xs with
    | some d, some e => some (d, e)
    | _, _ => none
  | _, _ => none
theorem rdPs_le : ∀ {ps : List Nat} {l : List AV}, rdPs ps l = true → l = ps.map fun p => .ptr p 0
  | [], [], _ => rfl
  | [], _ :: _, h => by simp [rdPs] at h
  | p :: ps, l, h => by
    unfold rdPs at h
    split at h
    · rename_i h1; cases h1
    · rename_i p' ps' q l' h1
      cases h1
      simp only [Bool.and_eq_true] at h
      rw [List.map_cons, Nat.eq_of_beq_eq_true h.1, rdPs_le h.2]
    · cases h
theorem RT.rd_le : ∀ {a : RT} {x : AV} {d : a.den}, a.rd x = some d → AV.Le x (a.av d)
  | .one a, x, d, h => AT.rd_le h
  | .g l, x, d, h => by
    simp only [RT.rd] at h
    unfold rdA at h
    split at h
    · exact .agg (ATdec_le h)
    · cases h
  | .fn f ps, x, d, h => by
    simp only [RT.rd] at h
    unfold rdG at h
    split at h
    · rename_i g cs
      cases hb : Nat.beq g f && rdPs ps cs with
      | true =>
        simp only [Bool.and_eq_true] at hb
        rw [Nat.eq_of_beq_eq_true hb.1, rdPs_le hb.2]
        exact .rfl _
      | false => rw [hb] at h; cases h
    · cases h
theorem RTrds_le : ∀ {l : List RT} {xs : List AV} {d : RTden l}, RTrds l xs = some d → AV.LeL xs (RTavs l d)
  | [], [], d, h => .nil
  | a :: l, x :: xs, d, h => by
    simp only [RTrds] at h
    split at h
    · rename_i h1 h2
      simp at h; subst h
      exact .cons (RT.rd_le h1) (RTrds_le h2)
    · cases h
  | [], _ :: _, _, h => by simp [RTrds] at h
  | _ :: _, [], _, h => by simp [RTrds] at h

/-- A specification by the kinds of its arguments, and of what they reach. -/
def spcOf (A : List RT) (H : List HT) {G : Type} (to : RTden A × HTden H → G) (fr : G → RTden A × HTden H) (hf : ∀ d, fr (to d) = d) (con : G → Con) (own : Bool := false) (still : Bool := false) (lends : Bool := false) (lendsOk : lends = true → ∀ g, (con g).ownedAll := by intro h; cases h) : Spc where
  G := G
  args g := RTavs A (fr g).1
  heap g := HTitms H (fr g).2
  find a h := match RTrds A a, HTrds H h with
    | some x, some y => some (to (x, y))
    | _, _ => none
  ok := by
    intro a h g hh
    split at hh
    · rename_i x y h1 h2
      simp at hh
      subst hh
      rw [hf]
      exact ⟨RTrds_le h1, HTrds_le h2⟩
    · cases hh
  con := con
  own := own
  still := still
  lends := lends
  lendsOk := lendsOk
/-- Either of two. -/
def Spc.both (a b : Spc) (ho : a.own = b.own) (hl : b.lends = a.lends) : Spc where
  G := a.G ⊕ b.G
  args g := match g with | .inl x => a.args x | .inr x => b.args x
  heap g := match g with | .inl x => a.heap x | .inr x => b.heap x
  find x h := match a.find x h with
    | some g => some (.inl g)
    | none => match b.find x h with
      | some g => some (.inr g)
      | none => none
  ok := by
    intro x h g hh
    split at hh
    · rename_i g' h1; cases hh; exact a.ok _ _ _ h1
    · split at hh
      · rename_i g' h1; cases hh; exact b.ok _ _ _ h1
      · cases hh
  con g := match g with | .inl x => a.con x | .inr x => b.con x
  own := a.own
  still := false
  lends := a.lends
  lendsOk := fun h g => match g with | .inl x => a.lendsOk h x | .inr x => b.lendsOk (hl.trans h) x
end Go.Proofs.Ytncecddhknfimaa.VC
