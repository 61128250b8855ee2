/- How arguments are told from their kinds: specifications by signature. Definitions and plain lemmas; no conditions but those that each names. -/
import Derived.Test.YtljimnhijpcjaaaVca
set_option linter.unusedVariables false
namespace Go.Proofs.Ytljimnhijpcjaaa.VC
open Go

/-- An argument: one of these; a struct of such; a function with pointers that it holds. -/
inductive RT where
  | one (a : AT) | g (l : List AT) | fn (f : FuncId) (ps : List Nat)
abbrev RT.v (t : Ty) : RT := .one (.v t)
abbrev RT.p (i : Nat) : RT := .one (.p i)
abbrev RT.s (i : Nat) : RT := .one (.s i)
abbrev RT.m (i : Nat) : RT := .one (.m i)
abbrev RT.px (i : Nat) : RT := .one (.px i)
abbrev RT.po (i o : Nat) : RT := .one (.po i o)
abbrev RT.nil : RT := .one .nil
abbrev RT.lit (k : IntKind) (n : Nat) : RT := .one (.lit k n)
@[reducible] def RT.den : RT → Type
  | .one a => a.den
  | .g l => ATden l
  | .fn _ _ => Unit
def RT.av : (a : RT) → a.den → AV
  | .one a, d => a.av d
  | .g l, d => .agg (ATenc l d)
  | .fn f ps, _ => .fn f (ps.map fun p => .ptr p 0)
def rdPs : List Nat → List AV → Bool
  | [], [] => true
  | p :: ps, .ptr q 0 :: l => Nat.beq q p && rdPs ps l
  | _, _ => false
def rdG (f : FuncId) (ps : List Nat) : AV → Option Unit
  | .fn g cs => bif Nat.beq g f && rdPs ps cs then some () else none
  | _ => none
def rdA (l : List AT) : AV → Option (ATden l)
  | .agg cs => ATdec l cs
  | _ => none
def RT.rd : (a : RT) → AV → Option a.den
  | .one a, x => a.rd x
  | .g l, x => rdA l x
  | .fn f ps, x => rdG f ps x
@[reducible] def RTden : List RT → Type
  | [] => Unit
  | a :: l => a.den × RTden l
def RTavs : (l : List RT) → RTden l → List AV
  | [], _ => []
  | a :: l, d => a.av d.1 :: RTavs l d.2
def RTrds : (l : List RT) → List AV → Option (RTden l)
  | [], [] => some ()
  | a :: l, x :: xs => match a.rd x, RTrds l xs with
    | some d, some e => some (d, e)
    | _, _ => none
  | _, _ => none
theorem rdPs_le : ∀ {ps : List Nat} {l : List AV}, rdPs ps l = true → l = ps.map fun p => .ptr p 0
  | [], [], _ => rfl
  | [], _ :: _, h => by simp [rdPs] at h
  | p :: ps, l, h => by
    unfold rdPs at h
    split at h
    · rename_i h1; cases h1
    · rename_i p' ps' q l' h1
      cases h1
      simp only [Bool.and_eq_true] at h
      rw [List.map_cons, Nat.eq_of_beq_eq_true h.1, rdPs_le h.2]
    · cases h
theorem RT.rd_le : ∀ {a : RT} {x : AV} {d : a.den}, a.rd x = some d → AV.Le x (a.av d)
  | .one a, x, d, h => AT.rd_le h
  | .g l, x, d, h => by
    simp only [RT.rd] at h
    unfold rdA at h
    split at h
    · exact .agg (ATdec_le h)
    · cases h
  | .fn f ps, x, d, h => by
    simp only [RT.rd] at h
    unfold rdG at h
    split at h
    · rename_i g cs
      cases hb : Nat.beq g f && rdPs ps cs with
      | true =>
        simp only [Bool.and_eq_true] at hb
        rw [Nat.eq_of_beq_eq_true hb.1, rdPs_le hb.2]
        exact .rfl _
      | false => rw [hb] at h; cases h
    · cases h
theorem RTrds_le : ∀ {l : List RT} {xs : List AV} {d : RTden l}, RTrds l xs = some d → AV.LeL xs (RTavs l d)
  | [], [], d, h => .nil
  | a :: l, x :: xs, d, h => by
    simp only [RTrds] at h
    split at h
    · rename_i h1 h2
      simp at h; subst h
      exact .cons (RT.rd_le h1) (RTrds_le h2)
    · cases h
  | [], _ :: _, _, h => by simp [RTrds] at h
  | _ :: _, [], _, h => by simp [RTrds] at h

/-- A specification by the kinds of its arguments, of what they reach, and of pools. -/
def spcOfP (A : List RT) (H : List HT) (Ps : List PT) {G : Type} (to : RTden A × HTden H × PTden Ps → G) (fr : G → RTden A × HTden H × PTden Ps) (hf : ∀ d, fr (to d) = d) (con : G → Con) (own : Bool := false) (still : Bool := false) (raw : Bool := false) (lends : Bool := false) (lendsOk : lends = true → ∀ g, (con g).ownedAll := by intro h; cases h) : Spc where
  G := G
  args g := RTavs A (fr g).1
  heap g := HTitms H (fr g).2.1 ++ PTitms Ps (fr g).2.2
  find a h := match RTrds A a, HTrds H (h.take H.length), PTrds Ps (h.drop H.length) with
    | some x, some y, some z => some (to (x, y, z))
    | _, _, _ => none
  ok := by
    intro a h g hh
    split at hh
    · rename_i x y z h1 h2 h3
      simp at hh
      subst hh
      rw [hf]
      refine ⟨RTrds_le h1, ?_⟩
      have := (HTrds_le h2).append (PTrds_le h3)
      rwa [List.take_append_drop] at this
    · cases hh
  con := con
  own := own
  still := still
  pools := Ps.map PT.q
  raw := raw
  lends := lends
  lendsOk := lendsOk
/-- A specification by the kinds of its arguments, and of what they reach. -/
def spcOf (A : List RT) (H : List HT) {G : Type} (to : RTden A × HTden H → G) (fr : G → RTden A × HTden H) (hf : ∀ d, fr (to d) = d) (con : G → Con) (own : Bool := false) (still : Bool := false) (lends : Bool := false) (lendsOk : lends = true → ∀ g, (con g).ownedAll := by intro h; cases h) : Spc where
  G := G
  args g := RTavs A (fr g).1
  heap g := HTitms H (fr g).2
  find a h := match RTrds A a, HTrds H h with
    | some x, some y => some (to (x, y))
    | _, _ => none
  ok := by
    intro a h g hh
    split at hh
    · rename_i x y h1 h2
      simp at hh
      subst hh
      rw [hf]
      exact ⟨RTrds_le h1, HTrds_le h2⟩
    · cases hh
  con := con
  own := own
  still := still
  lends := lends
  lendsOk := lendsOk
/-- Either of two. -/
def Spc.both (a b : Spc) (ho : a.own = b.own) (hl : b.lends = a.lends) : Spc where
  G := a.G ⊕ b.G
  args g := match g with | .inl x => a.args x | .inr x => b.args x
  heap g := match g with | .inl x => a.heap x | .inr x => b.heap x
  find x h := match a.find x h with
    | some g => some (.inl g)
    | none => match b.find x h with
      | some g => some (.inr g)
      | none => none
  ok := by
    intro x h g hh
    split at hh
    · rename_i g' h1; cases hh; exact a.ok _ _ _ h1
    · split at hh
      · rename_i g' h1; cases hh; exact b.ok _ _ _ h1
      · cases hh
  con g := match g with | .inl x => a.con x | .inr x => b.con x
  own := a.own
  still := false
  pools := a.pools
  raw := a.raw
  lends := a.lends
  lendsOk := fun h g => match g with | .inl x => a.lendsOk h x | .inr x => b.lendsOk (hl.trans h) x
end Go.Proofs.Ytljimnhijpcjaaa.VC
