/- Lists that were handed out, written over and grown: a book of them, in a pool. Plain lemmas; no conditions but those that each names. -/
import Derived.Test.YtljimnhijpcjaaaWf
set_option linter.unusedVariables false
set_option linter.unusedSimpArgs false
namespace Go.Proofs.Ytljimnhijpcjaaa.VC
open Go

section
variable {α : Type}
abbrev LPool (α : Type) : Type := List (Nat × Nat × List α)
/-! ### Pools of lists -/
theorem pget_psetL : ∀ (P : List (Nat × α)) (n m : Nat) (x : α), pget (pset P n x) m = if n = m ∧ (pget P n).isSome = true then some x else pget P m
  | [], n, m, x => by simp [pset, pget]
  | (q, y) :: l, n, m, x => by
    by_cases hn0 : q = n
    · subst hn0
      simp only [pset, pget, Nat.beq_refl, cond_true]
      cases hc : Nat.beq q m with
      | true => simp [Nat.eq_of_beq_eq_true hc]
      | false =>
        have : q ≠ m := fun e => by rw [e] at hc; simp at hc
        simp [this]
    · have hb : Nat.beq q n = false := by
        cases hb : Nat.beq q n with
        | true => exact absurd (Nat.eq_of_beq_eq_true hb) hn0
        | false => rfl
      simp only [pset, pget, hb, cond_false]
      cases hc : Nat.beq q m with
      | true =>
        have e := Nat.eq_of_beq_eq_true hc
        subst e
        simp [Ne.symm hn0]
      | false => simp only [cond_false]; exact pget_psetL l n m x
theorem pget_appL : ∀ (P : List (Nat × α)) (n m : Nat) (x : α), pget (P ++ [(n, x)]) m = match pget P m with | some y => some y | none => if n = m then some x else none
  | [], n, m, x => by
    simp only [List.nil_append, pget]
    cases hb : Nat.beq n m with
    | true => simp [Nat.eq_of_beq_eq_true hb]
    | false =>
      have : n ≠ m := fun e => by rw [e] at hb; simp at hb
      simp [this]
  | (q, y) :: l, n, m, x => by
    simp only [List.cons_append, pget]
    cases hb : Nat.beq q m with
    | true => simp
    | false => simp only [cond_false]; exact pget_appL l n m x
/-- What a list's head reads. -/
def rdP2 (P : LPool α) (h : Lh) : List α := (pget2 P h.b).take h.n
theorem pget2_of {P : LPool α} {b c : Nat} {xs : List α} (h : pget P b = some (c, xs)) : pget2 P b = xs := by simp [pget2, h]
theorem pget2_pset2 (P : LPool α) (b m : Nat) (xs : List α) : pget2 (pset2 P b xs) m = if b = m ∧ (pget P b).isSome = true then xs else pget2 P m := by
  unfold pget2 pset2
  rw [pget_psetL]
  by_cases h : b = m ∧ (pget P b).isSome = true
  · rw [if_pos h, if_pos h]; rfl
  · rw [if_neg h, if_neg h]
theorem pget_pset2_ne {P : LPool α} {b m : Nat} {xs : List α} (h : b ≠ m) : pget (pset2 P b xs) m = pget P m := by
  unfold pset2; rw [pget_psetL, if_neg (fun e => h e.1)]
theorem pget_pset2_eq {P : LPool α} {b c : Nat} {xs ys : List α} (h : pget P b = some (c, ys)) : pget (pset2 P b xs) b = some (c, xs) := by
  unfold pset2; rw [pget_psetL, if_pos ⟨rfl, by rw [h]; rfl⟩, h]; rfl
theorem pget_app_ne {P : LPool α} {b m : Nat} {x : Nat × List α} (h : b ≠ m) : pget (P ++ [(b, x)]) m = pget P m := by
  rw [pget_appL]; cases pget P m <;> simp [h]
theorem pget_app_eq {P : LPool α} {b : Nat} {x : Nat × List α} (h : pget P b = none) : pget (P ++ [(b, x)]) b = some x := by
  rw [pget_appL, h]; simp

/-! ### Heads that a write elsewhere leaves alone -/
/-- Two pools are alike at this block. -/
def SameAt (P Q : LPool α) (b : Nat) : Prop := pget Q b = pget P b
theorem SameAt.g2 {P Q : LPool α} {b : Nat} (s : SameAt P Q b) : pget2 Q b = pget2 P b := by
  have s : pget Q b = pget P b := s
  unfold pget2; rw [s]
theorem SameAt.rd {P Q : LPool α} {h : Lh} (s : SameAt P Q h.b) : rdP2 Q h = rdP2 P h := by unfold rdP2 pget2; rw [s]
theorem SameAt.ok {P Q : LPool α} {h : Lh} (s : SameAt P Q h.b) (k : LhOk P h) : LhOk Q h := by unfold LhOk at *; rw [s]; exact k
theorem rd_len {P : LPool α} {h : Lh} (k : LhOk P h) (hh : h.ok) : (rdP2 P h).length = h.n := by
  unfold rdP2
  rcases k with k | ⟨xs, k1, k2⟩
  · have := hh.2.2 k; have := hh.1
    rw [List.length_take]; omega
  · rw [pget2_of k1, List.length_take]; omega
theorem ok_len {P : LPool α} {h : Lh} (k : LhOk P h) (hh : h.ok) : h.n ≤ (pget2 P h.b).length := by
  have := rd_len k hh; unfold rdP2 at this; rw [List.length_take] at this; omega

/-! ### A book -/
/-- A list as it came, and longer by one: each bears the mark. -/
structure Pg2 (P : LPool α) (x : α) (h m : Lh) : Prop where
  h1 : LhOk P h
  m1 : LhOk P m
  h3 : h.ok
  h2 : ∀ i, i < h.n → (pget2 P h.b)[i]? = some x
  m2 : ∀ i, i < m.n → (pget2 P m.b)[i]? = some x
theorem Pg2.same {P Q : LPool α} {x : α} {h m : Lh} (k : Pg2 P x h m) (s1 : SameAt P Q h.b) (s2 : SameAt P Q m.b) : Pg2 Q x h m :=
  ⟨s1.ok k.h1, s2.ok k.m1, k.h3, by unfold pget2; rw [s1]; exact k.h2, by unfold pget2; rw [s2]; exact k.m2⟩
/-- Which blocks a book's lists number k lie in. -/
def Uses (L M : List Lh) (k b : Nat) : Prop := b ≠ 0 ∧ ((∃ h, L[k]? = some h ∧ h.b = b) ∨ ∃ m, M[k]? = some m ∧ m.b = b)
structure BookOk (mk : Nat → α) (P : LPool α) (L M : List Lh) : Prop where
  len : M.length = L.length
  ok : ∀ k h m, L[k]? = some h → M[k]? = some m → Pg2 P (mk k) h m
  dj : ∀ i j b, i ≠ j → Uses L M i b → ¬ Uses L M j b
  here : ∀ k b, Uses L M k b → (pget P b).isSome = true
theorem uses_nil {k b : Nat} : ¬ Uses [] [] k b := fun hu => by
  obtain ⟨_, ⟨h, hh, _⟩ | ⟨h, hh, _⟩⟩ := hu <;> simp at hh
theorem BookOk.nil (mk : Nat → α) (P : LPool α) : BookOk mk P [] [] := ⟨rfl, fun k h m hh => by simp at hh, fun i j b _ hu => absurd hu uses_nil, fun k b hu => absurd hu uses_nil⟩
/-- A block that no list of the book lies in. -/
def Away (L M : List Lh) (b : Nat) : Prop := ∀ k, ¬ Uses L M k b
theorem away_zero (L M : List Lh) : Away L M 0 := fun k h => h.1 rfl
theorem BookOk.away_new {mk : Nat → α} {P : LPool α} {L M : List Lh} (k : BookOk mk P L M) {b : Nat} (h : pget P b = none) : Away L M b := fun i hu => by
  have := k.here i b hu; rw [h] at this; cases this
/-- The pool changes at blocks that the book doesn't use. -/
theorem BookOk.same {mk : Nat → α} {P Q : LPool α} {L M : List Lh} (k : BookOk mk P L M) (s : ∀ b, b ≠ 0 → ¬ Away L M b → SameAt P Q b) (s0 : SameAt P Q 0) : BookOk mk Q L M := by
  have su : ∀ i b, Uses L M i b → SameAt P Q b := fun i b hu => s b hu.1 fun ha => ha i hu
  have sl : ∀ (i : Nat) (h : Lh), L[i]? = some h → SameAt P Q h.b := fun i h hh => by
    by_cases e : h.b = 0
    · rw [e]; exact s0
    · exact su i _ ⟨e, .inl ⟨h, hh, rfl⟩⟩
  have sm : ∀ (i : Nat) (h : Lh), M[i]? = some h → SameAt P Q h.b := fun i h hh => by
    by_cases e : h.b = 0
    · rw [e]; exact s0
    · exact su i _ ⟨e, .inr ⟨h, hh, rfl⟩⟩
  exact ⟨k.len, fun i h m hl hm => (k.ok i h m hl hm).same (sl i h hl) (sm i m hm), k.dj, fun i b hu => by rw [su i b hu]; exact k.here i b hu⟩
theorem BookOk.write {mk : Nat → α} {P : LPool α} {L M : List Lh} (k : BookOk mk P L M) {b : Nat} (ha : Away L M b) (hb : b ≠ 0) (xs : List α) : BookOk mk (pset2 P b xs) L M :=
  k.same (fun c hc hn => by
    unfold SameAt
    refine pget_pset2_ne fun e => hn (e ▸ ha)) (pget_pset2_ne hb)
theorem BookOk.more {mk : Nat → α} {P : LPool α} {L M : List Lh} (k : BookOk mk P L M) {b : Nat} (hn : pget P b = none) (hb : b ≠ 0) (x : Nat × List α) : BookOk mk (P ++ [(b, x)]) L M :=
  k.same (fun c hc h => pget_app_ne fun e => h (e ▸ k.away_new hn)) (pget_app_ne hb)
/-- A list that is written over as far as i. -/
structure Wr (P : LPool α) (h : Lh) (x : α) (i : Nat) : Prop where
  ok : LhOk P h
  set : ∀ j, j < i → (pget2 P h.b)[j]? = some x
theorem Wr.step {P : LPool α} {h : Lh} {x : α} {i : Nat} (w : Wr P h x i) (hi : i < (pget2 P h.b).length) (hb : h.b ≠ 0) : Wr (pset2 P h.b ((pget2 P h.b).set i x)) h x (i + 1) := by
  rcases w.ok with h0 | ⟨xs, h1, h2⟩
  · exact absurd h0 hb
  · have e : pget (pset2 P h.b ((pget2 P h.b).set i x)) h.b = some (h.c, (pget2 P h.b).set i x) := pget_pset2_eq h1
    refine ⟨.inr ⟨_, e, by rw [List.length_set, pget2_of h1]; exact h2⟩, fun j hj => ?_⟩
    rw [pget2_of e]
    by_cases e2 : i = j
    · subst e2; simp [hi]
    · rw [List.getElem?_set_ne e2]; exact w.set j (by omega)
theorem BookOk.push {mk : Nat → α} {P Q : LPool α} {L M : List Lh} (k : BookOk mk P L M) {h m : Lh} (hok : h.ok) (ha : Away L M h.b) (w : Wr P h (mk L.length) h.n) (ap : AppO P h [mk L.length] m Q) : BookOk mk Q (L ++ [h]) (M ++ [m]) := by
  have nn : ([mk L.length] : List α) ≠ [] := by simp
  have hl : ∀ (l : List Lh) (x : Lh) i y, (l ++ [x])[i]? = some y ↔ l[i]? = some y ∨ (i = l.length ∧ y = x) := fun l x i y => by
    rw [List.getElem?_append]
    by_cases hi : i < l.length
    · rw [if_pos hi]
      constructor
      · exact fun h => .inl h
      · rintro (h | ⟨h, _⟩)
        · exact h
        · omega
    · rw [if_neg hi]
      have e0 : l[i]? = none := by simp; omega
      rw [e0]
      constructor
      · intro h
        have : i - l.length = 0 := by
          by_cases e : i - l.length = 0
          · exact e
          · rw [List.getElem?_eq_none (by simp; omega)] at h; cases h
        rw [this] at h
        simp at h
        exact .inr ⟨by omega, h.symm⟩
      · rintro (h | ⟨h, rfl⟩)
        · cases h
        · simp [h]
  have main : ∀ (Q : LPool α), BookOk mk Q L M → LhOk Q h → LhOk Q m → (∀ i, i < h.n → (pget2 Q h.b)[i]? = some (mk L.length)) → (∀ i, i < m.n → (pget2 Q m.b)[i]? = some (mk L.length)) → Away L M m.b → BookOk mk Q (L ++ [h]) (M ++ [m]) := fun Q kq q1 q2 q3 q4 q5 => by
    have us : ∀ i b, Uses (L ++ [h]) (M ++ [m]) i b → Uses L M i b ∨ (i = L.length ∧ b ≠ 0 ∧ (b = h.b ∨ b = m.b)) := fun i b hu => by
      obtain ⟨hb, ⟨y, hy, rfl⟩ | ⟨y, hy, rfl⟩⟩ := hu
      · rcases (hl _ _ _ _).1 hy with hy | ⟨e, rfl⟩
        · exact .inl ⟨hb, .inl ⟨y, hy, rfl⟩⟩
        · exact .inr ⟨e, hb, .inl rfl⟩
      · rcases (hl _ _ _ _).1 hy with hy | ⟨e, rfl⟩
        · exact .inl ⟨hb, .inr ⟨y, hy, rfl⟩⟩
        · exact .inr ⟨by rw [e, k.len], hb, .inr rfl⟩
    refine ⟨by simp [k.len], fun i a b h1 h2 => ?_, fun i j b hij hi hj => ?_, fun i b hu => ?_⟩
    · rcases (hl _ _ _ _).1 h1 with h1 | ⟨e1, rfl⟩
      · rcases (hl _ _ _ _).1 h2 with h2 | ⟨e2, rfl⟩
        · exact kq.ok i a b h1 h2
        · have := (List.getElem?_eq_some_iff.1 h1).1
          rw [k.len] at e2; omega
      · rcases (hl _ _ _ _).1 h2 with h2 | ⟨e2, rfl⟩
        · have := (List.getElem?_eq_some_iff.1 h2).1
          rw [k.len] at this; omega
        · subst e1; exact ⟨q1, q2, hok, q3, q4⟩
    · rcases us i b hi with hi | ⟨i1, i2, i3⟩
      · rcases us j b hj with hj | ⟨j1, j2, j3⟩
        · exact k.dj i j b hij hi hj
        · rcases j3 with rfl | rfl
          · exact ha i hi
          · exact q5 i hi
      · rcases us j b hj with hj | ⟨j1, j2, j3⟩
        · rcases i3 with rfl | rfl
          · exact ha j hj
          · exact q5 j hj
        · omega
    · rcases us i b hu with hu | ⟨_, hb, rfl | rfl⟩
      · exact kq.here i b hu
      · rcases q1 with e | ⟨xs, e, _⟩
        · exact absurd e hb
        · rw [e]; rfl
      · rcases q2 with e | ⟨xs, e, _⟩
        · exact absurd e hb
        · rw [e]; rfl
  rcases ap with ⟨e, _⟩ | ⟨_, hc, rfl, rfl⟩ | ⟨_, hc, hb, hn, e1, e2, rfl⟩
  · exact absurd e nn
  · simp only [List.length_cons, List.length_nil] at hc ⊢
    have hb : h.b ≠ 0 := fun e => by have := hok.2.2 e; omega
    rcases w.ok with h0 | ⟨xs, h1, h2⟩
    · exact absurd h0 hb
    · have hset := w.set
      rw [pget2_of h1] at hset ⊢
      have e : pget (pset2 P h.b (xs.take h.n ++ [mk L.length] ++ xs.drop (h.n + (0 + 1)))) h.b = some (h.c, xs.take h.n ++ [mk L.length] ++ xs.drop (h.n + (0 + 1))) := pget_pset2_eq h1
      have hlen : (xs.take h.n).length = h.n := by rw [List.length_take]; omega
      have at1 : ∀ i, i < h.n + 1 → (xs.take h.n ++ [mk L.length] ++ xs.drop (h.n + (0 + 1)))[i]? = some (mk L.length) := fun i hi => by
        rw [List.append_assoc, List.getElem?_append]
        by_cases e1 : i < h.n
        · rw [if_pos (by omega), List.getElem?_take, if_pos e1]; exact hset i e1
        · have : i = h.n := by omega
          subst this
          rw [if_neg (by omega), hlen]; simp
      refine main _ (k.write ha hb _) (.inr ⟨_, e, by simp only [List.length_append, List.length_cons, List.length_nil, hlen]; omega⟩) (.inr ⟨_, e, by simp only [List.length_append, List.length_cons, List.length_nil, hlen]; omega⟩) (fun i hi => ?_) (fun i hi => ?_) ha
      · rw [pget2_of e]; exact at1 i (by omega)
      · rw [pget2_of e]; exact at1 i hi
  · simp only [List.length_cons, List.length_nil] at hc e1 e2
    have hb' : m.b ≠ 0 := by omega
    have eN : pget (P ++ [(m.b, m.c, (pget2 P h.b).take h.n ++ [mk L.length])]) m.b = some (m.c, (pget2 P h.b).take h.n ++ [mk L.length]) := pget_app_eq hn
    have hne : h.b ≠ m.b ∨ h.b = 0 := by
      rcases w.ok with h0 | ⟨xs, h1, h2⟩
      · exact .inr h0
      · exact .inl fun e => by rw [e, hn] at h1; cases h1
    have hsame : SameAt P (P ++ [(m.b, m.c, (pget2 P h.b).take h.n ++ [mk L.length])]) h.b := by
      refine pget_app_ne fun e => ?_
      rcases hne with h1 | h1
      · exact h1 e.symm
      · omega
    have hlen : ((pget2 P h.b).take h.n).length = h.n := rd_len w.ok hok
    refine main _ (k.more hn hb' _) (hsame.ok w.ok) (.inr ⟨_, eN, by rw [List.length_append, hlen, e1]; simp⟩) (fun i hi => ?_) (fun i hi => ?_) (k.away_new hn)
    · rw [hsame.g2]; exact w.set i hi
    · rw [pget2_of eN, List.getElem?_append]
      by_cases e3 : i < h.n
      · rw [if_pos (by omega), List.getElem?_take, if_pos e3]; exact w.set i e3
      · have : i = h.n := by omega
        subst this
        rw [if_neg (by omega), hlen]; simp
/-! ### A list is kept; lists are made ready -/
structure KeepO (α : Type) where
  L : List Lh
  M : List Lh
  ls : LPool α
/-- May this list be kept? -/
def KeepPreG (mk : Nat → α) (L M : List Lh) (ls : LPool α) (l : Lh) : Prop := BookOk mk ls L M ∧ LhOk ls l ∧ Away L M l.b ∧ L.length ≤ 1000 ∧ l.n ≤ 1000000
/-- The book has one more; what lies in other blocks is as it was. -/
def KeepPostG (mk : Nat → α) (L M : List Lh) (ls : LPool α) (l : Lh) (o : KeepO α) : Prop := BookOk mk o.ls o.L o.M ∧ o.L.length = L.length + 1 ∧ ∀ b, b ≠ l.b → (pget ls b).isSome = true → SameAt ls o.ls b ∧ (Away L M b → Away o.L o.M b)
theorem uses_push {L M : List Lh} {l m : Lh} {k b : Nat} (hl : M.length = L.length) (h : Uses (L ++ [l]) (M ++ [m]) k b) : Uses L M k b ∨ b = l.b ∨ b = m.b := by
  have at1 : ∀ (l : List Lh) (x y : Lh), (l ++ [x])[k]? = some y → l[k]? = some y ∨ y = x := fun l x y h => by
    rw [List.getElem?_append] at h
    split at h
    · exact .inl h
    · right
      by_cases e : k - l.length = 0
      · rw [e] at h; simp at h; exact h.symm
      · rw [List.getElem?_eq_none (by simp; omega)] at h; cases h
  obtain ⟨hb, ⟨y, hy, rfl⟩ | ⟨y, hy, rfl⟩⟩ := h
  · rcases at1 _ _ _ hy with hy | rfl
    · exact .inl ⟨hb, .inl ⟨y, hy, rfl⟩⟩
    · exact .inr (.inl rfl)
  · rcases at1 _ _ _ hy with hy | rfl
    · exact .inl ⟨hb, .inr ⟨y, hy, rfl⟩⟩
    · exact .inr (.inr rfl)
theorem keep_done {mk : Nat → α} {L M : List Lh} {ls ls1 Q : LPool α} {l m : Lh} (p : KeepPreG mk L M ls l) (hok : l.ok) (h1 : BookOk mk ls1 L M) (w : Wr ls1 l (mk L.length) l.n) (sm : ∀ b, b ≠ l.b → SameAt ls ls1 b) (ap : AppO ls1 l [mk L.length] m Q) : KeepPostG mk L M ls l ⟨L ++ [l], M ++ [m], Q⟩ := by
  refine ⟨h1.push hok p.2.2.1 w ap, by simp, fun b hb hs => ?_⟩
  have s1 := sm b hb
  have hs1 : (pget ls1 b).isSome = true := by rw [show pget ls1 b = pget ls b from s1]; exact hs
  have key : SameAt ls1 Q b ∧ (b ≠ m.b) := by
    rcases ap with ⟨e, _⟩ | ⟨_, hc, rfl, rfl⟩ | ⟨_, hc, hm, hn, e1, e2, rfl⟩
    · simp at e
    · exact ⟨pget_pset2_ne (Ne.symm hb), hb⟩
    · have : m.b ≠ b := fun e => by rw [e] at hn; rw [hn] at hs1; cases hs1
      exact ⟨pget_app_ne this, this.symm⟩
  refine ⟨(show pget Q b = pget ls b from (show pget Q b = pget ls1 b from key.1).trans s1), fun ha k hu => ?_⟩
  rcases uses_push h1.len hu with hu | e | e
  · exact ha k hu
  · exact hb e
  · exact key.2 e
/-- Lists that are ready to be kept, one behind the other. -/
structure Rdy (L M : List Lh) (ls : LPool α) (gs : List Lh) : Prop where
  ok : ∀ g ∈ gs, LhOk ls g ∧ Away L M g.b
  le : ∀ g ∈ gs, g.n ≤ 1000000
  nd : gs.Pairwise fun a b => a.b = b.b → a.b = 0
theorem Rdy.nil (L M : List Lh) (ls : LPool α) : Rdy L M ls [] := ⟨fun _ h => by simp at h, fun _ h => by simp at h, .nil⟩
theorem lhok_some {P : LPool α} {h : Lh} (k : LhOk P h) (hb : h.b ≠ 0) : (pget P h.b).isSome = true := by
  rcases k with k | ⟨xs, k, _⟩
  · exact absurd k hb
  · rw [k]; rfl
theorem Rdy.pre {mk : Nat → α} {L M : List Lh} {ls : LPool α} {g : Lh} {gs : List Lh} (r : Rdy L M ls (g :: gs)) (b : BookOk mk ls L M) (h : L.length ≤ 1000) : KeepPreG mk L M ls g := ⟨b, (r.ok g (by simp)).1, (r.ok g (by simp)).2, h, r.le g (by simp)⟩
theorem Rdy.keep {mk : Nat → α} {L M : List Lh} {ls : LPool α} {g : Lh} {gs : List Lh} {o : KeepO α} (r : Rdy L M ls (g :: gs)) (p : KeepPostG mk L M ls g o) : Rdy o.L o.M o.ls gs := by
  obtain ⟨n1, n2⟩ := List.pairwise_cons.1 r.nd
  refine ⟨fun x hx => ?_, fun x hx => r.le x (by simp [hx]), n2⟩
  obtain ⟨k1, k2⟩ := r.ok x (by simp [hx])
  by_cases e : x.b = 0
  · exact ⟨.inl e, e ▸ away_zero _ _⟩
  · have hne : x.b ≠ g.b := fun h => e (by rw [h]; exact n1 x hx h.symm)
    obtain ⟨s1, s2⟩ := p.2.2 x.b hne (lhok_some k1 e)
    exact ⟨s1.ok k1, s2 k2⟩
theorem pack_same {P P' : LPool α} {xs : List α} {h : Lh} (p : PackL P xs h P') {b : Nat} (hs : b = 0 ∨ (pget P b).isSome = true) : SameAt P P' b := by
  rcases p with ⟨_, _, rfl⟩ | ⟨h1, h2, _, _, _, rfl⟩
  · exact rfl
  · refine pget_app_ne fun e => ?_
    rcases hs with hs | hs
    · omega
    · rw [← e, h2] at hs; cases hs
theorem pack_book {mk : Nat → α} {L M : List Lh} {P P' : LPool α} {xs : List α} {h : Lh} (p : PackL P xs h P') (b : BookOk mk P L M) : BookOk mk P' L M := by
  refine b.same (fun c hc hn => pack_same p (.inr ?_)) (pack_same p (.inl rfl))
  cases hg : pget P c with
  | some x => rfl
  | none => exact absurd (b.away_new hg) hn
theorem pack_ok {P P' : LPool α} {xs : List α} {h : Lh} (p : PackL P xs h P') : LhOk P' h := by
  rcases p with ⟨_, rfl, _⟩ | ⟨h1, h2, h3, h4, h5, rfl⟩
  · exact .inl rfl
  · exact .inr ⟨xs, pget_app_eq h2, by omega⟩
theorem Rdy.pack {mk : Nat → α} {L M : List Lh} {P P' : LPool α} {xs : List α} {h : Lh} {gs : List Lh} (r : Rdy L M P gs) (b : BookOk mk P L M) (p : PackL P xs h P') (hx : xs.length ≤ 1000000) : Rdy L M P' (gs ++ [h]) := by
  have ha : Away L M h.b := by
    rcases p with ⟨_, rfl, _⟩ | ⟨h1, h2, _⟩
    · exact away_zero _ _
    · exact b.away_new h2
  have hn : h.n ≤ 1000000 := by
    rcases p with ⟨_, rfl, _⟩ | ⟨_, _, e, _⟩
    · exact Nat.zero_le _
    · omega
  refine ⟨fun x hx => ?_, fun x hx => by
    rcases List.mem_append.1 hx with hx | hx
    · exact r.le x hx
    · obtain rfl : x = h := by simpa using hx
      exact hn, List.pairwise_append.2 ⟨r.nd, List.pairwise_singleton _ _, fun x hx y hy e => ?_⟩⟩
  · rcases List.mem_append.1 hx with hx | hx
    · obtain ⟨k1, k2⟩ := r.ok x hx
      by_cases e : x.b = 0
      · exact ⟨.inl e, k2⟩
      · exact ⟨(pack_same p (.inr (lhok_some k1 e))).ok k1, k2⟩
    · obtain rfl : x = h := by simpa using hx
      exact ⟨pack_ok p, ha⟩
  · obtain rfl : y = h := by simpa using hy
    obtain ⟨k1, k2⟩ := r.ok x hx
    by_cases e0 : x.b = 0
    · exact e0
    · have hs := lhok_some k1 e0
      rcases p with ⟨_, e1, _⟩ | ⟨h1, h2, _⟩
      · rw [e, e1]; rfl
      · rw [e, h2] at hs; cases hs
/-- What a kept list reads. -/
theorem BookOk.at {mk : Nat → α} {P : LPool α} {L M : List Lh} (k : BookOk mk P L M) {i : Nat} (hi : i < L.length) (d : α) : (∀ j, j < (M.getD i Lh.nil).n → j < (pget2 P (M.getD i Lh.nil).b).length ∧ (pget2 P (M.getD i Lh.nil).b).getD j d = mk i) ∧ ∀ j, j < (L.getD i Lh.nil).n → j < (pget2 P (L.getD i Lh.nil).b).length ∧ (pget2 P (L.getD i Lh.nil).b).getD j d = mk i := by
  have hm : i < M.length := by rw [k.len]; exact hi
  have e1 : M.getD i Lh.nil = M[i] := by simp [List.getD, hm]
  have e2 : L.getD i Lh.nil = L[i] := by simp [List.getD, hi]
  have p := k.ok i L[i] M[i] (by simp [hi]) (by simp [hm])
  rw [e1, e2]
  refine ⟨fun j hj => ?_, fun j hj => ?_⟩
  · have h := p.m2 j hj
    exact ⟨(List.getElem?_eq_some_iff.1 h).1, by simp [List.getD, h]⟩
  · have h := p.h2 j hj
    exact ⟨(List.getElem?_eq_some_iff.1 h).1, by simp [List.getD, h]⟩
end
end Go.Proofs.Ytljimnhijpcjaaa.VC
