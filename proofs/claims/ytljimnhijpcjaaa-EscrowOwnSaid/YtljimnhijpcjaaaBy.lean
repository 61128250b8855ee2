/- Lists that were handed out, all written over, then all grown. Definitions and plain lemmas; no conditions but those that each names. -/
import Derived.Test.YtljimnhijpcjaaaBk
set_option linter.unusedVariables false
set_option linter.unusedSimpArgs false
namespace Go.Proofs.Ytljimnhijpcjaaa.VC
open Go
section
variable {α : Type}
theorem BookOk.pushL {mk : Nat → α} {P Q : LPool α} {L M : List Lh} (k : BookOk mk P L M) {h m : Lh} (hok : h.ok) (ha : Away L M h.b) (w : Wr P h (mk L.length) h.n) {ys : List α} (hy : ys ≠ []) (hx : ∀ y ∈ ys, y = mk L.length) (ap : AppO P h ys m Q) : BookOk mk Q (L ++ [h]) (M ++ [m]) := by
  have hl : ∀ (l : List Lh) (x : Lh) i y, (l ++ [x])[i]? = some y ↔ l[i]? = some y ∨ (i = l.length ∧ y = x) := fun l x i y => by
    rw [List.getElem?_append]
    by_cases hi : i < l.length
    · rw [if_pos hi]
      constructor
      · exact fun h => .inl h
      · rintro (h | ⟨h, _⟩)
        · exact h
        · omega
    · rw [if_neg hi]
      have e0 : l[i]? = none := by simp; omega
      rw [e0]
      constructor
      · intro h
        have : i - l.length = 0 := by
          by_cases e : i - l.length = 0
          · exact e
          · rw [List.getElem?_eq_none (by simp; omega)] at h; cases h
        rw [this] at h
        simp at h
        exact .inr ⟨by omega, h.symm⟩
      · rintro (h | ⟨h, rfl⟩)
        · cases h
        · simp [h]
  have main : ∀ (Q : LPool α), BookOk mk Q L M → LhOk Q h → LhOk Q m → (∀ i, i < h.n → (pget2 Q h.b)[i]? = some (mk L.length)) → (∀ i, i < m.n → (pget2 Q m.b)[i]? = some (mk L.length)) → Away L M m.b → BookOk mk Q (L ++ [h]) (M ++ [m]) := fun Q kq q1 q2 q3 q4 q5 => by
    have us : ∀ i b, Uses (L ++ [h]) (M ++ [m]) i b → Uses L M i b ∨ (i = L.length ∧ b ≠ 0 ∧ (b = h.b ∨ b = m.b)) := fun i b hu => by
      obtain ⟨hb, ⟨y, hy, rfl⟩ | ⟨y, hy, rfl⟩⟩ := hu
      · rcases (hl _ _ _ _).1 hy with hy | ⟨e, rfl⟩
        · exact .inl ⟨hb, .inl ⟨y, hy, rfl⟩⟩
        · exact .inr ⟨e, hb, .inl rfl⟩
      · rcases (hl _ _ _ _).1 hy with hy | ⟨e, rfl⟩
        · exact .inl ⟨hb, .inr ⟨y, hy, rfl⟩⟩
        · exact .inr ⟨by rw [e, k.len], hb, .inr rfl⟩
    refine ⟨by simp [k.len], fun i a b h1 h2 => ?_, fun i j b hij hi hj => ?_, fun i b hu => ?_⟩
    · rcases (hl _ _ _ _).1 h1 with h1 | ⟨e1, rfl⟩
      · rcases (hl _ _ _ _).1 h2 with h2 | ⟨e2, rfl⟩
        · exact kq.ok i a b h1 h2
        · have := (List.getElem?_eq_some_iff.1 h1).1
          rw [k.len] at e2; omega
      · rcases (hl _ _ _ _).1 h2 with h2 | ⟨e2, rfl⟩
        · have := (List.getElem?_eq_some_iff.1 h2).1
          rw [k.len] at this; omega
        · subst e1; exact ⟨q1, q2, hok, q3, q4⟩
    · rcases us i b hi with hi | ⟨i1, i2, i3⟩
      · rcases us j b hj with hj | ⟨j1, j2, j3⟩
        · exact k.dj i j b hij hi hj
        · rcases j3 with rfl | rfl
          · exact ha i hi
          · exact q5 i hi
      · rcases us j b hj with hj | ⟨j1, j2, j3⟩
        · rcases i3 with rfl | rfl
          · exact ha j hj
          · exact q5 j hj
        · omega
    · rcases us i b hu with hu | ⟨_, hb, rfl | rfl⟩
      · exact kq.here i b hu
      · rcases q1 with e | ⟨xs, e, _⟩
        · exact absurd e hb
        · rw [e]; rfl
      · rcases q2 with e | ⟨xs, e, _⟩
        · exact absurd e hb
        · rw [e]; rfl
  rcases ap with ⟨e, _⟩ | ⟨_, hc, rfl, rfl⟩ | ⟨_, hc, hb, hn, e1, e2, rfl⟩
  · exact absurd e hy
  · have pos : 0 < ys.length := List.length_pos_iff.2 hy
    have hb : h.b ≠ 0 := fun e => by have := hok.2.2 e; omega
    rcases w.ok with h0 | ⟨xs, h1, h2⟩
    · exact absurd h0 hb
    · have hset := w.set
      rw [pget2_of h1] at hset ⊢
      have e : pget (pset2 P h.b (xs.take h.n ++ ys ++ xs.drop (h.n + ys.length))) h.b = some (h.c, xs.take h.n ++ ys ++ xs.drop (h.n + ys.length)) := pget_pset2_eq h1
      have hlen : (xs.take h.n).length = h.n := by rw [List.length_take]; omega
      have at1 : ∀ i, i < h.n + ys.length → (xs.take h.n ++ ys ++ xs.drop (h.n + ys.length))[i]? = some (mk L.length) := fun i hi => by
        rw [List.append_assoc, List.getElem?_append]
        by_cases e1 : i < h.n
        · rw [if_pos (by omega), List.getElem?_take, if_pos e1]; exact hset i e1
        · rw [if_neg (by omega), hlen, List.getElem?_append, if_pos (by omega), List.getElem?_eq_getElem (by omega)]
          exact congrArg some (hx _ (List.getElem_mem _))
      refine main _ (k.write ha hb _) (.inr ⟨_, e, by simp only [List.length_append, hlen]; omega⟩) (.inr ⟨_, e, by simp only [List.length_append, hlen]; omega⟩) (fun i hi => ?_) (fun i hi => ?_) ha
      · rw [pget2_of e]; exact at1 i (by omega)
      · rw [pget2_of e]; exact at1 i hi
  · have hb' : m.b ≠ 0 := by omega
    have eN : pget (P ++ [(m.b, m.c, (pget2 P h.b).take h.n ++ ys)]) m.b = some (m.c, (pget2 P h.b).take h.n ++ ys) := pget_app_eq hn
    have hne : h.b ≠ m.b ∨ h.b = 0 := by
      rcases w.ok with h0 | ⟨xs, h1, h2⟩
      · exact .inr h0
      · exact .inl fun e => by rw [e, hn] at h1; cases h1
    have hsame : SameAt P (P ++ [(m.b, m.c, (pget2 P h.b).take h.n ++ ys)]) h.b := by
      refine pget_app_ne fun e => ?_
      rcases hne with h1 | h1
      · exact h1 e.symm
      · omega
    have hlen : ((pget2 P h.b).take h.n).length = h.n := rd_len w.ok hok
    refine main _ (k.more hn hb' _) (hsame.ok w.ok) (.inr ⟨_, eN, by rw [List.length_append, hlen, e1]; omega⟩) (fun i hi => ?_) (fun i hi => ?_) (k.away_new hn)
    · rw [hsame.g2]; exact w.set i hi
    · rw [pget2_of eN, List.getElem?_append]
      by_cases e3 : i < h.n
      · rw [if_pos (by omega), List.getElem?_take, if_pos e3]; exact w.set i e3
      · rw [if_neg (by omega), hlen, List.getElem?_eq_getElem (by omega)]
        exact congrArg some (hx _ (List.getElem_mem _))
theorem keep_doneL {mk : Nat → α} {L M : List Lh} {ls ls1 Q : LPool α} {l m : Lh} (p : KeepPreG mk L M ls l) (hok : l.ok) (h1 : BookOk mk ls1 L M) (w : Wr ls1 l (mk L.length) l.n) (sm : ∀ b, b ≠ l.b → SameAt ls ls1 b) {ys : List α} (hy : ys ≠ []) (hx : ∀ y ∈ ys, y = mk L.length) (ap : AppO ls1 l ys m Q) : KeepPostG mk L M ls l ⟨L ++ [l], M ++ [m], Q⟩ := by
  refine ⟨h1.pushL hok p.2.2.1 w hy hx ap, by simp, fun b hb hs => ?_⟩
  have s1 := sm b hb
  have hs1 : (pget ls1 b).isSome = true := by rw [show pget ls1 b = pget ls b from s1]; exact hs
  have key : SameAt ls1 Q b ∧ (b ≠ m.b) := by
    rcases ap with ⟨e, _⟩ | ⟨_, hc, rfl, rfl⟩ | ⟨_, hc, hm, hn, e1, e2, rfl⟩
    · exact absurd e hy
    · exact ⟨pget_pset2_ne (Ne.symm hb), hb⟩
    · have : m.b ≠ b := fun e => by rw [e] at hn; rw [hn] at hs1; cases hs1
      exact ⟨pget_app_ne this, this.symm⟩
  refine ⟨(show pget Q b = pget ls b from (show pget Q b = pget ls1 b from key.1).trans s1), fun ha k hu => ?_⟩
  rcases uses_push h1.len hu with hu | e | e
  · exact ha k hu
  · exact hb e
  · exact key.2 e
end
/-! ### Two lists of lists, alike; written over; grown -/
theorem pack_then {α : Type} {P P' Q : LPool α} {xs ys : List α} {h k : Lh} (p : PackL P xs h P') (q : PackL P' ys k Q) : rdP2 Q h = xs := by
  rcases p with ⟨rfl, rfl, _⟩ | ⟨h1, h2, h3, h4, h5, rfl⟩
  · rfl
  · have e : pget (P ++ [(h.b, h.c, xs)]) h.b = some (h.c, xs) := pget_app_eq h2
    have s := pack_same q (b := h.b) (.inr (by rw [e]; rfl))
    unfold rdP2
    rw [s.g2, pget2_of e, h3]
    exact List.take_length
theorem pack_now {α : Type} {P P' : LPool α} {xs : List α} {h : Lh} (p : PackL P xs h P') : rdP2 P' h = xs := pack_then p (.inl ⟨rfl, rfl, rfl⟩ : PackL P' [] Lh.nil P')
theorem pack_hok {α : Type} {P P' : LPool α} {xs : List α} {h : Lh} (p : PackL P xs h P') : h.ok := by
  rcases p with ⟨_, rfl, _⟩ | ⟨h1, h2, h3, h4, h5, rfl⟩
  · exact ⟨Nat.le_refl _, Nat.zero_le _, fun _ => rfl⟩
  · exact ⟨by omega, h5, fun e => by omega⟩
theorem pack_keep {α : Type} {P P' : LPool α} {xs : List α} {h g : Lh} (p : PackL P xs h P') (k : LhOk P g) : SameAt P P' g.b := by
  by_cases e : g.b = 0
  · exact pack_same p (.inl e)
  · exact pack_same p (.inr (lhok_some k e))
theorem Rdy.perm {α : Type} {L M : List Lh} {P : LPool α} {gs hs : List Lh} (h : gs.Perm hs) (r : Rdy L M P gs) : Rdy L M P hs :=
  ⟨fun g hg => r.ok g (h.mem_iff.2 hg), fun g hg => r.le g (h.mem_iff.2 hg), (h.pairwise_iff (fun {x y} k e => by rw [e]; exact k e.symm)).1 r.nd⟩
theorem Rdy.apart {α : Type} {L M : List Lh} {P : LPool α} {gs : List Lh} (r : Rdy L M P gs) {a c : Nat} (ha : a < gs.length) (hc : c < gs.length) (hn : a ≠ c) (e : gs[a].b = gs[c].b) : gs[a].b = 0 := by
  have hp := List.pairwise_iff_getElem.1 r.nd
  by_cases h : a < c
  · exact hp a c ha hc h e
  · rw [e]; exact hp c a hc ha (by omega) e.symm
theorem getD_snoc {α : Type} (l : List α) (x d : α) (i : Nat) : (l ++ [x]).getD i d = if i < l.length then l.getD i d else if i = l.length then x else d := by
  simp only [List.getD, List.getElem?_append]
  split
  · rfl
  · split
    · rename_i h; subst h; simp
    · rw [List.getElem?_eq_none (by simp; omega)]; rfl
abbrev mkO (j : Nat) : Int := -1 - (j : Int)
structure Twn (P : LPool Int) (G W : List Lh) : Prop where
  rdy : Rdy [] [] P (G ++ W)
  ok : ∀ g ∈ G ++ W, g.ok
  len : W.length = G.length
  same : ∀ i, i < G.length → rdP2 P (G.getD i Lh.nil) = rdP2 P (W.getD i Lh.nil)
/-- What the last list reads. -/
def Lst (P : LPool Int) (W : List Lh) (xs : List Int) : Prop := W ≠ [] → rdP2 P (W.getD (W.length - 1) Lh.nil) = xs
theorem twn_nil (P : LPool Int) : Twn P [] [] := ⟨Rdy.nil _ _ _, fun _ h => by simp at h, rfl, fun _ h => by simp at h⟩
theorem Twn.more {P P' Q : LPool Int} {G W : List Lh} {xs : List Int} {h m : Lh} (t : Twn P G W) (p : PackL P xs h P') (q : PackL P' xs m Q) (hx : xs.length ≤ 1000000) : Twn Q (G ++ [h]) (W ++ [m]) ∧ Lst Q (W ++ [m]) xs := by
  have R1 := t.rdy.pack (BookOk.nil (fun _ => (0 : Int)) P) p hx
  have R2 := R1.pack (BookOk.nil (fun _ => (0 : Int)) P') q hx
  have pm : (((G ++ W) ++ [h]) ++ [m]).Perm ((G ++ [h]) ++ (W ++ [m])) := by
    have e1 : ((G ++ W) ++ [h]) ++ [m] = (G ++ (W ++ [h])) ++ [m] := by simp
    have e2 : (G ++ [h]) ++ (W ++ [m]) = (G ++ ([h] ++ W)) ++ [m] := by simp
    rw [e1, e2]
    exact (List.perm_append_comm.append_left G).append_right [m]
  have old : ∀ g ∈ G ++ W, rdP2 Q g = rdP2 P g := fun g hg => by
    have k := (t.rdy.ok g hg).1
    have s1 := pack_keep p k
    have s2 := pack_keep q (s1.ok k)
    rw [s2.rd, s1.rd]
  refine ⟨⟨R2.perm pm, fun g hg => ?_, by simp [t.len], fun i hi => ?_⟩, fun _ => ?_⟩
  · rcases List.mem_append.1 (pm.mem_iff.2 hg) with hg | hg
    · rcases List.mem_append.1 hg with hg | hg
      · exact t.ok g hg
      · obtain rfl : g = h := by simpa using hg
        exact pack_hok p
    · obtain rfl : g = m := by simpa using hg
      exact pack_hok q
  · rw [getD_snoc, getD_snoc, t.len]
    by_cases h1 : i < G.length
    · rw [if_pos h1, if_pos h1]
      have i1 : G.getD i Lh.nil ∈ G := by rw [List.getD, List.getElem?_eq_getElem h1]; exact List.getElem_mem _
      have i2 : W.getD i Lh.nil ∈ W := by rw [List.getD, List.getElem?_eq_getElem (by rw [t.len]; exact h1)]; exact List.getElem_mem _
      rw [old _ (List.mem_append_left _ i1), old _ (List.mem_append_right _ i2)]
      exact t.same i h1
    · rw [if_neg h1, if_neg h1]
      simp only [List.length_append, List.length_cons, List.length_nil] at hi
      rw [if_pos (by omega), if_pos (by omega), pack_then p q, pack_now q]
  · rw [getD_snoc, if_neg (by simp), if_pos (by simp), pack_now q]
/-- The lists are written over: all ahead of number i, and list number i as far as k. -/
structure OwC (P : LPool Int) (G W : List Lh) (xs : List Int) (i k : Nat) : Prop where
  rdy : Rdy [] [] P (G ++ W)
  ok : ∀ g ∈ G ++ W, g.ok
  len : W.length = G.length
  lst : Lst P W xs
  mrk : ∀ j, j < i → ∀ q, q < (G.getD j Lh.nil).n → (pget2 P (G.getD j Lh.nil).b)[q]? = some (mkO j)
  cur : ∀ q, q < k → (pget2 P (G.getD i Lh.nil).b)[q]? = some (mkO i)
theorem Twn.owc {P : LPool Int} {G W : List Lh} {xs : List Int} (t : Twn P G W) (l : Lst P W xs) : OwC P G W xs 0 0 := ⟨t.rdy, t.ok, t.len, l, fun j h => absurd h (Nat.not_lt_zero _), fun j h => absurd h (Nat.not_lt_zero _)⟩
theorem lhok_set {P : LPool Int} {x : Lh} (b k : Nat) (v : Int) (h : LhOk P x) : LhOk (pset2 P b ((pget2 P b).set k v)) x := by
  rcases h with h | ⟨xs, h1, h2⟩
  · exact .inl h
  · by_cases e : b = x.b
    · subst e
      exact .inr ⟨_, pget_pset2_eq h1, by rw [List.length_set, pget2_of h1]; exact h2⟩
    · exact .inr ⟨xs, (pget_pset2_ne e).trans h1, h2⟩
theorem own_mem {G : List Lh} {i : Nat} (h : i < G.length) : G.getD i Lh.nil = G[i] := by simp [List.getD, h]
theorem last_mem {W : List Lh} (h : W ≠ []) : ∃ h2 : W.length - 1 < W.length, W.getD (W.length - 1) Lh.nil = W[W.length - 1] := by
  have : 0 < W.length := List.length_pos_iff.2 h
  exact ⟨by omega, own_mem (by omega)⟩
theorem OwC.write {P : LPool Int} {G W : List Lh} {xs : List Int} {i k : Nat} (o : OwC P G W xs i k) (hi : i < G.length) (hk : k < (G.getD i Lh.nil).n) :
    k < (pget2 P (G.getD i Lh.nil).b).length ∧ OwC (pset2 P (G.getD i Lh.nil).b ((pget2 P (G.getD i Lh.nil).b).set k (mkO i))) G W xs i (k + 1) := by
  have gm : G.getD i Lh.nil ∈ G ++ W := by rw [own_mem hi]; exact List.mem_append_left _ (List.getElem_mem _)
  have g1 := (o.rdy.ok _ gm).1
  have g2 := o.ok _ gm
  have hl := ok_len g1 g2
  have hb : (G.getD i Lh.nil).b ≠ 0 := fun e => by have := g2.2.2 e; have := g2.1; omega
  have gi : (G ++ W)[i]? = some (G.getD i Lh.nil) := by rw [List.getElem?_append_left hi, own_mem hi]; exact List.getElem?_eq_getElem hi
  have far : ∀ (c : Nat) (x : Lh), (G ++ W)[c]? = some x → c ≠ i → x.b ≠ 0 → (G.getD i Lh.nil).b ≠ x.b := fun c x hc hn hx e => by
    obtain ⟨c1, c2⟩ := List.getElem?_eq_some_iff.1 hc
    obtain ⟨i1, i2⟩ := List.getElem?_eq_some_iff.1 gi
    have := o.rdy.apart i1 c1 (Ne.symm hn) (by rw [c2, i2]; exact e)
    rw [i2] at this
    exact hb this
  refine ⟨by omega, ⟨fun x hx => ⟨lhok_set _ _ _ (o.rdy.ok x hx).1, fun q hu => absurd hu uses_nil⟩, o.rdy.le, o.rdy.nd⟩, o.ok, o.len, fun hw => ?_, fun j hj q hq => ?_, fun q hq => ?_⟩
  · obtain ⟨w1, w2⟩ := last_mem hw
    rw [← o.lst hw]
    by_cases e : (W.getD (W.length - 1) Lh.nil).b = 0
    · have : (W.getD (W.length - 1) Lh.nil).n = 0 := by
        have := o.ok (W.getD (W.length - 1) Lh.nil) (by rw [w2]; exact List.mem_append_right _ (List.getElem_mem _))
        have h2 := this.2.2 e; have h1 := this.1; omega
      unfold rdP2; rw [this]; rfl
    · have : SameAt P (pset2 P (G.getD i Lh.nil).b ((pget2 P (G.getD i Lh.nil).b).set k (mkO i))) (W.getD (W.length - 1) Lh.nil).b := pget_pset2_ne (far (G.length + (W.length - 1)) _ (by rw [List.getElem?_append_right (by omega), Nat.add_sub_cancel_left, w2]; exact List.getElem?_eq_getElem w1) (by omega) e)
      exact this.rd
  · have hj2 : j < G.length := by omega
    have e : (G.getD j Lh.nil).b ≠ 0 := fun e => by
      have := o.ok (G.getD j Lh.nil) (by rw [own_mem hj2]; exact List.mem_append_left _ (List.getElem_mem _))
      have h2 := this.2.2 e; have h1 := this.1; omega
    have s : SameAt P (pset2 P (G.getD i Lh.nil).b ((pget2 P (G.getD i Lh.nil).b).set k (mkO i))) (G.getD j Lh.nil).b := pget_pset2_ne (far j _ (by rw [List.getElem?_append_left hj2, own_mem hj2]; exact List.getElem?_eq_getElem hj2) (by omega) e)
    rw [s.g2]; exact o.mrk j hj q hq
  · rcases g1 with h0 | ⟨ys, h1, h2⟩
    · exact absurd h0 hb
    · have e : pget (pset2 P (G.getD i Lh.nil).b ((pget2 P (G.getD i Lh.nil).b).set k (mkO i))) (G.getD i Lh.nil).b = some ((G.getD i Lh.nil).c, (pget2 P (G.getD i Lh.nil).b).set k (mkO i)) := pget_pset2_eq h1
      rw [pget2_of e]
      by_cases e2 : k = q
      · subst e2; rw [List.getElem?_set_self (by omega)]
      · rw [List.getElem?_set_ne e2]; exact o.cur q (by omega)
theorem OwC.next {P : LPool Int} {G W : List Lh} {xs : List Int} {i k : Nat} (o : OwC P G W xs i k) (hk : ¬ k < (G.getD i Lh.nil).n) : OwC P G W xs (i + 1) 0 :=
  ⟨o.rdy, o.ok, o.len, o.lst, fun j hj q hq => by
    by_cases e : j = i
    · subst e; exact o.cur q (by omega)
    · exact o.mrk j (by omega) q hq, fun q hq => absurd hq (Nat.not_lt_zero _)⟩
/-- The lists grow: those ahead of number i have grown. -/
structure OwD (P : LPool Int) (G W M : List Lh) (xs : List Int) (i : Nat) : Prop where
  len : W.length = G.length
  bk : BookOk mkO P (G.take i) M
  rdy : Rdy (G.take i) M P (G.drop i ++ W)
  ok : ∀ g ∈ G ++ W, g.ok
  mrk : ∀ j, i ≤ j → j < G.length → ∀ q, q < (G.getD j Lh.nil).n → (pget2 P (G.getD j Lh.nil).b)[q]? = some (mkO j)
  lst : Lst P W xs
  sm : ∀ m ∈ M, m.n ≤ 1000002
theorem OwC.owd {P : LPool Int} {G W : List Lh} {xs : List Int} (o : OwC P G W xs G.length 0) : OwD P G W [] xs 0 :=
  ⟨o.len, BookOk.nil _ _, o.rdy, o.ok, fun j _ hj => o.mrk j hj, o.lst, fun m hm => (nomatch hm)⟩
theorem OwD.pre {P : LPool Int} {G W M : List Lh} {xs : List Int} {i : Nat} (o : OwD P G W M xs i) (hi : i < G.length) (h : G.length ≤ 1000) : KeepPreG mkO (G.take i) M P (G.getD i Lh.nil) ∧ Rdy (G.take i) M P (G.getD i Lh.nil :: (G.drop (i + 1) ++ W)) := by
  have e : G.drop i ++ W = G.getD i Lh.nil :: (G.drop (i + 1) ++ W) := by rw [List.drop_eq_getElem_cons hi, own_mem hi]; rfl
  have r := o.rdy
  rw [e] at r
  exact ⟨r.pre o.bk (by rw [List.length_take]; omega), r⟩
theorem OwD.step {P Q : LPool Int} {G W M : List Lh} {xs : List Int} {i : Nat} {m : Lh} (o : OwD P G W M xs i) (hi : i < G.length) (h : G.length ≤ 1000) (ap : AppO P (G.getD i Lh.nil) [mkO i, mkO i] m Q) : OwD Q G W (M ++ [m]) xs (i + 1) := by
  obtain ⟨p, r⟩ := o.pre hi h
  have gm : G.getD i Lh.nil ∈ G ++ W := by rw [own_mem hi]; exact List.mem_append_left _ (List.getElem_mem _)
  have g2 := o.ok _ gm
  have tl : (G.take i).length = i := by rw [List.length_take]; omega
  have post : KeepPostG mkO (G.take i) M P (G.getD i Lh.nil) ⟨G.take i ++ [G.getD i Lh.nil], M ++ [m], Q⟩ :=
    keep_doneL p g2 o.bk ⟨p.2.1, fun q hq => by rw [tl]; exact o.mrk i (Nat.le_refl _) hi q hq⟩ (fun b _ => rfl) (by simp) (fun y hy => by rw [tl]; simpa using hy) ap
  have te : G.take (i + 1) = G.take i ++ [G.getD i Lh.nil] := by rw [List.take_add_one, own_mem hi, List.getElem?_eq_getElem hi]; rfl
  have bk := post.1
  have rd := r.keep post
  dsimp only at bk rd
  rw [← te] at bk rd
  have keep : ∀ (c : Nat) (x : Lh), (G.drop (i + 1) ++ W)[c]? = some x → x.b ≠ 0 → SameAt P Q x.b := fun c x hc hx => by
    obtain ⟨c1, c2⟩ := List.getElem?_eq_some_iff.1 hc
    have xm : x ∈ G.drop (i + 1) ++ W := by rw [← c2]; exact List.getElem_mem _
    have ne : x.b ≠ (G.getD i Lh.nil).b := fun e => hx (by
      have := (List.pairwise_cons.1 r.nd).1 x xm e.symm
      rw [e, this])
    exact (post.2.2 x.b ne (lhok_some (r.ok x (List.mem_cons_of_mem _ xm)).1 hx)).1
  refine ⟨o.len, bk, rd, o.ok, fun j h1 h2 q hq => ?_, fun hw => ?_, fun y hy => ?_⟩
  · have e : (G.getD j Lh.nil).b ≠ 0 := fun e => by
      have := o.ok (G.getD j Lh.nil) (by rw [own_mem h2]; exact List.mem_append_left _ (List.getElem_mem _))
      have h3 := this.2.2 e; have h4 := this.1; omega
    have s := keep (j - (i + 1)) (G.getD j Lh.nil) (by rw [List.getElem?_append_left (by rw [List.length_drop]; omega), List.getElem?_drop, show i + 1 + (j - (i + 1)) = j by omega, own_mem h2]; exact List.getElem?_eq_getElem h2) e
    rw [s.g2]; exact o.mrk j (by omega) h2 q hq
  · obtain ⟨w1, w2⟩ := last_mem hw
    rw [← o.lst hw]
    by_cases e : (W.getD (W.length - 1) Lh.nil).b = 0
    · have : (W.getD (W.length - 1) Lh.nil).n = 0 := by
        have := o.ok (W.getD (W.length - 1) Lh.nil) (by rw [w2]; exact List.mem_append_right _ (List.getElem_mem _))
        have h2 := this.2.2 e; have h1 := this.1; omega
      unfold rdP2; rw [this]; rfl
    · exact (keep ((G.drop (i + 1)).length + (W.length - 1)) _ (by rw [List.getElem?_append_right (by omega), Nat.add_sub_cancel_left, w2]; exact List.getElem?_eq_getElem w1) e).rd
  · rcases List.mem_append.1 hy with hy | hy
    · exact o.sm y hy
    · obtain rfl : y = m := by simpa using hy
      have hn : (G.getD i Lh.nil).n ≤ 1000000 := p.2.2.2.2
      rcases ap with ⟨e, _⟩ | ⟨_, _, rfl, _⟩ | ⟨_, _, _, _, e, _⟩
      · simp at e
      · show (G.getD i Lh.nil).n + 2 ≤ _; omega
      · simp only [List.length_cons, List.length_nil] at e; omega
theorem OwD.book {P : LPool Int} {G W M : List Lh} {xs : List Int} (o : OwD P G W M xs G.length) : BookOk mkO P G M := by have := o.bk; rwa [List.take_length] at this
theorem Twn.le {P : LPool Int} {G W : List Lh} (t : Twn P G W) {i : Nat} (h : i < G.length) : (G.getD i Lh.nil).n ≤ (pget2 P (G.getD i Lh.nil).b).length ∧ (W.getD i Lh.nil).n ≤ (pget2 P (W.getD i Lh.nil).b).length := by
  have h2 : i < W.length := by rw [t.len]; exact h
  have i1 : G.getD i Lh.nil ∈ G ++ W := by rw [own_mem h]; exact List.mem_append_left _ (List.getElem_mem _)
  have i2 : W.getD i Lh.nil ∈ G ++ W := by rw [own_mem h2]; exact List.mem_append_right _ (List.getElem_mem _)
  exact ⟨ok_len (t.rdy.ok _ i1).1 (t.ok _ i1), ok_len (t.rdy.ok _ i2).1 (t.ok _ i2)⟩
theorem OwC.le {P : LPool Int} {G W : List Lh} {xs : List Int} {i k : Nat} (o : OwC P G W xs i k) (hi : i < G.length) : (G.getD i Lh.nil).n ≤ 1000000 :=
  o.rdy.le _ (by rw [own_mem hi]; exact List.mem_append_left _ (List.getElem_mem _))
theorem OwD.last {P : LPool Int} {G W M : List Lh} {xs : List Int} {i : Nat} (o : OwD P G W M xs i) (hw : W ≠ []) : (W.getD (W.length - 1) Lh.nil).n ≤ (pget2 P (W.getD (W.length - 1) Lh.nil).b).length := by
  obtain ⟨w1, w2⟩ := last_mem hw
  have m : W.getD (W.length - 1) Lh.nil ∈ W := by rw [w2]; exact List.getElem_mem _
  exact ok_len (o.rdy.ok _ (List.mem_append_right _ m)).1 (o.ok _ (List.mem_append_right _ m))
theorem OwD.small {P : LPool Int} {G W M : List Lh} {xs : List Int} {i : Nat} (o : OwD P G W M xs i) {j : Nat} (hj : j < M.length) : (M.getD j Lh.nil).n ≤ 1000002 :=
  o.sm _ (by rw [own_mem hj]; exact List.getElem_mem _)
theorem pack_fit {α : Type} {P P' : LPool α} {xs : List α} {h : Lh} (p : PackL P xs h P') : h.n ≤ (pget2 P' h.b).length := ok_len (pack_ok p) (pack_hok p)
end Go.Proofs.Ytljimnhijpcjaaa.VC
