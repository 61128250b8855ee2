/- A list of one's own that is written no more, said as data. Plain lemmas; no conditions but those that each names. -/
import Derived.Test.YtncecddhknfimaaVwa
set_option linter.unusedVariables false
set_option linter.unusedSimpArgs false
set_option linter.unusedSectionVars false
namespace Go.Proofs.Ytncecddhknfimaa.VC
open Go

section
variable {E : Env} {st : St} {a : Act} {c : Ctx} {p : Nat} {ts : List Nat}

def Ctx.fz (c : Ctx) (p : Nat) : Ctx := { c with F := fun x b => x ≠ p ∧ c.F x b, Im := fun b => c.Im b ∨ c.F p b }

/-- What the rows at a place are, as data. -/
structure Fzd (c : Ctx) (p : Nat) (e : Ty) (xs : List e.den) : Prop where
  sl : ∃ A cap, c.ρ p = .slice A xs.length cap ∧ xs.length ≤ cap ∧ xs.length ≤ maxLen ∧ (A = none → cap = 0)
  rows : ∀ A n cap, c.ρ p = .slice A n cap → 0 < xs.length → ∃ g, A = some ⟨g, 0, none⟩ ∧ ∀ (i : Nat) (x : e.den), xs[i]? = some x → ∃ cs, e.K c.w (c.fz p).Im x cs ∧ LieAt c.w (c.fz p).Im (Addr.add ⟨g, 0, none⟩ (i * e.sz)) cs

theorem fzd_of {t : TypeId} {e : Ty} {xs : List e.den} (hi : IOk c p (.arr t e xs)) : Fzd c p e xs := by
  obtain ⟨A, cap, h1, h2, h3⟩ := arr_shape hi
  have hnil : A = none → cap = 0 := by
    obtain ⟨cs, k1, _⟩ := hi
    rcases k1.2 with ⟨hn, _⟩ | ⟨g, cp, cur, hv, _⟩
    · rw [h1] at hn; simp at hn; exact fun _ => hn.2.2
    · rw [h1] at hv; simp at hv; intro hA; rw [hA] at hv; simp at hv
  refine ⟨⟨A, cap, h1, h3, h2, hnil⟩, fun A' n cap' hA h0 => ?_⟩
  obtain ⟨g, cp, cur, k1, k2, k3, k4, k5, k6, k7⟩ := arr_block hi h0
  rw [hA] at k1
  simp at k1
  obtain ⟨rfl, _, _⟩ := k1
  refine ⟨g, rfl, fun i x hx => ?_⟩
  obtain ⟨cs, hk, hc⟩ := k7.at i x hx
  refine ⟨cs, Ty.K_mono (fun _ h => .inl h) (fun _ _ => rfl) e _ _ hk, fun j u hj => ⟨?_, ?_⟩⟩
  · rw [add_plain]; exact .inr k2
  · rw [add_plain, add_plain, Nat.zero_add]
    rw [cell_of_row c.w g _ cur t (0, 0) k3]
    have := hc j u hj
    rw [List.getElem?_take] at this
    split at this
    · simpa using this
    · cases this

theorem fz_D (x : Nat) : (c.fz p).D x ↔ c.D x := Iff.rfl
theorem fz_ρ (x : Nat) : (c.fz p).ρ x = c.ρ x := rfl
theorem fz_V (t : Ty) (d : t.den) (v : Value) (h : t.V c d v) : t.V (c.fz p) d v := by
  unfold Ty.V at *
  split
  · rename_i ha
    rw [if_pos ha] at h
    obtain ⟨l, h1, h2⟩ := h
    exact ⟨l, h1, Ty.K_mono (fun _ h => .inl h) (fun _ _ => rfl) t d l h2⟩
  · rename_i ha
    rw [if_neg ha] at h
    exact Ty.K_mono (fun _ h => .inl h) (fun _ _ => rfl) t d _ h

mutual
theorem cv_fz {e : Ty} {xs : List e.den} (hz : Fzd c p e xs) : ∀ (v : AV) (cv : Value), CV c v cv → CV (c.fz p) (v.frz p e xs) cv
  | .undef, _, _ => by simp [AV.frz, CV]
  | .skip, _, hv => by simpa [AV.frz, CV] using hv
  | .tt, _, hv => by simpa [AV.frz, CV] using hv
  | .ff, _, hv => by simpa [AV.frz, CV] using hv
  | .bool b, _, hv => by simpa [AV.frz, CV] using hv
  | .int k n, _, hv => by simpa [AV.frz, CV] using hv
  | .nptr, _, hv => by simpa [AV.frz, CV] using hv
  | .ptr q off, _, hv => by simpa [AV.frz, CV, Ctx.fz] using hv
  | .eptr q i sz off, cv, hv => by
    simp only [AV.frz]
    cases hq : Nat.beq q p with
    | false => simpa [CV, Ctx.fz] using hv
    | true =>
      obtain rfl := Nat.eq_of_beq_eq_true hq
      simp only [cond_true]
      cases hs : Nat.beq sz e.sz with
      | false => simp [CV]
      | true =>
        obtain rfl := Nat.eq_of_beq_eq_true hs
        simp only [cond_true, CV] at hv ⊢
        obtain ⟨hD, g, n, cap, h1, rfl⟩ := hv
        refine ⟨⟨g, 0, none⟩, by rw [add_plain, add_plain, Nat.zero_add], fun x hx => ?_⟩
        have h0 : 0 < xs.length := by have := (List.getElem?_eq_some_iff.1 hx).1; omega
        obtain ⟨g', e1, hr⟩ := hz.rows _ _ _ h1 h0
        simp at e1
        subst e1
        exact hr i x hx
  | .iptr f ys i off, _, hv => by
    simp only [AV.frz, CV] at hv ⊢
    obtain ⟨ad, h1, h2⟩ := hv
    refine ⟨ad, h1, fun x hx => ?_⟩
    obtain ⟨cs, h3, h4⟩ := h2 x hx
    exact ⟨cs, Ty.K_mono (fun _ h => .inl h) (fun _ _ => rfl) f _ _ h3, h4.mono (fun _ h => .inl h) (fun _ _ => rfl)⟩
  | .nsl, _, hv => by simpa [AV.frz, CV] using hv
  | .sl q, cv, hv => by
    simp only [AV.frz]
    cases hq : Nat.beq q p with
    | false => simpa [CV, Ctx.fz] using hv
    | true =>
      obtain rfl := Nat.eq_of_beq_eq_true hq
      simp only [cond_true, CV] at hv ⊢
      obtain ⟨hD, rfl, _⟩ := hv
      obtain ⟨A, cap, h1, h2, h3, h4⟩ := hz.sl
      refine ⟨A, cap, by rw [h1], h2, ⟨h3, h4⟩, fun h0 => ?_⟩
      obtain ⟨g, rfl, hr⟩ := hz.rows _ _ _ h1 h0
      exact ⟨⟨g, 0, none⟩, rfl, hr⟩
  | .pfx q n, cv, hv => by
    simp only [AV.frz]
    cases hq : Nat.beq q p with
    | false => simpa [CV, Ctx.fz] using hv
    | true =>
      obtain rfl := Nat.eq_of_beq_eq_true hq
      simp only [cond_true, CV] at hv ⊢
      obtain ⟨hD, A, m, cap, e1, rfl, hn⟩ := hv
      obtain ⟨A', cap', h1, h2, h3, h4⟩ := hz.sl
      rw [e1] at h1
      simp at h1
      obtain ⟨rfl, rfl, rfl⟩ := h1
      have hl : (xs.take n).length = n := by rw [List.length_take]; omega
      refine ⟨A, cap, by rw [hl], by omega, ⟨by omega, h4⟩, fun h0 => ?_⟩
      obtain ⟨g, rfl, hr⟩ := hz.rows _ _ _ e1 (by omega)
      refine ⟨⟨g, 0, none⟩, rfl, fun i x hx => hr i x ?_⟩
      rw [List.getElem?_take] at hx
      split at hx
      · exact hx
      · cases hx
  | .sub q l n z, cv, hv => by
    simp only [AV.frz]
    cases hq : Nat.beq q p with
    | false => simpa [CV, Ctx.fz] using hv
    | true => simp [CV]
  | .lst f ys, _, hv => by
    simp only [AV.frz, CV] at hv ⊢
    exact Ty.K_mono (fun _ h => .inl h) (fun _ _ => rfl) (.slice f) _ _ hv
  | .nmap, _, hv => by simpa [AV.frz, CV] using hv
  | .map q, _, hv => by simpa [AV.frz, CV, Ctx.fz] using hv
  | .stamp q k key, _, hv => by
    simp only [AV.frz, CV] at hv ⊢
    obtain ⟨hd, b, es, clock, i, x, h1, h2, h3, h4, h5, h6⟩ := hv
    refine ⟨hd, b, es, clock, i, x, h1, ⟨fun e0 => ?_, h2⟩, h3, h4, fz_V _ _ _ h5, h6⟩
    obtain ⟨A, cap, e1, _⟩ := hz.sl
    rw [← e0, h1] at e1; cases e1
  | .nfn, _, hv => by simpa [AV.frz, CV] using hv
  | .vec _ _, _, hv => by simpa [AV.frz, CV] using hv
  | .fn f caps, _, hv => by
    simp only [AV.frz, CV] at hv ⊢
    obtain ⟨l, h1, h2⟩ := hv
    exact ⟨l, h1, cvl_fz hz caps l h2⟩
  | .agg cs, _, hv => by
    simp only [AV.frz, CV] at hv ⊢
    obtain ⟨l, h1, h2⟩ := hv
    exact ⟨l, h1, cvl_fz hz cs l h2⟩
  | .tup cs, _, hv => by
    simp only [AV.frz, CV] at hv ⊢
    obtain ⟨l, h1, h2⟩ := hv
    exact ⟨l, h1, cvl_fz hz cs l h2⟩
theorem cvl_fz {e : Ty} {xs : List e.den} (hz : Fzd c p e xs) : ∀ (l : List AV) (m : List Value), CVL c l m → CVL (c.fz p) (AV.frzL p e xs l) m
  | [], [], _ => trivial
  | v :: l, x :: m, hv => ⟨cv_fz hz v x hv.1, cvl_fz hz l m hv.2⟩
  | [], _ :: _, hv => hv.elim
  | _ :: _, [], hv => hv.elim
end

/-- Without the place nothing changes. -/
theorem cv_fz0 {e : Ty} {xs : List e.den} (hz : Fzd c p e xs) (v : AV) (cv : Value) (hn : v.has p = false) (hv : CV c v cv) : CV (c.fz p) v cv := by
  have hsl : IsSl c p := by obtain ⟨A, cap, h, _⟩ := hz.sl; exact ⟨A, _, cap, h⟩
  have : Ext (c.only fun x => c.D x ∧ x ≠ p) ((c.fz p).only fun x => c.D x ∧ x ≠ p) (fun _ => False) (fun _ => False) :=
    ⟨fun _ h => h, fun _ _ _ => rfl, fun q hq _ b => ⟨fun h => h.2, fun h => ⟨hq.2, h⟩⟩, fun _ h => .inl h, fun _ _ => rfl, fun _ _ _ _ _ => rfl, fun _ h => h.elim⟩
  have h1 := CV.only (D := fun x => c.D x ∧ x ≠ p) v cv (fun x hx => ⟨cv_pos v cv hv x hx, fun e => pos_has hsl v cv hv hn (e ▸ hx)⟩) hv
  have h2 := CV.ext this v cv (clear_of v (fun _ h => h.elim) (fun _ h => h.elim)) h1
  have h3 : Ext ((c.fz p).only fun x => c.D x ∧ x ≠ p) (c.fz p) (fun _ => False) (fun _ => False) :=
    ⟨fun _ h => h.1, fun _ _ _ => rfl, fun _ _ _ _ => Iff.rfl, fun _ h => h, fun _ _ => rfl, fun _ _ _ _ _ => rfl, fun _ h => h.elim⟩
  exact CV.ext h3 v cv (clear_of v (fun _ h => h.elim) (fun _ h => h.elim)) h2

theorem MapK.fz {k v : Ty} : ∀ {M : List (k.den × v.den)} {es : List MapEntry}, MapK c k v M es → MapK (c.fz p) k v M es
  | [], [], _ => trivial
  | _ :: _, _ :: _, ⟨h1, h2, h3⟩ => ⟨fz_V _ _ _ h1, fz_V _ _ _ h2, MapK.fz h3⟩
  | [], _ :: _, h => h.elim
  | _ :: _, [], h => h.elim

theorem iok_fz {e : Ty} {xs : List e.den} (hz : Fzd c p e xs) {x : Nat} (hxp : x ≠ p) {it : Itm} (hi : IOk c x it) : IOk (c.fz p) x (it.frz p e xs) := by
  have hF : ∀ b, (c.fz p).F x b ↔ c.F x b := fun b => ⟨fun h => h.2, fun h => ⟨hxp, h⟩⟩
  cases it with
  | cells vs =>
    obtain ⟨b, l, t, h1, h2, h3, h4⟩ := hi
    exact ⟨b, l, t, h1, h2, cvl_fz hz vs l h3, fun y => (hF y).trans (h4 y)⟩
  | gone => trivial
  | arr t f ys =>
    obtain ⟨cs, h1, h2, h3⟩ := hi
    exact ⟨cs, h1, h2.mono (fun _ h => .inl h) (fun _ _ => rfl), fun y => (hF y).trans (h3 y)⟩
  | mapo k v M =>
    obtain ⟨b, es, clock, h1, h2, h3, h4, h5, h6⟩ := hi
    exact ⟨b, es, clock, h1, h2, h3.fz, h4, h5, fun y => (hF y).trans (h6 y)⟩
  | iter m k v l now =>
    obtain ⟨b, mb, seen, es, clock, h1, h2, h3, h4, h5, h6, h7, h8, h9, h10⟩ := hi
    have hm : m ≠ p := fun e0 => by
      obtain ⟨A, cap, e1, _⟩ := hz.sl
      rw [← e0, h4] at e1; cases e1
    refine ⟨b, mb, seen, es, clock, h1, h2, h3, h4, ⟨hm, h5⟩, h6, h7, h8.fz, fun y hy => ?_, fun y => (hF y).trans (h10 y)⟩
    obtain ⟨z, k1, k2, k3, k4⟩ := h9 y hy
    exact ⟨z, k1, k2, fz_V _ _ _ k3, fz_V _ _ _ k4⟩

theorem frz_nil {e : Ty} {xs : List e.den} : (Itm.gone).frz p e xs = .gone := rfl
mutual
theorem frz_fix {e : Ty} {xs : List e.den} : ∀ (v : AV), p ∉ v.pos → v.frz p e xs = v
  | .undef, _ => rfl
  | .skip, _ => rfl
  | .tt, _ => rfl
  | .ff, _ => rfl
  | .bool _, _ => rfl
  | .int _ _, _ => rfl
  | .nptr, _ => rfl
  | .ptr _ _, _ => rfl
  | .eptr q i z o, h => by simp only [AV.pos, List.mem_singleton] at h; simp only [AV.frz, nbeq_ne (Ne.symm h), cond_false]
  | .iptr _ _ _ _, _ => rfl
  | .nsl, _ => rfl
  | .sl q, h => by simp only [AV.pos, List.mem_singleton] at h; simp only [AV.frz, nbeq_ne (Ne.symm h), cond_false]
  | .pfx q n, h => by simp only [AV.pos, List.mem_singleton] at h; simp only [AV.frz, nbeq_ne (Ne.symm h), cond_false]
  | .sub q l n z, h => by simp only [AV.pos, List.mem_singleton] at h; simp only [AV.frz, nbeq_ne (Ne.symm h), cond_false]
  | .lst _ _, _ => rfl
  | .nmap, _ => rfl
  | .map _, _ => rfl
  | .stamp _ _ _, _ => rfl
  | .nfn, _ => rfl
  | .vec _ _, _ => rfl
  | .fn f cs, h => by simp only [AV.frz]; rw [frzL_fix cs h]
  | .agg cs, h => by simp only [AV.frz]; rw [frzL_fix cs h]
  | .tup cs, h => by simp only [AV.frz]; rw [frzL_fix cs h]
theorem frzL_fix {e : Ty} {xs : List e.den} : ∀ (l : List AV), p ∉ AV.posL l → AV.frzL p e xs l = l
  | [], _ => rfl
  | v :: l, h => by
    simp only [AV.posL, List.mem_append, not_or] at h
    simp only [AV.frzL]; rw [frz_fix v h.1, frzL_fix l h.2]
end
theorem itm_frz_fix {e : Ty} {xs : List e.den} {it : Itm} (h : p ∉ it.pos) : it.frz p e xs = it := by
  cases it with
  | cells vs => simp only [Itm.frz]; rw [frzL_fix vs h]
  | _ => rfl

theorem fz_at (st : St) {e : Ty} {xs : List e.den} (x : Nat) : (st.fz p ts e xs).at x = if x = p then .gone else (st.at x).frz p e xs := by
  show look .gone ((p, .gone) :: st.heap.map (fun x => (x.1, x.2.frz p e xs))) x = _
  by_cases h1 : x = p
  · subst h1; simp [look]
  · rw [if_neg h1]
    have : Nat.beq p x = false := nbeq_ne (Ne.symm h1)
    simp only [look, this, cond_false]
    exact look_map .gone (fun it : Itm => it.frz p e xs) rfl st.heap x
theorem fz_key (st : St) {e : Ty} {xs : List e.den} (hp : hasKey st.heap p = true) (x : Nat) : hasKey (st.fz p ts e xs).heap x = hasKey st.heap x := by
  have h0 := hasKey_map (fun it : Itm => it.frz p e xs) st.heap x
  have h1 : hasKey (st.fz p ts e xs).heap x = (Nat.beq p x || hasKey (st.heap.map (fun x => (x.1, x.2.frz p e xs))) x) := rfl
  rw [h1, h0]
  cases e2 : Nat.beq p x with
  | true => rw [← Nat.eq_of_beq_eq_true e2, hp]; rfl
  | false => rfl
theorem fz_tmp (st : St) {e : Ty} {xs : List e.den} (t : Nat) : (st.fz p ts e xs).tmp t = bif isIn ts t then (st.tmp t).frz p e xs else (st.tmp t).drop p := by
  exact look_mapK .undef (fun t v => bif isIn ts t then v.frz p e xs else v.drop p) (fun t => by cases isIn ts t <;> simp [AV.drop, AV.has, AV.frz]) st.tmps t

theorem fz_ok (hlim : ∀ p b, 900 ≤ p → ¬ E.F0 p b) (h : ROk E st a c) (hlk : LockOk st) {t : TypeId} {e : Ty} {xs : List e.den} (hat : st.at p = .arr t e xs) (hm : st.mayFz p = true) :
    ROk E (st.fz p ts e xs) a (c.fz p) ∧ LockOk (st.fz p ts e xs) ∧ Kp st (st.fz p ts e xs) ts ∧ Hd c (c.fz p) st.lock := by
  simp only [St.mayFz, Bool.and_eq_true, Bool.not_eq_true', List.all_eq_true] at hm
  obtain ⟨⟨⟨m1, m2⟩, m3⟩, m4⟩ := hm
  have h900 := Nat.le_of_ble_eq_true m1
  have hD := (h.Dk p).2 m2
  have hlp : p ∉ st.lock := fun hh => by rw [isIn_iff.2 hh] at m3; cases m3
  have hz : Fzd c p e xs := fzd_of (hat ▸ h.it p hD)
  refine ⟨⟨fun x => ?_, fun t => ?_, h.sz, h.df, fun x hx => ?_, fun x y b hx hy hne hF => ?_, fun x b hx hF => h.lt x b hx hF.2, fun b hb => ?_, fun b hb => .inl (h.im0 b hb), fun b hb => ?_, h.fr⟩, fun x hx => ?_, ⟨fun x hx => ?_, rfl, fun t ht => ?_, fun x hx => ?_⟩, ⟨fun x hx => hx, fun b hb => ⟨.inl hb, rfl⟩, fun x b _ _ _ => rfl, fun x b hx _ => ?_, fun x hx _ => rfl, fun x hx => .inr rfl⟩⟩
  · rw [fz_key st m2]; exact h.Dk x
  · rw [fz_tmp]
    cases isIn ts t
    · simp only [cond_false]
      rcases drop_has (p := p) (v := st.tmp t) with ⟨e1, e2⟩ | ⟨e1, _⟩
      · rw [e1]; exact cv_fz0 hz _ _ e2 (h.tm t)
      · rw [e1]; simp [CV]
    · exact cv_fz hz _ _ (h.tm t)
  · rw [fz_at]
    by_cases e1 : x = p
    · rw [if_pos e1]; trivial
    · rw [if_neg e1]; exact iok_fz hz e1 (h.it x hx)
  · exact fun hG => h.dj x y b hx hy hne hF.2 hG.2
  · rcases hb with hb | hb
    · exact ⟨(h.im b hb).1, fun x hx hF => (h.im b hb).2 x hx hF.2⟩
    · exact ⟨(h.lt p b hD hb).1, fun x hx hF => h.dj x p b hx hD hF.1 hF.2 hb⟩
  · rcases hb with hb | hb
    · exact h.im1 b hb
    · rcases (h.lt p b hD hb).2 with k | k
      · exact .inr k
      · exact absurd k (hlim p b h900)
  · rw [fz_key st m2]; exact hlk x hx
  · have e2 : x ≠ p := fun e => hlp (e ▸ hx)
    rw [fz_at, if_neg e2]
    have n1 := m4 x hx
    exact itm_frz_fix (fun hh => by rw [isIn_iff.2 hh] at n1; cases n1)
  · rw [fz_tmp]
    have : isIn ts t = false := by
      cases hi : isIn ts t with
      | false => rfl
      | true => exact absurd (isIn_iff.1 hi) ht
    rw [this]
    simp only [cond_false]
    rcases drop_has (p := p) (v := st.tmp t) with ⟨e1, _⟩ | ⟨e1, e2⟩
    · exact .inl e1
    · exact .inr ⟨e1, p, hlp, .inl e2⟩
  · rw [fz_key st m2]; exact hx
  · have e2 : x ≠ p := fun e => hlp (e ▸ hx)
    exact ⟨fun h => h.2, fun h => ⟨e2, h⟩⟩
/-- A slice that is nil is a list of one's own, without memory. -/
theorem mat_one (h : ROk E st a c) (hlk : LockOk st) {t q : Nat} {te : TypeId} {e : Ty} (ht : st.tmp t = .nsl) (hq : hasKey st.heap q = false) :
    ∃ c1 : Ctx, c1.w = c.w ∧ ROk E { st with tmps := (t, .sl q) :: st.tmps, heap := (q, .arr te e []) :: st.heap } a c1 ∧ Kp st { st with tmps := (t, .sl q) :: st.tmps, heap := (q, .arr te e []) :: st.heap } [t] ∧ Hd c c1 st.lock := by
  have hqD : ¬ c.D q := fun hD => by rw [(h.Dk q).1 hD] at hq; cases hq
  have ne : ∀ p, c.D p → p ≠ q := fun p hp e => hqD (e ▸ hp)
  have hx : ∀ keys rel : List Nat, keys = [] → rel = [] → Ext c (c.new c.w q (.slice none 0 0) (fun _ => False)) (· ∈ keys) (· ∈ rel) := fun keys rel e1 e2 => by
    subst e1; subst e2
    exact ⟨fun p hp => .inl hp, fun p hp _ => by simp [Ctx.new, ne p hp], fun p hp _ b => by simp [Ctx.new, ne p hp], fun _ h => h, fun _ _ => rfl, fun _ _ _ _ _ => rfl, fun _ h => absurd h (by simp)⟩
  have hqn := Ctx.new_at c c.w q (.slice none 0 0) (fun _ => False)
  have hF : ∀ p b, (c.new c.w q (.slice none 0 0) (fun _ => False)).D p → (c.new c.w q (.slice none 0 0) (fun _ => False)).F p b → c.D p ∧ c.F p b := fun p b hp hb => by
    by_cases e : p = q
    · subst e; exact ((hqn.2.2 b).1 hb).elim
    · have hD : c.D p := hp.resolve_right e
      exact ⟨hD, ((hx [] [] rfl rfl).F p hD (by simp) b).1 hb⟩
  refine ⟨c.new c.w q (.slice none 0 0) (fun _ => False), rfl, ⟨fun p => ?_, fun u => ?_, h.sz, h.df, fun p hD => ?_, fun p p' b hp hp' hne hb hb' => ?_, fun p b hp hb => ?_, fun b hb => ⟨(h.im b hb).1, fun p hp hF' => ?_⟩, h.im0, h.im1, h.fr⟩, ⟨fun p hp => ?_, rfl, fun u hu => ?_, fun p hp => ?_⟩, ?_⟩
  · rw [hasKey_iff, List.map_cons, List.mem_cons, ← hasKey_iff, ← h.Dk]
    exact Or.comm
  · show CV _ (look .undef ((t, .sl q) :: st.tmps) u) _
    by_cases hu : t = u
    · subst hu
      have := h.tm t
      rw [ht] at this
      simp only [CV] at this
      simp only [look, Nat.beq_refl, cond_true, CV]
      rw [this, hqn.1]
      exact ⟨hqn.2.1, rfl, none, 0, 0, rfl⟩
    · simp only [look, nbeq_ne hu, cond_false]
      exact CV.ext (hx [] [] rfl rfl) _ _ (clear_of _ (fun _ h => absurd h (by simp)) (fun _ h => absurd h (by simp))) (h.tm u)
  · show IOk _ p (look .gone ((q, .arr te e []) :: st.heap) p)
    by_cases hp : q = p
    · subst hp
      simp only [look, Nat.beq_refl, cond_true]
      refine ⟨[], ⟨by simp, .inl ⟨hqn.1, rfl⟩⟩, rfl, fun x => ?_⟩
      rw [hqn.2.2, hqn.1]
      simp [Value.ownBlock]
    · simp only [look, nbeq_ne hp, cond_false]
      have hD' : c.D p := hD.resolve_right (Ne.symm hp)
      exact IOk.left (hx [] [] rfl rfl) hD' (by simp) (h.it p hD')
  · exact h.dj p p' b (hF p b hp hb).1 (hF p' b hp' hb').1 hne (hF p b hp hb).2 (hF p' b hp' hb').2
  · exact h.lt p b (hF p b hp hb).1 (hF p b hp hb).2
  · exact (h.im b hb).2 p (hF p b hp hF').1 (hF p b hp hF').2
  · have hne : q ≠ p := fun e => by have := hlk p hp; rw [← e, hq] at this; cases this
    show look .gone ((q, .arr te e []) :: st.heap) p = _
    simp only [look, nbeq_ne hne, cond_false]; rfl
  · left
    show look .undef ((t, .sl q) :: st.tmps) u = _
    simp only [look, nbeq_ne (fun e => hu (by simp [e]) : t ≠ u), cond_false]; rfl
  · rw [hasKey_iff, List.map_cons, List.mem_cons, ← hasKey_iff]
    exact .inr hp
  · exact ⟨fun p hp => .inl hp, fun b hb => ⟨hb, rfl⟩, fun _ _ _ _ _ => rfl, fun p b _ hD => by simp [Ctx.new, ne p hD], fun p _ hD => by simp [Ctx.new, ne p hD], fun p hD => .inr (by simp [Ctx.new, ne p hD])⟩

theorem cvl_set {c : Ctx} {x : AV} : ∀ {vs : List AV} {l : List Value} {i : Nat}, CVL c vs l → (∀ v, l[i]? = some v → CV c x v) → CVL c (vs.set i x) l
  | [], [], _, h, _ => h
  | a :: vs, v :: l, 0, h, hx => ⟨hx v rfl, h.2⟩
  | a :: vs, v :: l, i + 1, h, hx => ⟨h.1, cvl_set h.2 (fun u hu => hx u hu)⟩
  | [], _ :: _, _, h, _ => h.elim
  | _ :: _, [], _, h, _ => h.elim
theorem nc_one (h : ROk E st a c) (hlk : LockOk st) {p0 i q : Nat} {te : TypeId} {e : Ty} {vs : List AV} (hat : st.at p0 = .cells vs) (hv : vs[i]? = some .nsl) (hp0 : hasKey st.heap p0 = true) (hl0 : isIn st.lock p0 = false) (hq : hasKey st.heap q = false) :
    ∃ c1 : Ctx, c1.w = c.w ∧ ROk E { st with heap := (p0, .cells (vs.set i (.sl q))) :: (q, .arr te e []) :: st.heap } a c1 ∧ Kp st { st with heap := (p0, .cells (vs.set i (.sl q))) :: (q, .arr te e []) :: st.heap } [] ∧ Hd c c1 st.lock := by
  have hqD : ¬ c.D q := fun hD => by rw [(h.Dk q).1 hD] at hq; cases hq
  have hpD : c.D p0 := (h.Dk p0).2 hp0
  have ne : ∀ p, c.D p → p ≠ q := fun p hp e => hqD (e ▸ hp)
  have hx : ∀ keys rel : List Nat, keys = [] → rel = [] → Ext c (c.new c.w q (.slice none 0 0) (fun _ => False)) (· ∈ keys) (· ∈ rel) := fun keys rel e1 e2 => by
    subst e1; subst e2
    exact ⟨fun p hp => .inl hp, fun p hp _ => by simp [Ctx.new, ne p hp], fun p hp _ b => by simp [Ctx.new, ne p hp], fun _ h => h, fun _ _ => rfl, fun _ _ _ _ _ => rfl, fun _ h => absurd h (by simp)⟩
  have hqn := Ctx.new_at c c.w q (.slice none 0 0) (fun _ => False)
  have hF : ∀ p b, (c.new c.w q (.slice none 0 0) (fun _ => False)).D p → (c.new c.w q (.slice none 0 0) (fun _ => False)).F p b → c.D p ∧ c.F p b := fun p b hp hb => by
    by_cases e : p = q
    · subst e; exact ((hqn.2.2 b).1 hb).elim
    · have hD : c.D p := hp.resolve_right e
      exact ⟨hD, ((hx [] [] rfl rfl).F p hD (by simp) b).1 hb⟩
  refine ⟨c.new c.w q (.slice none 0 0) (fun _ => False), rfl, ⟨fun p => ?_, fun u => ?_, h.sz, h.df, fun p hD => ?_, fun p p' b hp hp' hne hb hb' => ?_, fun p b hp hb => ?_, fun b hb => ⟨(h.im b hb).1, fun p hp hF' => ?_⟩, h.im0, h.im1, h.fr⟩, ⟨fun p hp => ?_, rfl, fun u hu => .inl rfl, fun p hp => ?_⟩, ?_⟩
  · rw [hasKey_iff, List.map_cons, List.mem_cons, List.map_cons, List.mem_cons, ← hasKey_iff, ← h.Dk]
    show c.D p ∨ p = q ↔ _
    constructor
    · rintro (hD | hD)
      · exact .inr (.inr hD)
      · exact .inr (.inl hD)
    · rintro (hD | hD | hD)
      · exact .inl (by rw [show p = p0 from hD]; exact hpD)
      · exact .inr hD
      · exact .inl hD
  · exact CV.ext (hx [] [] rfl rfl) _ _ (clear_of _ (fun _ h => absurd h (by simp)) (fun _ h => absurd h (by simp))) (h.tm u)
  · show IOk _ p (look .gone ((p0, .cells (vs.set i (.sl q))) :: (q, .arr te e []) :: st.heap) p)
    by_cases hp0' : p0 = p
    · subst hp0'
      simp only [look, Nat.beq_refl, cond_true]
      have old := h.it p0 hpD
      rw [hat] at old
      obtain ⟨b, l, t, k1, k2, k3, k4⟩ := IOk.left (hx [] [] rfl rfl) hpD (by simp) old
      refine ⟨b, l, t, k1, k2, cvl_set k3 (fun v hv' => ?_), k4⟩
      obtain ⟨v', hv1, hv2⟩ := k3.at hv
      rw [hv1] at hv'
      cases hv'
      simp only [CV] at hv2 ⊢
      rw [hv2, hqn.1]
      exact ⟨hqn.2.1, rfl, none, 0, 0, rfl⟩
    · by_cases hp : q = p
      · subst hp
        simp only [look, Nat.beq_refl, cond_true, nbeq_ne hp0', cond_false]
        refine ⟨[], ⟨by simp, .inl ⟨hqn.1, rfl⟩⟩, rfl, fun x => ?_⟩
        rw [hqn.2.2, hqn.1]
        simp [Value.ownBlock]
      · simp only [look, nbeq_ne hp, nbeq_ne hp0', cond_false]
        have hD' : c.D p := hD.resolve_right (Ne.symm hp)
        exact IOk.left (hx [] [] rfl rfl) hD' (by simp) (h.it p hD')
  · exact h.dj p p' b (hF p b hp hb).1 (hF p' b hp' hb').1 hne (hF p b hp hb).2 (hF p' b hp' hb').2
  · exact h.lt p b (hF p b hp hb).1 (hF p b hp hb).2
  · exact (h.im b hb).2 p (hF p b hp hF').1 (hF p b hp hF').2
  · have hne : q ≠ p := fun e => by have := hlk p hp; rw [← e, hq] at this; cases this
    have hne0 : p0 ≠ p := fun e => by
      have : isIn st.lock p = true := by unfold isIn; rw [List.any_eq_true]; exact ⟨p, hp, Nat.beq_refl p⟩
      rw [← e, hl0] at this; cases this
    show look .gone ((p0, .cells (vs.set i (.sl q))) :: (q, .arr te e []) :: st.heap) p = _
    simp only [look, nbeq_ne hne, nbeq_ne hne0, cond_false]; rfl
  · rw [hasKey_iff, List.map_cons, List.mem_cons, List.map_cons, List.mem_cons, ← hasKey_iff]
    exact .inr (.inr hp)
  · exact ⟨fun p hp => .inl hp, fun b hb => ⟨hb, rfl⟩, fun _ _ _ _ _ => rfl, fun p b _ hD => by simp [Ctx.new, ne p hD], fun p _ hD => by simp [Ctx.new, ne p hD], fun p hD => .inr (by simp [Ctx.new, ne p hD])⟩

end

theorem ghost_ok {E : Env} {a : Act} (hlim : ∀ p b, 900 ≤ p → ¬ E.F0 p b) : ∀ (l : List Gh) {st : St} {c : Ctx} {K : St → Prop}, ROk E st a c → LockOk st → ghostA l st K → ∃ st' c', c'.w = c.w ∧ ROk E st' a c' ∧ LockOk st' ∧ K st' ∧ Kp st st' (ghTs l) ∧ Hd c c' st.lock
  | [], st, c, K, h, hlk, hk => ⟨st, c, rfl, h, hlk, hk, Kp.refl _ _, Hd.refl _ _⟩
  | .mv p q ts :: l, st, c, K, h, hlk, hk => by
    simp only [ghostA] at hk
    cases hm : st.mayMv p q with
    | false => rw [hm] at hk; exact hk.elim
    | true =>
      rw [hm] at hk
      simp only [cond_true] at hk
      obtain ⟨h1, h2, h3, h4⟩ := mv_ok (ts := ts) hlim h hlk hm
      obtain ⟨st', c', r1, r2, r3, r4, r5, r6⟩ := ghost_ok hlim l h1 h2 hk
      exact ⟨st', c', r1, r2, r3, r4, (h3.mono fun t ht => by simp [ghTs, ht]).trans (r5.mono fun t ht => by simp [ghTs, ht]), h4.trans (h3.lockl ▸ r6)⟩
  | .fz p ts :: l, st, c, K, h, hlk, hk => by
    simp only [ghostA] at hk
    split at hk
    · rename_i t e xs hat
      cases hm : st.mayFz p with
      | false => rw [hm] at hk; exact hk.elim
      | true =>
        rw [hm] at hk
        simp only [cond_true] at hk
        obtain ⟨h1, h2, h3, h4⟩ := fz_ok (ts := ts) hlim h hlk hat hm
        obtain ⟨st', c', r1, r2, r3, r4, r5, r6⟩ := ghost_ok hlim l h1 h2 hk
        exact ⟨st', c', r1, r2, r3, r4, (h3.mono fun t ht => by simp [ghTs, ht]).trans (r5.mono fun t ht => by simp [ghTs, ht]), h4.trans (h3.lockl ▸ r6)⟩
    · exact hk.elim
  | .nw t q te e :: l, st, c, K, h, hlk, hk => by
    simp only [ghostA] at hk
    split at hk
    · rename_i ht
      cases hq : hasKey st.heap q with
      | true => rw [hq] at hk; exact hk.elim
      | false =>
        rw [hq] at hk
        simp only [cond_false] at hk
        obtain ⟨c1, h0, h1, h3, h4⟩ := mat_one (te := te) (e := e) h hlk ht hq
        obtain ⟨st', c', r1, r2, r3, r4, r5, r6⟩ := ghost_ok hlim l h1 (hlk.kp h3) hk
        exact ⟨st', c', r1.trans h0, r2, r3, r4, (h3.mono fun t ht => by simp at ht; simp [ghTs, ht]).trans (r5.mono fun t ht => by simp [ghTs, ht]), h4.trans (h3.lockl ▸ r6)⟩
    · obtain ⟨st', c', r1, r2, r3, r4, r5, r6⟩ := ghost_ok hlim l h hlk hk
      exact ⟨st', c', r1, r2, r3, r4, r5.mono fun t ht => by simp [ghTs, ht], r6⟩
  | .nc p i q te e :: l, st, c, K, h, hlk, hk => by
    have id : ghostA l st K → ∃ st' c', c'.w = c.w ∧ ROk E st' a c' ∧ LockOk st' ∧ K st' ∧ Kp st st' (ghTs (.nc p i q te e :: l)) ∧ Hd c c' st.lock := fun hk => by
      obtain ⟨st', c', r1, r2, r3, r4, r5, r6⟩ := ghost_ok hlim l h hlk hk
      exact ⟨st', c', r1, r2, r3, r4, r5, r6⟩
    simp only [ghostA] at hk
    split at hk
    · rename_i vs hat
      split at hk
      · rename_i hv
        cases hb : hasKey st.heap q || !hasKey st.heap p || isIn st.lock p with
        | true => rw [hb] at hk; exact hk.elim
        | false =>
          rw [hb] at hk
          simp only [cond_false] at hk
          simp only [Bool.or_eq_false_iff, Bool.not_eq_false'] at hb
          obtain ⟨c1, h0, h1, h3, h4⟩ := nc_one (te := te) (e := e) h hlk hat hv hb.1.2 hb.2 hb.1.1
          obtain ⟨st', c', r1, r2, r3, r4, r5, r6⟩ := ghost_ok hlim l h1 (hlk.kp h3) hk
          exact ⟨st', c', r1.trans h0, r2, r3, r4, (h3.mono fun t ht => by simp at ht).trans r5, h4.trans (h3.lockl ▸ r6)⟩
      · exact id hk
    · exact id hk
end Go.Proofs.Ytncecddhknfimaa.VC
