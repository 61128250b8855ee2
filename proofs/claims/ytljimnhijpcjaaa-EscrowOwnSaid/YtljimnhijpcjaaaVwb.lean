/- A list of one's own that is written no more, said as data. Plain lemmas; no conditions but those that each names. -/
import Derived.Test.YtljimnhijpcjaaaVwa
set_option linter.unusedVariables false
set_option linter.unusedSimpArgs false
set_option linter.unusedSectionVars false
namespace Go.Proofs.Ytljimnhijpcjaaa.VC
open Go

section
variable {E : Env} {st : St} {a : Act} {c : Ctx} {p : Nat} {ts : List Nat}

def Ctx.fz (c : Ctx) (p : Nat) : Ctx := { c with F := fun x b => x ≠ p ∧ c.F x b, Im := fun b => c.Im b ∨ c.F p b }

/-- What the rows at a place are, as data. -/
structure Fzd (c : Ctx) (p : Nat) (e : Ty) (xs : List e.den) : Prop where
  sl : ∃ A cap, c.ρ p = .slice A xs.length cap ∧ xs.length ≤ cap ∧ xs.length ≤ maxLen ∧ (A = none → cap = 0)
  rows : ∀ A n cap, c.ρ p = .slice A n cap → 0 < xs.length → ∃ g, A = some ⟨g, 0, none⟩ ∧ ∀ (i : Nat) (x : e.den), xs[i]? = some x → ∃ cs, e.K c.w (c.fz p).Im x cs ∧ LieAt c.w (c.fz p).Im (Addr.add ⟨g, 0, none⟩ (i * e.sz)) cs

theorem fzd_of {t : TypeId} {e : Ty} {xs : List e.den} (hi : IOk c p (.arr t e xs)) : Fzd c p e xs := by
  obtain ⟨A, cap, h1, h2, h3⟩ := arr_shape hi
  have hnil : A = none → cap = 0 := by
    obtain ⟨cs, k1, _⟩ := hi
    rcases k1.2 with ⟨hn, _⟩ | ⟨g, cp, cur, hv, _⟩
    · rw [h1] at hn; simp at hn; exact fun _ => hn.2.2
    · rw [h1] at hv; simp at hv; intro hA; rw [hA] at hv; simp at hv
  refine ⟨⟨A, cap, h1, h3, h2, hnil⟩, fun A' n cap' hA h0 => ?_⟩
  obtain ⟨g, cp, cur, k1, k2, k3, k4, k5, k6, k7⟩ := arr_block hi h0
  rw [hA] at k1
  simp at k1
  obtain ⟨rfl, _, _⟩ := k1
  refine ⟨g, rfl, fun i x hx => ?_⟩
  obtain ⟨cs, hk, hc⟩ := k7.at i x hx
  refine ⟨cs, Ty.K_mono (fun _ h => .inl h) (fun _ _ => rfl) e _ _ hk, fun j u hj => ⟨?_, ?_⟩⟩
  · rw [add_plain]; exact .inr k2
  · rw [add_plain, add_plain, Nat.zero_add]
    rw [cell_of_row c.w g _ cur t (0, 0) k3]
    have := hc j u hj
    rw [List.getElem?_take] at this
    split at this
    · simpa using this
    · cases this

theorem fz_D (x : Nat) : (c.fz p).D x ↔ c.D x := Iff.rfl
theorem fz_ρ (x : Nat) : (c.fz p).ρ x = c.ρ x := rfl
theorem fz_V (t : Ty) (d : t.den) (v : Value) (h : t.V c d v) : t.V (c.fz p) d v := by
  unfold Ty.V at *
  split
  · rename_i ha
    rw [if_pos ha] at h
    obtain ⟨l, h1, h2⟩ := h
    exact ⟨l, h1, Ty.K_mono (fun _ h => .inl h) (fun _ _ => rfl) t d l h2⟩
  · rename_i ha
    rw [if_neg ha] at h
    exact Ty.K_mono (fun _ h => .inl h) (fun _ _ => rfl) t d _ h

mutual
theorem cv_fz {e : Ty} {xs : List e.den} (hz : Fzd c p e xs) : ∀ (v : AV) (cv : Value), CV c v cv → CV (c.fz p) (v.frz p e xs) cv
  | .undef, _, _ => by simp [AV.frz, CV]
  | .skip, _, hv => by simpa [AV.frz, CV] using hv
  | .tt, _, hv => by simpa [AV.frz, CV] using hv
  | .ff, _, hv => by simpa [AV.frz, CV] using hv
  | .bool b, _, hv => by simpa [AV.frz, CV] using hv
  | .int k n, _, hv => by simpa [AV.frz, CV] using hv
  | .nptr, _, hv => by simpa [AV.frz, CV] using hv
  | .ptr q off, _, hv => by simpa [AV.frz, CV, Ctx.fz] using hv
  | .eptr q i sz off, cv, hv => by
    simp only [AV.frz]
    cases hq : Nat.beq q p with
    | false => simpa [CV, Ctx.fz] using hv
    | true =>
      obtain rfl := Nat.eq_of_beq_eq_true hq
      simp only [cond_true]
      cases hs : Nat.beq sz e.sz with
      | false => simp [CV]
      | true =>
        obtain rfl := Nat.eq_of_beq_eq_true hs
        simp only [cond_true, CV] at hv ⊢
        obtain ⟨hD, g, n, cap, h1, rfl⟩ := hv
        refine ⟨⟨g, 0, none⟩, by rw [add_plain, add_plain, Nat.zero_add], fun x hx => ?_⟩
        have h0 : 0 < xs.length := by have := (List.getElem?_eq_some_iff.1 hx).1; omega
        obtain ⟨g', e1, hr⟩ := hz.rows _ _ _ h1 h0
        simp at e1
        subst e1
        exact hr i x hx
  | .iptr f ys i off, _, hv => by
    simp only [AV.frz, CV] at hv ⊢
    obtain ⟨ad, h1, h2⟩ := hv
    refine ⟨ad, h1, fun x hx => ?_⟩
    obtain ⟨cs, h3, h4⟩ := h2 x hx
    exact ⟨cs, Ty.K_mono (fun _ h => .inl h) (fun _ _ => rfl) f _ _ h3, h4.mono (fun _ h => .inl h) (fun _ _ => rfl)⟩
  | .nsl, _, hv => by simpa [AV.frz, CV] using hv
  | .sl q, cv, hv => by
    simp only [AV.frz]
    cases hq : Nat.beq q p with
    | false => simpa [CV, Ctx.fz] using hv
    | true =>
      obtain rfl := Nat.eq_of_beq_eq_true hq
      simp only [cond_true, CV] at hv ⊢
      obtain ⟨hD, rfl, _⟩ := hv
      obtain ⟨A, cap, h1, h2, h3, h4⟩ := hz.sl
      refine ⟨A, cap, by rw [h1], h2, ⟨h3, h4⟩, fun h0 => ?_⟩
      obtain ⟨g, rfl, hr⟩ := hz.rows _ _ _ h1 h0
      exact ⟨⟨g, 0, none⟩, rfl, hr⟩
  | .pfx q n, cv, hv => by
    simp only [AV.frz]
    cases hq : Nat.beq q p with
    | false => simpa [CV, Ctx.fz] using hv
    | true =>
      obtain rfl := Nat.eq_of_beq_eq_true hq
      simp only [cond_true, CV] at hv ⊢
      obtain ⟨hD, A, m, cap, e1, rfl, hn⟩ := hv
      obtain ⟨A', cap', h1, h2, h3, h4⟩ := hz.sl
      rw [e1] at h1
      simp at h1
      obtain ⟨rfl, rfl, rfl⟩ := h1
      have hl : (xs.take n).length = n := by rw [List.length_take]; omega
      refine ⟨A, cap, by rw [hl], by omega, ⟨by omega, h4⟩, fun h0 => ?_⟩
      obtain ⟨g, rfl, hr⟩ := hz.rows _ _ _ e1 (by omega)
      refine ⟨⟨g, 0, none⟩, rfl, fun i x hx => hr i x ?_⟩
      rw [List.getElem?_take] at hx
      split at hx
      · exact hx
      · cases hx
  | .sub q l n z, cv, hv => by
    simp only [AV.frz]
    cases hq : Nat.beq q p with
    | false => simpa [CV, Ctx.fz] using hv
    | true => simp [CV]
  | .lst f ys, _, hv => by
    simp only [AV.frz, CV] at hv ⊢
    exact Ty.K_mono (fun _ h => .inl h) (fun _ _ => rfl) (.slice f) _ _ hv
  | .nmap, _, hv => by simpa [AV.frz, CV] using hv
  | .map q, _, hv => by simpa [AV.frz, CV, Ctx.fz] using hv
  | .stamp q k key, _, hv => by
    simp only [AV.frz, CV] at hv ⊢
    obtain ⟨hd, b, es, clock, i, x, h1, h2, h3, h4, h5, h6⟩ := hv
    refine ⟨hd, b, es, clock, i, x, h1, ⟨fun e0 => ?_, h2⟩, h3, h4, fz_V _ _ _ h5, h6⟩
    obtain ⟨A, cap, e1, _⟩ := hz.sl
    rw [← e0, h1] at e1; cases e1
  | .nfn, _, hv => by simpa [AV.frz, CV] using hv
  | .vec _ _, _, hv => by simpa [AV.frz, CV] using hv
  | .ref _ _, _, hv => by simpa [AV.frz, CV] using hv
  | .rp _ _ _, _, hv => by simpa [AV.frz, CV] using hv
  | .hd _ _ _, _, hv => by simpa [AV.frz, CV] using hv
  | .hp _ _ _ _ _, _, hv => by simpa [AV.frz, CV] using hv
  | .fn f caps, _, hv => by
    simp only [AV.frz, CV] at hv ⊢
    obtain ⟨l, h1, h2⟩ := hv
    exact ⟨l, h1, cvl_fz hz caps l h2⟩
  | .agg cs, _, hv => by
    simp only [AV.frz, CV] at hv ⊢
    obtain ⟨l, h1, h2⟩ := hv
    exact ⟨l, h1, cvl_fz hz cs l h2⟩
  | .tup cs, _, hv => by
    simp only [AV.frz, CV] at hv ⊢
    obtain ⟨l, h1, h2⟩ := hv
    exact ⟨l, h1, cvl_fz hz cs l h2⟩
theorem cvl_fz {e : Ty} {xs : List e.den} (hz : Fzd c p e xs) : ∀ (l : List AV) (m : List Value), CVL c l m → CVL (c.fz p) (AV.frzL p e xs l) m
  | [], [], _ => trivial
  | v :: l, x :: m, hv => ⟨cv_fz hz v x hv.1, cvl_fz hz l m hv.2⟩
  | [], _ :: _, hv => hv.elim
  | _ :: _, [], hv => hv.elim
end

/-- Without the place nothing changes. -/
theorem cv_fz0 {e : Ty} {xs : List e.den} (hz : Fzd c p e xs) (v : AV) (cv : Value) (hn : v.has p = false) (hv : CV c v cv) : CV (c.fz p) v cv := by
  have hsl : IsSl c p := by obtain ⟨A, cap, h, _⟩ := hz.sl; exact ⟨A, _, cap, h⟩
  have : Ext (c.only fun x => c.D x ∧ x ≠ p) ((c.fz p).only fun x => c.D x ∧ x ≠ p) (fun _ => False) (fun _ => False) :=
    ⟨fun _ h => h, fun _ _ _ => rfl, fun q hq _ b => ⟨fun h => h.2, fun h => ⟨hq.2, h⟩⟩, fun _ h => .inl h, fun _ _ => rfl, fun _ _ _ _ _ => rfl, fun _ h => h.elim⟩
  have h1 := CV.only (D := fun x => c.D x ∧ x ≠ p) v cv (fun x hx => ⟨cv_pos v cv hv x hx, fun e => pos_has hsl v cv hv hn (e ▸ hx)⟩) hv
  have h2 := CV.ext this v cv (clear_of v (fun _ h => h.elim) (fun _ h => h.elim)) h1
  have h3 : Ext ((c.fz p).only fun x => c.D x ∧ x ≠ p) (c.fz p) (fun _ => False) (fun _ => False) :=
    ⟨fun _ h => h.1, fun _ _ _ => rfl, fun _ _ _ _ => Iff.rfl, fun _ h => h, fun _ _ => rfl, fun _ _ _ _ _ => rfl, fun _ h => h.elim⟩
  exact CV.ext h3 v cv (clear_of v (fun _ h => h.elim) (fun _ h => h.elim)) h2

theorem MapK.fz {k v : Ty} : ∀ {M : List (k.den × v.den)} {es : List MapEntry}, MapK c k v M es → MapK (c.fz p) k v M es
  | [], [], _ => trivial
  | _ :: _, _ :: _, ⟨h1, h2, h3⟩ => ⟨fz_V _ _ _ h1, fz_V _ _ _ h2, MapK.fz h3⟩
  | [], _ :: _, h => h.elim
  | _ :: _, [], h => h.elim

theorem iok_fz {e : Ty} {xs : List e.den} (hz : Fzd c p e xs) {x : Nat} (hxp : x ≠ p) {it : Itm} (hi : IOk c x it) : IOk (c.fz p) x (it.frz p e xs) := by
  have hF : ∀ b, (c.fz p).F x b ↔ c.F x b := fun b => ⟨fun h => h.2, fun h => ⟨hxp, h⟩⟩
  cases it with
  | cells vs =>
    obtain ⟨b, l, t, h1, h2, h3, h4⟩ := hi
    exact ⟨b, l, t, h1, h2, cvl_fz hz vs l h3, fun y => (hF y).trans (h4 y)⟩
  | gone => trivial
  | arr t f ys =>
    obtain ⟨cs, h1, h2, h3⟩ := hi
    exact ⟨cs, h1, h2.mono (fun _ h => .inl h) (fun _ _ => rfl), fun y => (hF y).trans (h3 y)⟩
  | mapo k v M =>
    obtain ⟨b, es, clock, h1, h2, h3, h4, h5, h6⟩ := hi
    exact ⟨b, es, clock, h1, h2, h3.fz, h4, h5, fun y => (hF y).trans (h6 y)⟩
  | iter m k v l now =>
    obtain ⟨b, mb, seen, es, clock, h1, h2, h3, h4, h5, h6, h7, h8, h9, h10⟩ := hi
    have hm : m ≠ p := fun e0 => by
      obtain ⟨A, cap, e1, _⟩ := hz.sl
      rw [← e0, h4] at e1; cases e1
    refine ⟨b, mb, seen, es, clock, h1, h2, h3, h4, ⟨hm, h5⟩, h6, h7, h8.fz, fun y hy => ?_, fun y => (hF y).trans (h10 y)⟩
    obtain ⟨z, k1, k2, k3, k4⟩ := h9 y hy
    exact ⟨z, k1, k2, fz_V _ _ _ k3, fz_V _ _ _ k4⟩
  | pool r H P hs => exact IOk.samePool (it := .pool r H P hs) ⟨r, by simp [Itm.poolIs]⟩ hi rfl (fun _ h => .inl h) (fun _ _ => rfl) hF (fun _ _ => rfl)
  | apool r t e P => exact IOk.samePool (it := .apool r t e P) ⟨r, by simp [Itm.poolIs]⟩ hi rfl (fun _ h => .inl h) (fun _ _ => rfl) hF (fun _ _ => rfl)

theorem frz_nil {e : Ty} {xs : List e.den} : (Itm.gone).frz p e xs = .gone := rfl
mutual
theorem frz_fix {e : Ty} {xs : List e.den} : ∀ (v : AV), p ∉ v.pos → v.frz p e xs = v
  | .undef, _ => rfl
  | .skip, _ => rfl
  | .tt, _ => rfl
  | .ff, _ => rfl
  | .bool _, _ => rfl
  | .int _ _, _ => rfl
  | .nptr, _ => rfl
  | .ptr _ _, _ => rfl
  | .eptr q i z o, h => by simp only [AV.pos, List.mem_singleton] at h; simp only [AV.frz, nbeq_ne (Ne.symm h), cond_false]
  | .iptr _ _ _ _, _ => rfl
  | .nsl, _ => rfl
  | .sl q, h => by simp only [AV.pos, List.mem_singleton] at h; simp only [AV.frz, nbeq_ne (Ne.symm h), cond_false]
  | .pfx q n, h => by simp only [AV.pos, List.mem_singleton] at h; simp only [AV.frz, nbeq_ne (Ne.symm h), cond_false]
  | .sub q l n z, h => by simp only [AV.pos, List.mem_singleton] at h; simp only [AV.frz, nbeq_ne (Ne.symm h), cond_false]
  | .lst _ _, _ => rfl
  | .nmap, _ => rfl
  | .map _, _ => rfl
  | .stamp _ _ _, _ => rfl
  | .nfn, _ => rfl
  | .vec _ _, _ => rfl
  | .ref _ _, _ => rfl
  | .rp _ _ _, _ => rfl
  | .hd _ _ _, _ => rfl
  | .hp _ _ _ _ _, _ => rfl
  | .fn f cs, h => by simp only [AV.frz]; rw [frzL_fix cs h]
  | .agg cs, h => by simp only [AV.frz]; rw [frzL_fix cs h]
  | .tup cs, h => by simp only [AV.frz]; rw [frzL_fix cs h]
theorem frzL_fix {e : Ty} {xs : List e.den} : ∀ (l : List AV), p ∉ AV.posL l → AV.frzL p e xs l = l
  | [], _ => rfl
  | v :: l, h => by
    simp only [AV.posL, List.mem_append, not_or] at h
    simp only [AV.frzL]; rw [frz_fix v h.1, frzL_fix l h.2]
end
theorem itm_frz_fix {e : Ty} {xs : List e.den} {it : Itm} (h : p ∉ it.pos) : it.frz p e xs = it := by
  cases it with
  | cells vs => simp only [Itm.frz]; rw [frzL_fix vs h]
  | _ => rfl

theorem fz_at (st : St) {e : Ty} {xs : List e.den} (x : Nat) : (st.fz p ts e xs).at x = if x = p then .gone else (st.at x).frz p e xs := by
  show look .gone ((p, .gone) :: st.heap.map (fun x => (x.1, x.2.frz p e xs))) x = _
  by_cases h1 : x = p
  · subst h1; simp [look]
  · rw [if_neg h1]
    have : Nat.beq p x = false := nbeq_ne (Ne.symm h1)
    simp only [look, this, cond_false]
    exact look_map .gone (fun it : Itm => it.frz p e xs) rfl st.heap x
theorem fz_key (st : St) {e : Ty} {xs : List e.den} (hp : hasKey st.heap p = true) (x : Nat) : hasKey (st.fz p ts e xs).heap x = hasKey st.heap x := by
  have h0 := hasKey_map (fun it : Itm => it.frz p e xs) st.heap x
  have h1 : hasKey (st.fz p ts e xs).heap x = (Nat.beq p x || hasKey (st.heap.map (fun x => (x.1, x.2.frz p e xs))) x) := rfl
  rw [h1, h0]
  cases e2 : Nat.beq p x with
  | true => rw [← Nat.eq_of_beq_eq_true e2, hp]; rfl
  | false => rfl
theorem fz_tmp (st : St) {e : Ty} {xs : List e.den} (t : Nat) : (st.fz p ts e xs).tmp t = bif isIn ts t then (st.tmp t).frz p e xs else (st.tmp t).drop p := by
  exact look_mapK .undef (fun t v => bif isIn ts t then v.frz p e xs else v.drop p) (fun t => by cases isIn ts t <;> simp [AV.drop, AV.has, AV.frz]) st.tmps t

theorem fz_ok (hlim : ∀ p b, 900 ≤ p → ¬ E.F0 p b) (h : ROk E st a c) (hlk : LockOk st) {t : TypeId} {e : Ty} {xs : List e.den} (hat : st.at p = .arr t e xs) (hm : st.mayFz p = true) :
    ROk E (st.fz p ts e xs) a (c.fz p) ∧ LockOk (st.fz p ts e xs) ∧ Kp st (st.fz p ts e xs) ts ∧ Hd c (c.fz p) st.lock := by
  simp only [St.mayFz, Bool.and_eq_true, Bool.not_eq_true', List.all_eq_true] at hm
  obtain ⟨⟨⟨m1, m2⟩, m3⟩, m4⟩ := hm
  have h900 := Nat.le_of_ble_eq_true m1.1
  have hmil : p < 1000000 := by simpa [Nat.blt_eq] using m1.2
  have hD := (h.Dk p).2 m2
  have hlp : p ∉ st.lock := fun hh => by rw [isIn_iff.2 hh] at m3; cases m3
  have hz : Fzd c p e xs := fzd_of (hat ▸ h.it p hD)
  refine ⟨⟨fun x => ?_, fun t => ?_, h.sz, h.df, fun x hx => ?_, fun x y b hx hy hne hF => ?_, fun x b hx hF => h.lt x b hx hF.2, fun b hb => ?_, fun b hb => .inl (h.im0 b hb), fun b hb => ?_, h.fr⟩, fun x hx => ?_, ⟨fun x hx => ?_, rfl, fun t ht => ?_, fun x hx => ?_⟩, ⟨fun x hx => hx, fun b hb => ⟨.inl hb, rfl⟩, fun x b _ _ _ => rfl, fun x b hx _ => ?_, fun x hx _ => rfl, fun x hx => .inr rfl⟩⟩
  · rw [fz_key st m2]; exact h.Dk x
  · rw [fz_tmp]
    cases isIn ts t
    · simp only [cond_false]
      rcases drop_has (p := p) (v := st.tmp t) with ⟨e1, e2⟩ | ⟨e1, _⟩
      · rw [e1]; exact cv_fz0 hz _ _ e2 (h.tm t)
      · rw [e1]; simp [CV]
    · exact cv_fz hz _ _ (h.tm t)
  · rw [fz_at]
    by_cases e1 : x = p
    · rw [if_pos e1]; trivial
    · rw [if_neg e1]; exact iok_fz hz e1 (h.it x hx)
  · exact fun hG => h.dj x y b hx hy hne hF.2 hG.2
  · rcases hb with hb | hb
    · exact ⟨(h.im b hb).1, fun x hx hF => (h.im b hb).2 x hx hF.2⟩
    · exact ⟨(h.lt p b hD hb).1, fun x hx hF => h.dj x p b hx hD hF.1 hF.2 hb⟩
  · rcases hb with hb | hb
    · exact h.im1 b hb
    · rcases (h.lt p b hD hb).2 with k | k
      · exact .inr k
      · rw [org_lt hmil] at k; exact absurd k (hlim p b h900)
  · rw [fz_key st m2]; exact hlk x hx
  · have e2 : x ≠ p := fun e => hlp (e ▸ hx)
    rw [fz_at, if_neg e2]
    have n1 := m4 x hx
    exact itm_frz_fix (fun hh => by rw [isIn_iff.2 hh] at n1; cases n1)
  · rw [fz_tmp]
    have : isIn ts t = false := by
      cases hi : isIn ts t with
      | false => rfl
      | true => exact absurd (isIn_iff.1 hi) ht
    rw [this]
    simp only [cond_false]
    rcases drop_has (p := p) (v := st.tmp t) with ⟨e1, _⟩ | ⟨e1, e2⟩
    · exact .inl e1
    · exact .inr ⟨e1, p, hlp, .inl (.inl e2)⟩
  · rw [fz_key st m2]; exact hx
  · have e2 : x ≠ p := fun e => hlp (e ▸ hx)
    exact ⟨fun h => h.2, fun h => ⟨e2, h⟩⟩
/-- A slice that is nil is a list of one's own, without memory. -/
theorem mat_one (h : ROk E st a c) (hlk : LockOk st) {t q : Nat} {te : TypeId} {e : Ty} (ht : st.tmp t = .nsl) (hq : hasKey st.heap q = false) :
    ∃ c1 : Ctx, c1.w = c.w ∧ ROk E { st with tmps := (t, .sl q) :: st.tmps, heap := (q, .arr te e []) :: st.heap } a c1 ∧ Kp st { st with tmps := (t, .sl q) :: st.tmps, heap := (q, .arr te e []) :: st.heap } [t] ∧ Hd c c1 st.lock := by
  have hqD : ¬ c.D q := fun hD => by rw [(h.Dk q).1 hD] at hq; cases hq
  have ne : ∀ p, c.D p → p ≠ q := fun p hp e => hqD (e ▸ hp)
  have hx : ∀ keys rel : List Nat, keys = [] → rel = [] → Ext c (c.new c.w q (.slice none 0 0) (fun _ => False)) (· ∈ keys) (· ∈ rel) := fun keys rel e1 e2 => by
    subst e1; subst e2
    exact ⟨fun p hp => .inl hp, fun p hp _ => by simp [Ctx.new, ne p hp], fun p hp _ b => by simp [Ctx.new, ne p hp], fun _ h => h, fun _ _ => rfl, fun _ _ _ _ _ => rfl, fun _ h => absurd h (by simp)⟩
  have hqn := Ctx.new_at c c.w q (.slice none 0 0) (fun _ => False)
  have hF : ∀ p b, (c.new c.w q (.slice none 0 0) (fun _ => False)).D p → (c.new c.w q (.slice none 0 0) (fun _ => False)).F p b → c.D p ∧ c.F p b := fun p b hp hb => by
    by_cases e : p = q
    · subst e; exact ((hqn.2.2 b).1 hb).elim
    · have hD : c.D p := hp.resolve_right e
      exact ⟨hD, ((hx [] [] rfl rfl).F p hD (by simp) b).1 hb⟩
  refine ⟨c.new c.w q (.slice none 0 0) (fun _ => False), rfl, ⟨fun p => ?_, fun u => ?_, h.sz, h.df, fun p hD => ?_, fun p p' b hp hp' hne hb hb' => ?_, fun p b hp hb => ?_, fun b hb => ⟨(h.im b hb).1, fun p hp hF' => ?_⟩, h.im0, h.im1, h.fr⟩, ⟨fun p hp => ?_, rfl, fun u hu => ?_, fun p hp => ?_⟩, ?_⟩
  · rw [hasKey_iff, List.map_cons, List.mem_cons, ← hasKey_iff, ← h.Dk]
    exact Or.comm
  · show CV _ (look .undef ((t, .sl q) :: st.tmps) u) _
    by_cases hu : t = u
    · subst hu
      have := h.tm t
      rw [ht] at this
      simp only [CV] at this
      simp only [look, Nat.beq_refl, cond_true, CV]
      rw [this, hqn.1]
      exact ⟨hqn.2.1, rfl, none, 0, 0, rfl⟩
    · simp only [look, nbeq_ne hu, cond_false]
      exact CV.ext (hx [] [] rfl rfl) _ _ (clear_of _ (fun _ h => absurd h (by simp)) (fun _ h => absurd h (by simp))) (h.tm u)
  · show IOk _ p (look .gone ((q, .arr te e []) :: st.heap) p)
    by_cases hp : q = p
    · subst hp
      simp only [look, Nat.beq_refl, cond_true]
      refine ⟨[], ⟨by simp, .inl ⟨hqn.1, rfl⟩⟩, rfl, fun x => ?_⟩
      rw [hqn.2.2, hqn.1]
      simp [Value.ownBlock]
    · simp only [look, nbeq_ne hp, cond_false]
      have hD' : c.D p := hD.resolve_right (Ne.symm hp)
      exact IOk.left (hx [] [] rfl rfl) hD' (by simp) (h.it p hD')
  · exact h.dj p p' b (hF p b hp hb).1 (hF p' b hp' hb').1 hne (hF p b hp hb).2 (hF p' b hp' hb').2
  · exact h.lt p b (hF p b hp hb).1 (hF p b hp hb).2
  · exact (h.im b hb).2 p (hF p b hp hF').1 (hF p b hp hF').2
  · have hne : q ≠ p := fun e => by have := hlk p hp; rw [← e, hq] at this; cases this
    show look .gone ((q, .arr te e []) :: st.heap) p = _
    simp only [look, nbeq_ne hne, cond_false]; rfl
  · left
    show look .undef ((t, .sl q) :: st.tmps) u = _
    simp only [look, nbeq_ne (fun e => hu (by simp [e]) : t ≠ u), cond_false]; rfl
  · rw [hasKey_iff, List.map_cons, List.mem_cons, ← hasKey_iff]
    exact .inr hp
  · exact ⟨fun p hp => .inl hp, fun b hb => ⟨hb, rfl⟩, fun _ _ _ _ _ => rfl, fun p b _ hD => by simp [Ctx.new, ne p hD], fun p _ hD => by simp [Ctx.new, ne p hD], fun p hD => .inr (by simp [Ctx.new, ne p hD])⟩

/-- A new place without memory. -/
theorem new_one (h : ROk E st a c) (hlk : LockOk st) {q : Nat} {v : Value} {it : Itm} (hq : hasKey st.heap q = false) (hit : IOk (c.new c.w q v (fun _ => False)) q it) :
    ∃ c1 : Ctx, c1.w = c.w ∧ ROk E { st with heap := (q, it) :: st.heap } a c1 ∧ Kp st { st with heap := (q, it) :: st.heap } [] ∧ Hd c c1 st.lock := by
  have hqD : ¬ c.D q := fun hD => by rw [(h.Dk q).1 hD] at hq; cases hq
  have ne : ∀ p, c.D p → p ≠ q := fun p hp e => hqD (e ▸ hp)
  have hx : ∀ keys rel : List Nat, keys = [] → rel = [] → Ext c (c.new c.w q v (fun _ => False)) (· ∈ keys) (· ∈ rel) := fun keys rel e1 e2 => by
    subst e1; subst e2
    exact ⟨fun p hp => .inl hp, fun p hp _ => by simp [Ctx.new, ne p hp], fun p hp _ b => by simp [Ctx.new, ne p hp], fun _ h => h, fun _ _ => rfl, fun _ _ _ _ _ => rfl, fun _ h => absurd h (by simp)⟩
  have hqn := Ctx.new_at c c.w q v (fun _ => False)
  have hF : ∀ p b, (c.new c.w q v (fun _ => False)).D p → (c.new c.w q v (fun _ => False)).F p b → c.D p ∧ c.F p b := fun p b hp hb => by
    by_cases e : p = q
    · subst e; exact ((hqn.2.2 b).1 hb).elim
    · have hD : c.D p := hp.resolve_right e
      exact ⟨hD, ((hx [] [] rfl rfl).F p hD (by simp) b).1 hb⟩
  refine ⟨c.new c.w q v (fun _ => False), rfl, ⟨fun p => ?_, fun u => ?_, h.sz, h.df, fun p hD => ?_, fun p p' b hp hp' hne hb hb' => ?_, fun p b hp hb => ?_, fun b hb => ⟨(h.im b hb).1, fun p hp hF' => ?_⟩, h.im0, h.im1, h.fr⟩, ⟨fun p hp => ?_, rfl, fun u hu => .inl rfl, fun p hp => ?_⟩, ?_⟩
  · rw [hasKey_iff, List.map_cons, List.mem_cons, ← hasKey_iff, ← h.Dk]
    exact Or.comm
  · exact CV.ext (hx [] [] rfl rfl) _ _ (clear_of _ (fun _ h => absurd h (by simp)) (fun _ h => absurd h (by simp))) (h.tm u)
  · show IOk _ p (look .gone ((q, it) :: st.heap) p)
    by_cases hp : q = p
    · subst hp
      simp only [look, Nat.beq_refl, cond_true]
      exact hit
    · simp only [look, nbeq_ne hp, cond_false]
      have hD' : c.D p := hD.resolve_right (Ne.symm hp)
      exact IOk.left (hx [] [] rfl rfl) hD' (by simp) (h.it p hD')
  · exact h.dj p p' b (hF p b hp hb).1 (hF p' b hp' hb').1 hne (hF p b hp hb).2 (hF p' b hp' hb').2
  · exact h.lt p b (hF p b hp hb).1 (hF p b hp hb).2
  · exact (h.im b hb).2 p (hF p b hp hF').1 (hF p b hp hF').2
  · have hne : q ≠ p := fun e => by have := hlk p hp; rw [← e, hq] at this; cases this
    show look .gone ((q, it) :: st.heap) p = _
    simp only [look, nbeq_ne hne, cond_false]; rfl
  · rw [hasKey_iff, List.map_cons, List.mem_cons, ← hasKey_iff]
    exact .inr hp
  · exact ⟨fun p hp => .inl hp, fun b hb => ⟨hb, rfl⟩, fun _ _ _ _ _ => rfl, fun p b _ hD => by simp [Ctx.new, ne p hD], fun p _ hD => by simp [Ctx.new, ne p hD], fun p hD => .inr (by simp [Ctx.new, ne p hD])⟩
theorem np_one (h : ROk E st a c) (hlk : LockOk st) {p q : Nat} {H : List HT} (hp : hasKey st.heap p = false) (hf : fits1 H = true) :
    ∃ c1 : Ctx, c1.w = c.w ∧ ROk E { st with heap := (p, .pool q H [] []) :: st.heap } a c1 ∧ Kp st { st with heap := (p, .pool q H [] []) :: st.heap } [] ∧ Hd c c1 st.lock :=
  new_one (v := undef) h hlk hp ⟨(Ctx.new_at ..).1, hf, ⟨by simp, by simp⟩, fun _ _ => undef, fun _ _ _ => False, by simp, by simp, fun b => by rw [(Ctx.new_at ..).2.2]; simp⟩
theorem na_one (h : ROk E st a c) (hlk : LockOk st) {p q : Nat} {te : TypeId} {e : Ty} (hp : hasKey st.heap p = false) (hf : 1 ≤ e.sz) :
    ∃ c1 : Ctx, c1.w = c.w ∧ ROk E { st with heap := (p, .apool q te e []) :: st.heap } a c1 ∧ Kp st { st with heap := (p, .apool q te e []) :: st.heap } [] ∧ Hd c c1 st.lock :=
  new_one (v := undef) h hlk hp ⟨(Ctx.new_at ..).1, hf, ⟨by simp, by simp⟩, by simp, fun b => by rw [(Ctx.new_at ..).2.2]; simp⟩

/-! ### What a pool takes in -/

def Ctx.absW (c : Ctx) (ps : List Nat) (pq : Nat) : Ctx := { c with F := fun x b => (x ∉ ps ∧ c.F x b) ∨ (x = pq ∧ ∃ p, p ∈ ps ∧ c.F p b) }

structure MayPk (st : St) (ps : List Nat) (pq : Nat) : Prop where
  nd : ps.Nodup
  lo : ∀ p ∈ ps, 900 ≤ p ∧ p < 1000000
  key : ∀ p ∈ ps, hasKey st.heap p = true
  lock : ∀ p ∈ ps, p ∉ st.lock
  ne : ∀ p ∈ ps, p ≠ pq
  pqlock : pq ∉ st.lock
  pqkey : hasKey st.heap pq = true
  far : ∀ q ∈ st.lock, ∀ p ∈ (st.at q).pos, p ∉ pq :: ps
  tmp : ∀ t, pq ∉ (st.tmp t).pos
theorem mayPk_iff {ps : List Nat} {pq : Nat} (h : st.mayPk ps pq = true) : MayPk st ps pq := by
  unfold St.mayPk at h
  simp only [Bool.and_eq_true, Bool.not_eq_true', List.all_eq_true, Nat.blt_eq] at h
  obtain ⟨⟨⟨⟨⟨⟨h1, h2⟩, h3⟩, h4⟩, h5⟩, h6⟩, h7⟩ := h
  have ni : ∀ {l : List Nat} {x : Nat}, isIn l x = false → x ∉ l := fun h hm => by rw [isIn_iff.2 hm] at h; cases h
  refine ⟨nodupB_iff h1, fun p hp => ⟨Nat.le_of_ble_eq_true (h2 p hp).1.1.1.1, (h2 p hp).1.1.1.2⟩, fun p hp => (h2 p hp).1.1.2, fun p hp => ni (h2 p hp).1.2, fun p hp e => ?_, ni h4, h5, fun q hq p hp => ni (h6 q hq p hp), fun t hm => ?_⟩
  · have := (h2 p hp).2
    rw [e] at this; simp at this
  · cases hk : hasKey st.tmps t with
    | true => exact ni (h7 _ (look_memK AV.undef hk)) hm
    | false =>
      have : st.tmp t = .undef := look_none AV.undef st.tmps t hk
      rw [this] at hm; simp [AV.pos] at hm
theorem abs_keep {ps : List Nat} {pq : Nat} {x : Nat} (hn : x ∉ pq :: ps) (b : Nat) : (c.absW ps pq).F x b ↔ c.F x b := by
  rw [List.mem_cons, not_or] at hn
  exact ⟨fun h => h.elim (fun h => h.2) (fun h => absurd h.1 hn.1), fun h => .inl ⟨hn.2, h⟩⟩
theorem abs_pq {ps : List Nat} {pq : Nat} (hm : pq ∉ ps) (b : Nat) : (c.absW ps pq).F pq b ↔ c.F pq b ∨ ∃ p, p ∈ ps ∧ c.F p b :=
  ⟨fun h => h.imp (fun h => h.2) (fun h => h.2), fun h => h.imp (fun h => ⟨hm, h⟩) (fun h => ⟨rfl, h⟩)⟩
theorem abs_ok (hlim : ∀ p b, 900 ≤ p → ¬ E.F0 p b) (h : ROk E st a c) {ps : List Nat} {pq : Nat} (hm : MayPk st ps pq) {st' : St} (hkey : ∀ x, hasKey st'.heap x = hasKey st.heap x)
    (htm : ∀ t, CV (c.absW ps pq) (st'.tmp t) (a.tmps.getD t undef)) (hit : ∀ p, c.D p → IOk (c.absW ps pq) p (st'.at p)) : ROk E st' a (c.absW ps pq) ∧ Hd c (c.absW ps pq) st.lock := by
  have hDp : ∀ p ∈ ps, c.D p := fun p hp => (h.Dk p).2 (hm.key p hp)
  have hDq : c.D pq := (h.Dk pq).2 hm.pqkey
  refine ⟨⟨fun x => ?_, htm, h.sz, h.df, hit, fun x y b hx hy hne hF hG => ?_, fun x b hx hF => ?_, fun b hb => ⟨(h.im b hb).1, fun x hx hF => ?_⟩, h.im0, h.im1, h.fr⟩, ⟨fun _ h => h, fun b hb => ⟨hb, rfl⟩, fun _ _ _ _ _ => rfl, fun p b hp _ => ?_, fun _ _ _ => rfl, fun _ _ => .inr rfl⟩⟩
  · rw [hkey]; exact h.Dk x
  · rcases hF with ⟨h1, h2⟩ | ⟨h1, p, h2, h3⟩
    · rcases hG with ⟨k1, k2⟩ | ⟨k1, p', k2, k3⟩
      · exact h.dj x y b hx hy hne h2 k2
      · exact h.dj x p' b hx (hDp p' k2) (fun e => h1 (e ▸ k2)) h2 k3
    · rcases hG with ⟨k1, k2⟩ | ⟨k1, p', k2, k3⟩
      · exact h.dj p y b (hDp p h2) hy (fun e => k1 (e ▸ h2)) h3 k2
      · exact hne (h1.trans k1.symm)
  · rcases hF with ⟨h1, h2⟩ | ⟨h1, p, h2, h3⟩
    · exact h.lt x b hx h2
    · have := h.lt p b (hDp p h2) h3
      refine ⟨this.1, .inl (this.2.resolve_right fun hF => ?_)⟩
      rw [org_lt (hm.lo p h2).2] at hF
      exact hlim p b (hm.lo p h2).1 hF
  · rcases hF with ⟨h1, h2⟩ | ⟨h1, p, h2, h3⟩
    · exact (h.im b hb).2 x hx h2
    · exact (h.im b hb).2 p (hDp p h2) h3
  · exact abs_keep (fun hx => (List.mem_cons.1 hx).elim (fun (e : p = pq) => hm.pqlock (e ▸ hp)) (fun e => hm.lock p e hp)) b

theorem gone_key {ps : List Nat} {pq : Nat} {it : Itm} {f : Itm → Itm} (hk : ∀ p ∈ ps, hasKey st.heap p = true) (hq : hasKey st.heap pq = true) (x : Nat) :
    hasKey ((pq, it) :: (ps.map (·, Itm.gone) ++ st.heap.map (fun x => (x.1, f x.2)))) x = hasKey st.heap x := by
  rw [show hasKey ((pq, it) :: (ps.map (·, Itm.gone) ++ st.heap.map (fun x => (x.1, f x.2)))) x = (Nat.beq pq x || hasKey (ps.map (·, Itm.gone) ++ st.heap.map (fun x => (x.1, f x.2))) x) from rfl, hasKey_append, hasKey_map]
  cases h1 : Nat.beq pq x with
  | true => rw [← Nat.eq_of_beq_eq_true h1, hq]; rfl
  | false =>
    cases h2 : hasKey (ps.map (·, Itm.gone)) x with
    | true =>
      rw [hasKey_iff] at h2
      obtain ⟨y, hy, rfl⟩ := List.mem_map.1 h2
      obtain ⟨z, hz, rfl⟩ := List.mem_map.1 hy
      rw [hk z hz]; rfl
    | false => rfl
theorem gone_at {ps : List Nat} {pq : Nat} {it : Itm} {f : Itm → Itm} (hf : f .gone = .gone) (x : Nat) :
    look Itm.gone ((pq, it) :: (ps.map (·, Itm.gone) ++ st.heap.map (fun x => (x.1, f x.2)))) x = if x = pq then it else if x ∈ ps then .gone else f (st.at x) := by
  by_cases h1 : x = pq
  · subst h1; rw [if_pos rfl]; simp [look]
  · rw [if_neg h1]
    simp only [look, nbeq_ne (Ne.symm h1), cond_false]
    rw [look_append]
    have hk : hasKey (ps.map (·, Itm.gone)) x = true ↔ x ∈ ps := by
      rw [hasKey_iff, List.map_map]
      simp
    by_cases h2 : x ∈ ps
    · rw [if_pos (hk.2 h2), if_pos h2]
      have : ∀ l : List Nat, look Itm.gone (l.map (·, Itm.gone)) x = .gone := by
        intro l
        induction l with
        | nil => rfl
        | cons y l ih =>
          show look Itm.gone ((y, Itm.gone) :: l.map (·, Itm.gone)) x = _
          by_cases e : y = x
          · subst e; simp [look]
          · simp only [look, nbeq_ne e, cond_false]; exact ih
      exact this ps
    · rw [if_neg (fun e => h2 (hk.1 e)), if_neg h2]
      exact look_map Itm.gone f hf st.heap x

theorem pk_one (hlim : ∀ p b, 900 ≤ p → ¬ E.F0 p b) (h : ROk E st a c) (hlk : LockOk st) {p0 pq q q' : Nat} {ps ts : List Nat} {H : List HT} {P : List (Nat × HTden H)} {d : HTden H} (hat : st.at pq = .pool q' H P []) (hrd : HTrds H (ps.map fun x => (st.at x).ren (indexIn ps)) = some d)
    (hmk : st.mayPk ps pq = true) (hp0 : p0 ∈ ps) (hi0 : indexIn ps p0 = 0) (hpos : ∀ x ∈ ps, ∀ y ∈ (st.at x).pos, y ∈ ps) :
    ∃ n c1, (0 < n ∧ pget P n = none) ∧ c1.w = c.w ∧ ROk E (st.pk ts p0 ps pq (.pool q' H (P ++ [(n, d)]) []) (.ref q n)) a c1 ∧ Kp st (st.pk ts p0 ps pq (.pool q' H (P ++ [(n, d)]) []) (.ref q n)) (ts ++ ps.map pkNo) ∧ Hd c c1 st.lock := by
  have hm := mayPk_iff hmk
  have hDp : ∀ p ∈ ps, c.D p := fun p hp => (h.Dk p).2 (hm.key p hp)
  have hDq : c.D pq := (h.Dk pq).2 hm.pqkey
  have hpq : pq ∉ ps := fun hh => hm.ne pq hh rfl
  have hit := h.it pq hDq
  rw [hat] at hit
  obtain ⟨fr, f1, f2, ρp, Fp, f3, f4, f5⟩ := hit
  have hle := HTrds_le hrd
  have hlen : ps.length = H.length := by have := hle.len; rwa [List.length_map, HTitms_len] at this
  have hget : ∀ i, i < ps.length → ps.getD i 0 ∈ ps ∧ indexIn ps (ps.getD i 0) = i := fun i hi => ⟨by simp [List.getD, hi], indexIn_get hm.nd hi⟩
  -- the object, by itself
  have hobj0 : ∀ (i : Nat) (it : Itm), (HTitms H d)[i]? = some it → IOk0 ((c.absW ps pq).obj H.length (fun i => c.ρ (ps.getD i 0)) (fun i => c.F (ps.getD i 0))) i it := fun i it hi => by
    have hlt : i < H.length := by have := (List.getElem?_eq_some_iff.1 hi).1; rwa [HTitms_len] at this
    obtain ⟨it0, hj, hle0⟩ := hle.get i it hi
    have hi' : i < ps.length := by omega
    rw [List.getElem?_map] at hj
    obtain ⟨y, hy, rfl⟩ := Option.map_eq_some_iff.1 hj
    have hyg : ps.getD i 0 = y := by simp [List.getD, hy]
    obtain ⟨hmem, hidx⟩ := hget i hi'
    rw [hyg] at hmem hidx
    have h1 := IOk.only (D := (· ∈ ps)) (hpos y hmem) (h.it y (hDp y hmem))
    have hren : Ren (c.only (· ∈ ps)) ((c.absW ps pq).obj H.length (fun i => c.ρ (ps.getD i 0)) (fun i => c.F (ps.getD i 0))) (indexIn ps) := by
      refine ⟨fun z hz => ?_, fun z hz => ?_, fun z b hz => ?_, rfl, fun _ h => h⟩
      · have := (indexIn_at hz).1
        show indexIn ps z < H.length
        omega
      · show c.ρ (ps.getD (indexIn ps z) 0) = c.ρ z
        rw [getD_index hz]
      · show c.F (ps.getD (indexIn ps z) 0) b ↔ c.F z b
        rw [getD_index hz]
    have h2 := IOk.ren hren (p := y) hmem h1
    rw [hidx] at h2
    exact IOk.to0 (HTitms_flat hi) (hle0.ok h2)
  -- its first place
  have hroot : ∃ b, c.ρ p0 = .pointer (some ⟨b, 0, none⟩) ∧ c.F p0 b := by
    have hpl : 0 < ps.length := by have := (indexIn_at hp0).1; omega
    have hg0 : ps.getD 0 0 = p0 := by have := getD_index hp0; rwa [hi0] at this
    cases H with
    | nil => cases f1
    | cons H0 H' =>
      cases H0 with
      | cells l =>
        have := hobj0 0 _ rfl
        obtain ⟨b, _, _, k1, _, _, k4⟩ := this
        have k1 : c.ρ (ps.getD 0 0) = _ := k1
        have k4 : ∀ x, c.F (ps.getD 0 0) x ↔ x = b := k4
        rw [hg0] at k1 k4
        exact ⟨b, k1, (k4 b).2 rfl⟩
      | arr t e => cases f1
      | mapo k v => cases f1
  obtain ⟨b0, hρ0, hF0⟩ := hroot
  have hg0 : ps.getD 0 0 = p0 := by have := getD_index hp0; rwa [hi0] at this
  have hnone : pget P (b0 + 1) = none := pget_none.2 fun hmm => by
    obtain ⟨x, hx, e⟩ := List.mem_map.1 hmm
    have ho := f3 x hx (by simp)
    have hFx : Fp x.1 0 b0 ∧ 0 < H.length := by
      cases H with
      | nil => cases f1
      | cons H0 H' =>
        cases H0 with
        | cells l =>
          obtain ⟨b, _, _, k1, _, _, k4⟩ := ho.it 0 _ rfl
          have k1 : ρp x.1 0 = .pointer (some ⟨b, 0, none⟩) := k1
          have k4 : ∀ z, Fp x.1 0 z ↔ z = b := k4
          rw [ho.root, e] at k1
          have : b0 = b := by
            have k1 : Value.pointer (some ⟨b0, 0, none⟩) = .pointer (some ⟨b, 0, none⟩) := k1
            injection k1 with k1; injection k1 with k1; injection k1
          exact ⟨(k4 b0).2 this, by simp⟩
        | arr t e => cases f1
        | mapo k v => cases f1
    exact h.dj pq p0 b0 hDq (hDp p0 hp0) (fun e => hpq (e ▸ hp0)) ((f5 b0).2 ⟨x, hx, by simp, 0, hFx.2, hFx.1⟩) hF0
  have hobj : PObj (c.absW ps pq) H (b0 + 1) d (fun i => c.ρ (ps.getD i 0)) (fun i => c.F (ps.getD i 0)) := by
    refine ⟨Nat.succ_pos _, by rw [hg0]; exact hρ0, hobj0, fun i j b hi hj hij hF hG => ?_⟩
    obtain ⟨m1, x1⟩ := hget i (by omega)
    obtain ⟨m2, x2⟩ := hget j (by omega)
    exact h.dj _ _ b (hDp _ m1) (hDp _ m2) (fun e => hij (by rw [← x1, ← x2, e])) hF hG
  let ρ' : Nat → Nat → Value := fun m => if m = b0 + 1 then fun i => c.ρ (ps.getD i 0) else ρp m
  let F' : Nat → Nat → Nat → Prop := fun m => if m = b0 + 1 then fun i => c.F (ps.getD i 0) else Fp m
  have F'n : F' (b0 + 1) = fun i => c.F (ps.getD i 0) := if_pos rfl
  have F'o : ∀ {m}, m ≠ b0 + 1 → F' m = Fp m := fun hm => if_neg hm
  have ρ'n : ρ' (b0 + 1) = fun i => c.ρ (ps.getD i 0) := if_pos rfl
  have ρ'o : ∀ {m}, m ≠ b0 + 1 → ρ' m = ρp m := fun hm => if_neg hm
  have nn : ∀ {z : Nat × HTden H}, z ∈ P → z.1 ≠ b0 + 1 := fun hz e => pget_none.1 hnone (e ▸ List.mem_map_of_mem hz)
  have keep : ∀ x, c.D x → x ∉ pq :: ps → (c.absW ps pq).D x ∧ (c.absW ps pq).ρ x = c.ρ x ∧ ∀ b, (c.absW ps pq).F x b ↔ c.F x b := fun x hx hn => ⟨hx, rfl, abs_keep hn⟩
  have hr : ∀ cv, CV c (.ptr p0 0) cv → CV (c.absW ps pq) (.ref q (b0 + 1)) cv := fun cv hv => by
    simp only [CV] at hv ⊢
    obtain ⟨_, b, h1, h2⟩ := hv
    rw [h2, ← h1, hρ0]; rfl
  have at' : ∀ x, (st.pk ts p0 ps pq (.pool q' H (P ++ [(b0 + 1, d)]) []) (.ref q (b0 + 1))).at x = if x = pq then .pool q' H (P ++ [(b0 + 1, d)]) [] else if x ∈ ps then .gone else (st.at x).cl p0 (pq :: ps) (.ref q (b0 + 1)) := gone_at (f := Itm.cl p0 (pq :: ps) (.ref q (b0 + 1))) rfl
  have key' : ∀ x, hasKey (st.pk ts p0 ps pq (.pool q' H (P ++ [(b0 + 1, d)]) []) (.ref q (b0 + 1))).heap x = hasKey st.heap x := gone_key (f := Itm.cl p0 (pq :: ps) (.ref q (b0 + 1))) hm.key hm.pqkey
  have tmp' : ∀ t, (st.pk ts p0 ps pq (.pool q' H (P ++ [(b0 + 1, d)]) []) (.ref q (b0 + 1))).tmp t = bif isIn ts t then AV.cl p0 (pq :: ps) (.ref q (b0 + 1)) (st.tmp t) else bif (st.tmp t).pos.any (isIn (pq :: ps)) then .undef else st.tmp t := fun t =>
    look_mapK AV.undef (fun t v => bif isIn ts t then AV.cl p0 (pq :: ps) (.ref q (b0 + 1)) v else bif v.pos.any (isIn (pq :: ps)) then .undef else v) (fun t => by cases isIn ts t <;> rfl) st.tmps t
  have hin0 : p0 ∈ pq :: ps := List.mem_cons_of_mem _ hp0
  obtain ⟨k1, k2⟩ := abs_ok hlim h hm (st' := st.pk ts p0 ps pq (.pool q' H (P ++ [(b0 + 1, d)]) []) (.ref q (b0 + 1))) key' (fun t => by
    rw [tmp']
    cases isIn ts t with
    | true => exact cl_cv keep rfl (fun _ h => h) hr _ _ (h.tm t)
    | false => exact cl_gen keep rfl (fun _ h => h) _ _ (h.tm t)) (fun x hx => by
    rw [at']
    by_cases e1 : x = pq
    · rw [if_pos e1, e1]
      refine ⟨fr, f1, f2.add (Nat.succ_pos _) hnone, ρ', F', fun x hx _ => ?_, fun x hx y hy _ _ hxy i j b hi hj hF hG => ?_, fun b => ?_⟩
      · rcases List.mem_append.1 hx with hx | hx
        · rw [ρ'o (nn hx), F'o (nn hx)]
          exact (f3 x hx (by simp)).same (fun _ h => h) (fun _ _ => rfl) (fun _ _ _ _ => rfl)
        · rw [List.mem_singleton.1 hx]
          show PObj _ H (b0 + 1) d (ρ' (b0 + 1)) (F' (b0 + 1))
          rw [ρ'n, F'n]; exact hobj
      · rcases List.mem_append.1 hx with hx | hx
        · rw [F'o (nn hx)] at hF
          rcases List.mem_append.1 hy with hy | hy
          · rw [F'o (nn hy)] at hG
            exact f4 x hx y hy (by simp) (by simp) hxy i j b hi hj hF hG
          · rw [List.mem_singleton.1 hy] at hG; have hG : F' (b0 + 1) j b := hG; rw [F'n] at hG
            have m2 := (hget j (by omega)).1
            exact h.dj pq _ b hDq (hDp _ m2) (fun e => hpq (e ▸ m2)) ((f5 b).2 ⟨x, hx, by simp, i, hi, hF⟩) hG
        · rw [List.mem_singleton.1 hx] at hF; have hF : F' (b0 + 1) i b := hF; rw [F'n] at hF
          rcases List.mem_append.1 hy with hy | hy
          · rw [F'o (nn hy)] at hG
            have m2 := (hget i (by omega)).1
            exact h.dj pq _ b hDq (hDp _ m2) (fun e => hpq (e ▸ m2)) ((f5 b).2 ⟨y, hy, by simp, j, hj, hG⟩) hF
          · exact hxy (by rw [List.mem_singleton.1 hx, List.mem_singleton.1 hy])
      · rw [abs_pq hpq, f5]
        constructor
        · rintro (⟨x, hx, hx2, i, hi, hF⟩ | ⟨p, hp, hF⟩)
          · exact ⟨x, List.mem_append_left _ hx, hx2, i, hi, by rw [F'o (nn hx)]; exact hF⟩
          · refine ⟨(b0 + 1, d), by simp, by simp, indexIn ps p, by have := (indexIn_at hp).1; omega, ?_⟩
            show F' (b0 + 1) (indexIn ps p) b
            rw [F'n]
            show c.F (ps.getD (indexIn ps p) 0) b
            rw [getD_index hp]; exact hF
        · rintro ⟨x, hx, _, i, hi, hF⟩
          rcases List.mem_append.1 hx with hx | hx
          · rw [F'o (nn hx)] at hF
            exact .inl ⟨x, hx, by simp, i, hi, hF⟩
          · rw [List.mem_singleton.1 hx] at hF; have hF : F' (b0 + 1) i b := hF; rw [F'n] at hF
            exact .inr ⟨_, (hget i (by omega)).1, hF⟩
    · rw [if_neg e1]
      by_cases e2 : x ∈ ps
      · rw [if_pos e2]; trivial
      · rw [if_neg e2]
        exact cl_iok keep rfl (fun _ h => h) hr (fun hh => (List.mem_cons.1 hh).elim e1 e2) hx (h.it x hx))
  refine ⟨b0 + 1, c.absW ps pq, ⟨Nat.succ_pos _, hnone⟩, rfl, k1, ⟨fun x hx => ?_, rfl, fun t ht => ?_, fun x hx => by rw [key']; exact hx⟩, k2⟩
  · have e1 : x ≠ pq := fun e => hm.pqlock (e ▸ hx)
    have e2 : x ∉ ps := fun e => hm.lock x e hx
    rw [at', if_neg e1, if_neg e2]
    exact cl_iid hin0 _ (hm.far x hx)
  · rw [tmp']
    have : isIn ts t = false := by
      cases hi : isIn ts t with
      | false => rfl
      | true => exact absurd (List.mem_append_left _ (isIn_iff.1 hi)) ht
    rw [this]
    simp only [cond_false]
    cases hb : (st.tmp t).pos.any (isIn (pq :: ps)) with
    | false => exact .inl rfl
    | true =>
      obtain ⟨y, hy, hy2⟩ := List.any_eq_true.1 hb
      have hy2 := isIn_iff.1 hy2
      have hyp : y ∈ ps := (List.mem_cons.1 hy2).resolve_left fun e => hm.tmp t (e ▸ hy)
      exact .inr ⟨rfl, y, hm.lock y hyp, .inr ⟨hy, List.mem_append_right _ (List.mem_map_of_mem hyp)⟩⟩

/-! ### A list that a pool takes in -/

theorem Lh.val_pfx {g : Lh} {A : Option Addr} {m cap : Nat} (h : g.val = .slice A m cap) (n : Nat) : (⟨g.b, n, g.c⟩ : Lh).val = .slice A n cap ∧ m = g.n ∧ cap = g.c := by
  unfold Lh.val at h ⊢
  split at h
  · rename_i hb
    simp at h
    obtain ⟨rfl, rfl, rfl⟩ := h
    simp only [hb]
    exact ⟨trivial, trivial, trivial⟩
  · rename_i b hb
    simp at h
    obtain ⟨rfl, rfl, rfl⟩ := h
    simp only [hb]
    exact ⟨trivial, trivial, trivial⟩
section
variable {c : Ctx} {p pq q : Nat} {e : Ty} {g : Lh}

mutual
theorem ch_cv (keep : ∀ x, c.D x → x ∉ [pq, p] → (c.absW [p] pq).D x ∧ (c.absW [p] pq).ρ x = c.ρ x ∧ ∀ b, (c.absW [p] pq).F x b ↔ c.F x b) (hg : g.ok) (hρ : c.ρ p = g.val) : ∀ (v : AV) (cv : Value), CV c v cv → CV (c.absW [p] pq) (AV.ch p pq q e g v) cv
  | .undef, cv, hv => by simp only [AV.ch]; exact cl_gen keep rfl (fun _ h => h) _ _ hv
  | .skip, cv, hv => by simp only [AV.ch]; exact cl_gen keep rfl (fun _ h => h) _ _ hv
  | .tt, cv, hv => by simp only [AV.ch]; exact cl_gen keep rfl (fun _ h => h) _ _ hv
  | .ff, cv, hv => by simp only [AV.ch]; exact cl_gen keep rfl (fun _ h => h) _ _ hv
  | .bool _, cv, hv => by simp only [AV.ch]; exact cl_gen keep rfl (fun _ h => h) _ _ hv
  | .int _ _, cv, hv => by simp only [AV.ch]; exact cl_gen keep rfl (fun _ h => h) _ _ hv
  | .nptr, cv, hv => by simp only [AV.ch]; exact cl_gen keep rfl (fun _ h => h) _ _ hv
  | .ptr _ _, cv, hv => by simp only [AV.ch]; exact cl_gen keep rfl (fun _ h => h) _ _ hv
  | .eptr _ _ _ _, cv, hv => by simp only [AV.ch]; exact cl_gen keep rfl (fun _ h => h) _ _ hv
  | .iptr _ _ _ _, cv, hv => by simp only [AV.ch]; exact cl_gen keep rfl (fun _ h => h) _ _ hv
  | .nsl, cv, hv => by simp only [AV.ch]; exact cl_gen keep rfl (fun _ h => h) _ _ hv
  | .sub _ _ _ _, cv, hv => by simp only [AV.ch]; exact cl_gen keep rfl (fun _ h => h) _ _ hv
  | .lst _ _, cv, hv => by simp only [AV.ch]; exact cl_gen keep rfl (fun _ h => h) _ _ hv
  | .nmap, cv, hv => by simp only [AV.ch]; exact cl_gen keep rfl (fun _ h => h) _ _ hv
  | .map _, cv, hv => by simp only [AV.ch]; exact cl_gen keep rfl (fun _ h => h) _ _ hv
  | .stamp _ _ _, cv, hv => by simp only [AV.ch]; exact cl_gen keep rfl (fun _ h => h) _ _ hv
  | .nfn, cv, hv => by simp only [AV.ch]; exact cl_gen keep rfl (fun _ h => h) _ _ hv
  | .vec _ _, cv, hv => by simp only [AV.ch]; exact cl_gen keep rfl (fun _ h => h) _ _ hv
  | .ref _ _, cv, hv => by simp only [AV.ch]; exact cl_gen keep rfl (fun _ h => h) _ _ hv
  | .rp _ _ _, cv, hv => by simp only [AV.ch]; exact cl_gen keep rfl (fun _ h => h) _ _ hv
  | .hd _ _ _, cv, hv => by simp only [AV.ch]; exact cl_gen keep rfl (fun _ h => h) _ _ hv
  | .hp _ _ _ _ _, cv, hv => by simp only [AV.ch]; exact cl_gen keep rfl (fun _ h => h) _ _ hv
  | .sl x, cv, hv => by
    simp only [AV.ch]
    cases h1 : Nat.beq x p with
    | true =>
      rw [Nat.eq_of_beq_eq_true h1] at hv
      simp only [cond_true, CV] at hv ⊢
      exact ⟨hg, hv.2.1.trans hρ⟩
    | false =>
      simp only [cond_false]
      cases h2 : Nat.beq x pq with
      | true => simp [CV]
      | false =>
        have hx : x ∉ [pq, p] := fun hm => by
          simp only [List.mem_cons, List.not_mem_nil, or_false] at hm
          rcases hm with hm | hm
          · rw [hm, Nat.beq_refl] at h2; cases h2
          · rw [hm, Nat.beq_refl] at h1; cases h1
        exact CV.to (fun y hy hD => keep y hD (by have : y = x := List.mem_singleton.1 hy
                                                  rw [this]; exact hx)) rfl (fun _ h => h) hv
  | .pfx x n, cv, hv => by
    simp only [AV.ch]
    cases h1 : Nat.beq x p with
    | true =>
      rw [Nat.eq_of_beq_eq_true h1] at hv
      simp only [cond_true, CV] at hv ⊢
      obtain ⟨_, A, m, cap, e1, rfl, hn⟩ := hv
      rw [hρ] at e1
      obtain ⟨k1, k2, k3⟩ := Lh.val_pfx e1 n
      exact ⟨⟨by have := hg.1; dsimp only; omega, hg.2.1, hg.2.2⟩, k1.symm⟩
    | false =>
      simp only [cond_false]
      cases h2 : Nat.beq x pq with
      | true => simp [CV]
      | false =>
        have hx : x ∉ [pq, p] := fun hm => by
          simp only [List.mem_cons, List.not_mem_nil, or_false] at hm
          rcases hm with hm | hm
          · rw [hm, Nat.beq_refl] at h2; cases h2
          · rw [hm, Nat.beq_refl] at h1; cases h1
        exact CV.to (fun y hy hD => keep y hD (by have : y = x := List.mem_singleton.1 hy
                                                  rw [this]; exact hx)) rfl (fun _ h => h) hv
  | .fn f cs, cv, hv => by
    simp only [AV.ch, CV] at *
    obtain ⟨l, h1, h2⟩ := hv
    exact ⟨l, h1, chl_cv keep hg hρ cs l h2⟩
  | .agg cs, cv, hv => by
    simp only [AV.ch, CV] at *
    obtain ⟨l, h1, h2⟩ := hv
    exact ⟨l, h1, chl_cv keep hg hρ cs l h2⟩
  | .tup cs, cv, hv => by
    simp only [AV.ch, CV] at *
    obtain ⟨l, h1, h2⟩ := hv
    exact ⟨l, h1, chl_cv keep hg hρ cs l h2⟩
theorem chl_cv (keep : ∀ x, c.D x → x ∉ [pq, p] → (c.absW [p] pq).D x ∧ (c.absW [p] pq).ρ x = c.ρ x ∧ ∀ b, (c.absW [p] pq).F x b ↔ c.F x b) (hg : g.ok) (hρ : c.ρ p = g.val) : ∀ (l : List AV) (m : List Value), CVL c l m → CVL (c.absW [p] pq) (AV.chL p pq q e g l) m
  | [], [], _ => trivial
  | v :: l, x :: m, hv => ⟨ch_cv keep hg hρ v x hv.1, chl_cv keep hg hρ l m hv.2⟩
  | [], _ :: _, hv => hv.elim
  | _ :: _, [], hv => hv.elim
end
mutual
theorem ch_id : ∀ (v : AV), (∀ x ∈ v.pos, x ∉ [pq, p]) → AV.ch p pq q e g v = v
  | .undef, h => by simp only [AV.ch]; exact cl_idg (p0 := p) (by simp) _ h
  | .skip, h => by simp only [AV.ch]; exact cl_idg (p0 := p) (by simp) _ h
  | .tt, h => by simp only [AV.ch]; exact cl_idg (p0 := p) (by simp) _ h
  | .ff, h => by simp only [AV.ch]; exact cl_idg (p0 := p) (by simp) _ h
  | .bool _, h => by simp only [AV.ch]; exact cl_idg (p0 := p) (by simp) _ h
  | .int _ _, h => by simp only [AV.ch]; exact cl_idg (p0 := p) (by simp) _ h
  | .nptr, h => by simp only [AV.ch]; exact cl_idg (p0 := p) (by simp) _ h
  | .ptr _ _, h => by simp only [AV.ch]; exact cl_idg (p0 := p) (by simp) _ h
  | .eptr _ _ _ _, h => by simp only [AV.ch]; exact cl_idg (p0 := p) (by simp) _ h
  | .iptr _ _ _ _, h => by simp only [AV.ch]; exact cl_idg (p0 := p) (by simp) _ h
  | .nsl, h => by simp only [AV.ch]; exact cl_idg (p0 := p) (by simp) _ h
  | .sub _ _ _ _, h => by simp only [AV.ch]; exact cl_idg (p0 := p) (by simp) _ h
  | .lst _ _, h => by simp only [AV.ch]; exact cl_idg (p0 := p) (by simp) _ h
  | .nmap, h => by simp only [AV.ch]; exact cl_idg (p0 := p) (by simp) _ h
  | .map _, h => by simp only [AV.ch]; exact cl_idg (p0 := p) (by simp) _ h
  | .stamp _ _ _, h => by simp only [AV.ch]; exact cl_idg (p0 := p) (by simp) _ h
  | .nfn, h => by simp only [AV.ch]; exact cl_idg (p0 := p) (by simp) _ h
  | .vec _ _, h => by simp only [AV.ch]; exact cl_idg (p0 := p) (by simp) _ h
  | .ref _ _, h => by simp only [AV.ch]; exact cl_idg (p0 := p) (by simp) _ h
  | .rp _ _ _, h => by simp only [AV.ch]; exact cl_idg (p0 := p) (by simp) _ h
  | .hd _ _ _, h => by simp only [AV.ch]; exact cl_idg (p0 := p) (by simp) _ h
  | .hp _ _ _ _ _, h => by simp only [AV.ch]; exact cl_idg (p0 := p) (by simp) _ h
  | .sl x, h => by
    have h1 := h x (by simp [AV.pos])
    simp only [List.mem_cons, List.not_mem_nil, or_false, not_or] at h1
    simp only [AV.ch, nbeq_ne h1.1, nbeq_ne h1.2, cond_false]
  | .pfx x n, h => by
    have h1 := h x (by simp [AV.pos])
    simp only [List.mem_cons, List.not_mem_nil, or_false, not_or] at h1
    simp only [AV.ch, nbeq_ne h1.1, nbeq_ne h1.2, cond_false]
  | .fn f cs, h => by simp only [AV.ch]; rw [chl_id cs (by simpa [AV.pos] using h)]
  | .agg cs, h => by simp only [AV.ch]; rw [chl_id cs (by simpa [AV.pos] using h)]
  | .tup cs, h => by simp only [AV.ch]; rw [chl_id cs (by simpa [AV.pos] using h)]
theorem chl_id : ∀ (l : List AV), (∀ x ∈ AV.posL l, x ∉ [pq, p]) → AV.chL p pq q e g l = l
  | [], _ => rfl
  | v :: l, h => by
    simp only [AV.chL]
    rw [ch_id v (fun x hx => h x (by simp [AV.posL, hx])), chl_id l (fun x hx => h x (by simp [AV.posL, hx]))]
end
theorem ch_iid (it : Itm) (h : ∀ x ∈ it.pos, x ∉ [pq, p]) : it.ch p pq q e g = it := by
  cases it with
  | cells vs => simp only [Itm.ch]; rw [chl_id vs (by simpa [Itm.pos] using h)]
  | iter m k v l x =>
    have h1 := h m (by simp [Itm.pos])
    have h3 : isIn [pq, p] m = false := by
      cases hb : isIn [pq, p] m with
      | true => exact absurd (isIn_iff.1 hb) h1
      | false => rfl
    simp only [Itm.ch, h3, cond_false]
  | _ => rfl
theorem ch_iok (keep : ∀ x, c.D x → x ∉ [pq, p] → (c.absW [p] pq).D x ∧ (c.absW [p] pq).ρ x = c.ρ x ∧ ∀ b, (c.absW [p] pq).F x b ↔ c.F x b) (hg : g.ok) (hρ : c.ρ p = g.val) {x : Nat} (hx : x ∉ [pq, p]) (hD : c.D x) {it : Itm} (hi : IOk c x it) : IOk (c.absW [p] pq) x (it.ch p pq q e g) := by
  have same : ∀ (it : Itm), it.pos = [] → IOk c x it → IOk (c.absW [p] pq) x it := fun it he hi => IOk.to (fun y hy hD' => by
    rw [he] at hy
    have : y = x := hy.resolve_right (by simp)
    subst this
    exact keep y hD' hx) hD rfl (fun _ h => h) hi
  cases it with
  | cells vs =>
    obtain ⟨b, l, t, h1, h2, h3, h4⟩ := hi
    obtain ⟨k1, k2, k3⟩ := keep x hD hx
    exact ⟨b, l, t, k2.trans h1, h2, chl_cv keep hg hρ vs l h3, fun y => (k3 y).trans (h4 y)⟩
  | iter m k v left now =>
    show IOk (c.absW [p] pq) x (bif isIn [pq, p] m then .gone else .iter m k v left now)
    cases hm : isIn [pq, p] m with
    | true => trivial
    | false =>
      refine IOk.to (fun y hy hD' => keep y hD' fun hmem => ?_) hD rfl (fun _ h => h) hi
      rcases hy with rfl | hy
      · exact hx hmem
      · simp [Itm.pos] at hy
        subst hy
        rw [isIn_iff.2 hmem] at hm; cases hm
  | gone => trivial
  | arr t e xs => exact same _ rfl hi
  | mapo k v E => exact same _ rfl hi
  | pool q H P hs => exact same _ rfl hi
  | apool q t e P => exact same _ rfl hi
end

theorem pl_one (hlim : ∀ p b, 900 ≤ p → ¬ E.F0 p b) (h : ROk E st a c) (hlk : LockOk st) {pq q q' : Nat} {t : TypeId} {e : Ty} {xs : List e.den} {P : List (Nat × Nat × List e.den)} (hap : st.at p = .arr t e xs) (hat : st.at pq = .apool q' t e P) (hmk : st.mayPk [p] pq = true) :
    ∃ g P' c1, PackL P xs g P' ∧ c1.w = c.w ∧ ROk E (st.pl ts p pq q (.apool q' t e P') e g) a c1 ∧ Kp st (st.pl ts p pq q (.apool q' t e P') e g) (pkNo p :: ts) ∧ Hd c c1 st.lock := by
  have hm := mayPk_iff hmk
  have hDp : c.D p := (h.Dk p).2 (hm.key p (by simp))
  have hDq : c.D pq := (h.Dk pq).2 hm.pqkey
  have hne : p ≠ pq := hm.ne p (by simp)
  have hpq : pq ∉ [p] := by simp [Ne.symm hne]
  have hit := h.it pq hDq
  rw [hat] at hit
  have hip := h.it p hDp
  rw [hap] at hip
  obtain ⟨cs, o1, o2, o3⟩ := hip
  obtain ⟨kr, k1, k2, k3, k4⟩ := hit
  have key : ∃ (g : Lh) (P' : List (Nat × Nat × List e.den)), PackL P xs g P' ∧ g.ok ∧ c.ρ p = g.val ∧ IOk (c.absW [p] pq) pq (.apool q' t e P') := by
    rcases o1.2 with ⟨hn, hz⟩ | ⟨g0, cap, cur, hv, _, hgg, j1, j2, j3, j4⟩
    · have hx : xs = [] := List.eq_nil_of_length_eq_zero hz
      refine ⟨Lh.nil, P, .inl ⟨hx, rfl, rfl⟩, ⟨Nat.le_refl _, Nat.zero_le _, fun _ => rfl⟩, hn, kr, k1, k2, k3, fun b => ?_⟩
      rw [abs_pq hpq, k4]
      refine ⟨fun hh => hh.elim id fun ⟨y, hy, hF⟩ => ?_, .inl⟩
      rw [List.mem_singleton.1 hy, o3, hn] at hF
      simp [Value.ownBlock] at hF
    · have hF0 : c.F p g0 := (o3 g0).2 (by rw [hv]; rfl)
      have hnone : pget P (g0 + 1) = none := pget_none.2 fun hmm => by
        obtain ⟨x, hx, e'⟩ := List.mem_map.1 hmm
        exact h.dj p pq g0 hDp hDq hne hF0 ((k4 g0).2 ⟨x, hx, e'.symm⟩)
      refine ⟨⟨g0 + 1, xs.length, cap⟩, P ++ [(g0 + 1, cap, xs)], .inr ⟨Nat.succ_pos _, hnone, rfl, j1, j2, rfl⟩, ⟨j1, j2, fun h0 => by dsimp only at h0; omega⟩, by rw [hv]; rfl, kr, k1, k2.add (Nat.succ_pos _) hnone, fun x hx => ?_, fun b => ?_⟩
      · rcases List.mem_append.1 hx with hx | hx
        · exact k3 x hx
        · rw [List.mem_singleton.1 hx]
          refine ⟨j1, j2, cur, hgg, j3, ?_⟩
          dsimp only
          rw [j4]; exact o2
      · rw [abs_pq hpq, k4]
        constructor
        · rintro (⟨x, hx, e'⟩ | ⟨y, hy, hF⟩)
          · exact ⟨x, List.mem_append_left _ hx, e'⟩
          · rw [List.mem_singleton.1 hy, o3, hv] at hF
            simp [Value.ownBlock] at hF
            exact ⟨_, List.mem_append_right _ (List.mem_singleton.2 rfl), by rw [hF]⟩
        · rintro ⟨x, hx, e'⟩
          rcases List.mem_append.1 hx with hx | hx
          · exact .inl ⟨x, hx, e'⟩
          · rw [List.mem_singleton.1 hx] at e'
            have : b = g0 := by dsimp only at e'; omega
            exact .inr ⟨p, by simp, this ▸ hF0⟩
  obtain ⟨g, P', hpk, hg, hρ, hpool⟩ := key
  have keep : ∀ x, c.D x → x ∉ [pq, p] → (c.absW [p] pq).D x ∧ (c.absW [p] pq).ρ x = c.ρ x ∧ ∀ b, (c.absW [p] pq).F x b ↔ c.F x b := fun x hx hn => ⟨hx, rfl, abs_keep hn⟩
  have at' : ∀ x, (st.pl ts p pq q (.apool q' t e P') e g).at x = if x = pq then .apool q' t e P' else if x ∈ [p] then .gone else (st.at x).ch p pq q e g := gone_at (ps := [p]) (f := Itm.ch p pq q e g) rfl
  have key' : ∀ x, hasKey (st.pl ts p pq q (.apool q' t e P') e g).heap x = hasKey st.heap x := gone_key (ps := [p]) (f := Itm.ch p pq q e g) hm.key hm.pqkey
  have tmp' : ∀ t', (st.pl ts p pq q (.apool q' t e P') e g).tmp t' = bif isIn ts t' then AV.ch p pq q e g (st.tmp t') else bif (st.tmp t').pos.any (isIn [pq, p]) then .undef else st.tmp t' := fun t' =>
    look_mapK AV.undef (fun t v => bif isIn ts t then AV.ch p pq q e g v else bif v.pos.any (isIn [pq, p]) then .undef else v) (fun t => by cases isIn ts t <;> rfl) st.tmps t'
  obtain ⟨r1, r2⟩ := abs_ok hlim h hm (st' := st.pl ts p pq q (.apool q' t e P') e g) key' (fun t' => by
    rw [tmp']
    cases isIn ts t' with
    | true => exact ch_cv keep hg hρ _ _ (h.tm t')
    | false => exact cl_gen keep rfl (fun _ h => h) _ _ (h.tm t')) (fun x hx => by
    rw [at']
    by_cases e1 : x = pq
    · rw [if_pos e1, e1]; exact hpool
    · rw [if_neg e1]
      by_cases e2 : x ∈ [p]
      · rw [if_pos e2]; trivial
      · rw [if_neg e2]
        exact ch_iok keep hg hρ (fun hh => (List.mem_cons.1 hh).elim e1 e2) hx (h.it x hx))
  refine ⟨g, P', c.absW [p] pq, hpk, rfl, r1, ⟨fun x hx => ?_, rfl, fun t' ht => ?_, fun x hx => by rw [key']; exact hx⟩, r2⟩
  · have e1 : x ≠ pq := fun e => hm.pqlock (e ▸ hx)
    have e2 : x ∉ [p] := fun e => hm.lock x e hx
    rw [at', if_neg e1, if_neg e2]
    exact ch_iid _ (hm.far x hx)
  · rw [tmp']
    have : isIn ts t' = false := by
      cases hi : isIn ts t' with
      | false => rfl
      | true => exact absurd (List.mem_cons_of_mem _ (isIn_iff.1 hi)) ht
    rw [this]
    simp only [cond_false]
    cases hb : (st.tmp t').pos.any (isIn [pq, p]) with
    | false => exact .inl rfl
    | true =>
      obtain ⟨y, hy, hy2⟩ := List.any_eq_true.1 hb
      have hy2 := isIn_iff.1 hy2
      have hyp : y ∈ [p] := (List.mem_cons.1 hy2).resolve_left fun e => hm.tmp t' (e ▸ hy)
      exact .inr ⟨rfl, y, hm.lock y hyp, .inr ⟨hy, by rw [List.mem_singleton.1 hyp]; exact List.mem_cons_self ..⟩⟩

theorem cvl_set {c : Ctx} {x : AV} : ∀ {vs : List AV} {l : List Value} {i : Nat}, CVL c vs l → (∀ v, l[i]? = some v → CV c x v) → CVL c (vs.set i x) l
  | [], [], _, h, _ => h
  | a :: vs, v :: l, 0, h, hx => ⟨hx v rfl, h.2⟩
  | a :: vs, v :: l, i + 1, h, hx => ⟨h.1, cvl_set h.2 (fun u hu => hx u hu)⟩
  | [], _ :: _, _, h, _ => h.elim
  | _ :: _, [], _, h, _ => h.elim
theorem nc_one (h : ROk E st a c) (hlk : LockOk st) {p0 i q : Nat} {te : TypeId} {e : Ty} {vs : List AV} (hat : st.at p0 = .cells vs) (hv : vs[i]? = some .nsl) (hp0 : hasKey st.heap p0 = true) (hl0 : isIn st.lock p0 = false) (hq : hasKey st.heap q = false) :
    ∃ c1 : Ctx, c1.w = c.w ∧ ROk E { st with heap := (p0, .cells (vs.set i (.sl q))) :: (q, .arr te e []) :: st.heap } a c1 ∧ Kp st { st with heap := (p0, .cells (vs.set i (.sl q))) :: (q, .arr te e []) :: st.heap } [] ∧ Hd c c1 st.lock := by
  have hqD : ¬ c.D q := fun hD => by rw [(h.Dk q).1 hD] at hq; cases hq
  have hpD : c.D p0 := (h.Dk p0).2 hp0
  have ne : ∀ p, c.D p → p ≠ q := fun p hp e => hqD (e ▸ hp)
  have hx : ∀ keys rel : List Nat, keys = [] → rel = [] → Ext c (c.new c.w q (.slice none 0 0) (fun _ => False)) (· ∈ keys) (· ∈ rel) := fun keys rel e1 e2 => by
    subst e1; subst e2
    exact ⟨fun p hp => .inl hp, fun p hp _ => by simp [Ctx.new, ne p hp], fun p hp _ b => by simp [Ctx.new, ne p hp], fun _ h => h, fun _ _ => rfl, fun _ _ _ _ _ => rfl, fun _ h => absurd h (by simp)⟩
  have hqn := Ctx.new_at c c.w q (.slice none 0 0) (fun _ => False)
  have hF : ∀ p b, (c.new c.w q (.slice none 0 0) (fun _ => False)).D p → (c.new c.w q (.slice none 0 0) (fun _ => False)).F p b → c.D p ∧ c.F p b := fun p b hp hb => by
    by_cases e : p = q
    · subst e; exact ((hqn.2.2 b).1 hb).elim
    · have hD : c.D p := hp.resolve_right e
      exact ⟨hD, ((hx [] [] rfl rfl).F p hD (by simp) b).1 hb⟩
  refine ⟨c.new c.w q (.slice none 0 0) (fun _ => False), rfl, ⟨fun p => ?_, fun u => ?_, h.sz, h.df, fun p hD => ?_, fun p p' b hp hp' hne hb hb' => ?_, fun p b hp hb => ?_, fun b hb => ⟨(h.im b hb).1, fun p hp hF' => ?_⟩, h.im0, h.im1, h.fr⟩, ⟨fun p hp => ?_, rfl, fun u hu => .inl rfl, fun p hp => ?_⟩, ?_⟩
  · rw [hasKey_iff, List.map_cons, List.mem_cons, List.map_cons, List.mem_cons, ← hasKey_iff, ← h.Dk]
    show c.D p ∨ p = q ↔ _
    constructor
    · rintro (hD | hD)
      · exact .inr (.inr hD)
      · exact .inr (.inl hD)
    · rintro (hD | hD | hD)
      · exact .inl (by rw [show p = p0 from hD]; exact hpD)
      · exact .inr hD
      · exact .inl hD
  · exact CV.ext (hx [] [] rfl rfl) _ _ (clear_of _ (fun _ h => absurd h (by simp)) (fun _ h => absurd h (by simp))) (h.tm u)
  · show IOk _ p (look .gone ((p0, .cells (vs.set i (.sl q))) :: (q, .arr te e []) :: st.heap) p)
    by_cases hp0' : p0 = p
    · subst hp0'
      simp only [look, Nat.beq_refl, cond_true]
      have old := h.it p0 hpD
      rw [hat] at old
      obtain ⟨b, l, t, k1, k2, k3, k4⟩ := IOk.left (hx [] [] rfl rfl) hpD (by simp) old
      refine ⟨b, l, t, k1, k2, cvl_set k3 (fun v hv' => ?_), k4⟩
      obtain ⟨v', hv1, hv2⟩ := k3.at hv
      rw [hv1] at hv'
      cases hv'
      simp only [CV] at hv2 ⊢
      rw [hv2, hqn.1]
      exact ⟨hqn.2.1, rfl, none, 0, 0, rfl⟩
    · by_cases hp : q = p
      · subst hp
        simp only [look, Nat.beq_refl, cond_true, nbeq_ne hp0', cond_false]
        refine ⟨[], ⟨by simp, .inl ⟨hqn.1, rfl⟩⟩, rfl, fun x => ?_⟩
        rw [hqn.2.2, hqn.1]
        simp [Value.ownBlock]
      · simp only [look, nbeq_ne hp, nbeq_ne hp0', cond_false]
        have hD' : c.D p := hD.resolve_right (Ne.symm hp)
        exact IOk.left (hx [] [] rfl rfl) hD' (by simp) (h.it p hD')
  · exact h.dj p p' b (hF p b hp hb).1 (hF p' b hp' hb').1 hne (hF p b hp hb).2 (hF p' b hp' hb').2
  · exact h.lt p b (hF p b hp hb).1 (hF p b hp hb).2
  · exact (h.im b hb).2 p (hF p b hp hF').1 (hF p b hp hF').2
  · have hne : q ≠ p := fun e => by have := hlk p hp; rw [← e, hq] at this; cases this
    have hne0 : p0 ≠ p := fun e => by
      have : isIn st.lock p = true := by unfold isIn; rw [List.any_eq_true]; exact ⟨p, hp, Nat.beq_refl p⟩
      rw [← e, hl0] at this; cases this
    show look .gone ((p0, .cells (vs.set i (.sl q))) :: (q, .arr te e []) :: st.heap) p = _
    simp only [look, nbeq_ne hne, nbeq_ne hne0, cond_false]; rfl
  · rw [hasKey_iff, List.map_cons, List.mem_cons, List.map_cons, List.mem_cons, ← hasKey_iff]
    exact .inr (.inr hp)
  · exact ⟨fun p hp => .inl hp, fun b hb => ⟨hb, rfl⟩, fun _ _ _ _ _ => rfl, fun p b _ hD => by simp [Ctx.new, ne p hD], fun p _ hD => by simp [Ctx.new, ne p hD], fun p hD => .inr (by simp [Ctx.new, ne p hD])⟩

end

theorem csA_out {n : Int} {go : Int → Prop} : ∀ {l : List Nat}, csA n go l → go n
  | [], h => h.elim
  | [c], h => by obtain ⟨⟨h1⟩, h2⟩ := h; rw [h1]; exact h2
  | c :: d :: l, h => by
    have h : SplitB (n == (c : Int)) (go (c : Int)) (csA n go (d :: l)) := h
    cases hb : n == (c : Int) with
    | true =>
      have e : n = (c : Int) := by simpa using hb
      have := h.t hb
      rw [e]; exact this
    | false => exact csA_out (h.f hb)
theorem cs_one {E : Env} {st : St} {a : Act} {c : Ctx} {t : Nat} {v : AV} (h : ROk E st a c) (ht : st.tmp t = v) : ROk E { st with tmps := (t, v) :: st.tmps } a c ∧ Kp st { st with tmps := (t, v) :: st.tmps } [t] ∧ Hd c c st.lock := by
  have e : ∀ x, (St.tmp { st with tmps := (t, v) :: st.tmps } x) = st.tmp x := fun x => by
    show look .undef ((t, v) :: st.tmps) x = _
    simp only [look]
    cases hb : Nat.beq t x with
    | true => rw [← Nat.eq_of_beq_eq_true hb, ht]; rfl
    | false => rfl
  exact ⟨⟨h.Dk, fun x => by rw [e]; exact h.tm x, h.sz, h.df, h.it, h.dj, h.lt, h.im, h.im0, h.im1, h.fr⟩, ⟨fun _ _ => rfl, rfl, fun x _ => .inl (e x), fun _ hx => hx⟩, Hd.refl _ _⟩
theorem ghost_ok {E : Env} {a : Act} (hlim : ∀ p b, 900 ≤ p → ¬ E.F0 p b) : ∀ (l : List Gh) {st : St} {c : Ctx} {K : St → Prop}, ROk E st a c → LockOk st → ghostA l st K → ∃ st' c', c'.w = c.w ∧ ROk E st' a c' ∧ LockOk st' ∧ K st' ∧ Kp st st' (ghTs l) ∧ Hd c c' st.lock
  | [], st, c, K, h, hlk, hk => ⟨st, c, rfl, h, hlk, hk, Kp.refl _ _, Hd.refl _ _⟩
  | .mv p q ts :: l, st, c, K, h, hlk, hk => by
    simp only [ghostA] at hk
    cases hm : st.mayMv p q with
    | false => rw [hm] at hk; exact hk.elim
    | true =>
      rw [hm] at hk
      simp only [cond_true] at hk
      obtain ⟨h1, h2, h3, h4⟩ := mv_ok (ts := ts) hlim h hlk hm
      obtain ⟨st', c', r1, r2, r3, r4, r5, r6⟩ := ghost_ok hlim l h1 h2 hk
      exact ⟨st', c', r1, r2, r3, r4, (h3.mono fun t ht => by simp [ghTs, ht]).trans (r5.mono fun t ht => by simp [ghTs, ht]), h4.trans (h3.lockl ▸ r6)⟩
  | .np p q H :: l, st, c, K, h, hlk, hk => by
    simp only [ghostA] at hk
    cases hb : hasKey st.heap p || !fits1 H with
    | true => rw [hb] at hk; exact hk.elim
    | false =>
      rw [hb] at hk
      simp only [cond_false] at hk
      simp only [Bool.or_eq_false_iff, Bool.not_eq_false'] at hb
      obtain ⟨c1, h0, h1, h3, h4⟩ := np_one (q := q) h hlk hb.1 hb.2
      obtain ⟨st', c', r1, r2, r3, r4, r5, r6⟩ := ghost_ok hlim l h1 (hlk.kp h3) hk
      exact ⟨st', c', r1.trans h0, r2, r3, r4, (h3.mono fun t ht => by simp at ht).trans (r5.mono fun t ht => by simp [ghTs, ht]), h4.trans (h3.lockl ▸ r6)⟩
  | .na p q te e :: l, st, c, K, h, hlk, hk => by
    simp only [ghostA] at hk
    cases hb : hasKey st.heap p || !Nat.ble 1 e.sz with
    | true => rw [hb] at hk; exact hk.elim
    | false =>
      rw [hb] at hk
      simp only [cond_false] at hk
      simp only [Bool.or_eq_false_iff, Bool.not_eq_false'] at hb
      obtain ⟨c1, h0, h1, h3, h4⟩ := na_one (q := q) (te := te) h hlk hb.1 (Nat.le_of_ble_eq_true hb.2)
      obtain ⟨st', c', r1, r2, r3, r4, r5, r6⟩ := ghost_ok hlim l h1 (hlk.kp h3) hk
      exact ⟨st', c', r1.trans h0, r2, r3, r4, (h3.mono fun t ht => by simp at ht).trans (r5.mono fun t ht => by simp [ghTs, ht]), h4.trans (h3.lockl ▸ r6)⟩
  | .pk p q ps ts :: l, st, c, K, h, hlk, hk => by
    simp only [ghostA] at hk
    cases hh : (st.at p).isHere with
    | false =>
      rw [hh] at hk
      obtain ⟨st', c', r1, r2, r3, r4, r5, r6⟩ := ghost_ok hlim l h hlk hk
      exact ⟨st', c', r1, r2, r3, r4, r5.mono fun t ht => by simp [ghTs, ht], r6⟩
    | true =>
    rw [hh] at hk
    simp only [cond_true] at hk
    split at hk
    · exact hk.elim
    · rename_i pq hpq
      split at hk
      · rename_i q' H P hat
        split at hk
        · rename_i d hrd
          cases hm : st.mayPk ps pq && isIn ps p && Nat.beq (indexIn ps p) 0 && ps.all (fun x => (st.at x).pos.all (isIn ps)) with
          | false => rw [hm] at hk; exact hk.elim
          | true =>
            rw [hm] at hk
            simp only [cond_true] at hk
            simp only [Bool.and_eq_true, List.all_eq_true] at hm
            obtain ⟨⟨⟨m1, m2⟩, m3⟩, m4⟩ := hm
            obtain ⟨n, c1, hn, h0, h1, h3, h4⟩ := pk_one (q := q) (ts := ts) hlim h hlk hat hrd m1 (isIn_iff.1 m2) (Nat.eq_of_beq_eq_true m3) (fun x hx y hy => isIn_iff.1 (m4 x hx y hy))
            obtain ⟨st', c', r1, r2, r3, r4, r5, r6⟩ := ghost_ok hlim l h1 (hlk.kp h3) (hk n ⟨hn⟩)
            exact ⟨st', c', r1.trans h0, r2, r3, r4, (h3.mono fun t ht => by simp only [ghTs]; exact List.mem_append_left _ ht).trans (r5.mono fun t ht => by simp [ghTs, ht]), h4.trans (h3.lockl ▸ r6)⟩
        · exact hk.elim
      · exact hk.elim
  | .pl p q ts :: l, st, c, K, h, hlk, hk => by
    simp only [ghostA] at hk
    split at hk
    · rename_i t e xs hap
      split at hk
      · exact hk.elim
      · rename_i pq hpq
        split at hk
        · rename_i q' t' e' P hat
          cases hm : st.mayPk [p] pq && Nat.beq t t' with
          | false => rw [hm] at hk; exact hk.elim
          | true =>
            rw [hm] at hk
            simp only [cond_true] at hk
            simp only [Bool.and_eq_true] at hm
            have ht := Nat.eq_of_beq_eq_true hm.2
            subst ht
            split at hk
            · rename_i he
              subst he
              obtain ⟨g, P', c1, hg, h0, h1, h3, h4⟩ := pl_one (q := q) (ts := ts) hlim h hlk hap hat hm.1
              obtain ⟨st', c', r1, r2, r3, r4, r5, r6⟩ := ghost_ok hlim l h1 (hlk.kp h3) (hk g P' ⟨hg⟩)
              exact ⟨st', c', r1.trans h0, r2, r3, r4, (h3.mono fun t ht => by simp only [ghTs]; exact List.mem_append_left (ghTs l) ht).trans (r5.mono fun t ht => by simp [ghTs, ht]), h4.trans (h3.lockl ▸ r6)⟩
            · exact hk.elim
        · exact hk.elim
    · obtain ⟨st', c', r1, r2, r3, r4, r5, r6⟩ := ghost_ok hlim l h hlk hk
      exact ⟨st', c', r1, r2, r3, r4, r5.mono fun t ht => by simp [ghTs, ht], r6⟩
  | .fz p ts :: l, st, c, K, h, hlk, hk => by
    simp only [ghostA] at hk
    split at hk
    · rename_i t e xs hat
      cases hm : st.mayFz p with
      | false => rw [hm] at hk; exact hk.elim
      | true =>
        rw [hm] at hk
        simp only [cond_true] at hk
        obtain ⟨h1, h2, h3, h4⟩ := fz_ok (ts := ts) hlim h hlk hat hm
        obtain ⟨st', c', r1, r2, r3, r4, r5, r6⟩ := ghost_ok hlim l h1 h2 hk
        exact ⟨st', c', r1, r2, r3, r4, (h3.mono fun t ht => by simp [ghTs, ht]).trans (r5.mono fun t ht => by simp [ghTs, ht]), h4.trans (h3.lockl ▸ r6)⟩
    · exact hk.elim
  | .nw t q te e :: l, st, c, K, h, hlk, hk => by
    simp only [ghostA] at hk
    split at hk
    · rename_i ht
      cases hq : hasKey st.heap q with
      | true => rw [hq] at hk; exact hk.elim
      | false =>
        rw [hq] at hk
        simp only [cond_false] at hk
        obtain ⟨c1, h0, h1, h3, h4⟩ := mat_one (te := te) (e := e) h hlk ht hq
        obtain ⟨st', c', r1, r2, r3, r4, r5, r6⟩ := ghost_ok hlim l h1 (hlk.kp h3) hk
        exact ⟨st', c', r1.trans h0, r2, r3, r4, (h3.mono fun t ht => by simp at ht; simp [ghTs, ht]).trans (r5.mono fun t ht => by simp [ghTs, ht]), h4.trans (h3.lockl ▸ r6)⟩
    · obtain ⟨st', c', r1, r2, r3, r4, r5, r6⟩ := ghost_ok hlim l h hlk hk
      exact ⟨st', c', r1, r2, r3, r4, r5.mono fun t ht => by simp [ghTs, ht], r6⟩
  | .nc p i q te e :: l, st, c, K, h, hlk, hk => by
    have id : ghostA l st K → ∃ st' c', c'.w = c.w ∧ ROk E st' a c' ∧ LockOk st' ∧ K st' ∧ Kp st st' (ghTs (.nc p i q te e :: l)) ∧ Hd c c' st.lock := fun hk => by
      obtain ⟨st', c', r1, r2, r3, r4, r5, r6⟩ := ghost_ok hlim l h hlk hk
      exact ⟨st', c', r1, r2, r3, r4, r5, r6⟩
    simp only [ghostA] at hk
    split at hk
    · rename_i vs hat
      split at hk
      · rename_i hv
        cases hb : hasKey st.heap q || !hasKey st.heap p || isIn st.lock p with
        | true => rw [hb] at hk; exact hk.elim
        | false =>
          rw [hb] at hk
          simp only [cond_false] at hk
          simp only [Bool.or_eq_false_iff, Bool.not_eq_false'] at hb
          obtain ⟨c1, h0, h1, h3, h4⟩ := nc_one (te := te) (e := e) h hlk hat hv hb.1.2 hb.2 hb.1.1
          obtain ⟨st', c', r1, r2, r3, r4, r5, r6⟩ := ghost_ok hlim l h1 (hlk.kp h3) hk
          exact ⟨st', c', r1.trans h0, r2, r3, r4, (h3.mono fun t ht => by simp at ht).trans r5, h4.trans (h3.lockl ▸ r6)⟩
      · exact id hk
    · exact id hk
  | .cs t ns :: l, st, c, K, h, hlk, hk => by
    simp only [ghostA] at hk
    split at hk
    · rename_i k n ht
      obtain ⟨h1, h3, h4⟩ := cs_one h ht
      obtain ⟨st', c', r1, r2, r3, r4, r5, r6⟩ := ghost_ok hlim l h1 (hlk.kp h3) (csA_out hk)
      exact ⟨st', c', r1, r2, r3, r4, (h3.mono fun u hu => by simp at hu; simp [ghTs, hu]).trans (r5.mono fun u hu => by simp [ghTs, hu]), h4.trans (h3.lockl ▸ r6)⟩
    · obtain ⟨st', c', r1, r2, r3, r4, r5, r6⟩ := ghost_ok hlim l h hlk hk
      exact ⟨st', c', r1, r2, r3, r4, r5.mono fun u hu => by simp [ghTs, hu], r6⟩
end Go.Proofs.Ytljimnhijpcjaaa.VC
