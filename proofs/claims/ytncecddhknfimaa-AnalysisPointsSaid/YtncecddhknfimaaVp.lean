/- Calls, continued: from the caller's places to the callee's, and back. Plain lemmas; no conditions but those that each names. -/
import Derived.Test.YtncecddhknfimaaVo
set_option linter.unusedVariables false
set_option linter.unusedSimpArgs false
set_option linter.unusedSectionVars false
namespace Go.Proofs.Ytncecddhknfimaa.VC
open Go

/-! ### No lists that were lent -/

def Ctx.withIm (c : Ctx) (Im : Nat → Prop) : Ctx := { c with Im := Im }

theorem Ty.K_flat {w : World} {Im Im' : Nat → Prop} : ∀ (t : Ty) (d : t.den) (cs : List Value), t.flat = true → t.K w Im d cs → t.K w Im' d cs
  | .int k, _, _, _, h => h
  | .bool, _, _, _, h => h
  | .unit, _, _, _, h => h
  | .pair a b, d, cs, hf, ⟨c1, c2, h, h1, h2⟩ => by
    simp only [Ty.flat, Bool.and_eq_true] at hf
    exact ⟨c1, c2, h, Ty.K_flat a _ _ hf.1 h1, Ty.K_flat b _ _ hf.2 h2⟩
  | .slice e, _, _, hf, _ => by simp [Ty.flat] at hf
theorem RowsK.flat {w : World} {Im Im' : Nat → Prop} {e : Ty} (hf : e.flat = true) : ∀ {xs : List e.den} {cs : List Value}, RowsK w Im e xs cs → RowsK w Im' e xs cs
  | [], _, h => h
  | x :: xs, _, ⟨c1, c2, h, h1, h2⟩ => ⟨c1, c2, h, Ty.K_flat e _ _ hf h1, RowsK.flat hf h2⟩
theorem Ty.V_flat {c : Ctx} {Im : Nat → Prop} {t : Ty} (hf : t.flat = true) {d : t.den} {v : Value} (h : t.V c d v) : t.V (c.withIm Im) d v := by
  unfold Ty.V at *
  split
  · rename_i ha
    rw [if_pos ha] at h
    obtain ⟨l, h1, h2⟩ := h
    exact ⟨l, h1, Ty.K_flat t d l hf h2⟩
  · rename_i ha
    rw [if_neg ha] at h
    exact Ty.K_flat t d _ hf h
theorem MapK.flat {c : Ctx} {Im : Nat → Prop} {k v : Ty} (hk : k.flat = true) (hv : v.flat = true) : ∀ {E : List (k.den × v.den)} {es : List MapEntry}, MapK c k v E es → MapK (c.withIm Im) k v E es
  | [], [], _ => trivial
  | _ :: _, _ :: _, ⟨h1, h2, h3⟩ => ⟨Ty.V_flat hk h1, Ty.V_flat hv h2, MapK.flat hk hv h3⟩
  | [], _ :: _, h => h.elim
  | _ :: _, [], h => h.elim

mutual
theorem CV.owned {c : Ctx} {Im : Nat → Prop} : ∀ (v : AV) (cv : Value), v.own = true → CV c v cv → CV (c.withIm Im) v cv
  | .undef, _, _, _ => by simp [CV]
  | .skip, _, _, hv => by simpa [CV] using hv
  | .tt, _, _, hv => by simpa [CV] using hv
  | .ff, _, _, hv => by simpa [CV] using hv
  | .bool b, _, _, hv => by simpa [CV] using hv
  | .int k n, _, _, hv => by simpa [CV] using hv
  | .nptr, _, _, hv => by simpa [CV] using hv
  | .ptr p off, _, _, hv => by simp only [CV] at hv ⊢; exact hv
  | .eptr p i sz off, _, _, hv => by simp only [CV] at hv ⊢; exact hv
  | .iptr e xs i off, _, ho, _ => by simp [AV.own] at ho
  | .nsl, _, _, hv => by simpa [CV] using hv
  | .sl p, _, _, hv => by simp only [CV] at hv ⊢; exact hv
  | .pfx p n, _, _, hv => by simp only [CV] at hv ⊢; exact hv
  | .sub p l n z, _, _, hv => by simp only [CV] at hv ⊢; exact hv
  | .lst e xs, _, ho, _ => by simp [AV.own] at ho
  | .nmap, _, _, hv => by simpa [CV] using hv
  | .map p, _, _, hv => by simp only [CV] at hv ⊢; exact hv
  | .stamp p k key, _, ho, hv => by
    simp only [CV] at hv ⊢
    obtain ⟨hd, b, es, clock, i, x, h1, h2, h3, h4, h5, h6⟩ := hv
    exact ⟨hd, b, es, clock, i, x, h1, h2, h3, h4, Ty.V_flat (by simpa [AV.own] using ho) h5, h6⟩
  | .nfn, _, _, hv => by simpa [CV] using hv
  | .vec _ _, _, _, hv => by simpa [CV] using hv
  | .fn f caps, _, ho, hv => by
    simp only [CV, AV.own] at *
    obtain ⟨l, h1, h2⟩ := hv
    exact ⟨l, h1, CVL.owned caps l ho h2⟩
  | .agg cs, _, ho, hv => by
    simp only [CV, AV.own] at *
    obtain ⟨l, h1, h2⟩ := hv
    exact ⟨l, h1, CVL.owned cs l ho h2⟩
  | .tup cs, _, ho, hv => by
    simp only [CV, AV.own] at *
    obtain ⟨l, h1, h2⟩ := hv
    exact ⟨l, h1, CVL.owned cs l ho h2⟩
theorem CVL.owned {c : Ctx} {Im : Nat → Prop} : ∀ (l : List AV) (m : List Value), AV.ownL l = true → CVL c l m → CVL (c.withIm Im) l m
  | [], [], _, _ => trivial
  | v :: l, cv :: m, ho, hv => by
    simp only [AV.ownL, Bool.and_eq_true] at ho
    exact ⟨CV.owned v cv ho.1 hv.1, CVL.owned l m ho.2 hv.2⟩
  | [], _ :: _, _, hv => hv.elim
  | _ :: _, [], _, hv => hv.elim
end
theorem IOk.owned {c : Ctx} {Im : Nat → Prop} {p : Nat} : ∀ {it : Itm}, it.own = true → IOk c p it → IOk (c.withIm Im) p it
  | .gone, _, _ => trivial
  | .cells vs, ho, ⟨b, l, t, h1, h2, h3, h4⟩ => ⟨b, l, t, h1, h2, CVL.owned vs l (by simpa [Itm.own] using ho) h3, h4⟩
  | .arr t e xs, ho, ⟨cs, h1, h2, h3⟩ => ⟨cs, h1, h2.flat (by simpa [Itm.own] using ho), h3⟩
  | .mapo k v E, ho, ⟨b, es, clock, h1, h2, h3, h4, h5, h6⟩ => by
    simp only [Itm.own, Bool.and_eq_true] at ho
    exact ⟨b, es, clock, h1, h2, h3.flat ho.1 ho.2, h4, h5, h6⟩
  | .iter m k v left now, ho, ⟨b, mb, seen, es, clock, h1, h2, h3, h4, h5, h6, h7, h8, h9, h10⟩ => by
    simp only [Itm.own, Bool.and_eq_true] at ho
    exact ⟨b, mb, seen, es, clock, h1, h2, h3, h4, h5, h6, h7, h8.flat ho.1 ho.2, fun e he => by
      obtain ⟨x, hx1, hx2, hx3, hx4⟩ := h9 e he
      exact ⟨x, hx1, hx2, Ty.V_flat ho.1 hx3, Ty.V_flat ho.2 hx4⟩, h10⟩

/-! ### Places reached, and their numbers -/

theorem indexIn_at {s : List Nat} {p : Nat} (h : p ∈ s) : indexIn s p < s.length ∧ s[indexIn s p]? = some p := by
  unfold indexIn
  cases hf : s.findIdx? (Nat.beq p) with
  | none =>
    rw [List.findIdx?_eq_none_iff] at hf
    have := hf p h
    simp at this
  | some i =>
    rw [List.findIdx?_eq_some_iff_getElem] at hf
    obtain ⟨h1, h2, _⟩ := hf
    refine ⟨h1, ?_⟩
    rw [List.getElem?_eq_getElem h1, ← Nat.eq_of_beq_eq_true h2]
theorem indexIn_get {s : List Nat} (hn : s.Nodup) {i : Nat} (h : i < s.length) : indexIn s (s.getD i 0) = i := by
  have hg : s.getD i 0 = s[i] := by simp [List.getD, h]
  have hm : s.getD i 0 ∈ s := by rw [hg]; exact List.getElem_mem h
  obtain ⟨h1, h2⟩ := indexIn_at hm
  rw [hg] at *
  rw [List.getElem?_eq_getElem h1] at h2
  exact (List.getElem_inj hn).1 (Option.some.inj h2)
theorem outOf_lt {s : List Nat} {nx i : Nat} (h : i < s.length) : outOf s nx i = s.getD i 0 ∧ s.getD i 0 ∈ s := by
  refine ⟨by simp [outOf, show Nat.blt i s.length = true by rw [Nat.blt_eq]; exact h], ?_⟩
  simp [List.getD, h]
theorem outOf_ge {s : List Nat} {nx i : Nat} (h : s.length ≤ i) : outOf s nx i = nx + (i - s.length) := by
  have : Nat.blt i s.length = false := by
    cases hb : Nat.blt i s.length with
    | false => rfl
    | true => rw [Nat.blt_eq] at hb; omega
  simp [outOf, this]
theorem outOf_index {s : List Nat} {nx p : Nat} (h : p ∈ s) : outOf s nx (indexIn s p) = p := by
  obtain ⟨h1, h2⟩ := indexIn_at h
  rw [(outOf_lt h1).1]
  simp [List.getD, h2]

theorem lend_cv {st : St} {c : Ctx} {Im : Nat → Prop} (hI : ∀ b, c.Im b → Im b) (hit : ∀ p, c.D p → IOk c p (st.at p)) : ∀ (v : AV) (cv : Value), (∀ p ∈ lentBy v, c.D p → ∀ b, c.F p b → Im b) → CV c v cv → CV (c.withIm Im) (lendA st v) cv := by
  have hid : ∀ (v : AV) (cv : Value), CV c v cv → CV (c.withIm Im) v cv := fun v cv hv => by
    have : Ext c (c.withIm Im) (fun _ => False) (fun _ => False) := ⟨fun _ h => h, fun _ _ _ => rfl, fun _ _ _ _ => Iff.rfl, hI, fun _ _ => rfl, fun _ _ _ _ _ => rfl, fun _ h => h.elim⟩
    exact CV.ext this v cv (clear_of v (fun _ h => h.elim) (fun _ h => h.elim)) hv
  have one : ∀ (p : Nat) (cv : Value), (c.D p → ∀ b, c.F p b → Im b) → CV c (.sl p) cv → CV (c.withIm Im) (match st.at p with | .arr _ e xs => .lst e xs | _ => .undef) cv := by
    intro p cv hF hv
    simp only [CV] at hv
    obtain ⟨hD, rfl, _⟩ := hv
    have hi := hit p hD
    split
    · rename_i t e xs hat
      rw [hat] at hi
      simp only [CV]
      obtain ⟨A, cap, h1, h2, h3⟩ := arr_shape hi
      have hnil : A = none → cap = 0 := by
        obtain ⟨cs, k1, _⟩ := hi
        rcases k1.2 with ⟨hn, _⟩ | ⟨g, cp, cur, hv, _⟩
        · rw [h1] at hn; simp at hn; exact fun _ => hn.2.2
        · rw [h1] at hv; simp at hv; intro hA; rw [hA] at hv; simp at hv
      refine ⟨A, cap, by rw [h1], h3, ⟨h2, hnil⟩, fun h0 => ?_⟩
      obtain ⟨g, cp, cur, k1, k2, k3, k4, k5, k6, k7⟩ := arr_block hi h0
      rw [h1] at k1
      simp at k1
      obtain ⟨rfl, rfl⟩ := k1
      refine ⟨⟨g, 0, none⟩, rfl, fun i x hx => ?_⟩
      obtain ⟨cs, hk, hc⟩ := k7.at i x hx
      refine ⟨cs, Ty.K_mono hI (fun _ _ => rfl) e _ _ hk, fun j u hj => ⟨?_, ?_⟩⟩
      · rw [add_plain]; exact hF hD g k2
      · rw [add_plain, add_plain, Nat.zero_add]
        show c.w.cell? _ = _
        rw [cell_of_row c.w g _ cur t (0, 0) k3]
        have := hc j u hj
        rw [List.getElem?_take] at this
        split at this
        · simpa using this
        · cases this
    · simp [CV]
  have one1 : ∀ (v : AV) (cv : Value), (∀ p ∈ lent1 v, c.D p → ∀ b, c.F p b → Im b) → CV c v cv → CV (c.withIm Im) (lend1 st v) cv := by
    intro v cv hl hv
    cases v with
    | sl p => exact one p cv (fun hD b hb => hl p (by simp [lent1]) hD b hb) hv
    | pfx p n =>
      simp only [CV] at hv
      obtain ⟨hD, A, m, cap, e1, rfl, hn⟩ := hv
      have h1 := one p (c.ρ p) (fun hD b hb => hl p (by simp [lent1]) hD b hb) (by simp only [CV]; exact ⟨hD, trivial, A, m, cap, e1⟩)
      have hi := hit p hD
      simp only [lend1]
      split
      · rename_i t e xs hat
        rw [hat] at hi h1
        obtain ⟨A', cap', e2, _, _⟩ := arr_shape hi
        rw [e1] at e2
        simp at e2
        obtain ⟨rfl, rfl, rfl⟩ := e2
        rw [e1] at h1
        simp only [CV] at h1 ⊢
        obtain ⟨A2, cap2, k1, k2, k3, k4⟩ := h1
        simp at k1
        obtain ⟨rfl, rfl⟩ := k1
        have hl' : (xs.take n).length = n := by rw [List.length_take]; omega
        refine ⟨A, cap, by rw [hl'], by omega, ⟨by omega, k3.2⟩, fun h0 => ?_⟩
        obtain ⟨ad, ha, hr⟩ := k4 (by omega)
        refine ⟨ad, ha, fun i x hx => hr i x ?_⟩
        rw [List.getElem?_take] at hx
        split at hx
        · exact hx
        · cases hx
      · simp [CV]
    | _ => exact hid _ _ hv
  intro v cv hl hv
  have hcase : (∃ cs, v = .agg cs) ∨ (lentBy v = lent1 v ∧ lendA st v = lend1 st v) := by
    cases v <;> first | exact .inl ⟨_, rfl⟩ | exact .inr ⟨rfl, rfl⟩
  rcases hcase with ⟨cs, rfl⟩ | ⟨e1, e2⟩
  · simp only [CV, lendA] at *
    obtain ⟨l, rfl, hcl⟩ := hv
    refine ⟨l, rfl, ?_⟩
    have : ∀ (cs : List AV) (l : List Value), (∀ x ∈ cs, ∀ p ∈ lent1 x, c.D p → ∀ b, c.F p b → Im b) → CVL c cs l → CVL (c.withIm Im) (cs.map (lend1 st)) l := by
      intro cs
      induction cs with
      | nil => intro l _ h; cases l <;> first | trivial | exact h.elim
      | cons x cs ih =>
        intro l hx h
        cases l with
        | nil => exact h.elim
        | cons y l => exact ⟨one1 x y (hx x (by simp)) h.1, ih l (fun z hz => hx z (by simp [hz])) h.2⟩
    exact this cs l (fun x hx p hp hD b hb => hl p (by simp only [lentBy, List.mem_flatMap]; exact ⟨x, hx, hp⟩) hD b hb) hcl
  · rw [e1] at hl
    rw [e2]
    exact one1 v cv hl hv
theorem lendL_cv {st : St} {c : Ctx} {Im : Nat → Prop} (hI : ∀ b, c.Im b → Im b) (hit : ∀ p, c.D p → IOk c p (st.at p)) : ∀ (l : List AV) (m : List Value), (∀ p ∈ l.flatMap lentBy, c.D p → ∀ b, c.F p b → Im b) → CVL c l m → CVL (c.withIm Im) (l.map (lendA st)) m
  | [], [], _, _ => trivial
  | v :: l, x :: m, hl, hv => ⟨lend_cv hI hit v x (fun p hp => hl p (by simp [hp])) hv.1, lendL_cv hI hit l m (fun p hp => hl p (by simp only [List.flatMap_cons, List.mem_append]; exact .inr hp)) hv.2⟩
  | [], _ :: _, _, hv => hv.elim
  | _ :: _, [], _, hv => hv.elim
end Go.Proofs.Ytncecddhknfimaa.VC
