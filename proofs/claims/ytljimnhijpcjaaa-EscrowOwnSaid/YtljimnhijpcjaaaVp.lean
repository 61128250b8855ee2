/- Calls, continued: from the caller's places to the callee's, and back. Plain lemmas; no conditions but those that each names. -/
import Derived.Test.YtljimnhijpcjaaaVo
set_option linter.unusedVariables false
set_option linter.unusedSimpArgs false
set_option linter.unusedSectionVars false
namespace Go.Proofs.Ytljimnhijpcjaaa.VC
open Go

/-! ### No lists that were lent -/

def Ctx.withIm (c : Ctx) (Im : Nat → Prop) : Ctx := { c with Im := Im }

theorem Ty.K_flat {w : World} {Im Im' : Nat → Prop} : ∀ (t : Ty) (d : t.den) (cs : List Value), t.flat = true → t.K w Im d cs → t.K w Im' d cs
  | .int k, _, _, _, h => h
  | .bool, _, _, _, h => h
  | .unit, _, _, _, h => h
  | .pair a b, d, cs, hf, ⟨c1, c2, h, h1, h2⟩ => by
    simp only [Ty.flat, Bool.and_eq_true] at hf
    exact ⟨c1, c2, h, Ty.K_flat a _ _ hf.1 h1, Ty.K_flat b _ _ hf.2 h2⟩
  | .slice e, _, _, hf, _ => by simp [Ty.flat] at hf
  | .ref _, _, _, _, h => h
  | .hdr _ _, _, _, _, h => h
theorem RowsK.flat {w : World} {Im Im' : Nat → Prop} {e : Ty} (hf : e.flat = true) : ∀ {xs : List e.den} {cs : List Value}, RowsK w Im e xs cs → RowsK w Im' e xs cs
  | [], _, h => h
  | x :: xs, _, ⟨c1, c2, h, h1, h2⟩ => ⟨c1, c2, h, Ty.K_flat e _ _ hf h1, RowsK.flat hf h2⟩
theorem Ty.V_flat {c : Ctx} {Im : Nat → Prop} {t : Ty} (hf : t.flat = true) {d : t.den} {v : Value} (h : t.V c d v) : t.V (c.withIm Im) d v := by
  unfold Ty.V at *
  split
  · rename_i ha
    rw [if_pos ha] at h
    obtain ⟨l, h1, h2⟩ := h
    exact ⟨l, h1, Ty.K_flat t d l hf h2⟩
  · rename_i ha
    rw [if_neg ha] at h
    exact Ty.K_flat t d _ hf h
theorem MapK.flat {c : Ctx} {Im : Nat → Prop} {k v : Ty} (hk : k.flat = true) (hv : v.flat = true) : ∀ {E : List (k.den × v.den)} {es : List MapEntry}, MapK c k v E es → MapK (c.withIm Im) k v E es
  | [], [], _ => trivial
  | _ :: _, _ :: _, ⟨h1, h2, h3⟩ => ⟨Ty.V_flat hk h1, Ty.V_flat hv h2, MapK.flat hk hv h3⟩
  | [], _ :: _, h => h.elim
  | _ :: _, [], h => h.elim

mutual
theorem CV.owned {c : Ctx} {Im : Nat → Prop} : ∀ (v : AV) (cv : Value), v.own = true → CV c v cv → CV (c.withIm Im) v cv
  | .undef, _, _, _ => by simp [CV]
  | .skip, _, _, hv => by simpa [CV] using hv
  | .tt, _, _, hv => by simpa [CV] using hv
  | .ff, _, _, hv => by simpa [CV] using hv
  | .bool b, _, _, hv => by simpa [CV] using hv
  | .int k n, _, _, hv => by simpa [CV] using hv
  | .nptr, _, _, hv => by simpa [CV] using hv
  | .ptr p off, _, _, hv => by simp only [CV] at hv ⊢; exact hv
  | .eptr p i sz off, _, _, hv => by simp only [CV] at hv ⊢; exact hv
  | .iptr e xs i off, _, ho, _ => by simp [AV.own] at ho
  | .nsl, _, _, hv => by simpa [CV] using hv
  | .sl p, _, _, hv => by simp only [CV] at hv ⊢; exact hv
  | .pfx p n, _, _, hv => by simp only [CV] at hv ⊢; exact hv
  | .sub p l n z, _, _, hv => by simp only [CV] at hv ⊢; exact hv
  | .lst e xs, _, ho, _ => by simp [AV.own] at ho
  | .nmap, _, _, hv => by simpa [CV] using hv
  | .map p, _, _, hv => by simp only [CV] at hv ⊢; exact hv
  | .stamp p k key, _, ho, hv => by
    simp only [CV] at hv ⊢
    obtain ⟨hd, b, es, clock, i, x, h1, h2, h3, h4, h5, h6⟩ := hv
    exact ⟨hd, b, es, clock, i, x, h1, h2, h3, h4, Ty.V_flat (by simpa [AV.own] using ho) h5, h6⟩
  | .nfn, _, _, hv => by simpa [CV] using hv
  | .vec _ _, _, _, hv => by simpa [CV] using hv
  | .ref _ _, _, _, hv => by simpa [CV] using hv
  | .rp _ _ _, _, _, hv => by simpa [CV] using hv
  | .hd _ _ _, _, _, hv => by simpa [CV] using hv
  | .hp _ _ _ _ _, _, _, hv => by simpa [CV] using hv
  | .fn f caps, _, ho, hv => by
    simp only [CV, AV.own] at *
    obtain ⟨l, h1, h2⟩ := hv
    exact ⟨l, h1, CVL.owned caps l ho h2⟩
  | .agg cs, _, ho, hv => by
    simp only [CV, AV.own] at *
    obtain ⟨l, h1, h2⟩ := hv
    exact ⟨l, h1, CVL.owned cs l ho h2⟩
  | .tup cs, _, ho, hv => by
    simp only [CV, AV.own] at *
    obtain ⟨l, h1, h2⟩ := hv
    exact ⟨l, h1, CVL.owned cs l ho h2⟩
theorem CVL.owned {c : Ctx} {Im : Nat → Prop} : ∀ (l : List AV) (m : List Value), AV.ownL l = true → CVL c l m → CVL (c.withIm Im) l m
  | [], [], _, _ => trivial
  | v :: l, cv :: m, ho, hv => by
    simp only [AV.ownL, Bool.and_eq_true] at ho
    exact ⟨CV.owned v cv ho.1 hv.1, CVL.owned l m ho.2 hv.2⟩
  | [], _ :: _, _, hv => hv.elim
  | _ :: _, [], _, hv => hv.elim
end
theorem IOk0.owned {c : Ctx} {Im : Nat → Prop} {p : Nat} : ∀ {it : Itm}, it.own = true → IOk0 c p it → IOk0 (c.withIm Im) p it
  | .gone, _, _ => trivial
  | .cells vs, ho, ⟨b, l, t, h1, h2, h3, h4⟩ => ⟨b, l, t, h1, h2, CVL.owned vs l (by simpa [Itm.own] using ho) h3, h4⟩
  | .arr t e xs, ho, ⟨cs, h1, h2, h3⟩ => ⟨cs, h1, h2.flat (by simpa [Itm.own] using ho), h3⟩
  | .mapo k v E, ho, ⟨b, es, clock, h1, h2, h3, h4, h5, h6⟩ => by
    simp only [Itm.own, Bool.and_eq_true] at ho
    exact ⟨b, es, clock, h1, h2, h3.flat ho.1 ho.2, h4, h5, h6⟩
  | .iter m k v left now, ho, ⟨b, mb, seen, es, clock, h1, h2, h3, h4, h5, h6, h7, h8, h9, h10⟩ => by
    simp only [Itm.own, Bool.and_eq_true] at ho
    exact ⟨b, mb, seen, es, clock, h1, h2, h3, h4, h5, h6, h7, h8.flat ho.1 ho.2, fun e he => by
      obtain ⟨x, hx1, hx2, hx3, hx4⟩ := h9 e he
      exact ⟨x, hx1, hx2, Ty.V_flat ho.1 hx3, Ty.V_flat ho.2 hx4⟩, h10⟩
  | .pool _ _ _ _, _, h => h
  | .apool _ _ _ _, _, h => h
theorem AV.ownL_append (l m : List AV) : AV.ownL (l ++ m) = (AV.ownL l && AV.ownL m) := by
  induction l with
  | nil => simp [AV.ownL]
  | cons v l ih => simp [AV.ownL, ih, Bool.and_assoc]
theorem Ty.enc_own : ∀ (t : Ty) (d : t.den), t.flat = true → AV.ownL (t.enc d) = true
  | .int _, _, _ => rfl
  | .bool, _, _ => rfl
  | .unit, _, _ => rfl
  | .pair a b, d, h => by
    simp only [Ty.flat, Bool.and_eq_true] at h
    simp only [Ty.enc]
    rw [AV.ownL_append, Ty.enc_own a d.1 h.1, Ty.enc_own b d.2 h.2]; rfl
  | .slice _, _, h => by simp [Ty.flat] at h
  | .ref _, _, _ => rfl
  | .hdr _ _, _, _ => rfl
theorem AT.enc_own (a : AT) (d : a.den) (h : a.flat = true) : AV.ownL (a.enc d) = true := by
  cases a with
  | v t => exact Ty.enc_own t d h
  | _ => rfl
theorem ATenc_own : ∀ (l : List AT) (d : ATden l), l.all AT.flat = true → AV.ownL (ATenc l d) = true
  | [], _, _ => rfl
  | a :: l, d, h => by
    simp only [List.all_cons, Bool.and_eq_true] at h
    simp only [ATenc]
    rw [AV.ownL_append, AT.enc_own a d.1 h.1, ATenc_own l d.2 h.2]; rfl
theorem HT.itm_own (h : HT) (d : h.den) (hf : h.flat = true) : (h.itm d).own = true := by
  cases h with
  | cells l => exact ATenc_own l d hf
  | arr t e => exact hf
  | mapo k v => exact hf
theorem HTitms_own : ∀ {H : List HT} {d : HTden H} {i : Nat} {it : Itm}, H.all HT.flat = true → (HTitms H d)[i]? = some it → it.own = true
  | [], _, _, _, _, h => by simp [HTitms] at h
  | a :: H, d, 0, it, hf, h => by
    simp only [List.all_cons, Bool.and_eq_true] at hf
    simp [HTitms] at h; subst h; exact HT.itm_own a d.1 hf.1
  | a :: H, d, i + 1, it, hf, h => by
    simp only [List.all_cons, Bool.and_eq_true] at hf
    exact HTitms_own (H := H) (d := d.2) (i := i) hf.2 (by simpa [HTitms] using h)
theorem PObj.owned {c : Ctx} {Im : Nat → Prop} {H : List HT} {n : Nat} {d : HTden H} {ρ : Nat → Value} {F : Nat → Nat → Prop} (hf : H.all HT.flat = true) (h : PObj c H n d ρ F) : PObj (c.withIm Im) H n d ρ F :=
  ⟨h.pos, h.root, fun i it hi => IOk0.owned (c := c.obj H.length ρ F) (HTitms_own hf hi) (h.it i it hi), h.dj⟩
theorem IOk.owned {c : Ctx} {Im : Nat → Prop} {p : Nat} : ∀ {it : Itm}, it.own = true → IOk c p it → IOk (c.withIm Im) p it
  | .gone, _, _ => trivial
  | .cells _, ho, h => IOk0.owned ho h
  | .arr _ _ _, ho, h => IOk0.owned ho h
  | .mapo _ _ _, ho, h => IOk0.owned ho h
  | .iter _ _ _ _ _, ho, h => IOk0.owned ho h
  | .pool q H P hs, ho, ⟨hr, h0, h1, ρ, F, h2, h3, h4⟩ => ⟨hr, h0, h1, ρ, F, fun x hx hn => (h2 x hx hn).owned ho, h3, h4⟩
  | .apool q t e P, ho, ⟨hr, h0, h1, h2, h3⟩ => ⟨hr, h0, h1, fun x hx => by
      obtain ⟨k1, k2, cur, k3, k4, k5⟩ := h2 x hx
      exact ⟨k1, k2, cur, k3, k4, k5.flat ho⟩, h3⟩

/-! ### Places reached, and their numbers -/

theorem indexIn_at {s : List Nat} {p : Nat} (h : p ∈ s) : indexIn s p < s.length ∧ s[indexIn s p]? = some p := by
  unfold indexIn
  cases hf : s.findIdx? (Nat.beq p) with
  | none =>
    rw [List.findIdx?_eq_none_iff] at hf
    have := hf p h
    simp at this
  | some i =>
    rw [List.findIdx?_eq_some_iff_getElem] at hf
    obtain ⟨h1, h2, _⟩ := hf
    refine ⟨h1, ?_⟩
    rw [List.getElem?_eq_getElem h1, ← Nat.eq_of_beq_eq_true h2]
theorem indexIn_get {s : List Nat} (hn : s.Nodup) {i : Nat} (h : i < s.length) : indexIn s (s.getD i 0) = i := by
  have hg : s.getD i 0 = s[i] := by simp [List.getD, h]
  have hm : s.getD i 0 ∈ s := by rw [hg]; exact List.getElem_mem h
  obtain ⟨h1, h2⟩ := indexIn_at hm
  rw [hg] at *
  rw [List.getElem?_eq_getElem h1] at h2
  exact (List.getElem_inj hn).1 (Option.some.inj h2)
theorem outOf_lt {s : List Nat} {nx i : Nat} (h : i < s.length) : outOf s nx i = s.getD i 0 ∧ s.getD i 0 ∈ s := by
  refine ⟨by simp [outOf, show Nat.blt i s.length = true by rw [Nat.blt_eq]; exact h], ?_⟩
  simp [List.getD, h]
theorem outOf_ge {s : List Nat} {nx i : Nat} (h : s.length ≤ i) : outOf s nx i = nx + (i - s.length) := by
  have : Nat.blt i s.length = false := by
    cases hb : Nat.blt i s.length with
    | false => rfl
    | true => rw [Nat.blt_eq] at hb; omega
  simp [outOf, this]
theorem outOf_index {s : List Nat} {nx p : Nat} (h : p ∈ s) : outOf s nx (indexIn s p) = p := by
  obtain ⟨h1, h2⟩ := indexIn_at h
  rw [(outOf_lt h1).1]
  simp [List.getD, h2]

theorem lend_cv {st : St} {c : Ctx} {Im : Nat → Prop} (hDk : ∀ p, hasKey st.heap p = true → c.D p) (hI : ∀ b, c.Im b → Im b) (hit : ∀ p, c.D p → IOk c p (st.at p)) : ∀ (v : AV) (cv : Value), (∀ p ∈ lentBy st v, c.D p → ∀ b, c.F p b → Im b) → (∀ q ∈ preBy st v, q) → CV c v cv → CV (c.withIm Im) (lendA st v) cv := by
  have hid : ∀ (v : AV) (cv : Value), CV c v cv → CV (c.withIm Im) v cv := fun v cv hv => by
    have : Ext c (c.withIm Im) (fun _ => False) (fun _ => False) := ⟨fun _ h => h, fun _ _ _ => rfl, fun _ _ _ _ => Iff.rfl, hI, fun _ _ => rfl, fun _ _ _ _ _ => rfl, fun _ h => h.elim⟩
    exact CV.ext this v cv (clear_of v (fun _ h => h.elim) (fun _ h => h.elim)) hv
  have one : ∀ (p : Nat) (cv : Value), (c.D p → ∀ b, c.F p b → Im b) → CV c (.sl p) cv → CV (c.withIm Im) (match st.at p with | .arr _ e xs => .lst e xs | _ => .undef) cv := by
    intro p cv hF hv
    simp only [CV] at hv
    obtain ⟨hD, rfl, _⟩ := hv
    have hi := hit p hD
    split
    · rename_i t e xs hat
      rw [hat] at hi
      simp only [CV]
      obtain ⟨A, cap, h1, h2, h3⟩ := arr_shape hi
      have hnil : A = none → cap = 0 := by
        obtain ⟨cs, k1, _⟩ := hi
        rcases k1.2 with ⟨hn, _⟩ | ⟨g, cp, cur, hv, _⟩
        · rw [h1] at hn; simp at hn; exact fun _ => hn.2.2
        · rw [h1] at hv; simp at hv; intro hA; rw [hA] at hv; simp at hv
      refine ⟨A, cap, by rw [h1], h3, ⟨h2, hnil⟩, fun h0 => ?_⟩
      obtain ⟨g, cp, cur, k1, k2, k3, k4, k5, k6, k7⟩ := arr_block hi h0
      rw [h1] at k1
      simp at k1
      obtain ⟨rfl, rfl⟩ := k1
      refine ⟨⟨g, 0, none⟩, rfl, fun i x hx => ?_⟩
      obtain ⟨cs, hk, hc⟩ := k7.at i x hx
      refine ⟨cs, Ty.K_mono hI (fun _ _ => rfl) e _ _ hk, fun j u hj => ⟨?_, ?_⟩⟩
      · rw [add_plain]; exact hF hD g k2
      · rw [add_plain, add_plain, Nat.zero_add]
        show c.w.cell? _ = _
        rw [cell_of_row c.w g _ cur t (0, 0) k3]
        have := hc j u hj
        rw [List.getElem?_take] at this
        split at this
        · simpa using this
        · cases this
    · simp [CV]
  have one1 : ∀ (v : AV) (cv : Value), (∀ p ∈ lent1 st v, c.D p → ∀ b, c.F p b → Im b) → (∀ q ∈ preA st v, q) → CV c v cv → CV (c.withIm Im) (lend1 st v) cv := by
    intro v cv hl hpre hv
    cases v with
    | sl p => exact one p cv (fun hD b hb => hl p (by simp [lent1]) hD b hb) hv
    | pfx p n =>
      simp only [CV] at hv
      obtain ⟨hD, A, m, cap, e1, rfl, hn⟩ := hv
      have h1 := one p (c.ρ p) (fun hD b hb => hl p (by simp [lent1]) hD b hb) (by simp only [CV]; exact ⟨hD, trivial, A, m, cap, e1⟩)
      have hi := hit p hD
      simp only [lend1]
      split
      · rename_i t e xs hat
        rw [hat] at hi h1
        obtain ⟨A', cap', e2, _, _⟩ := arr_shape hi
        rw [e1] at e2
        simp at e2
        obtain ⟨rfl, rfl, rfl⟩ := e2
        rw [e1] at h1
        simp only [CV] at h1 ⊢
        obtain ⟨A2, cap2, k1, k2, k3, k4⟩ := h1
        simp at k1
        obtain ⟨rfl, rfl⟩ := k1
        have hl' : (xs.take n).length = n := by rw [List.length_take]; omega
        refine ⟨A, cap, by rw [hl'], by omega, ⟨by omega, k3.2⟩, fun h0 => ?_⟩
        obtain ⟨ad, ha, hr⟩ := k4 (by omega)
        refine ⟨ad, ha, fun i x hx => hr i x ?_⟩
        rw [List.getElem?_take] at hx
        split at hx
        · exact hx
        · cases hx
      · simp [CV]
    | hd q e' g =>
      simp only [CV] at hv
      obtain ⟨hgo, rfl⟩ := hv
      simp only [lend1]
      split
      · rename_i p hp
        split
        · rename_i q' t e P hat
          have hn : g.n ≤ (pget2 P g.b).length := hpre _ (by simp [preA, hp, hat])
          have hD : c.D p := hDk p (poolAt_key hp)
          have hi := hit p hD
          rw [hat] at hi
          have hlen : ((pget2 P g.b).take g.n).length = g.n := by rw [List.length_take]; omega
          simp only [CV]
          rcases Nat.eq_zero_or_pos g.b with h0 | h0
          · obtain ⟨hv, hn0, hc0⟩ := Lh.val_zero hgo h0
            refine ⟨none, 0, by rw [hv, hlen, hn0], by omega, ⟨by omega, fun _ => rfl⟩, fun h0 => by omega⟩
          · obtain ⟨g1, g2, g3⟩ := hgo
            refine ⟨some ⟨g.b - 1, 0, none⟩, g.c, by rw [Lh.val_pos h0, hlen], by omega, ⟨by omega, fun h => by simp at h⟩, fun h0 => ?_⟩
            obtain ⟨k, _, k0, _⟩ := apool_list (b := g.b) hi (by omega)
            obtain ⟨cur, j1, j2, j3, j4, j5, j6, j7, j8, j9⟩ := hd_owns hi k0 hn
            refine ⟨⟨g.b - 1, 0, none⟩, rfl, fun i x hx => ?_⟩
            obtain ⟨cs, hk, hc⟩ := j8.at i x hx
            refine ⟨cs, Ty.K_mono hI (fun _ _ => rfl) e _ _ hk, fun j u hj => ⟨?_, ?_⟩⟩
            · rw [add_plain]; exact hl p (by simp [lent1, hp]) hD (g.b - 1) j2
            · rw [add_plain, add_plain, Nat.zero_add]
              show c.w.cell? _ = _
              rw [cell_of_row c.w (g.b - 1) _ cur t (0, 0) j3]
              have := hc j u hj
              rw [List.getElem?_take] at this
              split at this
              · simpa using this
              · cases this
        · simp [CV]
      · simp [CV]
    | _ => exact hid _ _ hv
  intro v cv hl hpre hv
  have hcase : (∃ cs, v = .agg cs) ∨ (lentBy st v = lent1 st v ∧ lendA st v = lend1 st v ∧ preBy st v = preA st v) := by
    cases v <;> first | exact .inl ⟨_, rfl⟩ | exact .inr ⟨rfl, rfl, rfl⟩
  rcases hcase with ⟨cs, rfl⟩ | ⟨e1, e2, e3⟩
  · simp only [CV, lendA] at *
    obtain ⟨l, rfl, hcl⟩ := hv
    refine ⟨l, rfl, ?_⟩
    have : ∀ (cs : List AV) (l : List Value), (∀ x ∈ cs, ∀ p ∈ lent1 st x, c.D p → ∀ b, c.F p b → Im b) → (∀ x ∈ cs, ∀ q ∈ preA st x, q) → CVL c cs l → CVL (c.withIm Im) (cs.map (lend1 st)) l := by
      intro cs
      induction cs with
      | nil => intro l _ _ h; cases l <;> first | trivial | exact h.elim
      | cons x cs ih =>
        intro l hx hq h
        cases l with
        | nil => exact h.elim
        | cons y l => exact ⟨one1 x y (hx x (by simp)) (hq x (by simp)) h.1, ih l (fun z hz => hx z (by simp [hz])) (fun z hz => hq z (by simp [hz])) h.2⟩
    exact this cs l (fun x hx p hp hD b hb => hl p (by simp only [lentBy, List.mem_flatMap]; exact ⟨x, hx, hp⟩) hD b hb) (fun x hx q hq => hpre q (by simp only [preBy, List.mem_flatMap]; exact ⟨x, hx, hq⟩)) hcl
  · rw [e1] at hl
    rw [e3] at hpre
    rw [e2]
    exact one1 v cv hl hpre hv
theorem lendL_cv {st : St} {c : Ctx} {Im : Nat → Prop} (hDk : ∀ p, hasKey st.heap p = true → c.D p) (hI : ∀ b, c.Im b → Im b) (hit : ∀ p, c.D p → IOk c p (st.at p)) : ∀ (l : List AV) (m : List Value), (∀ p ∈ l.flatMap (lentBy st), c.D p → ∀ b, c.F p b → Im b) → (∀ q ∈ l.flatMap (preBy st), q) → CVL c l m → CVL (c.withIm Im) (l.map (lendA st)) m
  | [], [], _, _, _ => trivial
  | v :: l, x :: m, hl, hq, hv => ⟨lend_cv hDk hI hit v x (fun p hp => hl p (by simp [hp])) (fun q hp => hq q (by rw [List.flatMap_cons]; exact List.mem_append_left _ hp)) hv.1, lendL_cv hDk hI hit l m (fun p hp => hl p (by simp only [List.flatMap_cons, List.mem_append]; exact .inr hp)) (fun q hp => hq q (by rw [List.flatMap_cons]; exact List.mem_append_right _ hp)) hv.2⟩
  | [], _ :: _, _, _, hv => hv.elim
  | _ :: _, [], _, _, hv => hv.elim
end Go.Proofs.Ytljimnhijpcjaaa.VC
