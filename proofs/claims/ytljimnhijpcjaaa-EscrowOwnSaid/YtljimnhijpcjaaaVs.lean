/- Regions: one order, or whichever is drawn. Plain lemmas; no conditions but those that each names. -/
import Derived.Test.YtljimnhijpcjaaaVr
set_option linter.unusedVariables false
set_option linter.unusedSimpArgs false
set_option linter.unusedSectionVars false
namespace Go.Proofs.Ytljimnhijpcjaaa.VC
open Go

theorem stepTs_sub {og : Nat → List Gh} {ops : List Oper} {i : Nat} {o : Oper} (hi : ops[i]? = some o) : ∀ t ∈ stepTs ops o, t ∈ regTs og ops := fun t ht => List.mem_append_left _ (List.mem_flatMap.2 ⟨o, List.mem_of_getElem? hi, ht⟩)
theorem ogTs_sub {og : Nat → List Gh} {ops : List Oper} {i : Nat} {o : Oper} (hi : ops[i]? = some o) : ∀ t ∈ ghTs (og i), t ∈ regTs og ops := fun t ht => List.mem_append_right _ (List.mem_flatMap.2 ⟨i, List.mem_range.2 (List.getElem?_eq_some_iff.1 hi).1, ht⟩)
/-- What is said anew is so. -/
def GhOk (E : Env) (ghA : List Gh → St → (St → Prop) → Prop) : Prop :=
  ∀ (l : List Gh) (st : St) (a : Act) (c : Ctx) (K : St → Prop), ROk E st a c → LockOk st → ghA l st K → ∃ st' c', c'.w = c.w ∧ ROk E st' a c' ∧ LockOk st' ∧ K st' ∧ Kp st st' (ghTs l) ∧ Hd c c' st.lock

section
variable {P : Program} {E : Env} {st : St} {a : Act} {c : Ctx} {hold held : List Nat} {K : St → Prop} {Q : Exit → Act → World → Prop} {o : Oper} {C : Cx} {ghA : List Gh → St → (St → Prop) → Prop} {og : Nat → List Gh}

/-! ### In the order that is written -/

theorem seq_ok (T : TabOk P C.tt C.eqt) (S : ∀ f s, C.sp f = some s → FnOk P f s) (hnt : E.nt = C.nt) (G : GhOk E ghA) {ops : List Oper} : ∀ (l : List Oper) (k : Nat) (st : St) (a : Act) (c : Ctx), ops.drop k = l → ROk E st a c → LockOk st → seqA C ghA og ops k l st K →
    (∀ st' a' c', ROk E st' a' c' → K st' → Kp st st' (regTs og ops) → Hd c c' st.lock → Q .normal a' c'.w) → wpOps P ops.toArray Q (List.range' k l.length) a c.w
  | [], k, st, a, c, _, h, hlk, hs, hQ => hQ st a c h hs (Kp.refl _ _) (Hd.refl _ _)
  | o :: l, k, st, a, c, hd, h, hlk, hs, hQ => by
    have hi : ops[k]? = some o := by
      have := List.getElem?_drop (xs := ops) (i := k) (j := 0)
      rw [hd] at this
      simpa using this.symm
    have hd' : ops.drop (k + 1) = l := by
      rw [← List.drop_drop, hd]; rfl
    rw [List.length_cons, List.range'_succ, wpOps_cons]
    obtain ⟨st0, c0, g0, g1, g2, g3, g4, g5⟩ := G _ _ _ _ _ h hlk hs
    have g4' := g4.mono (ogTs_sub hi)
    rw [← g0]
    refine wpOp_mono (fun a' w' hp => ?_) (stepA_ok T S hnt g1 g2 hi g3)
    obtain ⟨st', c', rfl, h1, h2, h3, h4⟩ := hp
    have h3' := h3.mono (stepTs_sub (og := og) hi)
    exact seq_ok T S hnt G l (k + 1) st' a' c' hd' h1 (g2.kp h3) h2 fun st2 a2 c2 r1 r2 r3 r4 => hQ st2 a2 c2 r1 r2 (g4'.trans (h3'.trans r3)) (g5.trans (((h4.mono fun p hp => List.mem_append_right _ (by rw [g4.lockl]; exact hp))).trans (by rw [← g4.lockl, ← h3.lockl]; exact r4)))

/-! ### In an order that is drawn -/

/-- Worlds in which what is held, and what nobody writes, is as it is. -/
def SameH (c : Ctx) (held : List Nat) (w' : World) : Prop := (∀ b, c.Im b → w'.heap[b]? = c.w.heap[b]?) ∧ ∀ p b, p ∈ held → c.D p → c.F p b → w'.heap[b]? = c.w.heap[b]?

theorem SameH.refl (c : Ctx) (held : List Nat) : SameH c held c.w := ⟨fun _ _ => rfl, fun _ _ _ _ _ => rfl⟩
theorem SameH.back {c c' : Ctx} {w' : World} {lk : List Nat} (h : Hd c c' (held ++ lk)) (hs : SameH c' held w') : SameH c held w' :=
  ⟨fun b hb => (hs.1 b (h.im b hb).1).trans (h.im b hb).2, fun p b hp hD hF => (hs.2 p b hp (h.D p hD) ((h.F p b (List.mem_append_left _ hp) hD).2 hF)).trans (h.pl p b (List.mem_append_left _ hp) hD hF)⟩

/-- Whatever order is picked from here on; behind each operation, unless nothing that reads stands behind it, worlds narrow. -/
def wpT (P : Program) (ops : List Oper) (Q : Exit → Act → World → Prop) : (World → Prop) → Nat → Array Bool → Act → World → Prop
  | _, 0, listed, a, w => Region.ready .any ops.toArray listed = [] ∧ Q .normal a w
  | S, fuel + 1, listed, a, w =>
    (Region.ready .any ops.toArray listed = [] → Q .normal a w) ∧
    ∀ i ∈ Region.ready .any ops.toArray listed, wpOp P ops.toArray Q i (fun a' w' => ∃ S' : World → Prop, (tailOp ops i = true ∨ ∀ x, S' x → S x) ∧ S' w' ∧ wpT P ops Q S' fuel (listed.setIfInBounds i true) a' w') a w

theorem wpAny_of_T {ops : List Oper} : ∀ (fuel : Nat) (S : World → Prop) (listed : Array Bool) (a : Act) (w : World), wpT P ops Q S fuel listed a w → wpAny P .any ops.toArray Q fuel listed a w
  | 0, _, _, _, _, h => h
  | fuel + 1, _, _, _, _, h => ⟨h.1, fun i hi => wpOp_mono (fun a' w' h' => let ⟨S', _, _, h3⟩ := h'; wpAny_of_T fuel S' _ a' w' h3) (h.2 i hi)⟩

theorem wpT_mono {ops : List Oper} : ∀ (fuel : Nat) {S S' : World → Prop} {listed : Array Bool} {a : Act} {w : World}, (∀ x, S' x → S x) → wpT P ops Q S' fuel listed a w → wpT P ops Q S fuel listed a w
  | 0, _, _, _, _, _, _, h => h
  | fuel + 1, _, _, _, _, _, hs, h => ⟨h.1, fun i hi => wpOp_mono (fun a' w' h' => let ⟨S2, h1, h2, h3⟩ := h'; ⟨S2, h1.imp id (fun k x hx => hs x (k x hx)), h2, h3⟩) (h.2 i hi)⟩

theorem yields_mono {ops : Array Oper} {S S' : World → Prop} {v : Value} (h : YieldsIf P ops S o v a) (hs : ∀ x, S' x → S x) : YieldsIf P ops S' o v a := h.imp (fun ⟨h1, h2⟩ => ⟨h1, fun w hw => h2 w (hs w hw)⟩) id

/-- An operation that yields one value in every world that comes may be taken first. -/
theorem wpT_first {ops : List Oper} {i : Nat} {oi : Oper} {v : Value} (hi : ops[i]? = some oi) (hsel : ∀ (j : Nat) (o : Oper) cs b, ops.toArray[j]? = some o → o.op ≠ .select cs b)
    (hQ : ∀ c a w, Q (.panic c) (a.put oi.dst v) w → Q (.panic c) a w) :
    ∀ (fuel : Nat) (S : World → Prop) (listed : Array Bool) (a : Act) (w : World),
      (∀ j oj, ops.toArray[j]? = some oj → j ≠ i → listed.getD j true = false → (∀ e ∈ oj.after, Region.binds .any e = true → e.on ≠ i) → oi.apart ops.toArray oj = true) →
      i ∈ Region.ready .any ops.toArray listed → (YieldsIf P ops.toArray (fun _ => True) oi v a ∨ (mayRead oi = true ∧ YieldsIf P ops.toArray S oi v a)) → S w →
      wpT P ops Q S fuel (listed.setIfInBounds i true) (a.put oi.dst v) w → wpT P ops Q S (fuel + 1) listed a w := by
  have hi' : ops.toArray[i]? = some oi := by rw [List.getElem?_toArray]; exact hi
  have toS : ∀ {S : World → Prop} {a : Act}, (YieldsIf P ops.toArray (fun _ => True) oi v a ∨ (mayRead oi = true ∧ YieldsIf P ops.toArray S oi v a)) → YieldsIf P ops.toArray S oi v a := fun h => h.elim (fun h => yields_mono h fun _ _ => trivial) (fun h => h.2)
  intro fuel
  induction fuel with
  | zero =>
    intro S listed a w _ hr hy hS H
    refine ⟨fun h => (by rw [h] at hr; cases hr), fun j hj => ?_⟩
    by_cases hji : j = i
    · subst hji; exact (toS hy).wpOp hi' hS ⟨S, .inr fun _ h => h, hS, H⟩
    · have := ready_mono hj hji
      rw [H.1] at this
      cases this
  | succ fuel ih =>
    intro S listed a w hfree hr hy hS H
    refine ⟨fun h => (by rw [h] at hr; cases hr), fun j hj => ?_⟩
    by_cases hji : j = i
    · subst hji; exact (toS hy).wpOp hi' hS ⟨S, .inr fun _ h => h, hS, H⟩
    · have h1 := H.2 j (ready_mono hj hji)
      obtain ⟨hjun, oj, hoj, hall⟩ := mem_ready.1 hj
      have hiun := (mem_ready.1 hr).1
      have lst : ∀ {k : Nat}, listed.getD k true = false → listed.getD k false = true → False := fun {k} h0 h1 => by
        rcases Nat.lt_or_ge k listed.size with h' | h'
        · simp [h'] at h0 h1; rw [h0] at h1; cases h1
        · simp [Array.getElem?_eq_none h'] at h1
      have hnot : ∀ e ∈ oj.after, Region.binds .any e = true → e.on ≠ i := fun e he hb heq => lst hiun (heq ▸ hall e he hb)
      have hfree' : ∀ k ok, ops.toArray[k]? = some ok → k ≠ i → (listed.setIfInBounds j true).getD k true = false →
          (∀ e ∈ ok.after, Region.binds .any e = true → e.on ≠ i) → oi.apart ops.toArray ok = true := fun k ok hk hki hun hno => by
        refine hfree k ok hk hki ?_ hno
        by_cases hjk : j = k
        · subst hjk; exact hjun
        · rw [getD_set_ne true hjk] at hun; exact hun
      have go : ∀ {S2 : World → Prop} (a' : Act) (w' : World), (YieldsIf P ops.toArray (fun _ => True) oi v a' ∨ (mayRead oi = true ∧ ∀ S' : World → Prop, (tailOp ops j = true ∨ ∀ x, S' x → S x) → YieldsIf P ops.toArray S' oi v a')) →
          (∃ S' : World → Prop, (tailOp ops j = true ∨ ∀ x, S' x → S x) ∧ S' w' ∧ wpT P ops Q S' fuel ((listed.setIfInBounds i true).setIfInBounds j true) (a'.put oi.dst v) w') →
          ∃ S' : World → Prop, (tailOp ops j = true ∨ ∀ x, S' x → S x) ∧ S' w' ∧ wpT P ops Q S' (fuel + 1) (listed.setIfInBounds j true) a' w' := fun a' w' hy' ⟨S', k1, k2, k3⟩ => by
        refine ⟨S', k1, k2, ih S' (listed.setIfInBounds j true) a' w' hfree' (ready_mono hr (Ne.symm hji)) (hy'.imp id fun h => ⟨h.1, h.2 S' k1⟩) k2 ?_⟩
        rw [Array.setIfInBounds_comm _ _ hji]
        exact k3
      rcases hy with hy | ⟨hmr, hy⟩
      · exact wpOp_mono (fun a' w' h3 => go (S2 := S) a' w' (.inl h3.1) h3.2) (wpOp_putIf hoj (hfree j oj hoj hji hjun hnot) (fun cs b => hsel i oi cs b hi') (fun cs b => hsel j oj cs b hoj) hQ hy h1)
      · have hnt : tailOp ops j = false := by
          cases ht : tailOp ops j with
          | false => rfl
          | true =>
            exfalso
            rw [List.getElem?_toArray] at hoj
            simp only [tailOp, hoj, List.all_eq_true, List.mem_range] at ht
            have := ht i (List.getElem?_eq_some_iff.1 hi).1
            rw [hi] at this
            simp only [hmr, Bool.not_true, Bool.or_false, Bool.or_eq_true] at this
            rcases this with h2 | h2
            · exact hji (Nat.eq_of_beq_eq_true h2).symm
            · obtain ⟨e, he, hb⟩ := Array.any_eq_true'.1 h2
              simp only [Bool.and_eq_true, beq_iff_eq] at hb
              exact hnot e he hb.1 hb.2
        exact wpOp_mono (fun a' w' h3 => go (S2 := S) a' w' (.inr ⟨hmr, fun S' hs => yields_mono h3.1 (hs.resolve_left (by rw [hnt]; simp))⟩) h3.2) (wpOp_putIf hoj (hfree j oj hoj hji hjun hnot) (fun cs b => hsel i oi cs b hi') (fun cs b => hsel j oj cs b hoj) hQ hy h1)

theorem reads_ref {st st' : St} {t : Nat} {R : Option Nat} (h : Ref st st' t) (hr : readsOf st o = some R) : readsOf st' o = some R := by
  have hev := h.eval
  have hpa : poolAt st' = poolAt st := by funext q; unfold poolAt; rw [h.at.2.1]
  unfold readsOf at hr ⊢
  rw [hpa]
  split at hr
  · rename_i x y hop
    rcases hev y with e | ⟨b, e⟩
    · rw [e]; exact hr
    · rw [e] at hr; cases hr
  · rename_i x y z ok hop
    rcases hev y with e | ⟨b, e⟩
    · rw [e]; exact hr
    · rw [e] at hr; cases hr
  · rename_i cl hop
    obtain ⟨ce, args, ats⟩ := cl
    simp only at hr ⊢
    cases ce with
    | value f => simp at hr
    | invoke r n => simp at hr
    | builtin bi =>
      cases bi <;> try (simp at hr; done)
      cases hargs : args.toList with
      | nil => rw [hargs] at hr; simp at hr
      | cons x l =>
        cases l with
        | cons y l => rw [hargs] at hr; simp at hr
        | nil =>
          rw [hargs] at hr
          simp only [List.map_cons, List.map_nil] at hr ⊢
          rcases hev x with e | ⟨b, e⟩
          · rw [e]; exact hr
          · rw [e] at hr; simp at hr
  · cases hr
theorem reads_may {R : Option Nat} (hr : readsOf st o = some R) : mayRead o = true := by
  unfold readsOf at hr
  unfold mayRead
  split at hr
  · rfl
  · rfl
  · rename_i cl hop
    obtain ⟨ce, args, ats⟩ := cl
    cases ce with
    | value f => simp at hr
    | invoke r n => simp at hr
    | builtin bi => cases bi <;> first | rfl | (simp at hr)
  · cases hr
theorem reads_pick {R : Option Nat} (hr : readsOf st o = some R) {x y z : Operand} : o.op ≠ .pick x y z := fun e => by simp [readsOf, e] at hr

/-- What is quiet yields a value, in every world in which what is held is as it is. -/
theorem quiet_ok (T : TabOk P C.tt C.eqt) (hnt : E.nt = C.nt) (h : ROk E st a c) (hlk : LockOk st) {ops : List Oper} {i : Nat} (hi : ops[i]? = some o) (hq : isQuiet held ops st i = true) (hs : stepA C [] ops o st K) :
    ∃ v, (YieldsIf P ops.toArray (fun _ => True) o v a ∨ (mayRead o = true ∧ YieldsIf P ops.toArray (SameH c held) o v a)) ∧ PostT E st held c (stepTs ops o) K (a.put o.dst v) c.w := by
  obtain ⟨st1, h1, h2, h3⟩ := stepA_ref h hs
  have k1 : Kp st st1 (stepTs ops o) := by
    rcases h2 with rfl | ⟨t, b, hg, h2⟩
    · exact Kp.refl _ _
    · exact h2.kp.mono fun u hu => by simp only [List.mem_singleton] at hu; subst hu; simp [stepTs, hg]
  rcases h3 with ⟨hw, hx⟩ | ⟨hw, hx⟩
  · obtain ⟨st2, h4, h5, h6⟩ := execA_ref h1 hx
    have k2 : Kp st1 st2 (stepTs ops o) := by
      rcases h6 with rfl | ⟨t, x, y, hop, h6⟩
      · exact Kp.refl _ _
      · exact h6.kp.mono fun u hu => by simp only [List.mem_singleton] at hu; subst hu; simp [stepTs, hop]
    have hnil : skipped ops o st = true ∨ refSlots C st2 o = [] := by
      unfold isQuiet at hq
      rw [hi] at hq
      simp only [Bool.or_eq_true] at hq
      rcases hq with (hq | hq) | hq
      · exact .inl hq
      · exact .inr (slots_pure hq)
      · have hR : ∃ R, readsOf st o = some R := by
          split at hq
          · rename_i e; exact ⟨_, e⟩
          · rename_i p e; exact ⟨_, e⟩
          · cases hq
        obtain ⟨R, hR⟩ := hR
        have hR1 : readsOf st1 o = some R := by
          rcases h2 with rfl | ⟨t, b, hg, h2⟩
          · exact hR
          · exact reads_ref h2 hR
        have hR2 : readsOf st2 o = some R := by
          rcases h6 with rfl | ⟨t, x, y, hop, h6⟩
          · exact hR1
          · exact absurd hop (reads_pick hR)
        exact .inr (slots_reads hR2)
    have hskip : skipped ops o st = true → False := fun hq => by
      unfold skipped at hq
      cases hgd : o.guard with
      | none => simp [guardT, hgd] at hq
      | some jw =>
        obtain ⟨j, want⟩ := jw
        have hgt : guardT ops o = some ((ops[j]?).bind (·.dst), want) := by simp [guardT, hgd]
        rw [hgt] at hq
        have hg : Region.wanted o (yielded ops.toArray a.tmps) = (yielded ops.toArray a.tmps j == some want) := by simp [Region.wanted, hgd]
        rw [hg] at hw
        cases hd : (ops[j]?).bind (·.dst) with
        | none =>
          unfold yielded at hw
          rw [List.getElem?_toArray, hd] at hw
          simp at hw
        | some t =>
          rw [hd] at hq
          simp only at hq
          obtain ⟨y1, y2, y3⟩ := yielded_at h hd
          split at hq
          · rename_i e; rw [y1 e] at hw; simp at hw
          · rename_i e; rw [y2 e] at hw; simp at hw
          · rename_i e; rw [y3 e] at hw; simp at hw
          · cases hq
    have h5 := runOp_nil (hnil.resolve_left hskip) h5
    unfold runOp0 at h5
    split at h5
    · rename_i r he
      obtain ⟨hpre, hK⟩ := preAll_iff h5
      have fin : ∀ {v : AV} {cv : Value}, r.rel = [] → r.alts = [.det v [] []] → CV c v cv → PostT E st held c (stepTs ops o) K (a.put o.dst cv) c.w := fun {v cv} e1 e2 hc => by
        rw [e1, e2, ← hnt] at hK
        have hK : stepK E.nt (st2.seat o) held [] o.dst v [] [] K := hK
        have hp := (post_of (h4.seat o) (((hlk.kp k1).kp k2).seat o) hK fun _ => ⟨c, rfl, fits_same (h4.seat o), hc⟩).toT ((k1.trans k2).trans (Kp.seat st2 o (stepTs ops o))) fun t ht => by simp [stepTs]; simp at ht; simp [ht]
        exact hp
      unfold isQuiet at hq
      rw [hi] at hq
      simp only [Bool.or_eq_true] at hq
      rcases hq with (hq | hq) | hq
      · exact (hskip hq).elim
      · obtain ⟨v, cv, e1, e2, e3, e4⟩ := pure_op T (h4.seat o) hq he hpre
        exact ⟨cv, .inl (.inl ⟨hw, fun w _ => e4 w⟩), fin e1 e2 e3⟩
      · have hR : ∃ R, readsOf st o = some R ∧ ∀ p, R = some p → p ∈ held := by
          split at hq
          · rename_i e; exact ⟨_, e, fun p hp => by cases hp⟩
          · rename_i p e; exact ⟨_, e, fun q hq' => by cases hq'; exact isIn_iff.1 hq⟩
          · cases hq
        obtain ⟨R, hR, hRh⟩ := hR
        have hR1 : readsOf st1 o = some R := by
          rcases h2 with rfl | ⟨t, b, hg, h2⟩
          · exact hR
          · exact reads_ref h2 hR
        have hR2 : readsOf st2 o = some R := by
          rcases h6 with rfl | ⟨t, x, y, hop, h6⟩
          · exact hR1
          · exact absurd hop (reads_pick hR)
        obtain ⟨v, cv, e1, e2, e3, e4⟩ := read_op T (h4.seat o) ((seat_reads st2 o o).trans hR2) he hpre
        exact ⟨cv, .inr ⟨reads_may hR, .inl ⟨hw, fun w hw' => e4 w ⟨hw'.1, fun p b hp hD hF => hw'.2 p b (hRh p hp) hD hF⟩⟩⟩, fin e1 e2 e3⟩
    · exact h5.elim
  · obtain ⟨h4, h5, h6⟩ := skipA_ok hnt h1 hx
    exact ⟨undef, .inl (.inr ⟨hw, rfl⟩), _, c, rfl, h4, h5, k1.trans (h6.mono fun t ht => by simp [stepTs]; simp at ht; simp [ht]), Hd.refl _ _⟩

theorem allOf_mem {K : Nat → Prop} : ∀ {l : List Nat}, allOf K l → ∀ i ∈ l, K i
  | [], _, i, hi => by cases hi
  | [j], h, i, hi => by simp at hi; subst hi; exact h
  | j :: k :: l, h, i, hi => by
    rcases List.mem_cons.1 hi with rfl | hi
    · exact h.1
    · exact allOf_mem h.2 i hi

theorem draw_ok (T : TabOk P C.tt C.eqt) (S : ∀ f s, C.sp f = some s → FnOk P f s) (hnt : E.nt = C.nt) (G : GhOk E ghA) {ops : List Oper} (hsel : Region.noSelect ops.toArray = true) (hQp : ∀ ch a w, ¬ Q (.panic ch) a w) :
    ∀ (n : Nat) (listed : Array Bool) (st : St) (a : Act) (c : Ctx), ROk E st a c → LockOk st → drawA C ghA og held ops n listed st K →
      (∀ st' a' c', ROk E st' a' c' → K st' → Kp st st' (regTs og ops) → Hd c c' st.lock → Q .normal a' c'.w) → wpT P ops Q (SameH c held) n listed a c.w
  | 0, listed, st, a, c, h, hlk, hs, hQ => by
    unfold drawA at hs
    cases hr : (Region.ready .any ops.toArray listed).isEmpty with
    | false => rw [hr] at hs; exact hs.elim
    | true =>
      rw [hr] at hs
      exact ⟨List.isEmpty_iff.1 hr, hQ st a c h hs (Kp.refl _ _) (Hd.refl _ _)⟩
  | n + 1, listed, st, a, c, h, hlk, hs, hQ => by
    unfold drawA at hs
    split at hs
    · rename_i hr
      exact ⟨fun _ => hQ st a c h hs (Kp.refl _ _) (Hd.refl _ _), fun i hi => by rw [hr] at hi; cases hi⟩
    · rename_i rs hne
      split at hs
      · rename_i i hfind
        have hmem := List.mem_of_find?_eq_some hfind
        have hprop := List.find?_some hfind
        simp only [Bool.and_eq_true] at hprop
        split at hs
        · exact hs.elim
        · rename_i o hi
          obtain ⟨v, hy, st', c', hw, h1, h2, h3, h4⟩ := quiet_ok T hnt h hlk hi hprop.1.2 hs
          have h3' := h3.mono (stepTs_sub (og := og) hi)
          refine wpT_first hi (fun j o cs b => Region.noSelect_spec hsel j o cs b) (fun ch a w hp => (hQp _ _ _ hp).elim) n _ listed a c.w (Region.free_spec (by rw [List.getElem?_toArray]; exact hi) hprop.2) hmem hy (SameH.refl _ _) ?_
          have := draw_ok T S hnt G hsel hQp n (listed.setIfInBounds i true) st' (a.put o.dst v) c' h1 (hlk.kp h3) h2 fun st2 a2 c2 r1 r2 r3 r4 => hQ st2 a2 c2 r1 r2 (h3'.trans r3) ((h4.mono fun p hp => List.mem_append_right _ hp).trans (h3.lockl ▸ r4))
          rw [← hw]
          exact wpT_mono n (fun x hx => hx.back h4) this
      · refine ⟨fun hr => absurd hr hne, fun i hi => ?_⟩
        have hs := allOf_mem hs i hi
        split at hs
        · exact hs.elim
        · rename_i o hio
          cases hhk : held.all (hasKey st.heap) with
          | false => rw [hhk] at hs; exact hs.elim
          | true =>
          rw [hhk] at hs
          simp only [cond_true] at hs
          have hlk2 : LockOk (st.relock (st.lock ++ held)) := fun p hp => by
            rcases List.mem_append.1 hp with hp | hp
            · exact hlk p hp
            · exact List.all_eq_true.1 hhk p hp
          have hre : ∀ {s : St} {a : Act} {c : Ctx} (lk : List Nat), ROk E s a c → ROk E (s.relock lk) a c := fun lk h => ⟨h.Dk, h.tm, h.sz, h.df, h.it, h.dj, h.lt, h.im, h.im0, h.im1, h.fr⟩
          obtain ⟨st0, c0, g0, g1, g2, g3, g4, g5⟩ := G _ _ _ _ _ (hre (st.lock ++ held) h) hlk2 hs
          have g4' : Kp st (st0.relock st.lock) (regTs og ops) := ⟨fun p hp => g4.lockA p (List.mem_append_left _ hp), rfl, fun t ht => (g4.tmp t fun hm => ht (ogTs_sub hio t hm)).imp id fun ⟨k1, p, k2, k3⟩ => ⟨k1, p, fun hm => k2 (List.mem_append_left _ hm), k3.imp id fun k4 => ⟨k4.1, ogTs_sub hio _ k4.2⟩⟩, g4.key⟩
          have g2' : LockOk (st0.relock st.lock) := fun p hp => g4.key p (hlk p hp)
          rw [← g0]
          refine wpOp_mono (fun a' w' hp => ?_) (stepA_ok T S hnt (hre st.lock g1) g2' hio g3)
          obtain ⟨st', c', rfl, h1, h2, h3, h4⟩ := hp
          have h3' := h3.mono (stepTs_sub (og := og) hio)
          have g5l : Hd c c0 st.lock := g5.mono fun p hp => List.mem_append_left _ hp
          refine ⟨SameH c' held, ?_, SameH.refl _ _, draw_ok T S hnt G hsel hQp n (listed.setIfInBounds i true) st' a' c' h1 (g2'.kp h3) h2 fun st2 a2 c2 r1 r2 r3 r4 => hQ st2 a2 c2 r1 r2 (g4'.trans (h3'.trans r3)) (g5l.trans ((h4.mono fun p hp => List.mem_append_right _ hp).trans (by rw [show st.lock = st'.lock from h3.lockl.symm]; exact r4)))⟩
          cases ht : tailOp ops i with
          | true => exact .inl rfl
          | false =>
            rw [ht] at h4
            have g6 : Hd c c0 (held ++ st.lock) := g5.mono fun p hp => (List.mem_append.1 hp).elim (fun h => List.mem_append_right _ h) (fun h => List.mem_append_left _ h)
            have g7 : Hd c c' (held ++ st.lock) := g6.trans h4
            exact .inr fun x hx => hx.back g7
end
end Go.Proofs.Ytljimnhijpcjaaa.VC
