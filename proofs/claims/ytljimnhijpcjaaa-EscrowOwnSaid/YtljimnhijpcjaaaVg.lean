/- The operations that do nothing to memory, continued: parts, fields, elements, looks into maps, lengths. Plain lemmas; no conditions but those that each names. -/
import Derived.Test.YtljimnhijpcjaaaVf
set_option linter.unusedVariables false
set_option linter.unusedSimpArgs false
set_option linter.unusedSectionVars false
namespace Go.Proofs.Ytljimnhijpcjaaa.VC
open Go

theorem fill_fold (off : Nat) : ∀ (vs : List Value) (k : Nat) (cs : Array Value), off + k + vs.length ≤ cs.size →
    ((vs.zipIdx k).foldl (fun cs (x : Value × Nat) => cs.setIfInBounds (off + x.2) x.1) cs).toList = cs.toList.take (off + k) ++ vs ++ cs.toList.drop (off + k + vs.length)
  | [], k, cs, _ => by simp
  | v :: vs, k, cs, h => by
    simp only [List.length_cons] at h
    rw [List.zipIdx_cons, List.foldl_cons]
    rw [fill_fold off vs (k + 1) _ (by simp; omega)]
    have hi : off + k < cs.toList.length := by simp; omega
    rw [Array.toList_setIfInBounds]
    have hs : cs.toList.set (off + k) v = cs.toList.take (off + k) ++ v :: cs.toList.drop (off + k + 1) := List.set_eq_take_append_cons_drop.trans (by rw [if_pos hi])
    rw [hs]
    have hl : (cs.toList.take (off + k)).length = off + k := by rw [List.length_take]; omega
    have e1 : off + (k + 1) = (cs.toList.take (off + k)).length + 1 := by omega
    have e2 : off + (k + 1) + vs.length = (cs.toList.take (off + k)).length + (1 + vs.length) := by omega
    rw [e2, e1, List.take_length_add_append, List.drop_length_add_append, List.take_succ_cons, List.take_zero, Nat.add_comm 1 vs.length, List.drop_succ_cons, List.drop_drop]
    simp only [List.append_assoc, List.singleton_append, List.cons_append, List.nil_append, List.length_cons]
    rw [show off + k + (vs.length + 1) = off + k + 1 + vs.length from by omega]

section
variable {P : Program} {tt : TypeId → Option TI} {eqt : TypeId → Option (List EF)} {sp : FuncId → Option Spc} {E : Env} {st : St} {a : Act} {c : Ctx}

theorem ints_cvl {k : IntKind} : ∀ {xs : List Int}, (∀ n ∈ xs, InR k n) → CVL c (xs.map (AV.int k)) (xs.map (Value.int k))
  | [], _ => trivial
  | x :: xs, h => ⟨⟨h x (List.mem_cons_self ..), rfl⟩, ints_cvl (fun n hn => h n (List.mem_cons_of_mem _ hn))⟩
/-- A value's cells. -/
theorem CV.cells {v : AV} {cv : Value} (h : CV c v cv) (hv : v ≠ .undef) : CVL c v.cells cv.cells.toList := by
  cases v with
  | undef => exact absurd rfl hv
  | agg cs => simp only [CV] at h; obtain ⟨l, rfl, hl⟩ := h; simpa [AV.cells, Value.cells] using hl
  | skip => simp only [CV] at h; subst h; exact ⟨by simp [CV], trivial⟩
  | tt => simp only [CV] at h; subst h; exact ⟨by simp [CV], trivial⟩
  | ff => simp only [CV] at h; subst h; exact ⟨by simp [CV], trivial⟩
  | bool b => simp only [CV] at h; subst h; exact ⟨by simp [CV], trivial⟩
  | int k n => have h' := h; simp only [CV] at h; rw [h.2] at *; exact ⟨h', trivial⟩
  | nptr => simp only [CV] at h; subst h; exact ⟨by simp [CV], trivial⟩
  | ptr p o => have h' := h; simp only [CV] at h; obtain ⟨_, b, _, rfl⟩ := h; exact ⟨h', trivial⟩
  | eptr p i z o => have h' := h; simp only [CV] at h; obtain ⟨_, g, n, cap, _, rfl⟩ := h; exact ⟨h', trivial⟩
  | iptr e xs i o => have h' := h; simp only [CV] at h; obtain ⟨ad, rfl, _⟩ := h; exact ⟨h', trivial⟩
  | nsl => simp only [CV] at h; subst h; exact ⟨by simp [CV], trivial⟩
  | sl p => have h' := h; simp only [CV] at h; obtain ⟨_, _, A, n, cap, rfl⟩ := h; exact ⟨h', trivial⟩
  | pfx p n => have h' := h; simp only [CV] at h; obtain ⟨_, A, m, cap, _, rfl, _⟩ := h; exact ⟨h', trivial⟩
  | sub p l n z => have h' := h; simp only [CV] at h; obtain ⟨_, A, m, cap, _, rfl, _⟩ := h; exact ⟨h', trivial⟩
  | lst e xs => have h' := h; simp only [CV] at h; obtain ⟨A, cap, h1, _⟩ := h; simp at h1; subst h1; exact ⟨h', trivial⟩
  | nmap => simp only [CV] at h; subst h; exact ⟨by simp [CV], trivial⟩
  | map p => have h' := h; simp only [CV] at h; obtain ⟨_, _, r, rfl⟩ := h; exact ⟨h', trivial⟩
  | stamp p k key => have h' := h; simp only [CV] at h; obtain ⟨_, b, es, clock, i, x, _, _, _, _, _, rfl⟩ := h; exact ⟨h', trivial⟩
  | nfn => simp only [CV] at h; subst h; exact ⟨by simp [CV], trivial⟩
  | ref q n => have h' := h; simp only [CV] at h; subst h; cases n <;> exact ⟨h', trivial⟩
  | rp q n o => have h' := h; simp only [CV] at h; obtain ⟨_, rfl⟩ := h; exact ⟨h', trivial⟩
  | hd q e l => have h' := h; simp only [CV] at h; obtain ⟨_, rfl⟩ := h; obtain ⟨b, n, k⟩ := l; cases b <;> exact ⟨h', trivial⟩
  | hp q b i z o => have h' := h; simp only [CV] at h; obtain ⟨_, rfl⟩ := h; exact ⟨h', trivial⟩
  | vec k xs => simp only [CV] at h; obtain ⟨rfl, hR⟩ := h; simpa [AV.cells, Value.cells] using ints_cvl hR
  | fn f cs => have h' := h; simp only [CV] at h; obtain ⟨l, rfl, _⟩ := h; exact ⟨h', trivial⟩
  | tup vs => have h' := h; simp only [CV] at h; obtain ⟨l, rfl, _⟩ := h; exact ⟨h', trivial⟩

/-- A part of cells; a variable that lies there, loaded. -/
theorem part_at {t : TypeId} {ti : TI} (Ti : TIok P t ti) {vs : List AV} {l : List Value} {off : Nat} {v : AV} (hv : CVL c vs l) (hp : partA ti vs off = some v) :
    ∃ cv, CV c v cv ∧ (∀ w', (part t l.toArray off).run P w' = .ok cv w') ∧ (∀ (w' : World) (ad : Addr), (∀ j u, l[j]? = some u → w'.cell? (ad.add j) = some u) → (loadVar t (ad.add off)).run P w' = .ok cv w') := by
  unfold partA at hp
  cases hk : ti.kn.agg with
  | true =>
    rw [hk] at hp
    simp only [cond_true] at hp
    cases hb : Nat.ble (off + ti.size) vs.length with
    | false => simp [hb] at hp
    | true =>
      rw [hb] at hp
      simp at hp
      subst hp
      have hle : off + ti.size ≤ l.length := by rw [← hv.len]; exact Nat.le_of_ble_eq_true hb
      have hlen : ((l.drop off).take ti.size).length = ti.size := by rw [List.length_take, List.length_drop]; omega
      refine ⟨.agg ((l.drop off).take ti.size).toArray, ?_, fun w' => ?_, fun w' ad hc => ?_⟩
      · simp only [CV]
        exact ⟨_, rfl, (hv.drop off).take _⟩
      · simp only [part, Sem.run_bind, Ti.runAgg, hk, Result.andThen_ok, if_true, Ti.runSize, Sem.run_pure]
        simp [List.extract_toArray, List.extract_eq_take_drop]
      · have := run_loadCells_list (P := P) w' (ad.add off) ((l.drop off).take ti.size) (fun j u hj => by
          rw [Go.Deep.add_add]
          refine hc _ _ ?_
          rw [List.getElem?_take] at hj
          split at hj
          · rwa [List.getElem?_drop] at hj
          · cases hj)
        rw [hlen] at this
        simp only [loadVar, Sem.run_bind, Ti.runAgg, hk, Result.andThen_ok, if_true, Ti.runSize, this, Sem.run_pure]
  | false =>
    rw [hk] at hp
    simp only [cond_false] at hp
    obtain ⟨cv, hcv, hC⟩ := hv.at hp
    refine ⟨cv, hC, fun w' => ?_, fun w' ad hc => ?_⟩
    · simp only [part, Sem.run_bind, Ti.runAgg, hk, Result.andThen_ok, Bool.false_eq_true, if_false]
      simp [hcv]
    · simp only [loadVar, Sem.run_bind, Ti.runAgg, hk, Result.andThen_ok, Bool.false_eq_true, if_false, run_load, hc off cv hcv]

theorem fill_at {place : Nat → Option (Nat × Nat)} {place' : Nat → Option (Nat × Nat)} (hp : ∀ i, place i = place' i) : ∀ (ps : List (Nat × AV)) (ps' : List (Nat × Value)) (cs cs' : List AV) (l : List Value),
    ps.map (·.1) = ps'.map (·.1) → CVL c (ps.map (·.2)) (ps'.map (·.2)) → CVL c cs l → fillA place cs ps = some cs' → ∃ l', Instr.fill place' l.toArray ps' = some l'.toArray ∧ CVL c cs' l'
  | [], [], cs, cs', l, _, _, hc, hf => by
    simp [fillA] at hf
    subst hf
    exact ⟨l, rfl, hc⟩
  | (i, v) :: ps, (j, cv) :: ps', cs, cs', l, hk, hv, hc, hf => by
    simp only [List.map_cons, List.cons.injEq] at hk
    obtain ⟨hij, hk⟩ := hk
    subst hij
    simp only [fillA] at hf
    simp only [Instr.fill, ← hp]
    split at hf
    · cases hf
    · rename_i off size heq
      rw [heq]
      cases hb : v.known && Nat.beq v.cells.length size && Nat.ble (off + size) cs.length with
      | false => simp [hb] at hf
      | true =>
        rw [hb] at hf
        simp only [cond_true] at hf
        simp only [Bool.and_eq_true] at hb
        obtain ⟨⟨hkn, hsz⟩, hle⟩ := hb
        have hvc : CVL c v.cells cv.cells.toList := CV.cells hv.1 (by intro e; subst e; simp [AV.known] at hkn)
        have hlen : cv.cells.size = size := by have := hvc.len; have h2 := Nat.eq_of_beq_eq_true hsz; simp at this; omega
        have hle' : off + size ≤ l.length := by rw [← hc.len]; exact Nat.le_of_ble_eq_true hle
        dsimp only
        rw [if_neg (by simp [hlen]; omega)]
        have hfold := fill_fold off cv.cells.toList 0 l.toArray (by simp; omega)
        simp only [Nat.add_zero] at hfold
        have harr : cv.cells.zipIdx.foldl (fun cs (x : Value × Nat) => cs.setIfInBounds (off + x.2) x.1) l.toArray = (l.take off ++ cv.cells.toList ++ l.drop (off + size)).toArray := by
          rw [← Array.foldl_toList, Array.toList_zipIdx]
          apply Array.toList_inj.1
          rw [hfold]
          simp [hlen]
        rw [show (cv.cells.zipIdx.foldl (fun cs (x : Value × Nat) => match x with | (c, j) => cs.setIfInBounds (off + j) c) l.toArray) = _ from harr]
        exact fill_at hp ps ps' _ cs' _ hk hv.2 ((CVL.append (CVL.append (hc.take off) hvc) (hc.drop (off + size)))) hf
  | [], _ :: _, _, _, _, hk, _, _, _ => by simp at hk
  | _ :: _, [], _, _, _, hk, _, _, _ => by simp at hk

/-! ### Reading memory -/

/-- The blocks of a place, and those that nobody writes, are in w' as they are now. -/
structure Same (c : Ctx) (R : Nat → Prop) (w' : World) : Prop where
  im : ∀ b, c.Im b → w'.heap[b]? = c.w.heap[b]?
  pl : ∀ p b, R p → c.D p → c.F p b → w'.heap[b]? = c.w.heap[b]?

/-- An operation that reads memory: one value in whatever world that holds there what this one holds. -/
def ReadAt (P : Program) (c : Ctx) (R : Nat → Prop) (s : Sem Next) (r : Res) : Prop :=
  ∃ v cv, r.rel = [] ∧ r.alts = [.det v [] []] ∧ CV c v cv ∧ ∀ w', Same c R w' → s.run P w' = .ok (.value cv) w'

theorem ReadAt.qv {R : Nat → Prop} {s : Sem Next} {v : AV} {cv : Value} {r : Res} (hr : qv v = some r) (hc : CV c v cv) (hs : ∀ w', Same c R w' → s.run P w' = .ok (.value cv) w') : ReadAt P c R s r := by
  simp only [VC.qv, Option.some.injEq] at hr
  subst hr
  exact ⟨v, cv, rfl, rfl, hc, hs⟩
theorem ReadAt.qp {R : Nat → Prop} {s : Sem Next} {p : List Prop} {v : AV} {cv : Value} {r : Res} (hr : qp p v = some r) (hc : CV c v cv) (hs : ∀ w', Same c R w' → s.run P w' = .ok (.value cv) w') : ReadAt P c R s r := by
  simp only [VC.qp, Option.some.injEq] at hr
  subst hr
  exact ⟨v, cv, rfl, rfl, hc, hs⟩

theorem add_plain (g i j : Nat) : (⟨g, i, none⟩ : Addr).add j = ⟨g, i + j, none⟩ := by unfold Addr.add; split <;> simp_all

theorem ownsRow_block {w : World} {t : TypeId} {sz n : Nat} {v : Value} {cs : List Value} (h : w.ownsRow 0 t sz v n cs) {g : Nat} (hg : v.ownBlock = some g) :
    ∃ cap cur, v = .slice (some ⟨g, 0, none⟩) n cap ∧ w.heap[g]? = some (.cells cur t (0, 0)) ∧ n ≤ cap ∧ cap ≤ maxLen ∧ cur.size = cap * sz ∧ cur.toList.take (n * sz) = cs := by
  rcases h.2 with ⟨rfl, _⟩ | ⟨g', cap, cur, rfl, _, hgg, h1, h2, h3, h4⟩
  · simp [Value.ownBlock] at hg
  · simp [Value.ownBlock] at hg
    subst hg
    exact ⟨cap, cur, rfl, hgg, h1, h2, h3, h4⟩

/-- A list of one's own that is not empty has a block. -/
theorem arr_block {p : Nat} {t : TypeId} {e : Ty} {xs : List e.den} (h : IOk c p (.arr t e xs)) (h0 : 0 < xs.length) :
    ∃ g cap cur, c.ρ p = .slice (some ⟨g, 0, none⟩) xs.length cap ∧ c.F p g ∧ c.w.heap[g]? = some (.cells cur t (0, 0)) ∧ xs.length ≤ cap ∧ cap ≤ maxLen ∧ cur.size = cap * e.sz ∧ RowsK c.w c.Im e xs (cur.toList.take (xs.length * e.sz)) := by
  obtain ⟨cs, h1, h2, h3⟩ := h
  have hx := h1.2
  rcases hx with ⟨hn, hz⟩ | ⟨g, cap, cur, hv, _, hgg, k1, k2, k3, k4⟩
  · omega
  · exact ⟨g, cap, cur, hv, (h3 g).2 (by rw [hv]; rfl), hgg, k1, k2, k3, by rw [k4]; exact h2⟩

theorem arr_shape {p : Nat} {t : TypeId} {e : Ty} {xs : List e.den} (h : IOk c p (.arr t e xs)) : ∃ A cap, c.ρ p = .slice A xs.length cap ∧ xs.length ≤ maxLen ∧ xs.length ≤ cap := by
  obtain ⟨cs, h1, h2, h3⟩ := h
  rcases h1.2 with ⟨hn, hz⟩ | ⟨g, cap, cur, hv, _, hgg, k1, k2, k3, k4⟩
  · exact ⟨none, 0, by rw [hn, hz], by rw [hz]; exact Nat.zero_le _, by rw [hz]; exact Nat.le_refl _⟩
  · exact ⟨_, cap, hv, Nat.le_trans k1 k2, k1⟩

theorem getD_getElem? {α : Type} {xs : List α} {i : Nat} (d : α) (h : i < xs.length) : xs[i]? = some (xs.getD i d) := by
  simp [List.getD, h]

theorem wholeA_shape {ti : TI} {i off : Nat} {e : Ty} {xs : List e.den} {r : Res} (h : wholeA ti i off e xs = some r) : ∃ (n te : Nat) (k : IntKind), e = .int k := by
  unfold wholeA at h
  split at h
  · exact ⟨0, 0, _, rfl⟩
  · cases h
theorem wholeA_of {ti : TI} {i off : Nat} {k : IntKind} {xs : List Int} {r : Res} (h : wholeA ti i off (.int k) xs = some r) : ∃ (n te : Nat), ti.kn = .array n te ∧ i = 0 ∧ off = 0 ∧ ti.size = n ∧ 1 ≤ n ∧ VC.qp [List.length (α := Int) xs = n] (.vec k xs) = some r := by
  unfold wholeA at h
  cases hk : ti.kn <;> rw [hk] at h <;> try (cases h; done)
  · rename_i n te
    dsimp only at h
    generalize hb : (Nat.beq i 0 && Nat.beq off 0 && Nat.beq ti.size n && Nat.ble 1 n) = b at h
    cases b with
    | false => simp at h
    | true =>
      simp only [Bool.and_eq_true] at hb
      exact ⟨n, te, rfl, Nat.eq_of_beq_eq_true hb.1.1.1, Nat.eq_of_beq_eq_true hb.1.1.2, Nat.eq_of_beq_eq_true hb.1.2, Nat.le_of_ble_eq_true hb.2, h⟩
theorem rows_ints {k : IntKind} : ∀ {xs : List Int} {cs : List Value}, RowsK c.w c.Im (.int k) xs cs → CVL c (xs.map (AV.int k)) cs ∧ ∀ n ∈ xs, InR k n
  | [], cs, h => by
    have h : cs = [] := h
    subst h
    exact ⟨trivial, nofun⟩
  | x :: xs, cs, h => by
    obtain ⟨c1, c2, h0, h1, h2⟩ := h
    obtain ⟨q1, q2⟩ := rows_ints h2
    obtain ⟨h3, h4⟩ : InR k x ∧ c1 = [.int k x] := h1
    subst h4 h0
    exact ⟨⟨⟨h3, rfl⟩, q1⟩, fun n hn => by
      rcases List.mem_cons.1 hn with rfl | hn
      · exact h3
      · exact q2 n hn⟩
theorem cvl_ints {k : IntKind} : ∀ {xs : List Int} {l : List Value}, CVL c (xs.map (AV.int k)) l → l = xs.map (Value.int k)
  | [], [], _ => rfl
  | x :: xs, v :: l, h => by
    have h1 : v = .int k x := by have := h.1; simp only [CV] at this; exact this.2
    rw [List.map_cons, h1, cvl_ints h.2]
  | [], _ :: _, h => h.elim
  | _ :: _, [], h => h.elim

theorem loadA_at (T : TabOk P tt eqt) (h : ROk E st a c) {t : TypeId} {ti : TI} (hti : tt t = some ti) {x : AV} {xv : Value} {r : Res} (hr : loadA st ti x = some r) (hx : CV c x xv) (hpre : ∀ q ∈ r.pre, q) :
    ReadAt P c (x.inAt st) (do pure (Next.value (← Instr.loadAt t xv))) r := by
  have Ti := T.ti t ti hti
  unfold loadA at hr
  split at hr
  · rename_i p off
    split at hr
    · rename_i vs hat
      split at hr
      · rename_i v hv
        simp only [CV] at hx
        obtain ⟨hD, b, hb, rfl⟩ := hx
        have hi := h.it p hD
        rw [hat] at hi
        obtain ⟨b', l, te, h1, h2, h3, h4⟩ := hi
        rw [h1] at hb
        simp at hb
        subst hb
        obtain ⟨cv, hcv, _, hload⟩ := part_at Ti h3 hv
        refine .qv hr hcv fun w' hw' => run_v _ _ _ ?_
        have := hload w' ⟨b', 0, none⟩ (fun j u hj => by
          rw [add_plain, Nat.zero_add, cell_of_row w' b' j l.toArray te (0, 0) ((hw'.pl p b' rfl hD ((h4 b').2 rfl)).trans h2)]
          simpa using hj)
        rw [add_plain, Nat.zero_add] at this
        simpa [Instr.loadAt, Instr.sureAddr] using this
      · cases hr
    · cases hr
  · rename_i p i sz off
    split at hr
    · rename_i te e xs hat
      cases hsz : Nat.beq sz e.sz with
      | false => simp [hsz] at hr
      | true =>
        have hsz' := Nat.eq_of_beq_eq_true hsz
        subst hsz'
        simp only [hsz, cond_true] at hr
        split at hr
        · rename_i v hv
          have hi : i < xs.length := qp_pre hr hpre _ (by simp)
          simp only [CV] at hx
          obtain ⟨hD, g, n, cap, hρ, rfl⟩ := hx
          have hit := h.it p hD
          rw [hat] at hit
          obtain ⟨g', cap', cur, k1, k2, k3, k4, k5, k6, k7⟩ := arr_block hit (by omega)
          rw [hρ] at k1
          simp at k1
          obtain ⟨rfl, rfl, rfl⟩ := k1
          obtain ⟨cs, hk, hc⟩ := k7.at i _ (getD_getElem? e.dflt hi)
          obtain ⟨cv, hcv, _, hload⟩ := part_at Ti (Ty.enc_cv e _ cs hk) hv
          refine .qp hr hcv fun w' hw' => run_v _ _ _ ?_
          have := hload w' ⟨g, i * e.sz, none⟩ (fun j u hj => by
            rw [add_plain, cell_of_row w' g _ cur te (0, 0) ((hw'.pl p g rfl hD k2).trans k3)]
            have := hc j u hj
            rw [List.getElem?_take] at this
            split at this
            · simpa using this
            · cases this)
          rw [add_plain] at this
          simpa [Instr.loadAt, Instr.sureAddr] using this
        · obtain ⟨_, _, k, rfl⟩ := wholeA_shape hr
          obtain ⟨m, te', hk, rfl, rfl, hs, h1, hr⟩ := wholeA_of hr
          have hl : List.length (α := Int) xs = m := qp_pre hr hpre _ (by simp)
          simp only [CV] at hx
          obtain ⟨hD, g, n, cap, hρ, rfl⟩ := hx
          have hit := h.it p hD
          rw [hat] at hit
          obtain ⟨g', cap', cur, k1, k2, k3, k4, k5, k6, k7⟩ := arr_block hit (by omega)
          rw [hρ] at k1
          simp at k1
          obtain ⟨rfl, rfl, rfl⟩ := k1
          obtain ⟨q1, q2⟩ := rows_ints k7
          have hpa : partA ti (List.map (AV.int k) xs) 0 = some (.agg (List.map (AV.int k) xs)) := by
            unfold partA
            rw [hk]
            simp only [Kn.agg, cond_true]
            have : Nat.ble (0 + ti.size) (List.map (AV.int k) xs).length = true := Nat.ble_eq_true_of_le (by rw [List.length_map]; omega)
            rw [this]
            simp only [cond_true, List.drop_zero]
            rw [List.take_of_length_le (by rw [List.length_map]; omega)]
          obtain ⟨cv, hcv, _, hload⟩ := part_at Ti q1 hpa
          have hc : CV c (.vec k xs) cv := by
            simp only [CV] at hcv ⊢
            obtain ⟨l, rfl, hl⟩ := hcv
            exact ⟨by rw [cvl_ints hl], q2⟩
          refine .qp hr hc fun w' hw' => run_v _ _ _ ?_
          have := hload w' ⟨g, 0, none⟩ (fun j u hj => by
            rw [add_plain, Nat.zero_add, cell_of_row w' g _ cur te (0, 0) ((hw'.pl p g rfl hD k2).trans k3)]
            rw [List.getElem?_take] at hj
            split at hj
            · simpa using hj
            · cases hj)
          rw [add_plain] at this
          simpa [Instr.loadAt, Instr.sureAddr] using this
    · cases hr
  · rename_i e xs i off
    split at hr
    · rename_i v hv
      have hi : i < xs.length := qp_pre hr hpre _ (by simp)
      simp only [CV] at hx
      obtain ⟨ad, rfl, hx⟩ := hx
      obtain ⟨cs, hk, hl⟩ := hx _ (getD_getElem? e.dflt hi)
      obtain ⟨cv, hcv, _, hload⟩ := part_at Ti (Ty.enc_cv e _ cs hk) hv
      refine .qp hr hcv fun w' hw' => run_v _ _ _ ?_
      have := hload w' (ad.add (i * e.sz)) (fun j u hj => ((hl.mono (w' := w') (fun _ h => h) hw'.im) j u hj).2)
      simpa [Instr.loadAt, Instr.sureAddr] using this
    · cases hr
  · rename_i q n off
    split at hr
    · rename_i p hp
      split at hr
      · rename_i q' l H P hat
        split at hr
        · rename_i v hv
          cases hpos : v.pos.isEmpty with
          | false => rw [hpos] at hr; cases hr
          | true =>
            rw [hpos] at hr
            simp only [cond_true] at hr
            have hsome : (pget P n).isSome = true := qp_pre hr hpre _ (by simp)
            obtain ⟨d, hd⟩ := Option.isSome_iff_exists.1 hsome
            rw [hd] at hv
            simp only [Option.getD_some] at hv
            simp only [CV] at hx
            obtain ⟨hn, rfl⟩ := hx
            have hD := (h.Dk p).2 (poolAt_key hp)
            have hi := h.it p hD
            rw [hat] at hi
            obtain ⟨ρ, F, ho, hF⟩ := pool_obj hi hd (by simp)
            have hc := ho.it 0 (.cells (ATenc l d.1)) rfl
            obtain ⟨b', l', te, h1, h2, h3, h4⟩ := hc
            have hroot := ho.root
            obtain ⟨m, rfl⟩ : ∃ m, n = m + 1 := ⟨n - 1, by omega⟩
            have h1 : ρ 0 = .pointer (some ⟨b', 0, none⟩) := h1
            rw [hroot] at h1
            have hb : m = b' := by simpa [refVal] using h1
            subst hb
            obtain ⟨cv, hcv, _, hload⟩ := part_at Ti h3 hv
            have hcv' : CV c v cv := CV.nopos (c := c.obj (HT.cells l :: H).length ρ F) rfl (fun _ h => h) (List.isEmpty_iff.1 hpos) hcv
            refine .qp hr hcv' fun w' hw' => run_v _ _ _ ?_
            have := hload w' ⟨m, 0, none⟩ (fun j u hj => by
              rw [add_plain, Nat.zero_add, cell_of_row w' m j l'.toArray te (0, 0) ((hw'.pl p m hp hD (hF 0 m (by simp) ((h4 m).2 rfl))).trans h2)]
              simpa using hj)
            rw [add_plain, Nat.zero_add] at this
            simpa [Instr.loadAt, Instr.sureAddr] using this
        · cases hr
      · cases hr
    · cases hr
  · rename_i q b i sz off
    split at hr
    · rename_i p hp
      split at hr
      · rename_i q' te e P hat
        cases hsz : Nat.beq sz e.sz with
        | false => simp [hsz] at hr
        | true =>
          have hsz' := Nat.eq_of_beq_eq_true hsz
          subst hsz'
          simp only [hsz, cond_true] at hr
          split at hr
          · rename_i v hv
            have hi : i < (pget2 P b).length := qp_pre hr hpre _ (by simp)
            simp only [CV] at hx
            obtain ⟨hb, rfl⟩ := hx
            have hD := (h.Dk p).2 (poolAt_key hp)
            have hit := h.it p hD
            rw [hat] at hit
            obtain ⟨k, cur, k0, k1, k2, k3, k4, k5, k6, k7⟩ := apool_list (b := b) hit (by omega)
            obtain ⟨cs, hk, hc⟩ := k7.at i _ (getD_getElem? e.dflt hi)
            obtain ⟨cv, hcv, _, hload⟩ := part_at Ti (Ty.enc_cv e _ cs hk) hv
            refine .qp hr hcv fun w' hw' => run_v _ _ _ ?_
            have := hload w' ⟨b - 1, i * e.sz, none⟩ (fun j u hj => by
              rw [add_plain, cell_of_row w' (b - 1) _ cur te (0, 0) ((hw'.pl p (b - 1) hp hD k2).trans k3)]
              have := hc j u hj
              rw [List.getElem?_take] at this
              split at this
              · simpa using this
              · cases this)
            rw [add_plain] at this
            simpa [Instr.loadAt, Instr.sureAddr] using this
          · cases hr
      · cases hr
    · cases hr
  · cases hr

theorem lenA_at (h : ROk E st a c) {t ty : TypeId} {x : AV} {xv : Value} {r : Res} (hr : lenA st x = some r) (hx : CV c x xv)
    (ht : (x.ofMap = true → ∃ k v, P.underlying t = some (.map k v)) ∧ (x.ofMap = false → ∃ e, P.underlying t = some (.slice e))) :
    ReadAt P c (x.inAt st) (do pure (Next.value (← Builtin.len_ #[t] ty #[xv]))) r := by
  unfold lenA at hr
  split at hr
  · obtain ⟨e, he⟩ := ht.2 rfl
    simp only [CV] at hx
    subst hx
    exact .qv hr (cv_int c (inR_zero _)) fun w' _ => run_v _ _ _ (by simp [Builtin.len_, run_underlying he, goInt])
  · obtain ⟨k, v, he⟩ := ht.1 rfl
    simp only [CV] at hx
    subst hx
    exact .qv hr (cv_int c (inR_zero _)) fun w' _ => run_v _ _ _ (by simp [Builtin.len_, run_underlying he, goInt])
  · obtain ⟨e, he⟩ := ht.2 rfl
    simp only [CV] at hx
    obtain ⟨A, cap, h1, h2, h3, _⟩ := hx
    simp at h1
    subst h1
    exact .qv hr (cv_int c (inR_len h3.1)) fun w' _ => run_v _ _ _ (by simp [Builtin.len_, run_underlying he, goInt])
  · rename_i p
    split at hr
    · rename_i te e xs hat
      obtain ⟨e', he⟩ := ht.2 rfl
      simp only [CV] at hx
      obtain ⟨hD, rfl, _⟩ := hx
      have hi := h.it p hD
      rw [hat] at hi
      obtain ⟨A, cap, h1, h2, _⟩ := arr_shape hi
      rw [h1]
      exact .qv hr (cv_int c (inR_len h2)) fun w' _ => run_v _ _ _ (by simp [Builtin.len_, run_underlying he, goInt])
    · cases hr
  · rename_i p n
    split at hr
    · rename_i te e xs hat
      obtain ⟨e', he⟩ := ht.2 rfl
      simp only [CV] at hx
      obtain ⟨hD, A, m, cap, hρ, rfl, hn⟩ := hx
      have hi := h.it p hD
      rw [hat] at hi
      obtain ⟨A', cap', h1, h2, _⟩ := arr_shape hi
      rw [hρ] at h1
      simp at h1
      exact .qv hr (cv_int c (inR_len (by omega))) fun w' _ => run_v _ _ _ (by simp [Builtin.len_, run_underlying he, goInt])
    · cases hr
  · rename_i p
    split at hr
    · rename_i k v E hat
      obtain ⟨k', v', he⟩ := ht.1 rfl
      simp only [CV] at hx
      obtain ⟨hD, rfl, _⟩ := hx
      have hi := h.it p hD
      rw [hat] at hi
      obtain ⟨b, es, clock, h1, h2, h3, h4, h5, h6⟩ := hi
      have hl : ∀ {E : List (k.den × v.den)} {es : List MapEntry}, MapK c k v E es → E.length = es.length := by
        intro E
        induction E with
        | nil => intro es h; cases es with | nil => rfl | cons _ _ => exact h.elim
        | cons x E ih => intro es h; cases es with | nil => exact h.elim | cons y es => simp [ih h.2.2]
      have hle := hl h3
      rw [h1]
      refine .qv hr (cv_int c (inR_len h5.1)) fun w' hw' => run_v _ _ _ ?_
      have := (hw'.pl p b rfl hD ((h6 b).2 rfl)).trans h2
      simp [Builtin.len_, run_underlying he, goInt, getObj, Sem.run, this, hle]
    · cases hr
  · rename_i q e l
    obtain ⟨e', he⟩ := ht.2 rfl
    simp only [CV] at hx
    obtain ⟨⟨h1, h2, h3⟩, rfl⟩ := hx
    obtain ⟨b, n, k⟩ := l
    refine .qv hr (cv_int c (inR_len (by simp only at h1 h2 ⊢; omega))) fun w' _ => run_v _ _ _ ?_
    cases b <;> simp [Lh.val, Builtin.len_, run_underlying he, goInt]
  · cases hr
end
end Go.Proofs.Ytljimnhijpcjaaa.VC
