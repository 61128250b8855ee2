/- Functions: what is to be shown of a function, shown, is what is said of it. Plain lemmas; no conditions but those that each names. -/
import Derived.Test.YtljimnhijpcjaaaVw
set_option linter.unusedVariables false
set_option linter.unusedSimpArgs false
set_option linter.unusedSectionVars false
namespace Go.Proofs.Ytljimnhijpcjaaa.VC
open Go

/-! ### Data are of their types -/

theorem RowsK.ok {w : World} {Im : Nat → Prop} {e : Ty} : ∀ {xs : List e.den} {cs : List Value}, RowsK w Im e xs cs → ∀ x ∈ xs, e.ok x
  | [], _, _, x, hx => by cases hx
  | y :: xs, _, ⟨c1, c2, _, h1, h2⟩, x, hx => by
    rcases List.mem_cons.1 hx with rfl | hx
    · exact Ty.K_ok e _ _ h1
    · exact RowsK.ok h2 x hx

mutual
theorem cv_facts {c : Ctx} : ∀ (v : AV) (cv : Value), CV c v cv → ∀ p ∈ v.facts, p
  | .undef, _, _, p, h => by simp [AV.facts] at h
  | .skip, _, _, p, h => by simp [AV.facts] at h
  | .tt, _, _, p, h => by simp [AV.facts] at h
  | .ff, _, _, p, h => by simp [AV.facts] at h
  | .bool b, _, _, p, h => by simp [AV.facts] at h
  | .int k n, _, hv, p, h => by
    simp only [AV.facts, List.mem_singleton] at h
    simp only [CV] at hv
    rw [h]; exact hv.1
  | .nptr, _, _, p, h => by simp [AV.facts] at h
  | .ptr q off, _, _, p, h => by simp [AV.facts] at h
  | .eptr q i sz off, _, _, p, h => by simp [AV.facts] at h
  | .iptr e xs i off, _, _, p, h => by simp [AV.facts] at h
  | .nsl, _, _, p, h => by simp [AV.facts] at h
  | .sl q, _, _, p, h => by simp [AV.facts] at h
  | .pfx q n, _, _, p, h => by simp [AV.facts] at h
  | .sub q l n z, _, _, p, h => by simp [AV.facts] at h
  | .lst e xs, _, hv, p, h => by
    simp only [AV.facts, List.mem_singleton] at h
    simp only [CV] at hv
    rw [h]; exact Ty.K_ok (.slice e) xs _ hv
  | .nmap, _, _, p, h => by simp [AV.facts] at h
  | .map q, _, _, p, h => by simp [AV.facts] at h
  | .stamp q k key, _, _, p, h => by simp [AV.facts] at h
  | .nfn, _, _, p, h => by simp [AV.facts] at h
  | .vec _ _, _, _, p, h => by simp [AV.facts] at h
  | .ref _ _, _, _, p, h => by simp [AV.facts] at h
  | .rp _ _ _, _, _, p, h => by simp [AV.facts] at h
  | .hd _ _ g, _, hv, p, h => by
    simp only [AV.facts, List.mem_singleton] at h
    simp only [CV] at hv
    rw [h]; exact hv.1
  | .hp _ _ _ _ _, _, _, p, h => by simp [AV.facts] at h
  | .fn f caps, _, _, p, h => by simp [AV.facts] at h
  | .agg cs, _, hv, p, h => by simp only [CV, AV.facts] at *; obtain ⟨l, _, h2⟩ := hv; exact cvl_facts cs l h2 p h
  | .tup cs, _, hv, p, h => by simp only [CV, AV.facts] at *; obtain ⟨l, _, h2⟩ := hv; exact cvl_facts cs l h2 p h
theorem cvl_facts {c : Ctx} : ∀ (l : List AV) (m : List Value), CVL c l m → ∀ p ∈ AV.factsL l, p
  | [], [], _, p, h => by simp [AV.factsL] at h
  | v :: l, x :: m, hv, p, h => by
    simp only [AV.factsL, List.mem_append] at h
    exact h.elim (cv_facts v x hv.1 p) (cvl_facts l m hv.2 p)
  | [], _ :: _, hv, _, _ => hv.elim
  | _ :: _, [], hv, _, _ => hv.elim
end
theorem iok_facts {c : Ctx} {q : Nat} : ∀ {it : Itm}, IOk c q it → ∀ p ∈ it.facts, p
  | .gone, _, p, h => by simp [Itm.facts] at h
  | .cells vs, ⟨b, l, t, _, _, h3, _⟩, p, h => cvl_facts vs l h3 p (by simpa [Itm.facts] using h)
  | .arr t e xs, ⟨cs, h1, h2, _⟩, p, h => by
    simp only [Itm.facts, List.mem_singleton] at h
    rw [h]
    refine ⟨?_, h2.ok⟩
    rcases h1.2 with ⟨_, h3⟩ | ⟨g, cap, cur, _, _, _, h3, h4, _⟩
    · rw [h3]; exact Nat.zero_le _
    · exact Nat.le_trans h3 h4
  | .mapo k v E, ⟨b, es, clock, _, _, _, _, h5, _⟩, p, h => by
    simp only [Itm.facts, List.mem_singleton] at h
    rw [h]; exact h5
  | .iter m k v left now, _, p, h => by simp [Itm.facts] at h
  | .pool q H P hs, ⟨_, _, h1, _⟩, p, h => by
    simp only [Itm.facts, List.mem_singleton] at h
    rw [h]; exact h1
  | .apool q t e P, ⟨_, _, h1, h2, _⟩, p, h => by
    simp only [Itm.facts, List.mem_singleton] at h
    rw [h]
    refine ⟨h1, fun x hx => ?_⟩
    obtain ⟨k1, k2, cur, _, _, k5⟩ := h2 x hx
    exact ⟨k1, k2, k5.ok⟩

/-! ### The start -/

theorem cvl_get {c : Ctx} : ∀ {l : List AV} {m : List Value}, CVL c l m → ∀ (t : Nat), t < l.length → CV c (l.getD t .undef) (m.getD t undef)
  | [], [], _, t, ht => by simp at ht
  | v :: l, x :: m, h, 0, _ => h.1
  | v :: l, x :: m, h, t + 1, ht => by simpa using cvl_get h.2 t (by simpa using ht)
  | [], _ :: _, h, _, _ => h.elim
  | _ :: _, [], h, _, _ => h.elim

def envOf (c : Ctx) (nt : Nat) : Env := ⟨c.w, fun p b => c.D p ∧ c.F p b, c.Im, nt⟩

theorem start_ok {c : Ctx} {args : List AV} {heap : List Itm} {vals : Array Value} {mods : List Nat} {nt : Nat} (h : COk c heap) (hlt : ∀ p, c.D p → p < 1000000) (hv : CVL c args vals.toList) :
    ROk (envOf c nt) (startSt args heap mods) { tmps := vals ++ Array.replicate (nt - vals.size) undef, defers := [] } c := by
  have hlen := hv.len
  refine ⟨fun p => ?_, fun t => ?_, ?_, rfl, fun p hD => ?_, h.dj, fun p b hD hF => ⟨h.lt p b hD hF, .inr (by rw [org_lt (hlt p hD)]; exact ⟨hD, hF⟩)⟩, h.im, fun _ h => h, fun _ h => .inl h, Fr.refl _ _⟩
  · rw [h.D]
    show _ ↔ hasKey (numFrom 0 heap) p = true
    rw [key_num]; omega
  · show CV c (look .undef (numFrom 0 args) t) _
    rw [look_num]
    by_cases ht : t < args.length
    · rw [if_pos (by omega)]
      have := cvl_get hv t ht
      have hs : t < vals.size := by rw [hlen] at ht; simpa using ht
      rw [Array.getD_eq_getD_getElem?, Array.getElem?_append_left hs]
      simpa [List.getD, Array.getElem?_toList] using this
    · rw [if_neg (by omega)]
      simp [CV]
  · show nt ≤ (vals ++ Array.replicate (nt - vals.size) undef).size
    simp; omega
  · show IOk c p (look .gone (numFrom 0 heap) p)
    have hp := (h.D p).1 hD
    rw [look_num, if_pos (by omega)]
    exact h.it p _ (by simp [List.getD, hp])
theorem start_lock (args : List AV) (heap : List Itm) (mods : List Nat) : LockOk (startSt args heap mods) := fun p hp => by
  have hp : p ∈ (List.range heap.length).filter (fun p => !isIn mods p) := hp
  show hasKey (numFrom 0 heap) p = true
  rw [key_num]
  have := List.mem_range.1 (List.mem_filter.1 hp).1
  omega
theorem start_lock_iff {args : List AV} {heap : List Itm} {mods : List Nat} {p : Nat} : p ∈ (startSt args heap mods).lock ↔ p < heap.length ∧ p ∉ mods := by
  show p ∈ (List.range heap.length).filter (fun p => !isIn mods p) ↔ _
  rw [List.mem_filter, List.mem_range]
  have : isIn mods p = true ↔ p ∈ mods := isIn_iff
  cases h : isIn mods p with
  | true => simp [this.1 h]
  | false =>
    have : p ∉ mods := fun hm => by rw [this.2 hm] at h; cases h
    simp [this]

/-! ### The results -/

section
variable {P : Program} {E : Env} {st : St} {a : Act} {c : Ctx} {C : Cx}

def resOne (tmps : Array Value) : ResultVar → Sem Value
  | .tmp t => pure (tmps.getD t undef)
  | .cell a t => do loadVar t (← asAddr (tmps.getD a undef))

theorem res_list (T : TabOk P C.tt C.eqt) (h : ROk E st a c) : ∀ (rs : List ResultVar) (vs : List AV), resA C st rs = some vs →
    ∃ cvs : List Value, CVL c vs cvs ∧ (rs.mapM (resOne a.tmps)).run P c.w = .ok cvs c.w
  | [], vs, hr => by
    simp [resA] at hr
    subst hr
    exact ⟨[], trivial, rfl⟩
  | .tmp t :: rs, vs, hr => by
    simp only [resA] at hr
    obtain ⟨us, hus, rfl⟩ := Option.map_eq_some_iff.1 hr
    obtain ⟨cvs, h1, h2⟩ := res_list T h rs us hus
    refine ⟨a.tmps.getD t undef :: cvs, ⟨h.tm t, h1⟩, ?_⟩
    rw [List.mapM_cons]
    simp only [resOne, Sem.run_bind, Sem.run_pure, Result.andThen_ok, h2]
  | .cell b t :: rs, vs, hr => by
    simp only [resA] at hr
    split at hr
    · rename_i ti p off us hti hb hus
      split at hr
      · rename_i cs hat
        split at hr
        · rename_i v hv
          simp only [Option.some.injEq] at hr
          subst hr
          obtain ⟨cvs, h1, h2⟩ := res_list T h rs us hus
          have hx := h.tm b
          rw [hb] at hx
          simp only [CV] at hx
          obtain ⟨hD, g, hg, hx⟩ := hx
          have hi := h.it p hD
          rw [hat] at hi
          obtain ⟨b', l, te, k1, k2, k3, k4⟩ := hi
          rw [k1] at hg
          simp at hg
          subst hg
          obtain ⟨cv, hcv, _, hload⟩ := part_at (T.ti t ti hti) k3 hv
          have hl := hload c.w ⟨b', 0, none⟩ (fun j u hj => by
            rw [add_plain, Nat.zero_add, cell_of_row c.w b' j l.toArray te (0, 0) k2]
            simpa using hj)
          rw [add_plain, Nat.zero_add] at hl
          refine ⟨cv :: cvs, ⟨hcv, h1⟩, ?_⟩
          rw [List.mapM_cons]
          simp only [resOne, hx, asAddr, Sem.run_bind, Sem.run_pure, Result.andThen_ok, hl, h2]
        · cases hr
      · cases hr
    · cases hr

theorem res_run (T : TabOk P C.tt C.eqt) (h : ROk E st a c) {fn : Func} {vs : List AV} (hr : resA C st fn.results.toList = some vs) : ∃ cv, CV c (oneOrTup vs) cv ∧ (results fn a.tmps).run P c.w = .ok cv c.w := by
  obtain ⟨cvs, h1, h2⟩ := res_list T h _ _ hr
  refine ⟨if hh : cvs.toArray.size = 1 then cvs.toArray[0] else .tuple cvs.toArray, ?_, ?_⟩
  · cases vs with
    | nil =>
      cases cvs with
      | nil => simp only [oneOrTup, CV]; exact ⟨[], rfl, trivial⟩
      | cons _ _ => exact h1.elim
    | cons v vs =>
      cases cvs with
      | nil => exact h1.elim
      | cons x cvs =>
        cases vs with
        | nil =>
          cases cvs with
          | nil => exact h1.1
          | cons _ _ => exact h1.2.elim
        | cons v2 vs =>
          cases cvs with
          | nil => exact h1.2.elim
          | cons x2 cvs =>
            rw [dif_neg (by simp)]
            simp only [oneOrTup, CV]
            exact ⟨_, rfl, h1⟩
  · have he : results fn a.tmps = (do let vs ← fn.results.mapM (resOne a.tmps); pure (if h : vs.size = 1 then vs[0] else .tuple vs)) := by
      unfold results
      congr 1
    rw [he, Array.mapM_eq_mapM_toList, map_eq_pure_bind]
    simp only [Sem.run_bind, Sem.run_pure, h2, Result.andThen_ok]

/-! ### What comes out -/

theorem eqiL_get {c : Ctx} : ∀ {l m : List Itm} {ps : List Prop}, eqiL l m = some ps → (∀ p ∈ ps, p) → l.length = m.length ∧ ∀ (i : Nat) (u : Itm), m[i]? = some u → ∃ t, l[i]? = some t ∧ ∀ p, IOk c p t → IOk c p u
  | [], [], _, _, _ => ⟨rfl, fun i u h => by simp at h⟩
  | [], _ :: _, _, h, _ => by simp [eqiL] at h
  | _ :: _, [], _, h, _ => by simp [eqiL] at h
  | x :: l, y :: m, ps, h, hp => by
    simp only [eqiL] at h
    split at h
    · rename_i p q hp1 hq1
      simp only [Option.some.injEq] at h
      subst h
      obtain ⟨h1, h2⟩ := eqiL_get (c := c) hq1 (fun r hr => hp r (by simp [hr]))
      refine ⟨by simp [h1], fun i u hu => ?_⟩
      cases i with
      | zero =>
        simp at hu
        subst hu
        exact ⟨x, rfl, fun p hi => eqi_ok hp1 (fun r hr => hp r (by simp [hr])) hi⟩
      | succ i => simpa using h2 i u (by simpa using hu)
    · cases h

/-- The last step: what the frame and memory hold at the end is what is said. -/
theorem done_ok {c0 : Ctx} {heap : List Itm} {cn : Con} {nt : Nat} (h0 : COk c0 heap) (h : ROk (envOf c0 nt) st a c) (hn : cn.mods.Nodup) (hm : ∀ m ∈ cn.mods, m < heap.length) (hg : ∀ m ∈ cn.mods, ∀ it, heap[m]? = some it → it.isGone = false)
    (hd : Hd c0 c ((List.range heap.length).filter (fun p => !isIn cn.mods p))) {v : AV} {cv : Value} (hv : CV c v cv) {nw : List Nat} (hnw : ∀ q ∈ nw, hasKey st.heap q = true) (h900 : heap.length ≤ 900) (hmil0 : ∀ q ∈ nw, q < 1000000) (hsg : (List.range heap.length ++ nw).Nodup)
    (hvp : ∀ q ∈ v.pos, q ∈ List.range heap.length ++ nw) (hip : ∀ m ∈ cn.mods ++ nw, ∀ q ∈ (st.at m).pos, q ∈ List.range heap.length ++ nw)
    {val : AV} {upd new : List Itm} (hc : Con.has val upd new cn) (hmet : metCon st (List.range heap.length ++ nw) v nw cn.mods val upd new) : Done c0 heap false cn (.returned cv) c.w := by
  obtain ⟨ps, hps, hall⟩ := conjO_all hmet
  split at hps
  · rename_i p1 p2 p3 e1 e2 e3
    simp only [Option.some.injEq] at hps
    subst hps
    have hp1 : ∀ p ∈ p1, p := fun p hp => hall p (by simp [hp])
    have hp2 : ∀ p ∈ p2, p := fun p hp => hall p (by simp [hp])
    have hp3 : ∀ p ∈ p3, p := fun p hp => hall p (by simp [hp])
    clear hall hmet
    have hmilS : ∀ q ∈ List.range heap.length ++ nw, q < 1000000 := fun q hq => (List.mem_append.1 hq).elim (fun h => by have := List.mem_range.1 h; omega) (hmil0 q)
    generalize hsgd : List.range heap.length ++ nw = sg at *
    have hD0 : ∀ p, c0.D p ↔ p < heap.length := h0.D
    have hlow : ∀ p, p < heap.length → c.D p := fun p hp => hd.D p ((hD0 p).2 hp)
    have hmem : ∀ q ∈ sg, c.D q := fun q hq => by
      rw [← hsgd] at hq
      rcases List.mem_append.1 hq with hq | hq
      · exact hlow q (List.mem_range.1 hq)
      · exact (h.Dk q).2 (hnw q hq)
    have hsl : sg.length = heap.length + nw.length := by rw [← hsgd]; simp
    have hget : ∀ i, i < heap.length → sg.getD i 0 = i := fun i hi => by
      rw [← hsgd]
      simp [List.getD, List.getElem?_append_left, hi]
    have hgetn : ∀ i q, nw[i]? = some q → sg.getD (heap.length + i) 0 = q := fun i q hq => by
      rw [← hsgd]
      simp [List.getD, List.getElem?_append_right, hq]
    have hgetm : ∀ i, i < sg.length → sg.getD i 0 ∈ sg := fun i hi => by simp [List.getD, hi]
    have hinj : ∀ i j, i < sg.length → j < sg.length → i ≠ j → sg.getD i 0 ≠ sg.getD j 0 := fun i j hi hj hne e => hne (by rw [← indexIn_get hsg hi, ← indexIn_get hsg hj, e])
    have hnew : ∀ i, heap.length ≤ i → i < sg.length → ¬ c0.D (sg.getD i 0) := fun i h1 h2 hD => by
      have h3 := (hD0 _).1 hD
      have := hget _ h3
      exact hinj (sg.getD i 0) i (by omega) h2 (by omega) this
    have hren : Ren (c.only (· ∈ sg)) (c.inner sg c.Im) (indexIn sg) := ren_inner fun _ h => h
    have hlu := (eqiL_get (c := c.inner sg c.Im) e2 hp2)
    have hln := (eqiL_get (c := c.inner sg c.Im) e3 hp3)
    have hul : upd.length = cn.mods.length := by rw [← hlu.1]; simp
    have hnl : new.length = nw.length := by rw [← hln.1]; simp
    have hbk : ∀ p b, p < 1000000 → c.D p → c.F p b → c0.w.heap.size ≤ b ∨ (c0.D p ∧ c0.F p b) := fun p b hlt hp hF => by
      have := (h.lt p b hp hF).2
      rwa [org_lt hlt] at this
    have hmil : ∀ i, i < sg.length → sg.getD i 0 < 1000000 := fun i hi => hmilS _ (hgetm i hi)
    have hidx : ∀ i, i < sg.length → indexIn sg (sg.getD i 0) = i := fun i hi => indexIn_get hsg hi
    have hitem : ∀ i, i < sg.length → sg.getD i 0 ∈ cn.mods ++ nw → IOk (c.inner sg c.Im) i ((st.at (sg.getD i 0)).ren (indexIn sg)) := fun i hi hin => by
      have := IOk.ren hren (p := sg.getD i 0) (hgetm i hi) (IOk.only (D := (· ∈ sg)) (hip _ hin) (h.it _ (hmem _ (hgetm i hi))))
      rwa [hidx i hi] at this
    have hlk : ∀ p, p < heap.length → p ∉ cn.mods → p ∈ (List.range heap.length).filter (fun p => !isIn cn.mods p) := fun p h1 h2 => by
      rw [List.mem_filter, List.mem_range]
      refine ⟨h1, ?_⟩
      cases hi : isIn cn.mods p with
      | false => rfl
      | true => exact absurd (isIn_iff.1 hi) h2
    refine ⟨val, upd, new, cv, c.inner sg c.Im, hc, rfl, rfl, hul, ⟨fun p => ?_, ⟨fun p hp => ?_, fun p hp hnr => ?_, fun p hp hnk b => ?_, fun b hb => (hd.im b hb).1, fun b hb => (hd.im b hb).2, fun p b hp hnk hF => ?_, fun p hp => ?_⟩,
      fun p it hp => ?_, fun i it hi => ?_, fun p b hp hD hF => ?_, fun p b h1 h2 hF => ?_, fun p q b hp hq hne hF hG => ?_, fun p b hp hF => ?_, fun b hb => ⟨(h.im b hb).1, ?_⟩, fun b p hb hp hF => ?_, ?_⟩, ?_⟩
    · show p < sg.length ↔ _
      rw [hD0, hsl, hnl]; omega
    · have := (hD0 p).1 hp
      show p < sg.length
      omega
    · have hlt := (hD0 p).1 hp
      show c.ρ (sg.getD p 0) = _
      rw [hget p hlt]
      by_cases hpm : p ∈ cn.mods
      · rcases hd.s p hp with ⟨A, n, cp, hsl'⟩ | h1
        · exfalso
          apply hnr
          show p ∈ relOf cn.mods heap
          simp only [relOf, List.mem_filter]
          refine ⟨hpm, ?_⟩
          have hi := h0.it p heap[p] (List.getElem?_eq_getElem hlt)
          have hgo := hg p hpm heap[p] (List.getElem?_eq_getElem hlt)
          rw [List.getElem?_eq_getElem hlt]
          cases hit : heap[p] with
          | gone => rw [hit] at hgo; cases hgo
          | arr t e xs => rfl
          | cells vs =>
            rw [hit] at hi
            obtain ⟨b, l, t, k1, _⟩ := hi
            rw [hsl'] at k1; cases k1
          | mapo k v E =>
            rw [hit] at hi
            obtain ⟨b, es, clock, k1, _⟩ := hi
            rw [hsl'] at k1; cases k1
          | iter m k v l n' =>
            rw [hit] at hi
            obtain ⟨b, mb, seen, es, clock, k1, _⟩ := hi
            rw [hsl'] at k1; cases k1
          | pool q H P hs =>
            rw [hit] at hi
            have k1 := hi.1
            rw [hsl'] at k1; cases k1
          | apool q t e P =>
            rw [hit] at hi
            have k1 := hi.1
            rw [hsl'] at k1; cases k1
        · exact h1
      · exact hd.r p (hlk p hlt hpm) hp
    · have hlt := (hD0 p).1 hp
      show c.F (sg.getD p 0) b ↔ _
      rw [hget p hlt]
      exact hd.F p b (hlk p hlt hnk) hp
    · exact hd.pl p b (hlk p ((hD0 p).1 hp) hnk) hp hF
    · simp only [cond_false, relOf, List.mem_filter] at hp
      refine ⟨hp.1, fun hD => ?_⟩
      have hlt := (hD0 p).1 hD
      have hi := h0.it p heap[p] (List.getElem?_eq_getElem hlt)
      have ha := hp.2
      rw [List.getElem?_eq_getElem hlt] at ha
      cases hit : heap[p] with
      | arr t e xs =>
        rw [hit] at hi
        obtain ⟨A, cap, k1, _⟩ := arr_shape hi
        exact ⟨A, _, cap, k1⟩
      | _ => rw [hit] at ha; cases ha
    · obtain ⟨i, hi⟩ := List.getElem?_of_mem hp
      rw [List.getElem?_zip_eq_some] at hi
      obtain ⟨u, hu, himp⟩ := hlu.2 i it hi.2
      rw [List.getElem?_map, hi.1] at hu
      simp only [Option.map_some, Option.some.injEq] at hu
      have hpm := List.mem_of_getElem? hi.1
      have hlt := hm p hpm
      refine himp p ?_
      rw [← hu]
      have := hitem p (by omega) (by rw [hget p hlt]; exact List.mem_append_left _ hpm)
      rwa [hget p hlt] at this
    · obtain ⟨u, hu, himp⟩ := hln.2 i it hi
      rw [List.getElem?_map] at hu
      obtain ⟨q, hq, hu⟩ := Option.map_eq_some_iff.1 hu
      have hiq : i < nw.length := (List.getElem?_eq_some_iff.1 hq).1
      have hgq := hgetn i q hq
      refine himp _ ?_
      rw [← hu]
      have := hitem (heap.length + i) (by omega) (by rw [hgq]; exact List.mem_append_right _ (List.mem_of_getElem? hq))
      rwa [hgq] at this
    · have hlt := hm p hp
      have hF : c.F (sg.getD p 0) b := hF
      rw [hget p hlt] at hF
      exact (hbk p b (by omega) (hlow p hlt) hF).symm.imp (fun h => h.2) id
    · have hlt : p < sg.length := by rw [hsl, ← hnl]; exact h2
      rcases hbk _ b (hmil p hlt) (hmem _ (hgetm p hlt)) hF with h3 | h3
      · exact h3
      · exact absurd h3.1 (hnew p h1 hlt)
    · have lt : ∀ {p}, (p ∈ cn.mods ∨ (heap.length ≤ p ∧ p < heap.length + new.length)) → p < sg.length := fun {p} hp => by
        rcases hp with hp | hp
        · have := hm p hp; omega
        · omega
      exact h.dj _ _ b (hmem _ (hgetm p (lt hp))) (hmem _ (hgetm q (lt hq))) (hinj p q (lt hp) (lt hq) hne) hF hG
    · exact (h.lt _ b (hmem _ (hgetm p hp)) hF).1
    · exact h.im1 b hb
    · have hlt : p < sg.length := by
        rcases hp with hp | hp
        · have := hm p hp; omega
        · omega
      exact (h.im b hb).2 _ (hmem _ (hgetm p hlt)) hF
    · refine ⟨h.fr.os, h.fr.tape, h.fr.output, h.fr.size, fun b hb hno => ?_⟩
      by_cases hF : ∃ p, c0.D p ∧ c0.F p b
      · obtain ⟨p, hp, hF⟩ := hF
        by_cases hpm : p ∈ cn.mods
        · exact absurd ⟨p, hpm, hp, hF⟩ hno
        · exact hd.pl p b (hlk p ((hD0 p).1 hp) hpm) hp hF
      · exact h.fr.block b hb hF
    · exact eqv_cv _ _ _ _ e1 hp1 (CV.ren hren v cv (CV.only v cv hvp hv))
  · cases hps

theorem postC_has {sg : List Nat} {v : AV} {nw : List Nat} : ∀ {cn : Con}, cn.fair = true → postC st sg v nw cn → ∃ val upd new, Con.has val upd new cn ∧ metCon st sg v nw cn.mods val upd new
  | .det p m v' u n, _, h => ⟨_, _, _, ⟨rfl, rfl, rfl⟩, h⟩
  | .any p m T post v' u n, _, ⟨r, hr, h⟩ => ⟨_, _, _, ⟨r, hr.out, rfl, rfl, rfl⟩, h⟩
  | .or a b, hf, h => by
    simp only [Con.fair, Bool.and_eq_true] at hf
    rcases h with h | h
    · obtain ⟨val, upd, new, h1, h2⟩ := postC_has hf.1.1 h
      exact ⟨val, upd, new, .inl h1, h2⟩
    · obtain ⟨val, upd, new, h1, h2⟩ := postC_has hf.1.2 h
      exact ⟨val, upd, new, .inr h1, by rw [← natsEq_iff hf.2] at h2; exact h2⟩

theorem fn_ok (T : TabOk P C.tt C.eqt) (S : ∀ f s, C.sp f = some s → FnOk P f s) (hmx : P.follows .mixedOrders = true) {f : FuncId} {fn : Func} {code : Code} {s : Spc} {A : s.G → Ann} (hf : P.funcs[f]? = some fn) (hb : fn.body = some code)
    (hnt : C.nt = fn.ntmps) (henter : ∀ args w, (callFunc f args).run P w = .ok (.enter f args) w) (hst : s.still = false) (hvc : vcF C code fn.results.toList s A) : FnOk P f s := by
  refine ⟨henter, fun g c vals hpre h0 hv => ?_⟩
  rw [hst]
  have hg := hvc g
  cases hchk : (!(s.con g).mods.all (fun m => Nat.blt m (s.heap g).length && !(((s.heap g)[m]?).getD .gone).isGone) || !nodupB (s.con g).mods || !(s.con g).fair || !Nat.ble (s.heap g).length 900) with
  | true => rw [hchk] at hg; exact hg.elim
  | false =>
    rw [hchk] at hg
    simp only [cond_false] at hg
    simp only [Bool.or_eq_false_iff, Bool.not_eq_false', List.all_eq_true, Bool.and_eq_true, Bool.not_eq_true'] at hchk
    obtain ⟨⟨⟨hm, hnd⟩, hfair⟩, h900⟩ := hchk
    have h900 := Nat.le_of_ble_eq_true h900
    have hmlt : ∀ m ∈ (s.con g).mods, m < (s.heap g).length := fun m hmm => by
      have := (hm m hmm).1
      rwa [Nat.blt_eq] at this
    have hmg : ∀ m ∈ (s.con g).mods, ∀ it, (s.heap g)[m]? = some it → it.isGone = false := fun m hmm it hit => by
      have := (hm m hmm).2
      rwa [hit] at this
    have hg := hypAll_iff hg (fun q hq => by
      rcases List.mem_append.1 hq with hq | hq
      · exact cvl_facts _ _ hv q hq
      · obtain ⟨it, hit, hq⟩ := List.mem_flatMap.1 hq
        obtain ⟨i, hi⟩ := List.getElem?_of_mem hit
        exact iok_facts (h0.it i it hi) q hq)
    have hg := hypAll_iff hg hpre
    have hst := start_ok (mods := (s.con g).mods) (nt := C.nt) h0 (fun p hp => by have := (h0.D p).1 hp; omega) hv
    refine calls_of_wp hf hb ?_
    rw [← hnt]
    refine code_ok (A := A g) T S (E := envOf c C.nt) rfl (fun p b hp hF => by have := (h0.D p).1 hF.1; omega) hmx code _ _ c _ (bodyPost P fn (Done c (s.heap g) false (s.con g))) hst (start_lock _ _ _) hg ⟨fun e st' a' c' r1 r2 r3 r4 r5 => ?_, fun ch a' w' hp => ?_⟩
    · have fin0 : ghostA (A g).fin st' (fun st' => postA C fn.results.toList (s.heap g).length (s.con g) st') → a'.defers = [] ∧ ∃ v, (results fn a'.tmps).run P c'.w = .ok v c'.w ∧ Done c (s.heap g) false (s.con g) (.returned v) c'.w := fun hp => by
        obtain ⟨st', c', q0, r1, r2, hp, _, r6⟩ := ghost_ok (fun p b hp hF => by have := (h0.D p).1 hF.1; omega) (A g).fin r1 r2 hp
        have r5 := r5.trans (r4.lockl ▸ r6)
        rw [← q0]
        unfold postA at hp
        split at hp
        · exact hp.elim
        · rename_i vs hvs
          obtain ⟨cv, hcv, hrun⟩ := res_run T r1 hvs
          refine ⟨r1.df, cv, hrun, ?_⟩
          simp only at hp
          generalize hnw : newOf st' (s.heap g).length (oneOrTup vs) (s.con g).mods = nw at hp
          cases hb : nw.all (hasKey st'.heap) && nw.all (fun q => Nat.blt q 1000000) && nodupB (List.range (s.heap g).length ++ nw) && (oneOrTup vs).pos.all (isIn (List.range (s.heap g).length ++ nw)) && ((s.con g).mods ++ nw).all (fun m => (st'.at m).pos.all (isIn (List.range (s.heap g).length ++ nw))) with
          | false => rw [hb] at hp; exact hp.elim
          | true =>
            rw [hb] at hp
            simp only [cond_true] at hp
            simp only [Bool.and_eq_true, List.all_eq_true] at hb
            obtain ⟨⟨⟨⟨b1, bm⟩, b2⟩, b3⟩, b4⟩ := hb
            obtain ⟨val, upd, new, hc, hmet⟩ := postC_has hfair hp
            exact done_ok h0 r1 (nodupB_iff hnd) hmlt hmg r5 hcv (fun q hq => b1 q hq) h900 (fun q hq => by have := bm q hq; rwa [Nat.blt_eq] at this) (nodupB_iff b2) (fun q hq => isIn_iff.1 (b3 q hq)) (fun m hm' q hq => isIn_iff.1 (b4 m hm' q hq)) hc hmet
      cases e with
      | normal => exact fin0 r3
      | ret => exact fin0 r3
      | exit id => exact r3.elim
    · obtain ⟨_, val, upd, new, cv, c', _, he, _⟩ := hp
      cases he
end
end Go.Proofs.Ytljimnhijpcjaaa.VC
