/- The operations on maps, one by one. Plain lemmas; no conditions but those that each names. -/
import Derived.Test.YtljimnhijpcjaaaVk
set_option linter.unusedVariables false
set_option linter.unusedSimpArgs false
set_option linter.unusedSectionVars false
namespace Go.Proofs.Ytljimnhijpcjaaa.VC
open Go

theorem MOk.set {k v : Ty} {E : List (k.den × v.den)} {key : k.den} {x : v.den} (h : MOk k v E) (hk : k.ok key) (hx : v.ok x) (hl : E.length < maxLen) : MOk k v (mset E key x) := by
  obtain ⟨h1, h2, h3⟩ := h
  cases hj : kidx E key with
  | none =>
    obtain ⟨_, hs, _, hne⟩ := kidx_none hj
    rw [hs]
    refine ⟨by rw [List.length_append]; simp; omega, List.pairwise_append.2 ⟨h2, by simp, fun a ha b hb => by simp at hb; subst hb; exact hne a ha⟩, fun e he => ?_⟩
    rcases List.mem_append.1 he with he | he
    · exact h3 e he
    · simp at he; subst he; exact ⟨hk, hx⟩
  | some j =>
    obtain ⟨e, he, hb, _, hs, _⟩ := kidx_some hj
    rw [hs]
    refine ⟨by rw [List.length_set]; exact h1, ?_, fun e' he' => ?_⟩
    · have hm : ∀ (F : List (k.den × v.den)) (j : Nat), F[j]? = some e → F.Pairwise (fun a b => k.beq a.1 b.1 = false) → (F.set j (e.1, x)).Pairwise (fun a b => k.beq a.1 b.1 = false) := by
        intro F
        induction F with
        | nil => intro j h _; simp at h
        | cons y F ih =>
          intro j hj hp
          rw [List.pairwise_cons] at hp
          cases j with
          | zero =>
            simp at hj; subst hj
            simp only [List.set_cons_zero, List.pairwise_cons]
            exact ⟨fun b hb => hp.1 b hb, hp.2⟩
          | succ j =>
            simp at hj
            simp only [List.set_cons_succ, List.pairwise_cons]
            refine ⟨fun b hb => ?_, ih j hj hp.2⟩
            rcases List.mem_or_eq_of_mem_set hb with hb | rfl
            · exact hp.1 b hb
            · exact hp.1 e (List.mem_of_getElem? hj)
      exact hm E j he h2
    · rcases List.mem_or_eq_of_mem_set he' with h4 | rfl
      · exact h3 e' h4
      · exact ⟨(h3 e (List.mem_of_getElem? he)).1, hx⟩
theorem MOk.del {k v : Ty} {E : List (k.den × v.den)} {key : k.den} (h : MOk k v E) : MOk k v (mdel E key) := by
  obtain ⟨h1, h2, h3⟩ := h
  have hsub : (mdel E key).Sublist E := by
    cases hj : kidx E key with
    | none => rw [(kidx_none hj).2.2.1]; exact List.Sublist.refl _
    | some j =>
      obtain ⟨e, _, _, _, _, hd⟩ := kidx_some hj
      rw [hd]; exact List.eraseIdx_sublist ..
  exact ⟨Nat.le_trans hsub.length_le h1, h2.sublist hsub, fun e he => h3 e (hsub.subset he)⟩

section
variable {P : Program} {tt : TypeId → Option TI} {eqt : TypeId → Option (List EF)} {sp : FuncId → Option Spc} {E : Env} {st : St} {a : Act} {c : Ctx} {hold : List Nat} {K : St → Prop} {Q : Exit → Act → World → Prop} {o : Oper}

theorem Ty.V_ok {c : Ctx} {t : Ty} {d : t.den} {v : Value} (h : t.V c d v) : t.ok d := Ty.K_ok t d _ (Ty.V_cells h)

/-- The map at a place, as it lies in memory. -/
structure MapAt (c : Ctx) (p : Nat) (k v : Ty) (E : List (k.den × v.den)) (b : Nat) (es : Array MapEntry) (clock : Nat) : Prop where
  ρ : c.ρ p = .map (some b)
  hp : c.w.heap[b]? = some (.map es clock)
  mm : MapK c k v E es.toList
  bo : BornOk es.toList clock
  ok : MOk k v E
  F : ∀ x, c.F p x ↔ x = b

theorem map_at (h : ROk E st a c) {p : Nat} {k v : Ty} {M : List (k.den × v.den)} (hD : c.D p) (hat : st.at p = .mapo k v M) : ∃ b es clock, MapAt c p k v M b es clock := by
  have hi := h.it p hD
  rw [hat] at hi
  obtain ⟨b, es, clock, h1, h2, h3, h4, h5, h6⟩ := hi
  exact ⟨b, es, clock, h1, h2, h3, h4, h5, h6⟩

def World.setMap (w : World) (b : Nat) (es : Array MapEntry) (clock : Nat) : World := { w with heap := w.heap.setIfInBounds b (.map es clock) }
theorem setMap_same {w : World} {b : Nat} {ob : Obj} {es : Array MapEntry} {clock : Nat} (h : w.heap[b]? = some ob) : (World.setMap w b es clock).heap[b]? = some (.map es clock) := by
  have hb := (Array.getElem?_eq_some_iff.1 h).1
  simp [World.setMap, hb]
theorem setMap_else {w : World} {b x : Nat} {es : Array MapEntry} {clock : Nat} (h : x ≠ b) : (World.setMap w b es clock).heap[x]? = w.heap[x]? := by
  simp only [World.setMap]
  rw [Array.getElem?_setIfInBounds_ne (fun e => h e.symm)]
theorem run_setMap {w : World} {b : Nat} {es es' : Array MapEntry} {clock clock' : Nat} (h : w.heap[b]? = some (.map es clock)) : (setObj b (.map es' clock')).run P w = .ok () (World.setMap w b es' clock') := by
  simp [setObj, Sem.run, h, World.setMap]
theorem run_getMap {w : World} {b : Nat} {es : Array MapEntry} {clock : Nat} (h : w.heap[b]? = some (.map es clock)) : (getObj b).run P w = .ok (.map es clock) w := by
  simp [getObj, Sem.run, h]

theorem array_modify_toList (es : Array MapEntry) (j : Nat) (f : MapEntry → MapEntry) (x : MapEntry) (h : es.toList[j]? = some x) : (es.modify j f).toList = es.toList.set j (f x) := by
  apply List.ext_getElem?
  intro n
  rw [Array.getElem?_toList, Array.getElem?_modify, List.getElem?_set]
  have hl := (List.getElem?_eq_some_iff.1 h).1
  by_cases hn : j = n
  · subst hn
    rw [if_pos rfl, if_pos rfl, if_pos hl]
    rw [Array.getElem?_toList] at h
    simp [h]
  · rw [if_neg hn, if_neg hn, Array.getElem?_toList]

theorem BornOk.set {es : List MapEntry} {clock j : Nat} {x y : MapEntry} (h : BornOk es clock) (hx : es[j]? = some x) (hy : y.born = x.born) : BornOk (es.set j y) clock := by
  refine ⟨?_, fun z hz => ?_⟩
  · have : (es.set j y).map (·.born) = es.map (·.born) := by
      rw [List.map_set]
      apply List.ext_getElem?
      intro n
      rw [List.getElem?_set]
      by_cases hn : j = n
      · subst hn
        have hl := (List.getElem?_eq_some_iff.1 hx).1
        rw [if_pos rfl, if_pos (by simpa using hl), List.getElem?_map, hx, hy]; rfl
      · rw [if_neg hn]
    rw [this]; exact h.1
  · rcases List.mem_or_eq_of_mem_set hz with h1 | rfl
    · exact h.2 z h1
    · rw [hy]; exact h.2 x (List.mem_of_getElem? hx)

/-- m[key] = x, in memory. -/
theorem mapUpdate_run (T : TabOk P tt eqt) (h : ROk E st a c) {t kt vt : TypeId} {tk : TI} (hu : P.underlying t = some (.map kt vt)) (htk : tt kt = some tk) {p : Nat} {k v : Ty} {M : List (k.den × v.den)} {b : Nat} {es : Array MapEntry} {clock : Nat} (hM : MapAt c p k v M b es clock) (hD : c.D p)
    (hky : keyIs tk k = true) {key : k.den} {x : v.den} {kv xv : Value} (hkv : k.V c key kv) (hxv : v.V c x xv) (hl : M.length < maxLen) :
    ∃ es' clock', (Instr.mapUpdate t (.map (some b)) kv xv).run P c.w = .ok () (World.setMap c.w b es' clock') ∧ MapAt (c.at (World.setMap c.w b es' clock')) p k v (mset M key x) b es' clock' := by
  simp only [keyIs, Bool.and_eq_true, decide_eq_true_eq] at hky
  have KO := keyOk (P := P) (T.ti kt tk htk) hky.2 hky.1 (fun q hq => (T.ti kt tk htk).tyi q (by rw [hky.2, hq]))
  have hcheck := KO.check c c.w false key kv hkv
  obtain ⟨oo, ho, ho1, ho2⟩ := KO.find c c.w v key kv M es.toList hkv hM.mm
  have hother : ∀ es' clock', ∀ b', b' < c.w.heap.size → ¬ c.F p b' → (World.setMap c.w b es' clock').heap[b']? = c.w.heap[b']? := fun es' clock' b' _ hn => setMap_else (fun e => hn ((hM.F b').2 e))
  cases hj : kidx M key with
  | none =>
    rw [hj] at ho1
    have : oo = none := by cases oo with | none => rfl | some z => simp at ho1
    subst this
    obtain ⟨_, hs, _, _⟩ := kidx_none hj
    refine ⟨es.push { key := kv, val := xv, born := clock }, clock + 1, ?_, ?_⟩
    · simp only [Instr.mapUpdate, Sem.run_bind, run_underlying hu, Result.andThen_ok, run_getMap hM.hp, hcheck, ho, run_setMap hM.hp]
    · have hX := at_ext h hD (hother (es.push { key := kv, val := xv, born := clock }) (clock + 1))
      refine ⟨hM.ρ, setMap_same hM.hp, ?_, ?_, MOk.set hM.ok (Ty.V_ok hkv) (Ty.V_ok hxv) hl, hM.F⟩
      · rw [hs, Array.toList_push]
        exact MapK.append (MapK.ext hX hM.mm) ⟨Ty.V_ext hX hkv, Ty.V_ext hX hxv, trivial⟩
      · rw [Array.toList_push]
        refine ⟨?_, fun z hz => ?_⟩
        · rw [List.map_append]
          refine List.nodup_append.2 ⟨hM.bo.1, by simp, fun z hz y hy => ?_⟩
          simp at hy
          subst hy
          obtain ⟨u, hu1, rfl⟩ := List.mem_map.1 hz
          have := hM.bo.2 u hu1
          omega
        · rcases List.mem_append.1 hz with hz | hz
          · have := hM.bo.2 z hz; omega
          · simp at hz; subst hz; simp
  | some j =>
    rw [hj] at ho1
    cases oo with
    | none => simp at ho1
    | some z =>
      simp at ho1
      obtain ⟨z1, z2⟩ := z
      simp only at ho1
      subst ho1
      obtain ⟨e, he, hbeq, _, hs, _⟩ := kidx_some hj
      obtain ⟨y, hy, hy1, hy2⟩ := hM.mm.at he
      obtain ⟨hkeq, hsame⟩ := KO.bits c e.1 key y.key kv hy1 hkv hbeq
      have hkey : ((es[z1]?).map (·.key)).getD kv = y.key := by rw [Array.getElem?_toList] at hy; simp [hy]
      refine ⟨es.modify z1 fun e => { e with key := kv, val := xv }, clock, ?_, ?_⟩
      · simp only [Instr.mapUpdate, Sem.run_bind, run_underlying hu, Result.andThen_ok, run_getMap hM.hp, hcheck, ho, hkey, Instr.keyThatStays, hsame, if_true, Sem.run_pure, run_setMap hM.hp]
      · have hX := at_ext h hD (hother (es.modify z1 fun e => { e with key := kv, val := xv }) clock)
        have hmod := array_modify_toList es z1 (fun e => { e with key := kv, val := xv }) y hy
        refine ⟨hM.ρ, setMap_same hM.hp, ?_, ?_, MOk.set hM.ok (Ty.V_ok hkv) (Ty.V_ok hxv) hl, hM.F⟩
        · rw [hs, hmod]
          refine MapK.set ?_ (Ty.V_ext hX hxv) z1 (MapK.ext hX hM.mm)
          have := Ty.V_ext hX hy1
          rwa [hkeq] at this
        · rw [hmod]; exact hM.bo.set hy rfl

theorem mapAt_iok {c : Ctx} {p : Nat} {k v : Ty} {M : List (k.den × v.den)} {b : Nat} {es : Array MapEntry} {clock : Nat} (h : MapAt c p k v M b es clock) : IOk c p (.mapo k v M) := ⟨b, es, clock, h.ρ, h.hp, h.mm, h.bo, h.ok, h.F⟩

theorem update_loud (T : TabOk P tt eqt) (h : ROk E st a c) (hlk : LockOk st) {t : TypeId} {m x y : Operand} (hop : o.op = .mapUpdate t m x y) {r : Res} (hr : opA tt eqt sp st o = some r) (hpre : ∀ q ∈ r.pre, q) (hK : goAlts E.nt st hold r.rel o.dst K r.alts) : o.wp P a c.w (Post E st hold c o.dst K) Q := by
  simp only [opA, hop] at hr
  obtain ⟨ti, hti, hr⟩ := Option.bind_eq_some_iff.1 hr
  split at hr
  · rename_i kt vt hkn
    have hu := (T.ti t ti hti).map hkn
    obtain ⟨tk, htk, hr⟩ := Option.bind_eq_some_iff.1 hr
    have hm := eval_cv h m
    have hx := eval_cv h x
    have hy := eval_cv h y
    unfold updateA at hr
    split at hr
    · rename_i p he
      split at hr
      · rename_i k v M hat
        cases hky : keyIs tk k with
        | false => simp [hky] at hr
        | true =>
          simp only [hky, Bool.not_true, cond_false] at hr
          split at hr
          · rename_i key x' hkey hx'
            have hr := Option.some.inj hr
            subst hr
            rw [he] at hm
            simp only [CV] at hm
            obtain ⟨hD, hv, _⟩ := hm
            obtain ⟨b, es, clock, hM⟩ := map_at h hD hat
            have hkV := Ty.ofAV_cv hkey hx
            have hxV := Ty.ofAV_cv hx' hy
            obtain ⟨es', clock', hrun, hM'⟩ := mapUpdate_run T h hu htk hM hD hky hkV hxV (hpre _ (by simp))
            refine upd_loud h hlk hK (cv := undef) (nx := .skip) (w' := World.setMap c.w b es' clock') (by simp only [execOp, hop, Sem.run_bind]; rw [hv.trans hM.ρ, hrun]; rfl) (.inr ⟨rfl, rfl⟩) hD (by simp [World.setMap]) rfl rfl rfl (fun b' _ hn => setMap_else (fun e => hn ((hM.F b').2 e))) (mapAt_iok hM') (by simp [CV])
          · cases hr
      · cases hr
    · cases hr
  · cases hr

theorem delete_loud (T : TabOk P tt eqt) (h : ROk E st a c) (hlk : LockOk st) {ts : Array TypeId} {args : Array Operand} (hop : o.op = .call ⟨.builtin .delete, args, ts⟩) {r : Res} (hr : opA tt eqt sp st o = some r) (hpre : ∀ q ∈ r.pre, q) (hK : goAlts E.nt st hold r.rel o.dst K r.alts) : o.wp P a c.w (Post E st hold c o.dst K) Q := by
  simp only [opA, hop, builtA] at hr
  split at hr
  · rename_i t rest m key hts hargs
    obtain ⟨ti, hti, hr⟩ := Option.bind_eq_some_iff.1 hr
    have hm := eval_list h args.toList
    have hl : (args.toList.map a.eval) = (args.map a.eval).toList := by simp
    rw [hl, hargs] at hm
    obtain ⟨mv, kv, hvs, hm, hx⟩ := two_args hm
    split at hr
    · rename_i kt vt hkn
      have hu := (T.ti t ti hti).map hkn
      obtain ⟨tk, htk, hr⟩ := Option.bind_eq_some_iff.1 hr
      cases m with
      | map p =>
        simp only [deleteA] at hr
        split at hr
        · rename_i k v M hat
          cases hky : keyIs tk k with
          | false => simp [hky] at hr
          | true =>
            simp only [hky, Bool.not_true, cond_false] at hr
            split at hr
            · rename_i key' hkey
              have hr := Option.some.inj hr
              subst hr
              simp only [CV] at hm
              obtain ⟨hD, rfl, _⟩ := hm
              obtain ⟨b, es, clock, hM⟩ := map_at h hD hat
              have hkV := Ty.ofAV_cv hkey hx
              simp only [keyIs, Bool.and_eq_true, decide_eq_true_eq] at hky
              have KO := keyOk (P := P) (T.ti kt tk htk) hky.2 hky.1 (fun q hq => (T.ti kt tk htk).tyi q (by rw [hky.2, hq]))
              obtain ⟨oo, ho, ho1, ho2⟩ := KO.find c c.w v key' kv M es.toList hkV hM.mm
              have hother : ∀ es' clock', ∀ b', b' < c.w.heap.size → ¬ c.F p b' → (World.setMap c.w b es' clock').heap[b']? = c.w.heap[b']? := fun es' clock' b' _ hn => setMap_else (fun e => hn ((hM.F b').2 e))
              have hts0 : ts[0]? = some t := by rw [← Array.getElem?_toList, hts]; rfl
              have hrun : ∃ es', (execOp a.eval o).run P c.w = .ok (.value (.tuple #[])) (World.setMap c.w b es' clock) ∧ MapAt (c.at (World.setMap c.w b es' clock)) p k v (mdel M key') b es' clock := by
                cases hj : kidx M key' with
                | none =>
                  rw [hj] at ho1
                  have : oo = none := by cases oo with | none => rfl | some z => simp at ho1
                  subst this
                  obtain ⟨_, _, hd, _⟩ := kidx_none hj
                  refine ⟨es, ?_, ?_⟩
                  · simp only [execOp, hop, resolve, invoke, builtin, Sem.run_bind, Sem.run_pure, Result.andThen_ok, hvs]
                    simp only [Builtin.delete_, hts0, hM.ρ]
                    simp only [Sem.run_bind, run_underlying hu, Result.andThen_ok, run_getMap hM.hp, KO.check c c.w _ key' kv hkV, ho, run_setMap hM.hp, Sem.run_pure, List.getElem?_toArray, List.getElem?_cons_zero, List.getElem?_cons_succ]
                  · have hX := at_ext h hD (hother es clock)
                    exact ⟨hM.ρ, setMap_same hM.hp, by rw [hd]; exact MapK.ext hX hM.mm, hM.bo, MOk.del hM.ok, hM.F⟩
                | some j =>
                  rw [hj] at ho1
                  cases oo with
                  | none => simp at ho1
                  | some z =>
                    simp at ho1
                    obtain ⟨z1, z2⟩ := z
                    simp only at ho1
                    subst ho1
                    obtain ⟨e, he, _, _, _, hd⟩ := kidx_some hj
                    obtain ⟨y, hy, _, _⟩ := hM.mm.at he
                    refine ⟨es.eraseIdxIfInBounds z1, ?_, ?_⟩
                    · simp only [execOp, hop, resolve, invoke, builtin, Sem.run_bind, Sem.run_pure, Result.andThen_ok, hvs]
                      simp only [Builtin.delete_, hts0, hM.ρ]
                      simp only [Sem.run_bind, run_underlying hu, Result.andThen_ok, run_getMap hM.hp, KO.check c c.w _ key' kv hkV, ho, run_setMap hM.hp, Sem.run_pure, List.getElem?_toArray, List.getElem?_cons_zero, List.getElem?_cons_succ]
                    · have hX := at_ext h hD (hother (es.eraseIdxIfInBounds z1) clock)
                      have her : (es.eraseIdxIfInBounds z1).toList = es.toList.eraseIdx z1 := by simp
                      refine ⟨hM.ρ, setMap_same hM.hp, by rw [hd, her]; exact MapK.erase z1 (MapK.ext hX hM.mm), ?_, MOk.del hM.ok, hM.F⟩
                      rw [her]
                      have hsub := List.eraseIdx_sublist es.toList z1
                      exact ⟨hM.bo.1.sublist (hsub.map _), fun z hz => hM.bo.2 z (hsub.subset hz)⟩
              obtain ⟨es', hrun, hM'⟩ := hrun
              exact upd_loud h hlk hK (cv := .tuple #[]) (nx := .value (.tuple #[])) hrun (.inl rfl) hD (by simp [World.setMap]) rfl rfl rfl (hother es' clock) (mapAt_iok hM') (by simp only [CV]; exact ⟨[], rfl, trivial⟩)
            · cases hr
        · cases hr
      | _ => simp [deleteA] at hr
    · cases hr
  · cases hr
end
end Go.Proofs.Ytljimnhijpcjaaa.VC
