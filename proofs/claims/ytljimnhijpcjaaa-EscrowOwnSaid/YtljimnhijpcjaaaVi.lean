/- The operations that do nothing to memory, all of them. Plain lemmas; no conditions but those that each names. -/
import Derived.Test.YtljimnhijpcjaaaVh
set_option linter.unusedVariables false
set_option linter.unusedSimpArgs false
set_option linter.unusedSectionVars false
namespace Go.Proofs.Ytljimnhijpcjaaa.VC
open Go

theorem Ty.K_zero {w : World} {Im : Nat → Prop} : ∀ (t : Ty), t.K w Im t.dflt t.zcells
  | .int k => ⟨inR_zero k, rfl⟩
  | .bool => rfl
  | .unit => rfl
  | .pair a b => ⟨_, _, rfl, Ty.K_zero a, Ty.K_zero b⟩
  | .slice e => ⟨none, 0, rfl, Nat.le_refl _, ⟨Nat.zero_le _, fun _ => rfl⟩, fun h => absurd h (by simp [Ty.dflt])⟩
  | .ref _ => rfl
  | .hdr _ _ => ⟨⟨Nat.le_refl _, Nat.zero_le _, fun _ => rfl⟩, rfl⟩

theorem TIok.zero_V {P : Program} {t : TypeId} {ti : TI} (T : TIok P t ti) {v : Ty} (hv : ti.ty = some v) (c : Ctx) : v.V c v.dflt ti.zero := by
  obtain ⟨h1, h2, h3⟩ := T.ty v hv
  have hz := T.za
  unfold Ty.V
  cases ha : v.agg with
  | true =>
    rw [if_pos rfl]
    rw [← h2, ha] at hz
    cases hzz : ti.zero <;> simp [hzz] at hz
    rename_i cs
    rw [hzz] at h3
    exact ⟨cs.toList, by simp, by rw [show cs.toList = v.zcells from h3]; exact Ty.K_zero v⟩
  | false =>
    rw [if_neg (by simp)]
    rw [← h2, ha] at hz
    have : ti.zero.cells.toList = [ti.zero] := by
      cases hzz : ti.zero <;> simp [hzz] at hz <;> rfl
    rw [← this, h3]
    exact Ty.K_zero v

section
variable {P : Program} {tt : TypeId → Option TI} {eqt : TypeId → Option (List EF)} {sp : FuncId → Option Spc} {E : Env} {st : St} {a : Act} {c : Ctx}

/-- A look's outcome. -/
theorem look_out {v : Ty} {d : v.den} {vv : Value} {ok : Bool} {b : Bool} {ba : AV} (hv : v.V c d vv) (hb : CV c ba (.bool b)) :
    CV c (bif ok then .tup [v.av d, ba] else v.av d) (if ok then .tuple #[vv, .bool b] else vv) := by
  cases ok with
  | true => simp only [cond_true, if_true, CV]; exact ⟨[vv, .bool b], rfl, Ty.av_cv v d vv hv, hb, trivial⟩
  | false => simpa using Ty.av_cv v d vv hv

theorem lookupA_at (T : TabOk P tt eqt) (h : ROk E st a c) {t kt vt : TypeId} {tk tv : TI} (hu : P.underlying t = some (.map kt vt)) (htk : tt kt = some tk) (htv : tt vt = some tv)
    {m key : AV} {mv kv : Value} {ok : Bool} {r : Res} (hr : lookupA st tk tv m key ok = some r) (hm : CV c m mv) (hk : CV c key kv) :
    ReadAt P c (m.inAt st) (do pure (Next.value (← Instr.lookup t mv kv ok))) r := by
  have Tk := T.ti kt tk htk
  have Tv := T.ti vt tv htv
  unfold lookupA at hr
  split at hr
  · rename_i k v hk1 hv1
    cases hky : k.keyed with
    | false => simp [hky] at hr
    | true =>
      simp only [hky, Bool.not_true, cond_false] at hr
      have KO := keyOk (P := P) Tk hk1 hky (fun q hq => Tk.tyi q (by rw [hk1, hq]))
      split at hr
      · cases hr
      · rename_i key' hkey
        have hkV := Ty.ofAV_cv hkey hk
        split at hr
        · simp only [CV] at hm
          subst hm
          obtain ⟨o, ho, ho1, ho2⟩ := KO.find c c.w v key' kv [] [] hkV trivial
          refine .qv hr (look_out (b := false) (Tv.zero_V hv1 c) (by simp [CV])) fun w' _ => run_v _ _ _ ?_
          obtain ⟨o, ho, ho1, ho2⟩ := KO.find c w' v key' kv [] [] hkV trivial
          have : o = none := by cases o with | none => rfl | some x => simp [kidx] at ho1
          subst this
          simp only [Instr.lookup, Sem.run_bind, run_underlying hu, Result.andThen_ok, Sem.run_pure, KO.check c w' _ _ _ hkV]
          simp only [show (#[] : Array MapEntry).toList = [] from rfl, ho, Result.andThen_ok, Sem.run_bind, Tv.runZero, Sem.run_pure]
        · rename_i p
          split at hr
          · rename_i k' v' E hat
            split at hr
            · rename_i hkv
              obtain ⟨rfl, rfl⟩ := hkv
              simp only [CV] at hm
              obtain ⟨hD, rfl, _⟩ := hm
              have hi := h.it p hD
              rw [hat] at hi
              obtain ⟨b, es, clock, h1, h2, h3, h4, h5, h6⟩ := hi
              have hw : ∀ w', Same c ((AV.map p).inAt st) w' → w'.heap[b]? = some (.map es clock) := fun w' hw' => (hw'.pl p b rfl hD ((h6 b).2 rfl)).trans h2
              rw [h1]
              cases hj : kidx E key' with
              | none =>
                obtain ⟨hg, _⟩ := kidx_none hj
                refine .qv hr (look_out (b := false) (vv := tv.zero) (by rw [hg]; exact Tv.zero_V hv1 c) (by simp [CV, hg])) fun w' hw' => run_v _ _ _ ?_
                obtain ⟨o, ho, ho1, ho2⟩ := KO.find c w' _ key' kv E es.toList hkV h3
                have : o = none := by cases o with | none => rfl | some x => rw [hj] at ho1; simp at ho1
                subst this
                simp only [Instr.lookup, Sem.run_bind, run_underlying hu, Result.andThen_ok, getObj, Sem.run, hw w' hw', Sem.run_pure, KO.check c w' _ _ _ hkV, ho, Tv.runZero]
              | some j =>
                obtain ⟨e, he, _, hg, _⟩ := kidx_some hj
                obtain ⟨x, hx, hx1, hx2⟩ := h3.at he
                refine .qv hr (look_out (b := true) (vv := x.val) (by rw [hg]; exact hx2) (by simp [CV, hg])) fun w' hw' => run_v _ _ _ ?_
                obtain ⟨o, ho, ho1, ho2⟩ := KO.find c w' _ key' kv E es.toList hkV h3
                rw [hj] at ho1
                cases o with
                | none => simp at ho1
                | some z =>
                  simp at ho1
                  obtain ⟨y, hy1, hy2⟩ := ho2 z rfl
                  rw [ho1, hx] at hy1
                  simp at hy1
                  subst hy1
                  obtain ⟨z1, z2⟩ := z
                  simp only at hy2
                  subst hy2
                  simp only [Instr.lookup, Sem.run_bind, run_underlying hu, Result.andThen_ok, getObj, Sem.run, hw w' hw', Sem.run_pure, KO.check c w' _ _ _ hkV, ho]
            · cases hr
          · cases hr
        · cases hr
  · cases hr

theorem fields_mapM (T : TabOk P tt eqt) (w : World) : ∀ (fs : List Field), (fs.all fun f => (tt f.type).isSome) = true →
    (fs.mapM fun f => (do pure (f.offset, ← sizeOf f.type) : Sem (Nat × Nat))).run P w = .ok (fs.map fun f => (f.offset, ((tt f.type).map TI.size).getD 0)) w
  | [], _ => by simp
  | f :: fs, h => by
    simp only [List.all_cons, Bool.and_eq_true] at h
    obtain ⟨ti, hti⟩ := Option.isSome_iff_exists.1 h.1
    simp only [List.mapM_cons, Sem.run_bind, (T.ti _ ti hti).runSize, Result.andThen_ok, Sem.run_pure, fields_mapM T w fs h.2, List.map_cons, hti, Option.map_some, Option.getD_some]

theorem build_at (T : TabOk P tt eqt) (h : ROk E st a c) {t : TypeId} {ti : TI} (hti : tt t = some ti) {fs : List (TypeId × Nat)} (hk : ti.kn = .struct fs) {ps : Array (Nat × Operand)} {cs : List AV}
    (hall : fs.all (fun f => (tt f.1).isSome) = true) (hf : fillA (fun i => (fs[i]?).bind fun f => (tt f.1).map fun fi => (f.2, fi.size)) (avOf ti.zero).cells (ps.toList.map fun x => (x.1, evalA st x.2)) = some cs) :
    ∃ cv, CV c (.agg cs) cv ∧ ∀ w, (Instr.build t (ps.map fun (i, x) => (i, a.eval x))).run P w = .ok cv w := by
  have Ti := T.ti t ti hti
  obtain ⟨fa, hu, hfl⟩ := Ti.struct hk
  have hz : CVL c (avOf ti.zero).cells ti.zero.cells.toList := by
    have hza := Ti.za
    rw [hk] at hza
    have h0 := avOf_cv c ti.zero
    cases hzz : ti.zero <;> simp [hzz, Kn.agg] at hza
    rename_i zc
    rw [hzz] at h0
    refine CV.cells h0 (by simp [avOf, avOfN])
  have hall' : (fa.toList.all fun f => (tt f.type).isSome) = true := by
    rw [← hfl] at hall
    simpa [List.all_map, Function.comp_def] using hall
  have hplace : ∀ i, ((fs[i]?).bind fun (f : TypeId × Nat) => (tt f.1).map fun fi => (f.2, fi.size)) = (fa.toList.map fun f => (f.offset, ((tt f.type).map TI.size).getD 0))[i]? := fun i => by
    rw [← hfl, List.getElem?_map, List.getElem?_map]
    cases hfi : fa.toList[i]? with
    | none => rfl
    | some f =>
      have hm : f ∈ fa.toList := List.mem_of_getElem? hfi
      obtain ⟨fi, hfi'⟩ := Option.isSome_iff_exists.1 (List.all_eq_true.1 hall' f hm)
      simp [hfi']
  have hps : CVL c ((ps.toList.map fun x => (x.1, evalA st x.2)).map (·.2)) ((ps.toList.map fun x => (x.1, a.eval x.2)).map (·.2)) := by
    simp only [List.map_map]
    generalize ps.toList = l
    induction l with
    | nil => trivial
    | cons x l ih => exact ⟨eval_cv h x.2, ih⟩
  obtain ⟨l', h1, h2⟩ := fill_at hplace _ (ps.toList.map fun x => (x.1, a.eval x.2)) _ cs ti.zero.cells.toList (by simp) hps hz hf
  refine ⟨.agg l'.toArray, by simp only [CV]; exact ⟨l', rfl, h2⟩, fun w => ?_⟩
  have hm := fields_mapM T w fa.toList hall'
  simp only [Instr.build, Sem.run_bind, Ti.runZero, Result.andThen_ok, run_underlying hu]
  have hm' : (fa.mapM fun f => (do pure (f.offset, ← sizeOf f.type) : Sem (Nat × Nat))).run P w = .ok (fa.toList.map fun f => (f.offset, ((tt f.type).map TI.size).getD 0)).toArray w := by
    obtain ⟨l⟩ := fa
    rw [List.mapM_toArray, Sem.run_map, hm]
    rfl
  rw [hm']
  simp only [Result.andThen_ok]
  have hfill : Instr.fill (fun x => (fa.toList.map fun f => (f.offset, ((tt f.type).map TI.size).getD 0)).toArray[x]?) ti.zero.cells (ps.map fun (i, x) => (i, a.eval x)).toList = some l'.toArray := by
    rw [show (ps.map fun (i, x) => (i, a.eval x)).toList = ps.toList.map fun x => (x.1, a.eval x.2) from by simp]
    rw [← h1]
    congr 1
    funext x; simp
  rw [hfill]
  rfl

theorem run_slice_none {t te : TypeId} (hu : P.underlying t = some (.slice te)) {z : Nat} (hz : ∀ w, (sizeOf te).run P w = .ok z w) {A : Option Addr} {len cap : Nat} {lo hi : Option Value} {l hh : Nat}
    (hhi : (hi = none ∧ hh = len) ∨ ∃ k n, hi = some (.int k n) ∧ 0 ≤ n ∧ n ≤ (cap : Int) ∧ hh = n.toNat) (hlo : (lo = none ∧ l = 0) ∨ ∃ k n, lo = some (.int k n) ∧ 0 ≤ n ∧ n ≤ (hh : Int) ∧ l = n.toNat) (w : World) :
    (Instr.sliceAt t (.slice A len cap) lo hi none).run P w = .ok (.slice (if cap = l then A else A.map (·.add (l * z))) (hh - l) (cap - l)) w := by
  have hb : (Instr.sliceBounds true len cap lo hi none).run P w = .ok (l, hh, cap) w := by
    rcases hhi with ⟨rfl, rfl⟩ | ⟨k, n, rfl, h0, h1, rfl⟩ <;> rcases hlo with ⟨rfl, rfl⟩ | ⟨k', n', rfl, h0', h1', rfl⟩ <;>
      simp_all [Instr.sliceBounds, Instr.sliceBound, asIntOf]
  simp [Instr.sliceAt, run_underlying hu, Instr.slice, hb, hz]

theorem slice_cv {e : Ty} {xs : List e.den} {A : Option Addr} {cap l hh : Nat} (hl : l ≤ hh) (hh1 : hh ≤ xs.length) (hx : (Ty.slice e).K c.w c.Im xs [.slice A xs.length cap]) (hc : hh ≤ cap) :
    CV c (.lst e ((xs.take hh).drop l)) (.slice (if cap = l then A else A.map (·.add (l * e.sz))) (hh - l) (cap - l)) := by
  obtain ⟨A', cap', h1, h2, h3, h4⟩ := hx
  simp at h1
  obtain ⟨rfl, rfl⟩ := h1
  simp only [CV]
  have hlen : ((xs.take hh).drop l).length = hh - l := by rw [List.length_drop, List.length_take]; omega
  refine ⟨_, _, by rw [hlen], by rw [hlen]; omega, ⟨by rw [hlen]; have := h3.1; omega, fun hA => ?_⟩, fun h0 => ?_⟩
  · have : A = none := by
      split at hA
      · exact hA
      · simpa using hA
    have := h3.2 this
    omega
  rw [hlen] at h0
  obtain ⟨ad, rfl, hrow⟩ := h4 (by omega)
  have hne : ¬ cap = l := by omega
  rw [if_neg hne]
  refine ⟨ad.add (l * e.sz), rfl, fun i x hx => ?_⟩
  rw [List.getElem?_drop, List.getElem?_take] at hx
  split at hx
  · obtain ⟨cs, hk, hlie⟩ := hrow _ _ hx
    refine ⟨cs, hk, ?_⟩
    rw [Go.Deep.add_add, ← Nat.add_mul]
    exact hlie
  · cases hx

theorem sliceA_at (T : TabOk P tt eqt) (h : ROk E st a c) {t te : TypeId} {ei : TI} (hu : P.underlying t = some (.slice te)) (hei : tt te = some ei) {x : AV} {xv : Value} {lo hi : Option AV} {lov hiv : Option Value} {r : Res}
    (hr : sliceA st ei x lo hi = some r) (hx : CV c x xv) (hlo : ∀ v, lo = some v → ∃ u, lov = some u ∧ CV c v u) (hlo0 : lo = none → lov = none) (hhi : ∀ v, hi = some v → ∃ u, hiv = some u ∧ CV c v u) (hhi0 : hi = none → hiv = none) (hpre : ∀ q ∈ r.pre, q) :
    PureAt P c (do pure (Next.value (← Instr.sliceAt t xv lov hiv none))) r := by
  have hz := (T.ti te ei hei).runSize
  unfold sliceA at hr
  split at hr
  · rename_i e xs k hh
    have p0 : 0 ≤ hh := qp_pre hr hpre _ (by simp)
    have p1 : hh ≤ (xs.length : Int) := qp_pre hr hpre _ (by simp)
    have hlv := hlo0 rfl
    obtain ⟨u, hu1, hu2⟩ := hhi _ rfl
    simp only [CV] at hu2
    obtain ⟨_, rfl⟩ := hu2
    subst hlv hu1
    simp only [CV] at hx
    have hx' := hx
    obtain ⟨A, cap, h1, h2, h3, h4⟩ := hx
    simp at h1
    subst h1
    have := slice_cv (l := 0) (hh := hh.toNat) (Nat.zero_le _) (by omega) hx' (by omega)
    simp only [List.drop_zero] at this
    refine .qp hr this fun w => run_v _ _ _ ?_
    rw [run_slice_none hu hz (l := 0) (hh := hh.toNat) (.inr ⟨k, hh, rfl, p0, by omega, rfl⟩) (.inl ⟨rfl, rfl⟩)]
    simp [Nat.zero_mul]
  · rename_i e xs k l
    cases hsz : Nat.beq ei.size e.sz with
    | false => simp [hsz] at hr
    | true =>
      simp only [hsz, cond_true] at hr
      have hsz' := Nat.eq_of_beq_eq_true hsz
      have p0 : 0 ≤ l := qp_pre hr hpre _ (by simp)
      have p1 : l ≤ (xs.length : Int) := qp_pre hr hpre _ (by simp)
      have hlv := hhi0 rfl
      obtain ⟨u, hu1, hu2⟩ := hlo _ rfl
      simp only [CV] at hu2
      obtain ⟨_, rfl⟩ := hu2
      subst hlv hu1
      simp only [CV] at hx
      have hx' := hx
      obtain ⟨A, cap, h1, h2, h3, h4⟩ := hx
      simp at h1
      subst h1
      have := slice_cv (l := l.toNat) (hh := xs.length) (by omega) (Nat.le_refl _) hx' h2
      rw [List.take_length] at this
      refine .qp hr this fun w => run_v _ _ _ ?_
      rw [run_slice_none hu hz (l := l.toNat) (hh := xs.length) (.inl ⟨rfl, rfl⟩) (.inr ⟨k, l, rfl, p0, p1, rfl⟩), hsz']
  · rename_i e xs k l k' hh
    cases hsz : Nat.beq ei.size e.sz with
    | false => simp [hsz] at hr
    | true =>
      simp only [hsz, cond_true] at hr
      have hsz' := Nat.eq_of_beq_eq_true hsz
      have p0 : 0 ≤ l := qp_pre hr hpre _ (by simp)
      have p1 : l ≤ hh := qp_pre hr hpre _ (by simp)
      have p2 : hh ≤ (xs.length : Int) := qp_pre hr hpre _ (by simp)
      obtain ⟨u, hu1, hu2⟩ := hlo _ rfl
      simp only [CV] at hu2
      obtain ⟨_, rfl⟩ := hu2
      obtain ⟨u', hu1', hu2'⟩ := hhi _ rfl
      simp only [CV] at hu2'
      obtain ⟨_, rfl⟩ := hu2'
      subst hu1 hu1'
      simp only [CV] at hx
      have hx' := hx
      obtain ⟨A, cap, h1, h2, h3, h4⟩ := hx
      simp at h1
      subst h1
      refine .qp hr (slice_cv (l := l.toNat) (hh := hh.toNat) (by omega) (by omega) hx' (by omega)) fun w => run_v _ _ _ ?_
      rw [run_slice_none hu hz (l := l.toNat) (hh := hh.toNat) (.inr ⟨k', hh, rfl, by omega, by omega, rfl⟩) (.inr ⟨k, l, rfl, p0, by omega, rfl⟩), hsz']
  · rename_i p k hh
    split at hr
    · rename_i t' e xs hat
      have p0 : 0 ≤ hh := qp_pre hr hpre _ (by simp)
      have p1 : hh ≤ (xs.length : Int) := qp_pre hr hpre _ (by simp)
      have hlv := hlo0 rfl
      obtain ⟨u, hu1, hu2⟩ := hhi _ rfl
      simp only [CV] at hu2
      obtain ⟨_, rfl⟩ := hu2
      subst hlv hu1
      simp only [CV] at hx
      obtain ⟨hD, rfl, _⟩ := hx
      have hi := h.it p hD
      rw [hat] at hi
      obtain ⟨A, cap, h1, h2, h3⟩ := arr_shape hi
      refine .qp (cv := .slice A hh.toNat cap) hr (by simp only [CV]; exact ⟨hD, A, _, cap, h1, rfl, by omega⟩) fun w => run_v _ _ _ ?_
      rw [h1, run_slice_none hu hz (l := 0) (hh := hh.toNat) (.inr ⟨k, hh, rfl, p0, by omega, rfl⟩) (.inl ⟨rfl, rfl⟩)]
      cases A <;> simp [Nat.zero_mul, Addr.add_zero']
    · cases hr
  · rename_i p n k hh
    split at hr
    · rename_i t' e xs hat
      have p0 : 0 ≤ hh := qp_pre hr hpre _ (by simp)
      have p1 : hh ≤ (xs.length : Int) := qp_pre hr hpre _ (by simp)
      have hlv := hlo0 rfl
      obtain ⟨u, hu1, hu2⟩ := hhi _ rfl
      simp only [CV] at hu2
      obtain ⟨_, rfl⟩ := hu2
      subst hlv hu1
      simp only [CV] at hx
      obtain ⟨hD, A', m', cap', hρ, rfl, hn⟩ := hx
      have hi := h.it p hD
      rw [hat] at hi
      obtain ⟨A, cap, h1, h2, h3⟩ := arr_shape hi
      rw [hρ] at h1
      simp at h1
      obtain ⟨rfl, rfl, rfl⟩ := h1
      refine .qp (cv := .slice A' hh.toNat cap') hr (by simp only [CV]; exact ⟨hD, A', _, cap', hρ, rfl, by omega⟩) fun w => run_v _ _ _ ?_
      rw [run_slice_none hu hz (l := 0) (hh := hh.toNat) (.inr ⟨k, hh, rfl, p0, by omega, rfl⟩) (.inl ⟨rfl, rfl⟩)]
      cases A' <;> simp [Nat.zero_mul, Addr.add_zero']
    · cases hr
  · rename_i p k l
    split at hr
    · rename_i t' e xs hat
      cases hsz : Nat.beq ei.size e.sz with
      | false => simp [hsz] at hr
      | true =>
        simp only [hsz, cond_true] at hr
        have hsz' := Nat.eq_of_beq_eq_true hsz
        have p0 : 0 ≤ l := qp_pre hr hpre _ (by simp)
        have p1 : l ≤ (xs.length : Int) := qp_pre hr hpre _ (by simp)
        have hlv := hhi0 rfl
        obtain ⟨u, hu1, hu2⟩ := hlo _ rfl
        simp only [CV] at hu2
        obtain ⟨_, rfl⟩ := hu2
        subst hlv hu1
        simp only [CV] at hx
        obtain ⟨hD, rfl, _⟩ := hx
        have hi := h.it p hD
        rw [hat] at hi
        obtain ⟨A, cap, h1, h2, h3⟩ := arr_shape hi
        refine .qp (cv := .slice (if cap = l.toNat then A else A.map (·.add (l.toNat * e.sz))) (xs.length - l.toNat) (cap - l.toNat)) hr (by simp only [CV]; exact ⟨hD, A, _, cap, h1, rfl, by omega⟩) fun w => run_v _ _ _ ?_
        rw [h1, run_slice_none hu hz (l := l.toNat) (hh := xs.length) (.inl ⟨rfl, rfl⟩) (.inr ⟨k, l, rfl, p0, p1, rfl⟩), hsz']
    · cases hr
  · rename_i q e l k hh
    have p0 : 0 ≤ hh := qp_pre hr hpre _ (by simp)
    have p1 : hh ≤ (l.c : Int) := qp_pre hr hpre _ (by simp)
    have hlv := hlo0 rfl
    obtain ⟨u, hu1, hu2⟩ := hhi _ rfl
    simp only [CV] at hu2
    obtain ⟨_, rfl⟩ := hu2
    subst hlv hu1
    simp only [CV] at hx
    obtain ⟨⟨o1, o2, o3⟩, rfl⟩ := hx
    obtain ⟨b, n, m⟩ := l
    dsimp only at o1 o2 o3 p1
    refine .qp (cv := Lh.val ⟨b, hh.toNat, m⟩) hr (by simp only [CV]; exact ⟨⟨by dsimp only; omega, o2, o3⟩, trivial⟩) fun w => run_v _ _ _ ?_
    cases b with
    | zero =>
      show Sem.run P (Instr.sliceAt t (.slice none n m) none (some (.int k hh)) none) w = .ok (.slice none hh.toNat m) w
      rw [run_slice_none hu hz (l := 0) (hh := hh.toNat) (.inr ⟨k, hh, rfl, p0, by omega, rfl⟩) (.inl ⟨rfl, rfl⟩)]
      simp
    | succ b =>
      show Sem.run P (Instr.sliceAt t (.slice (some ⟨b, 0, none⟩) n m) none (some (.int k hh)) none) w = .ok (.slice (some ⟨b, 0, none⟩) hh.toNat m) w
      rw [run_slice_none hu hz (l := 0) (hh := hh.toNat) (.inr ⟨k, hh, rfl, p0, by omega, rfl⟩) (.inl ⟨rfl, rfl⟩)]
      simp [Nat.zero_mul, add_plain]
  · cases hr

theorem elemA_at (T : TabOk P tt eqt) {t te : TypeId} {ti ei : TI} {m : Nat} (hti : tt t = some ti) (hei : tt te = some ei) (hk : ti.kn = .array m te) {x : AV} {xv : Value} {k : IntKind} {n : Int} {r : Res}
    (hr : elemA ti ei x n = some r) (hx : CV c x xv) (hpre : ∀ q ∈ r.pre, q) : PureAt P c (do pure (Next.value (← Instr.index t xv (.int k n)))) r := by
  have Ti := T.ti t ti hti
  have Te := T.ti te ei hei
  have hu := Ti.array hk
  unfold elemA at hr
  rw [hk] at hr
  split at hr
  · rename_i m' te' k' xs hkn
    cases hkn
    cases hb : Nat.beq ei.size 1 && !ei.kn.agg with
    | false => simp [hb] at hr
    | true =>
      simp only [hb, cond_true] at hr
      simp only [Bool.and_eq_true, Bool.not_eq_true'] at hb
      have hs := Nat.eq_of_beq_eq_true hb.1
      have p0 : 0 ≤ n := qp_pre hr hpre _ (by simp)
      have p1 : n < (m : Int) := qp_pre hr hpre _ (by simp)
      have p2 : xs.length = m := qp_pre hr hpre _ (by simp)
      simp only [CV] at hx
      obtain ⟨rfl, hR⟩ := hx
      have hlt : n.toNat < xs.length := by omega
      have hg : xs.getD n.toNat 0 = xs[n.toNat] := by simp [List.getD, hlt]
      refine .qp (cv := .int k' (xs.getD n.toNat 0)) hr (cv_int c (by rw [hg]; exact hR _ (List.getElem_mem hlt))) fun w => run_v _ _ _ ?_
      have hpart : (part te (xs.map (Value.int k')).toArray n.toNat).run P w = .ok (.int k' (xs.getD n.toNat 0)) w := by
        simp only [part, Sem.run_bind, Te.runAgg, hb.2, Result.andThen_ok, Bool.false_eq_true, if_false]
        simp [hlt, List.getD]
      simp [Instr.index, run_underlying hu, asIntOf, Te.runSize, hs, p0, p1, hpart]
  · cases hr

theorem indexA_at (T : TabOk P tt eqt) (h : ROk E st a c) {t te : TypeId} {ti ei : TI} (hti : tt t = some ti) (hei : tt te = some ei) (hk : ti.kn = .slice te ∨ ∃ n, ti.kn = .array n te) {x : AV} {xv : Value} {k : IntKind} {n : Int} {r : Res}
    (hr : indexA st ti ei x n = some r) (hx : CV c x xv) (hpre : ∀ q ∈ r.pre, q) : PureAt P c (do pure (Next.value (← Instr.indexAt t xv (.int k n)))) r := by
  have Ti := T.ti t ti hti
  have hsz := (T.ti te ei hei).runSize
  unfold indexA at hr
  split at hr
  · rename_i te' e xs hkn
    rcases hk with hk | ⟨m, hk⟩ <;> rw [hk] at hkn <;> cases hkn
    have hu := Ti.slice hk
    cases hez : Nat.beq ei.size e.sz with
    | false => simp [hez] at hr
    | true =>
      simp only [hez, cond_true] at hr
      have hez' := Nat.eq_of_beq_eq_true hez
      have p0 : 0 ≤ n := qp_pre hr hpre _ (by simp)
      have p1 : n < (xs.length : Int) := qp_pre hr hpre _ (by simp)
      simp only [CV] at hx
      obtain ⟨A, cap, h1, h2, h3, h4⟩ := hx
      simp at h1
      subst h1
      obtain ⟨ad, rfl, hrow⟩ := h4 (by omega)
      refine .qp (cv := .pointer (some ((ad.add (n.toNat * e.sz)).add 0))) hr (by simp only [CV]; exact ⟨ad, rfl, fun x hx => hrow _ x hx⟩) fun w => run_v _ _ _ ?_
      simp [Instr.indexAt, run_underlying hu, asIntOf, hsz, p0, p1, hez', Addr.add_zero']
  · rename_i te' p hkn
    rcases hk with hk | ⟨m, hk⟩ <;> rw [hk] at hkn <;> cases hkn
    have hu := Ti.slice hk
    split at hr
    · rename_i t' e xs hat
      have p0 : 0 ≤ n := qp_pre hr hpre _ (by simp)
      have p1 : n < (xs.length : Int) := qp_pre hr hpre _ (by simp)
      simp only [CV] at hx
      obtain ⟨hD, rfl, _⟩ := hx
      have hi := h.it p hD
      rw [hat] at hi
      obtain ⟨g, cap, cur, h1, _⟩ := arr_block hi (by omega)
      refine .qp (cv := .pointer (some ⟨g, n.toNat * ei.size + 0, none⟩)) hr (by simp only [CV]; exact ⟨hD, g, _, cap, h1, rfl⟩) fun w => run_v _ _ _ ?_
      rw [h1]
      simp [Instr.indexAt, run_underlying hu, asIntOf, hsz, p0, p1, add_plain]
    · cases hr
  · rename_i te' p m hkn
    rcases hk with hk | ⟨m', hk⟩ <;> rw [hk] at hkn <;> cases hkn
    have hu := Ti.slice hk
    split at hr
    · rename_i t' e xs hat
      have p0 : 0 ≤ n := qp_pre hr hpre _ (by simp)
      have p1 : n < (m : Int) := qp_pre hr hpre _ (by simp)
      simp only [CV] at hx
      obtain ⟨hD, A', m', cap', hρ, rfl, hn⟩ := hx
      have hi := h.it p hD
      rw [hat] at hi
      obtain ⟨A, cap, k1, k2, k3⟩ := arr_shape hi
      rw [hρ] at k1
      simp at k1
      obtain ⟨g, cap, cur, h1, _⟩ := arr_block hi (by omega)
      rw [hρ] at h1
      simp at h1
      obtain ⟨rfl, _, _⟩ := h1
      refine .qp (cv := .pointer (some ⟨g, n.toNat * ei.size + 0, none⟩)) hr (by simp only [CV]; exact ⟨hD, g, _, _, hρ, rfl⟩) fun w => run_v _ _ _ ?_
      simp [Instr.indexAt, run_underlying hu, asIntOf, hsz, p0, p1, add_plain]
    · cases hr
  · rename_i te' q e l hkn
    rcases hk with hk | ⟨m', hk⟩ <;> rw [hk] at hkn <;> cases hkn
    have hu := Ti.slice hk
    cases hez : Nat.beq ei.size e.sz with
    | false => simp [hez] at hr
    | true =>
      simp only [hez, cond_true] at hr
      have p0 : 0 ≤ n := qp_pre hr hpre _ (by simp)
      have p1 : n < (l.n : Int) := qp_pre hr hpre _ (by simp)
      simp only [CV] at hx
      obtain ⟨⟨o1, o2, o3⟩, rfl⟩ := hx
      obtain ⟨b, m, k'⟩ := l
      dsimp only at o1 o2 o3 p1
      cases b with
      | zero => have := o3 rfl; omega
      | succ b =>
        refine .qp (cv := .pointer (some ⟨b, n.toNat * ei.size + 0, none⟩)) hr (by simp only [CV]; exact ⟨by omega, by simp⟩) fun w => run_v _ _ _ ?_
        simp [Lh.val, Instr.indexAt, run_underlying hu, asIntOf, hsz, p0, p1, add_plain]
  · rename_i m te' p off hkn
    rcases hk with hk | ⟨m', hk⟩ <;> rw [hk] at hkn <;> cases hkn
    have hu := Ti.array hk
    have p0 : 0 ≤ n := qp_pre hr hpre _ (by simp)
    have p1 : n < (m : Int) := qp_pre hr hpre _ (by simp)
    simp only [CV] at hx
    obtain ⟨hD, b, hρ, rfl⟩ := hx
    refine .qp (cv := .pointer (some ⟨b, off + n.toNat * ei.size, none⟩)) hr (by simp only [CV]; exact ⟨hD, b, hρ, rfl⟩) fun w => run_v _ _ _ ?_
    simp [Instr.indexAt, run_underlying hu, asIntOf, hsz, p0, p1, add_plain, Instr.sureAddr]
  · rename_i m te' p j sz off hkn
    rcases hk with hk | ⟨m', hk⟩ <;> rw [hk] at hkn <;> cases hkn
    have hu := Ti.array hk
    cases hb : Nat.beq j 0 && Nat.beq off 0 && Nat.beq ei.size sz with
    | false => simp [hb] at hr
    | true =>
      simp only [hb, cond_true] at hr
      simp only [Bool.and_eq_true] at hb
      have hj := Nat.eq_of_beq_eq_true hb.1.1
      have ho := Nat.eq_of_beq_eq_true hb.1.2
      have hs := Nat.eq_of_beq_eq_true hb.2
      subst hj ho hs
      have p0 : 0 ≤ n := qp_pre hr hpre _ (by simp)
      have p1 : n < (m : Int) := qp_pre hr hpre _ (by simp)
      simp only [CV] at hx
      obtain ⟨hD, g, l, cap, hρ, rfl⟩ := hx
      refine .qp (cv := .pointer (some ⟨g, n.toNat * ei.size + 0, none⟩)) hr (by simp only [CV]; exact ⟨hD, g, l, cap, hρ, rfl⟩) fun w => run_v _ _ _ ?_
      simp [Instr.indexAt, run_underlying hu, asIntOf, hsz, p0, p1, add_plain, Instr.sureAddr]
  · cases hr

theorem eval_list (h : ROk E st a c) : ∀ (l : List Operand), CVL c (l.map (evalA st)) (l.map a.eval)
  | [] => trivial
  | x :: l => ⟨eval_cv h x, eval_list h l⟩

theorem two_ints {k j : IntKind} {n m : Int} {vs : Array Value} (h : CVL c [.int k n, .int j m] vs.toList) : ∃ _ : Unit, vs = #[.int k n, .int j m] ∧ InR k n ∧ InR j m := by
  rcases hv : vs.toList with _ | ⟨x, _ | ⟨y, _ | ⟨z, l⟩⟩⟩ <;> rw [hv] at h
  · exact h.elim
  · exact h.2.elim
  · obtain ⟨h1, h2, _⟩ := h
    simp only [CV] at h1 h2
    obtain ⟨h1, rfl⟩ := h1
    obtain ⟨h2, rfl⟩ := h2
    exact ⟨(), Array.toList_inj.1 hv, h1, h2⟩
  · exact h.2.2.elim
theorem one_arg {x : AV} {vs : Array Value} (h : CVL c [x] vs.toList) : ∃ v, vs = #[v] ∧ CV c x v := by
  rcases hv : vs.toList with _ | ⟨y, _ | ⟨z, l⟩⟩ <;> rw [hv] at h
  · exact h.elim
  · exact ⟨y, Array.toList_inj.1 hv, h.1⟩
  · exact h.2.elim
theorem two_args {x y : AV} {vs : Array Value} (h : CVL c [x, y] vs.toList) : ∃ u v, vs = #[u, v] ∧ CV c x u ∧ CV c y v := by
  rcases hv : vs.toList with _ | ⟨x', _ | ⟨y', _ | ⟨z, l⟩⟩⟩ <;> rw [hv] at h
  · exact h.elim
  · exact h.2.elim
  · exact ⟨x', y', Array.toList_inj.1 hv, h.1, h.2.1⟩
  · exact h.2.2.elim
theorem Same.weaken {R R' : Nat → Prop} {w' : World} (h : Same c R' w') (hR : ∀ p, R p → R' p) : Same c R w' := ⟨h.im, fun p b hp => h.pl p b (hR p hp)⟩
theorem ReadAt.weaken {R R' : Nat → Prop} {s : Sem Next} {r : Res} (h : ReadAt P c R s r) (hR : ∀ p, R p → R' p) : ReadAt P c R' s r := by
  obtain ⟨v, cv, h1, h2, h3, h4⟩ := h
  exact ⟨v, cv, h1, h2, h3, fun w' hw' => h4 w' (hw'.weaken hR)⟩

theorem pure_op (T : TabOk P tt eqt) (h : ROk E st a c) {o : Oper} (hp : pureOp o = true) {r : Res} (hr : opA tt eqt sp st o = some r) (hpre : ∀ q ∈ r.pre, q) : PureAt P c (execOp a.eval o) r := by
  cases hop : o.op <;> simp only [pureOp, hop] at hp <;> try (cases hp; done)
  all_goals simp only [opA, hop] at hr
  case move x => simp only [execOp, hop]; exact .qv hr (eval_cv h x) fun _ => rfl
  case assign x => simp only [execOp, hop]; exact .qv hr (eval_cv h x) fun _ => rfl
  case pick b x y =>
    simp only [execOp, hop]
    have hb := eval_cv h b
    split at hr
    · rename_i he
      rw [he] at hb
      simp only [CV] at hb
      rw [hb]
      exact .qv hr (eval_cv h x) fun _ => by simp [asBool]
    · rename_i he
      rw [he] at hb
      simp only [CV] at hb
      rw [hb]
      exact .qv hr (eval_cv h y) fun _ => by simp [asBool]
    · cases hr
  case build t ps =>
    simp only [execOp, hop]
    obtain ⟨ti, hti, hr⟩ := Option.bind_eq_some_iff.1 hr
    split at hr
    · rename_i fs hk
      cases hall : fs.all (fun f => (tt f.1).isSome) with
      | false => simp [hall] at hr
      | true =>
        simp only [hall, Bool.not_true, cond_false] at hr
        split at hr
        · rename_i cs hf
          obtain ⟨cv, hcv, hrun⟩ := build_at T h hti hk hall hf
          exact .qv hr hcv fun w => run_v _ _ _ (hrun w)
        · cases hr
    · cases hr
  case nilCheck x =>
    simp only [execOp, hop]
    have hx := eval_cv h x
    split at hr
    · rename_i p o' he
      rw [he] at hx
      have hx' := hx
      simp only [CV] at hx
      obtain ⟨_, b, _, hv⟩ := hx
      rw [hv] at hx' ⊢
      exact .qv hr hx' fun _ => rfl
    · rename_i p i z o' he
      rw [he] at hx
      have hx' := hx
      simp only [CV] at hx
      obtain ⟨_, g, n, cap, _, hv⟩ := hx
      rw [hv] at hx' ⊢
      exact .qv hr hx' fun _ => rfl
    · rename_i e xs i o' he
      rw [he] at hx
      have hx' := hx
      simp only [CV] at hx
      obtain ⟨ad, hv, _⟩ := hx
      rw [hv] at hx' ⊢
      exact .qv hr hx' fun _ => rfl
    · rename_i f cs he
      rw [he] at hx
      have hx' := hx
      simp only [CV] at hx
      obtain ⟨l, hv, _⟩ := hx
      rw [hv] at hx' ⊢
      exact .qv hr hx' fun _ => rfl
    · rename_i q n he
      have hn : n ≠ 0 := qp_pre hr hpre _ (by simp)
      rw [he] at hx
      have hx' := hx
      simp only [CV] at hx
      rw [hx] at hx' ⊢
      cases n with
      | zero => exact absurd rfl hn
      | succ n => exact .qp hr hx' fun _ => rfl
    · rename_i q n o' he
      rw [he] at hx
      have hx' := hx
      simp only [CV] at hx
      obtain ⟨_, hv⟩ := hx
      rw [hv] at hx' ⊢
      exact .qv hr hx' fun _ => rfl
    · rename_i q b i z o' he
      rw [he] at hx
      have hx' := hx
      simp only [CV] at hx
      obtain ⟨_, hv⟩ := hx
      rw [hv] at hx' ⊢
      exact .qv hr hx' fun _ => rfl
    · cases hr
  case binOp op t x y u =>
    simp only [execOp, hop]
    have hn : nilSl o = false := by simpa using hp
    rw [hn] at hr
    simp only [cond_false] at hr
    exact binA_at T hr (eval_cv h x) (eval_cv h y) hpre
  case unOp op t x =>
    simp only [execOp, hop]
    exact unA_at hr (eval_cv h x)
  case convert s t x =>
    simp only [execOp, hop]
    obtain ⟨si, hsi, hr⟩ := Option.bind_eq_some_iff.1 hr
    obtain ⟨ti, hti, hr⟩ := Option.bind_eq_some_iff.1 hr
    have hx := eval_cv h x
    split at hr
    · rename_i k j n hk he
      rw [he] at hx
      simp only [CV] at hx
      obtain ⟨hn, hv⟩ := hx
      obtain ⟨ds, hds, _⟩ := (T.ti s si hsi).desc
      have hd := (T.ti t ti hti).int hk
      rw [hv]
      refine .qv (cv := .int k (k.wrap n)) hr ?_ fun w => run_v _ _ _ (by simp [convert, run_underlying hds, run_underlying hd, Conv.intToInt])
      by_cases hjk : j = k
      · subst hjk
        rw [wrap_in hn]
        simp only [decide_true, cond_true]
        exact cv_int c hn
      · simp only [hjk, decide_false, cond_false]
        exact cv_int c (wrap_range _ _)
    · cases hr
  case makeFunc fn fs cs =>
    simp only [execOp, hop]
    split at hr
    · rename_i f hfs
      have hfs' : fs = #[] := Array.toList_inj.1 hfs
      subst hfs'
      refine .qv (cv := .func (.func f) #[] (cs.map a.eval)) hr ?_ fun w => run_v _ _ _ (by simp [Instr.makeFunc])
      simp only [CV]
      refine ⟨cs.toList.map a.eval, by obtain ⟨l⟩ := cs; simp, ?_⟩
      generalize cs.toList = l
      induction l with
      | nil => trivial
      | cons x l ih => exact ⟨eval_cv h x, ih⟩
    · cases hr
  case slice t x lo hi mx =>
    cases mx with
    | some m => simp at hr
    | none =>
      simp only [execOp, hop]
      obtain ⟨ti, hti, hr⟩ := Option.bind_eq_some_iff.1 hr
      split at hr
      case h_2 => cases hr
      rename_i te hkn
      obtain ⟨ei, hei, hr⟩ := Option.bind_eq_some_iff.1 hr
      refine sliceA_at T h ((T.ti t ti hti).slice hkn) hei hr (eval_cv h x) (fun v hv => ?_) (fun hv => ?_) (fun v hv => ?_) (fun hv => ?_) hpre
      · obtain ⟨u, hu, rfl⟩ := Option.map_eq_some_iff.1 hv
        exact ⟨a.eval u, by simp [hu], eval_cv h u⟩
      · simpa using hv
      · obtain ⟨u, hu, rfl⟩ := Option.map_eq_some_iff.1 hv
        exact ⟨a.eval u, by simp [hu], eval_cv h u⟩
      · simpa using hv
  case fieldAddr t x f =>
    simp only [execOp, hop]
    obtain ⟨ti, hti, hr⟩ := Option.bind_eq_some_iff.1 hr
    split at hr
    · rename_i fs hk
      obtain ⟨fl, hfl, hr⟩ := Option.bind_eq_some_iff.1 hr
      obtain ⟨fi, hfi, hr⟩ := Option.bind_eq_some_iff.1 hr
      obtain ⟨fa, hu, hfa⟩ := (T.ti t ti hti).struct hk
      rw [← hfa, List.getElem?_map] at hfl
      obtain ⟨g, hg, rfl⟩ := Option.map_eq_some_iff.1 hfl
      rw [Array.getElem?_toList] at hg
      have hsz := (T.ti _ fi hfi).runSize
      cases hb : Nat.ble 1 fi.size with
      | false => simp [hb] at hr
      | true =>
        simp only [hb, cond_true] at hr
        have h1 : ¬ fi.size = 0 := by have := Nat.le_of_ble_eq_true hb; omega
        have run : ∀ (ad : Addr) (w : World), (Instr.fieldAt t (.pointer (some ad)) f).run P w = .ok (.pointer (some (ad.add g.offset))) w := fun ad w => by
          simp [Instr.fieldAt, run_underlying hu, hg, Instr.sureAddr, fieldPlace, hsz, h1]
        have hx := eval_cv h x
        split at hr
        · rename_i p o' he
          rw [he] at hx
          simp only [CV] at hx
          obtain ⟨hD, b, hρ, hv⟩ := hx
          rw [hv]
          refine .qv (cv := .pointer (some ⟨b, o' + g.offset, none⟩)) hr (by simp only [CV]; exact ⟨hD, b, hρ, rfl⟩) fun w => run_v _ _ _ (by rw [run, add_plain])
        · rename_i p i z o' he
          rw [he] at hx
          simp only [CV] at hx
          obtain ⟨hD, b, n, cap, hρ, hv⟩ := hx
          rw [hv]
          refine .qv (cv := .pointer (some ⟨b, i * z + o' + g.offset, none⟩)) hr (by simp only [CV]; exact ⟨hD, b, n, cap, hρ, by rw [Nat.add_assoc]⟩) fun w => run_v _ _ _ (by rw [run, add_plain])
        · rename_i e xs i o' he
          rw [he] at hx
          simp only [CV] at hx
          obtain ⟨ad, hv, hx⟩ := hx
          rw [hv]
          refine .qv (cv := .pointer (some ((ad.add (i * e.sz)).add (o' + g.offset)))) hr (by simp only [CV]; exact ⟨ad, rfl, hx⟩) fun w => run_v _ _ _ (by rw [run, Go.Deep.add_add])
        · rename_i q n he
          have hn : n ≠ 0 := qp_pre hr hpre _ (by simp)
          rw [he] at hx
          simp only [CV] at hx
          rw [hx]
          cases n with
          | zero => exact absurd rfl hn
          | succ n => exact .qp (cv := .pointer (some ⟨n, 0 + g.offset, none⟩)) hr (by simp only [CV]; exact ⟨by omega, by simp⟩) fun w => run_v _ _ _ (by rw [refVal, run, add_plain])
        · rename_i q n o' he
          rw [he] at hx
          simp only [CV] at hx
          obtain ⟨hn, hv⟩ := hx
          rw [hv]
          exact .qv (cv := .pointer (some ⟨n - 1, o' + g.offset, none⟩)) hr (by simp only [CV]; exact ⟨hn, trivial⟩) fun w => run_v _ _ _ (by rw [run, add_plain])
        · rename_i q b i z o' he
          rw [he] at hx
          simp only [CV] at hx
          obtain ⟨hn, hv⟩ := hx
          rw [hv]
          exact .qv (cv := .pointer (some ⟨b - 1, i * z + o' + g.offset, none⟩)) hr (by simp only [CV]; exact ⟨hn, by rw [Nat.add_assoc]⟩) fun w => run_v _ _ _ (by rw [run, add_plain])
        · cases hr
    · cases hr
  case field t x f =>
    simp only [execOp, hop]
    obtain ⟨ti, hti, hr⟩ := Option.bind_eq_some_iff.1 hr
    have hx := eval_cv h x
    split at hr
    · rename_i fs cs hk he
      rw [he] at hx
      simp only [CV] at hx
      obtain ⟨l, hv, hl⟩ := hx
      obtain ⟨fl, hfl, hr⟩ := Option.bind_eq_some_iff.1 hr
      obtain ⟨fi, hfi, hr⟩ := Option.bind_eq_some_iff.1 hr
      obtain ⟨fa, hu, hfa⟩ := (T.ti t ti hti).struct hk
      rw [← hfa, List.getElem?_map] at hfl
      obtain ⟨g, hg, rfl⟩ := Option.map_eq_some_iff.1 hfl
      rw [Array.getElem?_toList] at hg
      split at hr
      · rename_i v hv'
        obtain ⟨cv, hcv, hpart, _⟩ := part_at (T.ti _ fi hfi) hl hv'
        rw [hv]
        exact .qv hr hcv fun w => run_v _ _ _ (by simp [Instr.field, run_underlying hu, hg, asAgg, hpart])
      · cases hr
    · cases hr
  case indexAddr t x i =>
    simp only [execOp, hop]
    obtain ⟨ti, hti, hr⟩ := Option.bind_eq_some_iff.1 hr
    have hi := eval_cv h i
    split at hr
    · rename_i k n he
      rw [he] at hi
      simp only [CV] at hi
      obtain ⟨hn, hiv⟩ := hi
      rw [hiv]
      split at hr
      · rename_i te hk
        obtain ⟨ei, hei, hr⟩ := Option.bind_eq_some_iff.1 hr
        exact indexA_at T h hti hei (.inl hk) hr (eval_cv h x) hpre
      · rename_i m te hk
        obtain ⟨ei, hei, hr⟩ := Option.bind_eq_some_iff.1 hr
        exact indexA_at T h hti hei (.inr ⟨m, hk⟩) hr (eval_cv h x) hpre
      · cases hr
    · cases hr
  case index t x i =>
    simp only [execOp, hop]
    obtain ⟨ti, hti, hr⟩ := Option.bind_eq_some_iff.1 hr
    have hi := eval_cv h i
    have hx := eval_cv h x
    split at hr
    · rename_i k n he
      rw [he] at hi
      simp only [CV] at hi
      obtain ⟨hn, hiv⟩ := hi
      rw [hiv]
      split at hr
      · rename_i m te hk
        obtain ⟨ei, hei, hr⟩ := Option.bind_eq_some_iff.1 hr
        exact elemA_at T hti hei hk hr hx hpre
      · cases hr
    · cases hr
  case extract x i =>
    simp only [execOp, hop]
    have hx := eval_cv h x
    split at hr
    · rename_i vs he
      rw [he] at hx
      simp only [CV] at hx
      obtain ⟨l, hv, hl⟩ := hx
      split at hr
      · rename_i v hvi
        obtain ⟨cv, hcv, hC⟩ := hl.at hvi
        rw [hv]
        exact .qv hr hC fun w => run_v _ _ _ (by simp [Instr.extract, hcv])
      · cases hr
    · cases hr
  case call cl =>
    obtain ⟨ce, args, ats⟩ := cl
    have hm := eval_list h args.toList
    have hl : (args.toList.map a.eval) = (args.map a.eval).toList := by simp
    rw [hl] at hm
    cases ce with
    | value f => cases hp
    | invoke r n => cases hp
    | builtin b =>
      simp only at hr
      simp only [execOp, hop, resolve]
      cases b <;> simp only at hp <;> try (cases hp; done)
      · simp only [builtA, maxA] at hr
        split at hr
        · rename_i k n j m hargs
          rw [hargs] at hm
          obtain ⟨xs, hxs, hn, hm⟩ := two_ints hm
          by_cases hkj : k = j
          · subst hkj
            simp only [decide_true, cond_true] at hr
            rw [hxs]
            refine .qv (cv := .int k (if m > n then m else n)) hr (cv_int c (by split <;> assumption)) fun w => ?_
            simp [invoke, builtin, run_max_int2]
          · simp [hkj] at hr
        · cases hr
      · simp only [builtA, minA] at hr
        split at hr
        · rename_i k n j m hargs
          rw [hargs] at hm
          obtain ⟨xs, hxs, hn, hm⟩ := two_ints hm
          by_cases hkj : k = j
          · subst hkj
            simp only [decide_true, cond_true] at hr
            rw [hxs]
            refine .qv (cv := .int k (if m < n then m else n)) hr (cv_int c (by split <;> assumption)) fun w => ?_
            simp [invoke, builtin, run_min_int2]
          · simp [hkj] at hr
        · cases hr

theorem read_op (T : TabOk P tt eqt) (h : ROk E st a c) {o : Oper} {R : Option Nat} (hp : readsOf st o = some R) {r : Res} (hr : opA tt eqt sp st o = some r) (hpre : ∀ q ∈ r.pre, q) : ReadAt P c (fun p => R = some p) (execOp a.eval o) r := by
  cases hop : o.op <;> simp only [readsOf, hop] at hp <;> try (cases hp; done)
  all_goals simp only [opA, hop] at hr
  case load t x =>
    simp only [execOp, hop]
    obtain ⟨ti, hti, hr⟩ := Option.bind_eq_some_iff.1 hr
    have := loadA_at (P := P) T h hti hr (eval_cv h x) hpre
    refine this.weaken fun p hp' => ?_
    split at hp
    all_goals first | (cases hp; done) | skip
    all_goals rename_i he
    all_goals rw [he] at hp'
    all_goals first
      | (simp at hp; simp [AV.inAt] at hp'; subst hp'; exact hp.symm)
      | (simp only [AV.inAt] at hp'; rw [hp'] at hp; simpa using hp.symm)
      | (simp [AV.inAt] at hp')
  case lookup t x i ok =>
    simp only [execOp, hop]
    obtain ⟨ti, hti, hr⟩ := Option.bind_eq_some_iff.1 hr
    split at hr
    · rename_i kt vt hk
      obtain ⟨tk, htk, hr⟩ := Option.bind_eq_some_iff.1 hr
      obtain ⟨tv, htv, hr⟩ := Option.bind_eq_some_iff.1 hr
      have := lookupA_at (P := P) T h ((T.ti t ti hti).map hk) htk htv hr (eval_cv h x) (eval_cv h i)
      refine this.weaken fun p hp' => ?_
      split at hp <;> simp at hp <;> rename_i he <;> rw [he] at hp' <;> simp [AV.inAt] at hp' <;> subst hp' <;> exact hp.symm
    · cases hr
  case call cl =>
    obtain ⟨ce, args, ats⟩ := cl
    have hm := eval_list h args.toList
    have hl : (args.toList.map a.eval) = (args.map a.eval).toList := by simp
    rw [hl] at hm
    simp only at hp hr
    cases ce with
    | value f => simp at hp
    | invoke r n => simp at hp
    | builtin b =>
      simp only at hr
      simp only [execOp, hop, resolve]
      cases b <;> try (simp at hp; done)
      simp only [builtA] at hr
      split at hr
      · rename_i t x hts hargs
        have hats : ats = #[t] := Array.toList_inj.1 hts
        subst hats
        rw [hargs] at hm hp
        obtain ⟨xv, hxv, hx⟩ := one_arg hm
        obtain ⟨ti, hti, hr⟩ := Option.bind_eq_some_iff.1 hr
        have Ti := T.ti t ti hti
        have key : ∀ (hr : lenA st x = some r), (x.ofMap = true → ∃ k v, P.underlying t = some (.map k v)) ∧ (x.ofMap = false → ∃ e, P.underlying t = some (.slice e)) → ReadAt P c (fun p => R = some p) (do
            let d ← (pure { target := Target.builtin Builtin.len #[t] o.type (Array.map (fun x => match x with | .const _ => true | _ => false) args), args := Array.map a.eval args } : Sem Deferred)
            invoke d.target d.args) r := fun hr ht => by
          have := (lenA_at (P := P) (t := t) (ty := o.type) h hr hx ht).weaken (R' := fun p => R = some p) fun p hp' => by
            split at hp <;> simp at hp <;> rename_i he <;> simp at he <;> subst he <;> simp [AV.inAt] at hp' <;> subst hp' <;> exact hp.symm
          obtain ⟨v, cv, h1, h2, h3, h4⟩ := this
          refine ⟨v, cv, h1, h2, h3, fun w' hw' => ?_⟩
          have := h4 w' hw'
          rw [hxv]
          simpa [invoke, builtin] using this
        split at hr
        · rename_i te hk hom
          exact key hr ⟨fun h => (by rw [hom] at h; exact absurd h (by simp)), fun _ => ⟨te, Ti.slice hk⟩⟩
        · rename_i kt vt hk hom
          exact key hr ⟨fun _ => ⟨kt, vt, Ti.map hk⟩, fun h => (by rw [hom] at h; exact absurd h (by simp))⟩
        · cases hr
      · cases hr
end
end Go.Proofs.Ytljimnhijpcjaaa.VC
