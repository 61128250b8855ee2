/- Any operation; guards and choices. Plain lemmas; no conditions but those that each names. -/
import Derived.Test.YtljimnhijpcjaaaVqa
import Derived.OrdersHeld
import Derived.Lib.LazyBuf
set_option linter.unusedVariables false
set_option linter.unusedSimpArgs false
set_option linter.unusedSectionVars false
namespace Go.Proofs.Ytljimnhijpcjaaa.VC
open Go

section
variable {P : Program} {tt : TypeId → Option TI} {eqt : TypeId → Option (List EF)} {sp : FuncId → Option Spc} {E : Env} {st : St} {a : Act} {c : Ctx} {hold : List Nat} {K : St → Prop} {Q : Exit → Act → World → Prop} {o : Oper}

theorem load_reads {t : TypeId} {x : Operand} (hop : o.op = .load t x) {r : Res} (hr : opA tt eqt sp st o = some r) : ∃ R, readsOf st o = some R := by
  simp only [opA, hop] at hr
  obtain ⟨ti, hti, hr⟩ := Option.bind_eq_some_iff.1 hr
  simp only [readsOf, hop]
  generalize evalA st x = ev at hr ⊢
  unfold loadA at hr
  split at hr
  · exact ⟨_, rfl⟩
  · exact ⟨_, rfl⟩
  · exact ⟨_, rfl⟩
  · split at hr
    · rename_i hp; exact ⟨_, by simp only [hp]; rfl⟩
    · cases hr
  · split at hr
    · rename_i hp; exact ⟨_, by simp only [hp]; rfl⟩
    · cases hr
  · cases hr
theorem lookup_reads {t : TypeId} {x i : Operand} {ok : Bool} (hop : o.op = .lookup t x i ok) {r : Res} (hr : opA tt eqt sp st o = some r) : ∃ R, readsOf st o = some R := by
  simp only [opA, hop] at hr
  obtain ⟨ti, hti, hr⟩ := Option.bind_eq_some_iff.1 hr
  simp only [readsOf, hop]
  generalize evalA st x = ev at hr ⊢
  split at hr
  · obtain ⟨tk, htk, hr⟩ := Option.bind_eq_some_iff.1 hr
    obtain ⟨tv, htv, hr⟩ := Option.bind_eq_some_iff.1 hr
    unfold lookupA at hr
    split at hr
    · rename_i k v hk hv
      cases hky : k.keyed with
      | false => simp [hky] at hr
      | true =>
        simp only [hky, Bool.not_true, cond_false] at hr
        split at hr
        · cases hr
        · split at hr
          · exact ⟨_, rfl⟩
          · exact ⟨_, rfl⟩
          · cases hr
    · cases hr
  · cases hr
theorem len_reads {ts : Array TypeId} {args : Array Operand} (hop : o.op = .call ⟨.builtin .len, args, ts⟩) {r : Res} (hr : opA tt eqt sp st o = some r) : ∃ R, readsOf st o = some R := by
  simp only [opA, hop, builtA] at hr
  simp only [readsOf, hop]
  split at hr
  · rename_i t x hts hargs
    rw [hargs]
    obtain ⟨ti, hti, hr⟩ := Option.bind_eq_some_iff.1 hr
    have : ∀ (hr : lenA st x = some r), ∃ R, (match Callee.builtin Builtin.len, [x] with
        | .builtin .len, [.map p] => some (some p)
        | .builtin .len, [.nmap] => some none
        | .builtin .len, [.sl _] => some none
        | .builtin .len, [.pfx _ _] => some none
        | .builtin .len, [.nsl] => some none
        | .builtin .len, [.lst _ _] => some none
        | .builtin .len, [.hd _ _ _] => some none
        | _, _ => none) = some R := fun hr => by
      unfold lenA at hr
      split at hr <;> first | exact ⟨_, rfl⟩ | cases hr
    split at hr
    · exact this hr
    · exact this hr
    · cases hr
  · cases hr

theorem nilSl_loud (T : TabOk P tt eqt) (h : ROk E st a c) (hlk : LockOk st) {bo : BinOp} {t : TypeId} {x y : Operand} {u : TypeId} (hop : o.op = .binOp bo t x y u) (hn : nilSl o = true) {r : Res} (hr : opA tt eqt sp st o = some r) (hK : goAlts E.nt st hold r.rel o.dst K r.alts) :
    o.wp P a c.w (Post E st hold c o.dst K) Q := by
  have hb : (bo = .eql ∨ bo = .neq) ∧ y = .const (.slice none 0 0) := by
    unfold nilSl at hn
    split at hn
    · rename_i h1; rw [hop] at h1; cases h1; exact ⟨.inl rfl, rfl⟩
    · rename_i h1; rw [hop] at h1; cases h1; exact ⟨.inr rfl, rfl⟩
    · cases hn
  obtain ⟨hbo, rfl⟩ := hb
  simp only [opA, hop, hn, cond_true] at hr
  have hx := eval_cv h x
  have key : ∀ (b : Bool) (A : Option Addr) (n cp : Nat) (e : TypeId), a.eval x = .slice A n cp → P.underlying t = some (.slice e) → (b = true ↔ bo = .eql) → ∀ w, (execOp a.eval o).run P w = .ok (.value (.bool (bif b then A.isNone else !A.isNone))) w := by
    intro b A n cp e hv hu hbb w
    simp only [execOp, hop]
    rw [hv]
    have h0 : a.eval (.const (.slice none 0 0)) = .slice none 0 0 := rfl
    rw [h0]
    have hq := run_eql_slice_nil (P := P) w t e A n cp hu
    rcases hbo with rfl | rfl
    · have : b = true := hbb.2 rfl
      subst this
      exact run_v _ _ _ (by simp [eqGuard, hq])
    · have : b = false := by cases b <;> simp at hbb ⊢
      subst this
      have hq2 := run_neq_slice_nil (P := P) w t e A n cp hu
      exact run_v _ _ _ (by simp [eqGuard, hq2])
  have alts : ∀ (b : Bool) (p : Prop) (A : Option Addr) (n cp : Nat) (e : TypeId), a.eval x = .slice A n cp → P.underlying t = some (.slice e) → (b = true ↔ bo = .eql) → (A = none → p) → nilAlts b p = some r → o.wp P a c.w (Post E st hold c o.dst K) Q := by
    intro b p A n cp e hv hu hbb hp hr
    simp only [nilAlts, Option.some.injEq] at hr
    subst hr
    have hrun := key b A n cp e hv hu hbb c.w
    cases A with
    | none =>
      have h1 := hK.1 () ⟨hp rfl⟩
      refine val_loud (v := bif b then .tt else .ff) (cv := .bool b) h hlk h1 ?_ (by cases b <;> simp [CV])
      rw [hrun]; cases b <;> rfl
    | some ad =>
      have h1 := hK.2
      refine val_loud (v := bif b then .ff else .tt) (cv := .bool (!b)) h hlk h1 ?_ (by cases b <;> simp [CV])
      rw [hrun]; cases b <;> rfl
  have hbb : (isEql bo = true) ↔ bo = .eql := by rcases hbo with rfl | rfl <;> simp [isEql]
  have hul : ∀ k, Option.map TI.kn (tt t) = some (.slice k) → ∃ e, P.underlying t = some (.slice e) := by
    intro k hk
    obtain ⟨ti, hti, hkn⟩ := Option.map_eq_some_iff.1 hk
    obtain ⟨d, hd, hdk⟩ := (T.ti t ti hti).desc
    rw [hkn] at hdk
    cases d <;> simp [Kn.of] at hdk
    exact ⟨_, hd⟩
  generalize isEql bo = b at hr hbb
  unfold nilSlA at hr
  split at hr
  · rename_i k v hk he
    obtain ⟨e, hu⟩ := hul _ hk
    rw [he] at hx
    simp only [CV] at hx
    simp only [qv, Option.some.injEq] at hr
    subst hr
    refine val_loud (v := bif b then .tt else .ff) (cv := .bool b) h hlk hK ?_ (by cases b <;> simp [CV])
    rw [key b none 0 0 e hx hu hbb c.w]; cases b <;> rfl
  · rename_i k v q' e' g hk he
    obtain ⟨e, hu⟩ := hul _ hk
    rw [he] at hx
    simp only [CV] at hx
    obtain ⟨hgo, hx⟩ := hx
    simp only [qv, Option.some.injEq] at hr
    subst hr
    rcases Nat.eq_zero_or_pos g.b with h0 | h0
    · rw [(Lh.val_zero hgo h0).1] at hx
      refine val_loud (cv := .bool b) h hlk hK ?_ (by simp only [CV]; cases b <;> simp [h0])
      rw [key b none 0 0 e hx hu hbb c.w]; cases b <;> rfl
    · rw [Lh.val_pos h0] at hx
      have hn : g.b ≠ 0 := by omega
      refine val_loud (cv := .bool (!b)) h hlk hK ?_ (by simp only [CV]; cases b <;> simp [hn])
      rw [key b _ _ _ e hx hu hbb c.w]; cases b <;> rfl
  · rename_i k v e' xs hk he
    obtain ⟨e, hu⟩ := hul _ hk
    rw [he] at hx
    simp only [CV] at hx
    obtain ⟨A, cap, h1, h2, h3, h4⟩ := hx
    simp at h1
    exact alts b _ A _ cap e h1 hu hbb (fun hA => by have := h3.2 hA; omega) hr
  · rename_i k v p hk he
    obtain ⟨e, hu⟩ := hul _ hk
    rw [he] at hx
    simp only [CV] at hx
    obtain ⟨hD, h1, _⟩ := hx
    split at hr
    · rename_i t' e' xs hat
      have hi := h.it p hD
      rw [hat] at hi
      obtain ⟨A, cap, k1, k2, k3⟩ := arr_shape hi
      rw [k1] at h1
      refine alts b _ A _ cap e h1 hu hbb (fun hA => ?_) hr
      obtain ⟨cs, q1, _⟩ := hi
      rcases q1.2 with ⟨hn, hz⟩ | ⟨g, cp, cur, hv, _⟩
      · exact hz
      · rw [k1, hA] at hv; simp at hv
    · cases hr
  · cases hr

/-- Any operation that comes to something. -/
theorem op_loud (T : TabOk P tt eqt) (S : ∀ f s, sp f = some s → FnOk P f s) (h : ROk E st a c) (hlk : LockOk st) {r : Res} (hr : opA tt eqt sp st o = some r) (hpre : ∀ q ∈ r.pre, q) (hK : goAlts E.nt st hold r.rel o.dst K r.alts) :
    o.wp P a c.w (Post E st hold c o.dst K) Q := by
  cases hp : pureOp o with
  | true =>
    obtain ⟨v, cv, h1, h2, h3, h4⟩ := pure_op T h hp hr hpre
    rw [h1, h2] at hK
    exact val_loud h hlk hK (h4 _) h3
  | false =>
    have rd : ∀ R, readsOf st o = some R → o.wp P a c.w (Post E st hold c o.dst K) Q := fun R hR => by
      obtain ⟨v, cv, h1, h2, h3, h4⟩ := read_op T h hR hr hpre
      rw [h1, h2] at hK
      exact val_loud h hlk hK (h4 _ ⟨fun _ _ => rfl, fun _ _ _ _ _ => rfl⟩) h3
    cases hop : o.op <;> try (simp [pureOp, hop] at hp; done)
    case binOp bo t x y u => exact nilSl_loud T h hlk hop (by simpa [pureOp, hop] using hp) hr hK
    case alloc t => exact alloc_loud T h hlk hop hr hK
    case box t x => exact box_loud h hlk hop hr hK
    case buildSlice t n ps => exact buildSlice_loud T h hlk hop hr hK
    case load t x => exact let ⟨R, hR⟩ := load_reads hop hr; rd R hR
    case store t x y => exact storeA_loud T h hlk hop hr hpre hK
    case makeMap t z => exact makeMap_loud T h hlk hop hr hK
    case lookup t x i ok => exact let ⟨R, hR⟩ := lookup_reads hop hr; rd R hR
    case mapUpdate t m x y => exact update_loud T h hlk hop hr hpre hK
    case range t x => exact range_loud T h hlk hop hr hK
    case next it s => exact next_loud h hlk hop hr hK
    case entry it => exact entry_loud h hlk hop hr hK
    case call cl =>
      obtain ⟨ce, args, ats⟩ := cl
      cases ce with
      | value f => exact call_loud S h hlk hop hr hpre hK
      | invoke r n => simp [opA, hop] at hr
      | builtin b =>
        cases b <;> try (simp [opA, hop, builtA] at hr; done)
        case len => exact let ⟨R, hR⟩ := len_reads hop hr; rd R hR
        case append => exact append_loud T h hlk hop hr hpre hK
        case delete => exact delete_loud T h hlk hop hr hpre hK
        all_goals (simp [pureOp, hop] at hp)
    all_goals (simp [opA, hop] at hr)

theorem preAll_iff {X : Prop} : ∀ {ps : List Prop}, preAll ps X → (∀ q ∈ ps, q) ∧ X
  | [], h => ⟨fun q hq => absurd hq (by simp), h⟩
  | p :: ps, h => by
    obtain ⟨h1, h2⟩ := preAll_iff h.2
    exact ⟨fun q hq => (List.mem_cons.1 hq).elim (fun e => e ▸ h.1.out) (h1 q), h2⟩
theorem hypAll_iff {X : Prop} : ∀ {ps : List Prop}, hypAll ps X → (∀ q ∈ ps, q) → X
  | [], h, _ => h
  | p :: ps, h, hq => hypAll_iff (h ⟨hq p (by simp)⟩) fun q hm => hq q (by simp [hm])

/-! ### A test -/

/-- The state, after a test whose answer is now known. -/
def Ref (st st' : St) (t : Nat) : Prop := st' = st ∨ ((∃ b, st.tmp t = .bool b) ∧ (st' = st.put (some t) .tt ∨ st' = st.put (some t) .ff))

theorem Ref.kp {st st' : St} {t : Nat} (h : Ref st st' t) : Kp st st' [t] := by
  have : ∀ v, Kp st (st.put (some t) v) [t] := fun v => ⟨fun _ _ => rfl, rfl, fun u hu => by
    left
    show look .undef ((t, v) :: st.tmps) u = _
    simp only [look, nbeq_ne (fun e => hu (by simp [e]) : t ≠ u), cond_false]
    rfl, fun _ h => h⟩
  rcases h with rfl | ⟨_, rfl | rfl⟩
  · exact Kp.refl _ _
  · exact this _
  · exact this _
theorem Ref.at {st st' : St} {t : Nat} (h : Ref st st' t) : (∀ p, st'.at p = st.at p) ∧ st'.heap = st.heap ∧ st'.lock = st.lock ∧ st'.next = st.next := by
  rcases h with rfl | ⟨_, rfl | rfl⟩ <;> exact ⟨fun _ => rfl, rfl, rfl, rfl⟩
theorem Ref.lock {st st' : St} {t : Nat} (h : Ref st st' t) (hlk : LockOk st) : LockOk st' := hlk.kp h.kp
theorem Ref.eval {st st' : St} {t : Nat} (h : Ref st st' t) (x : Operand) : evalA st' x = evalA st x ∨ ∃ b, evalA st x = .bool b := by
  rcases h with rfl | ⟨⟨b, hb⟩, h⟩
  · exact .inl rfl
  · cases x with
    | tmp u =>
      by_cases hu : t = u
      · subst hu; exact .inr ⟨b, hb⟩
      · left
        rcases h with rfl | rfl <;> (show look .undef ((t, _) :: st.tmps) u = _; simp only [look, nbeq_ne hu, cond_false]; rfl)
    | _ => rcases h with rfl | rfl <;> exact .inl rfl

theorem put_ok (h : ROk E st a c) {t : Nat} {v : AV} (hv : CV c v (a.tmps.getD t undef)) : ROk E (st.put (some t) v) a c := by
  refine ⟨h.Dk, fun u => ?_, h.sz, h.df, h.it, h.dj, h.lt, h.im, h.im0, h.im1, h.fr⟩
  show CV c (look .undef ((t, v) :: st.tmps) u) _
  by_cases hu : t = u
  · subst hu; simpa [look] using hv
  · simp only [look, nbeq_ne hu, cond_false]; exact h.tm u

theorem splitT_ok (h : ROk E st a c) {t : Nat} {yes no skip : St → Prop} (hs : splitT st t yes no skip) :
    (∃ st', ROk E st' a c ∧ Ref st st' t ∧ st'.tmp t = .tt ∧ yes st') ∨ (∃ st', ROk E st' a c ∧ Ref st st' t ∧ st'.tmp t = .ff ∧ no st') ∨ (st.tmp t = .skip ∧ skip st) := by
  unfold splitT at hs
  have ht := h.tm t
  split at hs
  · rename_i he; exact .inl ⟨st, h, .inl rfl, he, hs⟩
  · rename_i he; exact .inr (.inl ⟨st, h, .inl rfl, he, hs⟩)
  · rename_i b he
    rw [he] at ht
    simp only [CV] at ht
    have hl : ∀ v, (st.put (some t) v).tmp t = v := fun v => by show look .undef ((t, v) :: st.tmps) t = v; simp [look]
    cases b with
    | true => exact .inl ⟨_, put_ok h (by simpa [CV] using ht), .inr ⟨⟨_, he⟩, .inl rfl⟩, hl _, hs.t rfl⟩
    | false => exact .inr (.inl ⟨_, put_ok h (by simpa [CV] using ht), .inr ⟨⟨_, he⟩, .inr rfl⟩, hl _, hs.f rfl⟩)
  · rename_i he; exact .inr (.inr ⟨he, hs⟩)
  · exact hs.elim

/-! ### A step -/

/-- What a step leaves; ts: the slots that it may have written. -/
def PostT (E : Env) (st : St) (hold : List Nat) (c : Ctx) (ts : List Nat) (K : St → Prop) (a' : Act) (w' : World) : Prop :=
  ∃ st' c', c'.w = w' ∧ ROk E st' a' c' ∧ K st' ∧ Kp st st' ts ∧ Hd c c' (hold ++ st.lock)

theorem Post.toT {dst : Option Nat} {ts : List Nat} {st0 : St} {a' : Act} {w' : World} (h : Post E st hold c dst K a' w') (h0 : Kp st0 st ts) (hd : ∀ t ∈ dst.toList, t ∈ ts) : PostT E st0 hold c ts K a' w' :=
  let ⟨st', c', h1, h2, h3, h4, h5⟩ := h
  ⟨st', c', h1, h2, h3, h0.trans (h4.mono hd), by rw [← h0.lockl]; exact h5⟩

variable {C : Cx}

theorem ROk.seat (h : ROk E st a c) (o : Oper) : ROk E (st.seat o) a c := by
  unfold St.seat
  split
  · exact ⟨h.Dk, h.tm, h.sz, h.df, h.it, h.dj, h.lt, h.im, h.im0, h.im1, h.fr⟩
  · exact h
theorem LockOk.seat (h : LockOk st) (o : Oper) : LockOk (st.seat o) := by
  unfold St.seat
  split
  · exact h
  · exact h
theorem Kp.seat (st : St) (o : Oper) (ts : List Nat) : Kp st (st.seat o) ts := by
  unfold St.seat
  split
  · exact ⟨fun _ _ => rfl, rfl, fun _ _ => .inl rfl, fun _ h => h⟩
  · exact Kp.refl _ _
theorem seat_lock (st : St) (o : Oper) : (st.seat o).lock = st.lock := by
  unfold St.seat; split <;> rfl
theorem seat_tmp (st : St) (o : Oper) (t : Nat) : (st.seat o).tmp t = st.tmp t := by
  unfold St.seat; split <;> rfl
theorem seat_at (st : St) (o : Oper) (t : Nat) : (st.seat o).at t = st.at t := by
  unfold St.seat; split <;> rfl
theorem seat_eval (st : St) (o : Oper) (x : Operand) : evalA (st.seat o) x = evalA st x := by
  unfold St.seat; split <;> (cases x <;> rfl)
theorem seat_reads (st : St) (o p : Oper) : readsOf (st.seat o) p = readsOf st p := by
  unfold readsOf
  have e : evalA (st.seat o) = evalA st := funext (seat_eval st o)
  have e2 : poolAt (st.seat o) = poolAt st := by funext q; unfold St.seat; split <;> rfl
  rw [e, e2]

theorem runOp0_ok (T : TabOk P C.tt C.eqt) (S : ∀ f s, C.sp f = some s → FnOk P f s) (hnt : E.nt = C.nt) (h : ROk E st a c) (hlk : LockOk st) (hr : runOp0 C hold o st K) : o.wp P a c.w (Post E st hold c o.dst K) Q := by
  unfold runOp0 at hr
  split at hr
  · rename_i r he
    obtain ⟨h1, h2⟩ := preAll_iff hr
    refine Oper.wp_mono (fun a' w' hp => ?_) (op_loud T S (h.seat o) (hlk.seat o) he h1 (hnt ▸ h2))
    obtain ⟨st', c', r1, r2, r3, r4, r5⟩ := hp
    exact ⟨st', c', r1, r2, r3, (Kp.seat st o _).trans r4, seat_lock st o ▸ r5⟩
  · exact hr.elim

theorem runOp_ok (T : TabOk P C.tt C.eqt) (S : ∀ f s, C.sp f = some s → FnOk P f s) (hnt : E.nt = C.nt) (h : ROk E st a c) (hlk : LockOk st) (hr : runOp C hold o st K) : o.wp P a c.w (Post E st hold c o.dst K) Q := by
  unfold runOp at hr
  split at hr
  · exact runOp0_ok T S hnt h hlk hr
  · cases hdo : dstOk 1000000000 o.dst with
    | false => rw [hdo] at hr; exact hr.elim
    | true =>
    rw [hdo] at hr
    simp only [cond_true] at hr
    have hts : ∀ t ∈ o.dst.toList, t < 1000000000 := fun t ht => by
      cases hd : o.dst with
      | none => rw [hd] at ht; simp at ht
      | some d => rw [hd] at ht hdo; simp at ht; subst ht; simpa [dstOk, Nat.blt_eq] using hdo
    refine open_ok _ 0 st c _ h hlk hr fun os st1 c1 hw h1 hlk1 hl hop hx => ?_
    have := runOp0_ok (Q := Q) T S hnt h1 hlk1 hx
    rw [hw] at this
    refine Oper.wp_mono (fun a' w' hp => ?_) this
    obtain ⟨s, d, r1, r2, r3, r4, r5⟩ := hp
    obtain ⟨s', d', k1, k2, k3, k4, k5⟩ := close_ok hop hts r2 r4 r5 r3
    exact ⟨s', d', k1.trans r1, k2, k3, k4, k5⟩
theorem slots_pure (hp : pureOp o = true) : refSlots C st o = [] := by
  unfold refSlots
  unfold pureOp at hp
  split
  · rename_i c hop
    rw [hop] at hp
    simp only at hp
    split
    · rename_i f hc; rw [hc] at hp; cases hp
    · rfl
  · rfl
theorem slots_reads {R : Option Nat} (hp : readsOf st o = some R) : refSlots C st o = [] := by
  unfold refSlots
  unfold readsOf at hp
  split
  · rename_i c hop
    rw [hop] at hp
    simp only at hp
    split
    · rename_i f hc; rw [hc] at hp; simp at hp
    · rfl
  · rfl
theorem runOp_nil (hs : refSlots C st o = []) (hr : runOp C hold o st K) : runOp0 C hold o st K := by
  unfold runOp at hr
  rw [hs] at hr
  exact hr

/-- What is carried out is one step, in a state of which more may be known. -/
theorem execA_ref (h : ROk E st a c) (hx : execA C hold o st K) : ∃ st', ROk E st' a c ∧ runOp C hold o st' K ∧ (st' = st ∨ ∃ t x y, o.op = .pick (.tmp t) x y ∧ Ref st st' t) := by
  unfold execA at hx
  split at hx
  · rename_i t x y hop
    rcases splitT_ok h hx with ⟨st', h1, h2, h3, h4⟩ | ⟨st', h1, h2, h3, h4⟩ | ⟨_, h4⟩
    · exact ⟨st', h1, h4, .inr ⟨t, x, y, hop, h2⟩⟩
    · exact ⟨st', h1, h4, .inr ⟨t, x, y, hop, h2⟩⟩
    · exact h4.elim
  · exact ⟨st, h, hx, .inl rfl⟩

theorem yielded_at (h : ROk E st a c) {ops : List Oper} {j t : Nat} (hj : (ops[j]?).bind (·.dst) = some t) :
    (st.tmp t = .tt → yielded ops.toArray a.tmps j = some true) ∧ (st.tmp t = .ff → yielded ops.toArray a.tmps j = some false) ∧ (st.tmp t = .skip → yielded ops.toArray a.tmps j = none) := by
  have ht := h.tm t
  have hy : yielded ops.toArray a.tmps j = match a.tmps[t]? with | some (.bool b) => some b | _ => none := by
    unfold yielded
    rw [List.getElem?_toArray, hj]
    rfl
  rw [Array.getD_eq_getD_getElem?] at ht
  refine ⟨fun he => ?_, fun he => ?_, fun he => ?_⟩ <;> rw [he] at ht <;> simp only [CV] at ht <;> rw [hy] <;> cases hg : a.tmps[t]? with
  | none => rw [hg] at ht; all_goals first | rfl | (simp [undef] at ht)
  | some v => rw [hg] at ht; exact (show v = _ from ht) ▸ rfl

/-- A step: it is carried out, or it is not, as its guard says. -/
theorem stepA_ref (h : ROk E st a c) {ops : List Oper} (hs : stepA C hold ops o st K) :
    ∃ st', ROk E st' a c ∧ (st' = st ∨ ∃ t b, guardT ops o = some (some t, b) ∧ Ref st st' t) ∧
      ((Region.wanted o (yielded ops.toArray a.tmps) = true ∧ execA C hold o st' K) ∨ (Region.wanted o (yielded ops.toArray a.tmps) = false ∧ skipA C o st' K)) := by
  unfold stepA at hs
  have hg : ∀ {j : Nat} {want : Bool}, o.guard = some (j, want) → Region.wanted o (yielded ops.toArray a.tmps) = (yielded ops.toArray a.tmps j == some want) := fun h => by simp [Region.wanted, h]
  cases hgd : o.guard with
  | none =>
    have : guardT ops o = none := by simp [guardT, hgd]
    rw [this] at hs
    exact ⟨st, h, .inl rfl, .inl ⟨by simp [Region.wanted, hgd], hs⟩⟩
  | some jw =>
    obtain ⟨j, want⟩ := jw
    have hgt : guardT ops o = some ((ops[j]?).bind (·.dst), want) := by simp [guardT, hgd]
    rw [hgt] at hs
    cases hd : (ops[j]?).bind (·.dst) with
    | none =>
      rw [hd] at hs
      refine ⟨st, h, .inl rfl, .inr ⟨?_, hs⟩⟩
      rw [hg hgd]
      unfold yielded
      rw [List.getElem?_toArray, hd]
      rfl
    | some t =>
      rw [hd] at hs hgt
      cases want with
      | true =>
        rcases splitT_ok h hs with ⟨st', h1, h2, h3, h4⟩ | ⟨st', h1, h2, h3, h4⟩ | ⟨h3, h4⟩
        · exact ⟨st', h1, .inr ⟨t, true, hgt, h2⟩, .inl ⟨by rw [hg hgd, (yielded_at h1 hd).1 h3]; rfl, h4⟩⟩
        · exact ⟨st', h1, .inr ⟨t, true, hgt, h2⟩, .inr ⟨by rw [hg hgd, (yielded_at h1 hd).2.1 h3]; rfl, h4⟩⟩
        · exact ⟨st, h, .inl rfl, .inr ⟨by rw [hg hgd, (yielded_at h hd).2.2 h3]; rfl, h4⟩⟩
      | false =>
        rcases splitT_ok h hs with ⟨st', h1, h2, h3, h4⟩ | ⟨st', h1, h2, h3, h4⟩ | ⟨h3, h4⟩
        · exact ⟨st', h1, .inr ⟨t, false, hgt, h2⟩, .inr ⟨by rw [hg hgd, (yielded_at h1 hd).1 h3]; rfl, h4⟩⟩
        · exact ⟨st', h1, .inr ⟨t, false, hgt, h2⟩, .inl ⟨by rw [hg hgd, (yielded_at h1 hd).2.1 h3]; rfl, h4⟩⟩
        · exact ⟨st, h, .inl rfl, .inr ⟨by rw [hg hgd, (yielded_at h hd).2.2 h3]; rfl, h4⟩⟩

theorem skipA_ok (hnt : E.nt = C.nt) (h : ROk E st a c) (hs : skipA C o st K) : ROk E (st.put o.dst .skip) (a.put o.dst undef) c ∧ K (st.put o.dst .skip) ∧ Kp st (st.put o.dst .skip) o.dst.toList := by
  unfold skipA at hs
  cases hd : dstOk C.nt o.dst with
  | false => rw [hd] at hs; exact hs.elim
  | true =>
    rw [hd] at hs
    refine ⟨?_, hs, ?_⟩
    · have hp : ∀ (d : Nat), o.dst = some d → d < a.tmps.size := fun d he => Nat.lt_of_lt_of_le (by rw [he] at hd; simpa [dstOk, Nat.blt_eq, hnt] using hd) h.sz
      cases hdst : o.dst with
      | none => exact h
      | some d =>
        refine ⟨h.Dk, fun u => ?_, by simpa [Act.put] using h.sz, h.df, h.it, h.dj, h.lt, h.im, h.im0, h.im1, h.fr⟩
        show CV c (look .undef ((d, .skip) :: st.tmps) u) ((a.tmps.setIfInBounds d undef).getD u undef)
        by_cases hu : d = u
        · subst hu
          simp only [look, Nat.beq_refl, cond_true]
          rw [Array.getD_eq_getD_getElem?, Array.getElem?_setIfInBounds_self_of_lt (hp d hdst)]
          simp [CV]
        · simp only [look, nbeq_ne hu, cond_false]
          rw [Array.getD_eq_getD_getElem?, Array.getElem?_setIfInBounds_ne hu, ← Array.getD_eq_getD_getElem?]
          exact h.tm u
    · cases hdst : o.dst with
      | none => exact Kp.refl _ _
      | some d => exact ⟨fun _ _ => rfl, rfl, fun u hu => by
          left
          show look .undef ((d, .skip) :: st.tmps) u = _
          simp only [look, nbeq_ne (fun e => hu (by simp [e]) : d ≠ u), cond_false]
          rfl, fun _ h => h⟩

theorem stepA_ok (T : TabOk P C.tt C.eqt) (S : ∀ f s, C.sp f = some s → FnOk P f s) (hnt : E.nt = C.nt) (h : ROk E st a c) (hlk : LockOk st) {ops : List Oper} {i : Nat} (hi : ops[i]? = some o) (hs : stepA C hold ops o st K) :
    wpOp P ops.toArray Q i (PostT E st hold c (stepTs ops o) K) a c.w := by
  obtain ⟨st', h1, h2, h3⟩ := stepA_ref h hs
  have k1 : Kp st st' (stepTs ops o) := by
    rcases h2 with rfl | ⟨t, b, hg, h2⟩
    · exact Kp.refl _ _
    · exact h2.kp.mono fun u hu => by simp only [List.mem_singleton] at hu; subst hu; simp [stepTs, hg]
  unfold wpOp
  rw [List.getElem?_toArray, hi]
  simp only
  rcases h3 with ⟨hw, hx⟩ | ⟨hw, hx⟩
  · rw [if_pos hw]
    left
    obtain ⟨st2, h4, h5, h6⟩ := execA_ref h1 hx
    have k2 : Kp st' st2 (stepTs ops o) := by
      rcases h6 with rfl | ⟨t, x, y, hop, h6⟩
      · exact Kp.refl _ _
      · exact h6.kp.mono fun u hu => by simp only [List.mem_singleton] at hu; subst hu; simp [stepTs, hop]
    refine Oper.wp_mono (fun a' w' hp => Post.toT hp (k1.trans k2) fun t ht => by simp [stepTs]; simp at ht; simp [ht]) (runOp_ok T S hnt h4 ((hlk.kp k1).kp k2) h5)
  · rw [if_neg (by rw [hw]; simp)]
    obtain ⟨h4, h5, h6⟩ := skipA_ok hnt h1 hx
    exact ⟨_, c, rfl, h4, h5, k1.trans (h6.mono fun t ht => by simp [stepTs]; simp at ht; simp [ht]), Hd.refl _ _⟩
end
end Go.Proofs.Ytljimnhijpcjaaa.VC
