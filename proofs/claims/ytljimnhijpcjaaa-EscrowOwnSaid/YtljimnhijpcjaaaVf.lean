/- The operations that do nothing to memory: what the abstract machine says of them holds of the program. Plain lemmas; no conditions but those that each names. -/
import Derived.Test.YtljimnhijpcjaaaVea
import Derived.Deep.Slices
import Derived.Laws.Small
import Derived.Laws.StructEq
set_option linter.unusedVariables false
set_option linter.unusedSimpArgs false
set_option linter.unusedSectionVars false
namespace Go.Proofs.Ytljimnhijpcjaaa.VC
open Go

structure TIok (P : Program) (t : TypeId) (ti : TI) : Prop where
  und : (P.underlying t).map Kn.of = some ti.kn
  inf : (P.info? t).map (fun i => (i.size, i.bytes, i.zero)) = some (ti.size, ti.bytes, some ti.zero)
  ty : ∀ e, ti.ty = some e → e.sz = ti.size ∧ e.agg = ti.kn.agg ∧ ti.zero.cells.toList = e.zcells
  tyi : ∀ q, ti.ty = some (.int q) → ti.kn = .int q
  za : (match ti.zero with | .agg _ => true | _ => false) = ti.kn.agg

structure EqOk (P : Program) (eqt : TypeId → Option (List EF)) (t : TypeId) (ks : List EF) : Prop where
  grd : P.eqGuardType P.depth t = false
  eq : ∀ (w : World) (xs ys : List Value) (ax ay : List AV) (c : Ctx) (b : Bool), CVL c ax xs → CVL c ay ys → eqcA eqt 4 ks ax ay = some b → (Op.equal t (.agg xs.toArray) (.agg ys.toArray)).run P w = .ok b w

structure TabOk (P : Program) (tt : TypeId → Option TI) (eqt : TypeId → Option (List EF)) : Prop where
  ti : ∀ t ti, tt t = some ti → TIok P t ti
  eq : ∀ t ks, eqt t = some ks → EqOk P eqt t ks

theorem TIok.desc {P : Program} {t : TypeId} {ti : TI} (h : TIok P t ti) : ∃ d, P.underlying t = some d ∧ Kn.of d = ti.kn := by
  have := h.und
  cases hu : P.underlying t with
  | none => simp [hu] at this
  | some d => exact ⟨d, rfl, by simpa [hu] using this⟩
theorem TIok.info {P : Program} {t : TypeId} {ti : TI} (h : TIok P t ti) : ∃ i, P.info? t = some i ∧ i.size = ti.size ∧ i.bytes = ti.bytes ∧ i.zero = some ti.zero := by
  have := h.inf
  cases hu : P.info? t with
  | none => simp [hu] at this
  | some d => simp [hu] at this; exact ⟨d, rfl, this⟩
theorem TIok.runSize {P : Program} {t : TypeId} {ti : TI} (h : TIok P t ti) (w : World) : (sizeOf t).run P w = .ok ti.size w := by
  obtain ⟨i, h1, h2, _⟩ := h.info
  simp [sizeOf, typeInfo, h1, h2]
theorem TIok.runZero {P : Program} {t : TypeId} {ti : TI} (h : TIok P t ti) (w : World) : (zeroValue t).run P w = .ok ti.zero w := by
  obtain ⟨i, h1, _, _, h2⟩ := h.info
  simp [zeroValue, typeInfo, h1, h2]
theorem TIok.runAgg {P : Program} {t : TypeId} {ti : TI} (h : TIok P t ti) (w : World) : (isAgg t).run P w = .ok ti.kn.agg w := by
  obtain ⟨d, h1, h2⟩ := h.desc
  rw [← h2]
  simp only [isAgg, Sem.run_bind, run_underlying h1, Result.andThen_ok]
  cases d <;> rfl
theorem of_slice {d : TypeDesc} {e : TypeId} (h : Kn.of d = .slice e) : d = .slice e := by cases d <;> simp [Kn.of] at h <;> simp [h]
theorem of_map {d : TypeDesc} {k v : TypeId} (h : Kn.of d = .map k v) : d = .map k v := by cases d <;> simp [Kn.of] at h <;> simp [h]
theorem of_int {d : TypeDesc} {k : IntKind} (h : Kn.of d = .int k) : d = .int k := by cases d <;> simp [Kn.of] at h <;> simp [h]
theorem of_array {d : TypeDesc} {n : Nat} {e : TypeId} (h : Kn.of d = .array n e) : d = .array n e := by cases d <;> simp [Kn.of] at h <;> simp [h]
theorem of_struct {d : TypeDesc} {l : List (TypeId × Nat)} (h : Kn.of d = .struct l) : ∃ fs, d = .struct fs ∧ fs.toList.map (fun f => (f.type, f.offset)) = l := by
  cases d <;> simp [Kn.of] at h <;> exact ⟨_, rfl, h⟩
theorem TIok.slice {P : Program} {t : TypeId} {ti : TI} {e : TypeId} (h : TIok P t ti) (hk : ti.kn = .slice e) : P.underlying t = some (.slice e) := by
  obtain ⟨d, h1, h2⟩ := h.desc
  rw [h1, of_slice (h2.trans hk)]
theorem TIok.map {P : Program} {t : TypeId} {ti : TI} {k v : TypeId} (h : TIok P t ti) (hk : ti.kn = .map k v) : P.underlying t = some (.map k v) := by
  obtain ⟨d, h1, h2⟩ := h.desc
  rw [h1, of_map (h2.trans hk)]
theorem TIok.int {P : Program} {t : TypeId} {ti : TI} {k : IntKind} (h : TIok P t ti) (hk : ti.kn = .int k) : P.underlying t = some (.int k) := by
  obtain ⟨d, h1, h2⟩ := h.desc
  rw [h1, of_int (h2.trans hk)]
theorem TIok.array {P : Program} {t : TypeId} {ti : TI} {n : Nat} {e : TypeId} (h : TIok P t ti) (hk : ti.kn = .array n e) : P.underlying t = some (.array n e) := by
  obtain ⟨d, h1, h2⟩ := h.desc
  rw [h1, of_array (h2.trans hk)]
theorem TIok.struct {P : Program} {t : TypeId} {ti : TI} {l : List (TypeId × Nat)} (h : TIok P t ti) (hk : ti.kn = .struct l) : ∃ fs, P.underlying t = some (.struct fs) ∧ fs.toList.map (fun f => (f.type, f.offset)) = l := by
  obtain ⟨d, h1, h2⟩ := h.desc
  obtain ⟨fs, h3, h4⟩ := of_struct (h2.trans hk)
  exact ⟨fs, by rw [h1, h3], h4⟩

/-! ### Numbers -/

theorem wrap_range (k : IntKind) (n : Int) : InR k (k.wrap n) := by
  unfold InR
  cases k <;> simp only [IntKind.wrap, IntKind.min, IntKind.max, IntKind.bits, IntKind.signed] <;> simp <;> omega
theorem wrap_in {k : IntKind} {n : Int} (h : InR k n) : k.wrap n = n := by
  unfold InR at h
  cases k <;> simp only [IntKind.wrap, IntKind.min, IntKind.max, IntKind.bits, IntKind.signed] at * <;> simp at * <;> omega
theorem inR_zero (k : IntKind) : InR k 0 := by
  unfold InR
  cases k <;> simp [IntKind.min, IntKind.max, IntKind.bits, IntKind.signed]
theorem inR_len {n : Nat} (h : n ≤ maxLen) : InR .i64 (n : Int) := by
  unfold InR maxLen at *
  simp [IntKind.min, IntKind.max, IntKind.bits, IntKind.signed]; omega
theorem inR_tmod {k : IntKind} {a : Int} (b : Int) (h : InR k a) : InR k (a.tmod b) := by
  have h0 := inR_zero k
  unfold InR at *
  rcases Int.lt_or_le a 0 with ha | ha
  · have h1 : a ≤ a.tmod b ∧ a.tmod b ≤ 0 := by
      have h2 : a = -(-a) := by omega
      rw [h2, Int.neg_tmod]
      have h3 : 0 ≤ -a := by omega
      have h4 := Int.tmod_nonneg b h3
      have h5 : (-a).tmod b ≤ -a := by
        rw [← Int.natAbs_of_nonneg h4, ← Int.natAbs_of_nonneg h3, Int.natAbs_tmod]
        exact Int.ofNat_le.2 (Nat.mod_le _ _)
      omega
    omega
  · have h4 := Int.tmod_nonneg b ha
    have h5 : a.tmod b ≤ a := by
      rw [← Int.natAbs_of_nonneg h4, ← Int.natAbs_of_nonneg ha, Int.natAbs_tmod]
      exact Int.ofNat_le.2 (Nat.mod_le _ _)
    omega

theorem avOfN_cv (c : Ctx) : ∀ (n : Nat) (v : Value), CV c (avOfN n v) v := by
  intro n
  induction n with
  | zero => intro v; simp [avOfN, CV]
  | succ n ih =>
    intro v
    cases v with
    | bool b => cases b <;> simp [avOfN, CV]
    | int k m =>
      simp only [avOfN]
      cases hb : decide (k.min ≤ m) && decide (m ≤ k.max) with
      | true => simp at hb; simp [CV, InR, hb]
      | false => simp [CV]
    | pointer a => cases a <;> simp [avOfN, CV]
    | slice a m k =>
      cases a
      · cases m <;> cases k <;> simp [avOfN, CV]
      · simp [avOfN, CV]
    | map r => cases r <;> simp [avOfN, CV]
    | nilFunc => simp [avOfN, CV]
    | agg cs =>
      simp only [avOfN, CV]
      refine ⟨cs.toList, by simp, ?_⟩
      generalize cs.toList = l
      induction l with
      | nil => trivial
      | cons x l ihl => exact ⟨ih x, ihl⟩
    | float k m => simp [avOfN, CV]
    | complex k m o => simp [avOfN, CV]
    | string s => simp [avOfN, CV]
    | chan r => simp [avOfN, CV]
    | func f x y => simp [avOfN, CV]
    | iface t v => simp [avOfN, CV]
    | nilIface => simp [avOfN, CV]
    | tuple vs => simp [avOfN, CV]
theorem avOf_cv (c : Ctx) (v : Value) : CV c (avOf v) v := avOfN_cv c 3 v

section
variable {P : Program} {tt : TypeId → Option TI} {eqt : TypeId → Option (List EF)} {sp : FuncId → Option Spc} {E : Env} {st : St} {a : Act} {c : Ctx}

theorem eval_cv (h : ROk E st a c) (x : Operand) : CV c (evalA st x) (a.eval x) := by
  cases x with
  | tmp t => exact h.tm t
  | const v => exact avOf_cv c v
  | global g => simp [evalA, CV]
  | func f => simp only [evalA, Act.eval, CV]; exact ⟨[], rfl, trivial⟩

/-- A quiet operation: one value in whatever world. -/
def PureAt (P : Program) (c : Ctx) (s : Sem Next) (r : Res) : Prop :=
  ∃ v cv, r.rel = [] ∧ r.alts = [.det v [] []] ∧ CV c v cv ∧ ∀ w', s.run P w' = .ok (.value cv) w'

theorem PureAt.qv {s : Sem Next} {v : AV} {cv : Value} {r : Res} (hr : qv v = some r) (hc : CV c v cv) (hs : ∀ w', s.run P w' = .ok (.value cv) w') : PureAt P c s r := by
  simp only [VC.qv, Option.some.injEq] at hr
  subst hr
  exact ⟨v, cv, rfl, rfl, hc, hs⟩
theorem PureAt.qp {s : Sem Next} {p : List Prop} {v : AV} {cv : Value} {r : Res} (hr : qp p v = some r) (hc : CV c v cv) (hs : ∀ w', s.run P w' = .ok (.value cv) w') : PureAt P c s r := by
  simp only [VC.qp, Option.some.injEq] at hr
  subst hr
  exact ⟨v, cv, rfl, rfl, hc, hs⟩
theorem qp_pre {p : List Prop} {v : AV} {r : Res} (hr : qp p v = some r) (h : ∀ q ∈ r.pre, q) : ∀ q ∈ p, q := by
  simp only [VC.qp, Option.some.injEq] at hr
  subst hr
  exact h

theorem cv_bool (c : Ctx) (b : Bool) : CV c (.bool b) (.bool b) := by simp [CV]
theorem cv_int (c : Ctx) {k : IntKind} {n : Int} (h : InR k n) : CV c (.int k n) (.int k n) := by simp [CV, h]
theorem toBool_cv {x : AV} {b : Bool} {cv : Value} (h : x.toBool? = some b) (hc : CV c x cv) : cv = .bool b := by
  cases x <;> simp [AV.toBool?] at h <;> subst h <;> simpa [CV] using hc

theorem run_v (s : Sem Value) (cv : Value) (w : World) (h : s.run P w = .ok cv w) : (do pure (Next.value (← s)) : Sem Next).run P w = .ok (.value cv) w := by
  simp [h]

theorem intA_at {op : BinOp} {k : IntKind} {a b : Int} {r : Res} {t : TypeId} {x y : Operand} (hr : intA op k a b = some r) (ha : InR k a) (hb : InR k b) (hpre : ∀ q ∈ r.pre, q) :
    PureAt P c (do pure (Next.value (← (do eqGuard op t x y (.int k a) (.int k b); binOp op t (.int k a) (.int k b))))) r := by
  unfold intA at hr
  split at hr
  · exact .qv hr (by simp only [CV]; exact ⟨wrap_range _ _, rfl⟩) (fun w' => run_v _ _ _ (by simp [eqGuard_at_int, binOp, Op.intArith]))
  · exact .qv hr (by simp only [CV]; exact ⟨wrap_range _ _, rfl⟩) (fun w' => run_v _ _ _ (by simp [eqGuard_at_int, binOp, Op.intArith]))
  · exact .qv hr (by simp only [CV]; exact ⟨wrap_range _ _, rfl⟩) (fun w' => run_v _ _ _ (by simp [eqGuard_at_int, binOp, Op.intArith]))
  · have h0 : b ≠ 0 := qp_pre hr hpre _ (by simp)
    exact .qp hr (by simp only [CV]; exact ⟨wrap_range _ _, rfl⟩) (fun w' => run_v _ _ _ (by simp [eqGuard_at_int, binOp, Op.intDiv, h0]))
  · have h0 : b ≠ 0 := qp_pre hr hpre _ (by simp)
    exact .qp hr (by simp only [CV]; exact ⟨inR_tmod _ ha, rfl⟩) (fun w' => run_v _ _ _ (by simp [eqGuard_at_int, binOp, Op.intDiv, h0]))
  · exact .qv hr (by simp only [CV]; exact ⟨wrap_range _ _, rfl⟩) (fun w' => run_v _ _ _ (by simp [eqGuard_at_int, binOp, Op.intBits]))
  · exact .qv hr (by simp only [CV]; exact ⟨wrap_range _ _, rfl⟩) (fun w' => run_v _ _ _ (by simp [eqGuard_at_int, binOp, Op.intBits, bitAnd]))
  · exact .qv hr (by simp only [CV]; exact ⟨wrap_range _ _, rfl⟩) (fun w' => run_v _ _ _ (by simp [eqGuard_at_int, binOp, Op.intBits, bitOr]))
  · exact .qv hr (cv_bool _ _) (fun w' => run_v _ _ _ (by simp [eqGuard_at_int, binOp, Op.intCmp]))
  · exact .qv hr (cv_bool _ _) (fun w' => run_v _ _ _ (by simp [eqGuard_at_int, binOp, Op.intCmp]))
  · exact .qv hr (cv_bool _ _) (fun w' => run_v _ _ _ (by simp [eqGuard_at_int, binOp, Op.intCmp]))
  · exact .qv hr (cv_bool _ _) (fun w' => run_v _ _ _ (by simp [eqGuard_at_int, binOp, Op.intCmp]))
  · exact .qv hr (cv_bool _ _) (fun w' => run_v _ _ _ (by simp [eqGuard_at_int, binOp, Op.intCmp]))
  · exact .qv hr (cv_bool _ _) (fun w' => run_v _ _ _ (by simp [eqGuard_at_int, binOp, Op.intCmp]))
  · cases hr

theorem inR_shr {k : IntKind} {a : Int} (n : Nat) (h : InR k a) : InR k (a.fdiv (2 ^ n)) := by
  have hp : (0 : Int) < 2 ^ n := Int.pow_pos (by decide)
  rw [Int.fdiv_eq_ediv_of_nonneg a (Int.le_of_lt hp)]
  have h0 : k.min ≤ 0 ∧ 0 ≤ k.max := by cases k <;> decide
  have ha := h
  unfold InR at ha ⊢
  rcases Int.lt_or_le a 0 with hn | hn
  · have e1 : a ≤ a / 2 ^ n := by
      rw [Int.le_ediv_iff_mul_le hp]
      have : a * 2 ^ n ≤ a * 1 := Int.mul_le_mul_of_nonpos_left (by omega) (by omega)
      omega
    have e2 : a / 2 ^ n < 0 := Int.ediv_neg_of_neg_of_pos hn hp
    omega
  · have e1 : a / 2 ^ n ≤ a := Int.ediv_le_self _ hn
    have e2 : 0 ≤ a / 2 ^ n := Int.ediv_nonneg hn (Int.le_of_lt hp)
    omega
theorem eqGuard_shl {t : TypeId} {x y : Operand} {a b : Value} : eqGuard .shl t x y a b = pure () := rfl
theorem eqGuard_shr {t : TypeId} {x y : Operand} {a b : Value} : eqGuard .shr t x y a b = pure () := rfl
theorem shiftA_at {op : BinOp} {k j : IntKind} {a b : Int} {r : Res} {t : TypeId} {x y : Operand} (hr : shiftA op k a b = some r) (ha : InR k a) (hpre : ∀ q ∈ r.pre, q) :
    PureAt P c (do pure (Next.value (← (do eqGuard op t x y (.int k a) (.int j b); binOp op t (.int k a) (.int j b))))) r := by
  unfold shiftA at hr
  split at hr
  · have h0 : 0 ≤ b := qp_pre hr hpre _ (by simp)
    have h1 : ¬ b < 0 := by omega
    exact .qp hr (by simp only [CV]; exact ⟨wrap_range _ _, rfl⟩) (fun w' => run_v _ _ _ (by simp [eqGuard_shl, binOp, Op.shift, h1, shlI]))
  · have h0 : 0 ≤ b := qp_pre hr hpre _ (by simp)
    have h1 : ¬ b < 0 := by omega
    exact .qp hr (by simp only [CV]; exact ⟨inR_shr _ ha, rfl⟩) (fun w' => run_v _ _ _ (by simp [eqGuard_shr, binOp, Op.shift, h1, shrI]))
  · cases hr

/-- A test's outcome, as the abstract machine tells it. -/
def IsB (v : AV) (b : Bool) : Prop := v.toBool? = some b
theorem IsB.cv {v : AV} {b : Bool} (h : IsB v b) : CV c v (.bool b) := by
  unfold IsB at h
  cases v <;> simp [AV.toBool?] at h <;> subst h <;> simp [CV]
theorem IsB.not {v u : AV} {b : Bool} (h : IsB v b) (hu : notA v = some u) : IsB u (!b) := by
  unfold IsB at *
  cases v <;> simp [AV.toBool?] at h <;> subst h <;> simp [notA] at hu <;> subst hu <;> rfl

theorem run_equalIn_nil (d : Nat) {t e : TypeId} {w : World} (h : P.underlying t = some (.pointer e)) (a : Option Addr) : (Op.equalIn (d + 1) t (.pointer none) (.pointer a)).run P w = .ok a.isNone w := by
  simp [Op.equalIn, run_underlying h]
theorem run_equalIn_nil' (d : Nat) {t e : TypeId} {w : World} (h : P.underlying t = some (.pointer e)) (a : Addr) : (Op.equalIn (d + 1) t (.pointer (some a)) (.pointer none)).run P w = .ok false w := by
  simp [Op.equalIn, run_underlying h]
theorem run_equal_nil {t e : TypeId} {w : World} (h : P.underlying t = some (.pointer e)) (a : Option Addr) : (Op.equal t (.pointer none) (.pointer a)).run P w = .ok a.isNone w := run_equalIn_nil 9999 h a
theorem run_equal_nil' {t e : TypeId} {w : World} (h : P.underlying t = some (.pointer e)) (a : Addr) : (Op.equal t (.pointer (some a)) (.pointer none)).run P w = .ok false w := run_equalIn_nil' 9999 h a

theorem eqA_at (T : TabOk P tt eqt) {t : TypeId} {x y v : AV} {xv yv : Value} {ox oy : Operand} (hr : eqA tt eqt t x y = some v) (hx : CV c x xv) (hy : CV c y yv) :
    ∃ b, IsB v b ∧ ∀ w, (eqGuard .eql t ox oy xv yv).run P w = .ok () w ∧ (eqGuard .neq t ox oy xv yv).run P w = .ok () w ∧ (binOp .eql t xv yv).run P w = .ok (.bool b) w ∧ (binOp .neq t xv yv).run P w = .ok (.bool (!b)) w := by
  unfold eqA at hr
  split at hr
  · rename_i l xs ys hk
    obtain ⟨ti, hti, hkn⟩ := Option.map_eq_some_iff.1 hk
    split at hr
    · rename_i ks hks
      obtain ⟨b, hb, rfl⟩ := Option.map_eq_some_iff.1 hr
      have Eo := T.eq t ks hks
      simp only [CV] at hx hy
      obtain ⟨lx, rfl, hlx⟩ := hx
      obtain ⟨ly, rfl, hly⟩ := hy
      refine ⟨b, rfl, fun w => ?_⟩
      have he := Eo.eq w lx ly xs ys c b hlx hly hb
      have hg := Eo.grd
      refine ⟨by simp [eqGuard, hg], by simp [eqGuard, hg], ?_, ?_⟩
      · simp only [binOp]; simp [he]
      · simp only [binOp]; simp [he]
    · cases hr
  · rename_i e hk
    obtain ⟨ti, hti, hkn⟩ := Option.map_eq_some_iff.1 hk
    obtain ⟨d, hd, hdk⟩ := (T.ti t ti hti).desc
    have hp : ∃ e', d = .pointer e' := by rw [hkn] at hdk; cases d <;> simp [Kn.of] at hdk <;> exact ⟨_, rfl⟩
    obtain ⟨e', rfl⟩ := hp
    simp at hr; subst hr
    simp only [CV] at hx hy
    subst hx hy
    refine ⟨true, rfl, fun w => ⟨by simp [eqGuard], by simp [eqGuard], ?_, ?_⟩⟩ <;> simp only [binOp] <;> simp [run_equal_nil hd]
  · rename_i e p o hk
    obtain ⟨ti, hti, hkn⟩ := Option.map_eq_some_iff.1 hk
    obtain ⟨d, hd, hdk⟩ := (T.ti t ti hti).desc
    have hp : ∃ e', d = .pointer e' := by rw [hkn] at hdk; cases d <;> simp [Kn.of] at hdk <;> exact ⟨_, rfl⟩
    obtain ⟨e', rfl⟩ := hp
    simp at hr; subst hr
    simp only [CV] at hx hy
    obtain ⟨_, b, _, rfl⟩ := hx
    subst hy
    refine ⟨false, rfl, fun w => ⟨by simp [eqGuard], by simp [eqGuard], ?_, ?_⟩⟩ <;> simp only [binOp] <;> simp [run_equal_nil hd, run_equal_nil' hd]
  · rename_i e p o hk
    obtain ⟨ti, hti, hkn⟩ := Option.map_eq_some_iff.1 hk
    obtain ⟨d, hd, hdk⟩ := (T.ti t ti hti).desc
    have hp : ∃ e', d = .pointer e' := by rw [hkn] at hdk; cases d <;> simp [Kn.of] at hdk <;> exact ⟨_, rfl⟩
    obtain ⟨e', rfl⟩ := hp
    simp at hr; subst hr
    simp only [CV] at hx hy
    obtain ⟨_, b, _, rfl⟩ := hy
    subst hx
    refine ⟨false, rfl, fun w => ⟨by simp [eqGuard], by simp [eqGuard], ?_, ?_⟩⟩ <;> simp only [binOp] <;> simp [run_equal_nil hd, run_equal_nil' hd]
  · rename_i e q n hk
    obtain ⟨ti, hti, hkn⟩ := Option.map_eq_some_iff.1 hk
    obtain ⟨d, hd, hdk⟩ := (T.ti t ti hti).desc
    have hp : ∃ e', d = .pointer e' := by rw [hkn] at hdk; cases d <;> simp [Kn.of] at hdk <;> exact ⟨_, rfl⟩
    obtain ⟨e', rfl⟩ := hp
    simp at hr; subst hr
    simp only [CV] at hx hy
    subst hx hy
    cases n with
    | zero => refine ⟨true, rfl, fun w => ⟨by simp [eqGuard], by simp [eqGuard], ?_, ?_⟩⟩ <;> simp only [binOp, refVal] <;> simp [run_equal_nil hd]
    | succ m => refine ⟨false, rfl, fun w => ⟨by simp [eqGuard], by simp [eqGuard], ?_, ?_⟩⟩ <;> simp only [binOp, refVal] <;> simp [run_equal_nil hd, run_equal_nil' hd]
  · rename_i e q n hk
    obtain ⟨ti, hti, hkn⟩ := Option.map_eq_some_iff.1 hk
    obtain ⟨d, hd, hdk⟩ := (T.ti t ti hti).desc
    have hp : ∃ e', d = .pointer e' := by rw [hkn] at hdk; cases d <;> simp [Kn.of] at hdk <;> exact ⟨_, rfl⟩
    obtain ⟨e', rfl⟩ := hp
    simp at hr; subst hr
    simp only [CV] at hx hy
    subst hx hy
    cases n with
    | zero => refine ⟨true, rfl, fun w => ⟨by simp [eqGuard], by simp [eqGuard], ?_, ?_⟩⟩ <;> simp only [binOp, refVal] <;> simp [run_equal_nil hd]
    | succ m => refine ⟨false, rfl, fun w => ⟨by simp [eqGuard], by simp [eqGuard], ?_, ?_⟩⟩ <;> simp only [binOp, refVal] <;> simp [run_equal_nil hd, run_equal_nil' hd]
  · rename_i hk
    obtain ⟨ti, hti, hkn⟩ := Option.map_eq_some_iff.1 hk
    obtain ⟨d, hd, hdk⟩ := (T.ti t ti hti).desc
    have hp : d = .bool := by rw [hkn] at hdk; cases d <;> simp [Kn.of] at hdk <;> rfl
    subst hp
    split at hr
    · rename_i a b ha hb
      simp at hr; subst hr
      rw [toBool_cv ha hx, toBool_cv hb hy]
      exact ⟨a == b, rfl, fun w => ⟨by simp [eqGuard], by simp [eqGuard], run_eql_bool w t a b hd, run_neq_bool w t a b hd⟩⟩
    · cases hr
  · cases hr

theorem binA_at (T : TabOk P tt eqt) {op : BinOp} {t : TypeId} {x y : AV} {xv yv : Value} {ox oy : Operand} {r : Res} (hr : binA tt eqt op t x y = some r) (hx : CV c x xv) (hy : CV c y yv) (hpre : ∀ q ∈ r.pre, q) :
    PureAt P c (do pure (Next.value (← (do eqGuard op t ox oy xv yv; binOp op t xv yv)))) r := by
  unfold binA at hr
  split at hr
  · rename_i k a j b
    cases hsh : isShift op with
    | true =>
      rw [hsh] at hr
      simp only [CV] at hx hy
      obtain ⟨ha, rfl⟩ := hx
      obtain ⟨hb, rfl⟩ := hy
      exact shiftA_at hr ha hpre
    | false =>
    rw [hsh] at hr
    simp only [cond_false] at hr
    by_cases hkj : k = j
    · subst hkj
      simp at hr
      simp only [CV] at hx hy
      obtain ⟨ha, rfl⟩ := hx
      obtain ⟨hb, rfl⟩ := hy
      exact intA_at hr ha hb hpre
    · simp [hkj] at hr
  · split at hr
    · split at hr
      · rename_i v hv
        obtain ⟨b, hb, hw⟩ := eqA_at T (ox := ox) (oy := oy) hv hx hy
        exact .qv hr hb.cv (fun w => by obtain ⟨h1, h2, h3, h4⟩ := hw w; simp [h1, h3])
      · cases hr
    · split at hr
      · rename_i v hv
        obtain ⟨u, hu, hn⟩ := Option.bind_eq_some_iff.1 hv
        obtain ⟨b, hb, hw⟩ := eqA_at T (ox := ox) (oy := oy) hu hx hy
        exact .qv hr (hb.not hn).cv (fun w => by obtain ⟨h1, h2, h3, h4⟩ := hw w; simp [h2, h4])
      · cases hr
    · cases hr

theorem unA_at {op : UnOp} {x : AV} {xv : Value} {r : Res} (hr : unA op x = some r) (hx : CV c x xv) : PureAt P c (do pure (Next.value (← Op.unary op xv))) r := by
  unfold unA at hr
  split at hr
  · simp only [CV] at hx
    obtain ⟨ha, rfl⟩ := hx
    exact .qv hr (by simp only [CV]; exact ⟨wrap_range _ _, rfl⟩) (fun w => by simp [Op.unary, Op.intArith])
  · split at hr
    · rename_i v hv
      have hb : ∃ b, IsB x b := by cases x <;> simp [notA] at hv <;> exact ⟨_, rfl⟩
      obtain ⟨b, hb⟩ := hb
      rw [toBool_cv hb hx]
      exact .qv hr (hb.not hv).cv (fun w => by simp [Op.unary])
    · cases hr
  · cases hr
end
end Go.Proofs.Ytljimnhijpcjaaa.VC
