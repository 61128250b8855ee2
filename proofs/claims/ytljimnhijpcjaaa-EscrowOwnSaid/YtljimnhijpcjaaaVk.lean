/- The operations that make or write memory, one by one. Plain lemmas; no conditions but those that each names. -/
import Derived.Test.YtljimnhijpcjaaaVj
import Derived.Laws.OwnMore
set_option linter.unusedVariables false
set_option linter.unusedSimpArgs false
set_option linter.unusedSectionVars false
namespace Go.Proofs.Ytljimnhijpcjaaa.VC
open Go

def splice {α : Type} (L : List α) (o : Nat) (y : List α) : List α := L.take o ++ y ++ L.drop (o + y.length)
theorem splice_length {α : Type} (L : List α) (o : Nat) (y : List α) (h : o + y.length ≤ L.length) : (splice L o y).length = L.length := by
  simp [splice]; omega
theorem splice_get {α : Type} (L : List α) (o : Nat) (y : List α) (h : o + y.length ≤ L.length) (n : Nat) : (splice L o y)[n]? = if o ≤ n ∧ n < o + y.length then y[n - o]? else L[n]? := by
  unfold splice
  rcases Nat.lt_or_ge n o with h1 | h1
  · rw [if_neg (by omega), List.append_assoc, List.getElem?_append_left (by rw [List.length_take]; omega), List.getElem?_take, if_pos h1]
  · rcases Nat.lt_or_ge n (o + y.length) with h2 | h2
    · rw [if_pos ⟨h1, h2⟩, List.getElem?_append_left (by rw [List.length_append, List.length_take]; omega), List.getElem?_append_right (by rw [List.length_take]; omega), List.length_take]
      congr 1; omega
    · rw [if_neg (by omega), List.getElem?_append_right (by rw [List.length_append, List.length_take]; omega), List.length_append, List.length_take, List.getElem?_drop]
      congr 1; omega
theorem splice_take {α : Type} (L : List α) (o m : Nat) (y : List α) (h : o + y.length ≤ m) (hm : m ≤ L.length) : (splice L o y).take m = splice (L.take m) o y := by
  apply List.ext_getElem?
  intro n
  rw [List.getElem?_take, splice_get _ _ _ (by omega), splice_get _ _ _ (by rw [List.length_take]; omega), List.getElem?_take]
  by_cases h1 : n < m <;> by_cases h2 : o ≤ n ∧ n < o + y.length <;> simp [h1, h2]
  omega
theorem splice_in {α : Type} (L cs : List α) (a sz off : Nat) (y : List α) (h : a + sz ≤ L.length) (ho : off + y.length ≤ sz) (hl : cs.length = sz) (hc : ∀ (j : Nat) (u : α), cs[j]? = some u → L[a + j]? = some u) :
    L.take a ++ splice cs off y ++ L.drop (a + sz) = splice L (a + off) y := by
  apply List.ext_getElem?
  intro n
  rw [splice_get _ _ _ (by omega)]
  have hsl := splice_length cs off y (by omega)
  rcases Nat.lt_or_ge n a with h1 | h1
  · rw [if_neg (by omega), List.append_assoc, List.getElem?_append_left (by rw [List.length_take]; omega), List.getElem?_take, if_pos h1]
  · rcases Nat.lt_or_ge n (a + sz) with h2 | h2
    · rw [List.getElem?_append_left (by rw [List.length_append, List.length_take, hsl]; omega), List.getElem?_append_right (by rw [List.length_take]; omega), List.length_take, Nat.min_eq_left (by omega), splice_get _ _ _ (by omega)]
      by_cases h3 : off ≤ n - a ∧ n - a < off + y.length
      · rw [if_pos h3, if_pos (by omega)]; congr 1; omega
      · rw [if_neg h3, if_neg (by omega)]
        have hlt : n - a < cs.length := by omega
        have := hc (n - a) _ (List.getElem?_eq_getElem hlt)
        rw [List.getElem?_eq_getElem hlt, ← this]; congr 1; omega
    · rw [if_neg (by omega), List.getElem?_append_right (by rw [List.length_append, List.length_take, hsl]; omega), List.length_append, List.length_take, hsl, List.getElem?_drop]
      congr 1; omega

section
variable {P : Program} {tt : TypeId → Option TI} {eqt : TypeId → Option (List EF)} {sp : FuncId → Option Spc} {E : Env} {st : St} {a : Act} {c : Ctx} {hold : List Nat} {K : St → Prop} {Q : Exit → Act → World → Prop} {o : Oper}

theorem avOf_cells (c : Ctx) (z : Value) : CVL c (avOf z).cells z.cells.toList := by
  have h := avOf_cv c z
  cases hz : avOf z with
  | undef =>
    cases z with
    | agg cs => simp [avOf, avOfN] at hz
    | _ => exact ⟨by simp [CV], trivial⟩
  | _ => rw [hz] at h; exact CV.cells h (by simp)

theorem Ctx.new_heap (c : Ctx) (ob : Obj) (p : Nat) (v : Value) (B : Nat → Prop) : (c.new (c.w.alloc ob) p v B).w.heap[c.w.heap.size]? = some ob := heap_alloc_new c.w ob

theorem new_loud (h : ROk E st a c) (hlk : LockOk st) {ob : Obj} {it : Itm} {v : AV} {val cv : Value} (hK : stepK E.nt st hold [] o.dst v [] [it] K) (hrun : (execOp a.eval o).run P c.w = .ok (.value cv) (c.w.alloc ob))
    (hi : IOk (c.new (c.w.alloc ob) st.next val (· = c.w.heap.size)) st.next it) (hc : CV (c.new (c.w.alloc ob) st.next val (· = c.w.heap.size)) v cv) : o.wp P a c.w (Post E st hold c o.dst K) Q := by
  unfold Oper.wp
  rw [hrun]
  refine post_of h hlk hK fun hl => ⟨_, rfl, fits_new h (fun hD => ?_) hi, hc⟩
  have := hl.new 0 (by simp)
  rw [Nat.add_zero, (h.Dk _).1 hD] at this
  cases this

/-- Values of the old names, under one name more. -/
theorem ext_new (h : ROk E st a c) {ob : Obj} {val : Value} {B : Nat → Prop} (hf : ¬ c.D st.next) : Ext c (c.new (c.w.alloc ob) st.next val B) (fun _ => False) (fun _ => False) := by
  have ne : ∀ p, c.D p → p ≠ st.next := fun p hp e => hf (e ▸ hp)
  exact ⟨fun p hp => .inl hp, fun p hp _ => by simp [Ctx.new, ne p hp], fun p hp _ b => by simp [Ctx.new, ne p hp], fun b hb => hb, fun b hb => heap_alloc_old c.w ob (h.im b hb).1, fun p b hp _ hb => heap_alloc_old c.w ob (h.lt p b hp hb).1, fun p hp => hp.elim⟩
theorem fresh_of (h : ROk E st a c) {rel : List Nat} {dst : Option Nat} {v : AV} {upd : List (Nat × Itm)} {it : Itm} {new : List Itm} (hK : stepK E.nt st hold rel dst v upd (it :: new) K) : ¬ c.D st.next := fun hD => by
  unfold stepK at hK
  cases hb : st.lets hold rel upd (it :: new).length && dstOk E.nt dst with
  | false => rw [hb] at hK; exact hK
  | true =>
    simp only [Bool.and_eq_true] at hb
    have := (lets_iff hb.1).new 0 (by simp)
    rw [Nat.add_zero, (h.Dk _).1 hD] at this
    cases this
theorem clear_nil : ∀ v : AV, v.clear (fun _ => False) (fun _ => False) := fun v => clear_of v (fun _ h => h.elim) (fun _ h => h.elim)

theorem box_run (ob : Value) {t : TypeId} {w : World} : (Instr.box t ob).run P w = .ok (.pointer (some ⟨w.heap.size, 0, none⟩)) (w.alloc (.cells ob.cells t)) := rfl

theorem vecTy_of {tt : TypeId → Option TI} {ti : TI} {n : Nat} {k : IntKind} (h : vecTy tt ti = some (n, k)) : ti.zero.cells.toList = List.replicate n (.int k 0) ∧ 2 ≤ n ∧ n ≤ 1000 := by
  unfold vecTy at h
  split at h
  · rename_i m te hk
    obtain ⟨ei, hei, h⟩ := Option.bind_eq_some_iff.1 h
    split at h
    · rename_i q hq
      generalize hb : (Nat.beq ti.zero.cells.size m && ti.zero.cells.toList.all (zeroIs q) && Nat.ble 2 m && Nat.ble m 1000) = b at h
      cases b with
      | false => simp at h
      | true =>
        simp only [cond_true, Option.some.injEq, Prod.mk.injEq] at h
        obtain ⟨rfl, rfl⟩ := h
        simp only [Bool.and_eq_true] at hb
        obtain ⟨⟨⟨h1, h2⟩, h3⟩, h4⟩ := hb
        refine ⟨List.eq_replicate_iff.2 ⟨by rw [Array.length_toList]; exact Nat.eq_of_beq_eq_true h1, fun v hv => ?_⟩, Nat.le_of_ble_eq_true h3, Nat.le_of_ble_eq_true h4⟩
        have := List.all_eq_true.1 h2 v hv
        unfold zeroIs at this
        split at this
        · simp only [Bool.and_eq_true, decide_eq_true_eq] at this
          rw [this.1, this.2]
        · cases this
    · cases h
  · cases h
theorem zeros_rows (w : World) (Im : Nat → Prop) (k : IntKind) : ∀ n, RowsK w Im (.int k) (zeros n) (List.replicate n (.int k 0))
  | 0 => rfl
  | n + 1 => ⟨[.int k 0], List.replicate n (.int k 0), rfl, ⟨inR_zero k, rfl⟩, zeros_rows w Im k n⟩
theorem alloc_loud (T : TabOk P tt eqt) (h : ROk E st a c) (hlk : LockOk st) {t : TypeId} (hop : o.op = .alloc t) {r : Res} (hr : opA tt eqt sp st o = some r) (hK : goAlts E.nt st hold r.rel o.dst K r.alts) : o.wp P a c.w (Post E st hold c o.dst K) Q := by
  simp only [opA, hop] at hr
  obtain ⟨ti, hti, hr⟩ := Option.bind_eq_some_iff.1 hr
  have hz := (T.ti t ti hti).runZero c.w
  split at hr
  · rename_i n k hv
    simp at hr; subst hr
    obtain ⟨hs, h2, hle⟩ := vecTy_of hv
    refine new_loud (ob := .cells ti.zero.cells t) (val := .slice (some ⟨c.w.heap.size, 0, none⟩) n n) h hlk hK (cv := .pointer (some ⟨c.w.heap.size, 0, none⟩)) ?_ ?_ ?_
    · simp only [execOp, hop, Instr.alloc, Sem.run_bind, hz, Result.andThen_ok]; rfl
    · have hl : (zeros n).length = n := by simp [zeros]
      have hsz : (Ty.int k).sz = 1 := rfl
      refine ⟨List.replicate n (.int k 0), ⟨by rw [List.length_replicate, hl, hsz, Nat.mul_one], .inr ⟨c.w.heap.size, n, ti.zero.cells, ?_, Nat.zero_le _, ?_, by rw [hl]; exact Nat.le_refl _, by unfold maxLen; omega, ?_, ?_⟩⟩, zeros_rows _ _ _ _, fun x => ?_⟩
      · rw [(Ctx.new_at ..).1, hl]
      · exact Ctx.new_heap ..
      · rw [hsz, ← Array.length_toList, hs]; simp
      · rw [hs, hl, hsz]; simp
      · rw [(Ctx.new_at ..).1, (Ctx.new_at ..).2.2]; simp [Value.ownBlock]; exact eq_comm
    · simp only [CV]; exact ⟨by simp [Ctx.new], c.w.heap.size, n, n, (Ctx.new_at ..).1, by simp⟩
  simp at hr; subst hr
  refine new_loud (ob := .cells ti.zero.cells t) (val := .pointer (some ⟨c.w.heap.size, 0, none⟩)) h hlk hK (cv := .pointer (some ⟨c.w.heap.size, 0, none⟩)) ?_ ?_ ?_
  · simp only [execOp, hop, Instr.alloc, Sem.run_bind, hz, Result.andThen_ok]; rfl
  · refine ⟨c.w.heap.size, ti.zero.cells.toList, t, by simp [Ctx.new], by rw [Ctx.new_heap], avOf_cells _ _, fun x => by simp [Ctx.new]⟩
  · simp only [CV]; exact ⟨by simp [Ctx.new], c.w.heap.size, by simp [Ctx.new], rfl⟩

theorem box_loud (h : ROk E st a c) (hlk : LockOk st) {t : TypeId} {x : Operand} (hop : o.op = .box t x) {r : Res} (hr : opA tt eqt sp st o = some r) (hK : goAlts E.nt st hold r.rel o.dst K r.alts) : o.wp P a c.w (Post E st hold c o.dst K) Q := by
  simp only [opA, hop] at hr
  cases hk : (evalA st x).known with
  | false => simp [hk] at hr
  | true =>
    simp [hk] at hr; subst hr
    have hx := CV.cells (eval_cv h x) (by intro e; rw [e] at hk; simp [AV.known] at hk)
    refine new_loud (ob := .cells (a.eval x).cells t) (val := .pointer (some ⟨c.w.heap.size, 0, none⟩)) h hlk hK (cv := .pointer (some ⟨c.w.heap.size, 0, none⟩)) ?_ ?_ ?_
    · simp only [execOp, hop, Sem.run_bind, box_run, Result.andThen_ok]; rfl
    · exact ⟨c.w.heap.size, (a.eval x).cells.toList, t, by simp [Ctx.new], by rw [Ctx.new_heap], CVL.ext (ext_new h (fresh_of h hK)) _ _ (clearL_of _ (fun _ h => h.elim) (fun _ h => h.elim)) hx, fun x => by simp [Ctx.new]⟩
    · simp only [CV]; exact ⟨by simp [Ctx.new], c.w.heap.size, by simp [Ctx.new], rfl⟩

theorem makeMap_loud (T : TabOk P tt eqt) (h : ROk E st a c) (hlk : LockOk st) {t : TypeId} {z : Option Operand} (hop : o.op = .makeMap t z) {r : Res} (hr : opA tt eqt sp st o = some r) (hK : goAlts E.nt st hold r.rel o.dst K r.alts) : o.wp P a c.w (Post E st hold c o.dst K) Q := by
  cases z with
  | some z => simp [opA, hop] at hr
  | none =>
    simp only [opA, hop] at hr
    obtain ⟨ti, hti, hr⟩ := Option.bind_eq_some_iff.1 hr
    split at hr
    · obtain ⟨tk, htk, hr⟩ := Option.bind_eq_some_iff.1 hr
      obtain ⟨tv, htv, hr⟩ := Option.bind_eq_some_iff.1 hr
      split at hr
      · rename_i k v hk hv
        simp at hr; subst hr
        refine new_loud (ob := .map #[] 0) (val := .map (some c.w.heap.size)) h hlk hK (cv := .map (some c.w.heap.size)) ?_ ?_ ?_
        · simp only [execOp, hop, Option.map_none]; rfl
        · exact ⟨c.w.heap.size, #[], 0, by simp [Ctx.new], by rw [Ctx.new_heap], trivial, ⟨by simp, by simp⟩, ⟨Nat.zero_le _, by simp, by simp⟩, fun x => by simp [Ctx.new]⟩
        · simp only [CV]; exact ⟨by simp [Ctx.new], by simp [Ctx.new], _, rfl⟩
      · cases hr
    · cases hr

theorem range_loud (T : TabOk P tt eqt) (h : ROk E st a c) (hlk : LockOk st) {t : TypeId} {x : Operand} (hop : o.op = .range t x) {r : Res} (hr : opA tt eqt sp st o = some r) (hK : goAlts E.nt st hold r.rel o.dst K r.alts) : o.wp P a c.w (Post E st hold c o.dst K) Q := by
  simp only [opA, hop] at hr
  obtain ⟨ti, hti, hr⟩ := Option.bind_eq_some_iff.1 hr
  split at hr
  · rename_i kt vt hkn
    have hu := (T.ti t ti hti).map hkn
    have hx := eval_cv h x
    split at hr
    · rename_i p he
      split at hr
      · rename_i k v E' hat
        simp at hr; subst hr
        have hf := fresh_of h hK
        rw [he] at hx
        simp only [CV] at hx
        obtain ⟨hD, hv, _⟩ := hx
        have hi := h.it p hD
        rw [hat] at hi
        obtain ⟨b, es, clock, h1, h2, h3, h4, h5, h6⟩ := hi
        have hne : p ≠ st.next := fun e => hf (e ▸ hD)
        have hlt : b < c.w.heap.size := (h.lt p b hD ((h6 b).2 rfl)).1
        refine new_loud (ob := .mapIter (some b) clock #[] clock) (val := .pointer (some ⟨c.w.heap.size, 0, none⟩)) h hlk hK (cv := .pointer (some ⟨c.w.heap.size, 0, none⟩)) ?_ ?_ ?_
        · simp only [execOp, hop]
          rw [hv.trans h1]
          simp only [Instr.range, Sem.run_bind, run_underlying hu, Result.andThen_ok, getObj, Sem.run, h2]
          rfl
        · refine ⟨c.w.heap.size, b, #[], es, clock, by simp [Ctx.new], by rw [Ctx.new_heap], .inl hD, by simp [Ctx.new, hne, h1], by simp [Ctx.new, hne]; exact (h6 b).2 rfl, by simp [Ctx.new, heap_alloc_old c.w _ hlt, h2], h4, ?_, by simp, fun x => by simp [Ctx.new]⟩
          have : (es.toList.filter fun x => !(#[] : Array Nat).contains x.born) = es.toList := by simp
          rw [this]
          exact MapK.ext (ext_new h hf) h3
        · simp only [CV]; exact ⟨by simp [Ctx.new], c.w.heap.size, by simp [Ctx.new], rfl⟩
      · cases hr
    · cases hr
  · cases hr

/-- One place is written. -/
theorem upd_loud (h : ROk E st a c) (hlk : LockOk st) {p : Nat} {it : Itm} {v : AV} {cv : Value} {nx : Next} {w' : World} (hK : stepK E.nt st hold [] o.dst v [(p, it)] [] K) (hrun : (execOp a.eval o).run P c.w = .ok nx w')
    (hnx : nx = .value cv ∨ (nx = .skip ∧ cv = undef)) (hD : c.D p) (hs : w'.heap.size = c.w.heap.size) (ho : w'.os = c.w.os) (ht : w'.tape = c.w.tape) (hou : w'.output = c.w.output)
    (hb : ∀ b, b < c.w.heap.size → ¬ c.F p b → w'.heap[b]? = c.w.heap[b]?) (hi : IOk (c.at w') p it) (hc : CV (c.at w') v cv) : o.wp P a c.w (Post E st hold c o.dst K) Q := by
  unfold Oper.wp
  rw [hrun]
  have := post_of (cv := cv) (w' := w') h hlk hK fun hl => ⟨_, rfl, fits_upd h hD hs ho ht hou hb hi, hc⟩
  rcases hnx with rfl | ⟨rfl, rfl⟩
  · exact this
  · exact this

/-- The world at which only a place's own blocks differ. -/
theorem at_ext (h : ROk E st a c) {p : Nat} {w' : World} (hD : c.D p) (hb : ∀ b, b < c.w.heap.size → ¬ c.F p b → w'.heap[b]? = c.w.heap[b]?) : Ext c (c.at w') (· = p) (fun _ => False) :=
  ⟨fun q hq => hq, fun q hq _ => rfl, fun q hq _ b => Iff.rfl, fun b hb => hb, fun b hb' => hb b (h.im b hb').1 ((h.im b hb').2 p hD), fun q b hq hne hqb => hb b (h.lt q b hq hqb).1 (h.dj q p b hq hD hne hqb), fun q hq => hq.elim⟩

mutual
/-- There is no stamp of a place that is no map's. -/
theorem clear_cv {p : Nat} (hp : ∀ b, c.ρ p ≠ .map (some b)) : ∀ (v : AV) (cv : Value), CV c v cv → v.clear (· = p) (fun _ => False)
  | .undef, _, _ => trivial
  | .skip, _, _ => trivial
  | .tt, _, _ => trivial
  | .ff, _, _ => trivial
  | .bool _, _, _ => trivial
  | .int _ _, _, _ => trivial
  | .nptr, _, _ => trivial
  | .ptr _ _, _, _ => trivial
  | .eptr _ _ _ _, _, _ => fun h => h
  | .iptr _ _ _ _, _, _ => trivial
  | .nsl, _, _ => trivial
  | .sl _, _, _ => fun h => h
  | .pfx _ _, _, _ => fun h => h
  | .sub _ _ _ _, _, _ => fun h => h
  | .lst _ _, _, _ => trivial
  | .nmap, _, _ => trivial
  | .map _, _, _ => trivial
  | .stamp q _ _, _, h => fun hq => by
    simp only [CV] at h
    obtain ⟨_, b, _, _, _, _, h1, _⟩ := h
    rw [hq] at h1
    exact hp b h1
  | .nfn, _, _ => trivial
  | .vec _ _, _, _ => trivial
  | .ref _ _, _, _ => trivial
  | .rp _ _ _, _, _ => trivial
  | .hd _ _ _, _, _ => trivial
  | .hp _ _ _ _ _, _, _ => trivial
  | .fn _ cs, _, h => by
    simp only [CV] at h
    obtain ⟨l, _, hl⟩ := h
    exact clearL_cv hp cs l hl
  | .agg cs, _, h => by
    simp only [CV] at h
    obtain ⟨l, _, hl⟩ := h
    exact clearL_cv hp cs l hl
  | .tup cs, _, h => by
    simp only [CV] at h
    obtain ⟨l, _, hl⟩ := h
    exact clearL_cv hp cs l hl
theorem clearL_cv {p : Nat} (hp : ∀ b, c.ρ p ≠ .map (some b)) : ∀ (vs : List AV) (l : List Value), CVL c vs l → AV.clearL (· = p) (fun _ => False) vs
  | [], [], _ => trivial
  | v :: vs, x :: l, h => ⟨clear_cv hp v x h.1, clearL_cv hp vs l h.2⟩
  | [], _ :: _, h => h.elim
  | _ :: _, [], h => h.elim
end

theorem storeA_loud (T : TabOk P tt eqt) (h : ROk E st a c) (hlk : LockOk st) {t : TypeId} {x y : Operand} (hop : o.op = .store t x y) {r : Res} (hr : opA tt eqt sp st o = some r) (hpre : ∀ q ∈ r.pre, q) (hK : goAlts E.nt st hold r.rel o.dst K r.alts) : o.wp P a c.w (Post E st hold c o.dst K) Q := by
  simp only [opA, hop] at hr
  obtain ⟨ti, hti, hr⟩ := Option.bind_eq_some_iff.1 hr
  have Ti := T.ti t ti hti
  have hx := eval_cv h x
  have hy := eval_cv h y
  unfold storeA at hr
  cases hg : (evalA st y).known && (evalA st y).cells.all AV.one && Nat.beq (evalA st y).cells.length ti.size with
  | false => simp [hg] at hr
  | true =>
    rw [hg] at hr
    simp only [cond_true] at hr
    simp only [Bool.and_eq_true] at hg
    obtain ⟨⟨hkn, hone⟩, hsz⟩ := hg
    have hyc := CV.cells hy (by intro e; rw [e] at hkn; simp [AV.known] at hkn)
    have hsz' : (a.eval y).cells.size = ti.size := by have := hyc.len; have h2 := Nat.eq_of_beq_eq_true hsz; simp at this; omega
    have h1c := one_cells hyc hone
    split at hr
    · rename_i p off he
      split at hr
      · rename_i vs hat
        cases hle : Nat.ble (off + ti.size) vs.length with
        | false => simp [hle] at hr
        | true =>
          simp only [hle, cond_true] at hr
          have hr := Option.some.inj hr
          subst hr
          rw [he] at hx
          simp only [CV] at hx
          obtain ⟨hD, b, hρ, hv⟩ := hx
          have hi := h.it p hD
          rw [hat] at hi
          obtain ⟨b', l, te, k1, k2, k3, k4⟩ := hi
          rw [hρ] at k1
          simp at k1
          subst k1
          have hlen : off + ti.size ≤ l.length := by rw [← k3.len]; exact Nat.le_of_ble_eq_true hle
          have hst := run_storeVar (P := P) Ti hsz' (w := c.w) (o := off) k2 (by simpa using hlen) h1c
          have hother : ∀ b', b' < c.w.heap.size → ¬ c.F p b' → (c.w.setRow b (l.toArray.toList.take off ++ (a.eval y).cells.toList ++ l.toArray.toList.drop (off + ti.size)).toArray).heap[b']? = c.w.heap[b']? := fun b' _ hn => setRow_else _ _ _ _ (fun e => hn ((k4 b').2 e))
          refine upd_loud h hlk hK (cv := undef) (nx := .skip) (by simp only [execOp, hop, Sem.run_bind]; rw [hv, hst]; rfl) (.inr ⟨rfl, rfl⟩) hD (size_setRow _ _ _) rfl rfl rfl hother ?_ (by simp [CV])
          have hX := at_ext h hD hother
          have hnm : ∀ x, c.ρ p ≠ .map (some x) := fun x e => by rw [hρ] at e; cases e
          have hcl : ∀ (vs : List AV) (l' : List Value), CVL c vs l' → CVL (c.at (c.w.setRow b (l.toArray.toList.take off ++ (a.eval y).cells.toList ++ l.toArray.toList.drop (off + ti.size)).toArray)) vs l' := fun vs l' hv => CVL.ext hX vs l' (clearL_cv hnm vs l' hv) hv
          refine ⟨b, l.take off ++ (a.eval y).cells.toList ++ l.drop (off + ti.size), te, hρ, setRow_same c.w b _ _ te k2, ?_, k4⟩
          exact CVL.append (CVL.append (hcl _ _ (k3.take off)) (hcl _ _ hyc)) (hcl _ _ (k3.drop _))
      · cases hr
    · rename_i p i sz off he
      split at hr
      · rename_i te e xs hat
        cases hsz2 : Nat.beq sz e.sz with
        | false => simp [hsz2] at hr
        | true =>
          simp only [hsz2, cond_true] at hr
          have hsz2' := Nat.eq_of_beq_eq_true hsz2
          subst hsz2'
          split at hr
          · rename_i d' hput
            simp at hr; subst hr
            have hi : i < xs.length := hpre _ (by simp)
            rw [he] at hx
            simp only [CV] at hx
            obtain ⟨hD, g, n, cap, hρ, hv⟩ := hx
            have hit := h.it p hD
            rw [hat] at hit
            obtain ⟨g', cap', cur, k1, k2, k3, k4, k5, k6, k7⟩ := arr_block hit (by omega)
            rw [hρ] at k1
            simp at k1
            obtain ⟨rfl, rfl, rfl⟩ := k1
            obtain ⟨cs, hk, hc⟩ := k7.at i _ (getD_getElem? e.dflt hi)
            obtain ⟨r1, r2⟩ := putAt_cv e _ off _ d' cs _ hput hk hyc
            have hcl := Ty.K_len _ _ _ hk
            have hcr := Ty.K_len _ _ _ r1
            have hmul : i * e.sz + e.sz ≤ xs.length * e.sz := by rw [← Nat.succ_mul]; exact Nat.mul_le_mul_right _ hi
            have hcap : xs.length * e.sz ≤ cur.size := by rw [k6]; exact Nat.mul_le_mul_right _ k4
            have hlc : (a.eval y).cells.toList.length = ti.size := by simpa using hsz'
            have hA : off + (a.eval y).cells.toList.length ≤ e.sz := Nat.le_trans r2 (Nat.le_of_eq hcl)
            have hB : i * e.sz + off + ti.size ≤ cur.size := by rw [← hlc]; exact Nat.le_trans (by rw [Nat.add_assoc]; exact Nat.add_le_add_left hA _) (Nat.le_trans hmul hcap)
            have hC : i * e.sz + off + (a.eval y).cells.toList.length ≤ cur.toList.length := by rw [hlc, Array.length_toList]; exact hB
            have hst := run_storeVar (P := P) Ti hsz' (w := c.w) (o := i * e.sz + off) k3 hB h1c
            rw [← hlc] at hst
            have hst' : (Instr.storeAt t (.pointer (some ⟨g, i * e.sz + off, none⟩)) (a.eval y)).run P c.w = .ok () (c.w.setRow g (splice cur.toList (i * e.sz + off) (a.eval y).cells.toList).toArray) := hst
            have hother : ∀ b', b' < c.w.heap.size → ¬ c.F p b' → (c.w.setRow g (splice cur.toList (i * e.sz + off) (a.eval y).cells.toList).toArray).heap[b']? = c.w.heap[b']? := fun b' _ hn => setRow_else _ _ _ _ (fun e => hn (e ▸ k2))
            refine upd_loud h hlk hK (cv := undef) (nx := .skip) (by simp only [execOp, hop, Sem.run_bind]; rw [hv, hst']; rfl) (.inr ⟨rfl, rfl⟩) hD (size_setRow _ _ _) rfl rfl rfl hother ?_ (by simp [CV])
            have hX := at_ext h hD hother
            have hL : (cur.toList.take (xs.length * e.sz)).length = xs.length * e.sz := by rw [List.length_take]; exact Nat.min_eq_left (Nat.le_trans hcap (Nat.le_of_eq (Array.length_toList (xs := cur)).symm))
            have hset := RowsK.set r1 k7 i hi
            have heq : (splice cur.toList (i * e.sz + off) (a.eval y).cells.toList).take (xs.length * e.sz) = (cur.toList.take (xs.length * e.sz)).take (i * e.sz) ++ (cs.take off ++ (a.eval y).cells.toList ++ cs.drop (off + (a.eval y).cells.toList.length)) ++ (cur.toList.take (xs.length * e.sz)).drop (i * e.sz + e.sz) := by
              rw [splice_take _ _ _ _ (Nat.le_trans (by rw [Nat.add_assoc]; exact Nat.add_le_add_left hA _) hmul) (by rw [Array.length_toList]; exact hcap)]
              rw [← splice_in (cur.toList.take (xs.length * e.sz)) cs (i * e.sz) e.sz off _ (by rw [hL]; exact hmul) hA hcl hc]
              rfl
            rw [← heq] at hset
            have hset' := RowsK.mono (w' := c.w.setRow g (splice cur.toList (i * e.sz + off) (a.eval y).cells.toList).toArray) (Im' := c.Im) (fun _ h => h) hX.imw hset
            refine ⟨_, ⟨?_, .inr ⟨g, cap, (splice cur.toList (i * e.sz + off) (a.eval y).cells.toList).toArray, ?_, Nat.zero_le _, setRow_same c.w g _ _ te k3, ?_, k5, ?_, rfl⟩⟩, ?_, ?_⟩
            · rw [List.length_set]
              have := hset'.len
              rw [List.length_set] at this
              simpa using this
            · rw [List.length_set]; exact hρ
            · rw [List.length_set]; exact k4
            · rw [List.size_toArray, splice_length _ _ _ hC, Array.length_toList, k6]
            · rw [List.length_set, List.toList_toArray]; exact hset'
            · obtain ⟨_, _, _, k8⟩ := hit
              exact k8
          · cases hr
      · cases hr
    · rename_i q b i sz off he
      split at hr
      · rename_i p hat0
        split at hr
        · rename_i r te e PL hat
          cases hsz2 : Nat.beq sz e.sz with
          | false => simp [hsz2] at hr
          | true =>
            simp only [hsz2, cond_true] at hr
            have hsz2' := Nat.eq_of_beq_eq_true hsz2
            subst hsz2'
            split at hr
            · rename_i d' hput
              simp at hr; subst hr
              have hi : i < (pget2 PL b).length := hpre _ (by simp)
              rw [he] at hx
              simp only [CV] at hx
              obtain ⟨hb0, hv⟩ := hx
              have hD : c.D p := (h.Dk p).2 (poolAt_key hat0)
              have hit := h.it p hD
              rw [hat] at hit
              obtain ⟨k, cur, k0, _, k2, k3, k4, k5, k6, k7⟩ := apool_list (b := b) hit (by omega)
              generalize hxs : pget2 PL b = xs at *
              obtain ⟨cs, hk, hc⟩ := k7.at i _ (getD_getElem? e.dflt hi)
              obtain ⟨r1, r2⟩ := putAt_cv e _ off _ d' cs _ hput hk hyc
              have hcl := Ty.K_len _ _ _ hk
              have hcr := Ty.K_len _ _ _ r1
              have hmul : i * e.sz + e.sz ≤ xs.length * e.sz := by rw [← Nat.succ_mul]; exact Nat.mul_le_mul_right _ hi
              have hcap : xs.length * e.sz ≤ cur.size := by rw [k6]; exact Nat.mul_le_mul_right _ k4
              have hlc : (a.eval y).cells.toList.length = ti.size := by simpa using hsz'
              have hA : off + (a.eval y).cells.toList.length ≤ e.sz := Nat.le_trans r2 (Nat.le_of_eq hcl)
              have hB : i * e.sz + off + ti.size ≤ cur.size := by rw [← hlc]; exact Nat.le_trans (by rw [Nat.add_assoc]; exact Nat.add_le_add_left hA _) (Nat.le_trans hmul hcap)
              have hC : i * e.sz + off + (a.eval y).cells.toList.length ≤ cur.toList.length := by rw [hlc, Array.length_toList]; exact hB
              have hst := run_storeVar (P := P) Ti hsz' (w := c.w) (o := i * e.sz + off) k3 hB h1c
              rw [← hlc] at hst
              have hst' : (Instr.storeAt t (.pointer (some ⟨b - 1, i * e.sz + off, none⟩)) (a.eval y)).run P c.w = .ok () (c.w.setRow (b - 1) (splice cur.toList (i * e.sz + off) (a.eval y).cells.toList).toArray) := hst
              have hother0 : ∀ b', b' ≠ b - 1 → (c.w.setRow (b - 1) (splice cur.toList (i * e.sz + off) (a.eval y).cells.toList).toArray).heap[b']? = c.w.heap[b']? := fun b' hn => setRow_else _ _ _ _ hn
              have hother : ∀ b', b' < c.w.heap.size → ¬ c.F p b' → (c.w.setRow (b - 1) (splice cur.toList (i * e.sz + off) (a.eval y).cells.toList).toArray).heap[b']? = c.w.heap[b']? := fun b' _ hn => hother0 _ (fun e => hn (e ▸ k2))
              refine upd_loud h hlk hK (cv := undef) (nx := .skip) (by simp only [execOp, hop, Sem.run_bind]; rw [hv, hst']; rfl) (.inr ⟨rfl, rfl⟩) hD (size_setRow _ _ _) rfl rfl rfl hother ?_ (by simp [CV])
              have hX := at_ext h hD hother
              have hL : (cur.toList.take (xs.length * e.sz)).length = xs.length * e.sz := by rw [List.length_take]; exact Nat.min_eq_left (Nat.le_trans hcap (Nat.le_of_eq (Array.length_toList (xs := cur)).symm))
              have hset := RowsK.set r1 k7 i hi
              have heq : (splice cur.toList (i * e.sz + off) (a.eval y).cells.toList).take (xs.length * e.sz) = (cur.toList.take (xs.length * e.sz)).take (i * e.sz) ++ (cs.take off ++ (a.eval y).cells.toList ++ cs.drop (off + (a.eval y).cells.toList.length)) ++ (cur.toList.take (xs.length * e.sz)).drop (i * e.sz + e.sz) := by
                rw [splice_take _ _ _ _ (Nat.le_trans (by rw [Nat.add_assoc]; exact Nat.add_le_add_left hA _) hmul) (by rw [Array.length_toList]; exact hcap)]
                rw [← splice_in (cur.toList.take (xs.length * e.sz)) cs (i * e.sz) e.sz off _ (by rw [hL]; exact hmul) hA hcl hc]
                rfl
              rw [← heq] at hset
              have hset' := RowsK.mono (w' := c.w.setRow (b - 1) (splice cur.toList (i * e.sz + off) (a.eval y).cells.toList).toArray) (Im' := c.Im) (fun _ h => h) hX.imw hset
              refine apool_set hit k0 rfl (fun _ h => h) hX.imw (fun _ => Iff.rfl) (fun x hx hne => hother0 x hne) (by rw [List.length_set]; exact k4) (cur := (splice cur.toList (i * e.sz + off) (a.eval y).cells.toList).toArray) (setRow_same c.w (b - 1) _ _ te k3) ?_ ?_
              · rw [List.size_toArray, splice_length _ _ _ hC, Array.length_toList, k6]
              · rw [List.length_set, List.toList_toArray]
                exact hset'
            · cases hr
        · cases hr
      · cases hr
    · cases hr
end
end Go.Proofs.Ytljimnhijpcjaaa.VC
