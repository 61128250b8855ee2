/- The operations that make or write memory. Plain lemmas; no conditions but those that each names. -/
import Derived.Test.YtljimnhijpcjaaaVi
import Derived.Laws.CopyRow
set_option linter.unusedVariables false
set_option linter.unusedSimpArgs false
set_option linter.unusedSectionVars false
namespace Go.Proofs.Ytljimnhijpcjaaa.VC
open Go

section
variable {P : Program} {tt : TypeId → Option TI} {eqt : TypeId → Option (List EF)} {sp : FuncId → Option Spc} {E : Env} {st : St} {a : Act} {c : Ctx}

/-- A new block, under a new name. -/
def Ctx.new (c : Ctx) (w' : World) (p : Nat) (v : Value) (B : Nat → Prop) : Ctx :=
  { w := w', D := fun q => c.D q ∨ q = p, ρ := fun q => if q = p then v else c.ρ q, F := fun q b => if q = p then B b else c.F q b, Im := c.Im }

theorem Ctx.new_at (c : Ctx) (w' : World) (p : Nat) (v : Value) (B : Nat → Prop) : (c.new w' p v B).ρ p = v ∧ (c.new w' p v B).D p ∧ ∀ b, (c.new w' p v B).F p b ↔ B b := by simp [Ctx.new]

theorem fits_new (h : ROk E st a c) {o : Obj} {it : Itm} {v : Value} (hf : ¬ c.D st.next) (hi : IOk (c.new (c.w.alloc o) st.next v (· = c.w.heap.size)) st.next it) :
    Fits c (c.new (c.w.alloc o) st.next v (· = c.w.heap.size)) [] [] [] [it] st.next := by
  have old : ∀ b, b < c.w.heap.size → (c.w.alloc o).heap[b]? = c.w.heap[b]? := fun b hb => heap_alloc_old c.w o hb
  have ne : ∀ p, c.D p → p ≠ st.next := fun p hp e => hf (e ▸ hp)
  refine ⟨fun p => ?_, ⟨fun p hp => .inl hp, fun p hp _ => by simp [Ctx.new, ne p hp], fun p hp _ b => by simp [Ctx.new, ne p hp], fun b hb => hb, fun b hb => old b (h.im b hb).1, fun p b hp _ hb => old b (h.lt p b hp hb).1, fun p hp => absurd hp (by simp)⟩,
    fun p it hp => absurd hp (by simp), fun i jt hj => ?_, fun p b hp => absurd hp (by simp), fun p b h1 h2 hb => ?_, fun p q b hp hq hne => ?_, fun p b hp hb => ?_, fun b hb => ?_, fun b p hb hp hF => ?_, ?_⟩
  · simp only [Ctx.new, List.length_singleton]
    constructor
    · rintro (h | h)
      · exact .inl h
      · exact .inr (by omega)
    · rintro (h | h)
      · exact .inl h
      · exact .inr (by omega)
  · cases i with
    | zero => simp at hj; subst hj; exact hi
    | succ i => simp at hj
  · simp only [List.length_singleton] at h2
    have : p = st.next := by omega
    subst this
    simp [Ctx.new] at hb
    omega
  · simp only [List.length_singleton, List.not_mem_nil, false_or] at hp hq
    omega
  · simp only [Ctx.new] at hp hb ⊢
    rw [World.size_alloc]
    by_cases he : p = st.next
    · rw [if_pos he] at hb; omega
    · rw [if_neg he] at hb
      have := (h.lt p b (hp.resolve_right he) hb).1
      omega
  · simp only [Ctx.new] at hb ⊢
    rw [World.size_alloc]
    exact ⟨by have := (h.im b hb).1; omega, .inl hb⟩
  · simp only [List.length_singleton, List.not_mem_nil, false_or] at hp
    have : p = st.next := by omega
    subst this
    simp [Ctx.new] at hF hb
    have := (h.im b hb).1
    omega
  · exact ⟨rfl, rfl, rfl, by simp [Ctx.new], fun b hb _ => old b hb⟩

/-- The block of a place, written. -/
def Ctx.at (c : Ctx) (w' : World) : Ctx := { c with w := w' }

theorem fits_upd (h : ROk E st a c) {p : Nat} {it : Itm} {w' : World} (hD : c.D p) (hs : w'.heap.size = c.w.heap.size) (ho : w'.os = c.w.os) (ht : w'.tape = c.w.tape) (hou : w'.output = c.w.output)
    (hb : ∀ b, b < c.w.heap.size → ¬ c.F p b → w'.heap[b]? = c.w.heap[b]?) (hi : IOk (c.at w') p it) : Fits c (c.at w') [p] [] [(p, it)] [] st.next := by
  refine ⟨fun q => (by simp [Ctx.at]; omega), ⟨fun q hq => hq, fun q hq _ => rfl, fun q hq _ b => Iff.rfl, fun b hb => hb, fun b hb' => hb b (h.im b hb').1 ((h.im b hb').2 p hD), fun q b hq hne hqb => ?_, fun q hq => absurd hq (by simp)⟩,
    fun q jt hq => ?_, fun i jt hj => (by simp at hj), fun q b hq _ hF => .inl hF, fun q b h1 h2 => (by simp at h2; omega), fun q q' b hq hq' hne => ?_, fun q b hq hF => ?_, fun b hb' => ?_, fun b q hb' hq hF => ?_, ?_⟩
  · have : q ≠ p := by simpa using hne
    exact hb b (h.lt q b hq hqb).1 (h.dj q p b hq hD this hqb)
  · simp at hq; obtain ⟨rfl, rfl⟩ := hq; exact hi
  · simp at hq hq'; omega
  · show b < w'.heap.size; rw [hs]; exact (h.lt q b hq hF).1
  · exact ⟨by show b < w'.heap.size; rw [hs]; exact (h.im b hb').1, .inl hb'⟩
  · simp at hq
    rcases hq with rfl | hq
    · exact (h.im b hb').2 q hD hF
    · omega
  · exact ⟨ho, ht, hou, by show _ ≤ w'.heap.size; omega, fun b hlt hn => hb b hlt (fun hF => hn ⟨p, by simp, hD, hF⟩)⟩

theorem refVal_one (n : Nat) : (refVal n).oneCell' = true := by cases n <;> rfl
theorem lh_one (h : Lh) : h.val.oneCell' = true := by obtain ⟨b, n, k⟩ := h; cases b <;> rfl
theorem one_cell {v : AV} {cv : Value} (h : CV c v cv) (hv : v.one = true) : cv.oneCell' = true := by
  cases v <;> simp [AV.one] at hv <;> simp only [CV] at h
  all_goals first
    | (subst h; rfl)
    | (obtain ⟨_, rfl⟩ := h; rfl)
    | (subst h; exact refVal_one _)
    | (obtain ⟨_, rfl⟩ := h; exact lh_one _)
    | (obtain ⟨_, _, _, rfl⟩ := h; rfl)
    | (obtain ⟨_, _, _, _, _, rfl⟩ := h; rfl)
    | (obtain ⟨_, _, _, _, _, rfl, _⟩ := h; rfl)
    | (obtain ⟨_, rfl, _⟩ := h; rfl)
    | (obtain ⟨_, _, _, _, _, rfl⟩ := h; rfl)
    | (obtain ⟨_, _, h3⟩ := h; obtain ⟨_, _, _, rfl⟩ := h3; rfl)
    | (obtain ⟨_, _, h3⟩ := h; obtain ⟨_, rfl⟩ := h3; rfl)
    | (obtain ⟨A, cap, h1, _⟩ := h; simp at h1; subst h1; rfl)
    | (obtain ⟨_, b, es, clock, i, x, _, _, _, _, _, rfl⟩ := h; rfl)
theorem one_cells : ∀ {vs : List AV} {l : List Value}, CVL c vs l → vs.all AV.one = true → ∀ u ∈ l, u.oneCell' = true
  | [], [], _, _, u, hu => by cases hu
  | v :: vs, x :: l, h, hv, u, hu => by
    simp only [List.all_cons, Bool.and_eq_true] at hv
    rcases List.mem_cons.1 hu with rfl | hu
    · exact one_cell h.1 hv.1
    · exact one_cells h.2 hv.2 u hu
  | [], _ :: _, h, _, _, _ => h.elim
  | _ :: _, [], h, _, _, _ => h.elim

theorem setRow_same (w : World) (g : Nat) (cs cur : Array Value) (t : TypeId) (hg : w.heap[g]? = some (.cells cur t (0, 0))) : (w.setRow g cs).heap[g]? = some (.cells cs t (0, 0)) := by
  simp [World.setRow, Array.getElem?_modify, hg]
theorem setRow_else (w : World) (g : Nat) (cs : Array Value) (b : Nat) (h : b ≠ g) : (w.setRow g cs).heap[b]? = w.heap[b]? := by
  simp only [World.setRow, Array.getElem?_modify]
  rw [if_neg (fun e => h e.symm)]

/-- A store into cells that lie in one block. -/
theorem run_storeVar {t : TypeId} {ti : TI} (Ti : TIok P t ti) {v : Value} (hsz : v.cells.size = ti.size) {w : World} {g o : Nat} {cur : Array Value} {te : TypeId} (hg : w.heap[g]? = some (.cells cur te (0, 0))) (hle : o + ti.size ≤ cur.size)
    (h1 : ∀ u ∈ v.cells.toList, u.oneCell' = true) : (Instr.storeAt t (.pointer (some ⟨g, o, none⟩)) v).run P w = .ok () (w.setRow g (cur.toList.take o ++ v.cells.toList ++ cur.toList.drop (o + ti.size)).toArray) := by
  have := run_storeCells_at (P := P) g o te v.cells.toList 0 cur w hg (by simp; omega) h1
  simp only [Nat.add_zero, Array.length_toList, hsz] at this
  simp [Instr.storeAt, Instr.sureAddr, storeVar, Ti.runSize, hsz, this]

theorem putAt_cv : ∀ (e : Ty) (d : e.den) (off : Nat) (vs : List AV) (d' : e.den) (cs l : List Value), e.putAt d off vs = some d' → e.K c.w c.Im d cs → CVL c vs l → e.K c.w c.Im d' (cs.take off ++ l ++ cs.drop (off + l.length)) ∧ off + l.length ≤ cs.length
  | .pair x y, d, off, vs, d', cs, l, hp, hk, hv => by
    have hlen := Ty.K_len _ _ _ hk
    have hvl := hv.len
    obtain ⟨c1, c2, hc, k1, k2⟩ := hk
    have l1 := Ty.K_len _ _ _ k1
    have l2 := Ty.K_len _ _ _ k2
    simp only [Ty.putAt] at hp
    split at hp
    · rename_i hh
      obtain ⟨h1, h2⟩ := hh
      subst h2
      have hlc : l.length = cs.length := by omega
      refine ⟨?_, by omega⟩
      rw [List.take_zero, List.nil_append, List.drop_eq_nil_of_le (by omega), List.append_nil]
      exact Ty.dec_cv _ _ _ _ hp hv
    · split at hp
      · rename_i hh
        obtain ⟨u, hu, rfl⟩ := Option.map_eq_some_iff.1 hp
        obtain ⟨r1, r2⟩ := putAt_cv x d.1 off vs u c1 l hu k1 hv
        refine ⟨⟨_, c2, ?_, r1, k2⟩, by rw [hc, List.length_append]; omega⟩
        rw [hc, List.take_append_of_le_length (by omega), List.drop_append_of_le_length (by omega)]
        simp only [List.append_assoc]
      · split at hp
        · rename_i hh
          obtain ⟨u, hu, rfl⟩ := Option.map_eq_some_iff.1 hp
          obtain ⟨r1, r2⟩ := putAt_cv y d.2 (off - x.sz) vs u c2 l hu k2 hv
          refine ⟨⟨c1, _, ?_, k1, r1⟩, by rw [hc, List.length_append]; omega⟩
          have e1 : off = c1.length + (off - x.sz) := by omega
          have e2 : off + l.length = c1.length + (off - x.sz + l.length) := by omega
          have et : (c1 ++ c2).take off = c1 ++ c2.take (off - x.sz) := by
            have := List.take_length_add_append (l₁ := c1) (l₂ := c2) (off - x.sz)
            rwa [← e1] at this
          rw [hc, et, e2, List.drop_length_add_append]
          simp only [List.append_assoc]
        · cases hp
  | .int k, d, off, vs, d', cs, l, hp, hk, hv => putOne (.int k) d off vs d' cs l (by simpa [Ty.putAt] using hp) hk hv rfl
  | .bool, d, off, vs, d', cs, l, hp, hk, hv => putOne .bool d off vs d' cs l (by simpa [Ty.putAt] using hp) hk hv rfl
  | .unit, d, off, vs, d', cs, l, hp, hk, hv => by
    have hlen := Ty.K_len _ _ _ hk
    simp only [Ty.putAt] at hp
    split at hp
    · rename_i h0
      subst h0
      have h2 := Ty.dec_cv _ _ _ _ hp hv
      have h3 := Ty.K_len _ _ _ h2
      rw [List.take_zero, List.nil_append, List.drop_eq_nil_of_le (by rw [hlen, h3]; simp), List.append_nil]
      exact ⟨h2, by rw [hlen, h3]; simp⟩
    · cases hp
  | .slice e, d, off, vs, d', cs, l, hp, hk, hv => putOne (.slice e) d off vs d' cs l (by simpa [Ty.putAt] using hp) hk hv rfl
  | .ref q, d, off, vs, d', cs, l, hp, hk, hv => putOne (.ref q) d off vs d' cs l (by simpa [Ty.putAt] using hp) hk hv rfl
  | .hdr q e, d, off, vs, d', cs, l, hp, hk, hv => putOne (.hdr q e) d off vs d' cs l (by simpa [Ty.putAt] using hp) hk hv rfl
where
  putOne (t : Ty) (d : t.den) (off : Nat) (vs : List AV) (d' : t.den) (cs l : List Value) (hp : (off = 0 ∧ t.dec vs = some d')) (hk : t.K c.w c.Im d cs) (hv : CVL c vs l) (h1 : t.sz = 1) :
      t.K c.w c.Im d' (cs.take off ++ l ++ cs.drop (off + l.length)) ∧ off + l.length ≤ cs.length := by
    have hlen := Ty.K_len _ _ _ hk
    obtain ⟨rfl, hp⟩ := hp
    have h2 := Ty.dec_cv _ _ _ _ hp hv
    have h3 := Ty.K_len _ _ _ h2
    rw [List.take_zero, List.nil_append, List.drop_eq_nil_of_le (by omega), List.append_nil]
    exact ⟨h2, by omega⟩

/-! ### What a step leaves -/

structure Kp (st st' : St) (ts : List Nat) : Prop where
  lockA : ∀ p ∈ st.lock, st'.at p = st.at p
  lockl : st'.lock = st.lock
  tmp : ∀ t, t ∉ ts → st'.tmp t = st.tmp t ∨ (st'.tmp t = .undef ∧ ∃ p, p ∉ st.lock ∧ (((st.tmp t).has p = true ∨ (st.tmp t).hasSt p = true) ∨ (p ∈ (st.tmp t).pos ∧ pkNo p ∈ ts)))
  key : ∀ p, hasKey st.heap p = true → hasKey st'.heap p = true

/-- What lies in places that are held, and what nobody writes, is as it was. -/
structure Hd (c c' : Ctx) (hold : List Nat) : Prop where
  D : ∀ p, c.D p → c'.D p
  im : ∀ b, c.Im b → c'.Im b ∧ c'.w.heap[b]? = c.w.heap[b]?
  pl : ∀ p b, p ∈ hold → c.D p → c.F p b → c'.w.heap[b]? = c.w.heap[b]?
  F : ∀ p b, p ∈ hold → c.D p → (c'.F p b ↔ c.F p b)
  r : ∀ p, p ∈ hold → c.D p → c'.ρ p = c.ρ p
  s : ∀ p, c.D p → (∃ A n cap, c.ρ p = .slice A n cap) ∨ c'.ρ p = c.ρ p

theorem Kp.refl (st : St) (ts : List Nat) : Kp st st ts := ⟨fun _ _ => rfl, rfl, fun _ _ => .inl rfl, fun _ h => h⟩
theorem Hd.refl (c : Ctx) (hold : List Nat) : Hd c c hold := ⟨fun _ h => h, fun _ h => ⟨h, rfl⟩, fun _ _ _ _ _ => rfl, fun _ _ _ _ => Iff.rfl, fun _ _ _ => rfl, fun _ _ => .inr rfl⟩
theorem Hd.mono {c c' : Ctx} {hold hold' : List Nat} (h : Hd c c' hold) (hs : ∀ p ∈ hold', p ∈ hold) : Hd c c' hold' := ⟨h.D, h.im, fun p b hp => h.pl p b (hs p hp), fun p b hp => h.F p b (hs p hp), fun p hp => h.r p (hs p hp), h.s⟩
theorem Kp.trans {s1 s2 s3 : St} {ts : List Nat} (h : Kp s1 s2 ts) (k : Kp s2 s3 ts) : Kp s1 s3 ts :=
  ⟨fun p hp => (k.lockA p (by rw [h.lockl]; exact hp)).trans (h.lockA p hp), k.lockl.trans h.lockl, fun t ht => by
    rcases k.tmp t ht with h1 | ⟨h1, p, h2, h3⟩
    · rw [h1]; exact h.tmp t ht
    · right
      refine ⟨h1, ?_⟩
      rcases h.tmp t ht with h4 | ⟨h4, h5⟩
      · exact ⟨p, h.lockl ▸ h2, by rw [← h4]; exact h3⟩
      · exact h5, fun p hp => k.key p (h.key p hp)⟩
theorem Kp.mono {s1 s2 : St} {ts ts' : List Nat} (h : Kp s1 s2 ts) (hs : ∀ t ∈ ts, t ∈ ts') : Kp s1 s2 ts' := ⟨h.lockA, h.lockl, fun t ht => (h.tmp t (fun hm => ht (hs t hm))).imp id fun ⟨h1, p, h2, h3⟩ => ⟨h1, p, h2, h3.imp id fun h4 => ⟨h4.1, hs _ h4.2⟩⟩, h.key⟩
theorem Hd.trans {a b d : Ctx} {hold : List Nat} (h : Hd a b hold) (k : Hd b d hold) : Hd a d hold :=
  ⟨fun p hp => k.D p (h.D p hp), fun x hx => ⟨(k.im x (h.im x hx).1).1, (k.im x (h.im x hx).1).2.trans (h.im x hx).2⟩,
    fun p x hp hD hF => (k.pl p x hp (h.D p hD) ((h.F p x hp hD).2 hF)).trans (h.pl p x hp hD hF), fun p x hp hD => (k.F p x hp (h.D p hD)).trans (h.F p x hp hD),
    fun p hp hD => (k.r p hp (h.D p hD)).trans (h.r p hp hD), fun p hD => by
      rcases h.s p hD with h1 | h1
      · exact .inl h1
      · rcases k.s p (h.D p hD) with h2 | h2
        · rw [h1] at h2; exact .inl h2
        · exact .inr (h2.trans h1)⟩

def Post (E : Env) (st : St) (hold : List Nat) (c : Ctx) (dst : Option Nat) (K : St → Prop) (a' : Act) (w' : World) : Prop :=
  ∃ st' c', c'.w = w' ∧ ROk E st' a' c' ∧ K st' ∧ Kp st st' dst.toList ∧ Hd c c' (hold ++ st.lock)

theorem stopsI_same {ks : List Nat} {it : Itm} (h : ∀ k ∈ ks, (match it with
    | .iter m _ _ _ _ => !Nat.beq m k
    | .cells vs => !AV.hasStL k vs
    | _ => true) = true) : stopsI ks it = it := by
  induction ks with
  | nil => rfl
  | cons k ks ih =>
    have h1 : it.stop k = it := by
      have := h k (by simp)
      cases it with
      | gone => rfl
      | arr t e xs => rfl
      | mapo k v E => rfl
      | pool _ _ _ _ => rfl
      | apool _ _ _ _ => rfl
      | iter m k' v l x => simp at this; simp [Itm.stop, this]
      | cells vs =>
        simp at this
        simp only [Itm.stop, Itm.cells.injEq]
        have : ∀ (l : List AV), AV.hasStL k l = false → l.map (AV.unst k) = l := by
          intro l
          induction l with
          | nil => intro _; rfl
          | cons v l ihl => intro hv; simp [AV.hasStL] at hv; simp [AV.unst, hv.1, ihl hv.2]
        exact this vs (by assumption)
    show stopsI ks (it.stop k) = it
    rw [h1]
    exact ih fun x hx => h x (by simp [hx])
theorem dropsI_same {ks : List Nat} {it : Itm} (h : ∀ k ∈ ks, it.has k = false) : dropsI ks it = it := by
  induction ks with
  | nil => rfl
  | cons k ks ih =>
    have h1 : it.drop k = it := by
      have := h k (by simp)
      cases it with
      | cells vs =>
        simp only [Itm.has] at this
        simp only [Itm.drop, Itm.cells.injEq]
        have : ∀ (l : List AV), AV.hasL k l = false → l.map (AV.drop k) = l := by
          intro l
          induction l with
          | nil => intro _; rfl
          | cons v l ihl => intro hv; simp [AV.hasL] at hv; simp [AV.drop, hv.1, ihl hv.2]
        exact this vs (by assumption)
      | _ => rfl
    show dropsI ks (it.drop k) = it
    rw [h1]
    exact ih fun x hx => h x (by simp [hx])

theorem dropsV_same {rel : List Nat} {v : AV} (h : ∀ p ∈ rel, v.has p = false) : dropsV rel v = v := by
  induction rel with
  | nil => rfl
  | cons p l ih =>
    show dropsV l (v.drop p) = v
    rw [show v.drop p = v from by simp [AV.drop, h p (by simp)]]
    exact ih fun q hq => h q (by simp [hq])
theorem unstsV_same {rel : List Nat} {v : AV} (h : ∀ p ∈ rel, v.hasSt p = false) : unstsV rel v = v := by
  induction rel with
  | nil => rfl
  | cons p l ih =>
    show unstsV l (v.unst p) = v
    rw [show v.unst p = v from by simp [AV.unst, h p (by simp)]]
    exact ih fun q hq => h q (by simp [hq])

theorem kp_step {st : St} {hold rel : List Nat} {upd : List (Nat × Itm)} {new : List Itm} {dst : Option Nat} {v : AV} (hlk : ∀ p ∈ st.lock, hasKey st.heap p = true) (hl : Lets st hold rel upd new.length) :
    Kp st ((((st.kill rel).upds upd).news new).put dst v) dst.toList := by
  have hput : ∀ (s : St) p, (s.put dst v).at p = s.at p ∧ (s.put dst v).heap = s.heap ∧ (s.put dst v).lock = s.lock := fun s p => by cases dst <;> exact ⟨rfl, rfl, rfl⟩
  have hnx : ((st.kill rel).upds upd).next = st.next := by rw [(rest_upds _ _).1, (rest_kill _ _).1]
  have hkeys : ∀ x ∈ upd, hasKey (st.kill rel).heap x.1 = true := fun x hx => by rw [key_kill]; exact hl.key x hx
  refine ⟨fun p hp => ?_, ?_, fun t ht => ?_, fun p hp => ?_⟩
  · rw [(hput _ p).1]
    have hpn : p < st.next ∨ st.next + new.length ≤ p := by
      rcases Nat.lt_or_ge p st.next with h | h
      · exact .inl h
      · rcases Nat.lt_or_ge p (st.next + new.length) with h' | h'
        · have := hl.new (p - st.next) (by omega)
          rw [show st.next + (p - st.next) = p from by omega, hlk p hp] at this
          cases this
        · exact .inr h'
    have hpk : p ∉ upd.map (·.1) := fun hm => by
      obtain ⟨x, hx, rfl⟩ := List.mem_map.1 hm
      exact hl.lockK x hx hp
    rw [at_news_other new _ p (by rw [hnx]; exact hpn), at_upds_other upd _ p hpk, at_kill, dropsI_same (hl.lockR p hp)]
    refine stopsI_same fun k hk => ?_
    obtain ⟨x, hx, rfl⟩ := List.mem_map.1 hk
    exact hl.lockU p hp x hx
  · rw [(hput _ 0).2.2, (rest_news _ _).2, (rest_upds _ _).2, (rest_kill _ _).2]
  · have : ((((st.kill rel).upds upd).news new).put dst v).tmp t = (((st.kill rel).upds upd).news new).tmp t := by
      cases dst with
      | none => rfl
      | some d =>
        have hne : d ≠ t := by simpa using fun h => ht (by simp [h])
        show look .undef ((d, v) :: _) t = _
        simp only [look, nbeq_ne hne, cond_false]; rfl
    rw [this, tmp_news, tmp_upds, tmp_kill]
    have hul : ∀ p ∈ upd.map (·.1), p ∉ st.lock := fun p hp => by
      obtain ⟨x, hx, rfl⟩ := List.mem_map.1 hp
      exact hl.lockK x hx
    by_cases hd : ∀ p ∈ rel, (st.tmp t).has p = false
    · by_cases hu : ∀ p ∈ upd.map (·.1), (st.tmp t).hasSt p = false
      · rw [dropsV_same hd, unstsV_same hu]; exact .inl rfl
      · rw [dropsV_same hd]
        rcases unstsV_or (upd.map (·.1)) (st.tmp t) with h' | ⟨h', h2⟩
        · obtain ⟨p, hp⟩ := Classical.not_forall.1 hu
          obtain ⟨hp, hq⟩ := Classical.not_imp.1 hp
          exact .inr ⟨h', p, hul p hp, .inl (.inr (by simpa using hq))⟩
        · exact absurd h2 hu
    · rcases dropsV_or rel (st.tmp t) with h | ⟨h, h2⟩
      · obtain ⟨p, hp⟩ := Classical.not_forall.1 hd
        obtain ⟨hp, hq⟩ := Classical.not_imp.1 hp
        rw [h, unstsV_undef]
        exact .inr ⟨rfl, p, hul p (hl.relK p hp), .inl (.inl (by simpa using hq))⟩
      · exact absurd h2 hd
  · rw [(hput _ p).2.1, key_news, hnx, key_upds _ _ _ hkeys, key_kill]
    exact .inl hp

theorem hd_fits {c c' : Ctx} {hold rel : List Nat} {upd : List (Nat × Itm)} {new : List Itm} {nx : Nat} (h : Fits c c' (upd.map (·.1)) rel upd new nx) (hh : ∀ x ∈ upd, x.1 ∉ hold) : Hd c c' hold := by
  have hk : ∀ p, p ∈ hold → p ∉ upd.map (·.1) := fun p hp hm => by
    obtain ⟨x, hx, rfl⟩ := List.mem_map.1 hm
    exact hh x hx hp
  exact ⟨h.ext.D, fun b hb => ⟨h.ext.Im b hb, h.ext.imw b hb⟩, fun p b hp hD hF => h.ext.fw p b hD (hk p hp) hF, fun p b hp hD => h.ext.F p hD (hk p hp) b, fun p hp hD => h.ext.ρ p hD (fun hr => hk p hp (h.ext.sub p hr).1), fun p hD => by
    by_cases hr : p ∈ rel
    · exact .inl ((h.ext.sub p hr).2 hD)
    · exact .inr (h.ext.ρ p hD hr)⟩

/-- The lock is of places that are there. -/
def LockOk (st : St) : Prop := ∀ p ∈ st.lock, hasKey st.heap p = true
theorem LockOk.kp {st st' : St} {ts : List Nat} (h : LockOk st) (k : Kp st st' ts) : LockOk st' := fun p hp => k.key p (h p (by rw [← k.lockl]; exact hp))

theorem post_of (h : ROk E st a c) (hlk : LockOk st) {hold rel : List Nat} {dst : Option Nat} {v : AV} {upd : List (Nat × Itm)} {new : List Itm} {K : St → Prop} {cv : Value} {w' : World}
    (hK : stepK E.nt st hold rel dst v upd new K) (hf : Lets st hold rel upd new.length → ∃ c', c'.w = w' ∧ Fits c c' (upd.map (·.1)) rel upd new st.next ∧ CV c' v cv) : Post E st hold c dst K (a.put dst cv) w' := by
  unfold stepK at hK
  cases hb : st.lets hold rel upd new.length && dstOk E.nt dst with
  | false => simp [hb] at hK
  | true =>
    rw [hb] at hK
    simp only [cond_true] at hK
    simp only [Bool.and_eq_true] at hb
    have hl := lets_iff hb.1
    obtain ⟨c', hw, hfits, hcv⟩ := hf hl
    exact ⟨_, c', hw, step_ok h hl hb.2 hfits hcv, hK, kp_step hlk hl, hd_fits hfits (fun x hx hm => (List.mem_append.1 hm).elim (hl.holdK x hx) (hl.lockK x hx))⟩
end
end Go.Proofs.Ytljimnhijpcjaaa.VC
