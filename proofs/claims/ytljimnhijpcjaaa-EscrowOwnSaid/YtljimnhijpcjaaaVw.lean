/- Code. Plain lemmas; no conditions but those that each names. -/
import Derived.Test.YtljimnhijpcjaaaVwb
set_option linter.unusedVariables false
set_option linter.unusedSimpArgs false
set_option linter.unusedSectionVars false
namespace Go.Proofs.Ytljimnhijpcjaaa.VC
open Go

section
variable {P : Program} {E : Env} {st : St} {a : Act} {c : Ctx} {K : St → Prop} {Q : Exit → Act → World → Prop} {C : Cx} {A : Ann}

/-- One draw more. -/
theorem drawn_ok (h : ROk E st a c) {w' : World} (hh : w'.heap = c.w.heap) (ho : w'.os = c.w.os) (ht : w'.tape = c.w.tape) (hu : w'.output = c.w.output) (lk : List Nat) : ROk E st a (c.at w') ∧ Hd c (c.at w') lk := by
  have hx : ∀ keys rel : List Nat, keys = [] → rel = [] → Ext c (c.at w') (· ∈ keys) (· ∈ rel) := fun keys rel e1 e2 => by
    subst e1; subst e2
    exact ⟨fun _ h => h, fun _ _ _ => rfl, fun _ _ _ _ => Iff.rfl, fun _ h => h, fun b _ => by show w'.heap[b]? = _; rw [hh], fun _ b _ _ _ => by show w'.heap[b]? = _; rw [hh], fun _ h => absurd h (by simp)⟩
  refine ⟨⟨h.Dk, fun t => CV.ext (hx [] [] rfl rfl) _ _ (clear_of _ (fun _ h => absurd h (by simp)) (fun _ h => absurd h (by simp))) (h.tm t), h.sz, h.df, fun p hD => IOk.left (hx [] [] rfl rfl) hD (by simp) (h.it p hD), h.dj, fun p b hD hF => ?_, fun b hb => ?_, h.im0, h.im1, ?_⟩, ?_⟩
  · show b < w'.heap.size ∧ _
    rw [hh]; exact h.lt p b hD hF
  · show b < w'.heap.size ∧ _
    rw [hh]; exact h.im b hb
  · exact ⟨ho.trans h.fr.os, ht.trans h.fr.tape, hu.trans h.fr.output, by show _ ≤ w'.heap.size; rw [hh]; exact h.fr.size, fun b hb hn => by show w'.heap[b]? = _; rw [hh]; exact h.fr.block b hb hn⟩
  · exact ⟨fun _ h => h, fun b hb => ⟨hb, by show w'.heap[b]? = _; rw [hh]⟩, fun _ b _ _ _ => by show w'.heap[b]? = _; rw [hh], fun _ _ _ _ => Iff.rfl, fun _ _ _ => rfl, fun _ _ => .inr rfl⟩

theorem mat_ok : ∀ (l : List (Nat × Nat × TypeId × Ty)) {st : St} {c : Ctx}, ROk E st a c → LockOk st → matA C.nt l st K →
    ∃ st1 c1, c1.w = c.w ∧ ROk E st1 a c1 ∧ LockOk st1 ∧ K st1 ∧ Kp st st1 (l.map (·.1)) ∧ Hd c c1 st.lock
  | [], st, c, h, hlk, hK => ⟨st, c, rfl, h, hlk, hK, Kp.refl _ _, Hd.refl _ _⟩
  | (t, q, te, e) :: l, st, c, h, hlk, hK => by
    unfold matA at hK
    split at hK
    · rename_i ht
      cases hb : hasKey st.heap q || !Nat.blt t C.nt with
      | true => rw [hb] at hK; exact hK.elim
      | false =>
        rw [hb] at hK
        simp only [Bool.or_eq_false_iff] at hb
        obtain ⟨c1, hw, h1, k1, d1⟩ := mat_one (te := te) (e := e) h hlk ht hb.1
        obtain ⟨st2, c2, hw2, h2, hlk2, hK2, k2, d2⟩ := mat_ok l h1 (hlk.kp k1) hK
        exact ⟨st2, c2, hw2.trans hw, h2, hlk2, hK2, (k1.mono (by simp)).trans (k2.mono fun u hu => by simp at hu ⊢; exact .inr hu), d1.trans d2⟩
    · exact hK.elim

def AExit.to : AExit → Exit
  | .normal => .normal
  | .exit id => .exit id
  | .ret => .ret

/-- What comes after serves what the code leaves. -/
structure QOk (E : Env) (st : St) (c : Ctx) (ts : List Nat) (K : AExit → St → Prop) (Q : Exit → Act → World → Prop) : Prop where
  ex : ∀ e st' a' c', ROk E st' a' c' → LockOk st' → K e st' → Kp st st' ts → Hd c c' st.lock → Q e.to a' c'.w
  p : ∀ ch a w, ¬ Q (.panic ch) a w

theorem QOk.mono {st : St} {c : Ctx} {ts ts' : List Nat} {K : AExit → St → Prop} (h : QOk E st c ts K Q) (hs : ∀ t ∈ ts', t ∈ ts) : QOk E st c ts' K Q :=
  ⟨fun e st' a' c' h1 h2 h3 h4 h5 => h.ex e st' a' c' h1 h2 h3 (h4.mono hs) h5, h.p⟩
theorem QOk.from {st st1 : St} {c c1 : Ctx} {ts ts1 : List Nat} {K : AExit → St → Prop} (h : QOk E st c ts K Q) (k : Kp st st1 ts1) (d : Hd c c1 st.lock) (hs : ∀ t ∈ ts1, t ∈ ts) : QOk E st1 c1 ts K Q :=
  ⟨fun e st' a' c' h1 h2 h3 h4 h5 => h.ex e st' a' c' h1 h2 h3 ((k.mono hs).trans h4) (d.trans (k.lockl ▸ h5)), h.p⟩

theorem ROk.lock (h : ROk E st a c) (lk : List Nat) : ROk E { st with lock := lk } a c := ⟨h.Dk, h.tm, h.sz, h.df, h.it, h.dj, h.lt, h.im, h.im0, h.im1, h.fr⟩

theorem hd_only {c c' : Ctx} {lk : List Nat} {D : Nat → Prop} (h : Hd c c' lk) (hD : ∀ p, c.D p → D p) : Hd c (c'.only D) lk := ⟨hD, h.im, h.pl, h.F, h.r, h.s⟩

theorem mem_lockOf {st : St} {hk : List Nat} {p : Nat} : p ∈ (st.heap.map (·.1)).filter (fun p => !isIn hk p) ↔ hasKey st.heap p = true ∧ p ∉ hk := by
  rw [List.mem_filter, ← hasKey_iff]
  have : isIn hk p = true ↔ p ∈ hk := isIn_iff
  cases h : isIn hk p with
  | true => simp [this.1 h]
  | false =>
    have : p ∉ hk := fun hm => by rw [this.2 hm] at h; cases h
    simp [this]

theorem code_ok (T : TabOk P C.tt C.eqt) (S : ∀ f s, C.sp f = some s → FnOk P f s) (hnt : E.nt = C.nt) (hlim : ∀ p b, 900 ≤ p → ¬ E.F0 p b) (hmx : P.follows .mixedOrders = true) : ∀ (code : Code) (st : St) (a : Act) (c : Ctx) (K : AExit → St → Prop) (Q : Exit → Act → World → Prop),
    ROk E st a c → LockOk st → codeA C A code st K → QOk E st c (codeTs A code) K Q → code.wp P Q a c.w := by
  intro code
  induction code with
  | skip =>
    intro st a c K Q h hlk hc hQ
    exact wp_skip (hQ.ex .normal st a c h hlk hc (Kp.refl _ _) (Hd.refl _ _))
  | region id ops draw =>
    intro st0 a c0 K Q h0 hlk0 hc0 hQ0
    simp only [codeA] at hc0
    rw [forceS_eq] at hc0
    obtain ⟨st, c, hcw, h, hlk, hc, hk0, hd0⟩ := ghost_ok hlim (A.ghost id) h0 hlk0 hc0
    have G : GhOk E ghostA := fun l st a c K h hlk hk => ghost_ok hlim l h hlk hk
    have hQ : QOk E st c (regTs (A.og id) ops.toList) K Q := (hQ0.from (hk0.mono fun t ht => by simp only [codeTs]; exact List.mem_append_right _ ht) hd0 fun _ h => h).mono fun t ht => by simp only [codeTs]; exact List.mem_append_left _ ht
    rw [← hcw]
    cases draw with
    | true =>
      simp only [cond_true] at hc
      cases hns : noSel ops.toList with
      | false => rw [hns] at hc; exact hc.elim
      | true =>
        rw [hns] at hc
        simp only [cond_true] at hc
        have hsel : Region.noSelect ops.toList.toArray = true := by
          unfold Region.noSelect
          rw [Array.toArray_toList]
          unfold noSel at hns
          rw [Array.all_toList] at hns
          exact hns
        obtain ⟨h', hd⟩ := drawn_ok h (w' := { c.w with drawn := c.w.drawn + 1 }) rfl rfl rfl rfl st.lock
        have := draw_ok (Q := Q) T S hnt G hsel hQ.p ops.size (Array.replicate ops.size false) st a (c.at { c.w with drawn := c.w.drawn + 1 }) h' hlk hc fun st' a' c' r1 r2 r3 r4 => hQ.ex .normal st' a' c' r1 (hlk.kp r3) r2 r3 (hd.trans r4)
        have := wpAny_of_T _ _ _ _ _ this
        rw [Array.toArray_toList] at this
        exact wp_region_any hmx this
    | false =>
      simp only [cond_false] at hc
      have := seq_ok (Q := Q) T S hnt G (ops := ops.toList) ops.toList 0 st a c rfl h hlk hc fun st' a' c' r1 r2 r3 r4 => hQ.ex .normal st' a' c' r1 (hlk.kp r3) r2 r3 r4
      rw [Array.toArray_toList, Array.length_toList] at this
      refine wp_region ?_
      rw [List.range_eq_range']
      exact this
  | seq x y ihx ihy =>
    intro st a c K Q h hlk hc hQ
    simp only [codeA] at hc
    split at hc
    · rename_i hcut
      refine wp_seq (ihx st a c _ _ h hlk hc ⟨fun e st' a' c' r1 r2 r3 r4 r5 => ?_, hQ.p⟩)
      have r4' : Kp st st' (codeTs A (.seq x y)) := r4.mono fun t ht => by simp only [codeTs, List.mem_append]; exact .inl (.inl ht)
      cases e with
      | normal => exact ihy st' a' c' K Q r1 r2 r3 ((hQ.from r4' r5 fun _ h => h).mono fun t ht => by simp only [codeTs, List.mem_append]; exact .inl (.inr ht))
      | exit id => exact hQ.ex (.exit id) st' a' c' r1 r2 r3 r4' r5
      | ret => exact hQ.ex .ret st' a' c' r1 r2 r3 r4' r5
    · rename_i J hcut
      rw [withInv_eq] at hc
      generalize hI : J.2 st = I at hc
      cases hm0 : natsEq I.slots J.1 && I.may st with
      | false => rw [hm0] at hc; exact hc.elim
      | true =>
        rw [hm0] at hc
        simp only [Bool.and_eq_true] at hm0
        obtain ⟨hsl, hm⟩ := hm0
        simp only [cond_true] at hc
        obtain ⟨hc1, hc2⟩ := hc
        have hts : codeTs A (.seq x y) = codeTs A x ++ codeTs A y ++ (I.tk ++ I.mat.map (·.1)) := by
          have := natsEq_iff hsl
          simp [codeTs, hcut, ← this, Inv.slots]
        have hlk' : LockOk { st with lock := st.lock ++ (st.heap.map (·.1)).filter (fun p => !isIn I.hk p) } := fun p hp => by
          rcases List.mem_append.1 hp with hp | hp
          · exact hlk p hp
          · exact (mem_lockOf.1 hp).1
        refine wp_seq (ihx _ a c _ _ (h.lock _) hlk' hc1 ⟨fun e st' a' c' r1 r2 r3 r4 r5 => ?_, hQ.p⟩)
        have r5' : Hd c c' st.lock := r5.mono fun p hp => List.mem_append_left _ hp
        have r4' : Kp st { st' with lock := st.lock } (codeTs A x) := ⟨fun p hp => r4.lockA p (List.mem_append_left _ hp), rfl, fun t ht => (r4.tmp t ht).imp id fun ⟨h1, p, h2, h3⟩ => ⟨h1, p, fun hp => h2 (List.mem_append_left _ hp), h3⟩, r4.key⟩
        have r4'' : Kp st { st' with lock := st.lock } (codeTs A (.seq x y)) := r4'.mono fun t ht => by rw [hts]; simp [ht]
        cases e with
        | normal =>
          obtain ⟨z, hz, hmet⟩ := r3
          have hc3 := hc2 z hz
          cases hfit : I.fit st z with
          | false => rw [hfit] at hc3; exact hc3.elim
          | true =>
            rw [hfit] at hc3
            simp only [cond_true] at hc3
            have hh := head_ok (ts := codeTs A x) (lk := st.lock) h r1 hm hfit hmet r4.key
              (fun p hp hn => r4.lockA p (List.mem_append_right _ (mem_lockOf.2 ⟨hp, hn⟩)))
              (fun t ht _ hno => by
                rcases r4.tmp t ht with e | ⟨_, p, h2, h3⟩
                · exact e
                · exfalso
                  have h3 : ((st.tmp t).has p = true ∨ (st.tmp t).hasSt p = true) ∨ (p ∈ (st.tmp t).pos ∧ pkNo p ∈ codeTs A x) := h3
                  have hp : hasKey st.heap p = true := (h.Dk p).1 (cv_pos _ _ (h.tm t) p (h3.elim (has_pos _) fun h => h.1))
                  have : p ∈ I.hk := Classical.byContradiction fun hn => h2 (List.mem_append_right _ (mem_lockOf.2 ⟨hp, hn⟩))
                  have := hno p this
                  rcases h3 with (h3 | h3) | h3
                  · rw [this.1] at h3; cases h3
                  · rw [this.2.1] at h3; cases h3
                  · exact this.2.2 h3)
            refine ihy _ a' (c'.only fun p => hasKey (I.head st (codeTs A x) z).heap p = true) K Q hh (fun p hp => head_sub (ts := codeTs A x) (x := z) (hlk p hp)) hc3 ⟨fun e2 st2 a2 c2 q1 q2 q3 q4 q5 => ?_, hQ.p⟩
            have kk := head_kp hlk hm (fun _ h => h) q4
            have hl2 : st2.lock = st.lock := q4.lockl
            have e3 : ({ st2 with lock := st.lock } : St) = st2 := by rw [← hl2]
            rw [e3] at kk
            exact hQ.ex e2 st2 a2 c2 q1 q2 q3 (kk.mono fun t ht => by rw [hts]; simp only [List.mem_append] at ht ⊢; rcases ht with (h | h) | h <;> simp [h]) ((hd_only r5' fun p hp => head_sub (ts := codeTs A x) (x := z) ((h.Dk p).1 hp)).trans q5)
        | exit id => exact hQ.ex (.exit id) _ a' c' (r1.lock _) (hlk.kp r4') r3 r4'' r5'
        | ret => exact hQ.ex .ret _ a' c' (r1.lock _) (hlk.kp r4') r3 r4'' r5'
  | cond t x y ihx ihy =>
    intro st a c K Q h hlk hc hQ
    cases t with
    | tmp t =>
      simp only [codeA] at hc
      rcases splitT_ok h hc with ⟨st', h1, h2, h3, h4⟩ | ⟨st', h1, h2, h3, h4⟩ | ⟨_, h4⟩
      · refine wp_cond_true ?_ (ihx st' a c K Q h1 (h2.lock hlk) h4 ((hQ.from h2.kp (Hd.refl _ _) fun u hu => by simp at hu; subst hu; simp [codeTs]).mono fun u hu => by simp [codeTs, hu]))
        have := h1.tm t
        rw [h3] at this
        simp only [CV] at this
        exact this
      · refine wp_cond_false ?_ (ihy st' a c K Q h1 (h2.lock hlk) h4 ((hQ.from h2.kp (Hd.refl _ _) fun u hu => by simp at hu; subst hu; simp [codeTs]).mono fun u hu => by simp [codeTs, hu]))
        have := h1.tm t
        rw [h3] at this
        simp only [CV] at this
        exact this
      · exact h4.elim
    | const v =>
      simp only [codeA] at hc
      have hv := avOf_cv c v
      split at hc
      · rename_i he
        rw [he] at hv
        exact wp_cond_true (by simp only [CV] at hv; exact hv) (ihx st a c K Q h hlk hc (hQ.mono fun u hu => by simp [codeTs, hu]))
      · rename_i he
        rw [he] at hv
        exact wp_cond_false (by simp only [CV] at hv; exact hv) (ihy st a c K Q h hlk hc (hQ.mono fun u hu => by simp [codeTs, hu]))
      · exact hc.elim
    | global g => simp [codeA] at hc
    | func f => simp [codeA] at hc
  | block id x ih =>
    intro st a c K Q h hlk hc hQ
    simp only [codeA] at hc
    refine wp_block (ih st a c _ _ h hlk hc ⟨fun e st' a' c' r1 r2 r3 r4 r5 => ?_, hQ.p⟩)
    cases e with
    | normal => exact hQ.ex .normal st' a' c' r1 r2 r3 r4 r5
    | exit j =>
      show (if j = id then Q .normal a' c'.w else Q (.exit j) a' c'.w)
      simp only at r3
      by_cases hj : j = id
      · rw [if_pos hj]
        rw [hj, Nat.beq_refl] at r3
        exact hQ.ex .normal st' a' c' r1 r2 r3 r4 r5
      · rw [if_neg hj]
        rw [nbeq_ne hj] at r3
        exact hQ.ex (.exit j) st' a' c' r1 r2 r3 r4 r5
    | ret => exact hQ.ex .ret st' a' c' r1 r2 r3 r4 r5
  | loop x ih =>
    intro st a c K Q h hlk hc hQ
    simp only [codeA] at hc
    split at hc
    · exact hc.elim
    · rename_i J hJ
      rw [withInv_eq] at hc
      generalize hI : J.2 st = I at hc
      cases hsl : natsEq I.slots J.1 with
      | false => rw [hsl] at hc; exact hc.elim
      | true =>
      rw [hsl] at hc
      simp only [cond_true] at hc
      have hts : codeTs A (.loop x) = codeTs A x ++ (I.tk ++ I.mat.map (·.1)) := by
        have := natsEq_iff hsl
        simp [codeTs, hJ, ← this, Inv.slots]
      unfold loopA at hc
      obtain ⟨s1, c1, hw, h1, hlk1, hc, k1, d1⟩ := mat_ok I.mat h hlk hc
      cases hm : I.may s1 with
      | false => rw [hm] at hc; exact hc.elim
      | true =>
        rw [hm] at hc
        simp only [cond_true] at hc
        obtain ⟨⟨z, hz, hmet⟩, hc⟩ := hc
        have hQ1 : QOk E s1 c1 (codeTs A (.loop x)) K Q := hQ.from k1 d1 fun t ht => by rw [hts]; simp only [List.mem_append]; exact .inr (.inr ht)
        have head : ∀ (s : St) (a' : Act) (c' : Ctx) (y : I.T), ROk E s a' c' → I.met s y → I.fit s1 y = true → (∀ p, hasKey s1.heap p = true → hasKey s.heap p = true) → (∀ p, hasKey s1.heap p = true → p ∉ I.hk → s.at p = s1.at p) →
            (∀ t, t ∉ codeTs A x → t ∉ I.tk → (∀ p ∈ I.hk, (s1.tmp t).has p = false ∧ (s1.tmp t).hasSt p = false ∧ ¬ (p ∈ (s1.tmp t).pos ∧ pkNo p ∈ codeTs A x)) → s.tmp t = s1.tmp t) → ROk E (I.head s1 (codeTs A x) y) a' (c'.only fun p => hasKey (I.head s1 (codeTs A x) y).heap p = true) :=
          fun s a' c' y r1 r2 r3 r4 r5 r6 => head_ok (ts := codeTs A x) (lk := (I.head s1 (codeTs A x) y).lock) h1 r1 hm r3 r2 r4 r5 r6
        rw [← hw]
        refine wp_loop_ghost (fun n a' w' => ∃ y c', c'.w = w' ∧ n = I.ms y ∧ Holds (I.ok y) ∧ I.fit s1 y = true ∧ ROk E (I.head s1 (codeTs A x) y) a' c' ∧ Hd c1 c' s1.lock) (I.ms z) ?_ ?_
        · have hfit : I.fit s1 z = true := by
            have := hc z hz
            cases hf : I.fit s1 z with
            | true => rfl
            | false => rw [hf] at this; exact this.elim
          exact ⟨z, c1.only (fun p => hasKey (I.head s1 (codeTs A x) z).heap p = true), rfl, rfl, hz, hfit, head s1 a c1 z h1 hmet hfit (fun _ h => h) (fun _ _ _ => rfl) (fun _ _ _ _ => rfl), hd_only (Hd.refl _ _) fun p hp => head_sub ((h1.Dk p).1 hp)⟩
        · rintro n a1 w1 ⟨y, cy, rfl, rfl, hy, hfit, hr, hd⟩
          have hcy := hc y hy
          rw [hfit] at hcy
          simp only [cond_true] at hcy
          have hlky : LockOk (I.head s1 (codeTs A x) y) := fun p hp => head_sub (mem_lockOf.1 hp).1
          have hll : ∀ p ∈ s1.lock, p ∈ (I.head s1 (codeTs A x) y).lock := fun p hp => mem_lockOf.2 ⟨hlk1 p hp, fun hk => may_iff hm hk hp⟩
          refine ih _ a1 cy _ _ hr hlky hcy ⟨fun e s a' c' r1 r2 r3 r4 r5 => ?_, hQ.p⟩
          have r5' : Hd c1 c' s1.lock := hd.trans (r5.mono hll)
          have kk := head_kp (lk := (I.head s1 (codeTs A x) y).lock) hlk1 hm hll r4
          have kk' : Kp s1 { s with lock := s1.lock } (codeTs A (.loop x)) := kk.mono fun t ht => by rw [hts]; simp only [List.mem_append] at ht ⊢; rcases ht with (h | h) | h <;> simp [h]
          cases e with
          | normal =>
            obtain ⟨z', hz', hlt, hmet'⟩ := r3
            have hfit' : I.fit s1 z' = true := by
              have := hc z' hz'
              cases hf : I.fit s1 z' with
              | true => rfl
              | false => rw [hf] at this; exact this.elim
            refine ⟨I.ms z', hlt.out, z', c'.only fun p => hasKey (I.head s1 (codeTs A x) z').heap p = true, rfl, rfl, hz', hfit', head s a' c' z' r1 hmet' hfit' (fun p hp => r4.key p (head_sub hp)) (fun p hp hn => ?_) (fun t ht ht2 hno => ?_), hd_only r5' fun p hp => head_sub ((h1.Dk p).1 hp)⟩
            · have h2 := r4.lockA p (mem_lockOf.2 ⟨hp, hn⟩)
              rw [h2]
              show look .gone (I.hk.zip (I.hp y) ++ s1.heap) p = look .gone s1.heap p
              have : ∀ (l : List (Nat × Itm)), (∀ y ∈ l, y.1 ≠ p) → look .gone (l ++ s1.heap) p = look .gone s1.heap p := by
                intro l
                induction l with
                | nil => intro _; rfl
                | cons y l ih =>
                  intro hl
                  obtain ⟨u, z⟩ := y
                  simp only [List.cons_append, look, nbeq_ne (hl (u, z) (by simp)), cond_false]
                  exact ih fun y hy => hl y (by simp [hy])
              exact this _ fun y hy e => hn (e ▸ (List.of_mem_zip hy).1)
            · have hh : (I.head s1 (codeTs A x) y).tmp t = s1.tmp t := by
                rw [head_tmp ht ht2]
                rcases loose_or I.hk (codeTs A x) (s1.tmp t) with ⟨_, p, hp, hq⟩ | ⟨e, _⟩
                · exfalso
                  have := hno p hp
                  rcases hq with (h3 | h3) | h3
                  · rw [this.1] at h3; cases h3
                  · rw [this.2.1] at h3; cases h3
                  · exact this.2.2 h3
                · exact e
              have h2 := r4.tmp t ht
              rw [hh] at h2
              rcases h2 with h2 | ⟨_, p, h3, h4⟩
              · exact h2
              · exfalso
                have hp : hasKey s1.heap p = true := (h1.Dk p).1 (cv_pos _ _ (h1.tm t) p (h4.elim (has_pos _) fun h => h.1))
                have : p ∈ I.hk := Classical.byContradiction fun hn => h3 (mem_lockOf.2 ⟨hp, hn⟩)
                have := hno p this
                rcases h4 with (h4 | h4) | h4
                · rw [this.1] at h4; cases h4
                · rw [this.2.1] at h4; cases h4
                · exact this.2.2 h4
          | exit id => exact hQ1.ex (.exit id) _ a' c' (r1.lock _) (hlk1.kp kk') r3 kk' r5'
          | ret => exact hQ1.ex .ret _ a' c' (r1.lock _) (hlk1.kp kk') r3 kk' r5'
  | exit id =>
    intro st a c K Q h hlk hc hQ
    exact wp_exit (hQ.ex (.exit id) st a c h hlk hc (Kp.refl _ _) (Hd.refl _ _))
  | ret =>
    intro st a c K Q h hlk hc hQ
    exact wp_ret (hQ.ex .ret st a c h hlk hc (Kp.refl _ _) (Hd.refl _ _))
  | _ => intro st a c K Q h hlk hc hQ; simp [codeA] at hc
end
end Go.Proofs.Ytljimnhijpcjaaa.VC
