/- The state at a loop's head, or where ways meet. Plain lemmas; no conditions but those that each names. -/
import Derived.Test.YtljimnhijpcjaaaVu
set_option linter.unusedVariables false
set_option linter.unusedSimpArgs false
set_option linter.unusedSectionVars false
namespace Go.Proofs.Ytljimnhijpcjaaa.VC
open Go

theorem conj_all : ∀ {l : List Prop}, conj l → ∀ p ∈ l, p
  | [], _, p, h => by cases h
  | [q], h, p, hp => (List.mem_singleton.1 hp) ▸ h
  | q :: r :: l, h, p, hp => by
    rcases List.mem_cons.1 hp with rfl | hp
    · exact h.1
    · exact conj_all h.2 p hp
theorem conjO_all {o : Option (List Prop)} (h : conjO o) : ∃ l, o = some l ∧ ∀ p ∈ l, p := by
  cases o with
  | none => exact h.elim
  | some l => exact ⟨l, rfl, conj_all h⟩
theorem met_all {I : Inv} {st : St} {x : I.T} (h : I.met st x) : ∃ ps qs, eqvL (I.tk.map st.tmp) (I.tm x) = some ps ∧ eqiL (I.hk.map st.at) (I.hp x) = some qs ∧ (∀ p ∈ ps, p) ∧ (∀ p ∈ qs, p) ∧ ∀ p ∈ I.hk, hasKey st.heap p = true := by
  obtain ⟨l, h1, h2⟩ := conjO_all h
  split at h1
  · rename_i ps qs e1 e2 e3
    simp only [Option.some.injEq] at h1
    subst h1
    exact ⟨ps, qs, e1, e2, fun p hp => h2 p (by simp [hp]), fun p hp => h2 p (by simp [hp]), fun p hp => List.all_eq_true.1 e3 p hp⟩
  · cases h1

theorem zip_tm {c : Ctx} {f : Nat → AV} : ∀ {tk : List Nat} {tm : List AV} {ps : List Prop}, eqvL (tk.map f) tm = some ps → (∀ p ∈ ps, p) → ∀ (rest : List (Nat × AV)) (t : Nat),
    (t ∈ tk ∧ ∃ w ∈ tm, look .undef (tk.zip tm ++ rest) t = w ∧ ∀ cv, CV c (f t) cv → CV c w cv) ∨ (t ∉ tk ∧ look .undef (tk.zip tm ++ rest) t = look .undef rest t)
  | [], [], _, _, _, rest, t => .inr ⟨by simp, rfl⟩
  | [], _ :: _, _, h, _, _, _ => by simp [eqvL] at h
  | _ :: _, [], _, h, _, _, _ => by simp [eqvL] at h
  | u :: tk, w :: tm, ps, h, hp, rest, t => by
    simp only [List.map_cons, eqvL] at h
    split at h
    · rename_i p q hp1 hq1
      simp only [Option.some.injEq] at h
      subst h
      by_cases hu : u = t
      · subst hu
        exact .inl ⟨by simp, w, by simp, by simp [look], fun cv hv => eqv_cv _ _ _ _ hp1 (fun r hr => hp r (by simp [hr])) hv⟩
      · have hl : look .undef ((u :: tk).zip (w :: tm) ++ rest) t = look .undef (tk.zip tm ++ rest) t := by
          show look .undef ((u, w) :: (tk.zip tm ++ rest)) t = _
          simp only [look, nbeq_ne hu, cond_false]
        rw [hl]
        rcases zip_tm hq1 (fun r hr => hp r (by simp [hr])) rest t with ⟨h1, w', h2, h3, h4⟩ | ⟨h1, h2⟩
        · exact .inl ⟨by simp [h1], w', by simp [h2], h3, h4⟩
        · exact .inr ⟨by simp [h1, Ne.symm hu], h2⟩
    · cases h
theorem zip_hp {c : Ctx} {f : Nat → Itm} : ∀ {hk : List Nat} {hp : List Itm} {ps : List Prop}, eqiL (hk.map f) hp = some ps → (∀ p ∈ ps, p) → ∀ (rest : List (Nat × Itm)) (t : Nat),
    (t ∈ hk ∧ ∃ w ∈ hp, look .gone (hk.zip hp ++ rest) t = w ∧ (IOk c t (f t) → IOk c t w)) ∨ (t ∉ hk ∧ look .gone (hk.zip hp ++ rest) t = look .gone rest t)
  | [], [], _, _, _, rest, t => .inr ⟨by simp, rfl⟩
  | [], _ :: _, _, h, _, _, _ => by simp [eqiL] at h
  | _ :: _, [], _, h, _, _, _ => by simp [eqiL] at h
  | u :: tk, w :: tm, ps, h, hp, rest, t => by
    simp only [List.map_cons, eqiL] at h
    split at h
    · rename_i p q hp1 hq1
      simp only [Option.some.injEq] at h
      subst h
      by_cases hu : u = t
      · subst hu
        exact .inl ⟨by simp, w, by simp, by simp [look], fun hv => eqi_ok hp1 (fun r hr => hp r (by simp [hr])) hv⟩
      · have hl : look .gone ((u :: tk).zip (w :: tm) ++ rest) t = look .gone (tk.zip tm ++ rest) t := by
          show look .gone ((u, w) :: (tk.zip tm ++ rest)) t = _
          simp only [look, nbeq_ne hu, cond_false]
        rw [hl]
        rcases zip_hp hq1 (fun r hr => hp r (by simp [hr])) rest t with ⟨h1, w', h2, h3, h4⟩ | ⟨h1, h2⟩
        · exact .inl ⟨by simp [h1], w', by simp [h2], h3, h4⟩
        · exact .inr ⟨by simp [h1, Ne.symm hu], h2⟩
    · cases h

theorem loose_or (hk ts : List Nat) (v : AV) : (v.loose hk ts = .undef ∧ ∃ p ∈ hk, (v.has p = true ∨ v.hasSt p = true) ∨ (p ∈ v.pos ∧ pkNo p ∈ ts)) ∨ (v.loose hk ts = v ∧ ∀ p ∈ hk, v.has p = false ∧ v.hasSt p = false ∧ ¬ (p ∈ v.pos ∧ pkNo p ∈ ts)) := by
  unfold AV.loose
  cases h : hk.any (fun p => v.has p || v.hasSt p || (isIn ts (pkNo p) && isIn v.pos p)) with
  | true =>
    left
    refine ⟨rfl, ?_⟩
    obtain ⟨p, hp, hq⟩ := List.any_eq_true.1 h
    refine ⟨p, hp, ?_⟩
    simp only [Bool.or_eq_true, Bool.and_eq_true] at hq
    exact hq.imp id fun h => ⟨isIn_iff.1 h.2, isIn_iff.1 h.1⟩
  | false =>
    right
    refine ⟨rfl, fun p hp => ?_⟩
    have := List.any_eq_false.1 h p hp
    simp only [Bool.or_eq_true, Bool.and_eq_true, not_or] at this
    exact ⟨by simpa using this.1.1, by simpa using this.1.2, fun h => this.2 ⟨isIn_iff.2 h.2, isIn_iff.2 h.1⟩⟩

section
variable {E : Env} {st s : St} {a a0 : Act} {c c0 : Ctx} {I : Inv} {x : I.T} {ts : List Nat}

theorem may_iff (h : I.may st = true) {p : Nat} (hp : p ∈ I.hk) : p ∉ st.lock := by
  have := List.all_eq_true.1 h p hp
  simp only [Bool.not_eq_true'] at this
  exact fun hm => by rw [isIn_iff.2 hm] at this; cases this

theorem eqiL_len : ∀ {l m : List Itm} {ps : List Prop}, eqiL l m = some ps → l.length = m.length
  | [], [], _, _ => rfl
  | [], _ :: _, _, h => by simp [eqiL] at h
  | _ :: _, [], _, h => by simp [eqiL] at h
  | x :: l, y :: m, ps, h => by
    simp only [eqiL] at h
    split at h
    · rename_i p q hp1 hq1
      simp [eqiL_len hq1]
    · cases h
theorem head_sub {p : Nat} (h : hasKey st.heap p = true) : hasKey (I.head st ts x).heap p = true := by
  show hasKey (I.hk.zip (I.hp x) ++ st.heap) p = true
  rw [hasKey_iff, List.map_append, List.mem_append]
  exact .inr (hasKey_iff.1 h)
theorem head_hk (hl : I.hk.length = (I.hp x).length) {p : Nat} (h : p ∈ I.hk) : hasKey (I.head st ts x).heap p = true := by
  show hasKey (I.hk.zip (I.hp x) ++ st.heap) p = true
  rw [hasKey_iff, List.map_append, List.mem_append, List.map_fst_zip (Nat.le_of_eq hl)]
  exact .inl h
theorem head_key {p : Nat} (h : hasKey (I.head st ts x).heap p = true) : p ∈ I.hk ∨ hasKey st.heap p = true := by
  have h : hasKey (I.hk.zip (I.hp x) ++ st.heap) p = true := h
  rw [hasKey_iff, List.map_append, List.mem_append] at h
  rcases h with h | h
  · obtain ⟨y, hy, rfl⟩ := List.mem_map.1 h
    exact .inl (List.of_mem_zip hy).1
  · exact .inr (hasKey_iff.2 h)

theorem head_rest (t : Nat) : look .undef ((st.tmps.filter (fun y => !isIn ts y.1)).map (fun y => (y.1, y.2.loose I.hk ts))) t = bif isIn ts t then .undef else (st.tmp t).loose I.hk ts := by
  have hu : (AV.undef).loose I.hk ts = .undef := by rcases loose_or I.hk ts .undef with ⟨h, _⟩ | ⟨h, _⟩ <;> exact h
  have hl : look .undef (st.tmps.filter (fun y => !isIn ts y.1)) t = bif !isIn ts t then look .undef st.tmps t else .undef := look_filter .undef (fun t => !isIn ts t) st.tmps t
  rw [look_map .undef (AV.loose I.hk ts) hu, hl]
  cases isIn ts t with
  | true => exact hu
  | false => rfl

theorem head_tmp {t : Nat} (ht1 : t ∉ ts) (ht2 : t ∉ I.tk) : (I.head st ts x).tmp t = (st.tmp t).loose I.hk ts := by
  show look .undef (I.tk.zip (I.tm x) ++ (st.tmps.filter (fun y => !isIn ts y.1)).map (fun y => (y.1, y.2.loose I.hk ts))) t = _
  have : ∀ (l l2 : List (Nat × AV)), (∀ y ∈ l, y.1 ≠ t) → look .undef (l ++ l2) t = look .undef l2 t := by
    intro l l2
    induction l with
    | nil => intro _; rfl
    | cons y l ih =>
      intro hl
      obtain ⟨u, z⟩ := y
      simp only [List.cons_append, look, nbeq_ne (hl (u, z) (by simp)), cond_false]
      exact ih fun y hy => hl y (by simp [hy])
  rw [this _ _ fun y hy e => ht2 (e ▸ (List.of_mem_zip hy).1), head_rest]
  have : isIn ts t = false := by
    cases h : isIn ts t with
    | false => rfl
    | true => exact absurd (isIn_iff.1 h) ht1
  rw [this]; rfl

/-- What the words say of the state that is there, they say of what it stands for. -/
theorem head_ok (h0 : ROk E st a0 c0) (h : ROk E s a c) (hm : I.may st = true) (hf : I.fit st x = true) (hmet : I.met s x)
    (hkey : ∀ p, hasKey st.heap p = true → hasKey s.heap p = true)
    (hloc : ∀ p, hasKey st.heap p = true → p ∉ I.hk → s.at p = st.at p)
    (htm : ∀ t, t ∉ ts → t ∉ I.tk → (∀ p ∈ I.hk, (st.tmp t).has p = false ∧ (st.tmp t).hasSt p = false ∧ ¬ (p ∈ (st.tmp t).pos ∧ pkNo p ∈ ts)) → s.tmp t = st.tmp t) {lk : List Nat} :
    ROk E { I.head st ts x with lock := lk } a (c.only (fun p => hasKey (I.head st ts x).heap p = true)) := by
  obtain ⟨ps, qs, e1, e2, hps, hqs, hks⟩ := met_all hmet
  have hlen : I.hk.length = (I.hp x).length := by have := eqiL_len e2; simpa using this
  simp only [Inv.fit, Bool.and_eq_true, List.all_eq_true] at hf
  have sub : ∀ p, hasKey (I.head st ts x).heap p = true → c.D p := fun p hp => (h.Dk p).2 ((head_key hp).elim (hks p) (hkey p))
  have inK : ∀ q, (hasKey st.heap q || isIn I.hk q) = true → hasKey (I.head st ts x).heap q = true := fun q hq => by
    simp only [Bool.or_eq_true] at hq
    exact hq.elim head_sub (fun h => head_hk hlen (isIn_iff.1 h))
  have hpos : ∀ (w : AV) (l : List AV), w ∈ l → ∀ q ∈ w.pos, q ∈ AV.posL l := by
    intro w l
    induction l with
    | nil => intro hw; cases hw
    | cons v l ih =>
      intro hw q hq
      simp only [AV.posL, List.mem_append]
      rcases List.mem_cons.1 hw with rfl | hw
      · exact .inl hq
      · exact .inr (ih hw q hq)
  refine ⟨fun p => Iff.rfl, fun t => ?_, h.sz, h.df, fun p hD => ?_, fun p q b hp hq => h.dj p q b (sub p hp) (sub q hq), fun p b hp => h.lt p b (sub p hp), fun b hb => ⟨(h.im b hb).1, fun p hp => (h.im b hb).2 p (sub p hp)⟩, h.im0, h.im1, h.fr⟩
  · show CV _ (look .undef (I.tk.zip (I.tm x) ++ (st.tmps.filter (fun y => !isIn ts y.1)).map (fun y => (y.1, y.2.loose I.hk ts))) t) _
    rcases zip_tm (c := c) e1 hps ((st.tmps.filter (fun y => !isIn ts y.1)).map (fun y => (y.1, y.2.loose I.hk ts))) t with ⟨h1, w, h2, h3, h4⟩ | ⟨h1, h2⟩
    · rw [h3]
      exact CV.only _ _ (fun q hq => inK q (hf.1 q (hpos w _ h2 q hq))) (h4 _ (h.tm t))
    · rw [h2, head_rest]
      cases hts : isIn ts t with
      | true => simp [CV]
      | false =>
        have hn : t ∉ ts := fun hm => by rw [isIn_iff.2 hm] at hts; cases hts
        simp only [cond_false]
        rcases loose_or I.hk ts (st.tmp t) with ⟨e, _⟩ | ⟨e, hno⟩
        · rw [e]; simp [CV]
        · rw [e]
          refine CV.only _ _ (fun q hq => head_sub ((h0.Dk q).1 (cv_pos _ _ (h0.tm t) q hq))) ?_
          rw [← htm t hn h1 hno]
          exact h.tm t
  · have hD : hasKey (I.head st ts x).heap p = true := hD
    show IOk _ p (look .gone (I.hk.zip (I.hp x) ++ st.heap) p)
    rcases zip_hp (c := c) e2 hqs st.heap p with ⟨h1, w, h2, h3, h4⟩ | ⟨h1, h2⟩
    · rw [h3]
      exact IOk.only (fun q hq => inK q (hf.2 w h2 q hq)) (h4 (h.it p (sub p hD)))
    · rw [h2]
      show IOk _ p (st.at p)
      have hD' : hasKey st.heap p = true := (head_key hD).resolve_left h1
      refine IOk.only (fun q hq => head_sub ((h0.Dk q).1 (iok_pos (h0.it p ((h0.Dk p).2 hD')) q hq))) ?_
      rw [← hloc p hD' h1]
      exact h.it p (sub p hD)

/-- What the code behind a head keeps is what was there before. -/
theorem head_kp (hlk : LockOk st) (hm : I.may st = true) {ts2 : List Nat} {lk : List Nat} (hlock : ∀ p ∈ st.lock, p ∈ lk) (k : Kp { I.head st ts x with lock := lk } s ts2) : Kp st { s with lock := st.lock } (ts ++ I.tk ++ ts2) := by
  refine ⟨fun p hp => ?_, rfl, fun t ht => ?_, fun p hp => k.key p (head_sub (ts := ts) (x := x) hp)⟩
  · have h1 := k.lockA p (hlock p hp)
    have hn : p ∉ I.hk := fun hk => may_iff hm hk hp
    show s.at p = st.at p
    rw [h1]
    show look .gone (I.hk.zip (I.hp x) ++ st.heap) p = look .gone st.heap p
    have : ∀ (l : List (Nat × Itm)), (∀ y ∈ l, y.1 ≠ p) → look .gone (l ++ st.heap) p = look .gone st.heap p := by
      intro l
      induction l with
      | nil => intro _; rfl
      | cons y l ih =>
        intro hl
        obtain ⟨u, z⟩ := y
        simp only [List.cons_append, look, nbeq_ne (hl (u, z) (by simp)), cond_false]
        exact ih fun y hy => hl y (by simp [hy])
    exact this _ fun y hy e => hn (e ▸ (List.of_mem_zip hy).1)
  · simp only [List.mem_append, not_or] at ht
    obtain ⟨⟨ht1, ht2⟩, ht3⟩ := ht
    have hh : (I.head st ts x).tmp t = (st.tmp t).loose I.hk ts := head_tmp ht1 ht2
    have hk := k.tmp t ht3
    have hk' : s.tmp t = (st.tmp t).loose I.hk ts ∨ (s.tmp t = .undef ∧ ∃ p, p ∉ lk ∧ ((((st.tmp t).loose I.hk ts).has p = true ∨ ((st.tmp t).loose I.hk ts).hasSt p = true) ∨ (p ∈ ((st.tmp t).loose I.hk ts).pos ∧ pkNo p ∈ ts2))) := by
      rw [← hh]; exact hk
    show s.tmp t = st.tmp t ∨ (s.tmp t = .undef ∧ ∃ p, p ∉ st.lock ∧ (((st.tmp t).has p = true ∨ (st.tmp t).hasSt p = true) ∨ (p ∈ (st.tmp t).pos ∧ pkNo p ∈ ts ++ I.tk ++ ts2)))
    rcases loose_or I.hk ts (st.tmp t) with ⟨e, p, hp, hq⟩ | ⟨e, _⟩
    · right
      refine ⟨?_, p, may_iff hm hp, hq.imp id fun h => ⟨h.1, by simp [h.2]⟩⟩
      rw [e] at hk'
      rcases hk' with h | ⟨h, _⟩ <;> exact h
    · rw [e] at hk'
      rcases hk' with h | ⟨h, p, h1, h2⟩
      · exact .inl h
      · exact .inr ⟨h, p, fun hl => h1 (hlock p hl), h2.imp id fun h => ⟨h.1, by simp [h.2]⟩⟩
end
end Go.Proofs.Ytljimnhijpcjaaa.VC
