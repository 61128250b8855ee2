/- The order in which nets settle: plain facts. Conditions: as each theorem states them. -/
import Derived.Test.YtljimnhijpcjaaaOd
import Derived.Test.YtljimnhijpcjaaaRp
set_option linter.unusedVariables false
set_option linter.unusedSimpArgs false
namespace Go.Proofs.Ytljimnhijpcjaaa.VC
open Go
theorem getD_at' {α : Type} {l : List α} {i : Nat} (h : i < l.length) (d : α) : l.getD i d = l[i] := by simp [List.getD, h]
theorem low_cons (x : Int) (l : List Int) : lowS (x :: l) = neg x + lowS l := by simp [lowS_map]
theorem high_cons (x : Int) (l : List Int) : highS (x :: l) = pos x + highS l := by simp [highS_map]
theorem neg_pos (x : Int) : neg x ≤ x ∧ x ≤ pos x ∧ neg x ≤ 0 ∧ 0 ≤ pos x := by unfold neg pos; split <;> omega
theorem sum_mid : ∀ l : List Int, lowS l ≤ l.sum ∧ l.sum ≤ highS l
  | [] => ⟨Int.le_refl _, Int.le_refl _⟩
  | x :: l => by
    have := sum_mid l
    have := neg_pos x
    rw [low_cons, high_cons, List.sum_cons]
    omega
theorem md_absent : ∀ {E : List (Int × Int)} {tx : Int}, (∀ p ∈ E, p.1 ≠ tx) → mdI E tx = E
  | [], _, _ => rfl
  | e :: E, tx, h => by
    show mdel (k := kI) (v := kI) (e :: E) tx = _
    rw [mdel_cons, if_neg (h e (List.mem_cons_self ..))]
    exact congrArg _ (md_absent (fun p hp => h p (List.mem_cons_of_mem _ hp)))
theorem md_filter : ∀ {E : List (Int × Int)} {tx : Int}, (keysOf E).Nodup → mdI E tx = E.filter fun p => !decide (tx = p.1)
  | [], _, _ => rfl
  | e :: E, tx, h => by
    obtain ⟨h1, h2⟩ : e.1 ∉ keysOf E ∧ (keysOf E).Nodup := List.nodup_cons.1 h
    show mdel (k := kI) (v := kI) (e :: E) tx = _
    rw [mdel_cons]
    by_cases hc : e.1 = tx
    · rw [if_pos hc]
      have e1 : ∀ p ∈ E, tx ≠ p.1 := fun p hp he => h1 (by rw [hc, he]; exact List.mem_map_of_mem hp)
      rw [List.filter_cons_of_neg (by simp [hc])]
      exact (List.filter_eq_self.2 fun p hp => by simpa using e1 p hp).symm
    · rw [if_neg hc, List.filter_cons_of_pos (by simpa using fun he => hc he.symm)]
      exact congrArg _ (md_filter h2)
theorem left_nodup {E : List (Int × Int)} (h : (keysOf E).Nodup) (dn : Int → Bool) : (keysOf (leftD E dn)).Nodup := by
  unfold keysOf leftD
  exact List.Nodup.sublist (List.filter_sublist.map _) h
/-- One more is done. -/
def more (dn : Int → Bool) (tx : Int) (t : Int) : Bool := dn t || decide (tx = t)
theorem left_more {E : List (Int × Int)} (h : (keysOf E).Nodup) (dn : Int → Bool) (tx : Int) : mdI (leftD E dn) tx = leftD E (more dn tx) := by
  rw [md_filter (left_nodup h dn)]
  unfold leftD more
  rw [List.filter_filter]
  refine List.filter_congr fun p _ => ?_
  rw [Bool.not_or, Bool.and_comm]
theorem left_get {E : List (Int × Int)} (h : (keysOf E).Nodup) {dn : Int → Bool} {tx : Int} (hd : dn tx = false) : mgI (leftD E dn) tx = mgI E tx := by
  rcases opt_or (mget (k := kI) (v := kI) E tx) with e | ⟨y, e⟩
  · have : mgI E tx = none := e
    rw [this]
    exact mget_none.2 fun p hp => mget_none.1 e p ((List.mem_filter.1 hp).1)
  · have e' : mgI E tx = some y := e
    rw [e']
    have := mget_mem (q := .i64) (v := kI) e
    exact mget_of_mem (q := .i64) (v := kI) (left_nodup h dn) (show (tx, y) ∈ leftD E dn from List.mem_filter.2 ⟨this, by simp [hd]⟩)
theorem left_gone (E : List (Int × Int)) (dn : Int → Bool) (tx : Int) : ∀ p ∈ leftD E (more dn tx), p.1 ≠ tx := fun p hp he => by
  have := (List.mem_filter.1 hp).2
  unfold more at this
  rw [he] at this
  simp at this
theorem stD_cons (b : Int) (p : Int × Int) (E : List (Int × Int)) (dn w : Int → Bool) : stD b (p :: E) dn w = stD b E dn w + if dn p.1 && w p.1 then p.2 else 0 := by
  unfold stD
  rw [List.map_cons, List.sum_cons]; omega
theorem left_cons (p : Int × Int) (E : List (Int × Int)) (dn : Int → Bool) : leftD (p :: E) dn = if dn p.1 then leftD E dn else p :: leftD E dn := by
  unfold leftD
  cases h : dn p.1 <;> simp [h]
theorem st_more_none (b : Int) : ∀ {E : List (Int × Int)} (dn w : Int → Bool) {tx : Int}, (∀ p ∈ E, p.1 ≠ tx) → stD b E (more dn tx) w = stD b E dn w
  | [], _, _, _, _ => rfl
  | p :: E, dn, w, tx, h => by
    rw [stD_cons, stD_cons, st_more_none b dn w (fun q hq => h q (List.mem_cons_of_mem _ hq))]
    have : more dn tx p.1 = dn p.1 := by unfold more; rw [decide_eq_false (fun e => h p (List.mem_cons_self ..) (Eq.symm e)), Bool.or_false]
    rw [this]
theorem st_more (b : Int) : ∀ {E : List (Int × Int)} (h : (keysOf E).Nodup) {dn : Int → Bool} (w : Int → Bool) {tx : Int}, dn tx = false → stD b E (more dn tx) w = stD b E dn w + if w tx then netOf E tx else 0
  | [], _, _, w, tx, _ => by rw [netOf_nil, ite_self, Int.add_zero]; rfl
  | p :: E, h, dn, w, tx, hd => by
    obtain ⟨h1, h2⟩ : p.1 ∉ keysOf E ∧ (keysOf E).Nodup := List.nodup_cons.1 h
    rw [stD_cons, stD_cons, netOf_cons]
    by_cases hc : p.1 = tx
    · have e1 : ∀ q ∈ E, q.1 ≠ tx := fun q hq he => h1 (by rw [hc, ← he]; exact List.mem_map_of_mem hq)
      rw [st_more_none b dn w e1, if_pos hc]
      have : more dn tx p.1 = true := by unfold more; simp [hc]
      rw [this, hc, hd]
      simp
    · rw [st_more b h2 w hd, if_neg hc]
      have : more dn tx p.1 = dn p.1 := by unfold more; rw [decide_eq_false (fun e => hc (Eq.symm e)), Bool.or_false]
      rw [this]; omega
theorem st_low (b : Int) (dn w : Int → Bool) : ∀ E : List (Int × Int), b + lowS (E.map (·.2)) ≤ stD b E dn w + lowS ((leftD E dn).map (·.2)) ∧ stD b E dn w + highS ((leftD E dn).map (·.2)) ≤ b + highS (E.map (·.2))
  | [] => by simp [stD, leftD, lowS, highS]
  | p :: E => by
    have := st_low b dn w E
    have := neg_pos p.2
    rw [stD_cons, left_cons, List.map_cons, low_cons, high_cons]
    cases dn p.1
    · simp only [Bool.false_and, Bool.false_eq_true, if_false, List.map_cons, low_cons, high_cons]; omega
    · simp only [Bool.true_and, if_true]
      cases w p.1
      · simp only [Bool.false_eq_true, if_false]; omega
      · simp only [if_true]; omega
/-- What is known of an escrow's state after a step. -/
structure StepF (S : Int) (E : List (Int × Int)) (tx : Int) (R : Int × Int × Int) : Prop where
  gone : mgI E tx = none
  same : mdI E tx = E
  len : E.length ≤ 1000000
  v1 : ¬ (ans (S + (valsOf E).sum)).1 < R.1
  v2 : ¬ (ans (S + (valsOf E).sum)).1 > R.2.1
  w1 : ¬ (worstF S (valsOf E)).1 < R.1
  w2 : ¬ (worstF S (valsOf E)).2.1 > R.2.1
theorem left_vals {e : Esc} (h : e.Good) (dn : Int → Bool) : valsOf (leftD e.nets dn) = (leftD e.nets dn).map (·.2) := vals_all fun p hp => good_keys h p ((List.mem_filter.1 hp).1)
theorem good_num {e : Esc} (h : e.Good) (dn w : Int → Bool) : Num (stD e.st e.nets dn w + lowS (valsOf (leftD e.nets dn))) ∧ Num (stD e.st e.nets dn w + highS (valsOf (leftD e.nets dn))) ∧ Num (stD e.st e.nets dn w + (valsOf (leftD e.nets dn)).sum) := by
  have a := st_low e.st dn w e.nets
  have b := sum_mid ((leftD e.nets dn).map (·.2))
  have c := h.lo
  have d := h.hi
  have f := h.b1
  have k := h.b2
  have m := vals_all (good_keys h)
  rw [m] at c d
  rw [left_vals h]
  unfold Num at *
  omega
theorem step_f {e : Esc} (h : e.Good) (dn w : Int → Bool) (tx : Int) : StepF (stD e.st e.nets (more dn tx) w) (leftD e.nets (more dn tx)) tx (worstF e.st (valsOf e.nets)) := by
  have a := st_low e.st (more dn tx) w e.nets
  have b := sum_mid ((leftD e.nets (more dn tx)).map (·.2))
  have m := vals_all (good_keys h)
  obtain ⟨n1, n2, n3⟩ := good_num h (more dn tx) w
  have gw := worst_good h
  have gl := good_len h
  rw [m] at gw
  have lv := left_vals h (more dn tx)
  have wl : worstF (stD e.st e.nets (more dn tx) w) (valsOf (leftD e.nets (more dn tx))) = (stD e.st e.nets (more dn tx) w + lowS (valsOf (leftD e.nets (more dn tx))), stD e.st e.nets (more dn tx) w + highS (valsOf (leftD e.nets (more dn tx))), 0) := by unfold worstF; rw [if_pos ⟨n1, n2⟩]
  have g := left_gone e.nets dn tx
  refine ⟨mget_none.2 g, md_absent g, Nat.le_trans (List.length_filter_le ..) (by omega), ?_, ?_, ?_, ?_⟩
  · rw [ans_yes n3, m, gw, lv]; show ¬ _ < e.st + lowS _; omega
  · rw [ans_yes n3, m, gw, lv]; show ¬ _ > e.st + highS _; omega
  · rw [wl, m, gw, lv]; show ¬ _ + lowS _ < e.st + lowS _; omega
  · rw [wl, m, gw, lv]; show ¬ _ + highS _ > e.st + highS _; omega
/-- The two ways of a step, and what it comes to. -/
theorem step_s {e : Esc} (h : e.Good) (dn w : Int → Bool) {tx : Int} (hd : dn tx = false) :
    stepS (stD e.st e.nets dn w) (leftD e.nets dn) tx (w tx) = stD e.st e.nets (more dn tx) w := by
  rw [st_more _ h.nodup w hd]
  unfold stepS
  have hn : netOf (leftD e.nets dn) tx = netOf e.nets tx := by unfold netOf; rw [left_get h.nodup hd]
  cases hw : w tx with
  | false => simp
  | true =>
    simp only [if_true]
    rw [hn]
    have := st_more e.st h.nodup w (dn := dn) hd
    rw [hw] at this
    simp only [if_true] at this
    rw [← this]
    have n := good_num h (more dn tx) w
    have z := sum_mid (valsOf (leftD e.nets (more dn tx)))
    have y : lowS (valsOf (leftD e.nets (more dn tx))) ≤ 0 ∧ 0 ≤ highS (valsOf (leftD e.nets (more dn tx))) := by
      generalize valsOf (leftD e.nets (more dn tx)) = l
      induction l with
      | nil => exact ⟨Int.le_refl _, Int.le_refl _⟩
      | cons x l ih => have := neg_pos x; rw [low_cons, high_cons]; omega
    unfold Num at n
    exact wrap64 (by omega) (by omega)

/-! ### Which are done -/

theorem key_at {L : List (Int × Int)} (h : (keysOf L).Nodup) {a b : Nat} (ha : a < L.length) (hb : b < L.length) (he : (L.getD a (0, 0)).1 = (L.getD b (0, 0)).1) : a = b := by
  rw [getD_at' ha, getD_at' hb] at he
  have pw := List.pairwise_iff_getElem.1 h
  have e1 : (keysOf L).length = L.length := List.length_map ..
  rcases Nat.lt_trichotomy a b with hl | hl | hl
  · exact absurd (by simp [keysOf, he]) (pw a b (by omega) (by omega) hl)
  · exact hl
  · exact absurd (by simp [keysOf, he]) (pw b a (by omega) (by omega) hl)
theorem way_at {L : List (Int × Int)} (h : (keysOf L).Nodup) {ways : List Bool} {n : Nat} (hn : n < L.length) : wayT L ways (L.getD n (0, 0)).1 = ways.getD n false := by
  unfold wayT
  cases hw : ways.getD n false with
  | true => rw [List.any_eq_true]; exact ⟨n, List.mem_range.2 hn, by rw [hw]; simp⟩
  | false =>
    rw [List.any_eq_false]
    intro q hq
    have hq := List.mem_range.1 hq
    simp only [Bool.and_eq_true, decide_eq_true_eq, not_and]
    intro he
    rw [key_at h hq hn he, hw]
    decide
theorem dn_succ (L : List (Int × Int)) (o : Nat → Nat) (i : Nat) : dnB L o (i + 1) = more (dnB L o i) (L.getD (o i) (0, 0)).1 := by
  funext t
  unfold dnB more
  rw [List.range_succ, List.any_append]
  simp
theorem dn_zero (L : List (Int × Int)) (o : Nat → Nat) : dnB L o 0 = fun _ => false := rfl
theorem left_zero (E : List (Int × Int)) : leftD E (fun _ => false) = E := List.filter_eq_self.2 fun _ _ => rfl
theorem st_zero (b : Int) (w : Int → Bool) : ∀ E : List (Int × Int), stD b E (fun _ => false) w = b
  | [] => by unfold stD; simp
  | p :: E => by rw [stD_cons, st_zero b w E]; simp
theorem dn_not {L : List (Int × Int)} (h : (keysOf L).Nodup) {o : Nat → Nat} (ho : ∀ q, q < L.length → o q < L.length) (hi : ∀ a b, a < L.length → b < L.length → o a = o b → a = b) {i : Nat} (hn : i < L.length) : dnB L o i (L.getD (o i) (0, 0)).1 = false := by
  unfold dnB
  rw [List.any_eq_false]
  intro q hq
  have hq := List.mem_range.1 hq
  simp only [decide_eq_true_eq]
  intro he
  have := hi _ _ (by omega) hn (key_at h (ho _ (by omega)) (ho _ hn) he)
  omega
theorem dn_all {L : List (Int × Int)} {o : Nat → Nat} (hs : ∀ n, n < L.length → ∃ q, q < L.length ∧ o q = n) {t : Int} (ht : t ∈ keysOf L) : dnB L o L.length t = true := by
  obtain ⟨p, hp, rfl⟩ := List.mem_map.1 ht
  obtain ⟨n, hn, rfl⟩ := List.getElem_of_mem hp
  obtain ⟨q, hq, he⟩ := hs n hn
  unfold dnB
  rw [List.any_eq_true]
  exact ⟨q, List.mem_range.2 hq, by rw [he, getD_at' hn]; simp⟩
theorem ordC_lt {n t q : Nat} (h : q < n) : ordC n t q < n := by unfold ordC; omega
theorem ordC_inj {n t a b : Nat} (ha : a < n) (hb : b < n) (h : ordC n t a = ordC n t b) : a = b := by
  unfold ordC at h
  have h1 := Nat.mod_lt (a + t) (show n > 0 by omega)
  have h2 := Nat.mod_lt (b + t) (show n > 0 by omega)
  have e : (a + t) % n = (b + t) % n := by omega
  rcases Nat.lt_trichotomy a b with hl | hl | hl
  · have := Nat.sub_mod_eq_zero_of_mod_eq e.symm
    rw [show b + t - (a + t) = b - a by omega, Nat.mod_eq_of_lt (by omega)] at this
    omega
  · exact hl
  · have := Nat.sub_mod_eq_zero_of_mod_eq e
    rw [show a + t - (b + t) = a - b by omega, Nat.mod_eq_of_lt (by omega)] at this
    omega
theorem ordC_sur {n t m : Nat} (hm : m < n) (ht : t ≤ 16) : ∃ q, q < n ∧ ordC n t q = m := by
  have g : (n - 1 - m + (16 * n - t) + t) = n - 1 - m + n * 16 := by
    have : t ≤ 16 * n := by omega
    omega
  refine ⟨(n - 1 - m + (16 * n - t)) % n, Nat.mod_lt _ (by omega), ?_⟩
  unfold ordC
  rw [Nat.mod_add_mod, g, Nat.add_mul_mod_self_left, Nat.mod_eq_of_lt (by omega)]
  omega
theorem left_all {e : Esc} (h : e.Good) {o : Nat → Nat} (hs : ∀ n, n < (netsTo e.nets 8).length → ∃ q, q < (netsTo e.nets 8).length ∧ o q = n) : leftD e.nets (dnB (netsTo e.nets 8) o (netsTo e.nets 8).length) = [] := by
  unfold leftD
  rw [List.filter_eq_nil_iff]
  intro p hp
  have := dn_all (L := netsTo e.nets 8) hs (t := p.1) (by
    exact List.mem_map_of_mem ((nets_perm h).mem_iff.2 hp))
  rw [this]; decide
theorem want_sum (b : Int) (L : List (Int × Int)) (h : (keysOf L).Nodup) (ways : List Bool) : ∀ n, n ≤ L.length → wantS b L ways n = b + ((L.take n).map fun p => if wayT L ways p.1 then p.2 else 0).sum
  | 0, _ => by unfold wantS; simp
  | n + 1, hn => by
    have ih := want_sum b L h ways n (by omega)
    have e : wantS b L ways (n + 1) = wantS b L ways n + if ways.getD n false then (L.getD n (0, 0)).2 else 0 := by
      unfold wantS
      rw [List.range_succ, List.map_append, List.sum_append]
      simp only [List.map_cons, List.map_nil, List.sum_cons, List.sum_nil]
      omega
    rw [e, ih, take_succ_get hn (0, 0), List.map_append, List.sum_append]
    simp only [List.map_cons, List.map_nil, List.sum_cons, List.sum_nil]
    rw [way_at h hn]
    omega
theorem want_st {e : Esc} (h : e.Good) (ways : List Bool) {o : Nat → Nat} (hs : ∀ n, n < (netsTo e.nets 8).length → ∃ q, q < (netsTo e.nets 8).length ∧ o q = n) :
    stD e.st e.nets (dnB (netsTo e.nets 8) o (netsTo e.nets 8).length) (wayT (netsTo e.nets 8) ways) = wantS e.st (netsTo e.nets 8) ways (netsTo e.nets 8).length := by
  rw [want_sum _ _ (nets_nodup h) ways _ (Nat.le_refl _), List.take_length]
  unfold stD
  congr 1
  rw [perm_sum ((nets_perm h).map fun p => if wayT (netsTo e.nets 8) ways p.1 then p.2 else 0)]
  congr 1
  refine List.map_congr_left fun p hp => ?_
  rw [dn_all (L := netsTo e.nets 8) hs (t := p.1) (List.mem_map_of_mem ((nets_perm h).mem_iff.2 hp))]
  simp
theorem want_in {e : Esc} (h : e.Good) (ways : List Bool) : ∀ n, n ≤ (netsTo e.nets 8).length → -92233720368547758080 ≤ wantS e.st (netsTo e.nets 8) ways n ∧ wantS e.st (netsTo e.nets 8) ways n ≤ 92233720368547758080 := by
  intro n hn
  have F := net_facts h
  have key : ∀ n, n ≤ (netsTo e.nets 8).length → -9223372036854775808 * (n : Int) ≤ wantS e.st (netsTo e.nets 8) ways n - e.st ∧ wantS e.st (netsTo e.nets 8) ways n - e.st ≤ 9223372036854775808 * (n : Int) := by
    intro n
    induction n with
    | zero => intro _; unfold wantS; simp
    | succ n ih =>
      intro hn
      have ih := ih (by omega)
      have ee : wantS e.st (netsTo e.nets 8) ways (n + 1) = wantS e.st (netsTo e.nets 8) ways n + if ways.getD n false then ((netsTo e.nets 8).getD n (0, 0)).2 else 0 := by
        unfold wantS
        rw [List.range_succ, List.map_append, List.sum_append]
        simp only [List.map_cons, List.map_nil, List.sum_cons, List.sum_nil]
        omega
      have hm : ((netsTo e.nets 8).getD n (0, 0)) ∈ netsTo e.nets 8 := by rw [getD_at' hn]; exact List.getElem_mem _
      have := (F.ok.2 _ hm).2
      have : Num ((netsTo e.nets 8).getD n (0, 0)).2 := this
      unfold Num at this
      rw [ee]
      split <;> omega
  have := key n hn
  have := F.len
  have st := good_st h
  have a := h.lo
  have b := h.hi
  have c := h.b1
  have d := h.b2
  unfold Num at *
  omega

/-! ### The walk's steps -/

theorem tailO {S : Int} {E : List (Int × Int)} {tx : Int} {R : Int × Int × Int} {T : Prop} (F : StepF S E tx R) (q : T) :
    Holds ((mdI E tx).length ≤ 1000000) ∧ ∀ (r5 : Int), Holds (r5 = (ans (S + (valsOf (mdI E tx)).sum)).1) → SplitB (decide (r5 < R.1)) (false = true) (Holds ((mdI E tx).length ≤ 1000000) ∧ ∀ (r6 : Int), Holds (r6 = (ans (S + (valsOf (mdI E tx)).sum)).1) → SplitB (decide (r6 > R.2.1)) (false = true) (Holds ((mdI E tx).length ≤ 1000000) ∧ ∀ (r7 : Int × Int × Int), Holds (r7 = worstF S (valsOf (mdI E tx))) → SplitB (decide (r7.1 < R.1)) (false = true) (Holds ((mdI E tx).length ≤ 1000000) ∧ ∀ (r8 : Int × Int × Int), Holds (r8 = worstF S (valsOf (mdI E tx))) → SplitB (decide (r8.2.1 > R.2.1)) (false = true) T))) := by
  rw [F.same]
  have l := F.len
  simp only [splitB_iff, decide_eq_true_eq, decide_eq_false_iff_not]
  refine ⟨⟨l⟩, fun r5 h5 => ⟨fun a => absurd (h5.out ▸ a) F.v1, fun _ => ⟨⟨l⟩, fun r6 h6 => ⟨fun a => absurd (h6.out ▸ a) F.v2, fun _ => ⟨⟨l⟩, fun r7 h7 => ⟨fun a => absurd (h7.out ▸ a) F.w1, fun _ => ⟨⟨l⟩, fun r8 h8 => ⟨fun a => absurd (h8.out ▸ a) F.w2, fun _ => q⟩⟩⟩⟩⟩⟩⟩⟩
theorem settle_none {lo hi S : Int} {E : List (Int × Int)} {tx : Int} (h : mgI E tx = none) : settleF ⟨lo, hi, S, E⟩ tx = ⟨false, S, E⟩ := by unfold settleF; rw [h]; rfl
theorem settle_some {lo hi S : Int} {E : List (Int × Int)} {tx : Int} (h : (mgI E tx).isSome = true) : settleF ⟨lo, hi, S, E⟩ tx = ⟨true, stepS S E tx true, mdI E tx⟩ := by unfold settleF; rw [if_pos h]; rfl
theorem coreS {lo hi S : Int} {E : List (Int × Int)} {tx : Int} {R : Int × Int × Int} {A B C : Prop} {T : SetOut → Prop} (hs : (mgI E tx).isSome = true) (F : StepF (stepS S E tx true) (mdI E tx) tx R) (hA : A) (hB : B) (hC : C)
    (q : T ⟨false, stepS S E tx true, mdI E tx⟩) :
    ∀ (r3 : SetOut), Holds (r3 = settleF ⟨lo, hi, S, E⟩ tx) → SplitB (!r3.b) (false = true) (A ∧ B ∧ C ∧ ∀ (r4 : SetOut), Holds (r4 = settleF ⟨lo, hi, r3.st, r3.nets⟩ tx) → SplitB r4.b (false = true) (A ∧ B ∧ C ∧ SplitB (mgI r4.nets tx).isSome (false = true)
      (Holds ((mdI r4.nets tx).length ≤ 1000000) ∧ ∀ (r5 : Int), Holds (r5 = (ans (r4.st + (valsOf (mdI r4.nets tx)).sum)).1) → SplitB (decide (r5 < R.1)) (false = true) (Holds ((mdI r4.nets tx).length ≤ 1000000) ∧ ∀ (r6 : Int), Holds (r6 = (ans (r4.st + (valsOf (mdI r4.nets tx)).sum)).1) → SplitB (decide (r6 > R.2.1)) (false = true) (Holds ((mdI r4.nets tx).length ≤ 1000000) ∧ ∀ (r7 : Int × Int × Int), Holds (r7 = worstF r4.st (valsOf (mdI r4.nets tx))) → SplitB (decide (r7.1 < R.1)) (false = true) (Holds ((mdI r4.nets tx).length ≤ 1000000) ∧ ∀ (r8 : Int × Int × Int), Holds (r8 = worstF r4.st (valsOf (mdI r4.nets tx))) → SplitB (decide (r8.2.1 > R.2.1)) (false = true) (T r4))))))) := by
  intro r3 h3
  have h3 := h3.out
  rw [settle_some hs] at h3
  subst h3
  refine ⟨fun h => by simp at h, fun _ => ⟨hA, hB, hC, fun r4 h4 => ?_⟩⟩
  have h4 := h4.out
  rw [settle_none F.gone] at h4
  subst h4
  refine ⟨fun h => by simp at h, fun _ => ⟨hA, hB, hC, fun h => ?_, fun _ => tailO F q⟩⟩
  have := F.gone
  simp [this] at h
theorem coreR {lo hi S : Int} {E : List (Int × Int)} {tx : Int} {R : Int × Int × Int} {A B C : Prop} {T : SetOut → Prop} (hs : (mgI E tx).isSome = true) (F : StepF S (mdI E tx) tx R) (hA : A) (hB : B) (hC : C)
    (q : T ⟨false, S, mdI E tx⟩) :
    SplitB (!(mgI E tx).isSome) (false = true) (A ∧ B ∧ C ∧ ∀ (r4 : SetOut), Holds (r4 = settleF ⟨lo, hi, S, mdI E tx⟩ tx) → SplitB r4.b (false = true) (A ∧ B ∧ C ∧ SplitB (mgI r4.nets tx).isSome (false = true)
      (Holds ((mdI r4.nets tx).length ≤ 1000000) ∧ ∀ (r5 : Int), Holds (r5 = (ans (r4.st + (valsOf (mdI r4.nets tx)).sum)).1) → SplitB (decide (r5 < R.1)) (false = true) (Holds ((mdI r4.nets tx).length ≤ 1000000) ∧ ∀ (r6 : Int), Holds (r6 = (ans (r4.st + (valsOf (mdI r4.nets tx)).sum)).1) → SplitB (decide (r6 > R.2.1)) (false = true) (Holds ((mdI r4.nets tx).length ≤ 1000000) ∧ ∀ (r7 : Int × Int × Int), Holds (r7 = worstF r4.st (valsOf (mdI r4.nets tx))) → SplitB (decide (r7.1 < R.1)) (false = true) (Holds ((mdI r4.nets tx).length ≤ 1000000) ∧ ∀ (r8 : Int × Int × Int), Holds (r8 = worstF r4.st (valsOf (mdI r4.nets tx))) → SplitB (decide (r8.2.1 > R.2.1)) (false = true) (T r4))))))) := by
  refine ⟨fun h => by rw [hs] at h; simp at h, fun _ => ⟨hA, hB, hC, fun r4 h4 => ?_⟩⟩
  have h4 := h4.out
  rw [settle_none F.gone] at h4
  subst h4
  refine ⟨fun h => by simp at h, fun _ => ⟨hA, hB, hC, fun h => ?_, fun _ => tailO F q⟩⟩
  have := F.gone
  simp [this] at h
theorem turn_in (turn : Int) : ((turnN turn : Nat) : Int) = turn.tmod 8 + 8 ∧ 1 ≤ turnN turn ∧ turnN turn ≤ 15 := by
  have e1 : -8 < turn.tmod 8 := by have := Int.lt_tmod_of_pos turn (show (0 : Int) < 8 by omega); omega
  have e2 : turn.tmod 8 < 8 := Int.tmod_lt_of_pos turn (by omega)
  unfold turnN; omega
theorem ordC_int {n i : Nat} (turn : Int) (hi : i < n) (hn : n ≤ 8) : IntKind.i64.wrap (IntKind.i64.wrap ((n : Int) - 1) - (IntKind.i64.wrap ((i : Int) + IntKind.i64.wrap (turn.tmod 8 + 8))).tmod (n : Int)) = ((ordC n (turnN turn) i : Nat) : Int) := by
  obtain ⟨h1, h2, h3⟩ := turn_in turn
  rw [← h1, wrap64 (n := ((turnN turn : Nat) : Int)) (by omega) (by omega), wrap64 (n := (i : Int) + _) (by omega) (by omega), tmod_pos (by omega), wrap64 (n := (n : Int) - 1) (by omega) (by omega), ← Int.natCast_add, ← Int.natCast_emod]
  have := Nat.mod_lt (i + turnN turn) (show n > 0 by omega)
  rw [wrap64 (by omega) (by omega)]
  unfold ordC
  omega
end Go.Proofs.Ytljimnhijpcjaaa.VC
