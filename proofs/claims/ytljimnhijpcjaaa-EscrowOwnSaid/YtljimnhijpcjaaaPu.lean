/- Escrows, as plain facts: sums over holders, least and greatest outcomes, subsets. Conditions: as each theorem states them. -/
import Derived.Test.YtljimnhijpcjaaaEp
set_option linter.unusedVariables false
set_option linter.unusedSimpArgs false
namespace Go.Proofs.Ytljimnhijpcjaaa.VC
open Go

theorem netOf_cons (e : Int × Int) (E : List (Int × Int)) (c : Int) : netOf (e :: E) c = if e.1 = c then e.2 else netOf E c := by
  unfold netOf mgI mgetT
  rw [mget_cons]
  by_cases h : e.1 = c
  · rw [if_pos h, if_pos h]; rfl
  · rw [if_neg h, if_neg h]
theorem netOf_nil (c : Int) : netOf [] c = 0 := rfl
theorem netOf_none {E : List (Int × Int)} {c : Int} (h : c ∉ keysOf E) : netOf E c = 0 := by
  have : mgI E c = none := mget_none.2 fun e he hc => h (by rw [← hc]; exact List.mem_map_of_mem he)
  unfold netOf; rw [this]; rfl
/-- A sum over all is that over the others and one. -/
theorem sum_split (f : Int → Int) (h0 : f 0 = 0) {tx : Int} (ht : tx ≠ 0) : ∀ (E : List (Int × Int)), (∀ e ∈ E, e.1 ≠ 0) → (keysOf E).Nodup → ((otherV E 0).map f).sum = ((otherV E tx).map f).sum + f (netOf E tx)
  | [], _, _ => by rw [netOf_nil, h0]; rfl
  | e :: E, hk, hn => by
    have hn' : e.1 ∉ keysOf E ∧ (keysOf E).Nodup := List.nodup_cons.1 hn
    have ih := sum_split f h0 ht E (fun x hx => hk x (by simp [hx])) hn'.2
    rw [otherV_cons, if_pos (hk e (by simp)), otherV_cons, netOf_cons]
    by_cases h : e.1 = tx
    · rw [if_pos h, if_neg (by simp [h]), List.map_cons, List.sum_cons, ih, netOf_none (by rw [← h]; exact hn'.1), h0]; omega
    · rw [if_neg h, if_pos h, List.map_cons, List.sum_cons, List.map_cons, List.sum_cons, ih]; omega
def neg (n : Int) : Int := if n < 0 then n else 0
def pos (n : Int) : Int := if n < 0 then 0 else n
theorem lowS_map (l : List Int) : lowS l = (l.map neg).sum := rfl
theorem highS_map (l : List Int) : highS l = (l.map pos).sum := rfl
theorem low_split {E : List (Int × Int)} {tx : Int} (ht : tx ≠ 0) (hk : ∀ e ∈ E, e.1 ≠ 0) (hn : (keysOf E).Nodup) : lowS (valsOf E) = lowS (otherV E tx) + neg (netOf E tx) := sum_split neg rfl ht E hk hn
theorem high_split {E : List (Int × Int)} {tx : Int} (ht : tx ≠ 0) (hk : ∀ e ∈ E, e.1 ≠ 0) (hn : (keysOf E).Nodup) : highS (valsOf E) = highS (otherV E tx) + pos (netOf E tx) := sum_split pos rfl ht E hk hn
theorem all_split {E : List (Int × Int)} {tx : Int} (ht : tx ≠ 0) (hk : ∀ e ∈ E, e.1 ≠ 0) (hn : (keysOf E).Nodup) : (valsOf E).sum = (otherV E tx).sum + netOf E tx := by
  have := sum_split (fun n => n) rfl ht E hk hn
  simpa [valsOf] using this
theorem other_set (tx x : Int) : ∀ (E : List (Int × Int)), otherV (msI E tx x) tx = otherV E tx
  | [] => by
    show otherV [(tx, x)] tx = _
    rw [otherV_cons, if_neg (by simp)]
  | e :: E => by
    show otherV (mset (k := kI) (v := kI) (e :: E) tx x) tx = _
    rw [mset_cons]
    by_cases h : e.1 = tx
    · rw [if_pos h, otherV_cons, otherV_cons, if_neg (by simp [h]), if_neg (by simp [h])]
    · rw [if_neg h, otherV_cons, otherV_cons, if_pos h, if_pos h]
      exact congrArg _ (other_set tx x E)
theorem other_del (tx : Int) : ∀ (E : List (Int × Int)), otherV (mdI E tx) tx = otherV E tx
  | [] => rfl
  | e :: E => by
    show otherV (mdel (k := kI) (v := kI) (e :: E) tx) tx = _
    rw [mdel_cons]
    by_cases h : e.1 = tx
    · rw [if_pos h, otherV_cons, if_neg (by simp [h])]
    · rw [if_neg h, otherV_cons, otherV_cons, if_pos h, if_pos h]
      exact congrArg _ (other_del tx E)
theorem net_set (E : List (Int × Int)) (tx x : Int) : netOf (msI E tx x) tx = x := by
  show (mget (k := kI) (v := kI) (mset (k := kI) (v := kI) E tx x) tx).getD 0 = x
  rw [mget_set, if_pos rfl]; rfl
theorem keys_set (E : List (Int × Int)) (tx x : Int) (hn : (keysOf E).Nodup) : (keysOf (msI E tx x)).Nodup := by
  show (keysOf (mset (k := kI) (v := kI) E tx x)).Nodup
  rcases opt_or (mget (k := kI) (v := kI) E tx) with h | ⟨y, h⟩
  · rw [mset_none h]
    have : keysOf (E ++ [(tx, x)]) = keysOf E ++ [tx] := by simp [keysOf]
    rw [this]
    refine List.nodup_append.2 ⟨hn, by simp, fun a ha b hb => ?_⟩
    rw [List.mem_singleton.1 hb]
    obtain ⟨e, he, rfl⟩ := List.mem_map.1 ha
    exact mget_none.1 h e he
  · rw [mset_keys_some (by rw [h]; rfl)]; exact hn
theorem mem_set {E : List (Int × Int)} {tx x : Int} (hn : (keysOf E).Nodup) {e : Int × Int} (he : e ∈ msI E tx x) : (e.1 = tx ∧ e.2 = x) ∨ e ∈ E := by
  have h := mget_of_mem (q := .i64) (v := kI) (keys_set E tx x hn) he
  have h2 : mget (k := kI) (v := kI) (mset (k := kI) (v := kI) E tx x) e.1 = some e.2 := h
  rw [mget_set] at h2
  by_cases hc : tx = e.1
  · rw [if_pos hc] at h2; exact .inl ⟨hc.symm, (Option.some.inj h2).symm⟩
  · rw [if_neg hc] at h2; exact .inr (mget_mem h2)
theorem keys_del (E : List (Int × Int)) (tx : Int) (hn : (keysOf E).Nodup) : (keysOf (mdI E tx)).Nodup ∧ tx ∉ keysOf (mdI E tx) := by
  have : keysOf (mdI E tx) = (keysOf E).erase tx := mdel_keys
  rw [this]
  exact ⟨hn.erase tx, fun h => by have := List.Nodup.mem_erase_iff hn |>.1 h; exact this.1 rfl⟩
theorem mem_del : ∀ {E : List (Int × Int)} {tx : Int} {e : Int × Int}, e ∈ mdI E tx → e ∈ E
  | [], _, _, h => by cases h
  | x :: E, tx, e, h => by
    have h : e ∈ mdel (k := kI) (v := kI) (x :: E) tx := h
    rw [mdel_cons] at h
    by_cases hx : x.1 = tx
    · rw [if_pos hx] at h; simp [h]
    · rw [if_neg hx] at h
      rcases List.mem_cons.1 h with h | h
      · simp [h]
      · have : e ∈ mdI E tx := h
        simp [mem_del this]
theorem part_low (l : List Int) : partS (-1) l = lowS l := by
  unfold partS lowS
  induction l with
  | nil => rfl
  | cons n l ih =>
    rw [List.filter_cons, List.map_cons, List.sum_cons, ← ih]
    by_cases h : n > 0
    · simp [h]; omega
    · by_cases h2 : n < 0 <;> simp [h, h2]
      omega
theorem part_high (l : List Int) : partS 1 l = highS l := by
  unfold partS highS
  induction l with
  | nil => rfl
  | cons n l ih =>
    rw [List.filter_cons, List.map_cons, List.sum_cons, ← ih]
    by_cases h : n > 0
    · simp [h]; omega
    · by_cases h2 : n < 0 <;> simp [h, h2]
      omega
theorem has_iff {a b v : Int} : hasB (a, b) v = true ↔ a ≤ v ∧ v ≤ b := by unfold hasB; simp
theorem good_keys {e : Esc} (h : e.Good) : ∀ p ∈ e.nets, p.1 ≠ 0 := fun p hp => by have := h.keys p hp; omega
theorem good_len {e : Esc} (h : e.Good) : e.nets.length ≤ 8 := by
  have h2 : (keysOf e.nets).length ≤ ((List.range 8).map fun (n : Nat) => (n : Int) + 1).length := by
    refine List.Nodup.length_le_of_subset h.nodup fun k hk => ?_
    obtain ⟨p, hp, rfl⟩ := List.mem_map.1 hk
    have := h.keys p hp
    exact List.mem_map.2 ⟨(p.1 - 1).toNat, List.mem_range.2 (by omega), by omega⟩
  simpa [keysOf_len] using h2
theorem good_new {lo hi v : Int} (h1 : Num lo) (h2 : Num hi) (h3 : lo ≤ v) (h4 : v ≤ hi) : Esc.Good ⟨lo, hi, v, []⟩ :=
  ⟨fun p hp => (nomatch hp), by simp [keysOf], fun p hp => (nomatch hp), by show lo ≤ v + lowS []; simp [lowS]; exact h3, by show v + highS [] ≤ hi; simp [highS]; exact h4, h1, h2⟩
theorem good_add {e : Esc} (h : e.Good) {tx d : Int} (h1 : 1 ≤ tx) (h2 : tx ≤ 8) (hm : mayF e tx d = 0) : Esc.Good ⟨e.lo, e.hi, e.st, msI e.nets tx (netOf e.nets tx + d)⟩ := by
  obtain ⟨_, _, i1, i2, hn⟩ := may_zero hm
  have hu : upB (netOf e.nets tx) d = decide (netOf e.nets tx + d > 0) := by unfold upB; rw [if_pos hn]
  unfold inF at i1 i2
  rw [has_iff, part_low, hu] at i1
  rw [has_iff, part_high, hu] at i2
  have kn := keys_set e.nets tx (netOf e.nets tx + d) h.nodup
  have kz : ∀ p ∈ msI e.nets tx (netOf e.nets tx + d), p.1 ≠ 0 := fun p hp => by
    rcases mem_set h.nodup hp with h | h'
    · omega
    · exact good_keys h p h'
  refine ⟨fun p hp => ?_, kn, fun p hp => ?_, ?_, ?_, h.b1, h.b2⟩
  · rcases mem_set h.nodup hp with h | h'
    · omega
    · exact h.keys p h'
  · rcases mem_set h.nodup hp with h | h'
    · rw [h.2]; exact hn
    · exact h.nums p h'
  · show e.lo ≤ e.st + lowS (valsOf (msI e.nets tx (netOf e.nets tx + d)))
    rw [low_split (tx := tx) (by omega) kz kn, other_set, net_set]
    unfold neg
    by_cases hz : netOf e.nets tx + d > 0
    · simp [hz] at i1; rw [if_neg (by omega)]; omega
    · simp [hz] at i1; split <;> omega
  · show e.st + highS (valsOf (msI e.nets tx (netOf e.nets tx + d))) ≤ e.hi
    rw [high_split (tx := tx) (by omega) kz kn, other_set, net_set]
    unfold pos
    by_cases hz : netOf e.nets tx + d > 0
    · simp [hz] at i2; rw [if_neg (by omega)]; omega
    · simp [hz] at i2; split <;> omega
theorem good_st {e : Esc} (h : e.Good) : Num (e.st + lowS (valsOf e.nets)) ∧ Num (e.st + highS (valsOf e.nets)) ∧ lowS (valsOf e.nets) ≤ 0 ∧ 0 ≤ highS (valsOf e.nets) := by
  have hv : ∀ x ∈ valsOf e.nets, InR .i64 x := fun x hx => by
    unfold valsOf otherV at hx
    obtain ⟨p, hp, rfl⟩ := List.mem_map.1 hx
    exact h.nums p (List.mem_filter.1 hp).1
  have a := (low_bound _ hv).2
  have b := (high_bound _ hv).1
  have c := h.lo; have d := h.hi; have f := h.b1; have k := h.b2
  unfold Num at *
  omega
theorem worst_good {e : Esc} (h : e.Good) : worstF e.st (valsOf e.nets) = (e.st + lowS (valsOf e.nets), e.st + highS (valsOf e.nets), 0) := by
  have := good_st h
  unfold worstF; rw [if_pos ⟨this.1, this.2.1⟩]

/-! ### The holders' list -/

theorem netsTo_succ (E : List (Int × Int)) (n : Nat) : netsTo E (n + 1) = netsTo E n ++ (match mgI E ((n : Int) + 1) with | some v => [((n : Int) + 1, v)] | none => []) := by
  unfold netsTo
  rw [List.range_succ, List.filterMap_append]
  congr 1
  cases h : mgI E ((n : Int) + 1) <;> simp [h]
theorem netsTo_mem {E : List (Int × Int)} : ∀ {n : Nat} {p : Int × Int}, p ∈ netsTo E n ↔ (1 ≤ p.1 ∧ p.1 ≤ n) ∧ mgI E p.1 = some p.2 := by
  intro n p
  unfold netsTo
  rw [List.mem_filterMap]
  constructor
  · rintro ⟨i, hi, h⟩
    obtain ⟨v, hv, rfl⟩ := Option.map_eq_some_iff.1 h
    have := List.mem_range.1 hi
    exact ⟨⟨by show 1 ≤ (i : Int) + 1; omega, by show (i : Int) + 1 ≤ n; omega⟩, hv⟩
  · rintro ⟨⟨h1, h2⟩, h3⟩
    refine ⟨(p.1 - 1).toNat, List.mem_range.2 (by omega), ?_⟩
    have : (((p.1 - 1).toNat : Nat) : Int) + 1 = p.1 := by omega
    rw [this, h3]; rfl
theorem netsTo_rise (E : List (Int × Int)) : ∀ n, (netsTo E n).Pairwise (fun a b => a.1 < b.1)
  | 0 => by simp [netsTo]
  | n + 1 => by
    rw [netsTo_succ]
    refine List.pairwise_append.2 ⟨netsTo_rise E n, by cases mgI E ((n : Int) + 1) <;> simp, fun a ha b hb => ?_⟩
    have h1 := (netsTo_mem.1 ha).1.2
    cases hm : mgI E ((n : Int) + 1) with
    | none => rw [hm] at hb; cases hb
    | some v => rw [hm] at hb; rw [List.mem_singleton.1 hb]; show a.1 < (n : Int) + 1; omega
theorem netsTo_len (E : List (Int × Int)) : ∀ n, (netsTo E n).length ≤ n
  | 0 => by simp [netsTo]
  | n + 1 => by
    have := netsTo_len E n
    rw [netsTo_succ, List.length_append]
    cases mgI E ((n : Int) + 1) <;> simp <;> omega
theorem nets_perm {e : Esc} (h : e.Good) : (netsTo e.nets 8).Perm e.nets := by
  have n1 : (netsTo e.nets 8).Nodup := (netsTo_rise e.nets 8).imp fun hab => by intro he; rw [he] at hab; omega
  have n2 : e.nets.Nodup := by
    have := h.nodup
    unfold keysOf at this
    rw [List.Nodup, List.pairwise_map] at this
    exact this.imp fun hab he => hab (by rw [he])
  refine (List.perm_ext_iff_of_nodup n1 n2).2 fun p => ?_
  rw [netsTo_mem]
  constructor
  · rintro ⟨_, h3⟩
    have := mget_mem (q := .i64) (v := kI) h3
    exact this
  · intro hp
    exact ⟨by have := h.keys p hp; omega, mget_of_mem (q := .i64) (v := kI) h.nodup hp⟩
theorem vals_all {E : List (Int × Int)} (h : ∀ p ∈ E, p.1 ≠ 0) : valsOf E = E.map (·.2) := by
  unfold valsOf otherV
  rw [List.filter_eq_self.2 (fun p hp => by simpa using h p hp)]
theorem nets_vals {e : Esc} (h : e.Good) : ((netsTo e.nets 8).map (·.2)).Perm (valsOf e.nets) := by
  rw [vals_all (good_keys h)]; exact (nets_perm h).map _
theorem nets_keys {e : Esc} (h : e.Good) : rising (keysOf e.nets) = (netsTo e.nets 8).map (·.1) := by
  rw [← rising_of_le (l := (netsTo e.nets 8).map (·.1)) (by rw [List.pairwise_map]; exact (netsTo_rise e.nets 8).imp fun h => Int.le_of_lt h)]
  exact rising_perm ((nets_perm h).map _).symm

/-! ### Subsets -/

theorem outTo_succ (b : Int) (l : List (Int × Int)) (s : Int) (n : Nat) : outTo b l s (n + 1) = outTo b l s n + if bitI s n then (l.getD n (0, 0)).2 else 0 := by
  unfold outTo
  rw [List.range_succ, List.map_append, List.sum_append]
  simp only [List.map_cons, List.map_nil, List.sum_cons, List.sum_nil]
  omega
theorem outTo_zero (b : Int) (l : List (Int × Int)) (s : Int) : outTo b l s 0 = b := by unfold outTo; simp
theorem snds_take {l : List (Int × Int)} {n : Nat} (h : n < l.length) : (l.take (n + 1)).map (·.2) = (l.take n).map (·.2) ++ [(l.getD n (0, 0)).2] := by
  rw [take_succ_get h (0, 0), List.map_append]; rfl
theorem outTo_in (b : Int) (l : List (Int × Int)) (s : Int) : ∀ n, n ≤ l.length → b + lowS ((l.take n).map (·.2)) ≤ outTo b l s n ∧ outTo b l s n ≤ b + highS ((l.take n).map (·.2))
  | 0, _ => by rw [outTo_zero]; simp [lowS, highS]
  | n + 1, h => by
    have ih := outTo_in b l s n (by omega)
    rw [outTo_succ, snds_take (by omega), low_snoc, high_snoc]
    split <;> split <;> omega
theorem outV_in (b : Int) (l : List (Int × Int)) (s : Int) : b + lowS (l.map (·.2)) ≤ outV b l s ∧ outV b l s ≤ b + highS (l.map (·.2)) := by
  have := outTo_in b l s l.length (Nat.le_refl _)
  rw [List.take_length] at this
  exact this
theorem pow_pos' (n : Nat) : (0 : Int) < 2 ^ n := Int.pow_pos (by decide)
/-- Whatever bits are wanted, a number has them. -/
theorem mask (p : Nat → Bool) : ∀ n, ∃ s : Int, 0 ≤ s ∧ s < 2 ^ n ∧ ∀ i, i < n → bitI s i = p i
  | 0 => ⟨0, by decide, by decide, fun i hi => by omega⟩
  | n + 1 => by
    obtain ⟨s, h1, h2, h3⟩ := mask p n
    have hp := pow_pos' n
    cases hpn : p n with
    | false =>
      refine ⟨s, h1, by rw [Int.pow_succ]; omega, fun i hi => ?_⟩
      by_cases hin : i < n
      · exact h3 i hin
      · have : i = n := by omega
        subst this
        rw [hpn]
        unfold bitI
        rw [Int.ediv_eq_zero_of_lt h1 h2]; rfl
    | true =>
      refine ⟨s + 2 ^ n, by omega, by rw [Int.pow_succ]; omega, fun i hi => ?_⟩
      by_cases hin : i < n
      · rw [← h3 i hin]
        unfold bitI
        obtain ⟨k, rfl⟩ : ∃ k, n = i + (k + 1) := ⟨n - i - 1, by omega⟩
        have e : s + 2 ^ (i + (k + 1)) = s + 2 ^ i * (2 ^ k * 2) := by rw [Int.pow_add, Int.pow_succ]
        rw [e, Int.add_mul_ediv_left _ _ (by have := pow_pos' i; omega), Int.add_mul_emod_self_right]
      · have : i = n := by omega
        subst this
        rw [hpn]
        unfold bitI
        have e : s + 2 ^ i = s + 2 ^ i * 1 := by rw [Int.mul_one]
        rw [e, Int.add_mul_ediv_left _ _ (by omega), Int.ediv_eq_zero_of_lt h1 h2]; rfl
theorem bits_all (n : Nat) : ∀ i, i < n → bitI (2 ^ n - 1) i = true := by
  intro i hi
  unfold bitI
  obtain ⟨k, rfl⟩ : ∃ k, n = i + (k + 1) := ⟨n - i - 1, by omega⟩
  have hp := pow_pos' i
  have e : (2 : Int) ^ (i + (k + 1)) - 1 = (2 ^ i - 1) + 2 ^ i * (2 ^ k * 2 - 1) := by
    rw [Int.pow_add, Int.pow_succ, Int.mul_sub]; omega
  rw [e, Int.add_mul_ediv_left _ _ (by omega), Int.ediv_eq_zero_of_lt (by omega) (by omega)]
  simp only [decide_eq_true_eq]
  omega
theorem outTo_bits (b : Int) (l : List (Int × Int)) (s : Int) (p : Nat → Bool) : ∀ n, n ≤ l.length → (∀ i, i < n → bitI s i = p i) → outTo b l s n = b + ((List.range n).map fun (i : Nat) => if p i then (l.getD i (0, 0)).2 else 0).sum
  | 0, _, _ => by rw [outTo_zero]; simp
  | n + 1, h, hb => by
    rw [outTo_succ, outTo_bits b l s p n (by omega) (fun i hi => hb i (by omega)), hb n (by omega), List.range_succ, List.map_append, List.sum_append]
    simp only [List.map_cons, List.map_nil, List.sum_cons, List.sum_nil]
    omega
theorem out_low (b : Int) (l : List (Int × Int)) (s : Int) : ∀ n, n ≤ l.length → (∀ i, i < n → bitI s i = decide ((l.getD i (0, 0)).2 < 0)) → outTo b l s n = b + lowS ((l.take n).map (·.2))
  | 0, _, _ => by rw [outTo_zero]; simp [lowS]
  | n + 1, h, hb => by
    rw [outTo_succ, out_low b l s n (by omega) (fun i hi => hb i (by omega)), hb n (by omega), snds_take (by omega), low_snoc]
    simp only [decide_eq_true_eq]; omega
theorem out_high (b : Int) (l : List (Int × Int)) (s : Int) : ∀ n, n ≤ l.length → (∀ i, i < n → bitI s i = !decide ((l.getD i (0, 0)).2 < 0)) → outTo b l s n = b + highS ((l.take n).map (·.2))
  | 0, _, _ => by rw [outTo_zero]; simp [highS]
  | n + 1, h, hb => by
    rw [outTo_succ, out_high b l s n (by omega) (fun i hi => hb i (by omega)), hb n (by omega), snds_take (by omega), high_snoc]
    by_cases hz : (l.getD n (0, 0)).2 < 0 <;> simp only [hz, decide_true, decide_false, Bool.not_true, Bool.not_false, if_true, if_false, Bool.false_eq_true] <;> omega
theorem out_all (b : Int) (l : List (Int × Int)) (s : Int) : ∀ n, n ≤ l.length → (∀ i, i < n → bitI s i = true) → outTo b l s n = b + ((l.take n).map (·.2)).sum
  | 0, _, _ => by rw [outTo_zero]; simp
  | n + 1, h, hb => by
    rw [outTo_succ, out_all b l s n (by omega) (fun i hi => hb i (by omega)), hb n (by omega), snds_take (by omega), List.sum_append, if_pos rfl]
    simp only [List.sum_cons, List.sum_nil]; omega
theorem ex_low (b : Int) (l : List (Int × Int)) : ∃ s : Int, 0 ≤ s ∧ s < 2 ^ l.length ∧ outV b l s = b + lowS (l.map (·.2)) := by
  obtain ⟨s, h1, h2, h3⟩ := mask (fun i => decide ((l.getD i (0, 0)).2 < 0)) l.length
  have := out_low b l s l.length (Nat.le_refl _) h3
  rw [List.take_length] at this
  exact ⟨s, h1, h2, this⟩
theorem ex_high (b : Int) (l : List (Int × Int)) : ∃ s : Int, 0 ≤ s ∧ s < 2 ^ l.length ∧ outV b l s = b + highS (l.map (·.2)) := by
  obtain ⟨s, h1, h2, h3⟩ := mask (fun i => !decide ((l.getD i (0, 0)).2 < 0)) l.length
  have := out_high b l s l.length (Nat.le_refl _) h3
  rw [List.take_length] at this
  exact ⟨s, h1, h2, this⟩
theorem out_full (b : Int) (l : List (Int × Int)) : outV b l (2 ^ l.length - 1) = b + (l.map (·.2)).sum := by
  have := out_all b l (2 ^ l.length - 1) l.length (Nat.le_refl _) (bits_all _)
  rw [List.take_length] at this
  exact this
end Go.Proofs.Ytljimnhijpcjaaa.VC
