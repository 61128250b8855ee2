/- Escrows and the document's: what one step does to both. Conditions: as each theorem states them. -/
import Derived.Test.YtljimnhijpcjaaaPl
set_option linter.unusedVariables false
set_option linter.unusedSimpArgs false
namespace Go.Proofs.Ytljimnhijpcjaaa.VC
open Go

theorem up_sgn {n d : Int} (hn : Num n) (hd : Num d) : upB n d = decide (n + d > 0) := by
  unfold upB
  by_cases h : Num (n + d)
  · rw [if_pos h]
  · rw [if_neg h]
    unfold Num at *
    congr 1
    apply propext
    omega
/-- What May answers to a holder from 1 to 8. -/
theorem hasN_cons (p : Int × Int) (l : List (Int × Int)) (tx : Int) : hasN (p :: l) tx = (p.1 == tx || hasN l tx) := by simp [hasN]
theorem hasN_iff {l : List (Int × Int)} {tx : Int} : hasN l tx = true ↔ tx ∈ keysOf l := by
  unfold hasN keysOf
  rw [List.any_eq_true, List.mem_map]
  constructor
  · rintro ⟨p, hp, h⟩; exact ⟨p, hp, by simpa using h⟩
  · rintro ⟨p, hp, h⟩; exact ⟨p, hp, by simpa using h⟩
theorem withM_cons (p : Int × Int) (l : List (Int × Int)) (tx d : Int) : withM (p :: l) tx d = (if p.1 == tx then p.2 + d else p.2) :: withM l tx d := by simp [withM]
theorem with_sum (f : Int → Int) (h0 : f 0 = 0) {tx d : Int} : ∀ l : List (Int × Int), (keysOf l).Nodup → ((withM l tx d).map f).sum = ((otherV l tx).map f).sum + (if hasN l tx then f (netOf l tx + d) else 0)
  | [], _ => rfl
  | p :: l, hn => by
    have hn' : p.1 ∉ keysOf l ∧ (keysOf l).Nodup := List.nodup_cons.1 hn
    have ih := with_sum f h0 (tx := tx) (d := d) l hn'.2
    rw [withM_cons, List.map_cons, List.sum_cons, ih, otherV_cons, netOf_cons, hasN_cons]
    by_cases h : p.1 = tx
    · have hno : hasN l tx = false := by
        cases hb : hasN l tx with
        | true => exact absurd (hasN_iff.1 hb) (h ▸ hn'.1)
        | false => rfl
      rw [if_pos h, if_neg (show ¬ (p.1 ≠ tx) from fun hh => hh h), hno]
      simp [h]; omega
    · rw [if_neg h, if_pos h]
      have hb : (p.1 == tx) = false := by simpa using h
      rw [hb]
      simp only [Bool.false_or, List.map_cons, List.sum_cons]
      simp
      omega
theorem withV_sum (f : Int → Int) (h0 : f 0 = 0) {l : List (Int × Int)} {tx d : Int} (hn : (keysOf l).Nodup) : ((withV l tx d).map f).sum = ((otherV l tx).map f).sum + f (netOf l tx + d) := by
  unfold withV
  rw [List.map_append, List.sum_append, with_sum f h0 l hn]
  cases hb : hasN l tx with
  | true => simp
  | false =>
    have : netOf l tx = 0 := netOf_none fun hm => by rw [hasN_iff.2 hm] at hb; cases hb
    rw [this]; simp
theorem withB_fold {tx d : Int} : ∀ (l : List (Int × Int)) (b : Bool), (keysOf l).Nodup → l.foldl (fun b p => if p.1 == tx then decide (Num (p.2 + d)) else b) b = if hasN l tx then decide (Num (netOf l tx + d)) else b
  | [], b, _ => rfl
  | p :: l, b, hn => by
    have hn' : p.1 ∉ keysOf l ∧ (keysOf l).Nodup := List.nodup_cons.1 hn
    rw [List.foldl_cons, withB_fold l _ hn'.2, netOf_cons, hasN_cons]
    by_cases h : p.1 = tx
    · have hno : hasN l tx = false := by
        cases hb : hasN l tx with
        | true => exact absurd (hasN_iff.1 hb) (h ▸ hn'.1)
        | false => rfl
      simp [h, hno]
    · simp [h]
theorem withB_is {l : List (Int × Int)} {tx d : Int} (hn : (keysOf l).Nodup) (hd : Num d) : withB l tx d = decide (Num (netOf l tx + d)) := by
  unfold withB
  rw [withB_fold l true hn]
  cases hb : hasN l tx with
  | true => rfl
  | false =>
    have : netOf l tx = 0 := netOf_none fun hm => by rw [hasN_iff.2 hm] at hb; cases hb
    rw [this, Int.zero_add]
    simp [hd]
theorem netOf_num {l : List (Int × Int)} (h : ∀ p ∈ l, Num p.2) (tx : Int) : Num (netOf l tx) := by
  unfold netOf mgI mgetT
  cases hm : mget (k := kI) (v := kI) l tx with
  | none => unfold Num; simp
  | some v => exact h _ (mget_mem (q := .i64) (v := kI) hm)
theorem Alike.other {e : Esc} {r : RefE} (h : Alike e r) (tx : Int) : (otherV e.nets tx).Perm (otherV r.nets tx) := (h.nets.filter _).map _
theorem Alike.net {e : Esc} {r : RefE} (h : Alike e r) (tx : Int) : netOf e.nets tx = netOf r.nets tx := by
  unfold netOf
  rw [← h.get tx, find_mget h.good.1]
theorem Alike.all {e : Esc} {r : RefE} (h : Alike e r) : r.vals = valsOf r.nets := (vals_all fun p hp => by have := h.keys p hp; omega).symm
/-- May answers alike. -/
theorem may_alike {e : Esc} {r : RefE} (h : Alike e r) {tx d : Int} (hd : Num d) : mayF e tx d = mayR r tx d := by
  unfold mayF mayR
  by_cases h1 : tx < 1 ∨ 2147483647 < tx
  · rw [if_pos h1, if_pos h1]
  · rw [if_neg h1, if_neg h1]
    have hk : ∀ p ∈ r.nets, p.1 ≠ 0 := fun p hp => by have := h.keys p hp; omega
    have ht : tx ≠ 0 := by omega
    have hn := netOf_num h.nums tx
    have e1 := lowS_perm (h.other tx)
    have e2 := highS_perm (h.other tx)
    have w1 : lowS (withV r.nets tx d) = lowS (otherV r.nets tx) + neg (netOf r.nets tx + d) := withV_sum neg rfl h.good.1
    have w2 : highS (withV r.nets tx d) = highS (otherV r.nets tx) + pos (netOf r.nets tx + d) := withV_sum pos rfl h.good.1
    have s1 := low_split ht hk h.good.1
    have s2 := high_split ht hk h.good.1
    have hl := h.low
    have hh := h.high
    rw [h.all, s1] at hl
    rw [h.all, s2] at hh
    have l1 := lowS_neg (otherV r.nets tx)
    have b1 := h.b1
    have b2 := h.b2
    rw [w1, w2, h.net tx, withB_is h.good.1 hd, up_sgn hn hd]
    unfold inF
    rw [part_low, part_high, e1, e2, h.st, h.lo, h.hi]
    generalize lowS (otherV r.nets tx) = L at *
    generalize highS (otherV r.nets tx) = H at *
    generalize netOf r.nets tx = n at *
    have np : neg n ≤ 0 ∧ 0 ≤ pos n := by unfold neg pos; split <;> omega
    have hans : (ans (n + d)).2 = if decide (Num (n + d)) = false then 10 else 0 := by
      unfold ans
      by_cases hN : Num (n + d)
      · rw [if_pos hN, if_neg (by simp [hN])]
      · rw [if_neg hN, if_pos (by simp [hN])]
    rw [hans]
    have hm : neg (n + d) = (if decide (n + d > 0) = true then 0 else n + d) ∧ pos (n + d) = (if decide (n + d > 0) = true then n + d else 0) := by
      unfold neg pos
      constructor <;> (split <;> split <;> simp_all <;> omega)
    rw [← hm.1, ← hm.2]
    have hm2 : neg (n + d) ≤ 0 ∧ 0 ≤ pos (n + d) := by unfold neg pos; split <;> omega
    by_cases c1 : r.base + (L + neg (n + d)) < r.lo
    · rw [if_pos (show hasB (r.lo, r.hi) (r.base + L + neg (n + d)) = false by cases hx : hasB (r.lo, r.hi) (r.base + L + neg (n + d)) with | false => rfl | true => rw [has_iff] at hx; omega), if_pos (.inl c1)]
    · rw [if_neg (show ¬ hasB (r.lo, r.hi) (r.base + L + neg (n + d)) = false by rw [Bool.not_eq_false, has_iff]; omega)]
      by_cases c2 : r.hi < r.base + (H + pos (n + d))
      · rw [if_pos (show hasB (r.lo, r.hi) (r.base + H + pos (n + d)) = false by cases hx : hasB (r.lo, r.hi) (r.base + H + pos (n + d)) with | false => rfl | true => rw [has_iff] at hx; omega), if_pos (.inr c2)]
      · rw [if_neg (show ¬ hasB (r.lo, r.hi) (r.base + H + pos (n + d)) = false by rw [Bool.not_eq_false, has_iff]; omega), if_neg (show ¬ (r.base + (L + neg (n + d)) < r.lo ∨ r.hi < r.base + (H + pos (n + d))) from fun hx => hx.elim c1 c2)]

theorem nodup_pairs {L : List (Int × Int)} (h : (keysOf L).Nodup) : L.Nodup := by
  unfold keysOf at h
  rw [List.Nodup, List.pairwise_map] at h
  exact h.imp fun hab e => hab (by rw [e])
theorem perm_of_get {E F : List (Int × Int)} (hE : (keysOf E).Nodup) (hF : (keysOf F).Nodup) (h : ∀ c, mgI E c = mgI F c) : E.Perm F := by
  have key : ∀ {A B : List (Int × Int)}, (keysOf A).Nodup → (∀ c, mgI A c = mgI B c) → ∀ x ∈ A, x ∈ B := fun {A B} hA h x hx => by
    have h1 := mget_of_mem (q := .i64) (v := kI) hA hx
    have h2 : mget (k := kI) (v := kI) B x.1 = some x.2 := (h x.1).symm.trans h1
    exact mget_mem (q := .i64) (v := kI) h2
  exact (List.perm_ext_iff_of_nodup (nodup_pairs hE) (nodup_pairs hF)).2 fun x => ⟨key hE h x, key hF (fun c => (h c).symm) x⟩
def insS : List (Int × Int) → Int → Int → List (Int × Int)
  | [], tx, d => [(tx, d)]
  | p :: l, tx, d => if tx < p.1 then (tx, d) :: p :: l else if p.1 = tx then (p.1, p.2 + d) :: l else p :: insS l tx d
abbrev Rise (l : List (Int × Int)) : Prop := l.Pairwise (fun a b => a.1 < b.1)
theorem addFold {tx d : Int} : ∀ (l acc : List (Int × Int)) (done : Bool), Rise l → (∀ p ∈ l, p.1 = tx → Num (p.2 + d)) → (done = true → ∀ p ∈ l, tx < p.1) →
    (if (l.foldl (addStep tx d) (acc, done)).2 then (l.foldl (addStep tx d) (acc, done)).1 else (l.foldl (addStep tx d) (acc, done)).1 ++ [(tx, d)]) = if done then acc ++ l else acc ++ insS l tx d
  | [], acc, done, _, _, _ => by cases done <;> simp [insS]
  | p :: l, acc, done, hr, hn, hd => by
    obtain ⟨hp, hr⟩ := List.pairwise_cons.1 hr
    have hn' : ∀ q ∈ l, q.1 = tx → Num (q.2 + d) := fun q hq => hn q (List.mem_cons_of_mem _ hq)
    rw [List.foldl_cons]
    cases done with
    | true =>
      have h1 := hd rfl p (List.mem_cons_self ..)
      have e : addStep tx d (acc, true) p = (acc ++ [p], true) := by
        unfold addStep
        have : ¬ p.1 = tx := by omega
        simp [this]
      rw [e, addFold l (acc ++ [p]) true hr hn' (fun _ q hq => by have := hp q hq; omega)]
      simp
    | false =>
      by_cases c1 : tx < p.1
      · have e : addStep tx d (acc, false) p = (acc ++ [(tx, d)] ++ [p], true) := by
          unfold addStep
          have : ¬ p.1 = tx := by omega
          simp [this, c1]
        rw [e, addFold l _ true hr hn' (fun _ q hq => by have := hp q hq; omega)]
        simp [insS, c1]
      · by_cases c2 : p.1 = tx
        · have hN := hn p (List.mem_cons_self ..) c2
          have hw : IntKind.i64.wrap (p.2 + d) = p.2 + d := by unfold Num at hN; exact wrap64 (by omega) (by omega)
          have e : addStep tx d (acc, false) p = (acc ++ [(p.1, p.2 + d)], true) := by
            unfold addStep
            have : ¬ p.1 > tx := by omega
            simp [c2, hw]
          rw [e, addFold l _ true hr hn' (fun _ q hq => by have := hp q hq; omega)]
          simp [insS, c2]
        · have e : addStep tx d (acc, false) p = (acc ++ [p], false) := by
            unfold addStep
            have : ¬ p.1 > tx := by omega
            simp [this, c2]
          rw [e, addFold l _ false hr hn' (fun h => by cases h)]
          simp [insS, c1, c2]
theorem addN_ins {l : List (Int × Int)} {tx d : Int} (hr : Rise l) (hn : ∀ p ∈ l, p.1 = tx → Num (p.2 + d)) : addN l tx d = insS l tx d := by
  have := addFold l [] false hr hn (fun h => by cases h)
  unfold addN addTo
  simpa using this
theorem mgI_cons (e : Int × Int) (E : List (Int × Int)) (c : Int) : mgI (e :: E) c = if e.1 = c then some e.2 else mgI E c := mget_cons
theorem net_low {l : List (Int × Int)} {tx : Int} (h : ∀ p ∈ l, tx < p.1) : netOf l tx = 0 := netOf_none fun hm => by
  obtain ⟨p, hp, e⟩ := List.mem_map.1 hm
  have := h p hp
  omega
theorem ins_get {tx d : Int} : ∀ (l : List (Int × Int)) (c : Int), Rise l → mgI (insS l tx d) c = if tx = c then some (netOf l tx + d) else mgI l c
  | [], c, _ => by
    show mgI [(tx, d)] c = _
    rw [mgI_cons, netOf_nil, Int.zero_add]
  | p :: l, c, hr => by
    obtain ⟨hp, hr⟩ := List.pairwise_cons.1 hr
    unfold insS
    by_cases c1 : tx < p.1
    · rw [if_pos c1, mgI_cons]
      have : netOf (p :: l) tx = 0 := net_low fun q hq => by
        rcases List.mem_cons.1 hq with rfl | hq
        · exact c1
        · have := hp q hq; omega
      rw [this, Int.zero_add]
    · rw [if_neg c1]
      by_cases c2 : p.1 = tx
      · rw [if_pos c2, mgI_cons, mgI_cons, netOf_cons, if_pos c2]
        dsimp only
        by_cases c3 : tx = c
        · rw [if_pos c3, if_pos (c2.trans c3)]
        · rw [if_neg c3, if_neg (by omega), if_neg (by omega)]
      · rw [if_neg c2, mgI_cons, ins_get l c hr, mgI_cons, netOf_cons, if_neg c2]
        by_cases c3 : p.1 = c
        · rw [if_pos c3, if_pos c3, if_neg (by omega)]
        · rw [if_neg c3, if_neg c3]
theorem ins_mem {tx d : Int} : ∀ (l : List (Int × Int)) (q : Int × Int), q ∈ insS l tx d → q.1 = tx ∨ q ∈ l
  | [], q, h => by
    have : q = (tx, d) := by simpa [insS] using h
    exact .inl (by rw [this])
  | p :: l, q, h => by
    unfold insS at h
    split at h
    · rcases List.mem_cons.1 h with rfl | h
      · exact .inl rfl
      · exact .inr h
    · split at h
      · rename_i c2
        rcases List.mem_cons.1 h with rfl | h
        · exact .inl c2
        · exact .inr (List.mem_cons_of_mem _ h)
      · rcases List.mem_cons.1 h with rfl | h
        · exact .inr (List.mem_cons_self ..)
        · exact (ins_mem l q h).imp id (List.mem_cons_of_mem _)
theorem ins_rise {tx d : Int} : ∀ (l : List (Int × Int)), Rise l → Rise (insS l tx d)
  | [], _ => by simp [insS]
  | p :: l, hr => by
    obtain ⟨hp, hr'⟩ := List.pairwise_cons.1 hr
    unfold insS
    split
    · rename_i c1
      refine List.pairwise_cons.2 ⟨fun q hq => ?_, hr⟩
      rcases List.mem_cons.1 hq with rfl | hq
      · exact c1
      · have := hp q hq
        show tx < q.1
        omega
    · split
      · exact List.pairwise_cons.2 ⟨hp, hr'⟩
      · refine List.pairwise_cons.2 ⟨fun q hq => ?_, ins_rise l hr'⟩
        rcases ins_mem l q hq with h | h
        · omega
        · exact hp q h
theorem ins_len (tx d : Int) : ∀ l : List (Int × Int), (insS l tx d).length ≤ l.length + 1
  | [] => by simp [insS]
  | p :: l => by
    have := ins_len tx d l
    unfold insS
    split
    · simp
    · split
      · simp
      · simp only [List.length_cons]; omega
theorem rise_keys {l : List (Int × Int)} (h : Rise l) : (keysOf l).Nodup := by
  unfold keysOf
  rw [List.Nodup, List.pairwise_map]
  exact h.imp fun hab he => by omega
theorem Alike.mg {e : Esc} {r : RefE} (h : Alike e r) (c : Int) : mgI e.nets c = mgI r.nets c := by rw [← h.get c, find_mget h.good.1]
/-- A delta that is taken. -/
theorem add_alike {e : Esc} {r : RefE} (h : Alike e r) {tx d : Int} (hd : Num d) (hl : r.nets.length ≤ 999) (hm : mayF e tx d = 0) :
    Alike ⟨e.lo, e.hi, e.st, msI e.nets tx (netOf e.nets tx + d)⟩ ⟨r.lo, r.hi, r.base, addN r.nets tx d⟩ ∧ (addN r.nets tx d).length ≤ r.nets.length + 1 := by
  obtain ⟨t1, t2, i1, i2, hn⟩ := may_zero hm
  have hx : ∀ p ∈ r.nets, p.1 = tx → Num (p.2 + d) := fun p hp he => by
    have h1 := mget_of_mem (q := .i64) (v := kI) h.good.1 hp
    have h2 : netOf r.nets tx = p.2 := by unfold netOf mgI mgetT; rw [← he, h1]; rfl
    rw [← h2, ← h.net tx]; exact hn
  rw [addN_ins h.rise hx]
  have hri := ins_rise (tx := tx) (d := d) r.nets h.rise
  have hle := ins_len tx d r.nets
  have kn := keys_set e.nets tx (netOf e.nets tx + d) h.good.2
  have P : (msI e.nets tx (netOf e.nets tx + d)).Perm (insS r.nets tx d) := perm_of_get kn (rise_keys hri) fun c => by
    rw [ins_get r.nets c h.rise, ← h.mg c, ← h.net tx]
    exact mget_set (q := .i64) (v := kI)
  have hkeys : ∀ p ∈ insS r.nets tx d, 1 ≤ p.1 ∧ p.1 ≤ 2147483647 := fun p hp => by
    rcases ins_mem r.nets p hp with he | hp
    · omega
    · exact h.keys p hp
  have kz : ∀ p ∈ msI e.nets tx (netOf e.nets tx + d), p.1 ≠ 0 := fun p hp => by have := hkeys p (P.mem_iff.1 hp); omega
  have hu : upB (netOf e.nets tx) d = decide (netOf e.nets tx + d > 0) := by unfold upB; rw [if_pos hn]
  unfold inF at i1 i2
  rw [has_iff, part_low, hu] at i1
  rw [has_iff, part_high, hu] at i2
  have V : (valsOf (msI e.nets tx (netOf e.nets tx + d))).Perm ((insS r.nets tx d).map (·.2)) := by rw [vals_all kz]; exact P.map _
  have v1 := lowS_perm V
  have v2 := highS_perm V
  rw [low_split (tx := tx) (by omega) kz kn, other_set, net_set] at v1
  rw [high_split (tx := tx) (by omega) kz kn, other_set, net_set] at v2
  refine ⟨⟨h.lo, h.hi, h.st, P, hri, hkeys, fun p hp => ?_, by show (insS r.nets tx d).length ≤ 1000; omega, ?_, ?_, h.b1, h.b2⟩, hle⟩
  · rcases mem_set h.good.2 (P.mem_iff.2 hp) with k | k
    · rw [k.2]; exact hn
    · exact h.nums p (h.nets.mem_iff.1 k)
  · show r.lo ≤ r.base + lowS ((insS r.nets tx d).map (·.2))
    rw [← v1, ← h.lo, ← h.st]
    unfold neg
    by_cases hz : netOf e.nets tx + d > 0
    · simp [hz] at i1; rw [if_neg (by omega)]; omega
    · simp [hz] at i1; split <;> omega
  · show r.base + highS ((insS r.nets tx d).map (·.2)) ≤ r.hi
    rw [← v2, ← h.hi, ← h.st]
    unfold pos
    by_cases hz : netOf e.nets tx + d > 0
    · simp [hz] at i2; rw [if_neg (by omega)]; omega
    · simp [hz] at i2; split <;> omega

theorem del_filter (tx : Int) : ∀ E : List (Int × Int), (keysOf E).Nodup → mdI E tx = E.filter fun p => p.1 != tx
  | [], _ => rfl
  | e :: E, hn => by
    have hn' : e.1 ∉ keysOf E ∧ (keysOf E).Nodup := List.nodup_cons.1 hn
    show mdel (k := kI) (v := kI) (e :: E) tx = _
    rw [mdel_cons, List.filter_cons]
    by_cases h : e.1 = tx
    · rw [if_pos h, if_neg (by simp [h])]
      symm
      rw [List.filter_eq_self]
      intro q hq
      have : q.1 ≠ tx := fun he => hn'.1 (by rw [h, ← he]; exact List.mem_map_of_mem hq)
      simpa using this
    · rw [if_neg h, if_pos (by simpa using h)]
      exact congrArg _ (del_filter tx E hn'.2)
theorem out_vals (l : List (Int × Int)) (tx : Int) : (outN l tx).map (·.2) = otherV l tx := by
  unfold outN otherV
  congr 1
  refine List.filter_congr fun p _ => ?_
  by_cases h : p.1 = tx <;> simp [h]
theorem out_alike {e : Esc} {r : RefE} (h : Alike e r) {tx b : Int} (h1 : r.lo ≤ b + lowS (otherV r.nets tx)) (h2 : b + highS (otherV r.nets tx) ≤ r.hi) :
    Alike ⟨e.lo, e.hi, b, mdI e.nets tx⟩ ⟨r.lo, r.hi, b, outN r.nets tx⟩ := by
  have hsub : ∀ p ∈ outN r.nets tx, p ∈ r.nets := fun p hp => (List.mem_filter.1 hp).1
  refine ⟨h.lo, h.hi, rfl, ?_, ?_, fun p hp => h.keys p (hsub p hp), fun p hp => h.nums p (hsub p hp), ?_, ?_, ?_, h.b1, h.b2⟩
  · show (mdI e.nets tx).Perm (outN r.nets tx)
    rw [del_filter tx _ h.good.2]
    exact h.nets.filter _
  · exact h.rise.filter _
  · have := outN_len r.nets tx
    have := h.len
    show (outN r.nets tx).length ≤ 1000
    omega
  · show r.lo ≤ b + lowS ((outN r.nets tx).map (·.2))
    rw [out_vals]; exact h1
  · show b + highS ((outN r.nets tx).map (·.2)) ≤ r.hi
    rw [out_vals]; exact h2
theorem net_some {e : Esc} {r : RefE} (h : Alike e r) {tx n : Int} (hf : findN r.nets tx = some n) : tx ≠ 0 ∧ netOf r.nets tx = n ∧ netOf e.nets tx = n ∧ (mgI e.nets tx).isSome = true := by
  have h1 := (h.get tx).symm.trans hf
  have h2 := (h.mg tx).symm.trans h1
  refine ⟨fun h0 => ?_, by unfold netOf; rw [h2]; rfl, by unfold netOf; rw [h1]; rfl, by rw [h1]; rfl⟩
  have := h.keys _ (mget_mem (q := .i64) (v := kI) h2)
  dsimp only at this
  omega
theorem Alike.split {e : Esc} {r : RefE} (h : Alike e r) {tx : Int} (ht : tx ≠ 0) : r.lo ≤ r.base + (lowS (otherV r.nets tx) + neg (netOf r.nets tx)) ∧ r.base + (highS (otherV r.nets tx) + pos (netOf r.nets tx)) ≤ r.hi := by
  have hk : ∀ p ∈ r.nets, p.1 ≠ 0 := fun p hp => by have := h.keys p hp; omega
  have hl := h.low
  have hh := h.high
  rw [h.all, low_split ht hk h.good.1] at hl
  rw [h.all, high_split ht hk h.good.1] at hh
  exact ⟨hl, hh⟩
theorem Alike.base {e : Esc} {r : RefE} (h : Alike e r) : Num r.base := by
  have h1 := h.low
  have h2 := h.high
  have h3 := h.b1
  have h4 := h.b2
  have h6 := lowS_neg r.vals
  unfold Num at *
  omega
theorem settle_alike {e : Esc} {r : RefE} (h : Alike e r) (tx : Int) :
    (settleF e tx).b = (setR r tx).b ∧ Alike ⟨e.lo, e.hi, (settleF e tx).st, (settleF e tx).nets⟩ ⟨r.lo, r.hi, (setR r tx).st, (setR r tx).nets⟩ ∧ (setR r tx).nets.length ≤ r.nets.length := by
  unfold settleF setR
  cases hf : findN r.nets tx with
  | none =>
    have h1 := (h.get tx).symm.trans hf
    rw [h1]
    simp only [Option.isSome_none, Bool.false_eq_true, if_false]
    exact ⟨trivial, h, Nat.le_refl _⟩
  | some n =>
    obtain ⟨ht, n1, n2, n3⟩ := net_some h hf
    obtain ⟨s1, s2⟩ := h.split ht
    have h3 := h.b1
    have h4 := h.b2
    have l1 := lowS_neg (otherV r.nets tx)
    rw [n1] at s1 s2
    have nb : neg n ≤ n ∧ n ≤ pos n ∧ neg n ≤ 0 ∧ 0 ≤ pos n := by unfold neg pos; split <;> omega
    have hw : IntKind.i64.wrap (r.base + n) = r.base + n := by unfold Num at h3 h4; exact wrap64 (by omega) (by omega)
    rw [if_pos n3, n2, h.st]
    dsimp only
    rw [hw]
    exact ⟨rfl, out_alike (tx := tx) (b := r.base + n) h (by omega) (by omega), outN_len _ _⟩
theorem release_alike {e : Esc} {r : RefE} (h : Alike e r) (tx : Int) :
    (mgI e.nets tx).isSome = (relR r tx).b ∧ Alike ⟨e.lo, e.hi, e.st, mdI e.nets tx⟩ ⟨r.lo, r.hi, (relR r tx).st, (relR r tx).nets⟩ ∧ (relR r tx).nets.length ≤ r.nets.length := by
  unfold relR
  cases hf : findN r.nets tx with
  | none =>
    have h1 := (h.get tx).symm.trans hf
    have hd : mdI e.nets tx = e.nets := by
      rw [del_filter tx _ h.good.2, List.filter_eq_self]
      intro q hq
      have := mget_none.1 h1 q hq
      simpa using this
    rw [h1, hd]
    exact ⟨rfl, h, Nat.le_refl _⟩
  | some n =>
    obtain ⟨ht, n1, n2, n3⟩ := net_some h hf
    obtain ⟨s1, s2⟩ := h.split ht
    rw [n1] at s1 s2
    have nb : neg n ≤ 0 ∧ 0 ≤ pos n := by unfold neg pos; split <;> omega
    rw [h.st]
    exact ⟨n3, out_alike (tx := tx) (b := r.base) h (by omega) (by omega), outN_len _ _⟩

/-! ### Pools -/

theorem pset_at {α : Type} : ∀ {P : List (Nat × α)} {n : Nat} {d x : α}, pget P n = some x → pget (pset P n d) n = some d
  | [], _, _, _, h => by cases h
  | (q, y) :: P, n, d, x, h => by
    unfold pget at h
    unfold pset
    cases hb : Nat.beq q n with
    | true => simp [pget, hb]
    | false =>
      rw [hb] at h
      have := pset_at (d := d) (P := P) h
      simpa [pget, hb] using this
theorem pset_ne {α : Type} {n m : Nat} {d : α} (hm : m ≠ n) : ∀ (P : List (Nat × α)), pget (pset P n d) m = pget P m
  | [] => rfl
  | (q, y) :: P => by
    have ih := pset_ne (d := d) hm P
    unfold pset
    cases hb : Nat.beq q n with
    | true =>
      have : Nat.beq q m = false := nbeq_ne (by rw [Nat.eq_of_beq_eq_true hb]; exact Ne.symm hm)
      simp [pget, this]
    | false =>
      simp only [cond_false, pget]
      rw [ih]
theorem pset_id {α : Type} : ∀ {P : List (Nat × α)} {n : Nat} {d : α}, pget P n = some d → pset P n d = P
  | [], _, _, _ => rfl
  | (q, y) :: P, n, d, h => by
    unfold pget at h
    unfold pset
    cases hb : Nat.beq q n with
    | true =>
      rw [hb] at h
      rw [show y = d from Option.some.inj h]; rfl
    | false =>
      rw [hb] at h
      simp only [cond_false]
      rw [pset_id (P := P) h]
theorem pget_left {α : Type} {Q : List (Nat × α)} : ∀ {P : List (Nat × α)} {n : Nat} {d : α}, pget P n = some d → pget (P ++ Q) n = some d
  | [], _, _, h => by cases h
  | (q, y) :: P, n, d, h => by
    unfold pget at h
    simp only [List.cons_append, pget]
    cases hb : Nat.beq q n with
    | true => rw [hb] at h; exact h
    | false => rw [hb] at h; exact pget_left (P := P) h
theorem pget_last {α : Type} {d : α} : ∀ {P : List (Nat × α)} {n : Nat}, pget P n = none → pget (P ++ [(n, d)]) n = some d
  | [], n, _ => by simp [pget]
  | (q, y) :: P, n, h => by
    unfold pget at h
    simp only [List.cons_append, pget]
    cases hb : Nat.beq q n with
    | true => rw [hb] at h; cases h
    | false => rw [hb] at h; exact pget_last (P := P) h
theorem nodup_inj {α β : Type} {f : α → β} : ∀ {l : List α}, (l.map f).Nodup → ∀ a ∈ l, ∀ b ∈ l, f a = f b → a = b
  | [], _, _, h, _, _, _ => nomatch h
  | x :: l, hn, a, ha, b, hb, he => by
    obtain ⟨h1, h2⟩ := List.nodup_cons.1 hn
    rcases List.mem_cons.1 ha with e1 | ma
    · rcases List.mem_cons.1 hb with e2 | mb
      · exact e1.trans e2.symm
      · exact absurd (show f x ∈ l.map f by rw [← e1, he]; exact List.mem_map_of_mem mb) h1
    · rcases List.mem_cons.1 hb with e2 | mb
      · exact absurd (show f x ∈ l.map f by rw [← e2, ← he]; exact List.mem_map_of_mem ma) h1
      · exact nodup_inj h2 a ma b mb he

section
variable {n : Nat} {l : List (Nat × Nat)} {es : EscP} {rs : RefP}
theorem PlOk.mono (h : PlOk n l es rs) : PlOk (n + 1) l es rs :=
  ⟨h.ne, by have := h.len; omega, fun p hp => by obtain ⟨e, r, h1, h2, h3, h4⟩ := h.get p hp; exact ⟨e, r, h1, h2, h3, by omega⟩, h.nd1, h.nd2⟩
theorem PlOk.le (h : PlOk n l es rs) {m : Nat} (hm : n ≤ m) : PlOk m l es rs :=
  ⟨h.ne, by have := h.len; omega, fun p hp => by obtain ⟨e, r, h1, h2, h3, h4⟩ := h.get p hp; exact ⟨e, r, h1, h2, h3, by omega⟩, h.nd1, h.nd2⟩
theorem PlOk.upd (h : PlOk n l es rs) {p : Nat × Nat} (hp : p ∈ l) {e : Esc} {r : RefE} (ha : Alike e r) (hl : r.nets.length ≤ n + 1) : PlOk (n + 1) l (pset es p.1 (toEscP e)) (pset rs p.2 (toRefP r)) := by
  obtain ⟨e0, r0, g1, g2, _⟩ := h.get p hp
  refine ⟨h.ne, by have := h.len; omega, fun q hq => ?_, h.nd1, h.nd2⟩
  by_cases hqp : q = p
  · subst hqp
    exact ⟨e, r, pset_at g1, pset_at g2, ha, hl⟩
  · obtain ⟨e1, r1, k1, k2, k3, k4⟩ := h.get q hq
    have d1 : q.1 ≠ p.1 := fun he => hqp (nodup_inj h.nd1 q hq p hp he)
    have d2 : q.2 ≠ p.2 := fun he => hqp (nodup_inj h.nd2 q hq p hp he)
    exact ⟨e1, r1, (pset_ne d1 es).trans k1, (pset_ne d2 rs).trans k2, k3, by omega⟩
theorem PlOk.add (h : PlOk n l es rs) {a b : Nat} (h1 : pget es a = none) (h2 : pget rs b = none) {e : Esc} {r : RefE} (ha : Alike e r) (hl : r.nets.length ≤ n + 1) : PlOk (n + 1) (l ++ [(a, b)]) (es ++ [(a, toEscP e)]) (rs ++ [(b, toRefP r)]) := by
  refine ⟨by simp, by have := h.len; simp; omega, fun q hq => ?_, ?_, ?_⟩
  · rcases List.mem_append.1 hq with hq | hq
    · obtain ⟨e1, r1, k1, k2, k3, k4⟩ := h.get q hq
      exact ⟨e1, r1, pget_left k1, pget_left k2, k3, by omega⟩
    · rw [List.mem_singleton] at hq
      subst hq
      exact ⟨e, r, pget_last h1, pget_last h2, ha, hl⟩
  · rw [List.map_append]
    refine List.nodup_append.2 ⟨h.nd1, by simp, fun x hx y hy => ?_⟩
    simp only [List.map_cons, List.map_nil, List.mem_singleton] at hy
    subst hy
    obtain ⟨q, hq, rfl⟩ := List.mem_map.1 hx
    obtain ⟨e1, r1, k1, _⟩ := h.get q hq
    exact fun he => by rw [he, h1] at k1; cases k1
  · rw [List.map_append]
    refine List.nodup_append.2 ⟨h.nd2, by simp, fun x hx y hy => ?_⟩
    simp only [List.map_cons, List.map_nil, List.mem_singleton] at hy
    subst hy
    obtain ⟨q, hq, rfl⟩ := List.mem_map.1 hx
    obtain ⟨e1, r1, _, k2, _⟩ := h.get q hq
    exact fun he => by rw [he, h2] at k2; cases k2
theorem PlOk.short (h : PlOk n l es rs) {p : Nat × Nat} (hp : p ∈ l) {r : RefE} (g2 : pget rs p.2 = some (toRefP r)) : r.nets.length ≤ n := by
  obtain ⟨e1, r1, _, k2, _, k4⟩ := h.get p hp
  rw [g2] at k2
  have : r.nets = r1.nets := congrArg (fun d : HTden hRefP => d.1.2.2.2.1) (Option.some.inj k2)
  rw [this]; exact k4
end
theorem add_both {e : Esc} {r : RefE} (h : Alike e r) {tx d : Int} (hd : Num d) (hl : r.nets.length ≤ 999) :
    (addF e tx d).e = (addR r tx d).e ∧ Alike ⟨e.lo, e.hi, e.st, (addF e tx d).nets⟩ ⟨r.lo, r.hi, r.base, (addR r tx d).nets⟩ ∧ (addR r tx d).nets.length ≤ r.nets.length + 1 := by
  have hm := may_alike h (tx := tx) hd
  unfold addF addR
  rw [← hm]
  by_cases h0 : mayF e tx d = 0
  · rw [if_neg (fun hh => hh h0), if_neg (fun hh => hh h0)]
    obtain ⟨k1, k2⟩ := add_alike h hd hl h0
    exact ⟨rfl, k1, k2⟩
  · rw [if_pos h0, if_pos h0]
    exact ⟨rfl, h, Nat.le_succ _⟩
end Go.Proofs.Ytljimnhijpcjaaa.VC
