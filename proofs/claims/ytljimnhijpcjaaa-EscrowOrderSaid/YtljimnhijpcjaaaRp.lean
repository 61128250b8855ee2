/- When a delta is refused: plain facts. Conditions: as each theorem states them. -/
import Derived.Test.YtljimnhijpcjaaaRe
set_option linter.unusedVariables false
set_option linter.unusedSimpArgs false
namespace Go.Proofs.Ytljimnhijpcjaaa.VC
open Go
theorem mine_snoc (l : List (Int × Int)) (p : Int × Int) (t : Int) : mineTo (l ++ [p]) t = if p.1 = t then p.2 else mineTo l t := by
  unfold mineTo
  rw [List.filter_append, List.foldl_append]
  by_cases h : p.1 = t <;> simp [h]
theorem others_snoc (l : List (Int × Int)) (p : Int × Int) (t : Int) : othersTo (l ++ [p]) t = if p.1 = t then othersTo l t else othersTo l t ++ [p] := by
  unfold othersTo
  rw [List.filter_append]
  by_cases h : p.1 = t <;> simp [h]
theorem mine_net (t : Int) : ∀ l : List (Int × Int), (keysOf l).Nodup → mineTo l t = netOf l t
  | [], _ => rfl
  | p :: l, hn => by
    obtain ⟨h1, h2⟩ : p.1 ∉ keysOf l ∧ (keysOf l).Nodup := List.nodup_cons.1 hn
    rw [netOf_cons]
    by_cases h : p.1 = t
    · rw [if_pos h]
      unfold mineTo
      have : (l.filter fun q => decide (q.1 = t)) = [] := by
        rw [List.filter_eq_nil_iff]
        intro q hq
        simp only [decide_eq_true_eq]
        intro e
        exact h1 (by rw [h, ← e]; exact List.mem_map_of_mem hq)
      simp [h, this]
    · rw [if_neg h, ← mine_net t l h2]
      unfold mineTo
      simp [h]
theorem nets_nodup {e : Esc} (h : e.Good) : (keysOf (netsTo e.nets 8)).Nodup := ((nets_perm h).map _).nodup_iff.2 h.nodup
theorem mine_all {e : Esc} (h : e.Good) (t : Int) : mineTo (netsTo e.nets 8) t = netOf e.nets t := by
  rw [mine_net t _ (nets_nodup h)]
  unfold netOf
  rw [show mgI (netsTo e.nets 8) t = mgI e.nets t from mget_perm (q := .i64) (v := kI) (nets_perm h) (nets_nodup h) t]
theorem others_all {e : Esc} (h : e.Good) (t : Int) : ((othersTo (netsTo e.nets 8) t).map (·.2)).Perm (otherV e.nets t) := ((nets_perm h).filter _).map _
theorem badAny_succ (e : Esc) (l : List (Int × Int)) (d : Int) (n : Nat) : badAny e l d (n + 1) = (badAny e l d n || badB e l d n) := by
  unfold badAny; rw [List.range_succ, List.any_append]; simp
/-- Some outcome is outside just if the least or the greatest is. -/
theorem bad_iff {e : Esc} (h : e.Good) {t d : Int} (ht : t ≠ 0) :
    badAny e (othersTo (netsTo e.nets 8) t) d (2 ^ (othersTo (netsTo e.nets 8) t).length) = true ↔ (e.st + lowS (otherV e.nets t) + d < e.lo ∨ e.st + highS (otherV e.nets t) + d > e.hi) := by
  have hp := others_all h t
  have e1 := lowS_perm hp
  have e2 := highS_perm hp
  have s1 := low_split ht (good_keys h) h.nodup
  have s2 := high_split ht (good_keys h) h.nodup
  have n1 : neg (netOf e.nets t) ≤ 0 := by unfold neg; split <;> omega
  have n2 : 0 ≤ pos (netOf e.nets t) := by unfold pos; split <;> omega
  have gl := h.lo
  have gh := h.hi
  generalize othersTo (netsTo e.nets 8) t = l at *
  have hc : ((2 ^ l.length : Nat) : Int) = 2 ^ l.length := by simp
  have oi : ∀ s : Int, e.st + lowS (otherV e.nets t) ≤ outV e.st l s ∧ outV e.st l s ≤ e.st + highS (otherV e.nets t) := fun s => by
    have := outV_in e.st l s
    rw [e1, e2] at this
    exact this
  unfold badAny
  rw [List.any_eq_true]
  constructor
  · rintro ⟨k, _, hb⟩
    unfold badB outB at hb
    simp only [Bool.or_eq_true, decide_eq_true_eq] at hb
    have := oi (k : Int)
    omega
  · rintro (hb | hb)
    · obtain ⟨s, h1, h2, h3⟩ := ex_low e.st l
      refine ⟨s.toNat, List.mem_range.2 (by omega), ?_⟩
      have : ((s.toNat : Nat) : Int) = s := by omega
      unfold badB outB
      rw [this, h3, e1]
      simp only [Bool.or_eq_true, decide_eq_true_eq]
      omega
    · obtain ⟨s, h1, h2, h3⟩ := ex_high e.st l
      refine ⟨s.toNat, List.mem_range.2 (by omega), ?_⟩
      have : ((s.toNat : Nat) : Int) = s := by omega
      unfold badB outB
      rw [this, h3, e2]
      simp only [Bool.or_eq_true, decide_eq_true_eq]
      omega
theorem up_sign {n d : Int} (hn : Num n) (hd : Num d) : upB n d = decide (n + d > 0) := by
  unfold upB
  by_cases h : Num (n + d)
  · rw [if_pos h]
  · rw [if_neg h]
    unfold Num at *
    congr 1
    apply propext
    omega
/-- What May answers to a holder from 1 to 8. -/
theorem may_says {e : Esc} (h : e.Good) {t d : Int} (h1 : 1 ≤ t) (h8 : t ≤ 8) (hd : Num d) :
    mayF e t d = if e.st + lowS (otherV e.nets t) + (netOf e.nets t + d) < e.lo ∨ e.st + highS (otherV e.nets t) + (netOf e.nets t + d) > e.hi then 110 else (ans (netOf e.nets t + d)).2 := by
  have s1 := low_split (tx := t) (by omega) (good_keys h) h.nodup
  have s2 := high_split (tx := t) (by omega) (good_keys h) h.nodup
  have hn : Num (netOf e.nets t) := by
    unfold netOf
    cases hm : mgI e.nets t with
    | none => show Num 0; unfold Num; omega
    | some v => exact h.nums _ (mget_mem (q := .i64) (v := kI) hm)
  have n1 : neg (netOf e.nets t) ≤ 0 := by unfold neg; split <;> omega
  have n2 : 0 ≤ pos (netOf e.nets t) := by unfold pos; split <;> omega
  have g0 := good_st h
  have gl := h.lo
  have gh := h.hi
  unfold mayF
  rw [if_neg (by omega), up_sign hn hd]
  unfold inF
  have i1 := @has_iff e.lo e.hi (e.st + partS (-1) (otherV e.nets t) + (if decide (netOf e.nets t + d > 0) = true then 0 else netOf e.nets t + d))
  have i2 := @has_iff e.lo e.hi (e.st + partS 1 (otherV e.nets t) + (if decide (netOf e.nets t + d > 0) = true then netOf e.nets t + d else 0))
  rw [part_low] at i1 ⊢
  rw [part_high] at i2 ⊢
  have lh : lowS (otherV e.nets t) ≤ 0 ∧ 0 ≤ highS (otherV e.nets t) := by
    have hv : ∀ x ∈ otherV e.nets t, InR .i64 x := fun x hx => by
      unfold otherV at hx
      obtain ⟨p, hp, rfl⟩ := List.mem_map.1 hx
      exact h.nums p (List.mem_filter.1 hp).1
    exact ⟨(low_bound _ hv).2, (high_bound _ hv).1⟩
  generalize netOf e.nets t + d = D at *
  by_cases hz : D > 0
  · simp only [hz, decide_true, if_true] at i1 i2 ⊢
    rw [if_neg (by rw [i1.2 (by omega)]; decide)]
    by_cases hb : e.st + highS (otherV e.nets t) + D > e.hi
    · cases hh : hasB (e.lo, e.hi) (e.st + highS (otherV e.nets t) + D) with
      | false => rw [if_pos rfl, if_pos (.inr hb)]
      | true => have := i2.1 hh; omega
    · rw [if_neg (by rw [i2.2 (by omega)]; decide), if_neg (by omega)]
  · simp only [hz, decide_false, if_false, Bool.false_eq_true] at i1 i2 ⊢
    by_cases hb : e.st + lowS (otherV e.nets t) + D < e.lo
    · cases hh : hasB (e.lo, e.hi) (e.st + lowS (otherV e.nets t) + D) with
      | false => rw [if_pos rfl, if_pos (.inl hb)]
      | true => have := i1.1 hh; omega
    · rw [if_neg (by rw [i1.2 (by omega)]; decide), if_neg (by rw [i2.2 (by omega)]; decide), if_neg (by omega)]
end Go.Proofs.Ytljimnhijpcjaaa.VC
