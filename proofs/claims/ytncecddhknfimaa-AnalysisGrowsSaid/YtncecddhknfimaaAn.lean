/- What the records come to: plain facts. Conditions: as each theorem states them. -/
import Derived.Test.YtncecddhknfimaaAp
set_option linter.unusedVariables false
set_option linter.unusedSimpArgs false
namespace Go.Proofs.Ytncecddhknfimaa.VC
open Go
theorem goF_app : ∀ (t : Tab) (s : List Int) (a b : List Rc), goF t s (a ++ b) = (goF t s a).bind fun x => goF x.1 x.2 b
  | t, s, [], b => rfl
  | t, s, r :: a, b => by
    show (if (noteR t r).e ≠ 0 then none else goF (noteR t r).t (chgS s r) (a ++ b)) = (if (noteR t r).e ≠ 0 then none else goF (noteR t r).t (chgS s r) a).bind _
    by_cases h : (noteR t r).e ≠ 0
    · rw [if_pos h, if_pos h]; rfl
    · rw [if_neg h, if_neg h]; exact goF_app _ _ a b
theorem goF_snoc {t t' : Tab} {s s' : List Int} {l : List Rc} {r : Rc} (h : goF t s l = some (t', s')) : goF t s (l ++ [r]) = if (noteR t' r).e ≠ 0 then none else some ((noteR t' r).t, chgS s' r) := by
  rw [goF_app, h]; rfl
theorem goF_stop {t t' : Tab} {s s' : List Int} {l : List Rc} {i : Nat} (hi : i < l.length) (h : goF t s (l.take i) = some (t', s')) (he : (noteR t' (l.getD i noR)).e ≠ 0) : goF t s l = none := by
  have e : l = l.take i ++ (l.getD i noR :: l.drop (i + 1)) := by rw [← drop_at hi noR, List.take_append_drop]
  rw [e, goF_app, h]
  show (if (noteR t' (l.getD i noR)).e ≠ 0 then none else _) = none
  rw [if_pos he]
theorem putS_len (s : List Int) (p v : Int) : (putS s p v).length = s.length := by unfold putS; split <;> simp
theorem chgS_len (s : List Int) (r : Rc) : (chgS s r).length = s.length := by unfold chgS; split <;> simp [putS_len]
theorem setsS_len : ∀ (d : List (Int × Int)) (s : List Int), (setsS s d).length = s.length
  | [], s => rfl
  | x :: d, s => by show (setsS (s.set x.1.toNat x.2) d).length = _; rw [setsS_len d]; simp
theorem setsS_snoc (s : List Int) (d : List (Int × Int)) (x : Int × Int) : setsS s (d ++ [x]) = (setsS s d).set x.1.toNat x.2 := by unfold setsS; rw [List.foldl_append]; rfl
theorem dirt_succ (s : List Int) (n : Nat) : dirt s (n + 1) = dirt s n ++ (if s.getD n 0 = 0 then [] else [((n : Int), s.getD n 0)]) := by
  unfold dirt
  rw [List.range_succ, List.filterMap_append]
  congr 1
  simp only [List.filterMap_cons, List.filterMap_nil]
  split <;> rename_i h <;> split at h <;> simp_all
theorem fromOf_snoc (l : List (Int × Int)) (x : Int × Int) : fromOf (l ++ [x]) = if fromOf l = 0 ∨ x.2 < fromOf l then x.2 else fromOf l := by unfold fromOf; rw [List.foldl_append]; rfl
theorem dirt_len (s : List Int) : ∀ n, (dirt s n).length ≤ n
  | 0 => Nat.le_refl _
  | n + 1 => by
    have := dirt_len s n
    rw [dirt_succ, List.length_append]
    split <;> simp <;> omega
theorem ms_len (E : List (Int × Lv)) (c : Int) (x : Lv) : (msL E c x).length ≤ E.length + 1 ∧ ((mgL E c).isSome = true → (msL E c x).length = E.length) :=
  ⟨mset_len (q := .i64) (v := kL), fun h => mset_len_some (q := .i64) (v := kL) h⟩
theorem md_len (E : List (Int × Lv)) (c : Int) : (mdL E c).length ≤ E.length := by
  have e : keysOf (mdL E c) = (keysOf E).erase c := mdel_keys (q := .i64) (v := kL)
  have h := congrArg List.length e
  rw [keysOf_len] at h
  have := (List.erase_sublist (a := c) (l := keysOf E)).length_le
  rw [keysOf_len] at this
  omega
theorem begin_ok {t : Tab} (h : t.ok) (lsn : Int) : (t.begin lsn).t.ok := by
  obtain ⟨h1, h2, h3⟩ := h
  unfold Tab.begin
  by_cases a : within lsn 1 top = false
  · rw [if_pos a]; exact ⟨h1, h2, h3⟩
  · rw [if_neg a]
    by_cases b : 32 ≤ t.live.length ∨ top < t.next
    · rw [if_pos b]; exact ⟨h1, h2, h3⟩
    · rw [if_neg b]
      have := (ms_len t.live t.next (t.next, lsn, false, false)).1
      exact ⟨by show (msL ..).length ≤ 32; omega, by show 1 ≤ t.next + 1; omega, by show t.next + 1 ≤ top + 1; omega⟩
theorem note_ok {t : Tab} (h : t.ok) (lsn kind tx prev : Int) : (t.note lsn kind tx prev).t.ok := by
  unfold Tab.note
  by_cases a : within lsn 1 top = false
  · rw [if_pos a]; exact h
  · rw [if_neg a]
    by_cases b : kind = 2 ∨ kind = 8
    · rw [if_pos b]; exact h
    · rw [if_neg b]
      by_cases c : kind = 1
      · rw [if_pos c]
        by_cases d : tx ≠ t.next
        · rw [if_pos d]; exact h
        · rw [if_neg d]; exact begin_ok h lsn
      · rw [if_neg c]
        by_cases d : ¬ (3 ≤ kind ∧ kind ≤ 7)
        · rw [if_pos d]; exact h
        · rw [if_neg d]
          cases hm : mgL t.live tx with
          | none => exact h
          | some x =>
            show (t.goes x lsn kind tx prev).t.ok
            unfold Tab.goes
            by_cases e : prev ≠ x.2.1 ∨ lsn ≤ x.2.1
            · rw [if_pos e]; exact h
            · rw [if_neg e]
              by_cases f : may kind x = false
              · rw [if_pos f]; exact h
              · rw [if_neg f]
                obtain ⟨h1, h2, h3⟩ := h
                have q := (ms_len t.live tx (upto (thn kind x) lsn)).2 (by rw [hm]; rfl)
                have q2 := md_len (msL t.live tx (upto (thn kind x) lsn)) tx
                refine ⟨?_, h2, h3⟩
                show (if kind = 7 then mdL (msL t.live tx (upto (thn kind x) lsn)) tx else msL t.live tx (upto (thn kind x) lsn)).length ≤ 32
                split <;> omega
theorem right_at : ∀ {l : List Rc} {n : Int} {i : Nat}, rightF n l = 0 → i < l.length → (l.getD i noR).1 = n + i + 1 ∧ checkR (l.getD i noR) = 0
  | [], _, _, _, h => absurd h (Nat.not_lt_zero _)
  | r :: l, n, i, h, hi => by
    have h : (if r.1 ≠ n + 1 then (60 : Int) else if checkR r ≠ 0 then checkR r else rightF (n + 1) l) = 0 := h
    by_cases a : r.1 ≠ n + 1
    · rw [if_pos a] at h; simp at h
    · rw [if_neg a] at h
      by_cases b : checkR r ≠ 0
      · rw [if_pos b] at h; exact absurd h b
      · rw [if_neg b] at h
        cases i with
        | zero => exact ⟨by show r.1 = n + 0 + 1; omega, by show checkR r = 0; omega⟩
        | succ i =>
          have := right_at h (Nat.lt_of_succ_lt_succ hi)
          refine ⟨?_, this.2⟩
          show (l.getD i noR).1 = n + ((i + 1 : Nat) : Int) + 1
          rw [this.1]; omega
theorem check_ok {r : Rc} (h : checkR r = 0) : 1 ≤ r.2.1 ∧ r.2.1 ≤ 8 ∧ okR r = true := by
  unfold checkR at h
  by_cases a : r.2.1 < 1 ∨ 8 < r.2.1
  · rw [if_pos a] at h; simp at h
  · rw [if_neg a] at h
    cases b : okR r
    · rw [b] at h; simp at h
    · exact ⟨by omega, by omega, rfl⟩
theorem check_slots {r : Rc} (h : checkR r = 0) (hc : chg r) : slotsB r.2.2.2.2.1 r.2.2.2.2.2.1 = true := by
  obtain ⟨h1, h2, h3⟩ := check_ok h
  obtain ⟨lsn, kind, tx, prev, w, s, d, c, p⟩ := r
  unfold chg at hc
  unfold okR at h3
  dsimp only at *
  rcases hc with rfl | rfl | rfl <;> simp at h3 <;> exact h3.2.1.1.1.1.1
theorem slots_in {w s : Int × Int} (h : slotsB w s = true) : 0 ≤ w.1 ∧ w.1 < 64 ∧ 0 ≤ s.1 ∧ s.1 < 64 ∧ w.1 ≠ s.1 := by
  unfold slotsB within at h
  simp at h
  omega
theorem check_points {r : Rc} (h : checkR r = 0) (hc : r.2.1 = 8) : pointsB (ptsR r) r.1 = true := by
  obtain ⟨h1, h2, h3⟩ := check_ok h
  obtain ⟨lsn, kind, tx, prev, w, s, d, c, p⟩ := r
  unfold okR at h3
  dsimp only at *
  subst hc
  simp at h3
  exact h3.2.1
theorem live_good {next lsn : Int} : ∀ {l : List Lv} {a : Int}, liveB next lsn a l = true → goodL next a l
  | [], _, _ => trivial
  | x :: l, a, h => by
    have h : (decide (a < x.1) && decide (x.1 < next) && within x.2.1 1 top && belowB x.2.1 lsn && !(x.2.2.1 && x.2.2.2) && liveB next lsn x.1 l) = true := h
    simp only [Bool.and_eq_true, decide_eq_true_eq, within, Bool.not_eq_true'] at h
    obtain ⟨⟨⟨⟨⟨h1, h2⟩, h3, h4⟩, _⟩, h5⟩, h6⟩ := h
    exact ⟨h1, h2, h3, h4, fun ⟨u, v⟩ => by rw [u, v] at h5; simp at h5, live_good h6⟩
theorem points_load {p : Pt} {lsn : Int} (h : pointsB p lsn = true) : LoadOk p := by
  unfold pointsB at h
  simp only [Bool.and_eq_true, decide_eq_true_eq] at h
  exact ⟨h.1.1.1.1, h.1.1.1.2, live_good h.1.2⟩
theorem dirty_in {lsn : Int} : ∀ {l : List (Int × Int)} {a : Int}, -1 ≤ a → dirtyB lsn a l = true → ∀ x ∈ l, 0 ≤ x.1 ∧ x.1 < 64 ∧ 1 ≤ x.2
  | [], _, _, _, x, hx => by cases hx
  | y :: l, a, ha, h, x, hx => by
    have h : (decide (a < y.1) && decide (y.1 < 64) && within y.2 1 top && belowB y.2 lsn && dirtyB lsn y.1 l) = true := h
    simp only [Bool.and_eq_true, decide_eq_true_eq, within] at h
    rcases List.mem_cons.1 hx with rfl | hx
    · exact ⟨by omega, h.1.1.1.2, h.1.1.2.1⟩
    · exact dirty_in (by omega) h.2 x hx
end Go.Proofs.Ytncecddhknfimaa.VC
