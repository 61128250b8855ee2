/- Logs that are grown: what is found of them. Plain facts. Conditions: as each theorem states them. -/
import Derived.Test.YtncecddhknfimaaLp
set_option linter.unusedVariables false
set_option linter.unusedSimpArgs false
namespace Go.Proofs.Ytncecddhknfimaa.VC
open Go
theorem ents_len (l : List Lv) : (ents l).length = l.length := by unfold ents; rw [List.length_map]
theorem ms_ents : ∀ {l : List Lv} {i : Nat} {y : Lv}, Up l → i < l.length → y.1 = (l.getD i noLv).1 → msL (ents l) y.1 y = ents (l.set i y)
  | [], _, _, _, h, _ => absurd h (Nat.not_lt_zero _)
  | x :: l, 0, y, hu, _, e => by
    have e : y.1 = x.1 := e
    show mset (k := kI) (v := kL) ((x.1, x) :: ents l) y.1 y = (y.1, y) :: ents l
    rw [mset_cons, if_pos e.symm, e]
  | x :: l, i + 1, y, hu, hi, e => by
    have hi : i < l.length := Nat.lt_of_succ_lt_succ hi
    have e : y.1 = (l.getD i noLv).1 := e
    have hu' := List.pairwise_cons.1 hu
    have hlt : x.1 < y.1 := by
      rw [e]
      exact hu'.1 _ (by rw [List.getD_eq_getElem?_getD, List.getElem?_eq_getElem hi]; exact List.getElem_mem hi)
    show mset (k := kI) (v := kL) ((x.1, x) :: ents l) y.1 y = (x.1, x) :: ents (l.set i y)
    rw [mset_cons, if_neg (by show ¬ x.1 = y.1; omega)]
    congr 1
    exact ms_ents hu'.2 hi e
theorem md_ents : ∀ {l : List Lv} {i : Nat}, Up l → i < l.length → mdL (ents l) (l.getD i noLv).1 = ents (l.eraseIdx i)
  | [], _, _, h => absurd h (Nat.not_lt_zero _)
  | x :: l, 0, hu, _ => by
    show mdel (k := kI) (v := kL) ((x.1, x) :: ents l) x.1 = ents l
    rw [mdel_cons, if_pos rfl]
  | x :: l, i + 1, hu, hi => by
    have hi : i < l.length := Nat.lt_of_succ_lt_succ hi
    have hu' := List.pairwise_cons.1 hu
    have hlt : x.1 < (l.getD i noLv).1 := hu'.1 _ (by rw [List.getD_eq_getElem?_getD, List.getElem?_eq_getElem hi]; exact List.getElem_mem hi)
    show mdel (k := kI) (v := kL) ((x.1, x) :: ents l) (l.getD i noLv).1 = (x.1, x) :: ents (l.eraseIdx i)
    rw [mdel_cons, if_neg (by show ¬ x.1 = _; omega)]
    congr 1
    exact md_ents hu'.2 hi
theorem get_mem {α : Type} {l : List α} {i : Nat} (h : i < l.length) (d : α) : l.getD i d ∈ l := by rw [List.getD_eq_getElem?_getD, List.getElem?_eq_getElem h]; exact List.getElem_mem h
theorem up_set : ∀ {l : List Lv} {i : Nat} {y : Lv}, Up l → i < l.length → y.1 = (l.getD i noLv).1 → Up (l.set i y)
  | [], _, _, _, h, _ => absurd h (Nat.not_lt_zero _)
  | x :: l, 0, y, hu, _, e => by
    have hu' := List.pairwise_cons.1 hu
    exact List.pairwise_cons.2 ⟨fun z hz => by rw [show y.1 = x.1 from e]; exact hu'.1 z hz, hu'.2⟩
  | x :: l, i + 1, y, hu, hi, e => by
    have hi : i < l.length := Nat.lt_of_succ_lt_succ hi
    have e : y.1 = (l.getD i noLv).1 := e
    have hu' := List.pairwise_cons.1 hu
    refine List.pairwise_cons.2 ⟨fun z hz => ?_, up_set hu'.2 hi e⟩
    rcases List.mem_or_eq_of_mem_set hz with hz | rfl
    · exact hu'.1 z hz
    · rw [e]; exact hu'.1 _ (get_mem hi _)
/-- What is found of a log that goes on so. -/
structure Grown (l : List Rc) (n : Int) (L : List Lv) (s : List Int) : Prop where
  run : goF ⟨1, []⟩ (zeros 64) l = some (⟨n, ents L⟩, s)
  rt : rightF 0 l = 0
  up : Up L
  len : L.length ≤ 32
  nlo : 1 ≤ n
  nhi : n ≤ (l.length : Int) + 1
  lvs : ∀ x ∈ L, 1 ≤ x.1 ∧ x.1 < n ∧ 1 ≤ x.2.1 ∧ x.2.1 ≤ l.length ∧ ¬ (x.2.2.1 = true ∧ x.2.2.2 = true)
  nx : n = (cntK 1 l : Int) + 1
  ln : (L.length : Int) + cntK 7 l = cntK 1 l
  slen : s.length = 64
  sv : ∀ k, k < 64 → 0 ≤ s.getD k 0 ∧ s.getD k 0 ≤ l.length
  txs : ∀ r ∈ l, r.2.2.1 < n
  lst : ∀ r ∈ l, ∀ x ∈ L, (r.2.1 = 7 → r.2.2.1 ≠ x.1) ∧ (r.2.2.1 = x.1 → r.1 ≤ x.2.1)
theorem cntK_snoc (k : Int) (l : List Rc) (r : Rc) : cntK k (l ++ [r]) = cntK k l + if r.2.1 = k then 1 else 0 := by
  unfold cntK
  rw [List.filter_append, List.length_append]
  by_cases h : r.2.1 = k <;> simp [h]
theorem right_snoc : ∀ (l : List Rc) (n : Int) (r : Rc), rightF n l = 0 → rightF n (l ++ [r]) = if r.1 ≠ n + l.length + 1 then 60 else checkR r
  | [], n, r, _ => by
    show (if r.1 ≠ n + 1 then (60 : Int) else if checkR r ≠ 0 then checkR r else rightF (n + 1) []) = _
    rw [show n + (([] : List Rc).length : Int) + 1 = n + 1 by simp]
    split
    · rfl
    · split
      · rfl
      · rename_i h; show (0 : Int) = _; exact (Classical.not_not.1 h).symm
  | x :: l, n, r, h => by
    have h : (if x.1 ≠ n + 1 then (60 : Int) else if checkR x ≠ 0 then checkR x else rightF (n + 1) l) = 0 := h
    show (if x.1 ≠ n + 1 then (60 : Int) else if checkR x ≠ 0 then checkR x else rightF (n + 1) (l ++ [r])) = _
    by_cases a : x.1 ≠ n + 1
    · rw [if_pos a] at h; simp at h
    · rw [if_neg a] at h ⊢
      by_cases b : checkR x ≠ 0
      · rw [if_pos b] at h; exact absurd h b
      · rw [if_neg b] at h ⊢
        rw [right_snoc l (n + 1) r h]
        have : n + 1 + (l.length : Int) + 1 = n + ((x :: l).length : Int) + 1 := by simp only [List.length_cons]; omega
        rw [this]
/-- One more record: what must be shown of it. -/
theorem Grown.snoc {l : List Rc} {n : Int} {L : List Lv} {s : List Int} (h : Grown l n L s) {r : Rc} {n' : Int} {L' : List Lv} (hr : r.1 = (l.length : Int) + 1) (hc : checkR r = 0) (hn : noteR ⟨n, ents L⟩ r = ⟨0, ⟨n', ents L'⟩⟩)
    (up : Up L') (len : L'.length ≤ 32) (hnn : n ≤ n' ∧ n' ≤ n + 1) (lvs : ∀ x ∈ L', 1 ≤ x.1 ∧ x.1 < n' ∧ 1 ≤ x.2.1 ∧ x.2.1 ≤ (l.length : Int) + 1 ∧ ¬ (x.2.2.1 = true ∧ x.2.2.2 = true))
    (nx : n' = n + if r.2.1 = 1 then 1 else 0) (ln : (L'.length : Int) + (if r.2.1 = 7 then 1 else 0) = L.length + if r.2.1 = 1 then 1 else 0) (tx : r.2.2.1 < n')
    (old : ∀ q ∈ l, ∀ x ∈ L', (q.2.1 = 7 → q.2.2.1 ≠ x.1) ∧ (q.2.2.1 = x.1 → q.1 ≤ x.2.1)) (new : ∀ x ∈ L', (r.2.1 = 7 → r.2.2.1 ≠ x.1) ∧ (r.2.2.1 = x.1 → r.1 ≤ x.2.1)) :
    Grown (l ++ [r]) n' L' (chgS s r) := by
  have hlen : ((l ++ [r]).length : Int) = (l.length : Int) + 1 := by simp
  refine ⟨?_, ?_, up, len, by have := h.nlo; omega, by have := h.nhi; omega, fun x hx => by rw [hlen]; exact lvs x hx, ?_, ?_, by rw [chgS_len]; exact h.slen, fun k hk => ?_, fun q hq => ?_, fun q hq x hx => ?_⟩
  · rw [goF_snoc h.run, hn]; rfl
  · rw [right_snoc l 0 r h.rt, if_neg (by omega)]; exact hc
  · rw [cntK_snoc, nx, h.nx]; split <;> simp <;> omega
  · rw [cntK_snoc, cntK_snoc]
    have := h.ln
    split at ln <;> split at ln <;> simp_all <;> omega
  · rw [hlen]
    have hput : ∀ (s : List Int) (p : Int), (∀ k, k < 64 → 0 ≤ s.getD k 0 ∧ s.getD k 0 ≤ (l.length : Int) + 1) → ∀ k, k < 64 → 0 ≤ (putS s p r.1).getD k 0 ∧ (putS s p r.1).getD k 0 ≤ (l.length : Int) + 1 := fun s p hs k hk => by
      unfold putS
      split
      · rw [List.getD_eq_getElem?_getD, List.getElem?_set]
        split
        · split
          · simp; omega
          · simp; omega
        · rw [← List.getD_eq_getElem?_getD]; exact hs k hk
      · exact hs k hk
    have h0 : ∀ k, k < 64 → 0 ≤ s.getD k 0 ∧ s.getD k 0 ≤ (l.length : Int) + 1 := fun k hk => by have := h.sv k hk; omega
    unfold chgS
    split
    · exact hput _ _ (hput _ _ h0) k hk
    · exact h0 k hk
  · rcases List.mem_append.1 hq with hq | hq
    · have := h.txs q hq; omega
    · rw [List.mem_singleton.1 hq]; exact tx
  · rcases List.mem_append.1 hq with hq | hq
    · exact old q hq x hx
    · rw [List.mem_singleton.1 hq]; exact new x hx
theorem dirt_mem {s : List Int} : ∀ {n : Nat} {x : Int × Int}, x ∈ dirt s n ↔ ∃ k : Nat, k < n ∧ x = ((k : Int), s.getD k 0) ∧ s.getD k 0 ≠ 0 := by
  intro n x
  unfold dirt
  simp only [List.mem_filterMap, List.mem_range]
  constructor
  · rintro ⟨k, hk, he⟩
    split at he
    · cases he
    · rename_i h; exact ⟨k, hk, (Option.some.inj he).symm, h⟩
  · rintro ⟨k, hk, rfl, h⟩
    exact ⟨k, hk, by rw [if_neg h]⟩
theorem dirt_rise (s : List Int) : ∀ n, (dirt s n).Pairwise (fun a b => a.1 < b.1)
  | 0 => List.Pairwise.nil
  | n + 1 => by
    rw [dirt_succ]
    refine List.pairwise_append.2 ⟨dirt_rise s n, ?_, fun a ha b hb => ?_⟩
    · split <;> simp
    · obtain ⟨k, hk, rfl, _⟩ := dirt_mem.1 ha
      split at hb
      · cases hb
      · rw [List.mem_singleton.1 hb]; show (k : Int) < (n : Int); omega
theorem dropTo_mem {m : Mv} {lsn : Int} {d : List (Int × Int)} : ∀ {i : Nat}, i ≤ d.length → ∀ x ∈ dropTo m lsn d i, ∃ j, j < i ∧ x.1 = (d.getD j (0, 0)).1 ∧ x.2 = min ((d.getD j (0, 0)).2 + rs m.2.1 3) (lsn - 1)
  | 0, _, x, hx => by cases hx
  | i + 1, hi, x, hx => by
    have ih := fun h => dropTo_mem (m := m) (lsn := lsn) (d := d) (i := i) (by omega) x h
    have ih := fun h => let ⟨j, h1, h2⟩ := ih h; (⟨j, Nat.lt_succ_of_lt h1, h2⟩ : ∃ j, j < i + 1 ∧ x.1 = (d.getD j (0, 0)).1 ∧ x.2 = min ((d.getD j (0, 0)).2 + rs m.2.1 3) (lsn - 1))
    rw [dropTo] at hx
    split at hx
    · exact ih hx
    · split at hx
      · rcases List.mem_append.1 hx with hx | hx
        · exact ih hx
        · rw [List.mem_singleton.1 hx]; exact ⟨i, Nat.lt_succ_self i, rfl, rfl⟩
      · exact ih hx
theorem pair_get {α : Type} {R : α → α → Prop} {l : List α} (h : l.Pairwise R) (d : α) {i j : Nat} (hij : i < j) (hj : j < l.length) : R (l.getD i d) (l.getD j d) := by
  rw [List.getD_eq_getElem?_getD, List.getD_eq_getElem?_getD, List.getElem?_eq_getElem hj, List.getElem?_eq_getElem (show i < l.length by omega)]
  exact List.pairwise_iff_getElem.1 h i j (by omega) hj hij
theorem dropTo_rise {m : Mv} {lsn : Int} {d : List (Int × Int)} (hd : d.Pairwise fun a b => a.1 < b.1) : ∀ {i : Nat}, i ≤ d.length → (dropTo m lsn d i).Pairwise fun a b => a.1 < b.1
  | 0, _ => List.Pairwise.nil
  | i + 1, hi => by
    have ih := dropTo_rise (m := m) (lsn := lsn) hd (i := i) (by omega)
    rw [dropTo]
    split
    · exact ih
    · split
      · refine List.pairwise_append.2 ⟨ih, by simp, fun a ha b hb => ?_⟩
        obtain ⟨j, hj, e, _⟩ := dropTo_mem (by omega) a ha
        rw [List.mem_singleton.1 hb, e]
        exact pair_get hd (0, 0) hj hi
      · exact ih
theorem liveB_of {n lsn : Int} : ∀ {L : List Lv} {a : Int}, Up L → (∀ x ∈ L, a < x.1 ∧ x.1 < n ∧ 1 ≤ x.2.1 ∧ x.2.1 < lsn ∧ x.2.1 ≤ top ∧ ¬ (x.2.2.1 = true ∧ x.2.2.2 = true)) → liveB n lsn a L = true
  | [], _, _, _ => rfl
  | x :: L, a, hu, h => by
    have hu' := List.pairwise_cons.1 hu
    obtain ⟨h1, h2, h3, h4, h5, h6⟩ := h x (by simp)
    have ih := liveB_of (n := n) (lsn := lsn) (L := L) (a := x.1) hu'.2 fun y hy => ⟨hu'.1 y hy, (h y (by simp [hy])).2⟩
    show (decide (a < x.1) && decide (x.1 < n) && within x.2.1 1 top && belowB x.2.1 lsn && !(x.2.2.1 && x.2.2.2) && liveB n lsn x.1 L) = true
    rw [ih]
    have h6 : (x.2.2.1 && x.2.2.2) = false := by cases hc : x.2.2.1 <;> cases hv : x.2.2.2 <;> simp_all
    simp only [within, belowB, h6, Bool.and_eq_true, decide_eq_true_eq, Bool.or_eq_true, Bool.not_false, and_true]
    exact ⟨⟨⟨h1, h2⟩, h3, h5⟩, .inr h4⟩
theorem dirtyB_of {lsn : Int} : ∀ {L : List (Int × Int)} {a : Int}, L.Pairwise (fun a b => a.1 < b.1) → (∀ x ∈ L, a < x.1 ∧ x.1 < 64 ∧ 1 ≤ x.2 ∧ x.2 < lsn ∧ x.2 ≤ top) → dirtyB lsn a L = true
  | [], _, _, _ => rfl
  | x :: L, a, hu, h => by
    have hu' := List.pairwise_cons.1 hu
    obtain ⟨h1, h2, h3, h4, h5⟩ := h x (by simp)
    have ih := dirtyB_of (lsn := lsn) (L := L) (a := x.1) hu'.2 fun y hy => ⟨hu'.1 y hy, (h y (by simp [hy])).2⟩
    show (decide (a < x.1) && decide (x.1 < 64) && within x.2 1 top && belowB x.2 lsn && dirtyB lsn x.1 L) = true
    rw [ih]
    simp only [within, belowB, Bool.and_eq_true, decide_eq_true_eq, Bool.or_eq_true, and_true]
    exact ⟨⟨⟨h1, h2⟩, h3, h5⟩, .inr h4⟩
theorem fnd_is {l : List Rc} {n : Int} {L : List Lv} {s : List Int} (h : Grown l n L s) : fndOf l = (L, dirt s 64, fromOf (dirt s 64), n) := by
  unfold fndOf
  rw [h.run]
  show (Tab.list ⟨n, ents L⟩, _, _, _) = _
  rw [ents_list rfl h.up]
theorem dirt_in {l : List Rc} {n : Int} {L : List Lv} {s : List Int} (h : Grown l n L s) : ∀ x ∈ dirt s 64, 0 ≤ x.1 ∧ x.1 < 64 ∧ 1 ≤ x.2 ∧ x.2 ≤ l.length := fun x hx => by
  obtain ⟨k, hk, rfl, h0⟩ := dirt_mem.1 hx
  have := h.sv k hk
  dsimp only
  omega
theorem dropD_in {l : List Rc} {n : Int} {L : List Lv} {s : List Int} (h : Grown l n L s) (m : Mv) : ∀ x ∈ dropD m ((l.length : Int) + 1) (dirt s 64), 0 ≤ x.1 ∧ x.1 < 64 ∧ 1 ≤ x.2 ∧ x.2 ≤ l.length ∧ s.getD x.1.toNat 0 ≠ 0 ∧ s.getD x.1.toNat 0 ≤ x.2 := fun x hx => by
  obtain ⟨j, hj, e1, e2⟩ := dropTo_mem (Nat.le_refl _) x hx
  have hm := get_mem hj (0, 0)
  have hr := mod_in m.2.1 (m := 3) (by decide)
  obtain ⟨k, hk, e3, h0⟩ := dirt_mem.1 hm
  have hs := h.sv k hk
  have f1 : x.1 = (k : Int) := by rw [e1, e3]
  have f2 : x.2 = min (s.getD k 0 + rs m.2.1 3) ((l.length : Int) + 1 - 1) := by rw [e2, e3]
  rw [f1, Int.toNat_natCast]
  unfold rs at f2
  omega
theorem check_points_of {l : List Rc} {n : Int} {L : List Lv} {s : List Int} (h : Grown l n L s) (hl : l.length < 80) (m : Mv) : checkR ((l.length : Int) + 1, 8, 0, 0, (0, 0), (0, 0), 0, zC, (L, dropD m ((l.length : Int) + 1) (dirt s 64), n)) = 0 := by
  have h1 := h.nlo
  have h2 := h.nhi
  have h3 := h.len
  have h4 := dropTo_len m ((l.length : Int) + 1) (dirt s 64) (dirt s 64).length
  have h5 : liveB n ((l.length : Int) + 1) 0 L = true := liveB_of h.up fun x hx => by have := h.lvs x hx; refine ⟨by omega, this.2.1, this.2.2.1, by omega, by unfold top; omega, this.2.2.2.2⟩
  have h6 : dirtyB ((l.length : Int) + 1) (-1) (dropD m ((l.length : Int) + 1) (dirt s 64)) = true := dirtyB_of (dropTo_rise (dirt_rise s 64) (Nat.le_refl _)) fun x hx => by have := dropD_in h m x hx; refine ⟨by omega, this.2.1, this.2.2.1, by omega, by unfold top; omega⟩
  have hp : pointsB (L, dropD m ((l.length : Int) + 1) (dirt s 64), n) ((l.length : Int) + 1) = true := by
    unfold pointsB
    simp only [within, h5, h6, Bool.and_eq_true, decide_eq_true_eq, and_true]
    refine ⟨⟨⟨by omega, by omega⟩, h3⟩, h4⟩
  unfold checkR okR
  rw [if_neg (by dsimp only; omega)]
  have hw : within ((l.length : Int) + 1) 0 top = true := by unfold within top; simp only [Bool.and_eq_true, decide_eq_true_eq]; omega
  simp only [hw, hp]
  rfl
theorem note_free {t : Tab} {r : Rc} (h1 : 1 ≤ r.1) (h2 : r.1 ≤ top) (h : r.2.1 = 2 ∨ r.2.1 = 8) : noteR t r = ⟨0, t⟩ := by
  unfold noteR Tab.note
  rw [if_neg (by unfold within; simp; exact ⟨h1, h2⟩), if_pos h]
theorem note_begin {n lsn : Int} {L : List Lv} (h1 : 1 ≤ lsn) (h2 : lsn ≤ 1000) (hu : Up L) (hn : ∀ x ∈ L, x.1 < n) (hl : L.length < 32) (n1 : n ≤ 1000) : noteR ⟨n, ents L⟩ (lsn, 1, n, 0, (0, 0), (0, 0), 0, zC, noPt) = ⟨0, ⟨n + 1, ents (L ++ [(n, lsn, false, false)])⟩⟩ := by
  have hw : ¬ within lsn 1 top = false := by unfold within top; simp; omega
  have hm : msL (ents L) n (n, lsn, false, false) = ents (L ++ [(n, lsn, false, false)]) := by
    have := mset_none (q := .i64) (v := kL) (E := ents L) (c := n) (x := (n, lsn, false, false)) (mget_none.2 fun e he => by
      obtain ⟨x, hx, rfl⟩ := List.mem_map.1 he
      have := hn x hx
      dsimp only; omega)
    exact this.trans (by unfold ents; rw [List.map_append]; rfl)
  show Tab.note ⟨n, ents L⟩ lsn 1 n 0 = _
  unfold Tab.note
  rw [if_neg hw, if_neg (by decide), if_pos rfl, if_neg (by simp)]
  unfold Tab.begin
  rw [if_neg hw, if_neg (by show ¬ (32 ≤ (ents L).length ∨ top < n); rw [ents_len]; unfold top; omega)]
  simp only [hm]
theorem note_goes {n lsn kind : Int} {L : List Lv} {i : Nat} {w s : Int × Int} {d : Int} {c : Ctr} (h1 : 1 ≤ lsn) (h2 : lsn ≤ 1000) (hu : Up L) (hi : i < L.length) (hk : 3 ≤ kind ∧ kind ≤ 7) (hx : (L.getD i noLv).2.1 < lsn) (hm : may kind (L.getD i noLv) = true) :
    noteR ⟨n, ents L⟩ (lsn, kind, (L.getD i noLv).1, (L.getD i noLv).2.1, w, s, d, c, noPt) = ⟨0, ⟨n, ents (if kind = 7 then L.eraseIdx i else L.set i (upto (thn kind (L.getD i noLv)) lsn))⟩⟩ := by
  have hw : ¬ within lsn 1 top = false := by unfold within top; simp; omega
  have hg := ents_get hu (get_mem hi noLv)
  show Tab.note ⟨n, ents L⟩ lsn kind (L.getD i noLv).1 (L.getD i noLv).2.1 = _
  unfold Tab.note
  rw [if_neg hw, if_neg (by omega), if_neg (by omega), if_neg (by simp; omega)]
  dsimp only
  rw [hg]
  dsimp only
  unfold Tab.goes
  rw [if_neg (by omega), if_neg (by rw [hm]; simp)]
  have e1 : (upto (thn kind (L.getD i noLv)) lsn).1 = (L.getD i noLv).1 := by unfold upto thn; split; rfl; split <;> rfl
  have hs : msL (ents L) (L.getD i noLv).1 (upto (thn kind (L.getD i noLv)) lsn) = ents (L.set i (upto (thn kind (L.getD i noLv)) lsn)) := by
    have := ms_ents (y := upto (thn kind (L.getD i noLv)) lsn) hu hi e1
    rwa [e1] at this
  dsimp only
  rw [hs]
  split
  · have hup := up_set hu hi e1
    have hi' : i < (L.set i (upto (thn kind (L.getD i noLv)) lsn)).length := by rw [List.length_set]; exact hi
    have hgd : (L.set i (upto (thn kind (L.getD i noLv)) lsn)).getD i noLv = upto (thn kind (L.getD i noLv)) lsn := by
      rw [List.getD_eq_getElem?_getD, List.getElem?_set_self hi]; rfl
    have := md_ents hup hi'
    rw [hgd, e1] at this
    rw [this, List.eraseIdx_set_eq]
  · rfl
set_option maxRecDepth 100000 in
set_option maxHeartbeats 1000000 in
/-- A log stays one that goes on so. -/
theorem Grown.step {l : List Rc} {n : Int} {L : List Lv} {s : List Int} (h : Grown l n L s) (hl : l.length < 80) (m : Mv) : ∃ n' L', Grown (l ++ [stepF m ((l.length : Int) + 1) (fndOf l)]) n' L' (chgS s (stepF m ((l.length : Int) + 1) (fndOf l))) := by
  have n1 := h.nlo
  have n2 := h.nhi
  have l1 := h.len
  have p20 := mod_in m.2.2.1 (m := 20) (by decide)
  have p7 := mod_in m.2.2.1 (m := 7) (by decide)
  have top1 : (l.length : Int) + 1 ≤ top := by unfold top; omega
  rw [fnd_is h]
  have lold : ∀ x ∈ L, 1 ≤ x.1 ∧ x.1 < n ∧ 1 ≤ x.2.1 ∧ x.2.1 ≤ (l.length : Int) + 1 ∧ ¬ (x.2.2.1 = true ∧ x.2.2.2 = true) := fun x hx => by
    have := h.lvs x hx
    exact ⟨this.1, this.2.1, this.2.2.1, by omega, this.2.2.2.2⟩
  by_cases a : rs m.1 12 = 0
  · have e : stepF m ((l.length : Int) + 1) (L, dirt s 64, fromOf (dirt s 64), n) = ((l.length : Int) + 1, 2, 0, 0, (rs m.2.2.1 20, 0), (20 + rs m.2.2.1 7, 0), 0, ((l.length : Int) + 1, 1, (0, 0), 0), noPt) := by unfold stepF; rw [if_pos a]
    rw [e]
    refine ⟨n, L, h.snoc rfl ?_ (note_free (by dsimp only; omega) top1 (.inl rfl)) h.up l1 ⟨by omega, by omega⟩ lold (by simp) (by simp) (by dsimp only; omega) (h.lst) fun x hx => ⟨fun hk => by simp at hk, fun hk => ?_⟩⟩
    · unfold checkR okR
      rw [if_neg (by dsimp only; omega)]
      have c1 : slotsB (rs m.2.2.1 20, 0) (20 + rs m.2.2.1 7, 0) = true := by
        unfold slotsB within rs
        simp only [Bool.and_eq_true, decide_eq_true_eq, Bool.not_eq_true', decide_eq_false_iff_not]
        omega
      have c2 : within ((l.length : Int) + 1) 0 top = true := by unfold within; simp only [Bool.and_eq_true, decide_eq_true_eq]; omega
      have c3 : within ((l.length : Int) + 1) 1 1048576 = true := by unfold within; simp only [Bool.and_eq_true, decide_eq_true_eq]; omega
      simp only [c1, c2, c3]
      rfl
    · have := (lold x hx).1
      dsimp only at hk
      omega
  · by_cases b : rs m.1 12 = 1 ∨ rs m.1 12 = 2
    · have e : stepF m ((l.length : Int) + 1) (L, dirt s 64, fromOf (dirt s 64), n) = ((l.length : Int) + 1, 8, 0, 0, (0, 0), (0, 0), 0, zC, (L, dropD m ((l.length : Int) + 1) (dirt s 64), n)) := by unfold stepF; rw [if_neg a, if_pos b]
      rw [e]
      refine ⟨n, L, h.snoc rfl (check_points_of h hl m) (note_free (by dsimp only; omega) top1 (.inr rfl)) h.up l1 ⟨by omega, by omega⟩ lold (by simp) (by simp) (by dsimp only; omega) (h.lst) fun x hx => ⟨fun hk => by simp at hk, fun hk => ?_⟩⟩
      have := (lold x hx).1
      dsimp only at hk
      omega
    · by_cases c : L.length = 0 ∨ (rs m.1 12 < 5 ∧ L.length < 32)
      · have e : stepF m ((l.length : Int) + 1) (L, dirt s 64, fromOf (dirt s 64), n) = ((l.length : Int) + 1, 1, n, 0, (0, 0), (0, 0), 0, zC, noPt) := by unfold stepF; rw [if_neg a, if_neg b, if_pos c]
        rw [e]
        have c32 : L.length < 32 := by omega
        refine ⟨n + 1, L ++ [(n, (l.length : Int) + 1, false, false)], h.snoc rfl ?_ (note_begin (by omega) (by omega) h.up (fun x hx => (lold x hx).2.1) c32 (by omega)) ?_ (by simp; omega) ⟨by omega, by omega⟩ (fun x hx => ?_) (by simp) (by simp) (by dsimp only; omega) (fun q hq x hx => ?_) fun x hx => ⟨fun hk => by simp at hk, fun hk => ?_⟩⟩
        · unfold checkR okR
          rw [if_neg (by dsimp only; omega)]
          have c2 : within ((l.length : Int) + 1) 0 top = true := by unfold within; simp only [Bool.and_eq_true, decide_eq_true_eq]; omega
          have c3 : within n 1 top = true := by unfold within top; simp only [Bool.and_eq_true, decide_eq_true_eq]; omega
          simp only [c2, c3]
          rfl
        · refine List.pairwise_append.2 ⟨h.up, by simp, fun x hx y hy => ?_⟩
          rw [List.mem_singleton.1 hy]
          exact (lold x hx).2.1
        · rcases List.mem_append.1 hx with hx | hx
          · have := lold x hx
            exact ⟨this.1, by omega, this.2.2⟩
          · rw [List.mem_singleton.1 hx]
            dsimp only
            exact ⟨n1, by omega, by omega, by omega, by simp⟩
        · rcases List.mem_append.1 hx with hx | hx
          · exact h.lst q hq x hx
          · rw [List.mem_singleton.1 hx]
            have := h.txs q hq
            dsimp only
            exact ⟨fun _ => by omega, fun e => by omega⟩
        · rcases List.mem_append.1 hx with hx | hx
          · have := (lold x hx).2.1
            dsimp only at hk
            omega
          · rw [List.mem_singleton.1 hx]
            exact Int.le_refl _
      · have hlen : 1 ≤ L.length := by omega
        have hx := mod_in m.2.1 (m := L.length) (by omega)
        obtain ⟨i, hi⟩ : ∃ i : Nat, (rs m.2.1 L.length).toNat = i := ⟨_, rfl⟩
        have hi' : i < L.length := by unfold rs at hi; omega
        have hm := get_mem hi' noLv
        have hv := h.lvs _ hm
        have may0 : ∀ kind : Int, 3 ≤ kind ∧ kind ≤ 7 → may kind (L.getD i noLv) = true → ∀ (w sm : Int × Int) (d : Int) (c0 : Ctr), checkR ((l.length : Int) + 1, kind, (L.getD i noLv).1, (L.getD i noLv).2.1, w, sm, d, c0, noPt) = 0 →
            ∃ n' L', Grown (l ++ [((l.length : Int) + 1, kind, (L.getD i noLv).1, (L.getD i noLv).2.1, w, sm, d, c0, noPt)]) n' L' (chgS s ((l.length : Int) + 1, kind, (L.getD i noLv).1, (L.getD i noLv).2.1, w, sm, d, c0, noPt)) := by
          intro kind hk hmay w sm d c0 hck
          have e1 : (upto (thn kind (L.getD i noLv)) ((l.length : Int) + 1)).1 = (L.getD i noLv).1 := by unfold upto thn; split; rfl; split <;> rfl
          have e2 : (upto (thn kind (L.getD i noLv)) ((l.length : Int) + 1)).2.1 = (l.length : Int) + 1 := rfl
          have hmem : ∀ y, y ∈ (if kind = 7 then L.eraseIdx i else L.set i (upto (thn kind (L.getD i noLv)) ((l.length : Int) + 1))) → (y ∈ L ∧ y.1 ≠ (L.getD i noLv).1) ∨ (kind ≠ 7 ∧ y = upto (thn kind (L.getD i noLv)) ((l.length : Int) + 1)) := by
            intro y hy
            have ne : ∀ j, j < L.length → j ≠ i → (L.getD j noLv).1 ≠ (L.getD i noLv).1 := fun j hj hji => by
              rcases Nat.lt_or_gt_of_ne hji with h' | h'
              · have := pair_get h.up noLv h' hi'; omega
              · have := pair_get h.up noLv h' hj; omega
            split at hy
            · rw [List.mem_eraseIdx_iff_getElem?] at hy
              obtain ⟨j, hji, hj⟩ := hy
              have hjl := (List.getElem?_eq_some_iff.1 hj).1
              have : L.getD j noLv = y := by rw [List.getD_eq_getElem?_getD, hj]; rfl
              rw [← this]
              exact .inl ⟨get_mem hjl _, ne j hjl hji⟩
            · rename_i h7
              obtain ⟨j, hj, hjy⟩ := List.mem_iff_getElem.1 hy
              rw [List.length_set] at hj
              rw [List.getElem_set] at hjy
              split at hjy
              · exact .inr ⟨h7, hjy.symm⟩
              · rename_i hij
                have : L.getD j noLv = y := by rw [List.getD_eq_getElem?_getD, List.getElem?_eq_getElem hj]; exact hjy
                rw [← this]
                exact .inl ⟨get_mem hj _, ne j hj (fun e => hij e.symm)⟩
          refine ⟨n, if kind = 7 then L.eraseIdx i else L.set i (upto (thn kind (L.getD i noLv)) ((l.length : Int) + 1)), h.snoc rfl hck (note_goes (by omega) (by omega) h.up hi' hk (by omega) hmay) ?_ ?_ ⟨by omega, by omega⟩ (fun y hy => ?_) ?_ ?_ (by dsimp only; omega) (fun q hq y hy => ?_) fun y hy => ?_⟩
          · split
            · exact List.Pairwise.sublist (List.eraseIdx_sublist _ _) h.up
            · exact up_set h.up hi' e1
          · split
            · rw [List.length_eraseIdx_of_lt hi']; omega
            · rw [List.length_set]; exact l1
          · rcases hmem y hy with ⟨hy, _⟩ | ⟨h7, rfl⟩
            · exact lold y hy
            · rw [e1, e2]
              refine ⟨hv.1, hv.2.1, by omega, by omega, ?_⟩
              unfold may isOpen at hmay
              unfold upto thn
              have h5 := hv.2.2.2.2
              generalize L.getD i noLv = x at *
              obtain ⟨x1, x2, xc, xu⟩ := x
              dsimp only at *
              have h7' : kind = 3 ∨ kind = 4 ∨ kind = 5 ∨ kind = 6 := by omega
              rcases h7' with rfl | rfl | rfl | rfl <;> cases xc <;> cases xu <;> simp_all
          · dsimp only
            rw [if_neg (by omega)]; omega
          · dsimp only
            rw [if_neg (show ¬ kind = 1 by omega)]
            by_cases h7 : kind = 7
            · rw [if_pos h7, if_pos h7, List.length_eraseIdx_of_lt hi']; omega
            · rw [if_neg h7, if_neg h7, List.length_set]
          · rcases hmem y hy with ⟨hy, _⟩ | ⟨h7, rfl⟩
            · exact h.lst q hq y hy
            · have := h.lst q hq _ hm
              rw [e1, e2]
              exact ⟨this.1, fun e => by have := this.2 e; omega⟩
          · dsimp only
            rcases hmem y hy with ⟨hy, hne⟩ | ⟨h7, rfl⟩
            · exact ⟨fun _ e => hne e.symm, fun e => absurd e.symm hne⟩
            · rw [e2]
              exact ⟨fun e => absurd e h7, fun _ => Int.le_refl _⟩
        have S : stepF m ((l.length : Int) + 1) (L, dirt s 64, fromOf (dirt s 64), n) = (if (L.getD i noLv).2.2.1 = true ∨ ((L.getD i noLv).2.2.2 = true ∧ rs m.1 12 < 8) then recB ((l.length : Int) + 1) 7 (L.getD i noLv)
            else if rs m.1 12 = 10 then recB ((l.length : Int) + 1) (if (L.getD i noLv).2.2.2 = true then 7 else 5) (L.getD i noLv)
            else if rs m.1 12 = 11 ∧ (L.getD i noLv).2.2.2 = false then recB ((l.length : Int) + 1) 6 (L.getD i noLv)
            else ((l.length : Int) + 1, if (L.getD i noLv).2.2.2 = true then 4 else 3, (L.getD i noLv).1, (L.getD i noLv).2.1, (rs m.2.2.1 20, 0), (20 + rs m.2.2.1 7, 0), 1, (1, 0, (0, 0), 0), noPt)) := by
          unfold stepF
          rw [if_neg a, if_neg b, if_neg c]
          dsimp only
          rw [hi]
        have kB : ∀ kind : Int, 5 ≤ kind ∧ kind ≤ 7 → checkR (recB ((l.length : Int) + 1) kind (L.getD i noLv)) = 0 := fun kind hk => by
          unfold checkR okR recB
          rw [if_neg (by dsimp only; omega)]
          dsimp only
          have k2 : ¬ kind = 2 := by omega
          have k8 : ¬ kind = 8 := by omega
          have k3 : ¬ (kind = 3 ∨ kind = 4) := by omega
          have k1 : ¬ kind = 1 := by omega
          simp only [k2, k8, k3, k1, if_false]
          have c2 : within ((l.length : Int) + 1) 0 top = true := by unfold within; simp only [Bool.and_eq_true, decide_eq_true_eq]; omega
          have c3 : within (L.getD i noLv).1 1 top = true := by unfold within top; simp only [Bool.and_eq_true, decide_eq_true_eq]; omega
          have c4 : within (L.getD i noLv).2.1 1 top = true := by unfold within top; simp only [Bool.and_eq_true, decide_eq_true_eq]; omega
          have c5 : belowB (L.getD i noLv).2.1 ((l.length : Int) + 1) = true := by unfold belowB; simp only [Bool.or_eq_true, decide_eq_true_eq]; omega
          rw [c2, c3, c4, c5]
          rfl
        have kA : ∀ kind : Int, kind = 3 ∨ kind = 4 → checkR ((l.length : Int) + 1, kind, (L.getD i noLv).1, (L.getD i noLv).2.1, (rs m.2.2.1 20, 0), (20 + rs m.2.2.1 7, 0), 1, (1, 0, (0, 0), 0), noPt) = 0 := fun kind hk => by
          unfold checkR okR
          rw [if_neg (by dsimp only; omega)]
          dsimp only
          have k2 : ¬ kind = 2 := by omega
          have k8 : ¬ kind = 8 := by omega
          simp only [k2, k8, hk, if_false, if_true]
          have c1 : slotsB (rs m.2.2.1 20, 0) (20 + rs m.2.2.1 7, 0) = true := by
            unfold slotsB within rs
            simp only [Bool.and_eq_true, decide_eq_true_eq, Bool.not_eq_true', decide_eq_false_iff_not]
            omega
          have c2 : within ((l.length : Int) + 1) 0 top = true := by unfold within; simp only [Bool.and_eq_true, decide_eq_true_eq]; omega
          have c3 : within (L.getD i noLv).1 1 top = true := by unfold within top; simp only [Bool.and_eq_true, decide_eq_true_eq]; omega
          have c4 : within (L.getD i noLv).2.1 1 top = true := by unfold within top; simp only [Bool.and_eq_true, decide_eq_true_eq]; omega
          have c5 : belowB (L.getD i noLv).2.1 ((l.length : Int) + 1) = true := by unfold belowB; simp only [Bool.or_eq_true, decide_eq_true_eq]; omega
          rw [c1, c2, c3, c4, c5]
          rfl
        rw [S]
        have h5 := hv.2.2.2.2
        have M : ∀ kind : Int, may kind (L.getD i noLv) = if kind = 4 then (L.getD i noLv).2.2.2 else if kind = 7 then !isOpen (L.getD i noLv) else isOpen (L.getD i noLv) := fun _ => rfl
        by_cases q1 : (L.getD i noLv).2.2.1 = true ∨ ((L.getD i noLv).2.2.2 = true ∧ rs m.1 12 < 8)
        · rw [if_pos q1]
          refine may0 7 (by omega) ?_ _ _ _ _ (kB 7 (by omega))
          rw [M, if_neg (by decide), if_pos rfl]
          unfold isOpen
          rcases q1 with q | ⟨q, _⟩ <;> rw [q] <;> simp
        · rw [if_neg q1]
          have hc0 : (L.getD i noLv).2.2.1 = false := by cases hh : (L.getD i noLv).2.2.1 with | false => rfl | true => exact absurd (.inl hh) q1
          by_cases q2 : rs m.1 12 = 10
          · rw [if_pos q2]
            by_cases q3 : (L.getD i noLv).2.2.2 = true
            · rw [if_pos q3]
              refine may0 7 (by omega) ?_ _ _ _ _ (kB 7 (by omega))
              rw [M, if_neg (by decide), if_pos rfl]
              unfold isOpen
              rw [q3]; simp
            · rw [if_neg q3]
              refine may0 5 (by omega) ?_ _ _ _ _ (kB 5 (by omega))
              rw [M, if_neg (by decide), if_neg (by decide)]
              unfold isOpen
              rw [hc0, show (L.getD i noLv).2.2.2 = false by cases hh : (L.getD i noLv).2.2.2 with | false => rfl | true => exact absurd hh q3]; rfl
          · rw [if_neg q2]
            by_cases q3 : rs m.1 12 = 11 ∧ (L.getD i noLv).2.2.2 = false
            · rw [if_pos q3]
              refine may0 6 (by omega) ?_ _ _ _ _ (kB 6 (by omega))
              rw [M, if_neg (by decide), if_neg (by decide)]
              unfold isOpen
              rw [hc0, q3.2]; rfl
            · rw [if_neg q3]
              by_cases q4 : (L.getD i noLv).2.2.2 = true
              · rw [if_pos q4]
                refine may0 4 (by omega) ?_ _ _ _ _ (kA 4 (.inr rfl))
                rw [M, if_pos rfl]; exact q4
              · rw [if_neg q4]
                refine may0 3 (by omega) ?_ _ _ _ _ (kA 3 (.inl rfl))
                rw [M, if_neg (by decide), if_neg (by decide)]
                unfold isOpen
                rw [hc0, show (L.getD i noLv).2.2.2 = false by cases hh : (L.getD i noLv).2.2.2 with | false => rfl | true => exact absurd hh q4]; rfl
end Go.Proofs.Ytncecddhknfimaa.VC
