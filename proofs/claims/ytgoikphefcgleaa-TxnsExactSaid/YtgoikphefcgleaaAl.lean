/- A table and the document's are alike, whatever is done to both. Plain lemmas; no conditions but those that each names. -/
import Derived.Test.YtgoikphefcgleaaRp
set_option linter.unusedVariables false
set_option linter.unusedSimpArgs false
namespace Go.Proofs.Ytgoikphefcgleaa.VC
open Go
theorem ents_len (l : List Lv) : (ents l).length = l.length := by simp [ents]
theorem ents_none {l : List Lv} {c : Int} (h : ∀ x ∈ l, x.1 ≠ c) : mgL (ents l) c = none := mget_none.2 fun e he => by
  obtain ⟨x, hx, rfl⟩ := List.mem_map.1 he
  exact h x hx
theorem ents_snoc {l : List Lv} {x : Lv} (h : ∀ y ∈ l, y.1 ≠ x.1) : msL (ents l) x.1 x = ents (l ++ [x]) := by
  have := mset_none (q := .i64) (v := kL) (x := x) (ents_none h)
  show mset (k := kI) (v := kL) _ _ _ = _
  rw [show mset (k := kI) (v := kL) (ents l) x.1 x = _ from this]
  simp [ents]
theorem ents_set : ∀ {l : List Lv} {i : Nat} {x : Lv} (hu : Up l) (hi : i < l.length), l[i].1 = x.1 → msL (ents l) x.1 x = ents (l.take i ++ [x] ++ l.drop (i + 1))
  | y :: l, 0, x, hu, hi, h => by
    show mset (k := kI) (v := kL) ((y.1, y) :: ents l) x.1 x = _
    rw [mset_cons, if_pos (by simpa using h)]
    have h : y.1 = x.1 := by simpa using h
    simp [ents, h]
  | y :: l, i + 1, x, hu, hi, h => by
    obtain ⟨h1, h2⟩ := List.pairwise_cons.1 hu
    have hi' : i < l.length := by simpa using hi
    have h' : l[i].1 = x.1 := by simpa using h
    have hy : ¬ y.1 = x.1 := fun e => by have := h1 l[i] (List.getElem_mem hi'); omega
    show mset (k := kI) (v := kL) ((y.1, y) :: ents l) x.1 x = _
    rw [mset_cons, if_neg hy]
    have := ents_set h2 hi' h'
    show (y.1, y) :: msL (ents l) x.1 x = _
    rw [this]
    simp [ents]
theorem ents_del : ∀ {l : List Lv} {i : Nat} {c : Int} (hu : Up l) (hi : i < l.length), l[i].1 = c → mdL (ents l) c = ents (l.take i ++ l.drop (i + 1))
  | y :: l, 0, c, hu, hi, h => by
    show mdel (k := kI) (v := kL) ((y.1, y) :: ents l) c = _
    rw [mdel_cons, if_pos (by simpa using h)]
    simp [ents]
  | y :: l, i + 1, c, hu, hi, h => by
    obtain ⟨h1, h2⟩ := List.pairwise_cons.1 hu
    have hi' : i < l.length := by simpa using hi
    have h' : l[i].1 = c := by simpa using h
    have hy : ¬ y.1 = c := fun e => by have := h1 l[i] (List.getElem_mem hi'); omega
    show mdel (k := kI) (v := kL) ((y.1, y) :: ents l) c = _
    rw [mdel_cons, if_neg hy]
    have := ents_del h2 hi' h'
    show (y.1, y) :: mdL (ents l) c = _
    rw [this]
    simp [ents]
theorem take_set {l : List Lv} {i : Nat} {x : Lv} (hi : i < l.length) : l.take i ++ [x] ++ l.drop (i + 1) = l.set i x := by
  rw [List.set_eq_take_append_cons_drop, if_pos hi]; simp
theorem take_erase {l : List Lv} {i : Nat} : l.take i ++ l.drop (i + 1) = l.eraseIdx i := (List.eraseIdx_eq_take_drop_succ l i).symm
theorem up_iff {l : List Lv} : Up l ↔ (l.map (·.1)).Pairwise (· < ·) := by rw [List.pairwise_map]; exact Iff.rfl
theorem up_set {l : List Lv} {i : Nat} {x : Lv} (hu : Up l) (hi : i < l.length) (h : l[i].1 = x.1) : Up (l.set i x) := by
  rw [up_iff, List.map_set]
  have : (l.map (·.1)).set i x.1 = l.map (·.1) := by
    apply List.ext_getElem
    · simp
    · intro j h1 h2
      rw [List.getElem_set]
      split
      · rename_i e; subst e; simp [h]
      · rfl
  rw [this, ← up_iff]; exact hu
theorem up_erase {l : List Lv} {i : Nat} (hu : Up l) : Up (l.eraseIdx i) := List.Pairwise.sublist (List.eraseIdx_sublist l i) hu
section
variable {t : Tab} {q : RefT} (h : Alike t q)
include h
theorem Alike.okT : t.ok := ⟨by rw [h.live, ents_len]; exact h.len, by rw [h.nx]; exact h.n1, by rw [h.nx]; exact h.n2⟩
theorem Alike.okQ : q.ok := ⟨h.len, h.n1, h.n2⟩
theorem Alike.list : t.list = q.L := ents_list h.live h.up
theorem Alike.begin (lsn : Int) : (t.begin lsn).n = (q.begin lsn).n ∧ (t.begin lsn).e = (q.begin lsn).e ∧ Alike (t.begin lsn).t (q.begin lsn).t := by
  unfold Tab.begin RefT.begin
  rw [h.live, ents_len, h.nx]
  by_cases a : within lsn 1 top = false
  · rw [if_pos a, if_pos a]; exact ⟨rfl, rfl, h⟩
  · rw [if_neg a, if_neg a]
    by_cases b : 32 ≤ q.L.length ∨ top < q.next
    · rw [if_pos b, if_pos b]; exact ⟨rfl, rfl, h⟩
    · rw [if_neg b, if_neg b]
      refine ⟨rfl, rfl, rfl, ?_, ?_, ?_, ?_, ?_, ?_⟩
      · have := h.n1; show 1 ≤ q.next + 1; omega
      · show q.next + 1 ≤ top + 1; omega
      · exact ents_snoc (x := (q.next, lsn, false, false)) fun y hy => by have := h.lt y hy; show y.1 ≠ q.next; omega
      · refine List.pairwise_append.2 ⟨h.up, List.pairwise_singleton _ _, fun x hx y hy => ?_⟩
        obtain rfl : y = (q.next, lsn, false, false) := by simpa using hy
        exact h.lt x hx
      · intro x hx
        rcases List.mem_append.1 hx with hx | hx
        · have := h.lt x hx; show x.1 < q.next + 1; omega
        · obtain rfl : x = (q.next, lsn, false, false) := by simpa using hx
          show q.next < q.next + 1; omega
      · simp only [List.length_append, List.length_singleton]; omega
theorem Alike.at {tx : Int} : (q.place tx < 0 ∧ mgL t.live tx = none) ∨ ∃ i, ∃ hi : i < q.L.length, q.place tx = (i : Int) ∧ q.L[i].1 = tx ∧ mgL t.live tx = some q.L[i] := by
  rcases idx_cases (q.L.map (·.1)) tx with ⟨k, h2⟩ | ⟨i, hi, k, k1, _⟩
  · left
    refine ⟨by show idxI _ tx < 0; omega, ?_⟩
    rw [h.live]
    exact ents_none fun x hx => h2 x.1 (List.mem_map_of_mem hx)
  · right
    have hi : i < q.L.length := by simpa using hi
    have k1 : q.L[i].1 = tx := by simpa using k1
    refine ⟨i, hi, k, k1, ?_⟩
    rw [h.live, ← k1]
    exact ents_get h.up (List.getElem_mem hi)
theorem Alike.get (tx : Int) : t.get tx = q.get tx := by
  unfold Tab.get RefT.get
  rcases h.at (tx := tx) with ⟨a, b⟩ | ⟨i, hi, a, b, c⟩
  · rw [if_pos a, b]
  · rw [a, c, if_neg (by omega)]
    simp [List.getD, hi]
theorem Alike.note (lsn kind tx prev : Int) : (t.note lsn kind tx prev).e = (q.note lsn kind tx prev).e ∧ Alike (t.note lsn kind tx prev).t (q.note lsn kind tx prev).t := by
  unfold Tab.note RefT.note
  by_cases a : within lsn 1 top = false
  · rw [if_pos a, if_pos a]; exact ⟨rfl, h⟩
  · rw [if_neg a, if_neg a]
    by_cases b : kind = 2 ∨ kind = 8
    · rw [if_pos b, if_pos b]; exact ⟨rfl, h⟩
    · rw [if_neg b, if_neg b]
      by_cases c : kind = 1
      · rw [if_pos c, if_pos c, h.nx]
        by_cases d : tx ≠ q.next
        · rw [if_pos d, if_pos d]; exact ⟨rfl, h⟩
        · rw [if_neg d, if_neg d]; exact ⟨(h.begin lsn).2.1, (h.begin lsn).2.2⟩
      · rw [if_neg c, if_neg c]
        by_cases d : ¬ (3 ≤ kind ∧ kind ≤ 7)
        · rw [if_pos d, if_pos d]; exact ⟨rfl, h⟩
        · rw [if_neg d, if_neg d]
          unfold RefT.goes
          rcases h.at (tx := tx) with ⟨p1, p2⟩ | ⟨i, hi, p1, p2, p3⟩
          · rw [if_pos p1, p2]; exact ⟨rfl, h⟩
          · have e : q.L.getD i noLv = q.L[i] := by simp [List.getD, hi]
            rw [p1, if_neg (by omega), p3]
            simp only [Int.toNat_natCast, e]
            unfold Tab.goes
            by_cases f : prev ≠ (q.L[i]).2.1 ∨ lsn ≤ (q.L[i]).2.1
            · rw [if_pos f, if_pos f]; exact ⟨rfl, h⟩
            · rw [if_neg f, if_neg f]
              by_cases g : may kind q.L[i] = false
              · rw [if_pos g, if_pos g]; exact ⟨rfl, h⟩
              · rw [if_neg g, if_neg g]
                have hx : (upto (thn kind q.L[i]) lsn).1 = tx := by
                  rw [← p2]; unfold upto thn; simp only
                  by_cases k5 : kind = 5
                  · rw [if_pos k5]
                  · rw [if_neg k5]
                    by_cases k6 : kind = 6
                    · rw [if_pos k6]
                    · rw [if_neg k6]
                have es := ents_set (x := upto (thn kind q.L[i]) lsn) h.up hi (by rw [hx]; exact p2)
                rw [hx, take_set hi] at es
                have us := up_set (x := upto (thn kind q.L[i]) lsn) h.up hi (by rw [hx]; exact p2)
                refine ⟨rfl, h.nx, h.n1, h.n2, ?_, ?_, ?_, ?_⟩
                · show (if kind = 7 then mdL (msL t.live tx _) tx else msL t.live tx _) = _
                  rw [h.live, es]
                  by_cases k7 : kind = 7
                  · rw [if_pos k7, if_pos k7]
                    have hi' : i < (q.L.set i (upto (thn kind q.L[i]) lsn)).length := by simpa using hi
                    have := ents_del (c := tx) us hi' (by simpa using hx)
                    rw [this, take_erase, List.eraseIdx_set_eq, List.append_nil, take_erase]
                  · rw [if_neg k7, if_neg k7, take_set hi]
                · by_cases k7 : kind = 7
                  · rw [if_pos k7, List.append_nil, take_erase]; exact up_erase h.up
                  · rw [if_neg k7, take_set hi]; exact us
                · by_cases k7 : kind = 7
                  · rw [if_pos k7, List.append_nil, take_erase]
                    exact fun x hx' => h.lt x (List.mem_of_mem_eraseIdx hx')
                  · rw [if_neg k7, take_set hi]
                    intro x hx'
                    rcases List.mem_or_eq_of_mem_set hx' with h1 | rfl
                    · exact h.lt x h1
                    · rw [hx, ← p2]; exact h.lt _ (List.getElem_mem hi)
                · by_cases k7 : kind = 7
                  · rw [if_pos k7, List.append_nil, take_erase, List.length_eraseIdx]
                    have := h.len; split <;> omega
                  · rw [if_neg k7, take_set hi, List.length_set]; exact h.len
end
theorem goodL_up {n : Int} : ∀ {a : Int} {l : List Lv}, goodL n a l → Up l ∧ ∀ x ∈ l, x.1 < n
  | _, [], _ => ⟨.nil, fun x hx => by simp at hx⟩
  | a, x :: l, ⟨h1, h2, h3, h4, h5, h6⟩ => by
    obtain ⟨k1, k2⟩ := goodL_up h6
    refine ⟨List.pairwise_cons.2 ⟨fun y hy => (goodL_keys h6 y hy).1, k1⟩, fun y hy => ?_⟩
    rcases List.mem_cons.1 hy with rfl | hy
    · exact h2
    · exact k2 y hy
theorem Alike.new {n : Int} (h : within n 1 2147483648 = true) : Alike ⟨n, []⟩ ⟨n, []⟩ := by
  have h : 1 ≤ n ∧ n ≤ 2147483648 := by simpa [within] using h
  exact ⟨rfl, h.1, h.2, rfl, .nil, fun x hx => by simp at hx, by simp⟩
theorem Alike.load {p : Pt} (h : LoadOk p) : Alike ⟨p.2.2, ents p.1⟩ ⟨p.2.2, p.1⟩ := by
  obtain ⟨h1, h2, h3⟩ := h
  have h1 : 1 ≤ p.2.2 ∧ p.2.2 ≤ 2147483648 := by simpa [within] using h1
  obtain ⟨k1, k2⟩ := goodL_up h3
  exact ⟨rfl, h1.1, h1.2, rfl, k1, k2, h2⟩

theorem pool_set {α : Type} {P : List (Nat × α)} {n : Nat} {x : α} (h : PoolOk P) : PoolOk (pset P n x) := by
  refine ⟨by rw [pset_keys]; exact h.1, fun y hy => ?_⟩
  have : y.1 ∈ P.map (·.1) := by rw [← pset_keys P n x]; exact List.mem_map_of_mem hy
  obtain ⟨z, hz, e⟩ := List.mem_map.1 this
  rw [← e]; exact h.2 z hz
theorem pool_more {α : Type} {P : List (Nat × α)} {n : Nat} {x : α} (h : PoolOk P) (hn : 0 < n ∧ pget P n = none) : PoolOk (P ++ [(n, x)]) := by
  refine ⟨?_, fun y hy => ?_⟩
  · rw [List.map_append, List.nodup_append]
    refine ⟨h.1, by simp, fun a ha b hb => ?_⟩
    obtain rfl : b = n := by simpa using hb
    exact fun e => (pget_none.1 hn.2) (e ▸ ha)
  · rcases List.mem_append.1 hy with hy | hy
    · exact h.2 y hy
    · obtain rfl : y = (n, x) := by simpa using hy
      exact hn.1
/-! ### Tables -/
theorem Pr.set {p r : Nat} {es : TabP} {rs : RefP} {g : Tab} {q : RefT} (h : Pr p r es rs) (ha : Alike g q) : Pr p r (pset es p (toTabP g)) (pset rs r (toRefP q)) := by
  obtain ⟨g0, q0, h1, h2, _⟩ := h
  exact ⟨g, q, pset_at h1, pset_at h2, ha⟩
theorem Pr.other {p r p' r' : Nat} {es : TabP} {rs : RefP} {x : HTden hTabP} {y : HTden hRefP} (h : Pr p r es rs) (hp : p ≠ p') (hr : r ≠ r') : Pr p r (pset es p' x) (pset rs r' y) := by
  obtain ⟨g0, q0, h1, h2, h3⟩ := h
  exact ⟨g0, q0, by rw [pset_ne hp]; exact h1, by rw [pset_ne hr]; exact h2, h3⟩
theorem Pr.more {p r : Nat} {es : TabP} {rs : RefP} {x : TabP} {y : RefP} (h : Pr p r es rs) : Pr p r (es ++ x) (rs ++ y) := by
  obtain ⟨g0, q0, h1, h2, h3⟩ := h
  exact ⟨g0, q0, pget_left h1, pget_left h2, h3⟩
theorem TwoOk.setA {t : Tbl} {es : TabP} {rs : RefP} {g : Tab} {q : RefT} (h : TwoOk t es rs) (ha : Alike g q) : TwoOk t (pset es t.a (toTabP g)) (pset rs t.c (toRefP q)) := ⟨h.ac.set ha, h.bd.other (Ne.symm h.ab) (Ne.symm h.cd), h.ab, h.cd, pool_set h.es, pool_set h.rs⟩
theorem TwoOk.setB {t : Tbl} {es : TabP} {rs : RefP} {g : Tab} {q : RefT} (h : TwoOk t es rs) (ha : Alike g q) : TwoOk t (pset es t.b (toTabP g)) (pset rs t.d (toRefP q)) := ⟨h.ac.other h.ab h.cd, h.bd.set ha, h.ab, h.cd, pool_set h.es, pool_set h.rs⟩
theorem TwoOk.pre {t : Tbl} {es : TabP} {rs : RefP} (h : TwoOk t es rs) : PreOk t es rs := ⟨.inr h.ac, .inr h.bd, fun e => absurd e h.ab, fun e => absurd e h.cd, h.es, h.rs⟩
theorem TwoOk.pos {t : Tbl} {es : TabP} {rs : RefP} (h : TwoOk t es rs) : t.a ≠ 0 ∧ t.b ≠ 0 := by
  obtain ⟨_, _, k1, _, _⟩ := h.ac
  obtain ⟨_, _, k2, _, _⟩ := h.bd
  have := h.es.2 _ (pget_mem k1)
  have := h.es.2 _ (pget_mem k2)
  simp at *; omega
theorem PreOk.two {t : Tbl} {es : TabP} {rs : RefP} (h : PreOk t es rs) (ha : t.a ≠ 0) (hb : t.b ≠ 0) : TwoOk t es rs := by
  have h1 : Pr t.a t.c es rs := h.ac.resolve_left fun x => ha x.1
  have h2 : Pr t.b t.d es rs := h.bd.resolve_left fun x => hb x.1
  refine ⟨h1, h2, fun e => ha (h.ab e), fun e => ?_, h.es, h.rs⟩
  have := h.cd e
  obtain ⟨_, q, _, k, _⟩ := h1
  rw [this] at k
  have := h.rs.2 _ (pget_mem k)
  simp at this
theorem Pr.here {p r : Nat} {es : TabP} {rs : RefP} (h : Pr p r es rs) {n : Nat} (hn : pget es n = none) : p ≠ n := fun e => by
  obtain ⟨_, _, k, _⟩ := h; rw [e, hn] at k; cases k
theorem Pr.there {p r : Nat} {es : TabP} {rs : RefP} (h : Pr p r es rs) {n : Nat} (hn : pget rs n = none) : r ≠ n := fun e => by
  obtain ⟨_, _, _, k, _⟩ := h; rw [e, hn] at k; cases k
end Go.Proofs.Ytgoikphefcgleaa.VC
