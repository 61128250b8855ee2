/- A registry and the document's are alike, whatever is done to both. Plain lemmas; no conditions but those that each names. -/
import Derived.Test.YtkhcphdnppdfjaaRg
import Derived.Test.YtkhcphdnppdfjaaRq
set_option linter.unusedVariables false
set_option linter.unusedSimpArgs false
namespace Go.Proofs.Ytkhcphdnppdfjaa.VC
open Go
theorem getD_fst (C : List (Int × Int)) (i : Nat) : (C.map (·.1)).getD i 0 = (C.getD i (0, 0)).1 := by
  simp only [List.getD, List.getElem?_map]
  cases C[i]? <;> rfl
theorem keys_range {v : Type} (C : List Int) (f : Nat → v) : keysOf ((List.range C.length).map fun i => (C.getD i 0, f i)) = C := by
  unfold keysOf
  rw [List.map_map]
  apply List.ext_getElem
  · simp
  · intro i h1 h2
    simp [List.getD, h2]
theorem mget_ents {v : Ty} {C : List Int} {f : Nat → v.den} (hn : C.Nodup) (c : Int) : mget (k := kI) (v := v) ((List.range C.length).map fun i => (C.getD i 0, f i)) c = if idxI C c < 0 then none else some (f (idxI C c).toNat) := by
  have hk := keys_range C f
  rcases idx_cases C c with ⟨h, h1⟩ | ⟨i, hi, h, h1, _⟩
  · rw [h, if_pos (by decide)]
    refine mget_none.2 fun e he => ?_
    have : e.1 ∈ C := by rw [← hk]; exact List.mem_map_of_mem he
    exact h1 e.1 this
  · rw [h, if_neg (by omega), Int.toNat_natCast]
    have hm : ((C.getD i 0, f i) : Int × v.den) ∈ (List.range C.length).map (fun i => (C.getD i 0, f i)) := List.mem_map.2 ⟨i, List.mem_range.2 hi, rfl⟩
    have := mget_of_mem (q := .i64) (v := v) (by rw [hk]; exact hn) hm
    have e : C.getD i 0 = c := by simp [List.getD, hi, h1]
    rw [e] at this
    simp only [e] at this ⊢
    exact this
theorem ents_snoc {α : Type} (C : List α) (x : α) (d : α) {β : Type} (f : Nat → α → β) : (List.range (C ++ [x]).length).map (fun i => f i ((C ++ [x]).getD i d)) = (List.range C.length).map (fun i => f i (C.getD i d)) ++ [f C.length x] := by
  rw [List.length_append, List.length_singleton, List.range_succ, List.map_append]
  congr 1
  · refine List.map_congr_left fun i hi => ?_
    have := List.mem_range.1 hi
    simp only [List.getD]
    rw [List.getElem?_append_left this]
  · simp [List.getD]
section
variable {r : Reg} {q : RefR} (h : Alike r q)
include h
theorem Alike.e' : r.E = (List.range (q.C.map (·.1)).length).map fun i => ((q.C.map (·.1)).getD i 0, ((i : Int), (q.C.getD i (0, 0)).2)) := by
  rw [h.e, List.length_map]
  exact List.map_congr_left fun i _ => by rw [getD_fst]
theorem Alike.lenE : r.E.length = q.C.length := by rw [h.e]; simp
theorem Alike.lenM : r.M.length = q.G.length := by rw [h.m]; simp
theorem Alike.keysE : keysOf r.E = q.C.map (·.1) := by rw [h.e']; exact keys_range _ _
theorem Alike.keysM : keysOf r.M = q.G := by rw [h.m]; exact keys_range _ _
theorem Alike.getE (c : Int) : mgE r.E c = if q.counter c < 0 then none else some (((q.counter c).toNat : Int), (q.C.getD (q.counter c).toNat (0, 0)).2) := by
  rw [h.e']; exact mget_ents (v := kS) h.ndC c
theorem Alike.getM (g : Int) : mgM r.M g = if q.group' g < 0 then none else some ((q.group' g).toNat : Int) := by
  rw [h.m]; exact mget_ents (v := kI) h.ndG g
theorem Alike.okQ : q.ok := ⟨h.p2, h.p64, by have := h.lc; omega, by have := h.lg; omega⟩
theorem Alike.okR : r.ok := by
  refine ⟨by rw [h.pg]; exact h.p2, by rw [h.pg]; exact h.p64, by rw [h.lenE]; have := h.lc; omega, by rw [h.lenM]; have := h.lg; omega, fun e he => ?_, fun e he => ?_⟩
  · rw [h.m] at he
    obtain ⟨i, hi, rfl⟩ := List.mem_map.1 he
    have := List.mem_range.1 hi; have := h.lg
    exact ⟨by show (0 : Int) ≤ (i : Int); omega, by show (i : Int) ≤ _; omega⟩
  · rw [h.e] at he
    obtain ⟨i, hi, rfl⟩ := List.mem_map.1 he
    have := List.mem_range.1 hi; have := h.lc
    exact ⟨by show (0 : Int) ≤ (i : Int); omega, by show (i : Int) ≤ _; omega⟩
theorem Alike.plan (c g : Int) : r.plan c g = q.plan c g := by
  have i1 := idx_lt (q.C.map (·.1)) c
  have i2 := idx_lt q.G g
  have e1 : ((mgE r.E c).isSome = true) ↔ 0 ≤ q.counter c := by
    rw [h.getE]
    by_cases hc : q.counter c < 0
    · rw [if_pos hc]; simp; omega
    · rw [if_neg hc]; simp; omega
  unfold Reg.plan RefR.plan
  rw [h.lenE, h.lenM, h.pg]
  by_cases a1 : c < 1 ∨ 1048576 < c ∨ g < 1 ∨ 1048576 < g
  · rw [if_pos a1, if_pos a1]
  · rw [if_neg a1, if_neg a1]
    by_cases a2 : 0 ≤ q.counter c
    · rw [if_pos (e1.2 a2), if_pos a2]
    · rw [if_neg (fun x => a2 (e1.1 x)), if_neg a2]
      by_cases a3 : q.group' g < 0
      · rw [h.getM, if_pos a3, if_pos a3, if_pos a3]
        simp
      · have e3 : ((q.group' g).toNat : Int) = q.group' g := by omega
        rw [h.getM, if_neg a3, if_neg a3, if_neg a3, e3]
        simp
theorem Alike.takeE (c g : Int) (w s : Int × Int) : r.takeE c g w s = q.takeE c g w s := by
  unfold Reg.takeE RefR.takeE; rw [h.plan]
theorem Alike.find (c : Int) : r.find c = q.find c := by
  have i1 := idx_lt (q.C.map (·.1)) c
  unfold Reg.find RefR.find
  rw [h.getE]
  by_cases a : q.counter c < 0
  · rw [if_pos a, if_pos a]
  · rw [if_neg a, if_neg a]
    have e3 : ((q.counter c).toNat : Int) = q.counter c := by omega
    simp only [e3]
    rw [h.getM, h.pg]
    rcases idx_cases q.G (q.C.getD (q.counter c).toNat (0, 0)).2 with ⟨k, h2⟩ | ⟨j, hj, k, _, _⟩
    · exfalso
      have hi : (q.counter c).toNat < q.C.length := by
        have : q.counter c < (q.C.map (·.1)).length := i1.2
        rw [List.length_map] at this; omega
      have e : q.C.getD (q.counter c).toNat (0, 0) = q.C[(q.counter c).toNat] := by simp [List.getD, hi]
      rw [e] at h2
      exact h2 _ (h.whole _ (List.getElem_mem hi)) rfl
    · have k : q.group' (q.C.getD (q.counter c).toNat (0, 0)).2 = (j : Int) := k
      rw [k, if_neg (by omega)]
      simp
theorem Alike.group (g : Int) : r.group g = q.group g := by
  have i2 := idx_lt q.G g
  unfold Reg.group RefR.group
  rw [h.getM, h.pg]
  by_cases a : q.group' g < 0
  · rw [if_pos a, if_pos a]
  · have e3 : ((q.group' g).toNat : Int) = q.group' g := by have : -1 ≤ q.group' g := i2.1; omega
    rw [if_neg a, if_neg a]
    simp only [e3]
theorem Alike.take (c g : Int) (w s : Int × Int) : Alike (r.take c g w s) (q.take c g w s) := by
  unfold Reg.take RefR.take
  rw [h.takeE]
  by_cases a : q.takeE c g w s = 0
  · rw [if_pos a, if_pos a]
    have hp : (q.plan c g).e = 0 := by
      unfold RefR.takeE at a
      split at a
      · exact a
      · rename_i hh; simpa using hh
    have hc : ¬ 0 ≤ q.counter c ∧ ¬ q.pages < nd (q.C.length + 1) 31 + nd (if q.group' g < 0 then (q.G.length : Int) + 1 else q.G.length) 84 := by
      unfold RefR.plan at hp
      by_cases h1 : c < 1 ∨ 1048576 < c ∨ g < 1 ∨ 1048576 < g
      · rw [if_pos h1] at hp; simp at hp
      · rw [if_neg h1] at hp
        by_cases h2 : 0 ≤ q.counter c
        · rw [if_pos h2] at hp; simp at hp
        · rw [if_neg h2] at hp
          refine ⟨h2, fun h3 => ?_⟩
          rw [if_pos h3] at hp; simp at hp
    obtain ⟨c1, c2⟩ := hc
    have p64 := h.p64
    have hno : ∀ p ∈ q.C.map (·.1), p ≠ c := by
      rcases idx_cases (q.C.map (·.1)) c with ⟨_, k⟩ | ⟨i, hi, k, _⟩
      · exact k
      · exact absurd (show 0 ≤ q.counter c by show 0 ≤ idxI _ c; omega) c1
    have hE : msE r.E c (r.E.length, g) = r.E ++ [(c, ((r.E.length : Int), g))] := by
      refine mset_none (q := .i64) (mget_none.2 fun e he => ?_)
      have : e.1 ∈ keysOf r.E := List.mem_map_of_mem he
      rw [h.keysE] at this
      exact hno _ this
    have hlc : nd (q.C.length + 1) 31 ≤ 64 := by unfold nd at c2 ⊢; split at c2 <;> omega
    have ndC' : ((q.C ++ [(c, g)]).map (·.1)).Nodup := by
      rw [List.map_append, List.nodup_append]
      refine ⟨h.ndC, by simp, fun x hx y hy => ?_⟩
      obtain rfl : y = c := by simpa using hy
      exact hno x hx
    have hEs : (Reg.add r c g).E = (List.range (q.C ++ [(c, g)]).length).map fun i => (((q.C ++ [(c, g)]).getD i (0, 0)).1, ((i : Int), ((q.C ++ [(c, g)]).getD i (0, 0)).2)) := by
      show msE r.E c (r.E.length, g) = _
      rw [hE, ents_snoc q.C (c, g) (0, 0) (fun i p => (p.1, ((i : Int), p.2))), ← h.e, h.lenE]
    by_cases a3 : q.group' g < 0
    · have hng : ∀ p ∈ q.G, p ≠ g := by
        rcases idx_cases q.G g with ⟨_, k⟩ | ⟨i, hi, k, _⟩
        · exact k
        · exact absurd (show ¬ q.group' g < 0 by show ¬ idxI _ g < 0; omega) (fun x => x a3)
      have hs : (mgM r.M g).isSome = false := by rw [h.getM, if_pos a3]; rfl
      have hM : msM r.M g r.M.length = r.M ++ [(g, (r.M.length : Int))] := by
        refine mset_none (q := .i64) (mget_none.2 fun e he => ?_)
        have : e.1 ∈ keysOf r.M := List.mem_map_of_mem he
        rw [h.keysM] at this
        exact hng _ this
      rw [if_pos a3] at c2 ⊢
      refine ⟨h.pg, h.p2, h.p64, hEs, ?_, ndC', ?_, ?_, ?_, ?_⟩
      · show (if (mgM r.M g).isSome = true then r.M else msM r.M g r.M.length) = _
        rw [hs, if_neg (by simp), hM, ents_snoc q.G g 0 (fun i p => (p, (i : Int))), ← h.m, h.lenM]
      · rw [List.nodup_append]
        refine ⟨h.ndG, by simp, fun x hx y hy => ?_⟩
        obtain rfl : y = g := by simpa using hy
        exact hng x hx
      · intro p hp
        rcases List.mem_append.1 hp with hp | hp
        · exact List.mem_append_left _ (h.whole p hp)
        · obtain rfl : p = (c, g) := by simpa using hp
          simp
      · simp only [List.length_append, List.length_singleton]; unfold nd at hlc; omega
      · simp only [List.length_append, List.length_singleton]; unfold nd at c2; omega
    · have hs : (mgM r.M g).isSome = true := by rw [h.getM, if_neg a3]; rfl
      rw [if_neg a3]
      refine ⟨h.pg, h.p2, h.p64, hEs, ?_, ndC', h.ndG, ?_, ?_, h.lg⟩
      · show (if (mgM r.M g).isSome = true then r.M else msM r.M g r.M.length) = _
        rw [hs, if_pos rfl, h.m]
      · intro p hp
        rcases List.mem_append.1 hp with hp | hp
        · exact h.whole p hp
        · obtain rfl : p = (c, g) := by simpa using hp
          rcases idx_cases q.G g with ⟨k, _⟩ | ⟨i, hi, k, k2, _⟩
          · exact absurd (show q.group' g < 0 by show idxI _ g < 0; omega) a3
          · show g ∈ q.G
            rw [← k2]; exact List.getElem_mem hi
      · simp only [List.length_append, List.length_singleton]; unfold nd at hlc; omega
  · rw [if_neg a, if_neg a]; exact h
end
theorem Alike.new {n : Int} (h : 2 ≤ n ∧ n ≤ 64) : Alike ⟨n, [], []⟩ ⟨n, [], []⟩ := ⟨rfl, h.1, h.2, rfl, rfl, .nil, .nil, fun p hp => by simp at hp, by simp, by simp⟩

theorem pool_set {α : Type} {P : List (Nat × α)} {n : Nat} {x : α} (h : PoolOk P) : PoolOk (pset P n x) := by
  refine ⟨by rw [pset_keys]; exact h.1, fun y hy => ?_⟩
  have : y.1 ∈ P.map (·.1) := by rw [← pset_keys P n x]; exact List.mem_map_of_mem hy
  obtain ⟨z, hz, e⟩ := List.mem_map.1 this
  rw [← e]; exact h.2 z hz
/-! ### Tables -/
theorem Pr.set {p r : Nat} {es : RegP} {rs : RefP} {g : Reg} {q : RefR} (h : Pr p r es rs) (ha : Alike g q) : Pr p r (pset es p (toRegP g)) (pset rs r (toRefP q)) := by
  obtain ⟨g0, q0, h1, h2, _⟩ := h
  exact ⟨g, q, pset_at h1, pset_at h2, ha⟩
theorem Pr.other {p r p' r' : Nat} {es : RegP} {rs : RefP} {x : HTden hRegP} {y : HTden hRefP} (h : Pr p r es rs) (hp : p ≠ p') (hr : r ≠ r') : Pr p r (pset es p' x) (pset rs r' y) := by
  obtain ⟨g0, q0, h1, h2, h3⟩ := h
  exact ⟨g0, q0, by rw [pset_ne hp]; exact h1, by rw [pset_ne hr]; exact h2, h3⟩
theorem Pr.more {p r : Nat} {es : RegP} {rs : RefP} {x : RegP} {y : RefP} (h : Pr p r es rs) : Pr p r (es ++ x) (rs ++ y) := by
  obtain ⟨g0, q0, h1, h2, h3⟩ := h
  exact ⟨g0, q0, pget_left h1, pget_left h2, h3⟩
theorem TwoOk.setA {t : Tbl} {es : RegP} {rs : RefP} {g : Reg} {q : RefR} (h : TwoOk t es rs) (ha : Alike g q) : TwoOk t (pset es t.a (toRegP g)) (pset rs t.c (toRefP q)) := ⟨h.ac.set ha, h.bd.other (Ne.symm h.ab) (Ne.symm h.cd), h.ab, h.cd, pool_set h.es, pool_set h.rs⟩
theorem TwoOk.setB {t : Tbl} {es : RegP} {rs : RefP} {g : Reg} {q : RefR} (h : TwoOk t es rs) (ha : Alike g q) : TwoOk t (pset es t.b (toRegP g)) (pset rs t.d (toRefP q)) := ⟨h.ac.other h.ab h.cd, h.bd.set ha, h.ab, h.cd, pool_set h.es, pool_set h.rs⟩
theorem TwoOk.pre {t : Tbl} {es : RegP} {rs : RefP} (h : TwoOk t es rs) : PreOk t es rs := ⟨.inr h.ac, .inr h.bd, fun e => absurd e h.ab, fun e => absurd e h.cd, h.es, h.rs⟩
theorem TwoOk.pos {t : Tbl} {es : RegP} {rs : RefP} (h : TwoOk t es rs) : t.a ≠ 0 ∧ t.b ≠ 0 := by
  obtain ⟨_, _, k1, _, _⟩ := h.ac
  obtain ⟨_, _, k2, _, _⟩ := h.bd
  have := h.es.2 _ (pget_mem k1)
  have := h.es.2 _ (pget_mem k2)
  simp at *; omega
theorem PreOk.two {t : Tbl} {es : RegP} {rs : RefP} (h : PreOk t es rs) (ha : t.a ≠ 0) (hb : t.b ≠ 0) : TwoOk t es rs := by
  have h1 : Pr t.a t.c es rs := h.ac.resolve_left fun x => ha x.1
  have h2 : Pr t.b t.d es rs := h.bd.resolve_left fun x => hb x.1
  refine ⟨h1, h2, fun e => ha (h.ab e), fun e => ?_, h.es, h.rs⟩
  have := h.cd e
  obtain ⟨_, q, _, k, _⟩ := h1
  rw [this] at k
  have := h.rs.2 _ (pget_mem k)
  simp at this
theorem pool_more {α : Type} {P : List (Nat × α)} {n : Nat} {x : α} (h : PoolOk P) (hn : 0 < n ∧ pget P n = none) : PoolOk (P ++ [(n, x)]) := by
  refine ⟨?_, fun y hy => ?_⟩
  · rw [List.map_append, List.nodup_append]
    refine ⟨h.1, by simp, fun a ha b hb => ?_⟩
    obtain rfl : b = n := by simpa using hb
    exact fun e => (pget_none.1 hn.2) (e ▸ ha)
  · rcases List.mem_append.1 hy with hy | hy
    · exact h.2 y hy
    · obtain rfl : y = (n, x) := by simpa using hy
      exact hn.1
theorem Pr.here {p r : Nat} {es : RegP} {rs : RefP} (h : Pr p r es rs) {n : Nat} (hn : pget es n = none) : p ≠ n := fun e => by
  obtain ⟨_, _, k, _⟩ := h; rw [e, hn] at k; cases k
theorem Pr.there {p r : Nat} {es : RegP} {rs : RefP} (h : Pr p r es rs) {n : Nat} (hn : pget rs n = none) : r ≠ n := fun e => by
  obtain ⟨_, _, _, k, _⟩ := h; rw [e, hn] at k; cases k
end Go.Proofs.Ytkhcphdnppdfjaa.VC
