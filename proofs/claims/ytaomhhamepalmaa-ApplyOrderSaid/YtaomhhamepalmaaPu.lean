/- What records do to pages, as plain facts: done again, taken back, either way round, in chains. Conditions: as each theorem states them. -/
import Derived.Test.YtaomhhamepalmaaLa
import Derived.Test.YtaomhhamepalmaaAp
set_option linter.unusedVariables false
set_option linter.unusedSimpArgs false
namespace Go.Proofs.Ytaomhhamepalmaa.VC
open Go

def curC (p : Pg) (r : Rc) : Cn := p.2.2.1.getD r.2.2.2.2.1.2.toNat (0, 0, (0, 0), 0)
def curG (p : Pg) (r : Rc) : Gr := p.2.2.2.getD r.2.2.2.2.2.1.2.toNat (0, 0)
structure TookC (f : Int) (p : Pg) (r : Rc) : Prop where
  gs : p.2.2.2 = []
  lo : 0 ≤ r.2.2.2.2.1.2
  hi : r.2.2.2.2.1.2.toNat < p.2.2.1.length
  id : (curC p r).1 = r.2.2.2.2.2.2.2.1.1
  st : (stepV f r.2.2.2.2.2.2.1 (curC p r).2.2.2).2 = 0
structure TookG (f : Int) (p : Pg) (r : Rc) : Prop where
  cs : p.2.2.1 = []
  lo : 0 ≤ r.2.2.2.2.2.1.2
  hi : r.2.2.2.2.2.1.2.toNat < p.2.2.2.length
  st : (stepV f r.2.2.2.2.2.2.1 (curG p r).2).2 = 0
def newC (f : Int) (p : Pg) (r : Rc) : List Cn := p.2.2.1.set r.2.2.2.2.1.2.toNat ((curC p r).1, (curC p r).2.1, (curC p r).2.2.1, (stepV f r.2.2.2.2.2.2.1 (curC p r).2.2.2).1)
def newG (f : Int) (p : Pg) (r : Rc) : List Gr := p.2.2.2.set r.2.2.2.2.2.1.2.toNat ((curG p r).1, (stepV f r.2.2.2.2.2.2.1 (curG p r).2).1)

theorem counter_took {f : Int} {p : Pg} {r : Rc} (hk : r.2.1 ≠ 2) (h : (counterF f r.2.2.2.2.2.2.1 p r).1 = 0) : TookC f p r ∧ (counterF f r.2.2.2.2.2.2.1 p r).2 = newC f p r := by
  unfold counterF setC at *
  split at h
  · simp at h
  rename_i h1
  try rw [if_neg hk] at h
  split at h
  · simp at h
  rename_i h2
  split at h
  · simp at h
  rename_i h3
  split at h
  · rename_i h4; exact absurd h h4
  rename_i h4
  have g0 : p.2.2.2 = [] := List.length_eq_zero_iff.1 (by omega)
  refine ⟨⟨g0, by omega, by omega, by simpa [curC] using h3, by simpa [curC] using h4⟩, ?_⟩
  rw [if_neg h1, if_neg hk, if_neg h2, if_neg h3, if_neg h4]
  rfl
theorem counter_go {f : Int} {p : Pg} {r : Rc} (hk : r.2.1 ≠ 2) (h : TookC f p r) : counterF f r.2.2.2.2.2.2.1 p r = (0, newC f p r) := by
  obtain ⟨h1, h2, h3, h4, h5⟩ := h
  unfold counterF setC
  rw [if_neg (by rw [h1]; simp), if_neg hk, if_neg (by omega), if_neg (by simpa [curC] using h4), if_neg (by simpa [curC] using h5)]
  rfl
theorem sum_took {f : Int} {p : Pg} {r : Rc} (hk : r.2.1 ≠ 2) (h : (sumF f r.2.2.2.2.2.2.1 p r).1 = 0) : TookG f p r ∧ (sumF f r.2.2.2.2.2.2.1 p r).2 = newG f p r := by
  unfold sumF setG at *
  split at h
  · simp at h
  rename_i h1
  try rw [if_neg hk] at h
  split at h
  · simp at h
  rename_i h2
  split at h
  · rename_i h4; exact absurd h h4
  rename_i h4
  have g0 : p.2.2.1 = [] := List.length_eq_zero_iff.1 (by omega)
  refine ⟨⟨g0, by omega, by omega, by simpa [curG] using h4⟩, ?_⟩
  rw [if_neg h1, if_neg hk, if_neg h2, if_neg h4]
  rfl
theorem sum_go {f : Int} {p : Pg} {r : Rc} (hk : r.2.1 ≠ 2) (h : TookG f p r) : sumF f r.2.2.2.2.2.2.1 p r = (0, newG f p r) := by
  obtain ⟨h1, h2, h3, h5⟩ := h
  unfold sumF setG
  rw [if_neg (by rw [h1]; simp), if_neg hk, if_neg (by omega), if_neg (by simpa [curG] using h5)]
  rfl

/-- The page that a record may be done to. -/
structure Meet (p : Pg) (r : Rc) : Prop where
  kind : changesB r.2.1 = true
  lo : 1 ≤ r.1
  hi : r.1 ≤ 2147483647
  two : r.2.2.2.2.1.1 ≠ r.2.2.2.2.2.1.1
  one : p.1 = r.2.2.2.2.1.1 ∨ p.1 = r.2.2.2.2.2.1.1
def stp (r : Rc) : Int := if r.2.1 = 4 then 30 else 29

theorem do_ok {p : Pg} {r : Rc} {did : Bool} {q : Pg} (h : doF p r = (0, did, q)) : Meet p r ∧
    ((did = false ∧ q = p ∧ r.1 ≤ p.2.1) ∨
     (did = true ∧ p.2.1 < r.1 ∧ p.1 = r.2.2.2.2.1.1 ∧ (counterF (stp r) r.2.2.2.2.2.2.1 p r).1 = 0 ∧ q = (p.1, r.1, (counterF (stp r) r.2.2.2.2.2.2.1 p r).2, p.2.2.2)) ∨
     (did = true ∧ p.2.1 < r.1 ∧ p.1 ≠ r.2.2.2.2.1.1 ∧ (sumF (stp r) r.2.2.2.2.2.2.1 p r).1 = 0 ∧ q = (p.1, r.1, p.2.2.1, (sumF (stp r) r.2.2.2.2.2.2.1 p r).2))) := by
  unfold doF at h
  rw [show (if r.2.1 = 4 then (30 : Int) else 29) = stp r from rfl] at h
  split at h
  · simp at h
  rename_i h1
  split at h
  · simp at h
  rename_i h2
  split at h
  · simp at h
  rename_i h3
  have m : Meet p r := ⟨by simpa using h1, by omega, by omega, by omega, by omega⟩
  split at h
  · rename_i h4
    obtain ⟨_, h⟩ := Prod.mk.inj h
    obtain ⟨k1, k2⟩ := Prod.mk.inj h
    exact ⟨m, .inl ⟨k1.symm, k2.symm, h4⟩⟩
  rename_i h4
  split at h
  · rename_i h5
    split at h
    · rename_i h6; exact absurd (Prod.mk.inj h).1 h6
    rename_i h6
    obtain ⟨_, h⟩ := Prod.mk.inj h
    obtain ⟨k1, k2⟩ := Prod.mk.inj h
    exact ⟨m, .inr (.inl ⟨k1.symm, by omega, h5, by simpa using h6, k2.symm⟩)⟩
  · rename_i h5
    split at h
    · rename_i h6; exact absurd (Prod.mk.inj h).1 h6
    rename_i h6
    obtain ⟨_, h⟩ := Prod.mk.inj h
    obtain ⟨k1, k2⟩ := Prod.mk.inj h
    exact ⟨m, .inr (.inr ⟨k1.symm, by omega, h5, by simpa using h6, k2.symm⟩)⟩
theorem do_old {p : Pg} {r : Rc} (m : Meet p r) (h : r.1 ≤ p.2.1) : doF p r = (0, false, p) := by
  obtain ⟨h1, h2, h3, h4, h5⟩ := m
  unfold doF
  rw [if_neg (by rw [h1]; decide), if_neg (by omega), if_neg (by omega), if_pos h]
theorem do_c {p : Pg} {r : Rc} (m : Meet p r) (h : p.2.1 < r.1) (hn : p.1 = r.2.2.2.2.1.1) {l : List Cn} (hc : counterF (stp r) r.2.2.2.2.2.2.1 p r = (0, l)) : doF p r = (0, true, (p.1, r.1, l, p.2.2.2)) := by
  obtain ⟨h1, h2, h3, h4, h5⟩ := m
  unfold doF
  unfold stp at hc
  rw [if_neg (by rw [h1]; decide), if_neg (by omega), if_neg (by omega), if_neg (by omega), if_pos hn, hc]
  rfl
theorem do_g {p : Pg} {r : Rc} (m : Meet p r) (h : p.2.1 < r.1) (hn : p.1 ≠ r.2.2.2.2.1.1) {l : List Gr} (hc : sumF (stp r) r.2.2.2.2.2.2.1 p r = (0, l)) : doF p r = (0, true, (p.1, r.1, p.2.2.1, l)) := by
  obtain ⟨h1, h2, h3, h4, h5⟩ := m
  unfold doF
  unfold stp at hc
  rw [if_neg (by rw [h1]; decide), if_neg (by omega), if_neg (by omega), if_neg (by omega), if_neg hn, hc]
  rfl
/-- A record that is no younger than the page: nothing is done. -/
theorem do_elder {p : Pg} {r : Rc} (h : r.1 ≤ p.2.1) : (doF p r).1 ≠ 0 ∨ doF p r = (0, false, p) := by
  by_cases h0 : (doF p r).1 = 0
  · right
    obtain ⟨m, _⟩ := do_ok (p := p) (r := r) (did := (doF p r).2.1) (q := (doF p r).2.2) (by rw [← h0])
    exact do_old m h
  · exact .inl h0
theorem do_num {p : Pg} {r : Rc} {did : Bool} {q : Pg} (h : doF p r = (0, did, q)) : q.1 = p.1 ∧ (did = true → q.2.1 = r.1) := by
  obtain ⟨m, h | h | h⟩ := do_ok h
  · obtain ⟨rfl, rfl, _⟩ := h; exact ⟨rfl, fun h => by cases h⟩
  · rw [h.2.2.2.2]; exact ⟨rfl, fun _ => rfl⟩
  · rw [h.2.2.2.2]; exact ⟨rfl, fun _ => rfl⟩
/-- Done again, nothing is done. -/
theorem do_again {p : Pg} {r : Rc} {did : Bool} {q : Pg} (h : doF p r = (0, did, q)) : doF q r = (0, false, q) ∧ (did = true → q.2.1 = r.1) ∧ (did = false → q = p) := by
  obtain ⟨n1, n2⟩ := do_num h
  obtain ⟨m, h' | h' | h'⟩ := do_ok h
  · obtain ⟨rfl, rfl, h3⟩ := h'
    exact ⟨do_old m h3, n2, fun _ => rfl⟩
  · have m' : Meet q r := ⟨m.kind, m.lo, m.hi, m.two, by rw [n1]; exact m.one⟩
    exact ⟨do_old m' (by rw [n2 h'.1]; exact Int.le_refl _), n2, fun e => by rw [h'.1] at e; cases e⟩
  · have m' : Meet q r := ⟨m.kind, m.lo, m.hi, m.two, by rw [n1]; exact m.one⟩
    exact ⟨do_old m' (by rw [n2 h'.1]; exact Int.le_refl _), n2, fun e => by rw [h'.1] at e; cases e⟩

theorem getD_set_self {α : Type} {l : List α} {i : Nat} {x d : α} (h : i < l.length) : (l.set i x).getD i d = x := by
  simp [List.getD, h]
theorem getD_set_other {α : Type} {l : List α} {i j : Nat} {x d : α} (h : i ≠ j) : (l.set i x).getD j d = l.getD j d := by
  simp [List.getD, List.getElem?_set_ne h]
theorem set_getD_self {α : Type} {l : List α} {i : Nat} {d : α} (h : i < l.length) : l.set i (l.getD i d) = l := by
  simp [List.getD, h]

def NumsC (l : List Cn) : Prop := ∀ c ∈ l, Num c.2.2.2
def NumsG (l : List Gr) : Prop := ∀ c ∈ l, Num c.2
theorem num_getC {l : List Cn} {i : Nat} {d : Cn} (h : NumsC l) (hi : i < l.length) : Num (l.getD i d).2.2.2 := by
  have : l.getD i d = l[i] := by simp [List.getD, hi]
  rw [this]; exact h _ (List.getElem_mem hi)
theorem num_getG {l : List Gr} {i : Nat} {d : Gr} (h : NumsG l) (hi : i < l.length) : Num (l.getD i d).2 := by
  have : l.getD i d = l[i] := by simp [List.getD, hi]
  rw [this]; exact h _ (List.getElem_mem hi)
theorem step_zero {f d v : Int} (h : (stepV f d v).2 = 0) : (stepV f d v).1 = (if f = 30 then v - d else v + d) ∧ Num (stepV f d v).1 := by
  unfold stepV at *
  split at h
  · rename_i hf
    by_cases hn : Num (v - d)
    · rw [if_pos hf, ans_yes hn, if_pos hf]; exact ⟨rfl, hn⟩
    · rw [ans_no hn] at h; simp at h
  · rename_i hf
    by_cases hn : Num (v + d)
    · rw [if_neg hf, ans_yes hn, if_neg hf]; exact ⟨rfl, hn⟩
    · rw [ans_no hn] at h; simp at h
theorem step_go {f d v : Int} (h : Num (if f = 30 then v - d else v + d)) : stepV f d v = ((if f = 30 then v - d else v + d), 0) := by
  unfold stepV
  split
  · rename_i hf; rw [if_pos hf] at h; exact ans_yes h
  · rename_i hf; rw [if_neg hf] at h; exact ans_yes h

/-- An add, and its undo. -/
theorem do_back {p : Pg} {r u : Rc} {q : Pg} (hk : r.2.1 = 3) (hC : NumsC p.2.2.1) (hG : NumsG p.2.2.2) (h : doF p r = (0, true, q)) (hu : u.2.1 = 4) (hr : u.2.2 = r.2.2) (hl : r.1 < u.1) (hx : u.1 ≤ 2147483647) :
    doF q u = (0, true, (p.1, u.1, p.2.2)) := by
  obtain ⟨m, h' | h' | h'⟩ := do_ok h
  · exact absurd h'.1 (by decide)
  · obtain ⟨_, h2, h3, h4, rfl⟩ := h'
    have ms : Meet (p.1, r.1, (counterF (stp r) r.2.2.2.2.2.2.1 p r).2, p.2.2.2) u := ⟨by rw [hu]; decide, by have := m.lo; omega, hx, by rw [hr]; exact m.two, by rw [hr]; exact m.one⟩
    have sr : stp r = 29 := by unfold stp; rw [hk]; rfl
    have su : stp u = 30 := by unfold stp; rw [hu]; rfl
    rw [sr] at h4 ms ⊢
    obtain ⟨t, e⟩ := counter_took (by rw [hk]; decide) h4
    obtain ⟨s1, s2⟩ := step_zero t.st
    have v0 : Num (curC p r).2.2.2 := num_getC hC t.hi
    rw [e]
    have e1 : (stepV 29 r.2.2.2.2.2.2.1 (curC p r).2.2.2).1 = (curC p r).2.2.2 + r.2.2.2.2.2.2.1 := by rw [s1]; rfl
    have c1 : curC (p.1, r.1, newC 29 p r, p.2.2.2) u = ((curC p r).1, (curC p r).2.1, (curC p r).2.2.1, (curC p r).2.2.2 + r.2.2.2.2.2.2.1) := by
      unfold curC newC
      rw [hr]
      simp only
      rw [getD_set_self t.hi, e1]; rfl
    have c2 : stepV 30 u.2.2.2.2.2.2.1 ((curC p r).2.2.2 + r.2.2.2.2.2.2.1) = ((curC p r).2.2.2, 0) := by
      have : (if (30 : Int) = 30 then (curC p r).2.2.2 + r.2.2.2.2.2.2.1 - u.2.2.2.2.2.2.1 else (curC p r).2.2.2 + r.2.2.2.2.2.2.1 + u.2.2.2.2.2.2.1) = (curC p r).2.2.2 := by
        rw [if_pos rfl, hr]; omega
      rw [step_go (by rw [this]; exact v0), this]
    have t2 : TookC 30 (p.1, r.1, newC 29 p r, p.2.2.2) u := by
      refine ⟨t.gs, by rw [hr]; exact t.lo, ?_, ?_, ?_⟩
      · rw [hr]; show _ < (newC 29 p r).length; unfold newC; rw [List.length_set]; exact t.hi
      · rw [c1, hr]; exact t.id
      · rw [c1, c2]
    rw [e] at ms
    have := do_c ms (by show r.1 < u.1; exact hl) (by rw [hr]; exact h3) (l := p.2.2.1) (by
      rw [su, counter_go (by rw [hu]; decide) t2]
      congr 1
      rw [show newC 30 (p.1, r.1, newC 29 p r, p.2.2.2) u = (newC 29 p r).set u.2.2.2.2.1.2.toNat ((curC (p.1, r.1, newC 29 p r, p.2.2.2) u).1, (curC (p.1, r.1, newC 29 p r, p.2.2.2) u).2.1, (curC (p.1, r.1, newC 29 p r, p.2.2.2) u).2.2.1, (stepV 30 u.2.2.2.2.2.2.1 (curC (p.1, r.1, newC 29 p r, p.2.2.2) u).2.2.2).1) from rfl, c1, c2]
      unfold newC
      simp only [hr, List.set_set]
      exact set_getD_self t.hi)
    rw [this]
  · obtain ⟨_, h2, h3, h4, rfl⟩ := h'
    have ms : Meet (p.1, r.1, p.2.2.1, (sumF (stp r) r.2.2.2.2.2.2.1 p r).2) u := ⟨by rw [hu]; decide, by have := m.lo; omega, hx, by rw [hr]; exact m.two, by rw [hr]; exact m.one⟩
    have sr : stp r = 29 := by unfold stp; rw [hk]; rfl
    have su : stp u = 30 := by unfold stp; rw [hu]; rfl
    rw [sr] at h4 ms ⊢
    obtain ⟨t, e⟩ := sum_took (by rw [hk]; decide) h4
    obtain ⟨s1, s2⟩ := step_zero t.st
    have v0 : Num (curG p r).2 := num_getG hG t.hi
    rw [e]
    have e1 : (stepV 29 r.2.2.2.2.2.2.1 (curG p r).2).1 = (curG p r).2 + r.2.2.2.2.2.2.1 := by rw [s1]; rfl
    have c1 : curG (p.1, r.1, p.2.2.1, newG 29 p r) u = ((curG p r).1, (curG p r).2 + r.2.2.2.2.2.2.1) := by
      unfold curG newG
      rw [hr]
      simp only
      rw [getD_set_self t.hi, e1]; rfl
    have c2 : stepV 30 u.2.2.2.2.2.2.1 ((curG p r).2 + r.2.2.2.2.2.2.1) = ((curG p r).2, 0) := by
      have : (if (30 : Int) = 30 then (curG p r).2 + r.2.2.2.2.2.2.1 - u.2.2.2.2.2.2.1 else (curG p r).2 + r.2.2.2.2.2.2.1 + u.2.2.2.2.2.2.1) = (curG p r).2 := by
        rw [if_pos rfl, hr]; omega
      rw [step_go (by rw [this]; exact v0), this]
    have t2 : TookG 30 (p.1, r.1, p.2.2.1, newG 29 p r) u := by
      refine ⟨t.cs, by rw [hr]; exact t.lo, ?_, ?_⟩
      · rw [hr]; show _ < (newG 29 p r).length; unfold newG; rw [List.length_set]; exact t.hi
      · rw [c1, c2]
    rw [e] at ms
    have := do_g ms (by show r.1 < u.1; exact hl) (by rw [hr]; exact h3) (l := p.2.2.2) (by
      rw [su, sum_go (by rw [hu]; decide) t2]
      congr 1
      rw [show newG 30 (p.1, r.1, p.2.2.1, newG 29 p r) u = (newG 29 p r).set u.2.2.2.2.2.1.2.toNat ((curG (p.1, r.1, p.2.2.1, newG 29 p r) u).1, (stepV 30 u.2.2.2.2.2.2.1 (curG (p.1, r.1, p.2.2.1, newG 29 p r) u).2).1) from rfl, c1, c2]
      unfold newG
      simp only [hr, List.set_set]
      exact set_getD_self t.hi)
    rw [this]

/-! ### Chains -/

theorem go_elder {p : Pg} {r : Rc} (h : r.1 ≤ p.2.1) : goF p r = p := by
  unfold goF
  rcases do_elder h with h0 | h0
  · rw [if_neg h0]
  · rw [h0]; rfl
theorem go_lsn (p : Pg) (r : Rc) : goF p r = p ∨ (goF p r).2.1 = r.1 := by
  unfold goF
  split
  · rename_i h0
    have h : doF p r = (0, (doF p r).2.1, (doF p r).2.2) := by rw [← h0]
    cases hd : (doF p r).2.1 with
    | true => exact .inr ((do_num h).2 hd)
    | false => exact .inl ((do_again h).2.2 hd)
  · exact .inl rfl
theorem fix_self (p : Pg) (x : Rc) : goF (goF p x) x = goF p x := by
  rcases go_lsn p x with h | h
  · rw [h]; exact h
  · exact go_elder (by rw [h]; exact Int.le_refl _)
theorem fix_keep (x : Rc) : ∀ (l : List Rc) (q : Pg), (∀ y ∈ l, x.1 < y.1) → goF q x = q → goF (allF q l) x = allF q l := by
  intro l
  unfold allF
  induction l with
  | nil => intro q _ h; exact h
  | cons y l ih =>
    intro q hy h
    rw [List.foldl_cons]
    refine ih _ (fun z hz => hy z (by simp [hz])) ?_
    rcases go_lsn q y with e | e
    · rw [e]; exact h
    · exact go_elder (by rw [e]; exact Int.le_of_lt (hy y (by simp)))
/-- Records that rise, done one behind the other: each, done once more, does nothing. -/
theorem all_fix : ∀ (l : List Rc) (p : Pg), l.Pairwise (fun a b => a.1 < b.1) → ∀ r ∈ l, goF (allF p l) r = allF p l := by
  intro l
  induction l with
  | nil => intro p _ r hr; cases hr
  | cons x l ih =>
    intro p hp r hr
    obtain ⟨h1, h2⟩ := List.pairwise_cons.1 hp
    have e : allF p (x :: l) = allF (goF p x) l := rfl
    rw [e]
    rcases List.mem_cons.1 hr with rfl | hr
    · exact fix_keep _ l _ h1 (fix_self _ _)
    · exact ih _ h2 r hr
theorem all_same (p : Pg) : ∀ (l : List Rc), (∀ r ∈ l, goF p r = p) → allF p l = p := by
  intro l
  unfold allF
  induction l with
  | nil => intro _; rfl
  | cons r l ih => intro h; rw [List.foldl_cons, h r (by simp)]; exact ih fun x hx => h x (by simp [hx])
theorem all_app (p : Pg) (l m : List Rc) : allF p (l ++ m) = allF (allF p l) m := by unfold allF; rw [List.foldl_append]
theorem chain_again (p : Pg) (l : List Rc) (k : Nat) (h : l.Pairwise (fun a b => a.1 < b.1)) : allF (allF (allF p l) (l.take k)) l = allF p l := by
  have f := all_fix l p h
  rw [all_same _ (l.take k) fun r hr => f r (List.mem_of_mem_take hr), all_same _ l f]
theorem chain_half (p : Pg) (l : List Rc) (k : Nat) (h : l.Pairwise (fun a b => a.1 < b.1)) : allF (allF p (l.take k)) l = allF p l := by
  have h1 : (l.take k).Pairwise (fun a b => a.1 < b.1) := h.sublist (List.take_sublist k l)
  have f := all_fix (l.take k) p h1
  have e : l = l.take k ++ l.drop k := (List.take_append_drop k l).symm
  rw [show allF (allF p (l.take k)) l = allF (allF p (l.take k)) (l.take k ++ l.drop k) from by rw [← e], all_app, all_same _ _ f, ← all_app, ← e]
theorem own_rises (l : List Rc) (n : Nat) : (ownTo l n).Pairwise (fun a b => a.1 < b.1) := by
  unfold ownTo
  rw [List.pairwise_map]
  exact List.pairwise_lt_range.imp fun h => by simp only; omega
theorem own_len (l : List Rc) (n : Nat) : (ownTo l n).length = n := by unfold ownTo; simp
theorem own_snoc (l : List Rc) (n : Nat) : ownTo l (n + 1) = ownTo l n ++ [(3 * (n : Int) + 1, (l.getD n zR).2)] := by
  unfold ownTo; rw [List.range_succ, List.map_append]; rfl
end Go.Proofs.Ytaomhhamepalmaa.VC
