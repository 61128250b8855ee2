/- Two adds, either way round: the same page. Conditions: as each theorem states them. -/
import Derived.Test.YtaomhhamepalmaaPu
set_option linter.unusedVariables false
set_option linter.unusedSimpArgs false
namespace Go.Proofs.Ytaomhhamepalmaa.VC
open Go

theorem newC_eq (f : Int) (p : Pg) (r : Rc) : newC f p r = p.2.2.1.set r.2.2.2.2.1.2.toNat ((curC p r).1, (curC p r).2.1, (curC p r).2.2.1, (stepV f r.2.2.2.2.2.2.1 (curC p r).2.2.2).1) := rfl
theorem newG_eq (f : Int) (p : Pg) (r : Rc) : newG f p r = p.2.2.2.set r.2.2.2.2.2.1.2.toNat ((curG p r).1, (stepV f r.2.2.2.2.2.2.1 (curG p r).2).1) := rfl
theorem step29 {d v : Int} (h : (stepV 29 d v).2 = 0) : (stepV 29 d v).1 = v + d := by rw [(step_zero h).1]; rfl

/-- Counters: two adds in two orders. -/
theorem twoC {p x v : Pg} {a b a2 b2 : Rc} (ha : a2.2.2 = a.2.2) (hb : b2.2.2 = b.2.2) (ta : TookC 29 p a) (tb : TookC 29 x b) (tb2 : TookC 29 p b2) (ta2 : TookC 29 v a2) (hx : x.2.2.1 = newC 29 p a) (hv : v.2.2.1 = newC 29 p b2) :
    newC 29 v a2 = newC 29 x b := by
  have ia : a2.2.2.2.2.1.2 = a.2.2.2.2.1.2 := by rw [ha]
  have ib : b2.2.2.2.2.1.2 = b.2.2.2.2.1.2 := by rw [hb]
  have da : a2.2.2.2.2.2.2.1 = a.2.2.2.2.2.2.1 := by rw [ha]
  have db : b2.2.2.2.2.2.2.1 = b.2.2.2.2.2.2.1 := by rw [hb]
  have s1 := step29 ta.st
  have s2 := step29 tb.st
  have s3 := step29 tb2.st
  have s4 := step29 ta2.st
  have la := ta.hi
  have lb := tb2.hi
  rw [newC_eq 29 v, newC_eq 29 x, s4, s2, hx, hv, newC_eq 29 p a, newC_eq 29 p b2, s1, s3, ia, da]
  rw [db]
  rw [ib] at lb ⊢
  by_cases hij : a.2.2.2.2.1.2.toNat = b.2.2.2.2.1.2.toNat
  · have c0 : curC p b2 = curC p a := by unfold curC; rw [ib, hij]
    have c1 : curC x b = ((curC p a).1, (curC p a).2.1, (curC p a).2.2.1, (curC p a).2.2.2 + a.2.2.2.2.2.2.1) := by
      have : curC x b = x.2.2.1.getD b.2.2.2.2.1.2.toNat (0, 0, (0, 0), 0) := rfl
      rw [this, hx, newC_eq, s1, ← hij, getD_set_self la]
    have c2 : curC v a2 = ((curC p a).1, (curC p a).2.1, (curC p a).2.2.1, (curC p a).2.2.2 + b.2.2.2.2.2.2.1) := by
      have : curC v a2 = v.2.2.1.getD a2.2.2.2.2.1.2.toNat (0, 0, (0, 0), 0) := rfl
      rw [this, hv, newC_eq, s3, ia, ib, hij, getD_set_self lb, c0, db]
    rw [c1, c2, c0, hij, List.set_set, List.set_set]
    simp only [Int.add_right_comm]
  · have c1 : curC x b = curC p b2 := by
      have : curC x b = x.2.2.1.getD b.2.2.2.2.1.2.toNat (0, 0, (0, 0), 0) := rfl
      rw [this, hx, newC_eq, getD_set_other hij]
      unfold curC; rw [ib]
    have c2 : curC v a2 = curC p a := by
      have : curC v a2 = v.2.2.1.getD a2.2.2.2.2.1.2.toNat (0, 0, (0, 0), 0) := rfl
      rw [this, hv, newC_eq, ia, ib, getD_set_other (Ne.symm hij)]
      rfl
    rw [c1, c2]
    exact List.set_comm _ _ (Ne.symm hij)
theorem twoG {p x v : Pg} {a b a2 b2 : Rc} (ha : a2.2.2 = a.2.2) (hb : b2.2.2 = b.2.2) (ta : TookG 29 p a) (tb : TookG 29 x b) (tb2 : TookG 29 p b2) (ta2 : TookG 29 v a2) (hx : x.2.2.2 = newG 29 p a) (hv : v.2.2.2 = newG 29 p b2) :
    newG 29 v a2 = newG 29 x b := by
  have ia : a2.2.2.2.2.2.1.2 = a.2.2.2.2.2.1.2 := by rw [ha]
  have ib : b2.2.2.2.2.2.1.2 = b.2.2.2.2.2.1.2 := by rw [hb]
  have da : a2.2.2.2.2.2.2.1 = a.2.2.2.2.2.2.1 := by rw [ha]
  have db : b2.2.2.2.2.2.2.1 = b.2.2.2.2.2.2.1 := by rw [hb]
  have s1 := step29 ta.st
  have s2 := step29 tb.st
  have s3 := step29 tb2.st
  have s4 := step29 ta2.st
  have la := ta.hi
  have lb := tb2.hi
  rw [newG_eq 29 v, newG_eq 29 x, s4, s2, hx, hv, newG_eq 29 p a, newG_eq 29 p b2, s1, s3, ia, da]
  rw [db]
  rw [ib] at lb ⊢
  by_cases hij : a.2.2.2.2.2.1.2.toNat = b.2.2.2.2.2.1.2.toNat
  · have c0 : curG p b2 = curG p a := by unfold curG; rw [ib, hij]
    have c1 : curG x b = ((curG p a).1, (curG p a).2 + a.2.2.2.2.2.2.1) := by
      have : curG x b = x.2.2.2.getD b.2.2.2.2.2.1.2.toNat (0, 0) := rfl
      rw [this, hx, newG_eq, s1, ← hij, getD_set_self la]
    have c2 : curG v a2 = ((curG p a).1, (curG p a).2 + b.2.2.2.2.2.2.1) := by
      have : curG v a2 = v.2.2.2.getD a2.2.2.2.2.2.1.2.toNat (0, 0) := rfl
      rw [this, hv, newG_eq, s3, ia, ib, hij, getD_set_self lb, c0, db]
    rw [c1, c2, c0, hij, List.set_set, List.set_set]
    simp only [Int.add_right_comm]
  · have c1 : curG x b = curG p b2 := by
      have : curG x b = x.2.2.2.getD b.2.2.2.2.2.1.2.toNat (0, 0) := rfl
      rw [this, hx, newG_eq, getD_set_other hij]
      unfold curG; rw [ib]
    have c2 : curG v a2 = curG p a := by
      have : curG v a2 = v.2.2.2.getD a2.2.2.2.2.2.1.2.toNat (0, 0) := rfl
      rw [this, hv, newG_eq, ia, ib, getD_set_other (Ne.symm hij)]
      rfl
    rw [c1, c2]
    exact List.set_comm _ _ (Ne.symm hij)

theorem tookC_len {f : Int} {p : Pg} {r : Rc} (t : TookC f p r) : (newC f p r).length ≠ 0 := by unfold newC; rw [List.length_set]; have := t.hi; omega
theorem tookG_len {f : Int} {p : Pg} {r : Rc} (t : TookG f p r) : (newG f p r).length ≠ 0 := by unfold newG; rw [List.length_set]; have := t.hi; omega

theorem do_order {p x y v w : Pg} {a b a2 b2 : Rc} {f g : Bool} (ka : a.2.1 = 3) (kb : b.2.1 = 3) (ka2 : a2.2.1 = 3) (kb2 : b2.2.1 = 3) (ha : a2.2.2 = a.2.2) (hb : b2.2.2 = b.2.2) (lb2 : b2.1 = a.1) (la2 : a2.1 = b.1) (lt : a.1 < b.1)
    (h1 : doF p a = (0, true, x)) (h2 : doF x b = (0, true, y)) (h3 : doF p b2 = (0, f, v)) (h4 : doF v a2 = (0, g, w)) : f = true ∧ g = true ∧ w = y := by
  have st : ∀ r : Rc, r.2.1 = 3 → stp r = 29 := fun r h => by unfold stp; rw [h]; rfl
  have k2 : ∀ r : Rc, r.2.1 = 3 → r.2.1 ≠ 2 := fun r h => by rw [h]; decide
  have wa : a2.2.2.2.2.1.1 = a.2.2.2.2.1.1 := by rw [ha]
  have wb : b2.2.2.2.2.1.1 = b.2.2.2.2.1.1 := by rw [hb]
  obtain ⟨m1, c1 | c1 | c1⟩ := do_ok h1
  · exact absurd c1.1 (by decide)
  · obtain ⟨_, o1, n1, e1, rfl⟩ := c1
    rw [st a ka] at *
    obtain ⟨t1, q1⟩ := counter_took (k2 a ka) e1
    rw [q1] at h2
    obtain ⟨m2, c2 | c2 | c2⟩ := do_ok h2
    · exact absurd c2.1 (by decide)
    · obtain ⟨_, o2, n2, e2, rfl⟩ := c2
      rw [st b kb] at *
      obtain ⟨t2, q2⟩ := counter_took (k2 b kb) e2
      obtain ⟨m3, c3 | c3 | c3⟩ := do_ok h3
      · obtain ⟨_, _, c3⟩ := c3; omega
      · obtain ⟨rfl, o3, n3, e3, rfl⟩ := c3
        rw [st b2 kb2] at *
        obtain ⟨t3, q3⟩ := counter_took (k2 b2 kb2) e3
        rw [q3] at h4
        obtain ⟨m4, c4 | c4 | c4⟩ := do_ok h4
        · obtain ⟨_, _, c4⟩ := c4; simp only at c4; omega
        · obtain ⟨rfl, o4, n4, e4, rfl⟩ := c4
          rw [st a2 ka2] at *
          obtain ⟨t4, q4⟩ := counter_took (k2 a2 ka2) e4
          refine ⟨rfl, rfl, ?_⟩
          rw [q4, q2, la2, twoC ha hb t1 t2 t3 t4 rfl rfl]
        · exact absurd n1 (by have := c4.2.2.1; simp only at this; rw [wa] at this; exact this)
      · exact absurd n2 (by have := c3.2.2.1; rw [wb] at this; exact this)
    · rw [st b kb] at c2
      have t := (sum_took (k2 b kb) c2.2.2.2.1).1
      exact absurd (by have := t.cs; simp only at this; rw [this]; rfl) (tookC_len t1)
  · obtain ⟨_, o1, n1, e1, rfl⟩ := c1
    rw [st a ka] at *
    obtain ⟨t1, q1⟩ := sum_took (k2 a ka) e1
    rw [q1] at h2
    obtain ⟨m2, c2 | c2 | c2⟩ := do_ok h2
    · exact absurd c2.1 (by decide)
    · rw [st b kb] at c2
      have t := (counter_took (k2 b kb) c2.2.2.2.1).1
      exact absurd (by have := t.gs; simp only at this; rw [this]; rfl) (tookG_len t1)
    · obtain ⟨_, o2, n2, e2, rfl⟩ := c2
      rw [st b kb] at *
      obtain ⟨t2, q2⟩ := sum_took (k2 b kb) e2
      obtain ⟨m3, c3 | c3 | c3⟩ := do_ok h3
      · obtain ⟨_, _, c3⟩ := c3; omega
      · exact absurd c3.2.2.1 (by rw [wb]; exact n2)
      · obtain ⟨rfl, o3, n3, e3, rfl⟩ := c3
        rw [st b2 kb2] at *
        obtain ⟨t3, q3⟩ := sum_took (k2 b2 kb2) e3
        rw [q3] at h4
        obtain ⟨m4, c4 | c4 | c4⟩ := do_ok h4
        · obtain ⟨_, _, c4⟩ := c4; simp only at c4; omega
        · exact absurd c4.2.2.1 (by rw [wa]; exact n1)
        · obtain ⟨rfl, o4, n4, e4, rfl⟩ := c4
          rw [st a2 ka2] at *
          obtain ⟨t4, q4⟩ := sum_took (k2 a2 ka2) e4
          refine ⟨rfl, rfl, ?_⟩
          rw [q4, q2, la2, twoG ha hb t1 t2 t3 t4 rfl rfl]
end Go.Proofs.Ytaomhhamepalmaa.VC
