/- What is to be shown of functions, shown. Plain lemmas; no conditions but those that each names. -/
import Derived.Test.YtncecddhknfimaaLr
import Derived.KernelRfl
set_option linter.unusedVariables false
set_option linter.unusedSimpArgs false
set_option linter.unusedSectionVars false
namespace Go.Proofs.Ytncecddhknfimaa.VC
open Go
set_option maxRecDepth 100000

def l3 : List Rc := [(1, 1, 1, 0, (0, 0), (0, 0), 0, (0, 0, (0, 0), 0), [], [], 0), (2, 2, 0, 0, (0, 0), (3, 0), 0, (7, 2, (0, 0), 0), [], [], 0), (3, 3, 1, 1, (0, 0), (3, 0), 3, (7, 0, (0, 0), 0), [], [], 0)]
def vc16 : Prop := vc Try.f16.body Try.f16.results Try.f16.ntmps [(9, some sp9), (11, some sp11), (35, some sp35)] sp16 ann16
theorem vc16_is : vc16 = (
∀ (g : GrArg), Holds (kM.slice.ok g.moves) → (∃ (x : GrAt), Holds (x.i ≤ g.moves.length ∧ x.i ≤ (80 : Nat) ∧ x.l = growF (List.take x.i g.moves) []) ∧ (0 : Int) = (↑x.i : Int) ∧ nilT (Int × Int × Int × Int × (Int × Int) × (Int × Int) × Int × (Int × Int × (Int × Int) × Int) × List (Int × Int × Bool × Bool) × List (Int × Int) × Int) = x.l) ∧ ∀ (x : GrAt), Holds (x.i ≤ g.moves.length ∧ x.i ≤ (80 : Nat) ∧ x.l = growF (List.take x.i g.moves) []) → SplitB (decide ((↑x.i : Int) < (↑g.moves.length : Int))) (SplitB (decide ((↑x.i : Int) < (80 : Int))) ((∀ (r : Int), Holds (r ≠ (0 : Int) ∧ runE x.l (0 : Int) = r) → SplitB (r != (0 : Int)) (∃ (r : List Rc), Holds (r = growF (List.take (80 : Nat) g.moves) []) ∧ False) False) ∧ ∀ (r : Fnd), Holds (runE x.l (0 : Int) = (0 : Int) ∧ runF x.l (0 : Int) = some (r.t, r.s)) → SplitB ((0 : Int) != (0 : Int)) (∃ (r : List Rc), Holds (r = growF (List.take (80 : Nat) g.moves) []) ∧ False) (Holds ((0 : Int) ≤ (↑x.i : Int)) ∧ Holds ((↑x.i : Int) < (↑g.moves.length : Int)) ∧ Holds ((↑x.i : Int).toNat < g.moves.length) ∧ Holds (r.live.length ≤ (32 : Nat)) ∧ Holds (r.dirty.length ≤ (64 : Nat)) ∧ Holds ((1 : Int) ≤ IntKind.i64.wrap ((↑x.i : Int) + (1 : Int)) ∧ IntKind.i64.wrap ((↑x.i : Int) + (1 : Int)) ≤ (1000 : Int)) ∧ Holds (∀ (d : Int × Int), d ∈ r.dirty → (0 : Int) ≤ d.snd ∧ d.snd ≤ (1000 : Int)) ∧ ∀ (r_1 : Int × Int × Int × Int × (Int × Int) × (Int × Int) × Int × Ctr × Pt), Holds (r_1 = stepF (g.moves.getD (↑x.i : Int).toNat ((0 : Int), (0 : Int), (0 : Int), (0 : Int))) (IntKind.i64.wrap ((↑x.i : Int) + (1 : Int))) (r.live, r.dirty, fromOf r.dirty, r.t.next)) → Holds ((x.l.length + [(r_1.fst, r_1.snd.fst, r_1.snd.snd.fst, r_1.snd.snd.snd.fst, r_1.snd.snd.snd.snd.fst, r_1.snd.snd.snd.snd.snd.fst, r_1.snd.snd.snd.snd.snd.snd.fst, r_1.snd.snd.snd.snd.snd.snd.snd.fst, ptsR r_1)].length) * (168 : Nat) ≤ (140737488355328 : Nat)) ∧ ∃ (y : GrAt), Holds (y.i ≤ g.moves.length ∧ y.i ≤ (80 : Nat) ∧ y.l = growF (List.take y.i g.moves) []) ∧ Holds (g.moves.length - y.i < g.moves.length - x.i) ∧ IntKind.i64.wrap ((↑x.i : Int) + (1 : Int)) = (↑y.i : Int) ∧ x.l ++ [(r_1.fst, r_1.snd.fst, r_1.snd.snd.fst, r_1.snd.snd.snd.fst, r_1.snd.snd.snd.snd.fst, r_1.snd.snd.snd.snd.snd.fst, r_1.snd.snd.snd.snd.snd.snd.fst, r_1.snd.snd.snd.snd.snd.snd.snd.fst, ptsR r_1)] = y.l)) ((∀ (r : Int), Holds (r ≠ (0 : Int) ∧ runE x.l (0 : Int) = r) → ∃ (r_1 : List Rc), Holds (r_1 = growF (List.take (80 : Nat) g.moves) []) ∧ (r == (0 : Int)) = true ∧ x.l = r_1) ∧ ∀ (r : Fnd), Holds (runE x.l (0 : Int) = (0 : Int) ∧ runF x.l (0 : Int) = some (r.t, r.s)) → ∃ (r : List Rc), Holds (r = growF (List.take (80 : Nat) g.moves) []) ∧ ((0 : Int) == (0 : Int)) = true ∧ x.l = r)) ((∀ (r : Int), Holds (r ≠ (0 : Int) ∧ runE x.l (0 : Int) = r) → ∃ (r_1 : List Rc), Holds (r_1 = growF (List.take (80 : Nat) g.moves) []) ∧ (r == (0 : Int)) = true ∧ x.l = r_1) ∧ ∀ (r : Fnd), Holds (runE x.l (0 : Int) = (0 : Int) ∧ runF x.l (0 : Int) = some (r.t, r.s)) → ∃ (r : List Rc), Holds (r = growF (List.take (80 : Nat) g.moves) []) ∧ ((0 : Int) == (0 : Int)) = true ∧ x.l = r)) := by kernel_rfl
theorem rc_eta (r : Rc) : (r.1, r.2.1, r.2.2.1, r.2.2.2.1, r.2.2.2.2.1, r.2.2.2.2.2.1, r.2.2.2.2.2.2.1, r.2.2.2.2.2.2.2.1, ptsR r) = r := rfl
theorem list_is {n : Int} {L : List Lv} (h : Up L) : Tab.list ⟨n, ents L⟩ = L := ents_list rfl h
theorem ok16 : vc16 := by
  rw [vc16_is]
  intro g h1
  have hl := max63 h1.out.1
  refine ⟨⟨⟨0, []⟩, ⟨Nat.zero_le _, Nat.zero_le _, rfl⟩, rfl, rfl⟩, fun x hx => ?_⟩
  obtain ⟨i, l⟩ := x
  obtain ⟨k1, k2, k3⟩ := hx.out
  dsimp only at k1 k2 k3 ⊢
  obtain ⟨e1, n, L, s, gr⟩ := GL_grown (ms := g.moves) k1 k2
  have k3 : l = GL g.moves i := k3
  have k4 := GL_succ (ms := g.moves) (k := i)
  rw [← k3] at e1 gr k4
  obtain ⟨rf, re⟩ := gr.runE0
  have ERR : ∀ r : Int, Holds (r ≠ 0 ∧ runE l 0 = r) → False := fun r h => h.out.1 (by rw [← h.out.2]; exact re)
  have done : ¬ (i < g.moves.length ∧ i < 80) → ∃ (r : List Rc), Holds (r = growF (g.moves.take 80) []) ∧ ((0 : Int) == 0) = true ∧ l = r := fun h => ⟨l, ⟨by
    rw [k3]
    unfold GL
    by_cases h80 : i = 80
    · rw [h80]
    · rw [List.take_of_length_le (by omega), List.take_of_length_le (by omega)]⟩, rfl, rfl⟩
  refine ⟨fun a => ⟨fun b => ⟨fun r hr => (ERR r hr).elim, fun r hr => ?_⟩, fun b => ⟨fun r hr => (ERR r hr).elim, fun r hr => done fun h => of_decide_eq_false b (by omega)⟩⟩, fun a => ⟨fun r hr => (ERR r hr).elim, fun r hr => done fun h => of_decide_eq_false a (Int.ofNat_lt.2 h.1)⟩⟩
  have a : i < g.moves.length := Int.ofNat_lt.1 (of_decide_eq_true a)
  have b : i < 80 := by have : (i : Int) < 80 := of_decide_eq_true b; omega
  have hr2 := hr.out.2
  rw [rf] at hr2
  obtain ⟨t, z⟩ := r
  injection hr2 with hr2
  injection hr2 with q1 q2
  dsimp only at q1 q2
  subst q1 q2
  have wi : IntKind.i64.wrap ((i : Int) + 1) = ((i + 1 : Nat) : Int) := wrap_succ (by omega)
  have dl := dirt_len s 64
  refine ⟨fun z => by simp at z, fun _ => ?_⟩
  show Holds ((0 : Int) ≤ (i : Int)) ∧ Holds ((i : Int) < (g.moves.length : Int)) ∧ Holds ((i : Int).toNat < g.moves.length) ∧ Holds ((Tab.list ⟨n, ents L⟩).length ≤ 32) ∧ _
  rw [Int.toNat_natCast i, wi, list_is gr.up]
  refine ⟨⟨by omega⟩, ⟨by omega⟩, ⟨a⟩, ⟨gr.len⟩, ⟨dl⟩, ⟨by omega, by omega⟩, ⟨fun d hd => ?_⟩, fun r hr => ⟨⟨?_⟩, ⟨i + 1, l ++ [r]⟩, ⟨a, b, ?_⟩, ⟨by show _ - (i + 1) < _; omega⟩, rfl, rfl⟩⟩
  · have := dirt_in gr d hd; omega
  · simp only [List.length_singleton]; omega
  · show l ++ [r] = GL g.moves (i + 1)
    have hr : r = stepF (g.moves.getD i noM) (((i + 1 : Nat) : Int)) (Tab.list ⟨n, ents L⟩, dirt s 64, fromOf (dirt s 64), n) := hr.out
    rw [k4 a, hr, fnd_is gr, list_is gr.up, e1]
    rfl

def vc6 : Prop := vc Try.f6.body Try.f6.results Try.f6.ntmps [(9, some sp9), (11, some sp11), (12, some sp12)] sp6 ann6
theorem vc6_is : vc6 = (
∀ (g : Unit), (∀ (r : Int), Holds (r ≠ (0 : Int) ∧ runE l3 (0 : Int) = r) → (∀ (r_1 : Int), Holds (r_1 ≠ (0 : Int) ∧ runE l3 (3 : Int) = r_1) → Holds ((0 : Int) ≤ (1 : Int)) ∧ Holds ((1 : Int) ≤ (↑l3.length : Int)) ∧ (∀ (r_2 : Int), Holds (r_2 ≠ (0 : Int) ∧ runE (List.drop (Int.toNat (1 : Int)) l3) (0 : Int) = r_2) → SplitB (r == (0 : Int)) (SplitB (decide (([], [], (0 : Int), (0 : Int)) = ([((1 : Int), (3 : Int), false, false)], [((0 : Int), (2 : Int)), ((3 : Int), (2 : Int))], (2 : Int), (2 : Int)))) (SplitB (r_1 == (4 : Int)) ((r_2 == (60 : Int)) = true) False) False) False) ∧ ∀ (r_2 : Fnd), Holds (runE (List.drop (Int.toNat (1 : Int)) l3) (0 : Int) = (0 : Int) ∧ runF (List.drop (Int.toNat (1 : Int)) l3) (0 : Int) = some (r_2.t, r_2.s)) → SplitB (r == (0 : Int)) (SplitB (decide (([], [], (0 : Int), (0 : Int)) = ([((1 : Int), (3 : Int), false, false)], [((0 : Int), (2 : Int)), ((3 : Int), (2 : Int))], (2 : Int), (2 : Int)))) (SplitB (r_1 == (4 : Int)) (((0 : Int) == (60 : Int)) = true) False) False) False) ∧ ∀ (r_1 : Fnd), Holds (runE l3 (3 : Int) = (0 : Int) ∧ runF l3 (3 : Int) = some (r_1.t, r_1.s)) → Holds ((0 : Int) ≤ (1 : Int)) ∧ Holds ((1 : Int) ≤ (↑l3.length : Int)) ∧ (∀ (r_2 : Int), Holds (r_2 ≠ (0 : Int) ∧ runE (List.drop (Int.toNat (1 : Int)) l3) (0 : Int) = r_2) → SplitB (r == (0 : Int)) (SplitB (decide (([], [], (0 : Int), (0 : Int)) = ([((1 : Int), (3 : Int), false, false)], [((0 : Int), (2 : Int)), ((3 : Int), (2 : Int))], (2 : Int), (2 : Int)))) (SplitB ((0 : Int) == (4 : Int)) ((r_2 == (60 : Int)) = true) False) False) False) ∧ ∀ (r_2 : Fnd), Holds (runE (List.drop (Int.toNat (1 : Int)) l3) (0 : Int) = (0 : Int) ∧ runF (List.drop (Int.toNat (1 : Int)) l3) (0 : Int) = some (r_2.t, r_2.s)) → SplitB (r == (0 : Int)) (SplitB (decide (([], [], (0 : Int), (0 : Int)) = ([((1 : Int), (3 : Int), false, false)], [((0 : Int), (2 : Int)), ((3 : Int), (2 : Int))], (2 : Int), (2 : Int)))) (SplitB ((0 : Int) == (4 : Int)) (((0 : Int) == (60 : Int)) = true) False) False) False) ∧ ∀ (r : Fnd), Holds (runE l3 (0 : Int) = (0 : Int) ∧ runF l3 (0 : Int) = some (r.t, r.s)) → (∀ (r_1 : Int), Holds (r_1 ≠ (0 : Int) ∧ runE l3 (3 : Int) = r_1) → Holds ((0 : Int) ≤ (1 : Int)) ∧ Holds ((1 : Int) ≤ (↑l3.length : Int)) ∧ (∀ (r_2 : Int), Holds (r_2 ≠ (0 : Int) ∧ runE (List.drop (Int.toNat (1 : Int)) l3) (0 : Int) = r_2) → SplitB ((0 : Int) == (0 : Int)) (SplitB (decide ((r.live, r.dirty, fromOf r.dirty, r.t.next) = ([((1 : Int), (3 : Int), false, false)], [((0 : Int), (2 : Int)), ((3 : Int), (2 : Int))], (2 : Int), (2 : Int)))) (SplitB (r_1 == (4 : Int)) ((r_2 == (60 : Int)) = true) False) False) False) ∧ ∀ (r_2 : Fnd), Holds (runE (List.drop (Int.toNat (1 : Int)) l3) (0 : Int) = (0 : Int) ∧ runF (List.drop (Int.toNat (1 : Int)) l3) (0 : Int) = some (r_2.t, r_2.s)) → SplitB ((0 : Int) == (0 : Int)) (SplitB (decide ((r.live, r.dirty, fromOf r.dirty, r.t.next) = ([((1 : Int), (3 : Int), false, false)], [((0 : Int), (2 : Int)), ((3 : Int), (2 : Int))], (2 : Int), (2 : Int)))) (SplitB (r_1 == (4 : Int)) (((0 : Int) == (60 : Int)) = true) False) False) False) ∧ ∀ (r_1 : Fnd), Holds (runE l3 (3 : Int) = (0 : Int) ∧ runF l3 (3 : Int) = some (r_1.t, r_1.s)) → Holds ((0 : Int) ≤ (1 : Int)) ∧ Holds ((1 : Int) ≤ (↑l3.length : Int)) ∧ (∀ (r_2 : Int), Holds (r_2 ≠ (0 : Int) ∧ runE (List.drop (Int.toNat (1 : Int)) l3) (0 : Int) = r_2) → SplitB ((0 : Int) == (0 : Int)) (SplitB (decide ((r.live, r.dirty, fromOf r.dirty, r.t.next) = ([((1 : Int), (3 : Int), false, false)], [((0 : Int), (2 : Int)), ((3 : Int), (2 : Int))], (2 : Int), (2 : Int)))) (SplitB ((0 : Int) == (4 : Int)) ((r_2 == (60 : Int)) = true) False) False) False) ∧ ∀ (r_2 : Fnd), Holds (runE (List.drop (Int.toNat (1 : Int)) l3) (0 : Int) = (0 : Int) ∧ runF (List.drop (Int.toNat (1 : Int)) l3) (0 : Int) = some (r_2.t, r_2.s)) → SplitB ((0 : Int) == (0 : Int)) (SplitB (decide ((r.live, r.dirty, fromOf r.dirty, r.t.next) = ([((1 : Int), (3 : Int), false, false)], [((0 : Int), (2 : Int)), ((3 : Int), (2 : Int))], (2 : Int), (2 : Int)))) (SplitB ((0 : Int) == (4 : Int)) (((0 : Int) == (60 : Int)) = true) False) False) False) := by kernel_rfl
theorem l3a : (runF l3 0).map (fun x => (x.1.next, x.1.live, dirt x.2 64)) = some (2, [(1, (1, 3, false, false))], [(0, 2), (3, 2)]) := by kernel_rfl
theorem l3b : runE l3 0 = 0 := by kernel_rfl
theorem l3c : runE l3 3 = 4 := by kernel_rfl
theorem l3d : runE (List.drop (Int.toNat 1) l3) 0 = 60 := by kernel_rfl
theorem l3e {r : Fnd} (h : runE l3 0 = 0 ∧ runF l3 0 = some (r.t, r.s)) : (r.live, r.dirty, fromOf r.dirty, r.t.next) = ([(1, 3, false, false)], [(0, 2), (3, 2)], 2, 2) := by
  have ha := l3a
  rw [h.2] at ha
  have ha := Option.some.inj ha
  injection ha with h1 ha
  injection ha with h2 h3
  have e1 : r.live = [(1, 3, false, false)] := ents_list (l := [(1, 3, false, false)]) h2 (by simp [Up])
  have e2 : r.dirty = [(0, 2), (3, 2)] := h3
  have e3 : r.t.next = 2 := h1
  rw [e1, e2, e3]
  rfl
theorem ok6 : vc6 := by
  rw [vc6_is]
  intro g
  have A : ∀ r : Int, Holds (r ≠ 0 ∧ runE l3 0 = r) → False := fun r h => h.out.1 (by rw [← h.out.2, l3b])
  have B : ∀ r : Fnd, Holds (runE l3 3 = 0 ∧ runF l3 3 = some (r.t, r.s)) → False := fun r h => by have := h.out.1; rw [l3c] at this; cases this
  have C : ∀ r : Fnd, Holds (runE (List.drop (Int.toNat 1) l3) 0 = 0 ∧ runF (List.drop (Int.toNat 1) l3) 0 = some (r.t, r.s)) → False := fun r h => by have := h.out.1; rw [l3d] at this; cases this
  refine ⟨fun r hr => (A r hr).elim, fun r hr => ⟨fun r1 h1 => ⟨⟨by decide⟩, ⟨by decide⟩, fun r2 h2 => ?_, fun r2 h2 => (C r2 h2).elim⟩, fun r1 h1 => (B r1 h1).elim⟩⟩
  have e1 := l3e hr.out
  have e2 : r1 = 4 := h1.out.2.symm.trans l3c
  have e3 : r2 = 60 := h2.out.2.symm.trans l3d
  subst e2 e3
  rw [e1]
  exact ⟨fun _ => ⟨fun _ => ⟨fun _ => rfl, fun h => absurd h (by decide)⟩, fun h => absurd h (by decide)⟩, fun h => absurd h (by decide)⟩

end Go.Proofs.Ytncecddhknfimaa.VC
