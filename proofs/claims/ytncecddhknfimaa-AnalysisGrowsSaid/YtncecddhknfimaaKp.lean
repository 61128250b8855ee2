/- What is to be shown of functions, shown. Plain lemmas; no conditions but those that each names. -/
import Derived.Test.YtncecddhknfimaaKr
import Derived.KernelRfl
set_option linter.unusedVariables false
set_option linter.unusedSimpArgs false
set_option linter.unusedSectionVars false
namespace Go.Proofs.Ytncecddhknfimaa.VC
open Go
set_option maxRecDepth 100000

theorem spl {a : Bool} {T : Prop} {r : Bool} {q : Bool} (hq : q = (a && r)) (h : a = true → r = q → T) : SplitB a T (false = q) := by
  subst hq
  exact ⟨fun e => h e (by rw [e]; rfl), fun e => by rw [e]; rfl⟩
def vc47 : Prop := vc Try.f47.body Try.f47.results Try.f47.ntmps [] sp47 (fun _ => noAnn)
theorem vc47_is : vc47 = (
∀ (g : InArg), Holds (InR IntKind.i64 g.n) → Holds (InR IntKind.i64 g.lo) → Holds (InR IntKind.i64 g.hi) → SplitB (decide (g.n ≥ g.lo)) (decide (g.n ≤ g.hi) = within g.n g.lo g.hi) (false = within g.n g.lo g.hi)) := by kernel_rfl
theorem ok47 : vc47 := by
  rw [vc47_is]
  intro g h1 h2 h3
  simp only [splitB_iff, within, decide_eq_true_eq, decide_eq_false_iff_not]
  exact ⟨fun h => by simp [h], fun h => by simp; omega⟩

def vc48 : Prop := vc Try.f48.body Try.f48.results Try.f48.ntmps [(47, some sp47)] sp48 (fun _ => noAnn)
theorem vc48_is : vc48 = (
∀ (g : SlArg), Holds (InR IntKind.i64 g.w.fst) → Holds (InR IntKind.i64 g.w.snd) → Holds (InR IntKind.i64 g.s.fst) → Holds (InR IntKind.i64 g.s.snd) → SplitB (within g.w.fst (0 : Int) (63 : Int)) (SplitB (within g.w.snd (0 : Int) (30 : Int)) (SplitB (within g.s.fst (0 : Int) (63 : Int)) (SplitB (within g.s.snd (0 : Int) (83 : Int)) ((g.w.fst != g.s.fst) = slotsB g.w g.s) (false = slotsB g.w g.s)) (false = slotsB g.w g.s)) (false = slotsB g.w g.s)) (false = slotsB g.w g.s)) := by kernel_rfl
theorem ok48 : vc48 := by
  rw [vc48_is]
  intro g h1 h2 h3 h4
  unfold slotsB
  simp only [splitB_iff]
  refine ⟨fun a => ⟨fun b => ⟨fun c => ⟨fun d => ?_, fun d => ?_⟩, fun c => ?_⟩, fun b => ?_⟩, fun a => ?_⟩
  · rw [a, b, c, d]
    by_cases h : g.w.1 = g.s.1 <;> simp [h]
  · rw [d]; simp
  · rw [c]; simp
  · rw [b]; simp
  · rw [a]; simp

def vc50 : Prop := vc Try.f50.body Try.f50.results Try.f50.ntmps [] sp50 (fun _ => noAnn)
theorem vc50_is : vc50 = (
∀ (g : BelArg), Holds (InR IntKind.i64 g.n) → Holds (InR IntKind.i64 g.lsn) → SplitB (g.lsn == (0 : Int)) (true = belowB g.n g.lsn) (decide (g.n < g.lsn) = belowB g.n g.lsn)) := by kernel_rfl
theorem ok50 : vc50 := by
  rw [vc50_is]
  intro g h1 h2
  unfold belowB
  simp only [splitB_iff, beq_iff_eq, beq_eq_false_iff_ne]
  exact ⟨fun a => by simp [a], fun a => by simp [a]⟩

def vc51 : Prop := vc Try.f51.body Try.f51.results Try.f51.ntmps [] sp51 (fun _ => noAnn)
theorem vc51_is : vc51 = (
∀ (g : RcArg), Holds (InR IntKind.i64 g.r.fst) → Holds (InR IntKind.i64 g.r.snd.fst) → Holds (InR IntKind.i64 g.r.snd.snd.fst) → Holds (InR IntKind.i64 g.r.snd.snd.snd.fst) → Holds (InR IntKind.i64 g.r.snd.snd.snd.snd.fst.fst) → Holds (InR IntKind.i64 g.r.snd.snd.snd.snd.fst.snd) → Holds (InR IntKind.i64 g.r.snd.snd.snd.snd.snd.fst.fst) → Holds (InR IntKind.i64 g.r.snd.snd.snd.snd.snd.fst.snd) → Holds (InR IntKind.i64 g.r.snd.snd.snd.snd.snd.snd.fst) → Holds (InR IntKind.i64 g.r.snd.snd.snd.snd.snd.snd.snd.fst.fst) → Holds (InR IntKind.i64 g.r.snd.snd.snd.snd.snd.snd.snd.fst.snd.fst) → Holds (InR IntKind.i64 g.r.snd.snd.snd.snd.snd.snd.snd.fst.snd.snd.fst.fst) → Holds (InR IntKind.i64 g.r.snd.snd.snd.snd.snd.snd.snd.fst.snd.snd.fst.snd) → Holds (InR IntKind.i64 g.r.snd.snd.snd.snd.snd.snd.snd.fst.snd.snd.snd) → Holds (kL.slice.ok g.r.snd.snd.snd.snd.snd.snd.snd.snd.fst) → Holds (kD.slice.ok g.r.snd.snd.snd.snd.snd.snd.snd.snd.snd.fst) → Holds (InR IntKind.i64 g.r.snd.snd.snd.snd.snd.snd.snd.snd.snd.snd) → SplitB (g.r.snd.snd.fst == (0 : Int)) (SplitB (g.r.snd.snd.snd.fst == (0 : Int)) (SplitB (g.r.snd.snd.snd.snd.fst.fst == (0 : Int) && g.r.snd.snd.snd.snd.fst.snd == (0 : Int)) (SplitB (g.r.snd.snd.snd.snd.snd.fst.fst == (0 : Int) && g.r.snd.snd.snd.snd.snd.fst.snd == (0 : Int)) (SplitB (g.r.snd.snd.snd.snd.snd.snd.fst == (0 : Int)) (SplitB (g.r.snd.snd.snd.snd.snd.snd.snd.fst.fst == (0 : Int) && (g.r.snd.snd.snd.snd.snd.snd.snd.fst.snd.fst == (0 : Int) && (g.r.snd.snd.snd.snd.snd.snd.snd.fst.snd.snd.fst.fst == (0 : Int) && g.r.snd.snd.snd.snd.snd.snd.snd.fst.snd.snd.fst.snd == (0 : Int) && g.r.snd.snd.snd.snd.snd.snd.snd.fst.snd.snd.snd == (0 : Int)))) (SplitB (g.r.snd.snd.snd.snd.snd.snd.snd.snd.snd.snd == (0 : Int)) (SplitB ((↑g.r.snd.snd.snd.snd.snd.snd.snd.snd.fst.length : Int) == (0 : Int)) (((↑g.r.snd.snd.snd.snd.snd.snd.snd.snd.snd.fst.length : Int) == (0 : Int)) = blankB g.r) (false = blankB g.r)) (false = blankB g.r)) (false = blankB g.r)) (false = blankB g.r)) (false = blankB g.r)) (false = blankB g.r)) (false = blankB g.r)) (false = blankB g.r)) := by kernel_rfl
theorem ok51 : vc51 := by
  rw [vc51_is]
  intro g
  intro h1 h2 h3 h4 h5 h6 h7 h8 h9 h10 h11 h12 h13 h14 h15 h16 h17
  clear h1 h2 h3 h4 h5 h6 h7 h8 h9 h10 h11 h12 h13 h14 h15 h16 h17
  refine spl rfl fun a e => ?_
  refine spl e.symm fun a e => ?_
  refine spl e.symm fun a e => ?_
  refine spl e.symm fun a e => ?_
  refine spl e.symm fun a e => ?_
  refine spl e.symm fun a e => ?_
  refine spl e.symm fun a e => ?_
  exact spl e.symm fun a e => e

def vc49 : Prop := vc Try.f49.body Try.f49.results Try.f49.ntmps [(47, some sp47), (50, some sp50)] sp49 ann49
theorem vc49_is : vc49 = (
∀ (g : PtArg), Holds (kL.slice.ok g.p.fst) → Holds (kD.slice.ok g.p.snd.fst) → Holds (InR IntKind.i64 g.p.snd.snd) → Holds (InR IntKind.i64 g.lsn) → SplitB (!within g.p.snd.snd (1 : Int) (2147483648 : Int)) (false = pointsB g.p g.lsn) (SplitB (decide ((↑g.p.fst.length : Int) > (32 : Int))) (false = pointsB g.p g.lsn) (SplitB (decide ((↑g.p.snd.fst.length : Int) > (16 : Int))) (false = pointsB g.p g.lsn) ((∃ (x : LwAt), Holds (x.i ≤ g.p.fst.length ∧ liveB g.p.snd.snd g.lsn (0 : Int) g.p.fst = liveB g.p.snd.snd g.lsn x.last (List.drop x.i g.p.fst)) ∧ (0 : Int) = (↑x.i : Int) ∧ (0 : Int) = x.last) ∧ ∀ (x : LwAt), Holds (x.i ≤ g.p.fst.length ∧ liveB g.p.snd.snd g.lsn (0 : Int) g.p.fst = liveB g.p.snd.snd g.lsn x.last (List.drop x.i g.p.fst)) → SplitB (decide ((↑x.i : Int) < (↑g.p.fst.length : Int))) (Holds ((0 : Int) ≤ (↑x.i : Int)) ∧ Holds ((↑x.i : Int) < (↑g.p.fst.length : Int)) ∧ Holds ((↑x.i : Int).toNat < g.p.fst.length) ∧ SplitB (decide ((g.p.fst.getD (↑x.i : Int).toNat ((0 : Int), (0 : Int), false, false)).fst ≤ x.last)) (false = pointsB g.p g.lsn) (SplitB (decide ((g.p.fst.getD (↑x.i : Int).toNat ((0 : Int), (0 : Int), false, false)).fst ≥ g.p.snd.snd)) (false = pointsB g.p g.lsn) (SplitB (!within (g.p.fst.getD (↑x.i : Int).toNat ((0 : Int), (0 : Int), false, false)).snd.fst (1 : Int) (2147483647 : Int)) (false = pointsB g.p g.lsn) (SplitB (!belowB (g.p.fst.getD (↑x.i : Int).toNat ((0 : Int), (0 : Int), false, false)).snd.fst g.lsn) (false = pointsB g.p g.lsn) (SplitB (g.p.fst.getD (↑x.i : Int).toNat ((0 : Int), (0 : Int), false, false)).snd.snd.fst (SplitB (g.p.fst.getD (↑x.i : Int).toNat ((0 : Int), (0 : Int), false, false)).snd.snd.snd (false = pointsB g.p g.lsn) (∃ (y : LwAt), Holds (y.i ≤ g.p.fst.length ∧ liveB g.p.snd.snd g.lsn (0 : Int) g.p.fst = liveB g.p.snd.snd g.lsn y.last (List.drop y.i g.p.fst)) ∧ Holds (g.p.fst.length - y.i < g.p.fst.length - x.i) ∧ IntKind.i64.wrap ((↑x.i : Int) + (1 : Int)) = (↑y.i : Int) ∧ (g.p.fst.getD (↑x.i : Int).toNat ((0 : Int), (0 : Int), false, false)).fst = y.last)) (∃ (y : LwAt), Holds (y.i ≤ g.p.fst.length ∧ liveB g.p.snd.snd g.lsn (0 : Int) g.p.fst = liveB g.p.snd.snd g.lsn y.last (List.drop y.i g.p.fst)) ∧ Holds (g.p.fst.length - y.i < g.p.fst.length - x.i) ∧ IntKind.i64.wrap ((↑x.i : Int) + (1 : Int)) = (↑y.i : Int) ∧ (g.p.fst.getD (↑x.i : Int).toNat ((0 : Int), (0 : Int), false, false)).fst = y.last)))))) ((∃ (x : LwAt), Holds (x.i ≤ g.p.snd.fst.length ∧ dirtyB g.lsn (-1 : Int) g.p.snd.fst = dirtyB g.lsn x.last (List.drop x.i g.p.snd.fst)) ∧ (0 : Int) = (↑x.i : Int) ∧ (-1 : Int) = x.last) ∧ ∀ (x : LwAt), Holds (x.i ≤ g.p.snd.fst.length ∧ dirtyB g.lsn (-1 : Int) g.p.snd.fst = dirtyB g.lsn x.last (List.drop x.i g.p.snd.fst)) → SplitB (decide ((↑x.i : Int) < (↑g.p.snd.fst.length : Int))) (Holds ((0 : Int) ≤ (↑x.i : Int)) ∧ Holds ((↑x.i : Int) < (↑g.p.snd.fst.length : Int)) ∧ Holds ((↑x.i : Int).toNat < g.p.snd.fst.length) ∧ SplitB (decide ((g.p.snd.fst.getD (↑x.i : Int).toNat ((0 : Int), (0 : Int))).fst ≤ x.last)) (false = pointsB g.p g.lsn) (SplitB (decide ((g.p.snd.fst.getD (↑x.i : Int).toNat ((0 : Int), (0 : Int))).fst ≥ (64 : Int))) (false = pointsB g.p g.lsn) (SplitB (!within (g.p.snd.fst.getD (↑x.i : Int).toNat ((0 : Int), (0 : Int))).snd (1 : Int) (2147483647 : Int)) (false = pointsB g.p g.lsn) (SplitB (!belowB (g.p.snd.fst.getD (↑x.i : Int).toNat ((0 : Int), (0 : Int))).snd g.lsn) (false = pointsB g.p g.lsn) (∃ (y : LwAt), Holds (y.i ≤ g.p.snd.fst.length ∧ dirtyB g.lsn (-1 : Int) g.p.snd.fst = dirtyB g.lsn y.last (List.drop y.i g.p.snd.fst)) ∧ Holds (g.p.snd.fst.length - y.i < g.p.snd.fst.length - x.i) ∧ IntKind.i64.wrap ((↑x.i : Int) + (1 : Int)) = (↑y.i : Int) ∧ (g.p.snd.fst.getD (↑x.i : Int).toNat ((0 : Int), (0 : Int))).fst = y.last))))) (true = pointsB g.p g.lsn)))))) := by kernel_rfl
theorem drop_at {α : Type} {l : List α} {i : Nat} (h : i < l.length) (d : α) : l.drop i = l.getD i d :: l.drop (i + 1) := by
  rw [List.drop_eq_getElem_cons h]; simp [List.getD, h]
theorem ok49 : vc49 := by
  rw [vc49_is]
  intro g h1 h2 h3 h4
  have l1 := max63 h1.out.1
  have l2 := max63 h2.out.1
  have F : ∀ {b : Bool}, b = false → false = b := fun h => h.symm
  simp only [splitB_iff, decide_eq_true_eq, decide_eq_false_iff_not, Bool.not_eq_true', Bool.not_eq_false']
  refine ⟨fun a => by unfold pointsB; rw [a]; simp, fun a => ⟨fun b => by unfold pointsB; rw [decide_eq_false (by omega)]; simp, fun b => ⟨fun c => by unfold pointsB; rw [decide_eq_false (p := g.p.2.1.length ≤ 16) (by omega)]; simp, fun c => ?_⟩⟩⟩
  have P : pointsB g.p g.lsn = (liveB g.p.2.2 g.lsn 0 g.p.1 && dirtyB g.lsn (-1) g.p.2.1) := by
    unfold pointsB
    rw [a, decide_eq_true (p := g.p.1.length ≤ 32) (by omega), decide_eq_true (p := g.p.2.1.length ≤ 16) (by omega)]
    simp
  rw [P]
  refine ⟨⟨⟨0, 0⟩, ⟨Nat.zero_le _, rfl⟩, rfl, rfl⟩, fun x hx => ?_⟩
  obtain ⟨i, last⟩ := x
  obtain ⟨k1, k2⟩ := hx.out
  dsimp only at k1 k2 ⊢
  simp only [Int.toNat_natCast]
  refine ⟨fun b => ?_, fun b => ?_⟩
  · have b : i < g.p.1.length := by omega
    rw [drop_at b (0, 0, false, false)] at k2
    generalize hz : g.p.1.getD i (0, 0, false, false) = z at *
    have k3 : liveB g.p.2.2 g.lsn 0 g.p.1 = (decide (last < z.1) && decide (z.1 < g.p.2.2) && within z.2.1 1 top && belowB z.2.1 g.lsn && !(z.2.2.1 && z.2.2.2) && liveB g.p.2.2 g.lsn z.1 (g.p.1.drop (i + 1))) := k2
    have go : ∀ q : Bool, liveB g.p.2.2 g.lsn 0 g.p.1 = liveB g.p.2.2 g.lsn z.1 (g.p.1.drop (i + 1)) → ∃ (y : LwAt), Holds (y.i ≤ g.p.1.length ∧ liveB g.p.2.2 g.lsn 0 g.p.1 = liveB g.p.2.2 g.lsn y.last (List.drop y.i g.p.1)) ∧ Holds (g.p.1.length - y.i < g.p.1.length - i) ∧ IntKind.i64.wrap ((i : Int) + 1) = (y.i : Int) ∧ z.1 = y.last := fun _ h => ⟨⟨i + 1, z.1⟩, ⟨b, h⟩, ⟨by show _ - (i + 1) < _; omega⟩, wrap_succ (by omega), rfl⟩
    refine ⟨⟨by omega⟩, ⟨by omega⟩, ⟨b⟩, fun c => ?_, fun c => ⟨fun d => ?_, fun d => ⟨fun e => ?_, fun e => ⟨fun f => ?_, fun f => ⟨fun u => ⟨fun v => ?_, fun v => go true ?_⟩, fun u => go true ?_⟩⟩⟩⟩⟩
    · rw [k3, decide_eq_false (by omega)]; simp
    · rw [k3, decide_eq_false (p := z.1 < g.p.2.2) (by omega)]; simp
    · rw [k3, e]; simp
    · rw [k3, f]; simp
    · rw [k3, u, v]; simp
    · rw [k3, u, v, e, f, decide_eq_true (by omega), decide_eq_true (p := z.1 < g.p.2.2) (by omega)]; simp
    · rw [k3, u, e, f, decide_eq_true (by omega), decide_eq_true (p := z.1 < g.p.2.2) (by omega)]; simp
  · have : i = g.p.1.length := by omega
    subst this
    rw [List.drop_length] at k2
    have k2 : liveB g.p.2.2 g.lsn 0 g.p.1 = true := k2
    rw [k2, Bool.true_and]
    refine ⟨⟨⟨0, -1⟩, ⟨Nat.zero_le _, rfl⟩, rfl, rfl⟩, fun x hx => ?_⟩
    obtain ⟨i, last⟩ := x
    obtain ⟨k1, k2⟩ := hx.out
    dsimp only at k1 k2 ⊢
    refine ⟨fun b => ?_, fun b => ?_⟩
    · have b : i < g.p.2.1.length := by omega
      rw [drop_at b (0, 0)] at k2
      generalize hz : g.p.2.1.getD i (0, 0) = z at *
      have k3 : dirtyB g.lsn (-1) g.p.2.1 = (decide (last < z.1) && decide (z.1 < 64) && within z.2 1 top && belowB z.2 g.lsn && dirtyB g.lsn z.1 (g.p.2.1.drop (i + 1))) := k2
      refine ⟨⟨by omega⟩, ⟨by omega⟩, ⟨b⟩, fun c => ?_, fun c => ⟨fun d => ?_, fun d => ⟨fun e => ?_, fun e => ⟨fun f => ?_, fun f => ⟨⟨i + 1, z.1⟩, ⟨b, ?_⟩, ⟨by show _ - (i + 1) < _; omega⟩, wrap_succ (by omega), rfl⟩⟩⟩⟩⟩
      · rw [k3, decide_eq_false (by omega)]; simp
      · rw [k3, decide_eq_false (p := z.1 < 64) (by omega)]; simp
      · rw [k3, e]; simp
      · rw [k3, f]; simp
      · rw [k3, e, f, decide_eq_true (by omega), decide_eq_true (p := z.1 < 64) (by omega)]; simp
    · have : i = g.p.2.1.length := by omega
      subst this
      rw [List.drop_length] at k2
      rw [k2]; rfl

def vc36 : Prop := vc Try.f36.body Try.f36.results Try.f36.ntmps [(47, some sp47), (48, some sp48), (50, some sp50), (51, some sp51), (49, some sp49)] sp36 (fun _ => noAnn)
theorem vc36_is : vc36 = (
∀ (g : RcArg), Holds (InR IntKind.i64 g.r.fst) → Holds (InR IntKind.i64 g.r.snd.fst) → Holds (InR IntKind.i64 g.r.snd.snd.fst) → Holds (InR IntKind.i64 g.r.snd.snd.snd.fst) → Holds (InR IntKind.i64 g.r.snd.snd.snd.snd.fst.fst) → Holds (InR IntKind.i64 g.r.snd.snd.snd.snd.fst.snd) → Holds (InR IntKind.i64 g.r.snd.snd.snd.snd.snd.fst.fst) → Holds (InR IntKind.i64 g.r.snd.snd.snd.snd.snd.fst.snd) → Holds (InR IntKind.i64 g.r.snd.snd.snd.snd.snd.snd.fst) → Holds (InR IntKind.i64 g.r.snd.snd.snd.snd.snd.snd.snd.fst.fst) → Holds (InR IntKind.i64 g.r.snd.snd.snd.snd.snd.snd.snd.fst.snd.fst) → Holds (InR IntKind.i64 g.r.snd.snd.snd.snd.snd.snd.snd.fst.snd.snd.fst.fst) → Holds (InR IntKind.i64 g.r.snd.snd.snd.snd.snd.snd.snd.fst.snd.snd.fst.snd) → Holds (InR IntKind.i64 g.r.snd.snd.snd.snd.snd.snd.snd.fst.snd.snd.snd) → Holds (kL.slice.ok g.r.snd.snd.snd.snd.snd.snd.snd.snd.fst) → Holds (kD.slice.ok g.r.snd.snd.snd.snd.snd.snd.snd.snd.snd.fst) → Holds (InR IntKind.i64 g.r.snd.snd.snd.snd.snd.snd.snd.snd.snd.snd) → SplitB (decide (g.r.snd.fst < (1 : Int))) (∃ (r : Int), Holds (r = checkR g.r) ∧ (70 : Int) = r) (SplitB (decide (g.r.snd.fst > (8 : Int))) (∃ (r : Int), Holds (r = checkR g.r) ∧ (70 : Int) = r) (SplitB (g.r.snd.fst == (2 : Int)) (SplitB (within g.r.fst (0 : Int) (2147483647 : Int)) (SplitB (slotsB g.r.snd.snd.snd.snd.fst g.r.snd.snd.snd.snd.snd.fst) (SplitB (within g.r.snd.snd.snd.snd.snd.snd.snd.fst.fst (1 : Int) (1048576 : Int)) (SplitB (within g.r.snd.snd.snd.snd.snd.snd.snd.fst.snd.fst (1 : Int) (1048576 : Int)) (SplitB (decide (g.r.snd.snd.snd.snd.snd.snd.snd.fst.snd.snd.fst.fst ≤ g.r.snd.snd.snd.snd.snd.snd.snd.fst.snd.snd.snd)) (SplitB (!decide (g.r.snd.snd.snd.snd.snd.snd.snd.fst.snd.snd.snd ≤ g.r.snd.snd.snd.snd.snd.snd.snd.fst.snd.snd.fst.snd)) (∃ (r : Int), Holds (r = checkR g.r) ∧ (23 : Int) = r) (SplitB (!blankB (g.r.fst, g.r.snd.fst, g.r.snd.snd.fst, g.r.snd.snd.snd.fst, ((0 : Int), (0 : Int)), ((0 : Int), (0 : Int)), g.r.snd.snd.snd.snd.snd.snd.fst, ((0 : Int), (0 : Int), ((0 : Int), (0 : Int)), (0 : Int)), g.r.snd.snd.snd.snd.snd.snd.snd.snd)) (∃ (r : Int), Holds (r = checkR g.r) ∧ (23 : Int) = r) (∃ (r : Int), Holds (r = checkR g.r) ∧ (0 : Int) = r))) (∃ (r : Int), Holds (r = checkR g.r) ∧ (23 : Int) = r)) (∃ (r : Int), Holds (r = checkR g.r) ∧ (23 : Int) = r)) (∃ (r : Int), Holds (r = checkR g.r) ∧ (23 : Int) = r)) (∃ (r : Int), Holds (r = checkR g.r) ∧ (23 : Int) = r)) (∃ (r : Int), Holds (r = checkR g.r) ∧ (23 : Int) = r)) (SplitB (g.r.snd.fst == (8 : Int)) (SplitB (within g.r.fst (0 : Int) (2147483647 : Int)) (SplitB (!pointsB g.r.snd.snd.snd.snd.snd.snd.snd.snd g.r.fst) (∃ (r : Int), Holds (r = checkR g.r) ∧ (23 : Int) = r) (SplitB (!blankB (g.r.fst, g.r.snd.fst, g.r.snd.snd.fst, g.r.snd.snd.snd.fst, g.r.snd.snd.snd.snd.fst, g.r.snd.snd.snd.snd.snd.fst, g.r.snd.snd.snd.snd.snd.snd.fst, g.r.snd.snd.snd.snd.snd.snd.snd.fst, [], [], (0 : Int))) (∃ (r : Int), Holds (r = checkR g.r) ∧ (23 : Int) = r) (∃ (r : Int), Holds (r = checkR g.r) ∧ (0 : Int) = r))) (∃ (r : Int), Holds (r = checkR g.r) ∧ (23 : Int) = r)) (SplitB (g.r.snd.fst == (3 : Int)) (SplitB (within g.r.fst (0 : Int) (2147483647 : Int)) (SplitB (slotsB g.r.snd.snd.snd.snd.fst g.r.snd.snd.snd.snd.snd.fst) (SplitB (within g.r.snd.snd.snd.snd.snd.snd.snd.fst.fst (1 : Int) (1048576 : Int)) (SplitB (within g.r.snd.snd.snd.fst (1 : Int) (2147483647 : Int)) (SplitB (belowB g.r.snd.snd.snd.fst g.r.fst) (SplitB (!within g.r.snd.snd.fst (1 : Int) (2147483647 : Int)) (∃ (r : Int), Holds (r = checkR g.r) ∧ (23 : Int) = r) (SplitB (!blankB (g.r.fst, g.r.snd.fst, (0 : Int), (0 : Int), ((0 : Int), (0 : Int)), ((0 : Int), (0 : Int)), (0 : Int), ((0 : Int), g.r.snd.snd.snd.snd.snd.snd.snd.fst.snd), g.r.snd.snd.snd.snd.snd.snd.snd.snd)) (∃ (r : Int), Holds (r = checkR g.r) ∧ (23 : Int) = r) (∃ (r : Int), Holds (r = checkR g.r) ∧ (0 : Int) = r))) (∃ (r : Int), Holds (r = checkR g.r) ∧ (23 : Int) = r)) (∃ (r : Int), Holds (r = checkR g.r) ∧ (23 : Int) = r)) (∃ (r : Int), Holds (r = checkR g.r) ∧ (23 : Int) = r)) (∃ (r : Int), Holds (r = checkR g.r) ∧ (23 : Int) = r)) (∃ (r : Int), Holds (r = checkR g.r) ∧ (23 : Int) = r)) (SplitB (g.r.snd.fst == (4 : Int)) (SplitB (within g.r.fst (0 : Int) (2147483647 : Int)) (SplitB (slotsB g.r.snd.snd.snd.snd.fst g.r.snd.snd.snd.snd.snd.fst) (SplitB (within g.r.snd.snd.snd.snd.snd.snd.snd.fst.fst (1 : Int) (1048576 : Int)) (SplitB (within g.r.snd.snd.snd.fst (1 : Int) (2147483647 : Int)) (SplitB (belowB g.r.snd.snd.snd.fst g.r.fst) (SplitB (!within g.r.snd.snd.fst (1 : Int) (2147483647 : Int)) (∃ (r : Int), Holds (r = checkR g.r) ∧ (23 : Int) = r) (SplitB (!blankB (g.r.fst, g.r.snd.fst, (0 : Int), (0 : Int), ((0 : Int), (0 : Int)), ((0 : Int), (0 : Int)), (0 : Int), ((0 : Int), g.r.snd.snd.snd.snd.snd.snd.snd.fst.snd), g.r.snd.snd.snd.snd.snd.snd.snd.snd)) (∃ (r : Int), Holds (r = checkR g.r) ∧ (23 : Int) = r) (∃ (r : Int), Holds (r = checkR g.r) ∧ (0 : Int) = r))) (∃ (r : Int), Holds (r = checkR g.r) ∧ (23 : Int) = r)) (∃ (r : Int), Holds (r = checkR g.r) ∧ (23 : Int) = r)) (∃ (r : Int), Holds (r = checkR g.r) ∧ (23 : Int) = r)) (∃ (r : Int), Holds (r = checkR g.r) ∧ (23 : Int) = r)) (∃ (r : Int), Holds (r = checkR g.r) ∧ (23 : Int) = r)) (SplitB (g.r.snd.fst == (5 : Int)) (SplitB (within g.r.fst (0 : Int) (2147483647 : Int)) (SplitB (within g.r.snd.snd.snd.fst (1 : Int) (2147483647 : Int)) (SplitB (belowB g.r.snd.snd.snd.fst g.r.fst) (SplitB (!within g.r.snd.snd.fst (1 : Int) (2147483647 : Int)) (∃ (r : Int), Holds (r = checkR g.r) ∧ (23 : Int) = r) (SplitB (!blankB (g.r.fst, g.r.snd.fst, (0 : Int), (0 : Int), g.r.snd.snd.snd.snd)) (∃ (r : Int), Holds (r = checkR g.r) ∧ (23 : Int) = r) (∃ (r : Int), Holds (r = checkR g.r) ∧ (0 : Int) = r))) (∃ (r : Int), Holds (r = checkR g.r) ∧ (23 : Int) = r)) (∃ (r : Int), Holds (r = checkR g.r) ∧ (23 : Int) = r)) (∃ (r : Int), Holds (r = checkR g.r) ∧ (23 : Int) = r)) (SplitB (g.r.snd.fst == (6 : Int)) (SplitB (within g.r.fst (0 : Int) (2147483647 : Int)) (SplitB (within g.r.snd.snd.snd.fst (1 : Int) (2147483647 : Int)) (SplitB (belowB g.r.snd.snd.snd.fst g.r.fst) (SplitB (!within g.r.snd.snd.fst (1 : Int) (2147483647 : Int)) (∃ (r : Int), Holds (r = checkR g.r) ∧ (23 : Int) = r) (SplitB (!blankB (g.r.fst, g.r.snd.fst, (0 : Int), (0 : Int), g.r.snd.snd.snd.snd)) (∃ (r : Int), Holds (r = checkR g.r) ∧ (23 : Int) = r) (∃ (r : Int), Holds (r = checkR g.r) ∧ (0 : Int) = r))) (∃ (r : Int), Holds (r = checkR g.r) ∧ (23 : Int) = r)) (∃ (r : Int), Holds (r = checkR g.r) ∧ (23 : Int) = r)) (∃ (r : Int), Holds (r = checkR g.r) ∧ (23 : Int) = r)) (SplitB (g.r.snd.fst == (7 : Int)) (SplitB (within g.r.fst (0 : Int) (2147483647 : Int)) (SplitB (within g.r.snd.snd.snd.fst (1 : Int) (2147483647 : Int)) (SplitB (belowB g.r.snd.snd.snd.fst g.r.fst) (SplitB (!within g.r.snd.snd.fst (1 : Int) (2147483647 : Int)) (∃ (r : Int), Holds (r = checkR g.r) ∧ (23 : Int) = r) (SplitB (!blankB (g.r.fst, g.r.snd.fst, (0 : Int), (0 : Int), g.r.snd.snd.snd.snd)) (∃ (r : Int), Holds (r = checkR g.r) ∧ (23 : Int) = r) (∃ (r : Int), Holds (r = checkR g.r) ∧ (0 : Int) = r))) (∃ (r : Int), Holds (r = checkR g.r) ∧ (23 : Int) = r)) (∃ (r : Int), Holds (r = checkR g.r) ∧ (23 : Int) = r)) (∃ (r : Int), Holds (r = checkR g.r) ∧ (23 : Int) = r)) (SplitB (g.r.snd.fst == (1 : Int)) (SplitB (within g.r.fst (0 : Int) (2147483647 : Int)) (SplitB (!within g.r.snd.snd.fst (1 : Int) (2147483647 : Int)) (∃ (r : Int), Holds (r = checkR g.r) ∧ (23 : Int) = r) (SplitB (!blankB (g.r.fst, g.r.snd.fst, (0 : Int), g.r.snd.snd.snd)) (∃ (r : Int), Holds (r = checkR g.r) ∧ (23 : Int) = r) (∃ (r : Int), Holds (r = checkR g.r) ∧ (0 : Int) = r))) (∃ (r : Int), Holds (r = checkR g.r) ∧ (23 : Int) = r)) (SplitB (!within g.r.fst (0 : Int) (2147483647 : Int)) (∃ (r : Int), Holds (r = checkR g.r) ∧ (23 : Int) = r) (SplitB (!blankB g.r) (∃ (r : Int), Holds (r = checkR g.r) ∧ (23 : Int) = r) (∃ (r : Int), Holds (r = checkR g.r) ∧ (0 : Int) = r))))))))))))) := by kernel_rfl
theorem ok36 : vc36 := by
  rw [vc36_is]
  rintro ⟨lsn, kind, tx, prev, w, s, d, c, p⟩
  intro h1 h2 h3 h4 h5 h6 h7 h8 h9 h10 h11 h12 h13 h14 h15 h16 h17
  clear h1 h2 h3 h4 h5 h6 h7 h8 h9 h10 h11 h12 h13 h14 h15 h16 h17
  have E23 : okR (lsn, kind, tx, prev, w, s, d, c, p) = false → ¬ kind < 1 → ¬ kind > 8 → ∃ r, Holds (r = checkR (lsn, kind, tx, prev, w, s, d, c, p)) ∧ (23 : Int) = r := fun h a b => ⟨_, ⟨rfl⟩, by unfold checkR; rw [if_neg (by show ¬ (kind < 1 ∨ 8 < kind); omega), h]; rfl⟩
  have E0 : okR (lsn, kind, tx, prev, w, s, d, c, p) = true → ¬ kind < 1 → ¬ kind > 8 → ∃ r, Holds (r = checkR (lsn, kind, tx, prev, w, s, d, c, p)) ∧ (0 : Int) = r := fun h a b => ⟨_, ⟨rfl⟩, by unfold checkR; rw [if_neg (by show ¬ (kind < 1 ∨ 8 < kind); omega), h]; rfl⟩
  have E70 : (kind < 1 ∨ kind > 8) → ∃ r, Holds (r = checkR (lsn, kind, tx, prev, w, s, d, c, p)) ∧ (70 : Int) = r := fun h => ⟨_, ⟨rfl⟩, by unfold checkR; rw [if_pos (by show kind < 1 ∨ 8 < kind; omega)]⟩
  dsimp only at *
  refine ⟨fun a => E70 (.inl (by simpa using a)), fun a => ⟨fun b => E70 (.inr (by simpa using b)), fun b => ?_⟩⟩
  have a : ¬ kind < 1 := by simpa using a
  have b : ¬ kind > 8 := by simpa using b
  have E23 := fun h => E23 h a b
  have E0 := fun h => E0 h a b
  clear E70
  unfold okR at E23 E0
  dsimp only at E23 E0
  have k8 : kind = 1 ∨ kind = 2 ∨ kind = 3 ∨ kind = 4 ∨ kind = 5 ∨ kind = 6 ∨ kind = 7 ∨ kind = 8 := by omega
  clear a b
  have key : ∀ (b : Bool) (T : Prop), (b = true → T) → (b = false → T) → T := fun b T h1 h2 => by cases b with | true => exact h1 rfl | false => exact h2 rfl
  rcases k8 with rfl | rfl | rfl | rfl | rfl | rfl | rfl | rfl <;> simp only [splitB_iff] <;> simp <;> simp [top] at E23 E0
  all_goals (repeat' (first | refine ⟨?_, ?_⟩ | intro _))
  all_goals first
    | (refine E0 ?_ ?_ ?_ <;> assumption; done)
    | (refine E0 ?_ ?_ ?_ ?_ ?_ ?_ ?_ <;> assumption; done)
    | (refine E0 ?_ ?_ ?_ ?_ ?_ <;> assumption; done)
    | (refine E23 ?_; intros; simp_all; done)
    | (refine E23 ?_; intros; exfalso; omega)
    | trace_state

end Go.Proofs.Ytncecddhknfimaa.VC
