/- What is to be shown of functions, shown. Plain lemmas; no conditions but those that each names. -/
import Derived.Test.YtljimnhijpcjaaaPu
import Derived.KernelRfl
set_option linter.unusedVariables false
set_option linter.unusedSimpArgs false
set_option linter.unusedSectionVars false
namespace Go.Proofs.Ytljimnhijpcjaaa.VC
open Go
set_option maxRecDepth 100000

theorem inNum {n : Int} : InR .i64 n ↔ Num n := Iff.rfl
def vc27 : Prop := vc Try.f27.body Try.f27.results Try.f27.ntmps [] sp27 (fun _ => noAnn)
theorem vc27_is : vc27 = (
∀ (g : Num1), Holds (InR IntKind.i64 g.v) → Holds ((0 : Int) ≤ (32 : Int)) ∧ shrI IntKind.i64 g.v (32 : Int) = g.v / (4294967296 : Int) ∧ bitAnd IntKind.i64 g.v (4294967295 : Int) = g.v % (4294967296 : Int)) := by kernel_rfl
theorem ok27 : vc27 := by
  rw [vc27_is]
  intro g h
  refine ⟨⟨by decide⟩, ?_, ?_⟩
  · exact shr_pow 32 (by decide) _ _ rfl
  · exact and_mask 32 (by decide) _ _ (by decide)

def vc25 : Prop := vc Try.f25.body Try.f25.results Try.f25.ntmps [] sp25 (fun _ => noAnn)
theorem vc25_is : vc25 = (
∀ (g : RW), Holds (InR IntKind.i64 g.w.fst) → Holds (InR IntKind.i64 g.w.snd) → Holds (InR IntKind.i64 g.v) → Holds (WFit g.w) → Holds ((0 : Int) ≤ (32 : Int)) ∧ Holds ((0 : Int) ≤ (32 : Int)) ∧ IntKind.i64.wrap (IntKind.i64.wrap (g.w.fst + shrI IntKind.i64 g.v (32 : Int)) + shrI IntKind.i64 (IntKind.i64.wrap (g.w.snd + bitAnd IntKind.i64 g.v (4294967295 : Int))) (32 : Int)) = (wv g.w + g.v) / (4294967296 : Int) ∧ bitAnd IntKind.i64 (IntKind.i64.wrap (g.w.snd + bitAnd IntKind.i64 g.v (4294967295 : Int))) (4294967295 : Int) = (wv g.w + g.v) % (4294967296 : Int)) := by kernel_rfl
theorem ok25 : vc25 := by
  rw [vc25_is]
  intro g h1 h2 h3 h4
  obtain ⟨w1, w2, w3, w4⟩ := h4.out
  have h3 := h3.out
  rw [inR64] at h3
  have a1 : bitAnd .i64 g.v 4294967295 = g.v % 4294967296 := and_mask 32 (by decide) _ _ (by decide)
  have s1 : shrI .i64 g.v 32 = g.v / 4294967296 := shr_pow 32 (by decide) _ _ rfl
  rw [a1, s1, wrap64 (n := g.w.2 + g.v % 4294967296) (by omega) (by omega)]
  have a2 : bitAnd .i64 (g.w.2 + g.v % 4294967296) 4294967295 = (g.w.2 + g.v % 4294967296) % 4294967296 := and_mask 32 (by decide) _ _ (by decide)
  have s2 : shrI .i64 (g.w.2 + g.v % 4294967296) 32 = (g.w.2 + g.v % 4294967296) / 4294967296 := shr_pow 32 (by decide) _ _ rfl
  rw [a2, s2, wrap64 (n := g.w.1 + g.v / 4294967296) (by omega) (by omega), wrap64 (by omega) (by omega)]
  unfold wv
  exact ⟨⟨by decide⟩, ⟨by decide⟩, by omega, by omega⟩

def vc21 : Prop := vc Try.f21.body Try.f21.results Try.f21.ntmps [(27, some sp27)] sp21 (fun _ => noAnn)
theorem vc21_is : vc21 = (
∀ (g : RW), Holds (InR IntKind.i64 g.w.fst) → Holds (InR IntKind.i64 g.w.snd) → Holds (InR IntKind.i64 g.v) → Holds (WFit g.w) → SplitB (decide (g.w.fst < g.v / (4294967296 : Int))) (true = decide (wv g.w < g.v)) (SplitB (g.w.fst == g.v / (4294967296 : Int)) (decide (g.w.snd < g.v % (4294967296 : Int)) = decide (wv g.w < g.v)) (false = decide (wv g.w < g.v)))) := by kernel_rfl
theorem ok21 : vc21 := by
  rw [vc21_is]
  intro g h1 h2 h3 h4
  obtain ⟨w1, w2, w3, w4⟩ := h4.out
  unfold wv
  simp only [splitB_iff, decide_eq_true_eq, decide_eq_false_iff_not, beq_iff_eq, beq_eq_false_iff_ne]
  refine ⟨fun a => ?_, fun a => ⟨fun b => ?_, fun b => ?_⟩⟩
  · symm; simp only [decide_eq_true_eq]; omega
  · congr 1; apply propext; omega
  · symm; simp only [decide_eq_false_iff_not]; omega

def vc22 : Prop := vc Try.f22.body Try.f22.results Try.f22.ntmps [(27, some sp27)] sp22 (fun _ => noAnn)
theorem vc22_is : vc22 = (
∀ (g : RW), Holds (InR IntKind.i64 g.w.fst) → Holds (InR IntKind.i64 g.w.snd) → Holds (InR IntKind.i64 g.v) → Holds (WFit g.w) → SplitB (decide (g.w.fst > g.v / (4294967296 : Int))) (true = decide (wv g.w > g.v)) (SplitB (g.w.fst == g.v / (4294967296 : Int)) (decide (g.w.snd > g.v % (4294967296 : Int)) = decide (wv g.w > g.v)) (false = decide (wv g.w > g.v)))) := by kernel_rfl
theorem ok22 : vc22 := by
  rw [vc22_is]
  intro g h1 h2 h3 h4
  obtain ⟨w1, w2, w3, w4⟩ := h4.out
  unfold wv
  simp only [splitB_iff, decide_eq_true_eq, decide_eq_false_iff_not, beq_iff_eq, beq_eq_false_iff_ne]
  refine ⟨fun a => ?_, fun a => ⟨fun b => ?_, fun b => ?_⟩⟩
  · symm; simp only [decide_eq_true_eq]; omega
  · congr 1; apply propext; omega
  · symm; simp only [decide_eq_false_iff_not]; omega

def vc24 : Prop := vc Try.f24.body Try.f24.results Try.f24.ntmps [] sp24 (fun _ => noAnn)
theorem vc24_is : vc24 = (
∀ (g : TxN), Holds (InR IntKind.i64 g.n) → Holds ((8 : Int) ≠ (0 : Int)) ∧ Holds ((8 : Int) ≠ (0 : Int)) ∧ IntKind.i64.wrap ((1 : Int) + (IntKind.i64.wrap (g.n.tmod (8 : Int) + (8 : Int))).tmod (8 : Int)) = (1 : Int) + g.n % (8 : Int)) := by kernel_rfl
theorem ok24 : vc24 := by
  rw [vc24_is]
  intro g h
  have m := mod_pos (n := g.n) (m := 8) (by decide) (by decide)
  have := mod_in g.n (m := 8) (by decide)
  simp only [m, holds_iff]
  rw [wrap64 (by omega) (by omega)]
  simp

def vc14 : Prop := vc Try.f14.body Try.f14.results Try.f14.ntmps [(10, some sp10), (24, some sp24), (26, some sp26), (32, some sp32)] sp14 ann14
theorem vc14_is : vc14 = (
∀ (g : MadeArg), Holds (InR IntKind.i64 g.b.fst) → Holds (InR IntKind.i64 g.b.snd) → Holds (InR IntKind.i64 g.v) → Holds (kN.slice.ok g.d) → SplitB (decide (g.b.fst > g.b.snd)) (SplitB (decide (g.v < g.b.snd)) (∃ (x : BndAt), Holds (Num x.lo ∧ Num x.hi ∧ x.lo ≤ x.v ∧ x.v ≤ x.hi) ∧ g.b.snd = x.v ∧ g.b.snd = x.lo ∧ g.b.fst = x.hi) (SplitB (decide (g.v > g.b.fst)) (∃ (x : BndAt), Holds (Num x.lo ∧ Num x.hi ∧ x.lo ≤ x.v ∧ x.v ≤ x.hi) ∧ g.b.snd = x.v ∧ g.b.snd = x.lo ∧ g.b.fst = x.hi) (∃ (x : BndAt), Holds (Num x.lo ∧ Num x.hi ∧ x.lo ≤ x.v ∧ x.v ≤ x.hi) ∧ g.v = x.v ∧ g.b.snd = x.lo ∧ g.b.fst = x.hi)) ∧ ∀ (x : BndAt), Holds (Num x.lo ∧ Num x.hi ∧ x.lo ≤ x.v ∧ x.v ≤ x.hi) → (∀ (r : Int), Holds (r ≠ (0 : Int) ∧ newF (x.lo, x.hi) x.v = r) → SplitB (r != (0 : Int)) (∃ (r : Esc), Holds (r.Good ∧ (g.d = [] → r.nets = [])) ∧ False) (∃ (r : Esc), Holds (r.Good ∧ (g.d = [] → r.nets = [])) ∧ False)) ∧ ∀ (r : Unit), Holds (newF (x.lo, x.hi) x.v = (0 : Int)) → SplitB ((0 : Int) != (0 : Int)) (∃ (r : Esc), Holds (r.Good ∧ (g.d = [] → r.nets = [])) ∧ False) ((∃ (x_1 : MadeAt), Holds (x_1.i ≤ (40 : Nat) ∧ x_1.i ≤ g.d.length ∧ x_1.e.Good ∧ (x_1.i = (0 : Nat) → x_1.e.nets = [])) ∧ (0 : Int) = (↑x_1.i : Int) ∧ x.lo = x_1.e.lo ∧ x.hi = x_1.e.hi ∧ x.v = x_1.e.st ∧ nilT (Int × Int) = x_1.e.nets) ∧ ∀ (x : MadeAt), Holds (x.i ≤ (40 : Nat) ∧ x.i ≤ g.d.length ∧ x.e.Good ∧ (x.i = (0 : Nat) → x.e.nets = [])) → SplitB (decide ((↑x.i : Int) < (↑g.d.length : Int))) (SplitB (decide ((↑x.i : Int) < (40 : Int))) (Holds ((0 : Int) ≤ (↑x.i : Int)) ∧ Holds ((↑x.i : Int) < (↑g.d.length : Int)) ∧ Holds ((↑x.i : Int).toNat < g.d.length) ∧ Holds ((0 : Int) ≤ (↑x.i : Int)) ∧ Holds ((↑x.i : Int) < (↑g.d.length : Int)) ∧ Holds ((↑x.i : Int).toNat < g.d.length) ∧ Holds (x.e.nets.length ≤ (1000000 : Nat)) ∧ ∀ (r : Int), Holds (r = mayF x.e ((1 : Int) + (g.d.getD (↑x.i : Int).toNat ((0 : Int), (0 : Int))).fst % (8 : Int)) (g.d.getD (↑x.i : Int).toNat ((0 : Int), (0 : Int))).snd) → Holds ((0 : Int) ≤ (↑x.i : Int)) ∧ Holds ((↑x.i : Int) < (↑g.d.length : Int)) ∧ Holds ((↑x.i : Int).toNat < g.d.length) ∧ Holds (x.e.nets.length ≤ (1000000 : Nat)) ∧ ∀ (r_1 : AddOut), Holds (r_1 = addF x.e ((1 : Int) + (g.d.getD (↑x.i : Int).toNat ((0 : Int), (0 : Int))).fst % (8 : Int)) (g.d.getD (↑x.i : Int).toNat ((0 : Int), (0 : Int))).snd) → SplitB (r_1.e != r) (∃ (r : Esc), Holds (r.Good ∧ (g.d = [] → r.nets = [])) ∧ False) (∃ (y : MadeAt), Holds (y.i ≤ (40 : Nat) ∧ y.i ≤ g.d.length ∧ y.e.Good ∧ (y.i = (0 : Nat) → y.e.nets = [])) ∧ Holds ((40 : Nat) - y.i < (40 : Nat) - x.i) ∧ IntKind.i64.wrap ((↑x.i : Int) + (1 : Int)) = (↑y.i : Int) ∧ x.e.lo = y.e.lo ∧ x.e.hi = y.e.hi ∧ x.e.st = y.e.st ∧ r_1.nets = y.e.nets)) (∃ (r : Esc), Holds (r.Good ∧ (g.d = [] → r.nets = [])) ∧ x.e.lo = r.lo ∧ x.e.hi = r.hi ∧ x.e.st = r.st ∧ x.e.nets = r.nets)) (∃ (r : Esc), Holds (r.Good ∧ (g.d = [] → r.nets = [])) ∧ x.e.lo = r.lo ∧ x.e.hi = r.hi ∧ x.e.st = r.st ∧ x.e.nets = r.nets))) (SplitB (decide (g.v < g.b.fst)) (∃ (x : BndAt), Holds (Num x.lo ∧ Num x.hi ∧ x.lo ≤ x.v ∧ x.v ≤ x.hi) ∧ g.b.fst = x.v ∧ g.b.fst = x.lo ∧ g.b.snd = x.hi) (SplitB (decide (g.v > g.b.snd)) (∃ (x : BndAt), Holds (Num x.lo ∧ Num x.hi ∧ x.lo ≤ x.v ∧ x.v ≤ x.hi) ∧ g.b.fst = x.v ∧ g.b.fst = x.lo ∧ g.b.snd = x.hi) (∃ (x : BndAt), Holds (Num x.lo ∧ Num x.hi ∧ x.lo ≤ x.v ∧ x.v ≤ x.hi) ∧ g.v = x.v ∧ g.b.fst = x.lo ∧ g.b.snd = x.hi)) ∧ ∀ (x : BndAt), Holds (Num x.lo ∧ Num x.hi ∧ x.lo ≤ x.v ∧ x.v ≤ x.hi) → (∀ (r : Int), Holds (r ≠ (0 : Int) ∧ newF (x.lo, x.hi) x.v = r) → SplitB (r != (0 : Int)) (∃ (r : Esc), Holds (r.Good ∧ (g.d = [] → r.nets = [])) ∧ False) (∃ (r : Esc), Holds (r.Good ∧ (g.d = [] → r.nets = [])) ∧ False)) ∧ ∀ (r : Unit), Holds (newF (x.lo, x.hi) x.v = (0 : Int)) → SplitB ((0 : Int) != (0 : Int)) (∃ (r : Esc), Holds (r.Good ∧ (g.d = [] → r.nets = [])) ∧ False) ((∃ (x_1 : MadeAt), Holds (x_1.i ≤ (40 : Nat) ∧ x_1.i ≤ g.d.length ∧ x_1.e.Good ∧ (x_1.i = (0 : Nat) → x_1.e.nets = [])) ∧ (0 : Int) = (↑x_1.i : Int) ∧ x.lo = x_1.e.lo ∧ x.hi = x_1.e.hi ∧ x.v = x_1.e.st ∧ nilT (Int × Int) = x_1.e.nets) ∧ ∀ (x : MadeAt), Holds (x.i ≤ (40 : Nat) ∧ x.i ≤ g.d.length ∧ x.e.Good ∧ (x.i = (0 : Nat) → x.e.nets = [])) → SplitB (decide ((↑x.i : Int) < (↑g.d.length : Int))) (SplitB (decide ((↑x.i : Int) < (40 : Int))) (Holds ((0 : Int) ≤ (↑x.i : Int)) ∧ Holds ((↑x.i : Int) < (↑g.d.length : Int)) ∧ Holds ((↑x.i : Int).toNat < g.d.length) ∧ Holds ((0 : Int) ≤ (↑x.i : Int)) ∧ Holds ((↑x.i : Int) < (↑g.d.length : Int)) ∧ Holds ((↑x.i : Int).toNat < g.d.length) ∧ Holds (x.e.nets.length ≤ (1000000 : Nat)) ∧ ∀ (r : Int), Holds (r = mayF x.e ((1 : Int) + (g.d.getD (↑x.i : Int).toNat ((0 : Int), (0 : Int))).fst % (8 : Int)) (g.d.getD (↑x.i : Int).toNat ((0 : Int), (0 : Int))).snd) → Holds ((0 : Int) ≤ (↑x.i : Int)) ∧ Holds ((↑x.i : Int) < (↑g.d.length : Int)) ∧ Holds ((↑x.i : Int).toNat < g.d.length) ∧ Holds (x.e.nets.length ≤ (1000000 : Nat)) ∧ ∀ (r_1 : AddOut), Holds (r_1 = addF x.e ((1 : Int) + (g.d.getD (↑x.i : Int).toNat ((0 : Int), (0 : Int))).fst % (8 : Int)) (g.d.getD (↑x.i : Int).toNat ((0 : Int), (0 : Int))).snd) → SplitB (r_1.e != r) (∃ (r : Esc), Holds (r.Good ∧ (g.d = [] → r.nets = [])) ∧ False) (∃ (y : MadeAt), Holds (y.i ≤ (40 : Nat) ∧ y.i ≤ g.d.length ∧ y.e.Good ∧ (y.i = (0 : Nat) → y.e.nets = [])) ∧ Holds ((40 : Nat) - y.i < (40 : Nat) - x.i) ∧ IntKind.i64.wrap ((↑x.i : Int) + (1 : Int)) = (↑y.i : Int) ∧ x.e.lo = y.e.lo ∧ x.e.hi = y.e.hi ∧ x.e.st = y.e.st ∧ r_1.nets = y.e.nets)) (∃ (r : Esc), Holds (r.Good ∧ (g.d = [] → r.nets = [])) ∧ x.e.lo = r.lo ∧ x.e.hi = r.hi ∧ x.e.st = r.st ∧ x.e.nets = r.nets)) (∃ (r : Esc), Holds (r.Good ∧ (g.d = [] → r.nets = [])) ∧ x.e.lo = r.lo ∧ x.e.hi = r.hi ∧ x.e.st = r.st ∧ x.e.nets = r.nets)))) := by kernel_rfl
theorem may_add (e : Esc) (tx d : Int) : (addF e tx d).e = mayF e tx d := by
  unfold addF
  by_cases h : mayF e tx d = 0
  · rw [if_neg (by simpa using h), h]
  · rw [if_pos h]
theorem good_addF {e : Esc} (h : e.Good) {tx d : Int} (h1 : 1 ≤ tx) (h2 : tx ≤ 8) : Esc.Good ⟨e.lo, e.hi, e.st, (addF e tx d).nets⟩ := by
  unfold addF
  by_cases hm : mayF e tx d = 0
  · rw [if_neg (by simpa using hm)]; exact good_add h h1 h2 hm
  · rw [if_pos hm]; exact h
theorem made_core (g : MadeArg) (x : BndAt) (hx : Holds (Num x.lo ∧ Num x.hi ∧ x.lo ≤ x.v ∧ x.v ≤ x.hi)) : newF (x.lo, x.hi) x.v = 0 ∧ Esc.Good ⟨x.lo, x.hi, x.v, []⟩ := by
  obtain ⟨h1, h2, h3, h4⟩ := hx.out
  refine ⟨?_, good_new h1 h2 h3 h4⟩
  unfold newF
  rw [if_neg (by show ¬ x.lo > x.hi; omega), if_neg]
  have := has_iff (a := x.lo) (b := x.hi) (v := x.v)
  rw [this.2 ⟨h3, h4⟩]; decide
theorem ok14 : vc14 := by
  rw [vc14_is]
  intro g h1 h2 h3 h4
  have h1 := h1.out
  have h2 := h2.out
  have h3 := h3.out
  rw [inR64] at h1 h2 h3
  have step : ∀ x : MadeAt, Holds (x.i ≤ 40 ∧ x.i ≤ g.d.length ∧ x.e.Good ∧ (x.i = 0 → x.e.nets = [])) → x.i < g.d.length → x.i < 40 → ∀ r : Int, r = mayF x.e (1 + (g.d.getD x.i (0, 0)).1 % 8) (g.d.getD x.i (0, 0)).2 → ∀ q : AddOut, q = addF x.e (1 + (g.d.getD x.i (0, 0)).1 % 8) (g.d.getD x.i (0, 0)).2 →
      SplitB (q.e != r) (∃ r : Esc, Holds (r.Good ∧ (g.d = [] → r.nets = [])) ∧ False) (∃ y : MadeAt, Holds (y.i ≤ 40 ∧ y.i ≤ g.d.length ∧ y.e.Good ∧ (y.i = 0 → y.e.nets = [])) ∧ Holds (40 - y.i < 40 - x.i) ∧ IntKind.i64.wrap ((x.i : Int) + 1) = (y.i : Int) ∧ x.e.lo = y.e.lo ∧ x.e.hi = y.e.hi ∧ x.e.st = y.e.st ∧ q.nets = y.e.nets) := by
    intro x hx a b r hr q hq
    obtain ⟨k1, k2, k3, k4⟩ := hx.out
    have m := mod_in (g.d.getD x.i (0, 0)).1 (m := 8) (by decide)
    subst hr hq
    refine ⟨fun h => by rw [may_add] at h; simp at h, fun _ => ⟨⟨x.i + 1, ⟨x.e.lo, x.e.hi, x.e.st, _⟩⟩, ⟨⟨by show x.i + 1 ≤ 40; omega, by show x.i + 1 ≤ _; omega, good_addF k3 (by omega) (by omega), fun h => by simp at h⟩⟩, ⟨by show 40 - (x.i + 1) < _; omega⟩, wrap_succ (by omega), rfl, rfl, rfl, rfl⟩⟩
  have done : ∀ x : MadeAt, Holds (x.i ≤ 40 ∧ x.i ≤ g.d.length ∧ x.e.Good ∧ (x.i = 0 → x.e.nets = [])) → (¬ x.i < g.d.length ∨ ¬ x.i < 40) → ∃ r : Esc, Holds (r.Good ∧ (g.d = [] → r.nets = [])) ∧ x.e.lo = r.lo ∧ x.e.hi = r.hi ∧ x.e.st = r.st ∧ x.e.nets = r.nets := by
    intro x hx a
    obtain ⟨k1, k2, k3, k4⟩ := hx.out
    refine ⟨x.e, ⟨⟨k3, fun hd => k4 ?_⟩⟩, rfl, rfl, rfl, rfl⟩
    rw [hd] at k2
    simpa using k2
  have rest : ∀ x : BndAt, Holds (Num x.lo ∧ Num x.hi ∧ x.lo ≤ x.v ∧ x.v ≤ x.hi) → _ := fun x hx => made_core g x hx
  refine ⟨fun a => ⟨⟨fun b => ⟨⟨g.b.2, g.b.1, g.b.2⟩, ⟨?_⟩, rfl, rfl, rfl⟩, fun b => ⟨fun c => ⟨⟨g.b.2, g.b.1, g.b.2⟩, ⟨?_⟩, rfl, rfl, rfl⟩, fun c => ⟨⟨g.b.2, g.b.1, g.v⟩, ⟨?_⟩, rfl, rfl, rfl⟩⟩⟩, fun x hx => ?_⟩,
    fun a => ⟨⟨fun b => ⟨⟨g.b.1, g.b.2, g.b.1⟩, ⟨?_⟩, rfl, rfl, rfl⟩, fun b => ⟨fun c => ⟨⟨g.b.1, g.b.2, g.b.1⟩, ⟨?_⟩, rfl, rfl, rfl⟩, fun c => ⟨⟨g.b.1, g.b.2, g.v⟩, ⟨?_⟩, rfl, rfl, rfl⟩⟩⟩, fun x hx => ?_⟩⟩
  case refine_4 | refine_8 =>
    obtain ⟨n0, gd⟩ := made_core g x hx
    refine ⟨fun r hr => absurd (hr.out.2.symm.trans n0) hr.out.1, fun _ _ => ⟨fun h => by simp at h, fun _ => ⟨⟨⟨0, ⟨x.lo, x.hi, x.v, []⟩⟩, ⟨⟨Nat.zero_le _, Nat.zero_le _, gd, fun _ => rfl⟩⟩, rfl, rfl, rfl, rfl, rfl⟩, fun y hy => ?_⟩⟩⟩
    have gl := good_len hy.out.2.2.1
    refine ⟨fun a => ⟨fun b => ?_, fun b => ?_⟩, fun a => ?_⟩
    · have a' : y.i < g.d.length := by simpa using a
      have b' : y.i < 40 := by simp at b; omega
      exact ⟨⟨by omega⟩, ⟨by omega⟩, ⟨by omega⟩, ⟨by omega⟩, ⟨by omega⟩, ⟨by omega⟩, ⟨by omega⟩, fun r hr => ⟨⟨by omega⟩, ⟨by omega⟩, ⟨by omega⟩, ⟨by omega⟩, fun q hq => step y hy a' b' r hr.out q hq.out⟩⟩
    · exact done y hy (.inr (by simp at b; omega))
    · exact done y hy (.inl (by simpa using a))
  all_goals
    simp only [decide_eq_true_eq, decide_eq_false_iff_not] at *
    simp only [Num]
    omega

def vc15 : Prop := vc Try.f15.body Try.f15.results Try.f15.ntmps [(35, some sp35)] sp15 ann15
theorem vc15_is : vc15 = (
∀ (g : EscArg), Holds (InR IntKind.i64 g.e.lo) → Holds (InR IntKind.i64 g.e.hi) → Holds (InR IntKind.i64 g.e.st) → Holds (MOk kI kI g.e.nets) → (∃ (x : At), Holds (x.i ≤ (8 : Nat)) ∧ (1 : Int) = (↑x.i : Int) + (1 : Int) ∧ nilT (Int × Int) = netsTo g.e.nets x.i) ∧ ∀ (x : At), Holds (x.i ≤ (8 : Nat)) → SplitB (decide ((↑x.i : Int) + (1 : Int) ≤ (8 : Int))) (SplitB (mgI g.e.nets ((↑x.i : Int) + (1 : Int))).isSome (Holds (((netsTo g.e.nets x.i).length + [((↑x.i : Int) + (1 : Int), netOf g.e.nets ((↑x.i : Int) + (1 : Int)))].length) * (16 : Nat) ≤ (140737488355328 : Nat)) ∧ ∃ (y : At), Holds (y.i ≤ (8 : Nat)) ∧ Holds ((8 : Nat) - y.i < (8 : Nat) - x.i) ∧ IntKind.i64.wrap ((↑x.i : Int) + (1 : Int) + (1 : Int)) = (↑y.i : Int) + (1 : Int) ∧ netsTo g.e.nets x.i ++ [((↑x.i : Int) + (1 : Int), netOf g.e.nets ((↑x.i : Int) + (1 : Int)))] = netsTo g.e.nets y.i) (∃ (y : At), Holds (y.i ≤ (8 : Nat)) ∧ Holds ((8 : Nat) - y.i < (8 : Nat) - x.i) ∧ IntKind.i64.wrap ((↑x.i : Int) + (1 : Int) + (1 : Int)) = (↑y.i : Int) + (1 : Int) ∧ netsTo g.e.nets x.i = netsTo g.e.nets y.i)) (∃ (r : List (Int × Int)), Holds (r = netsTo g.e.nets (8 : Nat)) ∧ netsTo g.e.nets x.i = r)) := by kernel_rfl
theorem ok15 : vc15 := by
  rw [vc15_is]
  intro g h1 h2 h3 h4
  refine ⟨⟨⟨0⟩, ⟨Nat.zero_le _⟩, rfl, rfl⟩, fun x hx => ⟨fun a => ⟨fun b => ?_, fun b => ?_⟩, fun a => ?_⟩⟩
  · have a : (x.i : Int) + 1 ≤ 8 := by simpa using a
    have l := netsTo_len g.e.nets x.i
    refine ⟨⟨by simp; omega⟩, ⟨x.i + 1⟩, ⟨by show x.i + 1 ≤ 8; omega⟩, ⟨by show 8 - (x.i + 1) < _; omega⟩, ?_, ?_⟩
    · show _ = ((x.i + 1 : Nat) : Int) + 1
      rw [wrap64 (by omega) (by omega)]; omega
    · show _ = netsTo g.e.nets (x.i + 1)
      rw [netsTo_succ]
      obtain ⟨v, hv⟩ := Option.isSome_iff_exists.1 b
      have : netOf g.e.nets ((x.i : Int) + 1) = v := by unfold netOf; rw [hv]; rfl
      rw [hv, this]
  · have a : (x.i : Int) + 1 ≤ 8 := by simpa using a
    refine ⟨⟨x.i + 1⟩, ⟨by show x.i + 1 ≤ 8; omega⟩, ⟨by show 8 - (x.i + 1) < _; omega⟩, ?_, ?_⟩
    · show _ = ((x.i + 1 : Nat) : Int) + 1
      rw [wrap64 (by omega) (by omega)]; omega
    · show _ = netsTo g.e.nets (x.i + 1)
      rw [netsTo_succ]
      have : mgI g.e.nets ((x.i : Int) + 1) = none := by
        cases hm : mgI g.e.nets ((x.i : Int) + 1) with
        | none => rfl
        | some v => rw [hm] at b; cases b
      rw [this]; simp
  · have a : ¬ (x.i : Int) + 1 ≤ 8 := by simpa using a
    have : x.i = 8 := by have := hx.out; omega
    rw [this]
    exact ⟨_, ⟨rfl⟩, rfl⟩

def vc19 : Prop := vc Try.f19.body Try.f19.results Try.f19.ntmps [(27, some sp27), (25, some sp25)] sp19 ann19
theorem vc19_is : vc19 = (
∀ (g : OutArg), Holds (InR IntKind.i64 g.base) → Holds (kN.slice.ok g.l) → Holds (InR IntKind.i64 g.s) → Holds (g.l.length ≤ (8 : Nat)) → Holds ((0 : Int) ≤ g.s) → (∃ (x : At), Holds (x.i ≤ g.l.length) ∧ (0 : Int) = (↑x.i : Int) ∧ g.base / (4294967296 : Int) = outTo g.base g.l g.s x.i / (4294967296 : Int) ∧ g.base % (4294967296 : Int) = outTo g.base g.l g.s x.i % (4294967296 : Int)) ∧ ∀ (x : At), Holds (x.i ≤ g.l.length) → SplitB (decide ((↑x.i : Int) < (↑g.l.length : Int))) (Holds ((0 : Int) ≤ bif decide (IntKind.i64 = IntKind.u64) then (↑x.i : Int) else IntKind.u64.wrap (↑x.i : Int)) ∧ SplitB (bitAnd IntKind.i64 (shrI IntKind.i64 g.s (bif decide (IntKind.i64 = IntKind.u64) then (↑x.i : Int) else IntKind.u64.wrap (↑x.i : Int))) (1 : Int) == (1 : Int)) (Holds ((0 : Int) ≤ (↑x.i : Int)) ∧ Holds ((↑x.i : Int) < (↑g.l.length : Int)) ∧ Holds ((↑x.i : Int).toNat < g.l.length) ∧ Holds (WFit (outTo g.base g.l g.s x.i / (4294967296 : Int), outTo g.base g.l g.s x.i % (4294967296 : Int))) ∧ ∃ (y : At), Holds (y.i ≤ g.l.length) ∧ Holds (g.l.length - y.i < g.l.length - x.i) ∧ IntKind.i64.wrap ((↑x.i : Int) + (1 : Int)) = (↑y.i : Int) ∧ (wv (outTo g.base g.l g.s x.i / (4294967296 : Int), outTo g.base g.l g.s x.i % (4294967296 : Int)) + (g.l.getD (↑x.i : Int).toNat ((0 : Int), (0 : Int))).snd) / (4294967296 : Int) = outTo g.base g.l g.s y.i / (4294967296 : Int) ∧ (wv (outTo g.base g.l g.s x.i / (4294967296 : Int), outTo g.base g.l g.s x.i % (4294967296 : Int)) + (g.l.getD (↑x.i : Int).toNat ((0 : Int), (0 : Int))).snd) % (4294967296 : Int) = outTo g.base g.l g.s y.i % (4294967296 : Int)) (∃ (y : At), Holds (y.i ≤ g.l.length) ∧ Holds (g.l.length - y.i < g.l.length - x.i) ∧ IntKind.i64.wrap ((↑x.i : Int) + (1 : Int)) = (↑y.i : Int) ∧ outTo g.base g.l g.s x.i / (4294967296 : Int) = outTo g.base g.l g.s y.i / (4294967296 : Int) ∧ outTo g.base g.l g.s x.i % (4294967296 : Int) = outTo g.base g.l g.s y.i % (4294967296 : Int))) (∃ (r : Int), Holds (r = outV g.base g.l g.s) ∧ outTo g.base g.l g.s x.i / (4294967296 : Int) = r / (4294967296 : Int) ∧ outTo g.base g.l g.s x.i % (4294967296 : Int) = r % (4294967296 : Int))) := by kernel_rfl
theorem wv_w (n : Int) : wv (n / 4294967296, n % 4294967296) = n := by unfold wv; simp only; omega
theorem nums_snd {l : List (Int × Int)} (h : Ty.ok (.slice kN) l) : ∀ x ∈ l.map (·.2), InR .i64 x := fun x hx => by
  obtain ⟨p, hp, rfl⟩ := List.mem_map.1 hx
  exact (h.2 p hp).2
theorem outTo_fit {b : Int} {l : List (Int × Int)} {s : Int} {n : Nat} (hb : InR .i64 b) (hl : Ty.ok (.slice kN) l) (h8 : l.length ≤ 8) (hn : n ≤ l.length) : WFit (outTo b l s n / 4294967296, outTo b l s n % 4294967296) := by
  have hk : ∀ x ∈ (l.take n).map (·.2), InR .i64 x := fun x hx => nums_snd hl x (by
    obtain ⟨p, hp, rfl⟩ := List.mem_map.1 hx
    exact List.mem_map_of_mem (List.mem_of_mem_take hp))
  have h1 := low_bound _ hk
  have h2 := high_bound _ hk
  have h3 := outTo_in b l s n hn
  rw [List.length_map, List.length_take] at h1 h2
  rw [inR64] at hb
  unfold WFit
  simp only
  omega
theorem u64_small {i : Nat} (h : i < 100) : (bif decide (IntKind.i64 = IntKind.u64) then (i : Int) else IntKind.u64.wrap (i : Int)) = (i : Int) := by
  show IntKind.u64.wrap (i : Int) = _
  rw [u64_wrap]; omega
theorem ok19 : vc19 := by
  rw [vc19_is]
  intro g h1 h2 h3 h4 h5
  have h8 := h4.out
  have h5 := h5.out
  refine ⟨⟨⟨0⟩, ⟨Nat.zero_le _⟩, rfl, by rw [outTo_zero], by rw [outTo_zero]⟩, fun x hx => ⟨fun a => ?_, fun a => ?_⟩⟩
  · have a : x.i < g.l.length := by simpa using a
    rw [u64_small (by omega)]
    have sh : shrI .i64 g.s (x.i : Int) = g.s / 2 ^ x.i := shr_pow x.i (by omega) _ _ rfl
    have an : bitAnd .i64 (g.s / 2 ^ x.i) 1 = g.s / 2 ^ x.i % 2 := and_mask 1 (by decide) _ _ (by decide)
    rw [sh, an]
    have bt : (g.s / 2 ^ x.i % 2 == 1) = bitI g.s x.i := by unfold bitI; exact beq3
    rw [bt]
    refine ⟨⟨by omega⟩, fun b => ⟨⟨by omega⟩, ⟨by omega⟩, ⟨by omega⟩, ⟨outTo_fit h1.out h2.out h8 (by omega)⟩, ⟨x.i + 1⟩, ⟨by show x.i + 1 ≤ _; omega⟩, ⟨by show _ - (x.i + 1) < _; omega⟩, wrap_succ (by omega), ?_⟩, fun b => ⟨⟨x.i + 1⟩, ⟨by show x.i + 1 ≤ _; omega⟩, ⟨by show _ - (x.i + 1) < _; omega⟩, wrap_succ (by omega), ?_⟩⟩
    · show _ = outTo g.base g.l g.s (x.i + 1) / _ ∧ _ = outTo g.base g.l g.s (x.i + 1) % _
      rw [wv_w, outTo_succ, if_pos b]
      exact ⟨rfl, rfl⟩
    · show _ = outTo g.base g.l g.s (x.i + 1) / _ ∧ _ = outTo g.base g.l g.s (x.i + 1) % _
      rw [outTo_succ, if_neg (by rw [b]; decide), Int.add_zero]
      exact ⟨rfl, rfl⟩
  · have a : ¬ x.i < g.l.length := by simpa using a
    have : x.i = g.l.length := by have := hx.out; omega
    exact ⟨_, ⟨rfl⟩, by rw [this]; rfl, by rw [this]; rfl⟩

def vc9 : Prop := vc Try.f9.body Try.f9.results Try.f9.ntmps [(10, some sp10), (32, some sp32), (26, some sp26), (35, some sp35), (29, some sp29), (17, some sp17), (16, some sp16), (23, some sp23), (30, some sp30), (20, some sp20), (31, some sp31), (18, some sp18)] sp9 (fun _ => noAnn)
theorem vc9_is : vc9 = (
∀ (g : Unit), (∀ (r : Int), Holds (r ≠ (0 : Int) ∧ newF ((0 : Int), (10 : Int)) (5 : Int) = r) → SplitB (r != (0 : Int)) False False) ∧ ∀ (r : Unit), Holds (newF ((0 : Int), (10 : Int)) (5 : Int) = (0 : Int)) → SplitB ((0 : Int) != (0 : Int)) False (Holds ((nilT (Int × Int)).length ≤ (1000000 : Nat)) ∧ ∀ (r : AddOut), Holds (r = addF { lo := (0 : Int), hi := (10 : Int), st := (5 : Int), nets := [] : Esc } (1 : Int) (4 : Int)) → SplitB (r.e != (0 : Int)) False (Holds (r.nets.length ≤ (1000000 : Nat)) ∧ ∀ (r_1 : AddOut), Holds (r_1 = addF { lo := (0 : Int), hi := (10 : Int), st := (5 : Int), nets := r.nets : Esc } (2 : Int) (-5 : Int)) → SplitB (r_1.e != (0 : Int)) False (Holds (r_1.nets.length ≤ (1000000 : Nat)) ∧ ∀ (r : Int), Holds (r = mayF { lo := (0 : Int), hi := (10 : Int), st := (5 : Int), nets := r_1.nets : Esc } (3 : Int) (2 : Int)) → SplitB (r != (110 : Int)) False (Holds (r_1.nets.length ≤ (1000000 : Nat)) ∧ ∀ (r : AddOut), Holds (r = addF { lo := (0 : Int), hi := (10 : Int), st := (5 : Int), nets := r_1.nets : Esc } (2 : Int) (6 : Int)) → SplitB (r.e != (0 : Int)) False (SplitB (netOf r.nets (2 : Int) != (1 : Int)) False (SplitB (!(mgI r.nets (2 : Int)).isSome) False (Holds (r.nets.length ≤ (1000000 : Nat)) ∧ ∀ (r_2 : Int × Int × Int), Holds (r_2 = worstF (5 : Int) (valsOf r.nets)) → SplitB (!(r_2.fst == (5 : Int) && r_2.snd.fst == (10 : Int))) False (Holds (r.nets.length ≤ (1000000 : Nat)) ∧ ∀ (r_3 : List Int), Holds (r_3 = rising (keysOf r.nets)) → SplitB ((↑r_3.length : Int) != (2 : Int)) False (Holds (r.nets.length ≤ (1000000 : Nat)) ∧ ∀ (r_4 : Int), Holds (r_4 = (ans ((5 : Int) + (valsOf r.nets).sum)).fst) → SplitB (r_4 != (10 : Int)) False (∀ (r_5 : SetOut), Holds (r_5 = settleF { lo := (0 : Int), hi := (10 : Int), st := (5 : Int), nets := r.nets : Esc } (1 : Int)) → SplitB r_5.b (SplitB (r_5.st == (9 : Int)) (SplitB (mgI r_5.nets (2 : Int)).isSome (SplitB ((5 : Int) == (5 : Int)) (((0 : Int) == (0 : Int) && (10 : Int) == (10 : Int)) = true) False) False) False) False))))))))))) := by kernel_rfl
theorem eqr {α : Type} {a a' : α} {P : α → Prop} (e : a = a') (h : P a') : ∀ r : α, Holds (r = a) → P r := fun r hr => by rw [hr.out, e]; exact h
theorem sF {b : Bool} {A B : Prop} (h : b = false) (hB : B) : SplitB b A B := ⟨fun h' => absurd (h'.symm.trans h) (by decide), fun _ => hB⟩
theorem sT {b : Bool} {A B : Prop} (h : b = true) (hA : A) : SplitB b A B := ⟨fun _ => hA, fun h' => absurd (h'.symm.trans h) (by decide)⟩
theorem f0 : newF (0, 10) 5 = 0 := by kernel_rfl
theorem f1 : addF ⟨0, 10, 5, []⟩ 1 4 = ⟨0, [(1, 4)]⟩ := by kernel_rfl
theorem f2 : addF ⟨0, 10, 5, [(1, 4)]⟩ 2 (-5) = ⟨0, [(1, 4), (2, -5)]⟩ := by kernel_rfl
theorem f3 : mayF ⟨0, 10, 5, [(1, 4), (2, -5)]⟩ 3 2 = 110 := by kernel_rfl
theorem f4 : addF ⟨0, 10, 5, [(1, 4), (2, -5)]⟩ 2 6 = ⟨0, [(1, 4), (2, 1)]⟩ := by kernel_rfl
theorem f5 : worstF 5 (valsOf [(1, 4), (2, 1)]) = (5, 10, 0) := by kernel_rfl
theorem f7 : (ans (5 + (valsOf [(1, 4), (2, 1)]).sum)).1 = 10 := by kernel_rfl
theorem f8 : settleF ⟨0, 10, 5, [(1, 4), (2, 1)]⟩ 1 = ⟨true, 9, [(2, 1)]⟩ := by kernel_rfl
theorem ok9 : vc9 := by
  rw [vc9_is]
  intro g
  refine ⟨fun r hr => absurd (hr.out.2.symm.trans f0) hr.out.1, fun _ _ => sF rfl ⟨⟨by simp⟩, ?_⟩⟩
  refine eqr f1 (sF rfl ⟨⟨by simp⟩, ?_⟩)
  refine eqr f2 (sF rfl ⟨⟨by simp⟩, ?_⟩)
  refine eqr f3 (sF rfl ⟨⟨by simp⟩, ?_⟩)
  refine eqr f4 (sF rfl (sF rfl (sF rfl ⟨⟨by simp⟩, ?_⟩)))
  refine eqr f5 (sF rfl ⟨⟨by simp⟩, ?_⟩)
  refine eqr rfl (sF (by rw [rising_len]; rfl) ⟨⟨by simp⟩, ?_⟩)
  refine eqr f7 (sF rfl ?_)
  exact eqr f8 (sT rfl (sT rfl (sT rfl (sT rfl rfl))))

end Go.Proofs.Ytljimnhijpcjaaa.VC
