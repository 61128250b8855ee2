/- What is to be shown of functions, shown. Plain lemmas; no conditions but those that each names. -/
import Derived.Test.YtaomhhamepalmaaAp
import Derived.Test.YtaomhhamepalmaaEx
import Derived.KernelRfl
set_option linter.unusedVariables false
set_option linter.unusedSimpArgs false
set_option linter.unusedSectionVars false
namespace Go.Proofs.Ytaomhhamepalmaa.VC
open Go
set_option maxRecDepth 100000

theorem ex2 {α : Type} {F : Int × α} {a : Int} {b : α} : (∃ r : Int × α, (r.1 = F.1 ∧ (r.1 = 0 → r.2 = F.2)) ∧ a = r.1 ∧ b = r.2) ↔ (a = F.1 ∧ (a = 0 → b = F.2)) :=
  ⟨fun ⟨r, ⟨h1, h2⟩, e1, e2⟩ => by rw [e1, e2]; exact ⟨h1, h2⟩, fun h => ⟨(a, b), h, rfl, rfl⟩⟩
theorem mov_step {v : Int} {r : Rc} (h : ¬ r.2.1 = 2) : movF v r = stepV (rF r) r.2.2.2.2.2.2.1 v := by
  unfold movF stepV rF
  by_cases h4 : r.2.1 = 4
  · rw [if_pos h4, if_pos h4, if_pos rfl]
  · rw [if_neg h4, if_neg h, if_neg h4, if_neg (by decide)]
theorem same_iff {p q : Pg} : samePg p q = true ↔ p = q := by
  obtain ⟨a, b, c, d⟩ := p
  obtain ⟨a', b', c', d'⟩ := q
  unfold samePg
  simp [and_assoc]
theorem same_self (p : Pg) : samePg p p = true := same_iff.2 rfl
def vc48 : Prop := vc Try.f48.body Try.f48.results Try.f48.ntmps [] sp48 (fun _ => noAnn)
theorem vc48_is : vc48 = (
∀ (g : Two), Holds (InR IntKind.i64 g.a) → Holds (InR IntKind.i64 g.b) → SplitB (decide (g.b > (0 : Int))) (SplitB (decide (g.a > IntKind.i64.wrap ((9223372036854775807 : Int) - g.b))) (∃ (r : Int × Int), Holds (r = ans (g.a + g.b)) ∧ (0 : Int) = r.fst ∧ (10 : Int) = r.snd) (SplitB (decide (g.b < (0 : Int))) (SplitB (decide (g.a < IntKind.i64.wrap ((-9223372036854775808 : Int) - g.b))) (∃ (r : Int × Int), Holds (r = ans (g.a + g.b)) ∧ (0 : Int) = r.fst ∧ (10 : Int) = r.snd) (∃ (r : Int × Int), Holds (r = ans (g.a + g.b)) ∧ IntKind.i64.wrap (g.a + g.b) = r.fst ∧ (0 : Int) = r.snd)) (∃ (r : Int × Int), Holds (r = ans (g.a + g.b)) ∧ IntKind.i64.wrap (g.a + g.b) = r.fst ∧ (0 : Int) = r.snd))) (SplitB (decide (g.b < (0 : Int))) (SplitB (decide (g.a < IntKind.i64.wrap ((-9223372036854775808 : Int) - g.b))) (∃ (r : Int × Int), Holds (r = ans (g.a + g.b)) ∧ (0 : Int) = r.fst ∧ (10 : Int) = r.snd) (∃ (r : Int × Int), Holds (r = ans (g.a + g.b)) ∧ IntKind.i64.wrap (g.a + g.b) = r.fst ∧ (0 : Int) = r.snd)) (∃ (r : Int × Int), Holds (r = ans (g.a + g.b)) ∧ IntKind.i64.wrap (g.a + g.b) = r.fst ∧ (0 : Int) = r.snd))) := by kernel_rfl
theorem ok48 : vc48 := by
  rw [vc48_is]
  intro g h1 h2
  have h1 := h1.out
  have h2 := h2.out
  rw [inR64] at h1 h2
  simp only [splitB_iff, holds_iff, exists_eq_left, decide_eq_true_eq, decide_eq_false_iff_not, beq_iff_eq]
  have no : ¬ Num (g.a + g.b) → ((0 : Int) = (ans (g.a + g.b)).1 ∧ (10 : Int) = (ans (g.a + g.b)).2) := fun h => by rw [ans_no h]; exact ⟨rfl, rfl⟩
  have yes : Num (g.a + g.b) → (IntKind.i64.wrap (g.a + g.b) = (ans (g.a + g.b)).1 ∧ (0 : Int) = (ans (g.a + g.b)).2) := fun h => by rw [ans_yes h, wrap64 h.1 h.2]; exact ⟨rfl, rfl⟩
  refine ⟨fun a => ?_, fun a => ⟨fun b => ?_, fun b => ?_⟩⟩
  · rw [wrap64 (by omega) (by omega)]
    refine ⟨fun b => no (by unfold Num; omega), fun b => ⟨fun c => by omega, fun c => yes (by unfold Num; omega)⟩⟩
  · rw [wrap64 (by omega) (by omega)]
    exact ⟨fun c => no (by unfold Num; omega), fun c => yes (by unfold Num; omega)⟩
  · exact yes (by unfold Num; omega)

def vc47 : Prop := vc Try.f47.body Try.f47.results Try.f47.ntmps [(48, some sp48)] sp47 (fun _ => noAnn)
theorem vc47_is : vc47 = (
∀ (g : Two), Holds (InR IntKind.i64 g.a) → Holds (InR IntKind.i64 g.b) → SplitB (g.b != (-9223372036854775808 : Int)) (∀ (r : Int × Int), Holds (r = ans (g.a + IntKind.i64.wrap ((0 : Int) - g.b))) → ∃ (r_1 : Int × Int), Holds (r_1 = ans (g.a - g.b)) ∧ r.fst = r_1.fst ∧ r.snd = r_1.snd) (SplitB (decide (g.a ≥ (0 : Int))) (∃ (r : Int × Int), Holds (r = ans (g.a - g.b)) ∧ (0 : Int) = r.fst ∧ (10 : Int) = r.snd) (∃ (r : Int × Int), Holds (r = ans (g.a - g.b)) ∧ IntKind.i64.wrap (IntKind.i64.wrap (g.a + (1 : Int)) + (9223372036854775807 : Int)) = r.fst ∧ (0 : Int) = r.snd))) := by kernel_rfl
theorem ok47 : vc47 := by
  rw [vc47_is]
  intro g h1 h2
  have h1 := h1.out
  have h2 := h2.out
  rw [inR64] at h1 h2
  simp only [splitB_iff, holds_iff, exists_eq_left, decide_eq_true_eq, decide_eq_false_iff_not, forall_eq, bne_iff_ne, ne_eq, bne_eq_false_iff_eq]
  refine ⟨fun a => ?_, fun a => ⟨fun b => ?_, fun b => ?_⟩⟩
  · rw [wrap64 (by omega) (by omega)]
    have : g.a + (0 - g.b) = g.a - g.b := by omega
    rw [this]; exact ⟨rfl, rfl⟩
  · rw [ans_no (by unfold Num; omega)]; exact ⟨rfl, rfl⟩
  · rw [ans_yes (by unfold Num; omega), wrap64 (n := g.a + 1) (by omega) (by omega), wrap64 (by omega) (by omega)]
    exact ⟨by show _ = g.a - g.b; omega, rfl⟩

def vc44 : Prop := vc Try.f44.body Try.f44.results Try.f44.ntmps [(47, some sp47), (48, some sp48)] sp44 (fun _ => noAnn)
theorem vc44_is : vc44 = (
∀ (g : MvArg), Holds (InR IntKind.i64 g.v) → Holds (InR IntKind.i64 g.r.fst) → Holds (InR IntKind.i64 g.r.snd.fst) → Holds (InR IntKind.i64 g.r.snd.snd.fst) → Holds (InR IntKind.i64 g.r.snd.snd.snd.fst) → Holds (InR IntKind.i64 g.r.snd.snd.snd.snd.fst.fst) → Holds (InR IntKind.i64 g.r.snd.snd.snd.snd.fst.snd) → Holds (InR IntKind.i64 g.r.snd.snd.snd.snd.snd.fst.fst) → Holds (InR IntKind.i64 g.r.snd.snd.snd.snd.snd.fst.snd) → Holds (InR IntKind.i64 g.r.snd.snd.snd.snd.snd.snd.fst) → Holds (InR IntKind.i64 g.r.snd.snd.snd.snd.snd.snd.snd.fst.fst) → Holds (InR IntKind.i64 g.r.snd.snd.snd.snd.snd.snd.snd.fst.snd.fst) → Holds (InR IntKind.i64 g.r.snd.snd.snd.snd.snd.snd.snd.fst.snd.snd.fst.fst) → Holds (InR IntKind.i64 g.r.snd.snd.snd.snd.snd.snd.snd.fst.snd.snd.fst.snd) → Holds (InR IntKind.i64 g.r.snd.snd.snd.snd.snd.snd.snd.fst.snd.snd.snd) → Holds (kL.slice.ok g.r.snd.snd.snd.snd.snd.snd.snd.snd.fst) → Holds (kD.slice.ok g.r.snd.snd.snd.snd.snd.snd.snd.snd.snd.fst) → Holds (InR IntKind.i64 g.r.snd.snd.snd.snd.snd.snd.snd.snd.snd.snd) → SplitB (g.r.snd.fst == (4 : Int)) (∀ (r : Int × Int), Holds (r = ans (g.v - g.r.snd.snd.snd.snd.snd.snd.fst)) → ∃ (r_1 : Int × Int), Holds (r_1 = movF g.v g.r) ∧ r.fst = r_1.fst ∧ r.snd = r_1.snd) (SplitB (g.r.snd.fst == (2 : Int)) (∀ (r : Int × Int), Holds (r = ans (g.v + g.r.snd.snd.snd.snd.snd.snd.snd.fst.snd.snd.snd)) → ∃ (r_1 : Int × Int), Holds (r_1 = movF g.v g.r) ∧ r.fst = r_1.fst ∧ r.snd = r_1.snd) (∀ (r : Int × Int), Holds (r = ans (g.v + g.r.snd.snd.snd.snd.snd.snd.fst)) → ∃ (r_1 : Int × Int), Holds (r_1 = movF g.v g.r) ∧ r.fst = r_1.fst ∧ r.snd = r_1.snd))) := by kernel_rfl
theorem ok44 : vc44 := by
  rw [vc44_is]; intro g
  intro h1 h2 h3 h4 h5 h6 h7 h8 h9 h10 h11 h12 h13 h14 h15 h16 h17 h18
  clear h1 h2 h3 h4 h5 h6 h7 h8 h9 h10 h11 h12 h13 h14 h15 h16 h17 h18
  simp only [splitB_iff, holds_iff, exists_eq_left, forall_eq, beq_iff_eq, beq_eq_false_iff_ne, ne_eq]
  unfold movF
  refine ⟨fun a => ?_, fun a => ⟨fun b => ?_, fun b => ?_⟩⟩
  · rw [if_pos a]; exact ⟨rfl, rfl⟩
  · rw [if_neg a, if_pos b]; exact ⟨rfl, rfl⟩
  · rw [if_neg a, if_neg b]; exact ⟨rfl, rfl⟩

def vc34 : Prop := vc Try.f34.body Try.f34.results Try.f34.ntmps [] sp34 (fun _ => noAnn)
theorem vc34_is : vc34 = (
∀ (g : RcA), Holds (InR IntKind.i64 g.r.fst) → Holds (InR IntKind.i64 g.r.snd.fst) → Holds (InR IntKind.i64 g.r.snd.snd.fst) → Holds (InR IntKind.i64 g.r.snd.snd.snd.fst) → Holds (InR IntKind.i64 g.r.snd.snd.snd.snd.fst.fst) → Holds (InR IntKind.i64 g.r.snd.snd.snd.snd.fst.snd) → Holds (InR IntKind.i64 g.r.snd.snd.snd.snd.snd.fst.fst) → Holds (InR IntKind.i64 g.r.snd.snd.snd.snd.snd.fst.snd) → Holds (InR IntKind.i64 g.r.snd.snd.snd.snd.snd.snd.fst) → Holds (InR IntKind.i64 g.r.snd.snd.snd.snd.snd.snd.snd.fst.fst) → Holds (InR IntKind.i64 g.r.snd.snd.snd.snd.snd.snd.snd.fst.snd.fst) → Holds (InR IntKind.i64 g.r.snd.snd.snd.snd.snd.snd.snd.fst.snd.snd.fst.fst) → Holds (InR IntKind.i64 g.r.snd.snd.snd.snd.snd.snd.snd.fst.snd.snd.fst.snd) → Holds (InR IntKind.i64 g.r.snd.snd.snd.snd.snd.snd.snd.fst.snd.snd.snd) → Holds (kL.slice.ok g.r.snd.snd.snd.snd.snd.snd.snd.snd.fst) → Holds (kD.slice.ok g.r.snd.snd.snd.snd.snd.snd.snd.snd.snd.fst) → Holds (InR IntKind.i64 g.r.snd.snd.snd.snd.snd.snd.snd.snd.snd.snd) → SplitB (g.r.snd.fst == (2 : Int)) (true = changesB g.r.snd.fst) (SplitB (g.r.snd.fst == (3 : Int)) (true = changesB g.r.snd.fst) ((g.r.snd.fst == (4 : Int)) = changesB g.r.snd.fst))) := by kernel_rfl
theorem ok34 : vc34 := by
  rw [vc34_is]; intro g
  intro h1 h2 h3 h4 h5 h6 h7 h8 h9 h10 h11 h12 h13 h14 h15 h16 h17
  clear h1 h2 h3 h4 h5 h6 h7 h8 h9 h10 h11 h12 h13 h14 h15 h16 h17
  unfold changesB
  simp only [splitB_iff]
  by_cases h1 : g.r.2.1 = 2 <;> by_cases h2 : g.r.2.1 = 3 <;> by_cases h3 : g.r.2.1 = 4 <;> simp [h1, h2, h3]

def vc9 : Prop := vc Try.f9.body Try.f9.results Try.f9.ntmps [] sp9 (fun _ => noAnn)
theorem vc9_is : vc9 = (
∀ (g : PA), Holds (InR IntKind.i64 g.p.fst) → Holds (InR IntKind.i64 g.p.snd.fst) → Holds (kC.slice.ok g.p.snd.snd.fst) → Holds (kG.slice.ok g.p.snd.snd.snd) → Holds (Fit g.p) → Holds (g.p.snd.snd.fst.length * (40 : Nat) ≤ (140737488355328 : Nat)) ∧ Holds (g.p.snd.snd.snd.length * (16 : Nat) ≤ (140737488355328 : Nat)) ∧ g.p.fst = g.p.fst ∧ g.p.snd.fst = g.p.snd.fst ∧ g.p.snd.snd.fst = g.p.snd.snd.fst ∧ g.p.snd.snd.snd = g.p.snd.snd.snd) := by kernel_rfl
theorem ok9 : vc9 := by
  rw [vc9_is]; intro g _ _ _ _ h
  obtain ⟨h1, h2⟩ := h.out
  exact ⟨⟨by omega⟩, ⟨by omega⟩, rfl, rfl, rfl, rfl⟩

def vc35 : Prop := vc Try.f35.body Try.f35.results Try.f35.ntmps [(44, some sp44)] sp35 ann35
theorem vc35_is : vc35 = (
∀ (g : PgR), Holds (InR IntKind.i64 g.p.fst) → Holds (InR IntKind.i64 g.p.snd.fst) → Holds (InR IntKind.i64 g.r.fst) → Holds (InR IntKind.i64 g.r.snd.fst) → Holds (InR IntKind.i64 g.r.snd.snd.fst) → Holds (InR IntKind.i64 g.r.snd.snd.snd.fst) → Holds (InR IntKind.i64 g.r.snd.snd.snd.snd.fst.fst) → Holds (InR IntKind.i64 g.r.snd.snd.snd.snd.fst.snd) → Holds (InR IntKind.i64 g.r.snd.snd.snd.snd.snd.fst.fst) → Holds (InR IntKind.i64 g.r.snd.snd.snd.snd.snd.fst.snd) → Holds (InR IntKind.i64 g.r.snd.snd.snd.snd.snd.snd.fst) → Holds (InR IntKind.i64 g.r.snd.snd.snd.snd.snd.snd.snd.fst.fst) → Holds (InR IntKind.i64 g.r.snd.snd.snd.snd.snd.snd.snd.fst.snd.fst) → Holds (InR IntKind.i64 g.r.snd.snd.snd.snd.snd.snd.snd.fst.snd.snd.fst.fst) → Holds (InR IntKind.i64 g.r.snd.snd.snd.snd.snd.snd.snd.fst.snd.snd.fst.snd) → Holds (InR IntKind.i64 g.r.snd.snd.snd.snd.snd.snd.snd.fst.snd.snd.snd) → Holds (kL.slice.ok g.r.snd.snd.snd.snd.snd.snd.snd.snd.fst) → Holds (kD.slice.ok g.r.snd.snd.snd.snd.snd.snd.snd.snd.snd.fst) → Holds (InR IntKind.i64 g.r.snd.snd.snd.snd.snd.snd.snd.snd.snd.snd) → Holds (kC.slice.ok g.p.snd.snd.fst) → Holds (kG.slice.ok g.p.snd.snd.snd) → Holds (Fit g.p) → SplitB (decide ((↑g.p.snd.snd.snd.length : Int) > (0 : Int))) (∃ (r : Int × List Cn), Holds (r.fst = (cntF g.p g.r).fst ∧ (r.fst = (0 : Int) → r.snd = (cntF g.p g.r).snd)) ∧ g.p.fst = g.p.fst ∧ g.p.snd.fst = g.p.snd.fst ∧ (83 : Int) = r.fst ∧ g.p.snd.snd.fst = r.snd) (SplitB (g.r.snd.fst == (2 : Int)) (SplitB (g.r.snd.snd.snd.snd.fst.snd != (↑g.p.snd.snd.fst.length : Int)) (∃ (r : Int × List Cn), Holds (r.fst = (cntF g.p g.r).fst ∧ (r.fst = (0 : Int) → r.snd = (cntF g.p g.r).snd)) ∧ g.p.fst = g.p.fst ∧ g.p.snd.fst = g.p.snd.fst ∧ (83 : Int) = r.fst ∧ g.p.snd.snd.fst = r.snd) (SplitB (decide ((↑g.p.snd.snd.fst.length : Int) ≥ (31 : Int))) (∃ (r : Int × List Cn), Holds (r.fst = (cntF g.p g.r).fst ∧ (r.fst = (0 : Int) → r.snd = (cntF g.p g.r).snd)) ∧ g.p.fst = g.p.fst ∧ g.p.snd.fst = g.p.snd.fst ∧ (83 : Int) = r.fst ∧ g.p.snd.snd.fst = r.snd) (Holds ((g.p.snd.snd.fst.length + [g.r.snd.snd.snd.snd.snd.snd.snd.fst].length) * (40 : Nat) ≤ (140737488355328 : Nat)) ∧ ∃ (r : Int × List Cn), Holds (r.fst = (cntF g.p g.r).fst ∧ (r.fst = (0 : Int) → r.snd = (cntF g.p g.r).snd)) ∧ g.p.fst = g.p.fst ∧ g.p.snd.fst = g.p.snd.fst ∧ (0 : Int) = r.fst ∧ g.p.snd.snd.fst ++ [g.r.snd.snd.snd.snd.snd.snd.snd.fst] = r.snd))) (SplitB (decide (g.r.snd.snd.snd.snd.fst.snd < (0 : Int))) (∃ (r : Int × List Cn), Holds (r.fst = (cntF g.p g.r).fst ∧ (r.fst = (0 : Int) → r.snd = (cntF g.p g.r).snd)) ∧ g.p.fst = g.p.fst ∧ g.p.snd.fst = g.p.snd.fst ∧ (83 : Int) = r.fst ∧ g.p.snd.snd.fst = r.snd) (SplitB (decide (g.r.snd.snd.snd.snd.fst.snd ≥ (↑g.p.snd.snd.fst.length : Int))) (∃ (r : Int × List Cn), Holds (r.fst = (cntF g.p g.r).fst ∧ (r.fst = (0 : Int) → r.snd = (cntF g.p g.r).snd)) ∧ g.p.fst = g.p.fst ∧ g.p.snd.fst = g.p.snd.fst ∧ (83 : Int) = r.fst ∧ g.p.snd.snd.fst = r.snd) (Holds ((0 : Int) ≤ g.r.snd.snd.snd.snd.fst.snd) ∧ Holds (g.r.snd.snd.snd.snd.fst.snd < (↑g.p.snd.snd.fst.length : Int)) ∧ Holds (g.r.snd.snd.snd.snd.fst.snd.toNat < g.p.snd.snd.fst.length) ∧ SplitB ((g.p.snd.snd.fst.getD g.r.snd.snd.snd.snd.fst.snd.toNat ((0 : Int), (0 : Int), ((0 : Int), (0 : Int)), (0 : Int))).fst != g.r.snd.snd.snd.snd.snd.snd.snd.fst.fst) (∃ (r : Int × List Cn), Holds (r.fst = (cntF g.p g.r).fst ∧ (r.fst = (0 : Int) → r.snd = (cntF g.p g.r).snd)) ∧ g.p.fst = g.p.fst ∧ g.p.snd.fst = g.p.snd.fst ∧ (83 : Int) = r.fst ∧ g.p.snd.snd.fst = r.snd) (Holds ((0 : Int) ≤ g.r.snd.snd.snd.snd.fst.snd) ∧ Holds (g.r.snd.snd.snd.snd.fst.snd < (↑g.p.snd.snd.fst.length : Int)) ∧ Holds (g.r.snd.snd.snd.snd.fst.snd.toNat < g.p.snd.snd.fst.length) ∧ ∀ (r : Int × Int), Holds (r = movF (g.p.snd.snd.fst.getD g.r.snd.snd.snd.snd.fst.snd.toNat ((0 : Int), (0 : Int), ((0 : Int), (0 : Int)), (0 : Int))).snd.snd.snd g.r) → Holds ((0 : Int) ≤ g.r.snd.snd.snd.snd.fst.snd) ∧ Holds (g.r.snd.snd.snd.snd.fst.snd < (↑g.p.snd.snd.fst.length : Int)) ∧ Holds (g.r.snd.snd.snd.snd.fst.snd.toNat < g.p.snd.snd.fst.length) ∧ ∃ (r_1 : Int × List Cn), Holds (r_1.fst = (cntF g.p g.r).fst ∧ (r_1.fst = (0 : Int) → r_1.snd = (cntF g.p g.r).snd)) ∧ g.p.fst = g.p.fst ∧ g.p.snd.fst = g.p.snd.fst ∧ r.snd = r_1.fst ∧ g.p.snd.snd.fst.set g.r.snd.snd.snd.snd.fst.snd.toNat ((g.p.snd.snd.fst.getD g.r.snd.snd.snd.snd.fst.snd.toNat ((0 : Int), (0 : Int), ((0 : Int), (0 : Int)), (0 : Int))).fst, (g.p.snd.snd.fst.getD g.r.snd.snd.snd.snd.fst.snd.toNat ((0 : Int), (0 : Int), ((0 : Int), (0 : Int)), (0 : Int))).snd.fst, (g.p.snd.snd.fst.getD g.r.snd.snd.snd.snd.fst.snd.toNat ((0 : Int), (0 : Int), ((0 : Int), (0 : Int)), (0 : Int))).snd.snd.fst, r.fst) = r_1.snd)))))) := by kernel_rfl
theorem ok35 : vc35 := by
  rw [vc35_is]; intro g
  intro h1 h2 h3 h4 h5 h6 h7 h8 h9 h10 h11 h12 h13 h14 h15 h16 h17 h18 h19 h20 h21 h22
  have hf := h22.out.1
  clear h1 h2 h3 h4 h5 h6 h7 h8 h9 h10 h11 h12 h13 h14 h15 h16 h17 h18 h19 h20 h21 h22
  have gsl : ∀ {x : Nat}, ((x : Int) > 0) = (0 < x) := by intro x; apply propext; omega
  simp only [splitB_iff, holds_iff, ex2, forall_eq, true_and, bne_iff_ne, ne_eq, bne_eq_false_iff_eq, beq_iff_eq, beq_eq_false_iff_ne, decide_eq_true_eq, decide_eq_false_iff_not, List.length_singleton, gsl]
  have bad : cntF g.p g.r = (83, g.p.2.2.1) → ((83 : Int) = (cntF g.p g.r).1 ∧ ((83 : Int) = 0 → g.p.2.2.1 = (cntF g.p g.r).2)) := fun h => by rw [h]; exact ⟨rfl, fun _ => rfl⟩
  refine ⟨fun a => bad ?_, fun a => ⟨fun b => ⟨fun c => bad ?_, fun c => ⟨fun d => bad ?_, fun d => ⟨by omega, ?_⟩⟩⟩, fun b => ⟨fun c => bad ?_, fun c => ⟨fun d => bad ?_, fun d => ⟨by omega, by omega, by omega, fun e => bad ?_, fun e => ⟨by omega, by omega, by omega, by omega, by omega, by omega, ?_⟩⟩⟩⟩⟩⟩
  · unfold cntF counterF; rw [if_pos a]
  · unfold cntF counterF; rw [if_neg a, if_pos b, if_pos (.inl c)]
  · unfold cntF counterF; rw [if_neg a, if_pos b, if_pos (.inr (by omega))]
  · have e : cntF g.p g.r = (0, g.p.2.2.1 ++ [g.r.2.2.2.2.2.2.2.1]) := by unfold cntF counterF; rw [if_neg a, if_pos b, if_neg (by omega)]
    rw [e]; exact ⟨rfl, fun _ => rfl⟩
  · unfold cntF counterF; rw [if_neg a, if_neg b, if_pos (.inl c)]
  · unfold cntF counterF; rw [if_neg a, if_neg b, if_pos (.inr (by omega))]
  · unfold cntF counterF; rw [if_neg a, if_neg b, if_neg (by omega), if_pos e]
  · rw [mov_step b]
    have e2 : cntF g.p g.r = setC g.p.2.2.1 g.r.2.2.2.2.1.2.toNat (stepV (rF g.r) g.r.2.2.2.2.2.2.1 (g.p.2.2.1.getD g.r.2.2.2.2.1.2.toNat (0, 0, (0, 0), 0)).2.2.2) := by unfold cntF counterF; rw [if_neg a, if_neg b, if_neg (by omega), if_neg (fun h => h e)]
    rw [e2]; unfold setC
    refine ⟨?_, fun z => ?_⟩
    · split
      · rfl
      · rename_i z; simpa using z
    · rw [if_neg (by rw [z]; exact fun h => h rfl)]

def vc36 : Prop := vc Try.f36.body Try.f36.results Try.f36.ntmps [(44, some sp44)] sp36 ann36
theorem vc36_is : vc36 = (
∀ (g : PgR), Holds (InR IntKind.i64 g.p.fst) → Holds (InR IntKind.i64 g.p.snd.fst) → Holds (InR IntKind.i64 g.r.fst) → Holds (InR IntKind.i64 g.r.snd.fst) → Holds (InR IntKind.i64 g.r.snd.snd.fst) → Holds (InR IntKind.i64 g.r.snd.snd.snd.fst) → Holds (InR IntKind.i64 g.r.snd.snd.snd.snd.fst.fst) → Holds (InR IntKind.i64 g.r.snd.snd.snd.snd.fst.snd) → Holds (InR IntKind.i64 g.r.snd.snd.snd.snd.snd.fst.fst) → Holds (InR IntKind.i64 g.r.snd.snd.snd.snd.snd.fst.snd) → Holds (InR IntKind.i64 g.r.snd.snd.snd.snd.snd.snd.fst) → Holds (InR IntKind.i64 g.r.snd.snd.snd.snd.snd.snd.snd.fst.fst) → Holds (InR IntKind.i64 g.r.snd.snd.snd.snd.snd.snd.snd.fst.snd.fst) → Holds (InR IntKind.i64 g.r.snd.snd.snd.snd.snd.snd.snd.fst.snd.snd.fst.fst) → Holds (InR IntKind.i64 g.r.snd.snd.snd.snd.snd.snd.snd.fst.snd.snd.fst.snd) → Holds (InR IntKind.i64 g.r.snd.snd.snd.snd.snd.snd.snd.fst.snd.snd.snd) → Holds (kL.slice.ok g.r.snd.snd.snd.snd.snd.snd.snd.snd.fst) → Holds (kD.slice.ok g.r.snd.snd.snd.snd.snd.snd.snd.snd.snd.fst) → Holds (InR IntKind.i64 g.r.snd.snd.snd.snd.snd.snd.snd.snd.snd.snd) → Holds (kC.slice.ok g.p.snd.snd.fst) → Holds (kG.slice.ok g.p.snd.snd.snd) → Holds (Fit g.p) → SplitB (decide ((↑g.p.snd.snd.fst.length : Int) > (0 : Int))) (∃ (r : Int × List Gr), Holds (r.fst = (summF g.p g.r).fst ∧ (r.fst = (0 : Int) → r.snd = (summF g.p g.r).snd)) ∧ g.p.fst = g.p.fst ∧ g.p.snd.fst = g.p.snd.fst ∧ (83 : Int) = r.fst ∧ g.p.snd.snd.snd = r.snd) (SplitB (decide (g.r.snd.snd.snd.snd.snd.fst.snd < (0 : Int))) (∃ (r : Int × List Gr), Holds (r.fst = (summF g.p g.r).fst ∧ (r.fst = (0 : Int) → r.snd = (summF g.p g.r).snd)) ∧ g.p.fst = g.p.fst ∧ g.p.snd.fst = g.p.snd.fst ∧ (83 : Int) = r.fst ∧ g.p.snd.snd.snd = r.snd) (SplitB (decide (g.r.snd.snd.snd.snd.snd.fst.snd > (↑g.p.snd.snd.snd.length : Int))) (∃ (r : Int × List Gr), Holds (r.fst = (summF g.p g.r).fst ∧ (r.fst = (0 : Int) → r.snd = (summF g.p g.r).snd)) ∧ g.p.fst = g.p.fst ∧ g.p.snd.fst = g.p.snd.fst ∧ (83 : Int) = r.fst ∧ g.p.snd.snd.snd = r.snd) (SplitB (g.r.snd.snd.snd.snd.snd.fst.snd == (↑g.p.snd.snd.snd.length : Int)) (SplitB (g.r.snd.fst != (2 : Int)) (∃ (r : Int × List Gr), Holds (r.fst = (summF g.p g.r).fst ∧ (r.fst = (0 : Int) → r.snd = (summF g.p g.r).snd)) ∧ g.p.fst = g.p.fst ∧ g.p.snd.fst = g.p.snd.fst ∧ (83 : Int) = r.fst ∧ g.p.snd.snd.snd = r.snd) (SplitB (decide ((↑g.p.snd.snd.snd.length : Int) ≥ (84 : Int))) (∃ (r : Int × List Gr), Holds (r.fst = (summF g.p g.r).fst ∧ (r.fst = (0 : Int) → r.snd = (summF g.p g.r).snd)) ∧ g.p.fst = g.p.fst ∧ g.p.snd.fst = g.p.snd.fst ∧ (83 : Int) = r.fst ∧ g.p.snd.snd.snd = r.snd) (SplitB (g.r.snd.snd.snd.snd.snd.fst.snd == (↑g.p.snd.snd.snd.length : Int)) (Holds ((g.p.snd.snd.snd.length + [(g.r.snd.snd.snd.snd.snd.snd.snd.fst.snd.fst, (0 : Int))].length) * (16 : Nat) ≤ (140737488355328 : Nat)) ∧ SplitB (g.r.snd.fst == (2 : Int)) (Holds ((0 : Int) ≤ g.r.snd.snd.snd.snd.snd.fst.snd) ∧ Holds (g.r.snd.snd.snd.snd.snd.fst.snd < (↑(g.p.snd.snd.snd ++ [(g.r.snd.snd.snd.snd.snd.snd.snd.fst.snd.fst, (0 : Int))]).length : Int)) ∧ Holds (g.r.snd.snd.snd.snd.snd.fst.snd.toNat < (g.p.snd.snd.snd ++ [(g.r.snd.snd.snd.snd.snd.snd.snd.fst.snd.fst, (0 : Int))]).length) ∧ SplitB (((g.p.snd.snd.snd ++ [(g.r.snd.snd.snd.snd.snd.snd.snd.fst.snd.fst, (0 : Int))]).getD g.r.snd.snd.snd.snd.snd.fst.snd.toNat ((0 : Int), (0 : Int))).fst != g.r.snd.snd.snd.snd.snd.snd.snd.fst.snd.fst) (∃ (r : Int × List Gr), Holds (r.fst = (summF g.p g.r).fst ∧ (r.fst = (0 : Int) → r.snd = (summF g.p g.r).snd)) ∧ g.p.fst = g.p.fst ∧ g.p.snd.fst = g.p.snd.fst ∧ (83 : Int) = r.fst ∧ g.p.snd.snd.snd ++ [(g.r.snd.snd.snd.snd.snd.snd.snd.fst.snd.fst, (0 : Int))] = r.snd) (Holds ((0 : Int) ≤ g.r.snd.snd.snd.snd.snd.fst.snd) ∧ Holds (g.r.snd.snd.snd.snd.snd.fst.snd < (↑(g.p.snd.snd.snd ++ [(g.r.snd.snd.snd.snd.snd.snd.snd.fst.snd.fst, (0 : Int))]).length : Int)) ∧ Holds (g.r.snd.snd.snd.snd.snd.fst.snd.toNat < (g.p.snd.snd.snd ++ [(g.r.snd.snd.snd.snd.snd.snd.snd.fst.snd.fst, (0 : Int))]).length) ∧ ∀ (r : Int × Int), Holds (r = movF ((g.p.snd.snd.snd ++ [(g.r.snd.snd.snd.snd.snd.snd.snd.fst.snd.fst, (0 : Int))]).getD g.r.snd.snd.snd.snd.snd.fst.snd.toNat ((0 : Int), (0 : Int))).snd g.r) → Holds ((0 : Int) ≤ g.r.snd.snd.snd.snd.snd.fst.snd) ∧ Holds (g.r.snd.snd.snd.snd.snd.fst.snd < (↑(g.p.snd.snd.snd ++ [(g.r.snd.snd.snd.snd.snd.snd.snd.fst.snd.fst, (0 : Int))]).length : Int)) ∧ Holds (g.r.snd.snd.snd.snd.snd.fst.snd.toNat < (g.p.snd.snd.snd ++ [(g.r.snd.snd.snd.snd.snd.snd.snd.fst.snd.fst, (0 : Int))]).length) ∧ ∃ (r_1 : Int × List Gr), Holds (r_1.fst = (summF g.p g.r).fst ∧ (r_1.fst = (0 : Int) → r_1.snd = (summF g.p g.r).snd)) ∧ g.p.fst = g.p.fst ∧ g.p.snd.fst = g.p.snd.fst ∧ r.snd = r_1.fst ∧ (g.p.snd.snd.snd ++ [(g.r.snd.snd.snd.snd.snd.snd.snd.fst.snd.fst, (0 : Int))]).set g.r.snd.snd.snd.snd.snd.fst.snd.toNat (((g.p.snd.snd.snd ++ [(g.r.snd.snd.snd.snd.snd.snd.snd.fst.snd.fst, (0 : Int))]).getD g.r.snd.snd.snd.snd.snd.fst.snd.toNat ((0 : Int), (0 : Int))).fst, r.fst) = r_1.snd)) (Holds ((0 : Int) ≤ g.r.snd.snd.snd.snd.snd.fst.snd) ∧ Holds (g.r.snd.snd.snd.snd.snd.fst.snd < (↑(g.p.snd.snd.snd ++ [(g.r.snd.snd.snd.snd.snd.snd.snd.fst.snd.fst, (0 : Int))]).length : Int)) ∧ Holds (g.r.snd.snd.snd.snd.snd.fst.snd.toNat < (g.p.snd.snd.snd ++ [(g.r.snd.snd.snd.snd.snd.snd.snd.fst.snd.fst, (0 : Int))]).length) ∧ ∀ (r : Int × Int), Holds (r = movF ((g.p.snd.snd.snd ++ [(g.r.snd.snd.snd.snd.snd.snd.snd.fst.snd.fst, (0 : Int))]).getD g.r.snd.snd.snd.snd.snd.fst.snd.toNat ((0 : Int), (0 : Int))).snd g.r) → Holds ((0 : Int) ≤ g.r.snd.snd.snd.snd.snd.fst.snd) ∧ Holds (g.r.snd.snd.snd.snd.snd.fst.snd < (↑(g.p.snd.snd.snd ++ [(g.r.snd.snd.snd.snd.snd.snd.snd.fst.snd.fst, (0 : Int))]).length : Int)) ∧ Holds (g.r.snd.snd.snd.snd.snd.fst.snd.toNat < (g.p.snd.snd.snd ++ [(g.r.snd.snd.snd.snd.snd.snd.snd.fst.snd.fst, (0 : Int))]).length) ∧ ∃ (r_1 : Int × List Gr), Holds (r_1.fst = (summF g.p g.r).fst ∧ (r_1.fst = (0 : Int) → r_1.snd = (summF g.p g.r).snd)) ∧ g.p.fst = g.p.fst ∧ g.p.snd.fst = g.p.snd.fst ∧ r.snd = r_1.fst ∧ (g.p.snd.snd.snd ++ [(g.r.snd.snd.snd.snd.snd.snd.snd.fst.snd.fst, (0 : Int))]).set g.r.snd.snd.snd.snd.snd.fst.snd.toNat (((g.p.snd.snd.snd ++ [(g.r.snd.snd.snd.snd.snd.snd.snd.fst.snd.fst, (0 : Int))]).getD g.r.snd.snd.snd.snd.snd.fst.snd.toNat ((0 : Int), (0 : Int))).fst, r.fst) = r_1.snd)) (SplitB (g.r.snd.fst == (2 : Int)) (Holds ((0 : Int) ≤ g.r.snd.snd.snd.snd.snd.fst.snd) ∧ Holds (g.r.snd.snd.snd.snd.snd.fst.snd < (↑g.p.snd.snd.snd.length : Int)) ∧ Holds (g.r.snd.snd.snd.snd.snd.fst.snd.toNat < g.p.snd.snd.snd.length) ∧ SplitB ((g.p.snd.snd.snd.getD g.r.snd.snd.snd.snd.snd.fst.snd.toNat ((0 : Int), (0 : Int))).fst != g.r.snd.snd.snd.snd.snd.snd.snd.fst.snd.fst) (∃ (r : Int × List Gr), Holds (r.fst = (summF g.p g.r).fst ∧ (r.fst = (0 : Int) → r.snd = (summF g.p g.r).snd)) ∧ g.p.fst = g.p.fst ∧ g.p.snd.fst = g.p.snd.fst ∧ (83 : Int) = r.fst ∧ g.p.snd.snd.snd = r.snd) (Holds ((0 : Int) ≤ g.r.snd.snd.snd.snd.snd.fst.snd) ∧ Holds (g.r.snd.snd.snd.snd.snd.fst.snd < (↑g.p.snd.snd.snd.length : Int)) ∧ Holds (g.r.snd.snd.snd.snd.snd.fst.snd.toNat < g.p.snd.snd.snd.length) ∧ ∀ (r : Int × Int), Holds (r = movF (g.p.snd.snd.snd.getD g.r.snd.snd.snd.snd.snd.fst.snd.toNat ((0 : Int), (0 : Int))).snd g.r) → Holds ((0 : Int) ≤ g.r.snd.snd.snd.snd.snd.fst.snd) ∧ Holds (g.r.snd.snd.snd.snd.snd.fst.snd < (↑g.p.snd.snd.snd.length : Int)) ∧ Holds (g.r.snd.snd.snd.snd.snd.fst.snd.toNat < g.p.snd.snd.snd.length) ∧ ∃ (r_1 : Int × List Gr), Holds (r_1.fst = (summF g.p g.r).fst ∧ (r_1.fst = (0 : Int) → r_1.snd = (summF g.p g.r).snd)) ∧ g.p.fst = g.p.fst ∧ g.p.snd.fst = g.p.snd.fst ∧ r.snd = r_1.fst ∧ g.p.snd.snd.snd.set g.r.snd.snd.snd.snd.snd.fst.snd.toNat ((g.p.snd.snd.snd.getD g.r.snd.snd.snd.snd.snd.fst.snd.toNat ((0 : Int), (0 : Int))).fst, r.fst) = r_1.snd)) (Holds ((0 : Int) ≤ g.r.snd.snd.snd.snd.snd.fst.snd) ∧ Holds (g.r.snd.snd.snd.snd.snd.fst.snd < (↑g.p.snd.snd.snd.length : Int)) ∧ Holds (g.r.snd.snd.snd.snd.snd.fst.snd.toNat < g.p.snd.snd.snd.length) ∧ ∀ (r : Int × Int), Holds (r = movF (g.p.snd.snd.snd.getD g.r.snd.snd.snd.snd.snd.fst.snd.toNat ((0 : Int), (0 : Int))).snd g.r) → Holds ((0 : Int) ≤ g.r.snd.snd.snd.snd.snd.fst.snd) ∧ Holds (g.r.snd.snd.snd.snd.snd.fst.snd < (↑g.p.snd.snd.snd.length : Int)) ∧ Holds (g.r.snd.snd.snd.snd.snd.fst.snd.toNat < g.p.snd.snd.snd.length) ∧ ∃ (r_1 : Int × List Gr), Holds (r_1.fst = (summF g.p g.r).fst ∧ (r_1.fst = (0 : Int) → r_1.snd = (summF g.p g.r).snd)) ∧ g.p.fst = g.p.fst ∧ g.p.snd.fst = g.p.snd.fst ∧ r.snd = r_1.fst ∧ g.p.snd.snd.snd.set g.r.snd.snd.snd.snd.snd.fst.snd.toNat ((g.p.snd.snd.snd.getD g.r.snd.snd.snd.snd.snd.fst.snd.toNat ((0 : Int), (0 : Int))).fst, r.fst) = r_1.snd))))) (SplitB (g.r.snd.snd.snd.snd.snd.fst.snd == (↑g.p.snd.snd.snd.length : Int)) (Holds ((g.p.snd.snd.snd.length + [(g.r.snd.snd.snd.snd.snd.snd.snd.fst.snd.fst, (0 : Int))].length) * (16 : Nat) ≤ (140737488355328 : Nat)) ∧ SplitB (g.r.snd.fst == (2 : Int)) (Holds ((0 : Int) ≤ g.r.snd.snd.snd.snd.snd.fst.snd) ∧ Holds (g.r.snd.snd.snd.snd.snd.fst.snd < (↑(g.p.snd.snd.snd ++ [(g.r.snd.snd.snd.snd.snd.snd.snd.fst.snd.fst, (0 : Int))]).length : Int)) ∧ Holds (g.r.snd.snd.snd.snd.snd.fst.snd.toNat < (g.p.snd.snd.snd ++ [(g.r.snd.snd.snd.snd.snd.snd.snd.fst.snd.fst, (0 : Int))]).length) ∧ SplitB (((g.p.snd.snd.snd ++ [(g.r.snd.snd.snd.snd.snd.snd.snd.fst.snd.fst, (0 : Int))]).getD g.r.snd.snd.snd.snd.snd.fst.snd.toNat ((0 : Int), (0 : Int))).fst != g.r.snd.snd.snd.snd.snd.snd.snd.fst.snd.fst) (∃ (r : Int × List Gr), Holds (r.fst = (summF g.p g.r).fst ∧ (r.fst = (0 : Int) → r.snd = (summF g.p g.r).snd)) ∧ g.p.fst = g.p.fst ∧ g.p.snd.fst = g.p.snd.fst ∧ (83 : Int) = r.fst ∧ g.p.snd.snd.snd ++ [(g.r.snd.snd.snd.snd.snd.snd.snd.fst.snd.fst, (0 : Int))] = r.snd) (Holds ((0 : Int) ≤ g.r.snd.snd.snd.snd.snd.fst.snd) ∧ Holds (g.r.snd.snd.snd.snd.snd.fst.snd < (↑(g.p.snd.snd.snd ++ [(g.r.snd.snd.snd.snd.snd.snd.snd.fst.snd.fst, (0 : Int))]).length : Int)) ∧ Holds (g.r.snd.snd.snd.snd.snd.fst.snd.toNat < (g.p.snd.snd.snd ++ [(g.r.snd.snd.snd.snd.snd.snd.snd.fst.snd.fst, (0 : Int))]).length) ∧ ∀ (r : Int × Int), Holds (r = movF ((g.p.snd.snd.snd ++ [(g.r.snd.snd.snd.snd.snd.snd.snd.fst.snd.fst, (0 : Int))]).getD g.r.snd.snd.snd.snd.snd.fst.snd.toNat ((0 : Int), (0 : Int))).snd g.r) → Holds ((0 : Int) ≤ g.r.snd.snd.snd.snd.snd.fst.snd) ∧ Holds (g.r.snd.snd.snd.snd.snd.fst.snd < (↑(g.p.snd.snd.snd ++ [(g.r.snd.snd.snd.snd.snd.snd.snd.fst.snd.fst, (0 : Int))]).length : Int)) ∧ Holds (g.r.snd.snd.snd.snd.snd.fst.snd.toNat < (g.p.snd.snd.snd ++ [(g.r.snd.snd.snd.snd.snd.snd.snd.fst.snd.fst, (0 : Int))]).length) ∧ ∃ (r_1 : Int × List Gr), Holds (r_1.fst = (summF g.p g.r).fst ∧ (r_1.fst = (0 : Int) → r_1.snd = (summF g.p g.r).snd)) ∧ g.p.fst = g.p.fst ∧ g.p.snd.fst = g.p.snd.fst ∧ r.snd = r_1.fst ∧ (g.p.snd.snd.snd ++ [(g.r.snd.snd.snd.snd.snd.snd.snd.fst.snd.fst, (0 : Int))]).set g.r.snd.snd.snd.snd.snd.fst.snd.toNat (((g.p.snd.snd.snd ++ [(g.r.snd.snd.snd.snd.snd.snd.snd.fst.snd.fst, (0 : Int))]).getD g.r.snd.snd.snd.snd.snd.fst.snd.toNat ((0 : Int), (0 : Int))).fst, r.fst) = r_1.snd)) (Holds ((0 : Int) ≤ g.r.snd.snd.snd.snd.snd.fst.snd) ∧ Holds (g.r.snd.snd.snd.snd.snd.fst.snd < (↑(g.p.snd.snd.snd ++ [(g.r.snd.snd.snd.snd.snd.snd.snd.fst.snd.fst, (0 : Int))]).length : Int)) ∧ Holds (g.r.snd.snd.snd.snd.snd.fst.snd.toNat < (g.p.snd.snd.snd ++ [(g.r.snd.snd.snd.snd.snd.snd.snd.fst.snd.fst, (0 : Int))]).length) ∧ ∀ (r : Int × Int), Holds (r = movF ((g.p.snd.snd.snd ++ [(g.r.snd.snd.snd.snd.snd.snd.snd.fst.snd.fst, (0 : Int))]).getD g.r.snd.snd.snd.snd.snd.fst.snd.toNat ((0 : Int), (0 : Int))).snd g.r) → Holds ((0 : Int) ≤ g.r.snd.snd.snd.snd.snd.fst.snd) ∧ Holds (g.r.snd.snd.snd.snd.snd.fst.snd < (↑(g.p.snd.snd.snd ++ [(g.r.snd.snd.snd.snd.snd.snd.snd.fst.snd.fst, (0 : Int))]).length : Int)) ∧ Holds (g.r.snd.snd.snd.snd.snd.fst.snd.toNat < (g.p.snd.snd.snd ++ [(g.r.snd.snd.snd.snd.snd.snd.snd.fst.snd.fst, (0 : Int))]).length) ∧ ∃ (r_1 : Int × List Gr), Holds (r_1.fst = (summF g.p g.r).fst ∧ (r_1.fst = (0 : Int) → r_1.snd = (summF g.p g.r).snd)) ∧ g.p.fst = g.p.fst ∧ g.p.snd.fst = g.p.snd.fst ∧ r.snd = r_1.fst ∧ (g.p.snd.snd.snd ++ [(g.r.snd.snd.snd.snd.snd.snd.snd.fst.snd.fst, (0 : Int))]).set g.r.snd.snd.snd.snd.snd.fst.snd.toNat (((g.p.snd.snd.snd ++ [(g.r.snd.snd.snd.snd.snd.snd.snd.fst.snd.fst, (0 : Int))]).getD g.r.snd.snd.snd.snd.snd.fst.snd.toNat ((0 : Int), (0 : Int))).fst, r.fst) = r_1.snd)) (SplitB (g.r.snd.fst == (2 : Int)) (Holds ((0 : Int) ≤ g.r.snd.snd.snd.snd.snd.fst.snd) ∧ Holds (g.r.snd.snd.snd.snd.snd.fst.snd < (↑g.p.snd.snd.snd.length : Int)) ∧ Holds (g.r.snd.snd.snd.snd.snd.fst.snd.toNat < g.p.snd.snd.snd.length) ∧ SplitB ((g.p.snd.snd.snd.getD g.r.snd.snd.snd.snd.snd.fst.snd.toNat ((0 : Int), (0 : Int))).fst != g.r.snd.snd.snd.snd.snd.snd.snd.fst.snd.fst) (∃ (r : Int × List Gr), Holds (r.fst = (summF g.p g.r).fst ∧ (r.fst = (0 : Int) → r.snd = (summF g.p g.r).snd)) ∧ g.p.fst = g.p.fst ∧ g.p.snd.fst = g.p.snd.fst ∧ (83 : Int) = r.fst ∧ g.p.snd.snd.snd = r.snd) (Holds ((0 : Int) ≤ g.r.snd.snd.snd.snd.snd.fst.snd) ∧ Holds (g.r.snd.snd.snd.snd.snd.fst.snd < (↑g.p.snd.snd.snd.length : Int)) ∧ Holds (g.r.snd.snd.snd.snd.snd.fst.snd.toNat < g.p.snd.snd.snd.length) ∧ ∀ (r : Int × Int), Holds (r = movF (g.p.snd.snd.snd.getD g.r.snd.snd.snd.snd.snd.fst.snd.toNat ((0 : Int), (0 : Int))).snd g.r) → Holds ((0 : Int) ≤ g.r.snd.snd.snd.snd.snd.fst.snd) ∧ Holds (g.r.snd.snd.snd.snd.snd.fst.snd < (↑g.p.snd.snd.snd.length : Int)) ∧ Holds (g.r.snd.snd.snd.snd.snd.fst.snd.toNat < g.p.snd.snd.snd.length) ∧ ∃ (r_1 : Int × List Gr), Holds (r_1.fst = (summF g.p g.r).fst ∧ (r_1.fst = (0 : Int) → r_1.snd = (summF g.p g.r).snd)) ∧ g.p.fst = g.p.fst ∧ g.p.snd.fst = g.p.snd.fst ∧ r.snd = r_1.fst ∧ g.p.snd.snd.snd.set g.r.snd.snd.snd.snd.snd.fst.snd.toNat ((g.p.snd.snd.snd.getD g.r.snd.snd.snd.snd.snd.fst.snd.toNat ((0 : Int), (0 : Int))).fst, r.fst) = r_1.snd)) (Holds ((0 : Int) ≤ g.r.snd.snd.snd.snd.snd.fst.snd) ∧ Holds (g.r.snd.snd.snd.snd.snd.fst.snd < (↑g.p.snd.snd.snd.length : Int)) ∧ Holds (g.r.snd.snd.snd.snd.snd.fst.snd.toNat < g.p.snd.snd.snd.length) ∧ ∀ (r : Int × Int), Holds (r = movF (g.p.snd.snd.snd.getD g.r.snd.snd.snd.snd.snd.fst.snd.toNat ((0 : Int), (0 : Int))).snd g.r) → Holds ((0 : Int) ≤ g.r.snd.snd.snd.snd.snd.fst.snd) ∧ Holds (g.r.snd.snd.snd.snd.snd.fst.snd < (↑g.p.snd.snd.snd.length : Int)) ∧ Holds (g.r.snd.snd.snd.snd.snd.fst.snd.toNat < g.p.snd.snd.snd.length) ∧ ∃ (r_1 : Int × List Gr), Holds (r_1.fst = (summF g.p g.r).fst ∧ (r_1.fst = (0 : Int) → r_1.snd = (summF g.p g.r).snd)) ∧ g.p.fst = g.p.fst ∧ g.p.snd.fst = g.p.snd.fst ∧ r.snd = r_1.fst ∧ g.p.snd.snd.snd.set g.r.snd.snd.snd.snd.snd.fst.snd.toNat ((g.p.snd.snd.snd.getD g.r.snd.snd.snd.snd.snd.fst.snd.toNat ((0 : Int), (0 : Int))).fst, r.fst) = r_1.snd))))))) := by kernel_rfl
theorem ok36 : vc36 := by
  rw [vc36_is]; intro g
  intro h1 h2 h3 h4 h5 h6 h7 h8 h9 h10 h11 h12 h13 h14 h15 h16 h17 h18 h19 h20 h21 h22
  have hf := h22.out.2
  have hv := h16.out
  rw [inR64] at hv
  clear h1 h2 h3 h4 h5 h6 h7 h8 h9 h10 h11 h12 h13 h14 h15 h16 h17 h18 h19 h20 h21 h22
  have gsl : ∀ {x : Nat}, ((x : Int) > 0) = (0 < x) := by intro x; apply propext; omega
  simp only [splitB_iff, holds_iff, ex2, forall_eq, true_and, bne_iff_ne, ne_eq, bne_eq_false_iff_eq, beq_iff_eq, beq_eq_false_iff_ne, decide_eq_true_eq, decide_eq_false_iff_not, List.length_append, List.length_cons, List.length_nil, gsl]
  have A0 : g.r.2.2.2.2.2.1.2 = (g.p.2.2.2.length : Int) → (g.p.2.2.2 ++ [(g.r.2.2.2.2.2.2.2.1.2.1, (0 : Int))]).getD g.r.2.2.2.2.2.1.2.toNat ((0 : Int), (0 : Int)) = (g.r.2.2.2.2.2.2.2.1.2.1, 0) := fun h => by
    rw [show g.r.2.2.2.2.2.1.2.toNat = g.p.2.2.2.length by omega]; simp [List.getD]
  have A1 : ¬ 0 < g.p.2.2.1.length → g.r.2.2.2.2.2.1.2 = (g.p.2.2.2.length : Int) → g.r.2.1 = 2 → ¬ (g.p.2.2.2.length : Int) ≥ 84 → ((movF ((g.p.2.2.2 ++ [(g.r.2.2.2.2.2.2.2.1.2.1, (0 : Int))]).getD g.r.2.2.2.2.2.1.2.toNat ((0 : Int), (0 : Int))).2 g.r).2 = (summF g.p g.r).1 ∧ ((movF ((g.p.2.2.2 ++ [(g.r.2.2.2.2.2.2.2.1.2.1, (0 : Int))]).getD g.r.2.2.2.2.2.1.2.toNat ((0 : Int), (0 : Int))).2 g.r).2 = 0 → (g.p.2.2.2 ++ [(g.r.2.2.2.2.2.2.2.1.2.1, (0 : Int))]).set g.r.2.2.2.2.2.1.2.toNat (((g.p.2.2.2 ++ [(g.r.2.2.2.2.2.2.2.1.2.1, (0 : Int))]).getD g.r.2.2.2.2.2.1.2.toNat ((0 : Int), (0 : Int))).1, (movF ((g.p.2.2.2 ++ [(g.r.2.2.2.2.2.2.2.1.2.1, (0 : Int))]).getD g.r.2.2.2.2.2.1.2.toNat ((0 : Int), (0 : Int))).2 g.r).1) = (summF g.p g.r).2)) := fun h0 h1 h2 h3 => by
    rw [A0 h1]
    have e1 : movF 0 g.r = (g.r.2.2.2.2.2.2.2.1.2.2.2, 0) := by
      unfold movF; rw [if_neg (by omega), if_pos h2, Int.zero_add, ans_yes hv]
    have e2 : summF g.p g.r = (0, g.p.2.2.2 ++ [(g.r.2.2.2.2.2.2.2.1.2.1, g.r.2.2.2.2.2.2.2.1.2.2.2)]) := by
      unfold summF sumF; rw [if_neg h0, if_pos h2, if_neg (by omega), if_pos h1, if_pos (by omega)]
    rw [e1, e2, show g.r.2.2.2.2.2.1.2.toNat = g.p.2.2.2.length by omega]
    exact ⟨rfl, fun _ => by simp⟩
  have A2 : ¬ 0 < g.p.2.2.1.length → ¬ g.r.2.2.2.2.2.1.2 < 0 → ¬ g.r.2.2.2.2.2.1.2 > (g.p.2.2.2.length : Int) → ¬ g.r.2.2.2.2.2.1.2 = (g.p.2.2.2.length : Int) → (g.r.2.1 = 2 → (g.p.2.2.2.getD g.r.2.2.2.2.2.1.2.toNat ((0 : Int), (0 : Int))).1 = g.r.2.2.2.2.2.2.2.1.2.1) → ((movF (g.p.2.2.2.getD g.r.2.2.2.2.2.1.2.toNat ((0 : Int), (0 : Int))).2 g.r).2 = (summF g.p g.r).1 ∧ ((movF (g.p.2.2.2.getD g.r.2.2.2.2.2.1.2.toNat ((0 : Int), (0 : Int))).2 g.r).2 = 0 → g.p.2.2.2.set g.r.2.2.2.2.2.1.2.toNat ((g.p.2.2.2.getD g.r.2.2.2.2.2.1.2.toNat ((0 : Int), (0 : Int))).1, (movF (g.p.2.2.2.getD g.r.2.2.2.2.2.1.2.toNat ((0 : Int), (0 : Int))).2 g.r).1) = (summF g.p g.r).2)) := fun h0 h1 h2 h3 h4 => by
    have key : summF g.p g.r = setG g.p.2.2.2 g.r.2.2.2.2.2.1.2.toNat (movF (g.p.2.2.2.getD g.r.2.2.2.2.2.1.2.toNat ((0 : Int), (0 : Int))).2 g.r) := by
      by_cases hk : g.r.2.1 = 2
      · have e1 : movF (g.p.2.2.2.getD g.r.2.2.2.2.2.1.2.toNat ((0 : Int), (0 : Int))).2 g.r = ans ((g.p.2.2.2.getD g.r.2.2.2.2.2.1.2.toNat ((0 : Int), (0 : Int))).2 + g.r.2.2.2.2.2.2.2.1.2.2.2) := by
          unfold movF; rw [if_neg (by omega), if_pos hk]
        rw [e1]; unfold summF sumF; rw [if_neg h0, if_pos hk, if_neg (by omega), if_neg h3, if_neg (fun h => h (h4 hk))]
      · rw [mov_step hk]; unfold summF sumF; rw [if_neg h0, if_neg hk, if_neg (by omega)]
    rw [key]; unfold setG
    refine ⟨?_, fun z => ?_⟩
    · split
      · rfl
      · rename_i z; simpa using z
    · rw [if_neg (by rw [z]; exact fun h => h rfl)]
  (repeat' first | (apply And.intro) | (refine fun _ => ?_)) <;> first
    | omega
    | exact absurd (by rw [A0 (by assumption)]) ‹¬ ((g.p.2.2.2 ++ [(g.r.2.2.2.2.2.2.2.1.2.1, (0 : Int))]).getD g.r.2.2.2.2.2.1.2.toNat ((0 : Int), (0 : Int))).1 = g.r.2.2.2.2.2.2.2.1.2.1›
    | exact (A1 (by assumption) (by assumption) (by assumption) (by assumption)).1
    | exact (A1 (by assumption) (by assumption) (by assumption) (by assumption)).2 (by assumption)
    | exact (A2 (by assumption) (by assumption) (by assumption) (by assumption) (fun h => by first | assumption | contradiction)).1
    | exact (A2 (by assumption) (by assumption) (by assumption) (by assumption) (fun h => by first | assumption | contradiction)).2 (by assumption)
    | (unfold summF sumF setG; (repeat' split) <;> first | rfl | (exfalso; omega) | contradiction)

def vc22 : Prop := vc Try.f22.body Try.f22.results Try.f22.ntmps [(34, some sp34), (9, some sp9), (35, some sp35), (36, some sp36)] sp22 ann22
theorem vc22_is : vc22 = (
∀ (g : PgRc), Holds (InR IntKind.i64 g.p.fst) → Holds (InR IntKind.i64 g.p.snd.fst) → Holds (kC.slice.ok g.p.snd.snd.fst) → Holds (kG.slice.ok g.p.snd.snd.snd) → Holds (InR IntKind.i64 g.r.fst) → Holds (InR IntKind.i64 g.r.snd.fst) → Holds (InR IntKind.i64 g.r.snd.snd.fst) → Holds (InR IntKind.i64 g.r.snd.snd.snd.fst) → Holds (InR IntKind.i64 g.r.snd.snd.snd.snd.fst.fst) → Holds (InR IntKind.i64 g.r.snd.snd.snd.snd.fst.snd) → Holds (InR IntKind.i64 g.r.snd.snd.snd.snd.snd.fst.fst) → Holds (InR IntKind.i64 g.r.snd.snd.snd.snd.snd.fst.snd) → Holds (InR IntKind.i64 g.r.snd.snd.snd.snd.snd.snd.fst) → Holds (InR IntKind.i64 g.r.snd.snd.snd.snd.snd.snd.snd.fst.fst) → Holds (InR IntKind.i64 g.r.snd.snd.snd.snd.snd.snd.snd.fst.snd.fst) → Holds (InR IntKind.i64 g.r.snd.snd.snd.snd.snd.snd.snd.fst.snd.snd.fst.fst) → Holds (InR IntKind.i64 g.r.snd.snd.snd.snd.snd.snd.snd.fst.snd.snd.fst.snd) → Holds (InR IntKind.i64 g.r.snd.snd.snd.snd.snd.snd.snd.fst.snd.snd.snd) → Holds (kL.slice.ok g.r.snd.snd.snd.snd.snd.snd.snd.snd.fst) → Holds (kD.slice.ok g.r.snd.snd.snd.snd.snd.snd.snd.snd.snd.fst) → Holds (InR IntKind.i64 g.r.snd.snd.snd.snd.snd.snd.snd.snd.snd.snd) → Holds (Fit g.p) → SplitB (!changesB g.r.snd.fst) ((∃ (r : Int), Holds (r ≠ (0 : Int) ∧ (doF g.p g.r).fst = r) ∧ (0 : Int) = (0 : Int) ∧ (0 : Int) = (0 : Int) ∧ (70 : Int) = r) ∨ ∃ (r : Bool × Pg), Holds (doF g.p g.r = ((0 : Int), r)) ∧ (0 : Int) = r.snd.fst ∧ (0 : Int) = r.snd.snd.fst ∧ nilT (Int × Int × (Int × Int) × Int) = r.snd.snd.snd.fst ∧ nilT (Int × Int) = r.snd.snd.snd.snd ∧ false = r.fst ∧ (70 : Int) = (0 : Int)) (SplitB (decide (g.r.fst < (1 : Int))) ((∃ (r : Int), Holds (r ≠ (0 : Int) ∧ (doF g.p g.r).fst = r) ∧ (0 : Int) = (0 : Int) ∧ (0 : Int) = (0 : Int) ∧ (23 : Int) = r) ∨ ∃ (r : Bool × Pg), Holds (doF g.p g.r = ((0 : Int), r)) ∧ (0 : Int) = r.snd.fst ∧ (0 : Int) = r.snd.snd.fst ∧ nilT (Int × Int × (Int × Int) × Int) = r.snd.snd.snd.fst ∧ nilT (Int × Int) = r.snd.snd.snd.snd ∧ false = r.fst ∧ (23 : Int) = (0 : Int)) (SplitB (decide (g.r.fst > (2147483647 : Int))) ((∃ (r : Int), Holds (r ≠ (0 : Int) ∧ (doF g.p g.r).fst = r) ∧ (0 : Int) = (0 : Int) ∧ (0 : Int) = (0 : Int) ∧ (23 : Int) = r) ∨ ∃ (r : Bool × Pg), Holds (doF g.p g.r = ((0 : Int), r)) ∧ (0 : Int) = r.snd.fst ∧ (0 : Int) = r.snd.snd.fst ∧ nilT (Int × Int × (Int × Int) × Int) = r.snd.snd.snd.fst ∧ nilT (Int × Int) = r.snd.snd.snd.snd ∧ false = r.fst ∧ (23 : Int) = (0 : Int)) (SplitB (g.r.snd.snd.snd.snd.fst.fst == g.r.snd.snd.snd.snd.snd.fst.fst) ((∃ (r : Int), Holds (r ≠ (0 : Int) ∧ (doF g.p g.r).fst = r) ∧ (0 : Int) = (0 : Int) ∧ (0 : Int) = (0 : Int) ∧ (23 : Int) = r) ∨ ∃ (r : Bool × Pg), Holds (doF g.p g.r = ((0 : Int), r)) ∧ (0 : Int) = r.snd.fst ∧ (0 : Int) = r.snd.snd.fst ∧ nilT (Int × Int × (Int × Int) × Int) = r.snd.snd.snd.fst ∧ nilT (Int × Int) = r.snd.snd.snd.snd ∧ false = r.fst ∧ (23 : Int) = (0 : Int)) (SplitB (g.p.fst != g.r.snd.snd.snd.snd.fst.fst) (SplitB (g.p.fst != g.r.snd.snd.snd.snd.snd.fst.fst) ((∃ (r : Int), Holds (r ≠ (0 : Int) ∧ (doF g.p g.r).fst = r) ∧ (0 : Int) = (0 : Int) ∧ (0 : Int) = (0 : Int) ∧ (82 : Int) = r) ∨ ∃ (r : Bool × Pg), Holds (doF g.p g.r = ((0 : Int), r)) ∧ (0 : Int) = r.snd.fst ∧ (0 : Int) = r.snd.snd.fst ∧ nilT (Int × Int × (Int × Int) × Int) = r.snd.snd.snd.fst ∧ nilT (Int × Int) = r.snd.snd.snd.snd ∧ false = r.fst ∧ (82 : Int) = (0 : Int)) (Holds (Fit g.p) ∧ SplitB (decide (g.p.snd.fst ≥ g.r.fst)) ((∃ (r : Int), Holds (r ≠ (0 : Int) ∧ (doF g.p g.r).fst = r) ∧ False) ∨ ∃ (r : Bool × Pg), Holds (doF g.p g.r = ((0 : Int), r)) ∧ g.p.fst = r.snd.fst ∧ g.p.snd.fst = r.snd.snd.fst ∧ g.p.snd.snd.fst = r.snd.snd.snd.fst ∧ g.p.snd.snd.snd = r.snd.snd.snd.snd ∧ false = r.fst ∧ (0 : Int) = (0 : Int)) (SplitB (g.p.fst == g.r.snd.snd.snd.snd.fst.fst) (Holds (Fit g.p) ∧ ∀ (r : Int × List Cn), Holds (r.fst = (cntF g.p g.r).fst ∧ (r.fst = (0 : Int) → r.snd = (cntF g.p g.r).snd)) → SplitB (r.fst != (0 : Int)) ((∃ (r_1 : Int), Holds (r_1 ≠ (0 : Int) ∧ (doF g.p g.r).fst = r_1) ∧ (0 : Int) = (0 : Int) ∧ (0 : Int) = (0 : Int) ∧ r.fst = r_1) ∨ ∃ (r_1 : Bool × Pg), Holds (doF g.p g.r = ((0 : Int), r_1)) ∧ (0 : Int) = r_1.snd.fst ∧ (0 : Int) = r_1.snd.snd.fst ∧ nilT (Int × Int × (Int × Int) × Int) = r_1.snd.snd.snd.fst ∧ nilT (Int × Int) = r_1.snd.snd.snd.snd ∧ false = r_1.fst ∧ r.fst = (0 : Int)) ((∃ (r : Int), Holds (r ≠ (0 : Int) ∧ (doF g.p g.r).fst = r) ∧ False) ∨ ∃ (r_1 : Bool × Pg), Holds (doF g.p g.r = ((0 : Int), r_1)) ∧ g.p.fst = r_1.snd.fst ∧ g.r.fst = r_1.snd.snd.fst ∧ r.snd = r_1.snd.snd.snd.fst ∧ g.p.snd.snd.snd = r_1.snd.snd.snd.snd ∧ true = r_1.fst ∧ (0 : Int) = (0 : Int))) (Holds (Fit g.p) ∧ ∀ (r : Int × List Gr), Holds (r.fst = (summF g.p g.r).fst ∧ (r.fst = (0 : Int) → r.snd = (summF g.p g.r).snd)) → SplitB (r.fst != (0 : Int)) ((∃ (r_1 : Int), Holds (r_1 ≠ (0 : Int) ∧ (doF g.p g.r).fst = r_1) ∧ (0 : Int) = (0 : Int) ∧ (0 : Int) = (0 : Int) ∧ r.fst = r_1) ∨ ∃ (r_1 : Bool × Pg), Holds (doF g.p g.r = ((0 : Int), r_1)) ∧ (0 : Int) = r_1.snd.fst ∧ (0 : Int) = r_1.snd.snd.fst ∧ nilT (Int × Int × (Int × Int) × Int) = r_1.snd.snd.snd.fst ∧ nilT (Int × Int) = r_1.snd.snd.snd.snd ∧ false = r_1.fst ∧ r.fst = (0 : Int)) ((∃ (r : Int), Holds (r ≠ (0 : Int) ∧ (doF g.p g.r).fst = r) ∧ False) ∨ ∃ (r_1 : Bool × Pg), Holds (doF g.p g.r = ((0 : Int), r_1)) ∧ g.p.fst = r_1.snd.fst ∧ g.r.fst = r_1.snd.snd.fst ∧ g.p.snd.snd.fst = r_1.snd.snd.snd.fst ∧ r.snd = r_1.snd.snd.snd.snd ∧ true = r_1.fst ∧ (0 : Int) = (0 : Int)))))) (Holds (Fit g.p) ∧ SplitB (decide (g.p.snd.fst ≥ g.r.fst)) ((∃ (r : Int), Holds (r ≠ (0 : Int) ∧ (doF g.p g.r).fst = r) ∧ False) ∨ ∃ (r : Bool × Pg), Holds (doF g.p g.r = ((0 : Int), r)) ∧ g.p.fst = r.snd.fst ∧ g.p.snd.fst = r.snd.snd.fst ∧ g.p.snd.snd.fst = r.snd.snd.snd.fst ∧ g.p.snd.snd.snd = r.snd.snd.snd.snd ∧ false = r.fst ∧ (0 : Int) = (0 : Int)) (SplitB (g.p.fst == g.r.snd.snd.snd.snd.fst.fst) (Holds (Fit g.p) ∧ ∀ (r : Int × List Cn), Holds (r.fst = (cntF g.p g.r).fst ∧ (r.fst = (0 : Int) → r.snd = (cntF g.p g.r).snd)) → SplitB (r.fst != (0 : Int)) ((∃ (r_1 : Int), Holds (r_1 ≠ (0 : Int) ∧ (doF g.p g.r).fst = r_1) ∧ (0 : Int) = (0 : Int) ∧ (0 : Int) = (0 : Int) ∧ r.fst = r_1) ∨ ∃ (r_1 : Bool × Pg), Holds (doF g.p g.r = ((0 : Int), r_1)) ∧ (0 : Int) = r_1.snd.fst ∧ (0 : Int) = r_1.snd.snd.fst ∧ nilT (Int × Int × (Int × Int) × Int) = r_1.snd.snd.snd.fst ∧ nilT (Int × Int) = r_1.snd.snd.snd.snd ∧ false = r_1.fst ∧ r.fst = (0 : Int)) ((∃ (r : Int), Holds (r ≠ (0 : Int) ∧ (doF g.p g.r).fst = r) ∧ False) ∨ ∃ (r_1 : Bool × Pg), Holds (doF g.p g.r = ((0 : Int), r_1)) ∧ g.p.fst = r_1.snd.fst ∧ g.r.fst = r_1.snd.snd.fst ∧ r.snd = r_1.snd.snd.snd.fst ∧ g.p.snd.snd.snd = r_1.snd.snd.snd.snd ∧ true = r_1.fst ∧ (0 : Int) = (0 : Int))) (Holds (Fit g.p) ∧ ∀ (r : Int × List Gr), Holds (r.fst = (summF g.p g.r).fst ∧ (r.fst = (0 : Int) → r.snd = (summF g.p g.r).snd)) → SplitB (r.fst != (0 : Int)) ((∃ (r_1 : Int), Holds (r_1 ≠ (0 : Int) ∧ (doF g.p g.r).fst = r_1) ∧ (0 : Int) = (0 : Int) ∧ (0 : Int) = (0 : Int) ∧ r.fst = r_1) ∨ ∃ (r_1 : Bool × Pg), Holds (doF g.p g.r = ((0 : Int), r_1)) ∧ (0 : Int) = r_1.snd.fst ∧ (0 : Int) = r_1.snd.snd.fst ∧ nilT (Int × Int × (Int × Int) × Int) = r_1.snd.snd.snd.fst ∧ nilT (Int × Int) = r_1.snd.snd.snd.snd ∧ false = r_1.fst ∧ r.fst = (0 : Int)) ((∃ (r : Int), Holds (r ≠ (0 : Int) ∧ (doF g.p g.r).fst = r) ∧ False) ∨ ∃ (r_1 : Bool × Pg), Holds (doF g.p g.r = ((0 : Int), r_1)) ∧ g.p.fst = r_1.snd.fst ∧ g.r.fst = r_1.snd.snd.fst ∧ g.p.snd.snd.fst = r_1.snd.snd.snd.fst ∧ r.snd = r_1.snd.snd.snd.snd ∧ true = r_1.fst ∧ (0 : Int) = (0 : Int)))))))))) := by kernel_rfl
theorem do_a {p : Pg} {r : Rc} (h : changesB r.2.1 = false) : (doF p r).1 = 70 := by unfold doF; rw [if_pos h]
theorem ch_no {r : Rc} (h : changesB r.2.1 = true) : ¬ changesB r.2.1 = false := by rw [h]; decide
theorem do_b {p : Pg} {r : Rc} (h : changesB r.2.1 = true) (h2 : r.1 < 1 ∨ 2147483647 < r.1 ∨ r.2.2.2.2.1.1 = r.2.2.2.2.2.1.1) : (doF p r).1 = 23 := by unfold doF; rw [if_neg (ch_no h), if_pos h2]
theorem do_c {p : Pg} {r : Rc} (h : changesB r.2.1 = true) (h2 : ¬ (r.1 < 1 ∨ 2147483647 < r.1 ∨ r.2.2.2.2.1.1 = r.2.2.2.2.2.1.1)) (h3 : p.1 ≠ r.2.2.2.2.1.1 ∧ p.1 ≠ r.2.2.2.2.2.1.1) : (doF p r).1 = 82 := by unfold doF; rw [if_neg (ch_no h), if_neg h2, if_pos h3]
theorem do_d {p : Pg} {r : Rc} (h : changesB r.2.1 = true) (h2 : ¬ (r.1 < 1 ∨ 2147483647 < r.1 ∨ r.2.2.2.2.1.1 = r.2.2.2.2.2.1.1)) (h3 : ¬ (p.1 ≠ r.2.2.2.2.1.1 ∧ p.1 ≠ r.2.2.2.2.2.1.1)) (h4 : r.1 ≤ p.2.1) : doF p r = (0, false, p) := by unfold doF; rw [if_neg (ch_no h), if_neg h2, if_neg h3, if_pos h4]
theorem do_e {p : Pg} {r : Rc} (h : changesB r.2.1 = true) (h2 : ¬ (r.1 < 1 ∨ 2147483647 < r.1 ∨ r.2.2.2.2.1.1 = r.2.2.2.2.2.1.1)) (h3 : ¬ (p.1 ≠ r.2.2.2.2.1.1 ∧ p.1 ≠ r.2.2.2.2.2.1.1)) (h4 : ¬ r.1 ≤ p.2.1) (h5 : p.1 = r.2.2.2.2.1.1) : doF p r = if (cntF p r).1 ≠ 0 then ((cntF p r).1, false, (0, 0, [], [])) else (0, true, (p.1, r.1, (cntF p r).2, p.2.2.2)) := by
  unfold doF; rw [if_neg (ch_no h), if_neg h2, if_neg h3, if_neg h4, if_pos h5]; rfl
theorem do_f {p : Pg} {r : Rc} (h : changesB r.2.1 = true) (h2 : ¬ (r.1 < 1 ∨ 2147483647 < r.1 ∨ r.2.2.2.2.1.1 = r.2.2.2.2.2.1.1)) (h3 : ¬ (p.1 ≠ r.2.2.2.2.1.1 ∧ p.1 ≠ r.2.2.2.2.2.1.1)) (h4 : ¬ r.1 ≤ p.2.1) (h5 : ¬ p.1 = r.2.2.2.2.1.1) : doF p r = if (summF p r).1 ≠ 0 then ((summF p r).1, false, (0, 0, [], [])) else (0, true, (p.1, r.1, p.2.2.1, (summF p r).2)) := by
  unfold doF; rw [if_neg (ch_no h), if_neg h2, if_neg h3, if_neg h4, if_neg h5]; rfl
theorem ok22 : vc22 := by
  rw [vc22_is]; intro g
  intro h1 h2 h3 h4 h5 h6 h7 h8 h9 h10 h11 h12 h13 h14 h15 h16 h17 h18 h19 h20 h21 h22
  have hf : Holds (Fit g.p) := h22
  clear h1 h2 h3 h4 h5 h6 h7 h8 h9 h10 h11 h12 h13 h14 h15 h16 h17 h18 h19 h20 h21 h22
  refine ⟨fun a => .inl ⟨70, ⟨by decide, do_a (by simpa using a)⟩, rfl, rfl, rfl⟩, fun a => ?_⟩
  have a : changesB g.r.2.1 = true := by simpa using a
  refine ⟨fun b => .inl ⟨23, ⟨by decide, do_b a (.inl (of_decide_eq_true b))⟩, rfl, rfl, rfl⟩, fun b => ?_⟩
  have b := of_decide_eq_false b
  refine ⟨fun c => .inl ⟨23, ⟨by decide, do_b a (.inr (.inl (of_decide_eq_true c)))⟩, rfl, rfl, rfl⟩, fun c => ?_⟩
  have c := of_decide_eq_false c
  refine ⟨fun d => .inl ⟨23, ⟨by decide, do_b a (.inr (.inr (by simpa using d)))⟩, rfl, rfl, rfl⟩, fun d => ?_⟩
  have d : ¬ g.r.2.2.2.2.1.1 = g.r.2.2.2.2.2.1.1 := by simpa using d
  have n : ¬ (g.r.1 < 1 ∨ 2147483647 < g.r.1 ∨ g.r.2.2.2.2.1.1 = g.r.2.2.2.2.2.1.1) := fun h => by
    rcases h with h | h | h
    · exact b h
    · exact c h
    · exact d h
  refine ⟨fun e => ⟨fun f => .inl ⟨82, ⟨by decide, do_c a n ⟨by simpa using e, by simpa using f⟩⟩, rfl, rfl, rfl⟩, fun f => ?_⟩, fun e => ?_⟩
  · have m : ¬ (g.p.1 ≠ g.r.2.2.2.2.1.1 ∧ g.p.1 ≠ g.r.2.2.2.2.2.1.1) := fun h => h.2 (by simpa using f)
    refine ⟨hf, fun o => .inr ⟨(false, g.p), ⟨do_d a n m (of_decide_eq_true o)⟩, rfl, rfl, rfl, rfl, rfl, rfl⟩, fun o => ?_⟩
    have o : ¬ g.r.1 ≤ g.p.2.1 := of_decide_eq_false o
    refine ⟨fun w => ⟨hf, fun r hr => ?_⟩, fun w => ⟨hf, fun r hr => ?_⟩⟩
    · have w : g.p.1 = g.r.2.2.2.2.1.1 := by simpa using w
      obtain ⟨e1, e2⟩ := hr.out
      have D := do_e a n m o w
      refine ⟨fun z => ?_, fun z => ?_⟩
      · have z : r.1 ≠ 0 := by simpa using z
        refine .inl ⟨r.1, ⟨z, ?_⟩, rfl, rfl, rfl⟩
        rw [D, if_pos (by rw [← e1]; exact z), ← e1]
      · have z : r.1 = 0 := by simpa using z
        refine .inr ⟨(true, (g.p.1, g.r.1, r.2, g.p.2.2.2)), ⟨?_⟩, rfl, rfl, rfl, rfl, rfl, rfl⟩
        rw [D, if_neg (by rw [← e1]; exact fun h => h z), e2 z]
    · have w : ¬ g.p.1 = g.r.2.2.2.2.1.1 := by simpa using w
      obtain ⟨e1, e2⟩ := hr.out
      have D := do_f a n m o w
      refine ⟨fun z => ?_, fun z => ?_⟩
      · have z : r.1 ≠ 0 := by simpa using z
        refine .inl ⟨r.1, ⟨z, ?_⟩, rfl, rfl, rfl⟩
        rw [D, if_pos (by rw [← e1]; exact z), ← e1]
      · have z : r.1 = 0 := by simpa using z
        refine .inr ⟨(true, (g.p.1, g.r.1, g.p.2.2.1, r.2)), ⟨?_⟩, rfl, rfl, rfl, rfl, rfl, rfl⟩
        rw [D, if_neg (by rw [← e1]; exact fun h => h z), e2 z]
  · have m : ¬ (g.p.1 ≠ g.r.2.2.2.2.1.1 ∧ g.p.1 ≠ g.r.2.2.2.2.2.1.1) := fun h => h.1 (by simpa using e)
    refine ⟨hf, fun o => .inr ⟨(false, g.p), ⟨do_d a n m (of_decide_eq_true o)⟩, rfl, rfl, rfl, rfl, rfl, rfl⟩, fun o => ?_⟩
    have o : ¬ g.r.1 ≤ g.p.2.1 := of_decide_eq_false o
    refine ⟨fun w => ⟨hf, fun r hr => ?_⟩, fun w => ⟨hf, fun r hr => ?_⟩⟩
    · have w : g.p.1 = g.r.2.2.2.2.1.1 := by simpa using w
      obtain ⟨e1, e2⟩ := hr.out
      have D := do_e a n m o w
      refine ⟨fun z => ?_, fun z => ?_⟩
      · have z : r.1 ≠ 0 := by simpa using z
        refine .inl ⟨r.1, ⟨z, ?_⟩, rfl, rfl, rfl⟩
        rw [D, if_pos (by rw [← e1]; exact z), ← e1]
      · have z : r.1 = 0 := by simpa using z
        refine .inr ⟨(true, (g.p.1, g.r.1, r.2, g.p.2.2.2)), ⟨?_⟩, rfl, rfl, rfl, rfl, rfl, rfl⟩
        rw [D, if_neg (by rw [← e1]; exact fun h => h z), e2 z]
    · have w : ¬ g.p.1 = g.r.2.2.2.2.1.1 := by simpa using w
      obtain ⟨e1, e2⟩ := hr.out
      have D := do_f a n m o w
      refine ⟨fun z => ?_, fun z => ?_⟩
      · have z : r.1 ≠ 0 := by simpa using z
        refine .inl ⟨r.1, ⟨z, ?_⟩, rfl, rfl, rfl⟩
        rw [D, if_pos (by rw [← e1]; exact z), ← e1]
      · have z : r.1 = 0 := by simpa using z
        refine .inr ⟨(true, (g.p.1, g.r.1, g.p.2.2.1, r.2)), ⟨?_⟩, rfl, rfl, rfl, rfl, rfl, rfl⟩
        rw [D, if_neg (by rw [← e1]; exact fun h => h z), e2 z]

def vc23 : Prop := vc Try.f23.body Try.f23.results Try.f23.ntmps [(34, some sp34)] sp23 (fun _ => noAnn)
theorem vc23_is : vc23 = (
∀ (g : RcA), Holds (InR IntKind.i64 g.r.fst) → Holds (InR IntKind.i64 g.r.snd.fst) → Holds (InR IntKind.i64 g.r.snd.snd.fst) → Holds (InR IntKind.i64 g.r.snd.snd.snd.fst) → Holds (InR IntKind.i64 g.r.snd.snd.snd.snd.fst.fst) → Holds (InR IntKind.i64 g.r.snd.snd.snd.snd.fst.snd) → Holds (InR IntKind.i64 g.r.snd.snd.snd.snd.snd.fst.fst) → Holds (InR IntKind.i64 g.r.snd.snd.snd.snd.snd.fst.snd) → Holds (InR IntKind.i64 g.r.snd.snd.snd.snd.snd.snd.fst) → Holds (InR IntKind.i64 g.r.snd.snd.snd.snd.snd.snd.snd.fst.fst) → Holds (InR IntKind.i64 g.r.snd.snd.snd.snd.snd.snd.snd.fst.snd.fst) → Holds (InR IntKind.i64 g.r.snd.snd.snd.snd.snd.snd.snd.fst.snd.snd.fst.fst) → Holds (InR IntKind.i64 g.r.snd.snd.snd.snd.snd.snd.snd.fst.snd.snd.fst.snd) → Holds (InR IntKind.i64 g.r.snd.snd.snd.snd.snd.snd.snd.fst.snd.snd.snd) → Holds (kL.slice.ok g.r.snd.snd.snd.snd.snd.snd.snd.snd.fst) → Holds (kD.slice.ok g.r.snd.snd.snd.snd.snd.snd.snd.snd.snd.fst) → Holds (InR IntKind.i64 g.r.snd.snd.snd.snd.snd.snd.snd.snd.snd.snd) → SplitB (!changesB g.r.snd.fst) ((∃ (r : Unit), Holds (pagesF g.r = []) ∧ True) ∨ ∃ (r : List Int), Holds (r = pagesF g.r) ∧ False) (SplitB (g.r.snd.snd.snd.snd.fst.fst == g.r.snd.snd.snd.snd.snd.fst.fst) ((∃ (r : Unit), Holds (pagesF g.r = []) ∧ False) ∨ ∃ (r : List Int), Holds (r = pagesF g.r) ∧ [g.r.snd.snd.snd.snd.fst.fst] = r) (SplitB (decide (g.r.snd.snd.snd.snd.fst.fst < g.r.snd.snd.snd.snd.snd.fst.fst)) ((∃ (r : Unit), Holds (pagesF g.r = []) ∧ False) ∨ ∃ (r : List Int), Holds (r = pagesF g.r) ∧ [g.r.snd.snd.snd.snd.fst.fst, g.r.snd.snd.snd.snd.snd.fst.fst] = r) ((∃ (r : Unit), Holds (pagesF g.r = []) ∧ False) ∨ ∃ (r : List Int), Holds (r = pagesF g.r) ∧ [g.r.snd.snd.snd.snd.snd.fst.fst, g.r.snd.snd.snd.snd.fst.fst] = r)))) := by kernel_rfl
theorem ok23 : vc23 := by
  rw [vc23_is]; intro g; intros
  simp only [splitB_iff, holds_iff, and_true, and_false, exists_false, false_or, or_false, exists_const, exists_eq_left, Bool.not_eq_true', Bool.not_eq_false', decide_eq_true_eq, decide_eq_false_iff_not]
  unfold pagesF
  refine ⟨fun a => by rw [if_pos a], fun a => ?_⟩
  have a' : ¬ changesB g.r.2.1 = false := by rw [a]; decide
  rw [if_neg a']
  refine ⟨fun b => ?_, fun b => ?_⟩
  · rw [if_pos (by simpa using b)]
  · have b : ¬ g.r.2.2.2.2.1.1 = g.r.2.2.2.2.2.1.1 := by simpa using b
    rw [if_neg b]
    generalize g.r.2.2.2.2.1.1 = x at *
    generalize g.r.2.2.2.2.2.1.1 = y at *
    have mn : min x y = if x < y then x else y := by simp only [Int.min_def]; split <;> split <;> omega
    have mx : max x y = if x < y then y else x := by simp only [Int.max_def]; split <;> split <;> omega
    rw [mn, mx]
    exact ⟨fun c => by rw [if_pos c, if_pos c], fun c => by rw [if_neg c, if_neg c]⟩

def vc16c : Prop := vc Try.f16.body Try.f16.results Try.f16.ntmps [] sp16c (fun _ => noAnn)
theorem vc16c_is : vc16c = (
∀ (g : PxArg), Holds (InR IntKind.i64 g.a) → Holds (InR IntKind.i64 g.b) → Holds (kC.slice.ok g.xs) → Holds (kG.slice.ok g.ys) → g.a = g.a ∧ g.b = g.b ∧ g.n = g.n ∧ g.m = g.m) := by kernel_rfl
theorem ok16c : vc16c := by rw [vc16c_is]; intro g h1 h2 h3 h4; exact ⟨rfl, rfl, rfl, rfl⟩

def vc16d : Prop := vc Try.f16.body Try.f16.results Try.f16.ntmps [] sp16d (fun _ => noAnn)
theorem vc16d_is : vc16d = (
∀ (g : Int × Int × Lh × Lh), Holds (InR IntKind.i64 g.fst) → Holds (InR IntKind.i64 g.snd.fst) → Holds g.snd.snd.fst.ok → Holds g.snd.snd.snd.ok → g.fst = g.fst ∧ g.snd.fst = g.snd.fst ∧ g.snd.snd.fst = g.snd.snd.fst ∧ g.snd.snd.snd = g.snd.snd.snd) := by kernel_rfl
theorem ok16d : vc16d := by rw [vc16d_is]; intro g h1 h2 h3 h4; exact ⟨rfl, rfl, rfl, rfl⟩

def vc24 : Prop := vc Try.f24.body Try.f24.results Try.f24.ntmps [(16, some sp16p), (15, some sp15)] sp24 (fun _ => noAnn)
theorem vc24_is : vc24 = (
∀ (g : KptArg), Holds (InR IntKind.i64 g.q.a) → Holds (InR IntKind.i64 g.q.b) → Holds (InR IntKind.i64 g.p.fst) → Holds (InR IntKind.i64 g.p.snd.fst) → Holds (kC.slice.ok g.p.snd.snd.fst) → Holds (kG.slice.ok g.p.snd.snd.snd) → Holds (kC.slice.ok g.q.xs) → Holds (kG.slice.ok g.q.ys) → Holds (g.q = { a := g.p.fst, b := g.p.snd.fst, n := g.p.snd.snd.fst.length, m := g.p.snd.snd.snd.length, xs := g.p.snd.snd.fst ++ [mkC], ys := g.p.snd.snd.snd ++ [mkG] : PxArg } ∧ g.p.snd.snd.fst.length ≤ (200 : Nat) ∧ g.p.snd.snd.snd.length ≤ (200 : Nat)) → Holds ((0 : Int) ≤ IntKind.i64.wrap ((↑g.p.snd.snd.fst.length : Int) + (1 : Int))) ∧ Holds (IntKind.i64.wrap ((↑g.p.snd.snd.fst.length : Int) + (1 : Int)) ≤ (↑g.q.xs.length : Int)) ∧ Holds ((0 : Int) ≤ IntKind.i64.wrap ((↑g.p.snd.snd.snd.length : Int) + (1 : Int))) ∧ Holds (IntKind.i64.wrap ((↑g.p.snd.snd.snd.length : Int) + (1 : Int)) ≤ (↑g.q.ys.length : Int)) ∧ SplitB (samePg (g.q.a, g.q.b, List.take g.q.n g.q.xs, List.take g.q.m g.q.ys) g.p) (Holds ((0 : Int) ≤ (↑g.p.snd.snd.fst.length : Int)) ∧ Holds ((↑g.p.snd.snd.fst.length : Int) < (↑(IntKind.i64.wrap ((↑g.p.snd.snd.fst.length : Int) + (1 : Int))).toNat : Int)) ∧ Holds ((↑g.p.snd.snd.fst.length : Int).toNat < g.q.xs.length) ∧ SplitB ((g.q.xs.getD (↑g.p.snd.snd.fst.length : Int).toNat ((0 : Int), (0 : Int), ((0 : Int), (0 : Int)), (0 : Int))).fst == (23130 : Int)) (Holds ((0 : Int) ≤ (↑g.p.snd.snd.snd.length : Int)) ∧ Holds ((↑g.p.snd.snd.snd.length : Int) < (↑(IntKind.i64.wrap ((↑g.p.snd.snd.snd.length : Int) + (1 : Int))).toNat : Int)) ∧ Holds ((↑g.p.snd.snd.snd.length : Int).toNat < g.q.ys.length) ∧ ((g.q.ys.getD (↑g.p.snd.snd.snd.length : Int).toNat ((0 : Int), (0 : Int))).fst == (23130 : Int)) = true) False) False) := by kernel_rfl
theorem ok24 : vc24 := by
  rw [vc24_is]; intro g
  intro h1 h2 h3 h4 h5 h6 h7 h8 h9
  obtain ⟨q, p⟩ := g
  obtain ⟨e, l1, l2⟩ := h9.out
  dsimp only at e l1 l2
  clear h1 h2 h3 h4 h5 h6 h7 h8 h9
  subst e
  dsimp only
  have s : samePg (p.1, p.2.1, p.2.2.1, p.2.2.2) p = true := same_self p
  simp only [splitB_iff, holds_iff, Int.toNat_natCast, wrap_succ (show p.2.2.1.length < 9223372036854775807 by omega), wrap_succ (show p.2.2.2.length < 9223372036854775807 by omega), List.length_append, List.length_cons, List.length_nil, List.take_left, s]
  have g1 : (p.2.2.1 ++ [mkC]).getD p.2.2.1.length ((0 : Int), (0 : Int), ((0 : Int), (0 : Int)), (0 : Int)) = mkC := by simp [List.getD]
  have g2 : (p.2.2.2 ++ [mkG]).getD p.2.2.2.length ((0 : Int), (0 : Int)) = mkG := by simp [List.getD]
  rw [g1, g2]
  refine ⟨by omega, by omega, by omega, by omega, fun _ => ⟨by omega, by omega, by omega, fun _ => ⟨by omega, by omega, by omega, by decide⟩, fun h => by simp [mkC] at h⟩, fun h => by simp at h⟩

end Go.Proofs.Ytaomhhamepalmaa.VC
