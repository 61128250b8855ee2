/- What is to be shown of functions, shown. Plain lemmas; no conditions but those that each names. -/
import Derived.Test.YtljimnhijpcjaaaSp
import Derived.KernelRfl
set_option linter.unusedVariables false
set_option linter.unusedSimpArgs false
set_option linter.unusedSectionVars false
namespace Go.Proofs.Ytljimnhijpcjaaa.VC
open Go
set_option maxRecDepth 100000

theorem ans_yes {x : Int} (h : Num x) : ans x = (x, 0) := by unfold ans; rw [if_pos h]
theorem ans_no {x : Int} (h : ¬ Num x) : ans x = (0, 10) := by unfold ans; rw [if_neg h]
theorem wval_wd (n : Int) : wval (hiW n, loW n) = n := by unfold wval hiW loW; simp only; omega
theorem sum_bound : ∀ (l : List Int), (∀ x ∈ l, InR .i64 x) → -9223372036854775808 * (l.length : Int) ≤ l.sum ∧ l.sum ≤ 9223372036854775808 * (l.length : Int)
  | [], _ => by simp
  | x :: l, h => by
    have h1 := sum_bound l (fun y hy => h y (by simp [hy]))
    have h2 := h x (by simp)
    rw [inR64] at h2
    simp only [List.sum_cons, List.length_cons]
    omega
theorem low_bound : ∀ (l : List Int), (∀ x ∈ l, InR .i64 x) → -9223372036854775808 * (l.length : Int) ≤ lowS l ∧ lowS l ≤ 0
  | [], _ => by simp [lowS]
  | x :: l, h => by
    have h1 := low_bound l (fun y hy => h y (by simp [hy]))
    have h2 := h x (by simp)
    rw [inR64] at h2
    have e : lowS (x :: l) = (if x < 0 then x else 0) + lowS l := by simp [lowS]
    rw [e, List.length_cons]
    split <;> omega
theorem high_bound : ∀ (l : List Int), (∀ x ∈ l, InR .i64 x) → 0 ≤ highS l ∧ highS l ≤ 9223372036854775808 * (l.length : Int)
  | [], _ => by simp [highS]
  | x :: l, h => by
    have h1 := high_bound l (fun y hy => h y (by simp [hy]))
    have h2 := h x (by simp)
    rw [inR64] at h2
    have e : highS (x :: l) = (if x < 0 then 0 else x) + highS l := by simp [highS]
    rw [e, List.length_cons]
    split <;> omega
theorem low_snoc (l : List Int) (x : Int) : lowS (l ++ [x]) = lowS l + (if x < 0 then x else 0) := by simp [lowS]
theorem high_snoc (l : List Int) (x : Int) : highS (l ++ [x]) = highS l + (if x < 0 then 0 else x) := by simp [highS]
theorem take_ok {l : List Int} (h : ∀ x ∈ l, InR .i64 x) (i : Nat) : ∀ x ∈ l.take i, InR .i64 x := fun x hx => h x (List.mem_of_mem_take hx)
def vc62 : Prop := vc Try.f62.body Try.f62.results Try.f62.ntmps [] sp62 (fun _ => noAnn)
theorem vc62_is : vc62 = (
∀ (g : Num1), Holds (InR IntKind.i64 g.v) → Holds ((0 : Int) ≤ (63 : Int)) ∧ shrI IntKind.i64 g.v (63 : Int) = hiW g.v ∧ (bif decide (IntKind.i64 = IntKind.u64) then g.v else IntKind.u64.wrap g.v) = loW g.v) := by kernel_rfl
theorem ok62 : vc62 := by
  rw [vc62_is]
  intro g h
  have h := h.out
  rw [inR64] at h
  refine ⟨⟨by decide⟩, ?_, ?_⟩
  · rw [shr63]; unfold hiW; omega
  · show IntKind.u64.wrap g.v = _
    rw [u64_wrap]; rfl

def vc64 : Prop := vc Try.f64.body Try.f64.results Try.f64.ntmps [] sp64 (fun _ => noAnn)
theorem vc64_is : vc64 = (
∀ (g : W1), Holds (InR IntKind.i64 g.w.fst) → Holds (InR IntKind.u64 g.w.snd) → Holds ((0 : Int) ≤ (63 : Int)) ∧ SplitB (g.w.fst != shrI IntKind.i64 (bif decide (IntKind.u64 = IntKind.i64) then g.w.snd else IntKind.i64.wrap g.w.snd) (63 : Int)) (∃ (r : Int × Int), Holds (r = ans (wval g.w)) ∧ (0 : Int) = r.fst ∧ (10 : Int) = r.snd) (∃ (r : Int × Int), Holds (r = ans (wval g.w)) ∧ (bif decide (IntKind.u64 = IntKind.i64) then g.w.snd else IntKind.i64.wrap g.w.snd) = r.fst ∧ (0 : Int) = r.snd)) := by kernel_rfl
theorem ok64 : vc64 := by
  rw [vc64_is]
  intro g h1 h2
  have h1 := h1.out
  have h2 := h2.out
  rw [inR64] at h1
  rw [inU64] at h2
  have e0 : (bif decide (IntKind.u64 = IntKind.i64) then g.w.2 else IntKind.i64.wrap g.w.2) = IntKind.i64.wrap g.w.2 := rfl
  rw [e0, shr63, i64_wrap]
  simp only [splitB_iff, holds_iff, exists_eq_left, bne_iff_ne, ne_eq, bne_eq_false_iff_eq]
  refine ⟨by decide, fun a => ?_, fun a => ?_⟩
  · rw [ans_no (by unfold Num wval; omega)]; exact ⟨rfl, rfl⟩
  · rw [ans_yes (by unfold Num wval; omega)]; refine ⟨?_, rfl⟩; unfold wval; simp only; omega

def vc52 : Prop := vc Try.f52.body Try.f52.results Try.f52.ntmps [(62, some sp62), (63, some sp63), (64, some sp64)] sp52 (fun _ => noAnn)
theorem vc52_is : vc52 = (
∀ (g : Two), Holds (InR IntKind.i64 g.a) → Holds (InR IntKind.i64 g.b) → Holds ((-4611686018427387904 : Int) ≤ hiW g.a) ∧ Holds (hiW g.a ≤ (4611686018427387904 : Int)) ∧ ∀ (r : Int × Int), Holds (r = ans (wval (hiW (wval (hiW g.a, loW g.a) + g.b), loW (wval (hiW g.a, loW g.a) + g.b)))) → ∃ (r_1 : Int × Int), Holds (r_1 = ans (g.a + g.b)) ∧ r.fst = r_1.fst ∧ r.snd = r_1.snd) := by kernel_rfl
theorem ok52 : vc52 := by
  rw [vc52_is]
  intro g h1 h2
  have h1 := h1.out
  have h2 := h2.out
  rw [inR64] at h1 h2
  simp only [holds_iff, wval_wd, forall_eq, exists_eq_left, and_true]
  unfold hiW; omega

def vc51 : Prop := vc Try.f51.body Try.f51.results Try.f51.ntmps [(63, some sp63), (64, some sp64)] sp51 annSum
theorem vc51_is : vc51 = (
∀ (g : SumArg), Holds (kI.slice.ok g.l) → (∃ (x : At), Holds (x.i ≤ g.l.length) ∧ (0 : Int) = (↑x.i : Int) ∧ (0 : Int) = hiW (List.take x.i g.l).sum ∧ (0 : Int) = loW (List.take x.i g.l).sum) ∧ ∀ (x : At), Holds (x.i ≤ g.l.length) → SplitB (decide ((↑x.i : Int) < (↑g.l.length : Int))) (Holds ((0 : Int) ≤ (↑x.i : Int)) ∧ Holds ((↑x.i : Int) < (↑g.l.length : Int)) ∧ Holds ((↑x.i : Int).toNat < g.l.length) ∧ Holds ((-4611686018427387904 : Int) ≤ hiW (List.take x.i g.l).sum) ∧ Holds (hiW (List.take x.i g.l).sum ≤ (4611686018427387904 : Int)) ∧ ∃ (y : At), Holds (y.i ≤ g.l.length) ∧ Holds (g.l.length - y.i < g.l.length - x.i) ∧ IntKind.i64.wrap ((↑x.i : Int) + (1 : Int)) = (↑y.i : Int) ∧ hiW (wval (hiW (List.take x.i g.l).sum, loW (List.take x.i g.l).sum) + g.l.getD (↑x.i : Int).toNat ((0 : Int))) = hiW (List.take y.i g.l).sum ∧ loW (wval (hiW (List.take x.i g.l).sum, loW (List.take x.i g.l).sum) + g.l.getD (↑x.i : Int).toNat ((0 : Int))) = loW (List.take y.i g.l).sum) (∀ (r : Int × Int), Holds (r = ans (wval (hiW (List.take x.i g.l).sum, loW (List.take x.i g.l).sum))) → ∃ (r_1 : Int × Int), Holds (r_1 = ans g.l.sum) ∧ r.fst = r_1.fst ∧ r.snd = r_1.snd)) := by kernel_rfl
theorem ok51 : vc51 := by
  rw [vc51_is]
  intro g h
  obtain ⟨hl, he⟩ := h.out
  have hl := max63 hl
  simp only [splitB_iff, holds_iff, decide_eq_true_eq, decide_eq_false_iff_not, wval_wd, forall_eq, exists_eq_left, Int.toNat_natCast]
  refine ⟨⟨⟨0⟩, Nat.zero_le _, rfl, by simp [hiW], by simp [loW]⟩, fun x hx => ⟨fun a => ?_, fun a => ?_⟩⟩
  · have b := sum_bound _ (take_ok he x.i)
    rw [List.length_take] at b
    have e := take_succ_get (l := g.l) (i := x.i) (by omega) 0
    refine ⟨by omega, a, by omega, by unfold hiW; omega, by unfold hiW; omega, ⟨x.i + 1⟩, by show x.i + 1 ≤ _; omega, by show _ - (x.i + 1) < _; omega, wrap_succ (by omega), ?_, ?_⟩
    · show _ = hiW (g.l.take (x.i + 1)).sum
      rw [e]; simp
    · show _ = loW (g.l.take (x.i + 1)).sum
      rw [e]; simp
  · have : x.i = g.l.length := by omega
    rw [this, List.take_length]
    exact ⟨rfl, rfl⟩

def vc49 : Prop := vc Try.f49.body Try.f49.results Try.f49.ntmps [(62, some sp62), (63, some sp63), (64, some sp64)] sp49 annWorst
theorem vc49_is : vc49 = (
∀ (g : WorstArg), Holds (InR IntKind.i64 g.b) → Holds (kI.slice.ok g.l) → (∃ (x : At), Holds (x.i ≤ g.l.length) ∧ (0 : Int) = (↑x.i : Int) ∧ hiW g.b = hiW (g.b + lowS (List.take x.i g.l)) ∧ loW g.b = loW (g.b + lowS (List.take x.i g.l)) ∧ hiW g.b = hiW (g.b + highS (List.take x.i g.l)) ∧ loW g.b = loW (g.b + highS (List.take x.i g.l))) ∧ ∀ (x : At), Holds (x.i ≤ g.l.length) → SplitB (decide ((↑x.i : Int) < (↑g.l.length : Int))) (Holds ((0 : Int) ≤ (↑x.i : Int)) ∧ Holds ((↑x.i : Int) < (↑g.l.length : Int)) ∧ Holds ((↑x.i : Int).toNat < g.l.length) ∧ SplitB (decide (g.l.getD (↑x.i : Int).toNat ((0 : Int)) < (0 : Int))) (Holds ((-4611686018427387904 : Int) ≤ hiW (g.b + lowS (List.take x.i g.l))) ∧ Holds (hiW (g.b + lowS (List.take x.i g.l)) ≤ (4611686018427387904 : Int)) ∧ ∃ (y : At), Holds (y.i ≤ g.l.length) ∧ Holds (g.l.length - y.i < g.l.length - x.i) ∧ IntKind.i64.wrap ((↑x.i : Int) + (1 : Int)) = (↑y.i : Int) ∧ hiW (wval (hiW (g.b + lowS (List.take x.i g.l)), loW (g.b + lowS (List.take x.i g.l))) + g.l.getD (↑x.i : Int).toNat ((0 : Int))) = hiW (g.b + lowS (List.take y.i g.l)) ∧ loW (wval (hiW (g.b + lowS (List.take x.i g.l)), loW (g.b + lowS (List.take x.i g.l))) + g.l.getD (↑x.i : Int).toNat ((0 : Int))) = loW (g.b + lowS (List.take y.i g.l)) ∧ hiW (g.b + highS (List.take x.i g.l)) = hiW (g.b + highS (List.take y.i g.l)) ∧ loW (g.b + highS (List.take x.i g.l)) = loW (g.b + highS (List.take y.i g.l))) (Holds ((-4611686018427387904 : Int) ≤ hiW (g.b + highS (List.take x.i g.l))) ∧ Holds (hiW (g.b + highS (List.take x.i g.l)) ≤ (4611686018427387904 : Int)) ∧ ∃ (y : At), Holds (y.i ≤ g.l.length) ∧ Holds (g.l.length - y.i < g.l.length - x.i) ∧ IntKind.i64.wrap ((↑x.i : Int) + (1 : Int)) = (↑y.i : Int) ∧ hiW (g.b + lowS (List.take x.i g.l)) = hiW (g.b + lowS (List.take y.i g.l)) ∧ loW (g.b + lowS (List.take x.i g.l)) = loW (g.b + lowS (List.take y.i g.l)) ∧ hiW (wval (hiW (g.b + highS (List.take x.i g.l)), loW (g.b + highS (List.take x.i g.l))) + g.l.getD (↑x.i : Int).toNat ((0 : Int))) = hiW (g.b + highS (List.take y.i g.l)) ∧ loW (wval (hiW (g.b + highS (List.take x.i g.l)), loW (g.b + highS (List.take x.i g.l))) + g.l.getD (↑x.i : Int).toNat ((0 : Int))) = loW (g.b + highS (List.take y.i g.l)))) (∀ (r : Int × Int), Holds (r = ans (wval (hiW (g.b + lowS (List.take x.i g.l)), loW (g.b + lowS (List.take x.i g.l))))) → ∀ (r_1 : Int × Int), Holds (r_1 = ans (wval (hiW (g.b + highS (List.take x.i g.l)), loW (g.b + highS (List.take x.i g.l))))) → SplitB (r.snd != (0 : Int)) (∃ (r : Int × Int × Int), Holds (r = worstF g.b g.l) ∧ (0 : Int) = r.fst ∧ (0 : Int) = r.snd.fst ∧ (10 : Int) = r.snd.snd) (SplitB (r_1.snd != (0 : Int)) (∃ (r : Int × Int × Int), Holds (r = worstF g.b g.l) ∧ (0 : Int) = r.fst ∧ (0 : Int) = r.snd.fst ∧ (10 : Int) = r.snd.snd) (∃ (r_2 : Int × Int × Int), Holds (r_2 = worstF g.b g.l) ∧ r.fst = r_2.fst ∧ r_1.fst = r_2.snd.fst ∧ (0 : Int) = r_2.snd.snd)))) := by kernel_rfl
theorem ok49 : vc49 := by
  rw [vc49_is]
  intro g h0 h
  have h0 := h0.out
  rw [inR64] at h0
  obtain ⟨hl, he⟩ := h.out
  have hl := max63 hl
  simp only [splitB_iff, holds_iff, decide_eq_true_eq, decide_eq_false_iff_not, wval_wd, forall_eq, exists_eq_left, Int.toNat_natCast]
  refine ⟨⟨⟨0⟩, Nat.zero_le _, rfl, by simp [lowS], by simp [lowS], by simp [highS], by simp [highS]⟩, fun x hx => ⟨fun a => ?_, fun a => ?_⟩⟩
  · have b1 := low_bound _ (take_ok he x.i)
    have b2 := high_bound _ (take_ok he x.i)
    rw [List.length_take] at b1 b2
    have e := take_succ_get (l := g.l) (i := x.i) (by omega) 0
    refine ⟨by omega, a, by omega, fun c => ⟨by unfold hiW; omega, by unfold hiW; omega, ⟨x.i + 1⟩, by show x.i + 1 ≤ _; omega, by show _ - (x.i + 1) < _; omega, wrap_succ (by omega), ?_⟩, fun c => ⟨by unfold hiW; omega, by unfold hiW; omega, ⟨x.i + 1⟩, by show x.i + 1 ≤ _; omega, by show _ - (x.i + 1) < _; omega, wrap_succ (by omega), ?_⟩⟩
    · show _ = hiW (g.b + lowS (g.l.take (x.i + 1))) ∧ _ = loW (g.b + lowS (g.l.take (x.i + 1))) ∧ _ = hiW (g.b + highS (g.l.take (x.i + 1))) ∧ _ = loW (g.b + highS (g.l.take (x.i + 1)))
      rw [e, low_snoc, high_snoc, if_pos c, if_pos c]
      simp only [← Int.add_assoc, Int.add_zero, and_self]
    · show _ = hiW (g.b + lowS (g.l.take (x.i + 1))) ∧ _ = loW (g.b + lowS (g.l.take (x.i + 1))) ∧ _ = hiW (g.b + highS (g.l.take (x.i + 1))) ∧ _ = loW (g.b + highS (g.l.take (x.i + 1)))
      rw [e, low_snoc, high_snoc, if_neg c, if_neg c]
      simp only [← Int.add_assoc, Int.add_zero, and_self]
  · have : x.i = g.l.length := by omega
    rw [this, List.take_length]
    unfold worstF
    by_cases n1 : Num (g.b + lowS g.l) <;> by_cases n2 : Num (g.b + highS g.l) <;> simp [n1, n2, ans_yes, ans_no]

def vc36 : Prop := vc Try.f36.body Try.f36.results Try.f36.ntmps [] sp36 (fun _ => noAnn)
theorem vc36_is : vc36 = (
∀ (g : RgArg), Holds (InR IntKind.i64 g.r.fst) → Holds (InR IntKind.i64 g.r.snd) → SplitB (decide (g.r.fst > g.r.snd)) (∃ (r : Int), Holds (r = checkF g.r) ∧ (11 : Int) = r) (∃ (r : Int), Holds (r = checkF g.r) ∧ (0 : Int) = r)) := by kernel_rfl
theorem ok36 : vc36 := by
  rw [vc36_is]
  intro g h1 h2
  unfold checkF
  simp only [splitB_iff, holds_iff, exists_eq_left, decide_eq_true_eq, decide_eq_false_iff_not]
  exact ⟨fun a => by rw [if_pos a], fun a => by rw [if_neg a]⟩

def vc37 : Prop := vc Try.f37.body Try.f37.results Try.f37.ntmps [] sp37 (fun _ => noAnn)
theorem vc37_is : vc37 = (
∀ (g : HasArg), Holds (InR IntKind.i64 g.r.fst) → Holds (InR IntKind.i64 g.r.snd) → Holds (InR IntKind.i64 g.v) → SplitB (decide (g.r.fst ≤ g.v)) (decide (g.v ≤ g.r.snd) = hasB g.r g.v) (false = hasB g.r g.v)) := by kernel_rfl
theorem ok37 : vc37 := by
  rw [vc37_is]
  intro g h1 h2 h3
  unfold hasB
  simp only [splitB_iff]
  exact ⟨fun a => by simp at a; simp [a], fun a => by simp at a; simp; omega⟩

def vc10 : Prop := vc Try.f10.body Try.f10.results Try.f10.ntmps [(36, some sp36), (37, some sp37)] sp10 (fun _ => noAnn)
theorem vc10_is : vc10 = (
∀ (g : NewArg), Holds (InR IntKind.i64 g.b.fst) → Holds (InR IntKind.i64 g.b.snd) → Holds (InR IntKind.i64 g.v) → ∀ (r : Int), Holds (r = checkF g.b) → SplitB (r != (0 : Int)) ((∃ (r_1 : Int), Holds (r_1 ≠ (0 : Int) ∧ newF g.b g.v = r_1) ∧ r = r_1) ∨ ∃ (r : Unit), Holds (newF g.b g.v = (0 : Int)) ∧ False) (SplitB (!hasB g.b g.v) ((∃ (r : Int), Holds (r ≠ (0 : Int) ∧ newF g.b g.v = r) ∧ (110 : Int) = r) ∨ ∃ (r : Unit), Holds (newF g.b g.v = (0 : Int)) ∧ False) ((∃ (r : Int), Holds (r ≠ (0 : Int) ∧ newF g.b g.v = r) ∧ False) ∨ ∃ (r : Unit), Holds (newF g.b g.v = (0 : Int)) ∧ (0 : Int) = (0 : Int) ∧ g.b.fst = g.b.fst ∧ g.b.snd = g.b.snd ∧ g.v = g.v ∧ nilT (Int × Int) = []))) := by kernel_rfl
theorem ok10 : vc10 := by
  rw [vc10_is]
  intro g h1 h2 h3 r hr
  have hr := hr.out
  unfold checkF at hr
  simp only [splitB_iff, holds_iff, bne_iff_ne, ne_eq, bne_eq_false_iff_eq]
  have n := newF
  refine ⟨fun a => .inl ⟨r, ⟨a, ?_⟩, rfl⟩, fun a => ⟨fun b => .inl ⟨110, ⟨by decide, ?_⟩, rfl⟩, fun b => .inr ⟨(), ?_, by simp⟩⟩⟩
  · unfold newF; rw [hr]; split
    · rfl
    · rename_i h; rw [if_neg h] at hr; exact absurd hr a
  all_goals
    have c : ¬ g.b.1 > g.b.2 := fun h => by rw [if_pos h] at hr; omega
    unfold newF
    rw [if_neg c]
  · rw [if_pos (by simpa using b)]
  · rw [if_neg (by simpa using b)]

def vc50 : Prop := vc Try.f50.body Try.f50.results Try.f50.ntmps [] sp50 ann50
theorem vc50_is : vc50 = (
∀ (g : OthArg), Holds (InR IntKind.i64 g.tx) → Holds (InR IntKind.i64 g.e.lo) → Holds (InR IntKind.i64 g.e.hi) → Holds (InR IntKind.i64 g.e.st) → Holds (MOk kI kI g.e.nets) → Holds (g.e.nets.length ≤ (1000000 : Nat)) → (∃ (x : OthAt), Holds ((otherV x.left g.tx ++ x.out).Perm (otherV g.e.nets g.tx)) ∧ g.e.nets = x.left ∧ nilT Int = x.out) ∧ ∀ (x : OthAt), Holds ((otherV x.left g.tx ++ x.out).Perm (otherV g.e.nets g.tx)) → (∀ (r : Unit), Holds (x.left = []) → ∃ (r : List Int), Holds (r.Perm (otherV g.e.nets g.tx)) ∧ x.out = r) ∧ ∀ (r : List (kI.den × kI.den) × (kI.den × kI.den) × List (kI.den × kI.den)), Holds (x.left = r.fst ++ r.snd.fst :: r.snd.snd) → SplitB (r.snd.fst.fst != g.tx) (Holds ((x.out.length + [r.snd.fst.snd].length) * (8 : Nat) ≤ (140737488355328 : Nat)) ∧ ∃ (y : OthAt), Holds ((otherV y.left g.tx ++ y.out).Perm (otherV g.e.nets g.tx)) ∧ Holds (y.left.length < x.left.length) ∧ r.fst ++ r.snd.snd = y.left ∧ x.out ++ [r.snd.fst.snd] = y.out) (∃ (y : OthAt), Holds ((otherV y.left g.tx ++ y.out).Perm (otherV g.e.nets g.tx)) ∧ Holds (y.left.length < x.left.length) ∧ r.fst ++ r.snd.snd = y.left ∧ x.out = y.out)) := by kernel_rfl
theorem otherV_app (E F : List (Int × Int)) (tx : Int) : otherV (E ++ F) tx = otherV E tx ++ otherV F tx := by unfold otherV; simp
theorem otherV_cons (e : Int × Int) (E : List (Int × Int)) (tx : Int) : otherV (e :: E) tx = if e.1 ≠ tx then e.2 :: otherV E tx else otherV E tx := by
  unfold otherV; by_cases h : e.1 = tx <;> simp [h]
theorem otherV_len (E : List (Int × Int)) (tx : Int) : (otherV E tx).length ≤ E.length := by
  unfold otherV; rw [List.length_map]; exact List.length_filter_le ..
theorem ok50 : vc50 := by
  rw [vc50_is]
  intro g h1 h2 h3 h4 h5 h6
  have h6 := h6.out
  have hlen := otherV_len g.e.nets g.tx
  refine ⟨⟨⟨g.e.nets, []⟩, ⟨by simp⟩, rfl, rfl⟩, fun x hx => ⟨fun _ hl => ⟨x.out, ⟨?_⟩, rfl⟩, fun r hr => ?_⟩⟩
  · have := hx.out
    rw [hl.out] at this
    simpa [otherV] using this
  · obtain ⟨d, e, s⟩ := r
    have hr : x.left = d ++ e :: s := hr.out
    have hx := hx.out
    rw [hr] at hx
    have hlx := hx.length_eq
    rw [List.length_append] at hlx
    refine ⟨fun a => ⟨⟨by simp; omega⟩, ⟨d ++ s, x.out ++ [e.2]⟩, ⟨?_⟩, ⟨by show (d ++ s).length < _; rw [hr]; simp⟩, rfl, rfl⟩, fun a => ⟨⟨d ++ s, x.out⟩, ⟨?_⟩, ⟨by show (d ++ s).length < _; rw [hr]; simp⟩, rfl, rfl⟩⟩
    · have a : e.1 ≠ g.tx := by simpa using a
      rw [otherV_app, otherV_cons, if_pos a] at hx
      refine List.Perm.trans ?_ hx
      show (otherV (d ++ s) g.tx ++ (x.out ++ [e.2])).Perm _
      rw [otherV_app]
      have : (otherV d g.tx ++ otherV s g.tx ++ (x.out ++ [e.2])) = (otherV d g.tx ++ (otherV s g.tx ++ x.out)) ++ [e.2] := by simp
      rw [this]
      refine (List.perm_append_singleton ..).trans ?_
      have : (otherV d g.tx ++ e.2 :: otherV s g.tx ++ x.out) = otherV d g.tx ++ e.2 :: (otherV s g.tx ++ x.out) := by simp
      rw [this]
      exact List.perm_middle.symm
    · have a : ¬ e.1 ≠ g.tx := by simpa using a
      rw [otherV_app, otherV_cons, if_neg a, ← otherV_app] at hx
      exact hx

def vc53 : Prop := vc Try.f53.body Try.f53.results Try.f53.ntmps [(51, some sp51), (37, some sp37)] sp53 ann53
theorem vc53_is : vc53 = (
∀ (g : InArg), Holds (InR IntKind.i64 g.sign) → Holds (kI.slice.ok g.l) → Holds (InR IntKind.i64 g.net) → Holds (InR IntKind.i64 g.delta) → Holds (InR IntKind.i64 g.e.lo) → Holds (InR IntKind.i64 g.e.hi) → Holds (InR IntKind.i64 g.e.st) → Holds (MOk kI kI g.e.nets) → Holds (g.l.length ≤ (1000000 : Nat)) → (∃ (x : At), Holds (x.i ≤ g.l.length) ∧ (0 : Int) = (↑x.i : Int) ∧ [g.e.st] = g.e.st :: List.filter (fun (n : Int) ↦ decide (n > (0 : Int)) == decide (g.sign > (0 : Int))) (List.take x.i g.l)) ∧ ∀ (x : At), Holds (x.i ≤ g.l.length) → SplitB (decide ((↑x.i : Int) < (↑g.l.length : Int))) (Holds ((0 : Int) ≤ (↑x.i : Int)) ∧ Holds ((↑x.i : Int) < (↑g.l.length : Int)) ∧ Holds ((↑x.i : Int).toNat < g.l.length) ∧ SplitB (decide (g.l.getD (↑x.i : Int).toNat ((0 : Int)) > (0 : Int)) == decide (g.sign > (0 : Int))) (Holds (((g.e.st :: List.filter (fun (n : Int) ↦ decide (n > (0 : Int)) == decide (g.sign > (0 : Int))) (List.take x.i g.l)).length + [g.l.getD (↑x.i : Int).toNat ((0 : Int))].length) * (8 : Nat) ≤ (140737488355328 : Nat)) ∧ ∃ (y : At), Holds (y.i ≤ g.l.length) ∧ Holds (g.l.length - y.i < g.l.length - x.i) ∧ IntKind.i64.wrap ((↑x.i : Int) + (1 : Int)) = (↑y.i : Int) ∧ g.e.st :: List.filter (fun (n : Int) ↦ decide (n > (0 : Int)) == decide (g.sign > (0 : Int))) (List.take x.i g.l) ++ [g.l.getD (↑x.i : Int).toNat ((0 : Int))] = g.e.st :: List.filter (fun (n : Int) ↦ decide (n > (0 : Int)) == decide (g.sign > (0 : Int))) (List.take y.i g.l)) (∃ (y : At), Holds (y.i ≤ g.l.length) ∧ Holds (g.l.length - y.i < g.l.length - x.i) ∧ IntKind.i64.wrap ((↑x.i : Int) + (1 : Int)) = (↑y.i : Int) ∧ g.e.st :: List.filter (fun (n : Int) ↦ decide (n > (0 : Int)) == decide (g.sign > (0 : Int))) (List.take x.i g.l) = g.e.st :: List.filter (fun (n : Int) ↦ decide (n > (0 : Int)) == decide (g.sign > (0 : Int))) (List.take y.i g.l))) (SplitB g.c (Holds (((g.e.st :: List.filter (fun (n : Int) ↦ decide (n > (0 : Int)) == decide (g.sign > (0 : Int))) (List.take x.i g.l)).length + [g.net, g.delta].length) * (8 : Nat) ≤ (140737488355328 : Nat)) ∧ ∀ (r : Int × Int), Holds (r = ans (g.e.st :: List.filter (fun (n : Int) ↦ decide (n > (0 : Int)) == decide (g.sign > (0 : Int))) (List.take x.i g.l) ++ [g.net, g.delta]).sum) → SplitB (r.snd == (0 : Int)) (∃ (r_1 : Bool), Holds (r_1 = inF g.e g.sign g.l (if g.c = true then g.net + g.delta else (0 : Int))) ∧ hasB (g.e.lo, g.e.hi) r.fst = r_1) (∃ (r : Bool), Holds (r = inF g.e g.sign g.l (if g.c = true then g.net + g.delta else (0 : Int))) ∧ false = r)) (∀ (r : Int × Int), Holds (r = ans (g.e.st :: List.filter (fun (n : Int) ↦ decide (n > (0 : Int)) == decide (g.sign > (0 : Int))) (List.take x.i g.l)).sum) → SplitB (r.snd == (0 : Int)) (∃ (r_1 : Bool), Holds (r_1 = inF g.e g.sign g.l (if g.c = true then g.net + g.delta else (0 : Int))) ∧ hasB (g.e.lo, g.e.hi) r.fst = r_1) (∃ (r : Bool), Holds (r = inF g.e g.sign g.l (if g.c = true then g.net + g.delta else (0 : Int))) ∧ false = r)))) := by kernel_rfl
theorem filter_snoc {p : Int → Bool} {l : List Int} {i : Nat} (h : i < l.length) : (l.take (i + 1)).filter p = if p (l.getD i 0) then (l.take i).filter p ++ [l.getD i 0] else (l.take i).filter p := by
  rw [take_succ_get h 0, List.filter_append]
  cases hp : p (l.getD i 0) <;> simp only [List.filter_cons, hp, List.filter_nil] <;> simp
theorem ok53 : vc53 := by
  rw [vc53_is]
  intro g
  intro h1 h2 h3 h4 h5 h6 h7 h8 h9
  have f1 := h5.out
  have f2 := h6.out
  have hl := h9.out
  rw [inR64] at f1 f2
  simp only [splitB_iff, holds_iff, exists_eq_left, forall_eq, decide_eq_true_eq, decide_eq_false_iff_not, Int.toNat_natCast, beq_iff_eq, beq_eq_false_iff_ne]
  have fl : ∀ i, ((g.l.take i).filter fun n => decide (n > 0) == decide (g.sign > 0)).length ≤ 1000000 := fun i => by
    have := List.length_filter_le (fun n : Int => decide (n > 0) == decide (g.sign > 0)) (g.l.take i)
    rw [List.length_take] at this
    omega
  refine ⟨⟨⟨0⟩, Nat.zero_le _, rfl, by simp⟩, fun x hx => ⟨fun a => ⟨by omega, a, by omega, fun b => ⟨by have := fl x.i; simp only [List.length_cons, List.length_nil]; omega, ⟨x.i + 1⟩, by show _ + 1 ≤ _; omega, by show _ - (x.i + 1) < _; omega, wrap_succ (by omega), ?_⟩, fun b => ⟨⟨x.i + 1⟩, by show _ + 1 ≤ _; omega, by show _ - (x.i + 1) < _; omega, wrap_succ (by omega), ?_⟩⟩, fun a => ?_⟩⟩
  · show _ = g.e.st :: ((g.l.take (x.i + 1)).filter fun n => decide (n > 0) == decide (g.sign > 0))
    rw [filter_snoc (by omega), if_pos (by simpa using b)]; simp
  · show _ = g.e.st :: ((g.l.take (x.i + 1)).filter fun n => decide (n > 0) == decide (g.sign > 0))
    rw [filter_snoc (by omega), if_neg (by simpa using b)]
  · have : x.i = g.l.length := by omega
    rw [this, List.take_length]
    have key : ∀ t : Int, ((ans t).2 = 0 → hasB (g.e.lo, g.e.hi) (ans t).1 = hasB (g.e.lo, g.e.hi) t) ∧ (¬ (ans t).2 = 0 → false = hasB (g.e.lo, g.e.hi) t) := fun t => by
      by_cases hn : Num t
      · rw [ans_yes hn]; exact ⟨fun _ => rfl, fun h => absurd rfl h⟩
      · rw [ans_no hn]
        refine ⟨fun h => absurd h (by decide), fun _ => ?_⟩
        unfold hasB
        unfold Num at hn
        simp; omega
    have fl' := List.length_filter_le (fun n : Int => decide (n > 0) == decide (g.sign > 0)) g.l
    unfold inF
    refine ⟨fun b => ⟨by simp only [List.length_cons, List.length_nil]; omega, ?_⟩, fun b => ?_⟩
    · have e : (g.e.st :: (g.l.filter fun n => decide (n > 0) == decide (g.sign > 0)) ++ [g.net, g.delta]).sum = g.e.st + partS g.sign g.l + (if g.c = true then g.net + g.delta else 0) := by
        rw [if_pos b]; unfold partS; simp; omega
      rw [e]
      exact key _
    · have e : (g.e.st :: (g.l.filter fun n => decide (n > 0) == decide (g.sign > 0))).sum = g.e.st + partS g.sign g.l + (if g.c = true then g.net + g.delta else 0) := by
        rw [if_neg (by rw [b]; decide)]; unfold partS; simp
      rw [e]
      exact key _

def vc26 : Prop := vc Try.f26.body Try.f26.results Try.f26.ntmps [(52, some sp52), (50, some sp50), (53, some sp53)] sp26 (fun _ => noAnn)
theorem vc26_is : vc26 = (
∀ (g : MayArg), Holds (InR IntKind.i64 g.tx) → Holds (InR IntKind.i64 g.delta) → Holds (InR IntKind.i64 g.e.lo) → Holds (InR IntKind.i64 g.e.hi) → Holds (InR IntKind.i64 g.e.st) → Holds (MOk kI kI g.e.nets) → Holds (g.e.nets.length ≤ (1000000 : Nat)) → SplitB (decide (g.tx < (1 : Int))) (∃ (r : Int), Holds (r = mayF g.e g.tx g.delta) ∧ (130 : Int) = r) (SplitB (decide (g.tx > (2147483647 : Int))) (∃ (r : Int), Holds (r = mayF g.e g.tx g.delta) ∧ (130 : Int) = r) (∀ (r : Int × Int), Holds (r = ans ((mgetT kI kI g.e.nets g.tx).getD ((0 : Int)) + g.delta)) → SplitB (r.snd != (0 : Int)) (Holds (g.e.nets.length ≤ (1000000 : Nat)) ∧ ∀ (r_1 : List Int), Holds (r_1.Perm (otherV g.e.nets g.tx)) → Holds (r_1.length ≤ (1000000 : Nat)) ∧ ∀ (r_2 : Bool), Holds (r_2 = inF g.e (-1 : Int) r_1 (if (!decide (g.delta > (0 : Int))) = true then (mgetT kI kI g.e.nets g.tx).getD ((0 : Int)) + g.delta else (0 : Int))) → SplitB (!r_2) (∃ (r : Int), Holds (r = mayF g.e g.tx g.delta) ∧ (110 : Int) = r) (Holds (r_1.length ≤ (1000000 : Nat)) ∧ ∀ (r_3 : Bool), Holds (r_3 = inF g.e (1 : Int) r_1 (if decide (g.delta > (0 : Int)) = true then (mgetT kI kI g.e.nets g.tx).getD ((0 : Int)) + g.delta else (0 : Int))) → SplitB (!r_3) (∃ (r : Int), Holds (r = mayF g.e g.tx g.delta) ∧ (110 : Int) = r) (∃ (r_4 : Int), Holds (r_4 = mayF g.e g.tx g.delta) ∧ r.snd = r_4))) (Holds (g.e.nets.length ≤ (1000000 : Nat)) ∧ ∀ (r_1 : List Int), Holds (r_1.Perm (otherV g.e.nets g.tx)) → Holds (r_1.length ≤ (1000000 : Nat)) ∧ ∀ (r_2 : Bool), Holds (r_2 = inF g.e (-1 : Int) r_1 (if (!decide (r.fst > (0 : Int))) = true then (mgetT kI kI g.e.nets g.tx).getD ((0 : Int)) + g.delta else (0 : Int))) → SplitB (!r_2) (∃ (r : Int), Holds (r = mayF g.e g.tx g.delta) ∧ (110 : Int) = r) (Holds (r_1.length ≤ (1000000 : Nat)) ∧ ∀ (r_3 : Bool), Holds (r_3 = inF g.e (1 : Int) r_1 (if decide (r.fst > (0 : Int)) = true then (mgetT kI kI g.e.nets g.tx).getD ((0 : Int)) + g.delta else (0 : Int))) → SplitB (!r_3) (∃ (r : Int), Holds (r = mayF g.e g.tx g.delta) ∧ (110 : Int) = r) (∃ (r_4 : Int), Holds (r_4 = mayF g.e g.tx g.delta) ∧ r.snd = r_4)))))) := by kernel_rfl
theorem perm_sum {a b : List Int} (h : a.Perm b) : a.sum = b.sum := by
  induction h with
  | nil => rfl
  | cons x _ ih => simp [ih]
  | swap x y l => simp only [List.sum_cons]; omega
  | trans _ _ h1 h2 => exact h1.trans h2
theorem partS_perm {a b : List Int} (h : a.Perm b) (s : Int) : partS s a = partS s b := by unfold partS; exact perm_sum (h.filter _)
theorem inF_perm (e : Esc) (s d : Int) {a b : List Int} (h : a.Perm b) : inF e s a d = inF e s b d := by unfold inF; rw [partS_perm h]
theorem may_core {e : Esc} {tx d : Int} (h1 : ¬ (tx < 1 ∨ 2147483647 < tx)) (hl : e.nets.length ≤ 1000000) (B : Bool) (hB : B = upB (netOf e.nets tx) d) : ∀ l : List Int, Holds (l.Perm (otherV e.nets tx)) → Holds (l.length ≤ 1000000) ∧ ∀ r2 : Bool, Holds (r2 = inF e (-1) l (if (!B) = true then netOf e.nets tx + d else 0)) →
    SplitB (!r2) (∃ r : Int, Holds (r = mayF e tx d) ∧ 110 = r) (Holds (l.length ≤ 1000000) ∧ ∀ r3 : Bool, Holds (r3 = inF e 1 l (if B = true then netOf e.nets tx + d else 0)) → SplitB (!r3) (∃ r : Int, Holds (r = mayF e tx d) ∧ 110 = r) (∃ r : Int, Holds (r = mayF e tx d) ∧ (ans (netOf e.nets tx + d)).2 = r)) := by
  intro l hp
  have hp := hp.out
  have ln : l.length ≤ 1000000 := by rw [hp.length_eq]; have := otherV_len e.nets tx; omega
  refine ⟨⟨ln⟩, fun r2 h2 => ?_⟩
  have h2 := h2.out
  rw [inF_perm e _ _ hp] at h2
  have hm : mayF e tx d = if inF e (-1) (otherV e.nets tx) (if B then 0 else netOf e.nets tx + d) = false then 110
    else if inF e 1 (otherV e.nets tx) (if B then netOf e.nets tx + d else 0) = false then 110
    else (ans (netOf e.nets tx + d)).2 := by unfold mayF; rw [if_neg h1, ← hB]
  have e2 : r2 = inF e (-1) (otherV e.nets tx) (if B then 0 else netOf e.nets tx + d) := by rw [h2]; cases B <;> rfl
  refine ⟨fun a => ⟨_, ⟨rfl⟩, ?_⟩, fun a => ⟨⟨ln⟩, fun r3 h3 => ?_⟩⟩
  · have a : r2 = false := by simpa using a
    rw [hm, ← e2, if_pos a]
  have a : ¬ r2 = false := by simpa using a
  have h3 := h3.out
  rw [inF_perm e _ _ hp] at h3
  refine ⟨fun b => ⟨_, ⟨rfl⟩, ?_⟩, fun b => ⟨_, ⟨rfl⟩, ?_⟩⟩
  · have b : r3 = false := by simpa using b
    rw [hm, ← e2, if_neg a, ← h3, if_pos b]
  · have b : ¬ r3 = false := by simpa using b
    rw [hm, ← e2, if_neg a, ← h3, if_neg b]
theorem ok26 : vc26 := by
  rw [vc26_is]
  intro g
  intro h1 h2 h3 h4 h5 h6 h7
  have hl := h7.out
  have nt : (mgetT kI kI g.e.nets g.tx).getD (0 : Int) = netOf g.e.nets g.tx := rfl
  rw [nt]
  refine ⟨fun a => ⟨_, ⟨rfl⟩, ?_⟩, fun a => ⟨fun b => ⟨_, ⟨rfl⟩, ?_⟩, fun b r hr => ?_⟩⟩
  · have a : g.tx < 1 := by simpa using a
    unfold mayF; rw [if_pos (.inl a)]
  · have b : g.tx > 2147483647 := by simpa using b
    unfold mayF; rw [if_pos (.inr b)]
  · have h1 : ¬ (g.tx < 1 ∨ 2147483647 < g.tx) := by simp at a b; omega
    have hr := hr.out
    subst hr
    by_cases hn : Num (netOf g.e.nets g.tx + g.delta)
    · have hu : decide (netOf g.e.nets g.tx + g.delta > 0) = upB (netOf g.e.nets g.tx) g.delta := by unfold upB; rw [if_pos hn]
      refine ⟨fun h => ?_, fun h => ⟨⟨hl⟩, may_core h1 hl _ (by rw [ans_yes hn]; exact hu)⟩⟩
      rw [ans_yes hn] at h; simp at h
    · have hu : decide (g.delta > 0) = upB (netOf g.e.nets g.tx) g.delta := by unfold upB; rw [if_neg hn]
      refine ⟨fun h => ⟨⟨hl⟩, may_core h1 hl _ hu⟩, fun h => ?_⟩
      rw [ans_no hn] at h; simp at h

def vc32 : Prop := vc Try.f32.body Try.f32.results Try.f32.ntmps [(26, some sp26)] sp32 (fun _ => noAnn)
theorem vc32_is : vc32 = (
∀ (g : MayArg), Holds (InR IntKind.i64 g.tx) → Holds (InR IntKind.i64 g.delta) → Holds (InR IntKind.i64 g.e.lo) → Holds (InR IntKind.i64 g.e.hi) → Holds (InR IntKind.i64 g.e.st) → Holds (MOk kI kI g.e.nets) → Holds (g.e.nets.length ≤ (1000000 : Nat)) → Holds (g.e.nets.length ≤ (1000000 : Nat)) ∧ ∀ (r : Int), Holds (r = mayF g.e g.tx g.delta) → SplitB (r != (0 : Int)) (∃ (r_1 : AddOut), Holds (r_1 = addF g.e g.tx g.delta) ∧ r = r_1.e ∧ g.e.nets = r_1.nets) (Holds (g.e.nets.length < maxLen) ∧ ∃ (r : AddOut), Holds (r = addF g.e g.tx g.delta) ∧ (0 : Int) = r.e ∧ msetT kI kI g.e.nets g.tx (IntKind.i64.wrap ((mgetT kI kI g.e.nets g.tx).getD ((0 : Int)) + g.delta)) = r.nets)) := by kernel_rfl
theorem may_zero {e : Esc} {tx delta : Int} (h : mayF e tx delta = 0) : 1 ≤ tx ∧ tx ≤ 2147483647 ∧ inF e (-1) (otherV e.nets tx) (if upB (netOf e.nets tx) delta then 0 else netOf e.nets tx + delta) = true ∧ inF e 1 (otherV e.nets tx) (if upB (netOf e.nets tx) delta then netOf e.nets tx + delta else 0) = true ∧ Num (netOf e.nets tx + delta) := by
  unfold mayF at h
  by_cases h1 : tx < 1 ∨ 2147483647 < tx
  · rw [if_pos h1] at h; simp at h
  rw [if_neg h1] at h
  cases h2 : inF e (-1) (otherV e.nets tx) (if upB (netOf e.nets tx) delta then 0 else netOf e.nets tx + delta) with
  | false => rw [h2] at h; simp at h
  | true =>
    rw [h2, if_neg (by decide)] at h
    cases h3 : inF e 1 (otherV e.nets tx) (if upB (netOf e.nets tx) delta then netOf e.nets tx + delta else 0) with
    | false => rw [h3] at h; simp at h
    | true =>
      rw [h3, if_neg (by decide)] at h
      refine ⟨by omega, by omega, rfl, rfl, ?_⟩
      by_cases hn : Num (netOf e.nets tx + delta)
      · exact hn
      · rw [ans_no hn] at h; simp at h
theorem ok32 : vc32 := by
  rw [vc32_is]
  intro g
  intro h1 h2 h3 h4 h5 h6 h7
  have hl := h7.out
  have nt : (mgetT kI kI g.e.nets g.tx).getD (0 : Int) = netOf g.e.nets g.tx := rfl
  simp only [splitB_iff, holds_iff, exists_eq_left, forall_eq, bne_iff_ne, ne_eq, bne_eq_false_iff_eq]
  refine ⟨hl, fun a => ?_, fun a => ⟨by rw [maxLen_is]; omega, ?_⟩⟩
  · unfold addF; rw [if_pos a]; exact ⟨rfl, rfl⟩
  · unfold addF; rw [if_neg (by simpa using a)]
    obtain ⟨_, _, _, _, hn⟩ := may_zero a
    rw [nt, wrap64 hn.1 hn.2]; exact ⟨rfl, rfl⟩

def vc35 : Prop := vc Try.f35.body Try.f35.results Try.f35.ntmps [] sp35 (fun _ => noAnn)
theorem vc35_is : vc35 = (
∀ (g : TxArg), Holds (InR IntKind.i64 g.tx) → Holds (InR IntKind.i64 g.e.lo) → Holds (InR IntKind.i64 g.e.hi) → Holds (InR IntKind.i64 g.e.st) → Holds (MOk kI kI g.e.nets) → (mgetT kI kI g.e.nets g.tx).getD ((0 : Int)) = netOf g.e.nets g.tx ∧ (mgetT kI kI g.e.nets g.tx).isSome = (mgI g.e.nets g.tx).isSome) := by kernel_rfl
theorem ok35 : vc35 := by rw [vc35_is]; intro g; intros; exact ⟨rfl, rfl⟩

def vc30 : Prop := vc Try.f30.body Try.f30.results Try.f30.ntmps [] sp30 (fun _ => noAnn)
theorem vc30_is : vc30 = (
∀ (g : TxArg), Holds (InR IntKind.i64 g.tx) → Holds (InR IntKind.i64 g.e.lo) → Holds (InR IntKind.i64 g.e.hi) → Holds (InR IntKind.i64 g.e.st) → Holds (MOk kI kI g.e.nets) → SplitB (mgetT kI kI g.e.nets g.tx).isSome (∃ (r : SetOut), Holds (r = settleF g.e g.tx) ∧ (mgetT kI kI g.e.nets g.tx).isSome = r.b ∧ g.e.lo = g.e.lo ∧ g.e.hi = g.e.hi ∧ IntKind.i64.wrap (g.e.st + (mgetT kI kI g.e.nets g.tx).getD ((0 : Int))) = r.st ∧ mdelT kI kI g.e.nets g.tx = r.nets) (∃ (r : SetOut), Holds (r = settleF g.e g.tx) ∧ (mgetT kI kI g.e.nets g.tx).isSome = r.b ∧ g.e.lo = g.e.lo ∧ g.e.hi = g.e.hi ∧ g.e.st = r.st ∧ g.e.nets = r.nets)) := by kernel_rfl
theorem ok30 : vc30 := by
  rw [vc30_is]
  intro g; intros
  refine ⟨fun a => ⟨settleF g.e g.tx, ⟨rfl⟩, ?_⟩, fun a => ⟨settleF g.e g.tx, ⟨rfl⟩, ?_⟩⟩
  · have s : settleF g.e g.tx = ⟨true, IntKind.i64.wrap (g.e.st + netOf g.e.nets g.tx), mdI g.e.nets g.tx⟩ := by unfold settleF; rw [if_pos a]
    rw [s]
    refine ⟨?_, ?_, ?_, ?_, ?_⟩ <;> first | rfl | exact a
  · have s : settleF g.e g.tx = ⟨false, g.e.st, g.e.nets⟩ := by
      unfold settleF; rw [if_neg]
      show ¬ (mgetT kI kI g.e.nets g.tx).isSome = true
      rw [a]; decide
    rw [s]
    refine ⟨?_, ?_, ?_, ?_, ?_⟩ <;> first | rfl | exact a

def vc31 : Prop := vc Try.f31.body Try.f31.results Try.f31.ntmps [] sp31 (fun _ => noAnn)
theorem vc31_is : vc31 = (
∀ (g : TxArg), Holds (InR IntKind.i64 g.tx) → Holds (InR IntKind.i64 g.e.lo) → Holds (InR IntKind.i64 g.e.hi) → Holds (InR IntKind.i64 g.e.st) → Holds (MOk kI kI g.e.nets) → (mgetT kI kI g.e.nets g.tx).isSome = (mgI g.e.nets g.tx).isSome ∧ mdelT kI kI g.e.nets g.tx = mdI g.e.nets g.tx) := by kernel_rfl
theorem ok31 : vc31 := by rw [vc31_is]; intro g; intros; exact ⟨rfl, rfl⟩

def vc17 : Prop := vc Try.f17.body Try.f17.results Try.f17.ntmps [(50, some sp50), (49, some sp49)] sp17 (fun _ => noAnn)
theorem vc17_is : vc17 = (
∀ (g : EscArg), Holds (InR IntKind.i64 g.e.lo) → Holds (InR IntKind.i64 g.e.hi) → Holds (InR IntKind.i64 g.e.st) → Holds (MOk kI kI g.e.nets) → Holds (g.e.nets.length ≤ (1000000 : Nat)) → (Holds (g.e.nets.length ≤ (1000000 : Nat)) ∧ ∀ (r : List Int), Holds (r.Perm (otherV g.e.nets (0 : Int))) → (∀ (r_1 : Int × Int × Int), Holds (r_1 = worstF g.e.st r) → ∃ (r : Int × Int × Int), Holds (r = worstF g.e.st (valsOf g.e.nets)) ∧ r_1.fst = r.fst ∧ r_1.snd.fst = r.snd.fst) ∧ ∀ (r_1 : Int × Int × Int), Holds (r_1 = worstF g.e.st r) → ∃ (r : Int × Int × Int), Holds (r = worstF g.e.st (valsOf g.e.nets)) ∧ r_1.fst = r.fst ∧ r_1.snd.fst = r.snd.fst) ∧ Holds (g.e.nets.length ≤ (1000000 : Nat)) ∧ ∀ (r : List Int), Holds (r.Perm (otherV g.e.nets (0 : Int))) → ∀ (r_1 : Int × Int × Int), Holds (r_1 = worstF g.e.st r) → ∃ (r : Int × Int × Int), Holds (r = worstF g.e.st (valsOf g.e.nets)) ∧ r_1.fst = r.fst ∧ r_1.snd.fst = r.snd.fst) := by kernel_rfl
theorem lowS_perm {a b : List Int} (h : a.Perm b) : lowS a = lowS b := by unfold lowS; exact perm_sum (h.map _)
theorem highS_perm {a b : List Int} (h : a.Perm b) : highS a = highS b := by unfold highS; exact perm_sum (h.map _)
theorem worstF_perm (s : Int) {a b : List Int} (h : a.Perm b) : worstF s a = worstF s b := by unfold worstF; rw [lowS_perm h, highS_perm h]
theorem ok17 : vc17 := by
  rw [vc17_is]
  intro g
  intro h1 h2 h3 h4 h5
  have hl := h5.out
  have key : ∀ l : List Int, l.Perm (otherV g.e.nets 0) → ∀ (r_1 : Int × Int × Int), Holds (r_1 = worstF g.e.st l) → ∃ (r : Int × Int × Int), Holds (r = worstF g.e.st (valsOf g.e.nets)) ∧ r_1.1 = r.1 ∧ r_1.2.1 = r.2.1 := fun l hp r hr => ⟨r, ⟨by rw [hr.out]; exact worstF_perm _ hp⟩, rfl, rfl⟩
  exact ⟨⟨⟨hl⟩, fun l hp => ⟨key l hp.out, key l hp.out⟩⟩, ⟨hl⟩, fun l hp => key l hp.out⟩

def vc20 : Prop := vc Try.f20.body Try.f20.results Try.f20.ntmps [] sp20 (fun _ => noAnn)
theorem vc20_is : vc20 = (
∀ (g : EscArg), Holds (InR IntKind.i64 g.e.lo) → Holds (InR IntKind.i64 g.e.hi) → Holds (InR IntKind.i64 g.e.st) → Holds (MOk kI kI g.e.nets) → g.e.st = g.e.st) := by kernel_rfl
theorem ok20 : vc20 := by rw [vc20_is]; intro g; intros; rfl

def vc23 : Prop := vc Try.f23.body Try.f23.results Try.f23.ntmps [(50, some sp50), (51, some sp51)] sp23 (fun _ => noAnn)
theorem vc23_is : vc23 = (
∀ (g : EscArg), Holds (InR IntKind.i64 g.e.lo) → Holds (InR IntKind.i64 g.e.hi) → Holds (InR IntKind.i64 g.e.st) → Holds (MOk kI kI g.e.nets) → Holds (g.e.nets.length ≤ (1000000 : Nat)) → (Holds (g.e.nets.length ≤ (1000000 : Nat)) ∧ ∀ (r : List Int), Holds (r.Perm (otherV g.e.nets (0 : Int))) → Holds ((r.length + [g.e.st].length) * (8 : Nat) ≤ (140737488355328 : Nat)) ∧ ∀ (r_1 : Int × Int), Holds (r_1 = ans (r ++ [g.e.st]).sum) → ∃ (r : Int), Holds (r = (ans (g.e.st + (valsOf g.e.nets).sum)).fst) ∧ r_1.fst = r) ∧ Holds (g.e.nets.length ≤ (1000000 : Nat)) ∧ ∀ (r : List Int), Holds (r.Perm (otherV g.e.nets (0 : Int))) → Holds ((r.length + [g.e.st].length) * (8 : Nat) ≤ (140737488355328 : Nat)) ∧ ∀ (r_1 : Int × Int), Holds (r_1 = ans (r ++ [g.e.st]).sum) → ∃ (r : Int), Holds (r = (ans (g.e.st + (valsOf g.e.nets).sum)).fst) ∧ r_1.fst = r) := by kernel_rfl
theorem ok23 : vc23 := by
  rw [vc23_is]
  intro g
  intro h1 h2 h3 h4 h5
  have hl := h5.out
  have ln : ∀ l : List Int, l.Perm (otherV g.e.nets 0) → l.length ≤ 1000000 := fun l h => by rw [h.length_eq]; have := otherV_len g.e.nets 0; omega
  have e : ∀ l : List Int, l.Perm (otherV g.e.nets 0) → (l ++ [g.e.st]).sum = g.e.st + (valsOf g.e.nets).sum := fun l h => by
    have := perm_sum h
    unfold valsOf
    simp; omega
  simp only [holds_iff, exists_eq_left, forall_eq]
  have key : ∀ l : List Int, l.Perm (otherV g.e.nets 0) → (l.length + 1) * 8 ≤ 140737488355328 ∧ (ans (l ++ [g.e.st]).sum).1 = (ans (g.e.st + (valsOf g.e.nets).sum)).1 := fun l h => ⟨by have := ln l h; omega, by rw [e l h]⟩
  exact ⟨⟨hl, key⟩, hl, key⟩

def vc18 : Prop := vc Try.f18.body Try.f18.results Try.f18.ntmps [] sp18 (fun _ => noAnn)
theorem vc18_is : vc18 = (
∀ (g : EscArg), Holds (InR IntKind.i64 g.e.lo) → Holds (InR IntKind.i64 g.e.hi) → Holds (InR IntKind.i64 g.e.st) → Holds (MOk kI kI g.e.nets) → g.e.lo = g.e.lo ∧ g.e.hi = g.e.hi) := by kernel_rfl
theorem ok18 : vc18 := by rw [vc18_is]; intro g; intros; exact ⟨rfl, rfl⟩

def vc48 : Prop := vc Try.f48.body Try.f48.results Try.f48.ntmps [] sp48 (fun _ => noAnn)
theorem vc48_is : vc48 = (
∀ (g : List (Int × Int)), Holds (MOk kI kI g) → True) := by kernel_rfl
theorem ok48 : vc48 := by rw [vc48_is]; intro g; intros; trivial

def vc16 : Prop := vc Try.f16.body Try.f16.results Try.f16.ntmps [(48, some sp48), (47, some sp47)] sp16 (fun _ => noAnn)
theorem vc16_is : vc16 = (
∀ (g : EscArg), Holds (InR IntKind.i64 g.e.lo) → Holds (InR IntKind.i64 g.e.hi) → Holds (InR IntKind.i64 g.e.st) → Holds (MOk kI kI g.e.nets) → Holds (g.e.nets.length ≤ (1000000 : Nat)) → Holds (g.e.nets.length * (8 : Nat) ≤ (140737488355328 : Nat)) ∧ ∃ (r : List Int), Holds (r = rising (keysOf g.e.nets)) ∧ rising (keysOf g.e.nets) = r) := by kernel_rfl
theorem ok16 : vc16 := by
  rw [vc16_is]
  intro g
  intro h1 h2 h3 h4 h5
  have hl := h5.out
  refine ⟨⟨by show g.e.nets.length * 8 ≤ _; omega⟩, ?_⟩
  exact ⟨_, ⟨rfl⟩, rfl⟩

def vc29 : Prop := vc Try.f29.body Try.f29.results Try.f29.ntmps [(54, some sp54)] sp29 (fun _ => noAnn)
theorem vc29_is : vc29 = (
∀ (g : EscArg), Holds (InR IntKind.i64 g.e.lo) → Holds (InR IntKind.i64 g.e.hi) → Holds (InR IntKind.i64 g.e.st) → Holds (MOk kI kI g.e.nets) → g.e.lo = g.e.lo ∧ g.e.hi = g.e.hi ∧ g.e.st = g.e.st ∧ g.e.nets = g.e.nets) := by kernel_rfl
theorem ok29 : vc29 := by rw [vc29_is]; intro g; intros; exact ⟨rfl, rfl, rfl, rfl⟩

end Go.Proofs.Ytljimnhijpcjaaa.VC
