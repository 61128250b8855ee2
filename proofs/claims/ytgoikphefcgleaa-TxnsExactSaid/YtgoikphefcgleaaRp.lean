/- What is to be shown of functions, shown. Plain lemmas; no conditions but those that each names. -/
import Derived.Test.YtgoikphefcgleaaTp
import Derived.KernelRfl
set_option linter.unusedVariables false
set_option linter.unusedSimpArgs false
set_option linter.unusedSectionVars false
namespace Go.Proofs.Ytgoikphefcgleaa.VC
open Go
set_option maxRecDepth 100000

def vc23 : Prop := vc Try.f23.body Try.f23.results Try.f23.ntmps [] sp23 (fun _ => noAnn)
theorem vc23_is : vc23 = (
∀ (g : GetArg), Holds (InR IntKind.i64 g.tx) → Holds (InR IntKind.i64 g.t.next) → Holds (MOk kI kL g.t.live) → SplitB (!(mgetT kI kL g.t.live g.tx).isSome) (∃ (r : GetOut), Holds (r = g.t.get g.tx) ∧ (0 : Int) = r.x.fst ∧ (0 : Int) = r.x.snd.fst ∧ false = r.x.snd.snd.fst ∧ false = r.x.snd.snd.snd ∧ (130 : Int) = r.e) (∃ (r : GetOut), Holds (r = g.t.get g.tx) ∧ ((mgetT kI kL g.t.live g.tx).getD ((0 : Int), (0 : Int), false, false)).fst = r.x.fst ∧ ((mgetT kI kL g.t.live g.tx).getD ((0 : Int), (0 : Int), false, false)).snd.fst = r.x.snd.fst ∧ ((mgetT kI kL g.t.live g.tx).getD ((0 : Int), (0 : Int), false, false)).snd.snd.fst = r.x.snd.snd.fst ∧ ((mgetT kI kL g.t.live g.tx).getD ((0 : Int), (0 : Int), false, false)).snd.snd.snd = r.x.snd.snd.snd ∧ (0 : Int) = r.e)) := by kernel_rfl
theorem ok23 : vc23 := by
  rw [vc23_is]
  intro g h1 h2 h3
  simp only [splitB_iff, holds_iff, exists_eq_left]
  unfold Tab.get
  have hget : ∀ E c, mgetT kI kL E c = mgL E c := fun _ _ => rfl
  simp only [hget]
  rcases opt_or (mgL g.t.live g.tx) with h | ⟨x, h⟩
  · rw [h]; simp [noLv]
  · rw [h]; simp

def vc12 : Prop := vc Try.f12.body Try.f12.results Try.f12.ntmps [] sp12 (fun _ => noAnn)
theorem vc12_is : vc12 = (
∀ (g : Num), Holds (InR IntKind.i64 g.k) → g.k = g.k) := by kernel_rfl
theorem ok12 : vc12 := by rw [vc12_is]; intro g h; rfl

def vc22 : Prop := vc Try.f22.body Try.f22.results Try.f22.ntmps [] sp22 ann22
theorem vc22_is : vc22 = (
∀ (g : TwoL), Holds (kL.slice.ok g.a) → Holds (kL.slice.ok g.b) → SplitB ((↑g.a.length : Int) != (↑g.b.length : Int)) (false = decide (g.a = g.b)) ((∃ (x : At), Holds (x.i ≤ g.a.length ∧ g.a.length = g.b.length ∧ List.take x.i g.a = List.take x.i g.b) ∧ (0 : Int) = (↑x.i : Int)) ∧ ∀ (x : At), Holds (x.i ≤ g.a.length ∧ g.a.length = g.b.length ∧ List.take x.i g.a = List.take x.i g.b) → SplitB (decide ((↑x.i : Int) < (↑g.a.length : Int))) (Holds ((0 : Int) ≤ (↑x.i : Int)) ∧ Holds ((↑x.i : Int) < (↑g.a.length : Int)) ∧ Holds ((↑x.i : Int).toNat < g.a.length) ∧ Holds ((0 : Int) ≤ (↑x.i : Int)) ∧ Holds ((↑x.i : Int) < (↑g.b.length : Int)) ∧ Holds ((↑x.i : Int).toNat < g.b.length) ∧ SplitB (!((g.a.getD (↑x.i : Int).toNat ((0 : Int), (0 : Int), false, false)).fst == (g.b.getD (↑x.i : Int).toNat ((0 : Int), (0 : Int), false, false)).fst && ((g.a.getD (↑x.i : Int).toNat ((0 : Int), (0 : Int), false, false)).snd.fst == (g.b.getD (↑x.i : Int).toNat ((0 : Int), (0 : Int), false, false)).snd.fst && ((g.a.getD (↑x.i : Int).toNat ((0 : Int), (0 : Int), false, false)).snd.snd.fst == (g.b.getD (↑x.i : Int).toNat ((0 : Int), (0 : Int), false, false)).snd.snd.fst && (g.a.getD (↑x.i : Int).toNat ((0 : Int), (0 : Int), false, false)).snd.snd.snd == (g.b.getD (↑x.i : Int).toNat ((0 : Int), (0 : Int), false, false)).snd.snd.snd)))) (false = decide (g.a = g.b)) (∃ (y : At), Holds (y.i ≤ g.a.length ∧ g.a.length = g.b.length ∧ List.take y.i g.a = List.take y.i g.b) ∧ Holds (g.a.length - y.i < g.a.length - x.i) ∧ IntKind.i64.wrap ((↑x.i : Int) + (1 : Int)) = (↑y.i : Int))) (true = decide (g.a = g.b)))) := by kernel_rfl
theorem beq_lv2 {a b : Int × Int × Bool × Bool} : (a.1 == b.1 && (a.2.1 == b.2.1 && (a.2.2.1 == b.2.2.1 && a.2.2.2 == b.2.2.2))) = decide (a = b) := by
  have := @beq_lv a b
  by_cases h : a = b
  · subst h; simp
  · have h2 := this.2 h
    simp only [h, decide_false]
    cases hh : (a.1 == b.1 && (a.2.1 == b.2.1 && (a.2.2.1 == b.2.2.1 && a.2.2.2 == b.2.2.2))) with
    | true => rw [hh] at h2; simp at h2
    | false => rfl
theorem ok22 : vc22 := by
  rw [vc22_is]
  intro g h1 h2
  have l1 := max63 h1.out.1
  simp only [splitB_iff, holds_iff, decide_eq_true_eq, decide_eq_false_iff_not, Int.toNat_natCast, beq_lv2, Bool.not_eq_true', decide_eq_false_iff_not, bne_iff_ne, ne_eq, bne_eq_false_iff_eq, Bool.not_eq_false', decide_eq_true_eq]
  refine ⟨fun hn => ?_, fun hn => ⟨⟨⟨0⟩, ⟨Nat.zero_le _, by omega, rfl⟩, rfl⟩, fun x hx => ⟨fun h => ?_, fun h => ?_⟩⟩⟩
  · have : g.a ≠ g.b := fun e => by rw [e] at hn; exact hn rfl
    simp [this]
  · obtain ⟨x1, x2, x3⟩ := hx
    have hi : x.i < g.a.length := by omega
    have hj : x.i < g.b.length := by omega
    refine ⟨by omega, h, hi, by omega, by omega, hj, fun hd => ?_, fun hd => ⟨⟨x.i + 1⟩, ⟨hi, x2, take_next hi hj x3 hd⟩, by show _ - (x.i + 1) < _; omega, wrap_succ (by omega)⟩⟩
    have : g.a ≠ g.b := ne_get hd
    simp [this]
  · obtain ⟨x1, x2, x3⟩ := hx
    have := take_all x2 (by omega) x3
    simp [this]

def vc56 : Prop := vc Try.f56.body Try.f56.results Try.f56.ntmps [] sp56 (fun _ => noAnn)
theorem vc56_is : vc56 = (
∀ (g : InArg), Holds (InR IntKind.i64 g.n) → Holds (InR IntKind.i64 g.lo) → Holds (InR IntKind.i64 g.hi) → SplitB (decide (g.n ≥ g.lo)) (decide (g.n ≤ g.hi) = within g.n g.lo g.hi) (false = within g.n g.lo g.hi)) := by kernel_rfl
theorem ok56 : vc56 := by
  rw [vc56_is]
  intro g h1 h2 h3
  simp only [splitB_iff, within, decide_eq_true_eq, decide_eq_false_iff_not]
  exact ⟨fun h => by simp [h], fun h => by simp; omega⟩

def vc51 : Prop := vc Try.f51.body Try.f51.results Try.f51.ntmps [(56, some sp56)] sp51 ann51
theorem vc51_is : vc51 = (
∀ (g : L5Arg), Holds (kL.slice.ok g.l) → Holds (InR IntKind.i64 g.next) → Holds (g.next ≤ (2147483648 : Int)) → SplitB (decide ((↑g.l.length : Int) > (32 : Int))) ((∃ (r : Unit), Holds (live5 g.l g.next) ∧ False) ∨ ∃ (r : Unit), Holds ¬live5 g.l g.next ∧ True) ((∃ (x : At), Holds (x.i ≤ g.l.length ∧ goodL g.next (0 : Int) (List.take x.i g.l)) ∧ (0 : Int) = (↑x.i : Int)) ∧ ∀ (x : At), Holds (x.i ≤ g.l.length ∧ goodL g.next (0 : Int) (List.take x.i g.l)) → SplitB (decide ((↑x.i : Int) < (↑g.l.length : Int))) (Holds ((0 : Int) ≤ (↑x.i : Int)) ∧ Holds ((↑x.i : Int) < (↑g.l.length : Int)) ∧ Holds ((↑x.i : Int).toNat < g.l.length) ∧ SplitB (!within (g.l.getD (↑x.i : Int).toNat ((0 : Int), (0 : Int), false, false)).fst (1 : Int) (2147483647 : Int)) ((∃ (r : Unit), Holds (live5 g.l g.next) ∧ False) ∨ ∃ (r : Unit), Holds ¬live5 g.l g.next ∧ True) (SplitB (decide ((g.l.getD (↑x.i : Int).toNat ((0 : Int), (0 : Int), false, false)).fst ≥ g.next)) ((∃ (r : Unit), Holds (live5 g.l g.next) ∧ False) ∨ ∃ (r : Unit), Holds ¬live5 g.l g.next ∧ True) (SplitB (decide ((↑x.i : Int) > (0 : Int))) (Holds ((0 : Int) ≤ IntKind.i64.wrap ((↑x.i : Int) - (1 : Int))) ∧ Holds (IntKind.i64.wrap ((↑x.i : Int) - (1 : Int)) < (↑g.l.length : Int)) ∧ Holds ((IntKind.i64.wrap ((↑x.i : Int) - (1 : Int))).toNat < g.l.length) ∧ SplitB (decide ((g.l.getD (↑x.i : Int).toNat ((0 : Int), (0 : Int), false, false)).fst ≤ (g.l.getD (IntKind.i64.wrap ((↑x.i : Int) - (1 : Int))).toNat ((0 : Int), (0 : Int), false, false)).fst)) ((∃ (r : Unit), Holds (live5 g.l g.next) ∧ False) ∨ ∃ (r : Unit), Holds ¬live5 g.l g.next ∧ True) (SplitB (!within (g.l.getD (↑x.i : Int).toNat ((0 : Int), (0 : Int), false, false)).snd.fst (1 : Int) (2147483647 : Int)) ((∃ (r : Unit), Holds (live5 g.l g.next) ∧ False) ∨ ∃ (r : Unit), Holds ¬live5 g.l g.next ∧ True) (SplitB (g.l.getD (↑x.i : Int).toNat ((0 : Int), (0 : Int), false, false)).snd.snd.fst (SplitB (g.l.getD (↑x.i : Int).toNat ((0 : Int), (0 : Int), false, false)).snd.snd.snd ((∃ (r : Unit), Holds (live5 g.l g.next) ∧ False) ∨ ∃ (r : Unit), Holds ¬live5 g.l g.next ∧ True) (∃ (y : At), Holds (y.i ≤ g.l.length ∧ goodL g.next (0 : Int) (List.take y.i g.l)) ∧ Holds (g.l.length - y.i < g.l.length - x.i) ∧ IntKind.i64.wrap ((↑x.i : Int) + (1 : Int)) = (↑y.i : Int))) (∃ (y : At), Holds (y.i ≤ g.l.length ∧ goodL g.next (0 : Int) (List.take y.i g.l)) ∧ Holds (g.l.length - y.i < g.l.length - x.i) ∧ IntKind.i64.wrap ((↑x.i : Int) + (1 : Int)) = (↑y.i : Int))))) (SplitB (!within (g.l.getD (↑x.i : Int).toNat ((0 : Int), (0 : Int), false, false)).snd.fst (1 : Int) (2147483647 : Int)) ((∃ (r : Unit), Holds (live5 g.l g.next) ∧ False) ∨ ∃ (r : Unit), Holds ¬live5 g.l g.next ∧ True) (SplitB (g.l.getD (↑x.i : Int).toNat ((0 : Int), (0 : Int), false, false)).snd.snd.fst (SplitB (g.l.getD (↑x.i : Int).toNat ((0 : Int), (0 : Int), false, false)).snd.snd.snd ((∃ (r : Unit), Holds (live5 g.l g.next) ∧ False) ∨ ∃ (r : Unit), Holds ¬live5 g.l g.next ∧ True) (∃ (y : At), Holds (y.i ≤ g.l.length ∧ goodL g.next (0 : Int) (List.take y.i g.l)) ∧ Holds (g.l.length - y.i < g.l.length - x.i) ∧ IntKind.i64.wrap ((↑x.i : Int) + (1 : Int)) = (↑y.i : Int))) (∃ (y : At), Holds (y.i ≤ g.l.length ∧ goodL g.next (0 : Int) (List.take y.i g.l)) ∧ Holds (g.l.length - y.i < g.l.length - x.i) ∧ IntKind.i64.wrap ((↑x.i : Int) + (1 : Int)) = (↑y.i : Int))))))) ((∃ (r : Unit), Holds (live5 g.l g.next) ∧ True) ∨ ∃ (r : Unit), Holds ¬live5 g.l g.next ∧ False))) := by kernel_rfl
theorem last_take {l : List Lv} {i : Nat} (hi : i ≤ l.length) (h0 : 0 < i) (d : Lv) : lastF 0 (l.take i) = (l.getD (i - 1) d).1 := by
  have e : i = (i - 1) + 1 := by omega
  have h : i - 1 < l.length := by omega
  rw [e, List.take_succ_eq_append_getElem h, lastF_snoc]
  simp [List.getD, h]
theorem ok51 : vc51 := by
  rw [vc51_is]
  intro g h1 h2 h3
  have h3 := h3.out
  have hL := max63 h1.out.1
  simp only [splitB_iff, holds_iff, decide_eq_true_eq, decide_eq_false_iff_not, Int.toNat_natCast, and_true, and_false, exists_false, false_or, or_false, exists_const, Bool.not_eq_true', Bool.not_eq_false']
  refine ⟨fun a => fun h => by have := h.1; omega, fun a => ⟨⟨⟨0⟩, ⟨Nat.zero_le _, trivial⟩, rfl⟩, fun x hx => ⟨fun b => ?_, fun b => ?_⟩⟩⟩
  · obtain ⟨x1, x2⟩ := hx
    have hi : x.i < g.l.length := by omega
    obtain ⟨v, hv⟩ : ∃ v, g.l[x.i]? = some v := ⟨_, List.getElem?_eq_getElem hi⟩
    have hd : g.l.getD x.i (0, 0, false, false) = v := by simp [List.getD, hv]
    have hv' := (List.getElem?_eq_some_iff.1 hv).2
    rw [hd]
    have bad : (¬ (lastF 0 (g.l.take x.i) < v.1 ∧ v.1 < g.next ∧ 1 ≤ v.2.1 ∧ v.2.1 ≤ top ∧ ¬ (v.2.2.1 = true ∧ v.2.2.2 = true))) → ¬ live5 g.l g.next := fun hb hk => hb (goodL_at hk.2 hv).2
    have go : lastF 0 (g.l.take x.i) < v.1 → v.1 < g.next → 1 ≤ v.2.1 ∧ v.2.1 ≤ top → ¬ (v.2.2.1 = true ∧ v.2.2.2 = true) → ∃ y : At, (y.i ≤ g.l.length ∧ goodL g.next 0 (g.l.take y.i)) ∧ g.l.length - y.i < g.l.length - x.i ∧ IntKind.i64.wrap ((x.i : Int) + 1) = (y.i : Int) := fun c1 c2 c3 c4 => ⟨⟨x.i + 1⟩, ⟨hi, by
      show goodL g.next 0 (g.l.take (x.i + 1))
      rw [List.take_succ_eq_append_getElem hi, hv', goodL_snoc]
      exact ⟨x2, c1, c2, c3.1, c3.2, c4⟩⟩, by show _ - (x.i + 1) < _; omega, wrap_succ (by omega)⟩
    have w1 : within v.1 1 2147483647 = false → ¬ (lastF 0 (g.l.take x.i) < v.1 ∧ v.1 < g.next) := fun h => by
      have h0 : 0 ≤ lastF 0 (g.l.take x.i) := by
        by_cases h0 : 0 < x.i
        · have hm : (g.l.take x.i) ≠ [] := fun e => by have := congrArg List.length e; rw [List.length_take, List.length_nil] at this; omega
          obtain ⟨y, ys, hy⟩ := List.exists_cons_of_ne_nil hm
          have := goodL_keys x2 y (by rw [hy]; simp)
          omega
        · have : x.i = 0 := by omega
          rw [this]; simp [lastF]
      simp [within] at h; omega
    have tl : lastF 0 (g.l.take x.i) < v.1 → v.1 < g.next → (within v.2.1 1 2147483647 = false → ¬ live5 g.l g.next) ∧ (within v.2.1 1 2147483647 = true → (v.2.2.1 = true → (v.2.2.2 = true → ¬ live5 g.l g.next) ∧ (v.2.2.2 = false → ∃ y : At, (y.i ≤ g.l.length ∧ goodL g.next 0 (g.l.take y.i)) ∧ g.l.length - y.i < g.l.length - x.i ∧ IntKind.i64.wrap ((x.i : Int) + 1) = (y.i : Int))) ∧ (v.2.2.1 = false → ∃ y : At, (y.i ≤ g.l.length ∧ goodL g.next 0 (g.l.take y.i)) ∧ g.l.length - y.i < g.l.length - x.i ∧ IntKind.i64.wrap ((x.i : Int) + 1) = (y.i : Int))) := fun c1 c2 =>
      ⟨fun h => bad (by simp [within, top] at h ⊢; omega), fun h => by
        have c3 : 1 ≤ v.2.1 ∧ v.2.1 ≤ top := by simpa [within, top] using h
        exact ⟨fun h1 => ⟨fun h2 => bad (by simp [h1, h2]), fun h2 => go c1 c2 c3 (by simp [h2])⟩, fun h1 => go c1 c2 c3 (by simp [h1])⟩⟩
    refine ⟨by omega, b, hi, fun c => bad fun h => w1 c ⟨h.1, h.2.1⟩, fun c => ⟨fun d => bad fun h => by omega, fun d => ⟨fun e => ?_, fun e => ?_⟩⟩⟩
    · have e1 : IntKind.i64.wrap ((x.i : Int) - 1) = ((x.i - 1 : Nat) : Int) := by rw [wrap64 (by omega) (by omega)]; omega
      rw [e1]
      simp only [Int.toNat_natCast]
      have hl := last_take (l := g.l) (i := x.i) (by omega) (by omega) (0, 0, false, false)
      rw [← hl]
      exact ⟨by omega, by omega, by omega, fun f => bad fun h => absurd h.1 (Int.not_lt.2 f), fun f => tl (Int.not_le.1 f) (by omega)⟩
    · have h0 : x.i = 0 := by omega
      refine tl ?_ (by omega)
      rw [h0]; simp [lastF]
      simp [within] at c; omega
  · have hi : x.i = g.l.length := by omega
    have h4 := hx.2
    rw [hi, List.take_length] at h4
    exact ⟨by omega, h4⟩

def vc8 : Prop := vc Try.f8.body Try.f8.results Try.f8.ntmps [] sp8 ann8
theorem vc8_is : vc8 = (
∀ (g : Num), Holds (InR IntKind.i64 g.k) → SplitB (decide (g.k < (1 : Int))) ((∃ (r : Unit), Holds (within g.k (1 : Int) (2147483648 : Int) = false) ∧ (4 : Int) = (4 : Int)) ∨ ∃ (r : Unit), Holds (within g.k (1 : Int) (2147483648 : Int) = true) ∧ False) (SplitB (decide (g.k > (2147483648 : Int))) ((∃ (r : Unit), Holds (within g.k (1 : Int) (2147483648 : Int) = false) ∧ (4 : Int) = (4 : Int)) ∨ ∃ (r : Unit), Holds (within g.k (1 : Int) (2147483648 : Int) = true) ∧ False) ((∃ (r : Unit), Holds (within g.k (1 : Int) (2147483648 : Int) = false) ∧ False) ∨ ∃ (r : Unit), Holds (within g.k (1 : Int) (2147483648 : Int) = true) ∧ (0 : Int) = (0 : Int) ∧ g.k = g.k ∧ nilT (Int × Int × Bool × Bool) = []))) := by kernel_rfl
theorem ok8 : vc8 := by
  rw [vc8_is]
  intro g h
  simp only [holds_iff, splitB_iff, decide_eq_true_eq, decide_eq_false_iff_not]
  have e : within g.k 1 2147483648 = (decide (1 ≤ g.k) && decide (g.k ≤ 2147483648)) := rfl
  rw [e]
  refine ⟨fun h1 => .inl ⟨(), by simp; omega, by simp⟩, fun h1 => ⟨fun h2 => .inl ⟨(), by simp; omega, by simp⟩, fun h2 => .inr ⟨(), by simp; omega, by simp⟩⟩⟩

def vc35 : Prop := vc Try.f35.body Try.f35.results Try.f35.ntmps [(51, some sp51)] sp35 (fun _ => noAnn)
theorem vc35_is : vc35 = (
∀ (g : LoadArg), Holds (kL.slice.ok g.p.fst) → Holds (kD.slice.ok g.p.snd.fst) → Holds (InR IntKind.i64 g.p.snd.snd) → SplitB (decide (g.p.snd.snd < (1 : Int))) ((∃ (r : Unit), Holds ¬LoadOk g.p ∧ (23 : Int) = (23 : Int)) ∨ ∃ (r : Unit), Holds (LoadOk g.p) ∧ False) (SplitB (decide (g.p.snd.snd > (2147483648 : Int))) ((∃ (r : Unit), Holds ¬LoadOk g.p ∧ (23 : Int) = (23 : Int)) ∨ ∃ (r : Unit), Holds (LoadOk g.p) ∧ False) (Holds (g.p.snd.snd ≤ (2147483648 : Int)) ∧ (∀ (r : Unit), Holds (live5 g.p.fst g.p.snd.snd) → Holds (g.p.fst.length * (24 : Nat) ≤ (140737488355328 : Nat)) ∧ ((∃ (r : Unit), Holds ¬LoadOk g.p ∧ False) ∨ ∃ (r : Unit), Holds (LoadOk g.p) ∧ (0 : Int) = (0 : Int) ∧ g.p.snd.snd = g.p.snd.snd ∧ g.p.fst = g.p.fst)) ∧ ∀ (r : Unit), Holds ¬live5 g.p.fst g.p.snd.snd → (∃ (r : Unit), Holds ¬LoadOk g.p ∧ (23 : Int) = (23 : Int)) ∨ ∃ (r : Unit), Holds (LoadOk g.p) ∧ False))) := by kernel_rfl
theorem ok35 : vc35 := by
  rw [vc35_is]
  intro g h1 h2 h3
  have hw : within g.p.2.2 1 2147483648 = (decide (1 ≤ g.p.2.2) && decide (g.p.2.2 ≤ 2147483648)) := rfl
  simp only [holds_iff, splitB_iff, decide_eq_true_eq, decide_eq_false_iff_not]
  refine ⟨fun a => .inl ⟨(), fun k => ?_, trivial⟩, fun a => ⟨fun b => .inl ⟨(), fun k => ?_, trivial⟩, fun b => ⟨by omega, fun _ k => ⟨?_, .inr ⟨(), ⟨?_, k.1, k.2⟩, by simp⟩⟩, fun _ k => .inl ⟨(), fun j => k ⟨j.2.1, j.2.2⟩, trivial⟩⟩⟩⟩
  · have := k.1; rw [hw] at this; simp at this; omega
  · have := k.1; rw [hw] at this; simp at this; omega
  · have := k.1; omega
  · rw [hw]; simp; omega

def vc38 : Prop := vc Try.f38.body Try.f38.results Try.f38.ntmps [] sp38 (fun _ => noAnn)
theorem vc38_is : vc38 = (
∀ (g : RefOnly), Holds (InR IntKind.i64 g.t.next) → Holds (kL.slice.ok g.t.L) → g.t.next = g.t.next) := by kernel_rfl
theorem ok38 : vc38 := by rw [vc38_is]; intro g h1 h2; rfl

def vc37 : Prop := vc Try.f37.body Try.f37.results Try.f37.ntmps [] sp37 (fun _ => noAnn)
theorem vc37_is : vc37 = (
∀ (g : RefOnly), Holds (InR IntKind.i64 g.t.next) → Holds (kL.slice.ok g.t.L) → Holds (g.t.L.length ≤ (32 : Nat)) → Holds (g.t.L.length * (24 : Nat) ≤ (140737488355328 : Nat)) ∧ g.t.L = g.t.L) := by kernel_rfl
theorem ok37 : vc37 := by
  rw [vc37_is]
  intro g h1 h2 h3
  simp only [holds_iff] at *
  exact ⟨by omega, trivial⟩

def vc40 : Prop := vc Try.f40.body Try.f40.results Try.f40.ntmps [] sp40 ann40
theorem vc40_is : vc40 = (
∀ (g : RefInt), Holds (InR IntKind.i64 g.k) → Holds (InR IntKind.i64 g.t.next) → Holds (kL.slice.ok g.t.L) → (∃ (x : At), Holds (x.i ≤ g.t.L.length ∧ ∀ (p : Int × Int × Bool × Bool), p ∈ List.take x.i g.t.L → p.fst ≠ g.k) ∧ (0 : Int) = (↑x.i : Int)) ∧ ∀ (x : At), Holds (x.i ≤ g.t.L.length ∧ ∀ (p : Int × Int × Bool × Bool), p ∈ List.take x.i g.t.L → p.fst ≠ g.k) → SplitB (decide ((↑x.i : Int) < (↑g.t.L.length : Int))) (Holds ((0 : Int) ≤ (↑x.i : Int)) ∧ Holds ((↑x.i : Int) < (↑g.t.L.length : Int)) ∧ Holds ((↑x.i : Int).toNat < g.t.L.length) ∧ SplitB ((g.t.L.getD (↑x.i : Int).toNat ((0 : Int), (0 : Int), false, false)).fst == g.k) (∃ (r : Int), Holds (r = g.t.place g.k) ∧ (↑x.i : Int) = r) (∃ (y : At), Holds (y.i ≤ g.t.L.length ∧ ∀ (p : Int × Int × Bool × Bool), p ∈ List.take y.i g.t.L → p.fst ≠ g.k) ∧ Holds (g.t.L.length - y.i < g.t.L.length - x.i) ∧ IntKind.i64.wrap ((↑x.i : Int) + (1 : Int)) = (↑y.i : Int))) (∃ (r : Int), Holds (r = g.t.place g.k) ∧ (-1 : Int) = r)) := by kernel_rfl
theorem ok40 : vc40 := by
  rw [vc40_is]
  intro g h1 h2 h3
  have hl := max63 h3.out.1
  simp only [splitB_iff, holds_iff, exists_eq_left, decide_eq_true_eq, decide_eq_false_iff_not, Int.toNat_natCast, beq_iff_eq, beq_eq_false_iff_ne]
  refine ⟨⟨⟨0⟩, ⟨Nat.zero_le _, by simp⟩, rfl⟩, fun x hx => ⟨fun a => ?_, fun a => ?_⟩⟩
  · have hi : x.i < g.t.L.length := by omega
    have e : g.t.L.getD x.i (0, 0, false, false) = g.t.L[x.i] := by simp [List.getD, hi]
    rw [e]
    refine ⟨by omega, a, hi, fun b => ?_, fun b => ⟨⟨x.i + 1⟩, ⟨hi, fun p hp => ?_⟩, by show _ - (x.i + 1) < _; omega, wrap_succ (by omega)⟩⟩
    · have := idx_some (l := g.t.L.map (·.1)) (k := g.k) (i := x.i) (by simpa using hi) (by simpa using b) (fun p hp => by
        rw [← List.map_take] at hp
        obtain ⟨q, hq, rfl⟩ := List.mem_map.1 hp
        exact hx.2 q hq)
      exact this.symm
    · rw [List.take_succ_eq_append_getElem hi] at hp
      rcases List.mem_append.1 hp with hp | hp
      · exact hx.2 p hp
      · obtain rfl : p = g.t.L[x.i] := by simpa using hp
        exact b
  · have hi : x.i = g.t.L.length := by omega
    have h5 := hx.2
    rw [hi, List.take_length] at h5
    exact (idx_none (l := g.t.L.map (·.1)) (k := g.k) (fun p hp => by
      obtain ⟨q, hq, rfl⟩ := List.mem_map.1 hp
      exact h5 q hq)).symm

def vc28 : Prop := vc Try.f28.body Try.f28.results Try.f28.ntmps [(40, some sp40)] sp28 (fun _ => noAnn)
theorem vc28_is : vc28 = (
∀ (g : RefInt), Holds (InR IntKind.i64 g.k) → Holds (InR IntKind.i64 g.t.next) → Holds (kL.slice.ok g.t.L) → ∀ (r : Int), Holds (r = g.t.place g.k) → SplitB (decide (r < (0 : Int))) (∃ (r : GetOut), Holds (r = g.t.get g.k) ∧ (0 : Int) = r.x.fst ∧ (0 : Int) = r.x.snd.fst ∧ false = r.x.snd.snd.fst ∧ false = r.x.snd.snd.snd ∧ (130 : Int) = r.e) (Holds ((0 : Int) ≤ r) ∧ Holds (r < (↑g.t.L.length : Int)) ∧ Holds (r.toNat < g.t.L.length) ∧ ∃ (r_1 : GetOut), Holds (r_1 = g.t.get g.k) ∧ (g.t.L.getD r.toNat ((0 : Int), (0 : Int), false, false)).fst = r_1.x.fst ∧ (g.t.L.getD r.toNat ((0 : Int), (0 : Int), false, false)).snd.fst = r_1.x.snd.fst ∧ (g.t.L.getD r.toNat ((0 : Int), (0 : Int), false, false)).snd.snd.fst = r_1.x.snd.snd.fst ∧ (g.t.L.getD r.toNat ((0 : Int), (0 : Int), false, false)).snd.snd.snd = r_1.x.snd.snd.snd ∧ (0 : Int) = r_1.e)) := by kernel_rfl
theorem ok28 : vc28 := by
  rw [vc28_is]
  intro g h1 h2 h3
  have hp := idx_lt (g.t.L.map (·.1)) g.k
  rw [List.length_map] at hp
  have hp : -1 ≤ g.t.place g.k ∧ g.t.place g.k < g.t.L.length := hp
  simp only [splitB_iff, holds_iff, exists_eq_left, forall_eq, decide_eq_true_eq, decide_eq_false_iff_not]
  unfold RefT.get
  exact ⟨fun a => by rw [if_pos a]; simp [noLv], fun a => by rw [if_neg a]; exact ⟨by omega, by omega, by omega, rfl, rfl, rfl, rfl, rfl⟩⟩

def vc27 : Prop := vc Try.f27.body Try.f27.results Try.f27.ntmps [] sp27 ann27
theorem vc27_is : vc27 = (
∀ (g : RefInt), Holds (InR IntKind.i64 g.k) → Holds (InR IntKind.i64 g.t.next) → Holds (kL.slice.ok g.t.L) → Holds g.t.ok → SplitB (decide (g.k < (1 : Int))) (∃ (r : RBeginOut), Holds (r = g.t.begin g.k) ∧ (0 : Int) = r.n ∧ (4 : Int) = r.e ∧ g.t.next = r.t.next ∧ g.t.L = r.t.L) (SplitB (decide (g.k > (2147483647 : Int))) (∃ (r : RBeginOut), Holds (r = g.t.begin g.k) ∧ (0 : Int) = r.n ∧ (4 : Int) = r.e ∧ g.t.next = r.t.next ∧ g.t.L = r.t.L) (SplitB (decide ((↑g.t.L.length : Int) ≥ (32 : Int))) (∃ (r : RBeginOut), Holds (r = g.t.begin g.k) ∧ (0 : Int) = r.n ∧ (131 : Int) = r.e ∧ g.t.next = r.t.next ∧ g.t.L = r.t.L) (SplitB (decide (g.t.next > (2147483647 : Int))) (∃ (r : RBeginOut), Holds (r = g.t.begin g.k) ∧ (0 : Int) = r.n ∧ (131 : Int) = r.e ∧ g.t.next = r.t.next ∧ g.t.L = r.t.L) ((Holds ((g.t.L.length + [(g.t.next, g.k, false, false)].length) * (24 : Nat) ≤ (140737488355328 : Nat)) ∧ ∃ (r : RBeginOut), Holds (r = g.t.begin g.k) ∧ IntKind.i64.wrap (IntKind.i64.wrap (g.t.next + (1 : Int)) - (1 : Int)) = r.n ∧ (0 : Int) = r.e ∧ IntKind.i64.wrap (g.t.next + (1 : Int)) = r.t.next ∧ g.t.L ++ [(g.t.next, g.k, false, false)] = r.t.L) ∧ (Holds ((g.t.L.length + [(g.t.next, g.k, false, false)].length) * (24 : Nat) ≤ (140737488355328 : Nat)) ∧ ∃ (r : RBeginOut), Holds (r = g.t.begin g.k) ∧ IntKind.i64.wrap (IntKind.i64.wrap (g.t.next + (1 : Int)) - (1 : Int)) = r.n ∧ (0 : Int) = r.e ∧ IntKind.i64.wrap (g.t.next + (1 : Int)) = r.t.next ∧ g.t.L ++ [(g.t.next, g.k, false, false)] = r.t.L) ∧ Holds ((g.t.L.length + [(g.t.next, g.k, false, false)].length) * (24 : Nat) ≤ (140737488355328 : Nat)) ∧ ∃ (r : RBeginOut), Holds (r = g.t.begin g.k) ∧ IntKind.i64.wrap (IntKind.i64.wrap (g.t.next + (1 : Int)) - (1 : Int)) = r.n ∧ (0 : Int) = r.e ∧ IntKind.i64.wrap (g.t.next + (1 : Int)) = r.t.next ∧ g.t.L ++ [(g.t.next, g.k, false, false)] = r.t.L))))) := by kernel_rfl
theorem ok27 : vc27 := by
  rw [vc27_is]
  intro g h1 h2 h3 h4
  simp only [splitB_iff, holds_iff, exists_eq_left, inR64, decide_eq_true_eq, decide_eq_false_iff_not] at *
  obtain ⟨k1, k2, k3⟩ := h4
  have e : within g.k 1 top = (decide (1 ≤ g.k) && decide (g.k ≤ 2147483647)) := rfl
  have k3 : g.t.next ≤ 2147483648 := k3
  unfold RefT.begin
  rw [e]
  refine ⟨fun a => ?_, fun a => ⟨fun b => ?_, fun b => ⟨fun c => ?_, fun c => ⟨fun d => ?_, fun d => ?_⟩⟩⟩⟩
  · rw [if_pos (by simp; omega)]; simp
  · rw [if_pos (by simp; omega)]; simp
  · rw [if_neg (by simp; omega), if_pos (.inl (by omega))]; simp
  · rw [if_neg (by simp; omega), if_pos (.inr (by simp [top]; omega))]; simp
  · rw [if_neg (by simp; omega), if_neg (by simp [top]; omega), wrap64 (n := g.t.next + 1) (by omega) (by omega), wrap64 (by omega) (by omega)]
    have fin : (g.t.L.length + [((g.t.next, g.k, false, false) : Lv)].length) * 24 ≤ 140737488355328 ∧ g.t.next + 1 - 1 = g.t.next ∧ (0 : Int) = 0 ∧ g.t.next + 1 = g.t.next + 1 ∧ g.t.L ++ [((g.t.next, g.k, false, false) : Lv)] = g.t.L ++ [(g.t.next, g.k, false, false)] := ⟨by simp only [List.length_cons, List.length_nil]; omega, by omega, rfl, rfl, rfl⟩
    exact ⟨fin, fin, fin⟩

def vc52 : Prop := vc Try.f52.body Try.f52.results Try.f52.ntmps [(40, some sp40)] sp52 ann52
theorem vc52_is : vc52 = (
∀ (g : RefRec), Holds (InR IntKind.i64 g.r.fst) → Holds (InR IntKind.i64 g.r.snd.fst) → Holds (InR IntKind.i64 g.r.snd.snd.fst) → Holds (InR IntKind.i64 g.r.snd.snd.snd.fst) → Holds (InR IntKind.i64 g.r.snd.snd.snd.snd.fst.fst) → Holds (InR IntKind.i64 g.r.snd.snd.snd.snd.fst.snd) → Holds (InR IntKind.i64 g.r.snd.snd.snd.snd.snd.fst.fst) → Holds (InR IntKind.i64 g.r.snd.snd.snd.snd.snd.fst.snd) → Holds (InR IntKind.i64 g.r.snd.snd.snd.snd.snd.snd.fst) → Holds (InR IntKind.i64 g.r.snd.snd.snd.snd.snd.snd.snd.fst.fst) → Holds (InR IntKind.i64 g.r.snd.snd.snd.snd.snd.snd.snd.fst.snd.fst) → Holds (InR IntKind.i64 g.r.snd.snd.snd.snd.snd.snd.snd.fst.snd.snd.fst.fst) → Holds (InR IntKind.i64 g.r.snd.snd.snd.snd.snd.snd.snd.fst.snd.snd.fst.snd) → Holds (InR IntKind.i64 g.r.snd.snd.snd.snd.snd.snd.snd.fst.snd.snd.snd) → Holds (kL.slice.ok g.r.snd.snd.snd.snd.snd.snd.snd.snd.fst) → Holds (kD.slice.ok g.r.snd.snd.snd.snd.snd.snd.snd.snd.snd.fst) → Holds (InR IntKind.i64 g.r.snd.snd.snd.snd.snd.snd.snd.snd.snd.snd) → Holds (InR IntKind.i64 g.t.next) → Holds (kL.slice.ok g.t.L) → Holds g.t.ok → Holds ((3 : Int) ≤ g.r.snd.fst) → Holds (g.r.snd.fst ≤ (7 : Int)) → ∀ (r : Int), Holds (r = g.t.place g.r.snd.snd.fst) → SplitB (decide (r < (0 : Int))) (∃ (r : RNoteOut), Holds (r = g.t.goes g.r.fst g.r.snd.fst g.r.snd.snd.fst g.r.snd.snd.snd.fst) ∧ (130 : Int) = r.e ∧ g.t.next = r.t.next ∧ g.t.L = r.t.L) (Holds ((0 : Int) ≤ r) ∧ Holds (r < (↑g.t.L.length : Int)) ∧ Holds (r.toNat < g.t.L.length) ∧ SplitB (g.r.snd.snd.snd.fst != (g.t.L.getD r.toNat ((0 : Int), (0 : Int), false, false)).snd.fst) (∃ (r : RNoteOut), Holds (r = g.t.goes g.r.fst g.r.snd.fst g.r.snd.snd.fst g.r.snd.snd.snd.fst) ∧ (4 : Int) = r.e ∧ g.t.next = r.t.next ∧ g.t.L = r.t.L) (SplitB (decide (g.r.fst ≤ (g.t.L.getD r.toNat ((0 : Int), (0 : Int), false, false)).snd.fst)) (∃ (r : RNoteOut), Holds (r = g.t.goes g.r.fst g.r.snd.fst g.r.snd.snd.fst g.r.snd.snd.snd.fst) ∧ (4 : Int) = r.e ∧ g.t.next = r.t.next ∧ g.t.L = r.t.L) (SplitB (!(g.t.L.getD r.toNat ((0 : Int), (0 : Int), false, false)).snd.snd.fst) (∃ (x : BAt), Holds (x.b = isOpen (g.t.L.getD (g.t.place g.r.snd.snd.fst).toNat noLv)) ∧ (!(g.t.L.getD r.toNat ((0 : Int), (0 : Int), false, false)).snd.snd.snd) = x.b) (∃ (x : BAt), Holds (x.b = isOpen (g.t.L.getD (g.t.place g.r.snd.snd.fst).toNat noLv)) ∧ false = x.b) ∧ ∀ (x : BAt), Holds (x.b = isOpen (g.t.L.getD (g.t.place g.r.snd.snd.fst).toNat noLv)) → SplitB (g.r.snd.fst == (3 : Int)) (SplitB (!x.b) (∃ (x : BAt), Holds (x.b = !may g.r.snd.fst (g.t.L.getD (g.t.place g.r.snd.snd.fst).toNat noLv)) ∧ true = x.b) (SplitB (g.r.snd.fst == (4 : Int)) (SplitB (!(g.t.L.getD r.toNat ((0 : Int), (0 : Int), false, false)).snd.snd.snd) (∃ (x : BAt), Holds (x.b = !may g.r.snd.fst (g.t.L.getD (g.t.place g.r.snd.snd.fst).toNat noLv)) ∧ true = x.b) (SplitB (g.r.snd.fst == (7 : Int)) (∃ (x_1 : BAt), Holds (x_1.b = !may g.r.snd.fst (g.t.L.getD (g.t.place g.r.snd.snd.fst).toNat noLv)) ∧ x.b = x_1.b) (∃ (x : BAt), Holds (x.b = !may g.r.snd.fst (g.t.L.getD (g.t.place g.r.snd.snd.fst).toNat noLv)) ∧ false = x.b))) (SplitB (g.r.snd.fst == (7 : Int)) (∃ (x_1 : BAt), Holds (x_1.b = !may g.r.snd.fst (g.t.L.getD (g.t.place g.r.snd.snd.fst).toNat noLv)) ∧ x.b = x_1.b) (∃ (x : BAt), Holds (x.b = !may g.r.snd.fst (g.t.L.getD (g.t.place g.r.snd.snd.fst).toNat noLv)) ∧ false = x.b)))) (SplitB (g.r.snd.fst == (5 : Int)) (SplitB (!x.b) (∃ (x : BAt), Holds (x.b = !may g.r.snd.fst (g.t.L.getD (g.t.place g.r.snd.snd.fst).toNat noLv)) ∧ true = x.b) (SplitB (g.r.snd.fst == (4 : Int)) (SplitB (!(g.t.L.getD r.toNat ((0 : Int), (0 : Int), false, false)).snd.snd.snd) (∃ (x : BAt), Holds (x.b = !may g.r.snd.fst (g.t.L.getD (g.t.place g.r.snd.snd.fst).toNat noLv)) ∧ true = x.b) (SplitB (g.r.snd.fst == (7 : Int)) (∃ (x_1 : BAt), Holds (x_1.b = !may g.r.snd.fst (g.t.L.getD (g.t.place g.r.snd.snd.fst).toNat noLv)) ∧ x.b = x_1.b) (∃ (x : BAt), Holds (x.b = !may g.r.snd.fst (g.t.L.getD (g.t.place g.r.snd.snd.fst).toNat noLv)) ∧ false = x.b))) (SplitB (g.r.snd.fst == (7 : Int)) (∃ (x_1 : BAt), Holds (x_1.b = !may g.r.snd.fst (g.t.L.getD (g.t.place g.r.snd.snd.fst).toNat noLv)) ∧ x.b = x_1.b) (∃ (x : BAt), Holds (x.b = !may g.r.snd.fst (g.t.L.getD (g.t.place g.r.snd.snd.fst).toNat noLv)) ∧ false = x.b)))) (SplitB (g.r.snd.fst == (6 : Int)) (SplitB (!x.b) (∃ (x : BAt), Holds (x.b = !may g.r.snd.fst (g.t.L.getD (g.t.place g.r.snd.snd.fst).toNat noLv)) ∧ true = x.b) (SplitB (g.r.snd.fst == (4 : Int)) (SplitB (!(g.t.L.getD r.toNat ((0 : Int), (0 : Int), false, false)).snd.snd.snd) (∃ (x : BAt), Holds (x.b = !may g.r.snd.fst (g.t.L.getD (g.t.place g.r.snd.snd.fst).toNat noLv)) ∧ true = x.b) (SplitB (g.r.snd.fst == (7 : Int)) (∃ (x_1 : BAt), Holds (x_1.b = !may g.r.snd.fst (g.t.L.getD (g.t.place g.r.snd.snd.fst).toNat noLv)) ∧ x.b = x_1.b) (∃ (x : BAt), Holds (x.b = !may g.r.snd.fst (g.t.L.getD (g.t.place g.r.snd.snd.fst).toNat noLv)) ∧ false = x.b))) (SplitB (g.r.snd.fst == (7 : Int)) (∃ (x_1 : BAt), Holds (x_1.b = !may g.r.snd.fst (g.t.L.getD (g.t.place g.r.snd.snd.fst).toNat noLv)) ∧ x.b = x_1.b) (∃ (x : BAt), Holds (x.b = !may g.r.snd.fst (g.t.L.getD (g.t.place g.r.snd.snd.fst).toNat noLv)) ∧ false = x.b)))) (SplitB (g.r.snd.fst == (4 : Int)) (SplitB (!(g.t.L.getD r.toNat ((0 : Int), (0 : Int), false, false)).snd.snd.snd) (∃ (x : BAt), Holds (x.b = !may g.r.snd.fst (g.t.L.getD (g.t.place g.r.snd.snd.fst).toNat noLv)) ∧ true = x.b) (SplitB (g.r.snd.fst == (7 : Int)) (∃ (x_1 : BAt), Holds (x_1.b = !may g.r.snd.fst (g.t.L.getD (g.t.place g.r.snd.snd.fst).toNat noLv)) ∧ x.b = x_1.b) (∃ (x : BAt), Holds (x.b = !may g.r.snd.fst (g.t.L.getD (g.t.place g.r.snd.snd.fst).toNat noLv)) ∧ false = x.b))) (SplitB (g.r.snd.fst == (7 : Int)) (∃ (x_1 : BAt), Holds (x_1.b = !may g.r.snd.fst (g.t.L.getD (g.t.place g.r.snd.snd.fst).toNat noLv)) ∧ x.b = x_1.b) (∃ (x : BAt), Holds (x.b = !may g.r.snd.fst (g.t.L.getD (g.t.place g.r.snd.snd.fst).toNat noLv)) ∧ false = x.b))))) ∧ ∀ (x : BAt), Holds (x.b = !may g.r.snd.fst (g.t.L.getD (g.t.place g.r.snd.snd.fst).toNat noLv)) → SplitB x.b (∃ (r : RNoteOut), Holds (r = g.t.goes g.r.fst g.r.snd.fst g.r.snd.snd.fst g.r.snd.snd.snd.fst) ∧ (70 : Int) = r.e ∧ g.t.next = r.t.next ∧ g.t.L = r.t.L) (Holds ((0 : Int) ≤ r) ∧ Holds (r ≤ (↑g.t.L.length : Int)) ∧ Holds ((List.take r.toNat g.t.L).length * (24 : Nat) ≤ (140737488355328 : Nat)) ∧ SplitB (g.r.snd.fst != (7 : Int)) (SplitB (g.t.L.getD r.toNat ((0 : Int), (0 : Int), false, false)).snd.snd.fst (SplitB (g.t.L.getD r.toNat ((0 : Int), (0 : Int), false, false)).snd.snd.snd (Holds (((List.take r.toNat g.t.L).length + [((g.t.L.getD r.toNat ((0 : Int), (0 : Int), false, false)).fst, g.r.fst, true, true)].length) * (24 : Nat) ≤ (140737488355328 : Nat)) ∧ ∃ (x : GoAt), Holds (x.xs = List.take (g.t.place g.r.snd.snd.fst).toNat g.t.L ++ if g.r.snd.fst = (7 : Int) then [] else [upto (thn g.r.snd.fst (g.t.L.getD (g.t.place g.r.snd.snd.fst).toNat noLv)) g.r.fst]) ∧ List.take r.toNat g.t.L ++ [((g.t.L.getD r.toNat ((0 : Int), (0 : Int), false, false)).fst, g.r.fst, true, true)] = x.xs) (Holds (((List.take r.toNat g.t.L).length + [((g.t.L.getD r.toNat ((0 : Int), (0 : Int), false, false)).fst, g.r.fst, true, g.r.snd.fst == (6 : Int))].length) * (24 : Nat) ≤ (140737488355328 : Nat)) ∧ ∃ (x : GoAt), Holds (x.xs = List.take (g.t.place g.r.snd.snd.fst).toNat g.t.L ++ if g.r.snd.fst = (7 : Int) then [] else [upto (thn g.r.snd.fst (g.t.L.getD (g.t.place g.r.snd.snd.fst).toNat noLv)) g.r.fst]) ∧ List.take r.toNat g.t.L ++ [((g.t.L.getD r.toNat ((0 : Int), (0 : Int), false, false)).fst, g.r.fst, true, g.r.snd.fst == (6 : Int))] = x.xs)) (SplitB (g.t.L.getD r.toNat ((0 : Int), (0 : Int), false, false)).snd.snd.snd (Holds (((List.take r.toNat g.t.L).length + [((g.t.L.getD r.toNat ((0 : Int), (0 : Int), false, false)).fst, g.r.fst, g.r.snd.fst == (5 : Int), true)].length) * (24 : Nat) ≤ (140737488355328 : Nat)) ∧ ∃ (x : GoAt), Holds (x.xs = List.take (g.t.place g.r.snd.snd.fst).toNat g.t.L ++ if g.r.snd.fst = (7 : Int) then [] else [upto (thn g.r.snd.fst (g.t.L.getD (g.t.place g.r.snd.snd.fst).toNat noLv)) g.r.fst]) ∧ List.take r.toNat g.t.L ++ [((g.t.L.getD r.toNat ((0 : Int), (0 : Int), false, false)).fst, g.r.fst, g.r.snd.fst == (5 : Int), true)] = x.xs) (Holds (((List.take r.toNat g.t.L).length + [((g.t.L.getD r.toNat ((0 : Int), (0 : Int), false, false)).fst, g.r.fst, g.r.snd.fst == (5 : Int), g.r.snd.fst == (6 : Int))].length) * (24 : Nat) ≤ (140737488355328 : Nat)) ∧ ∃ (x : GoAt), Holds (x.xs = List.take (g.t.place g.r.snd.snd.fst).toNat g.t.L ++ if g.r.snd.fst = (7 : Int) then [] else [upto (thn g.r.snd.fst (g.t.L.getD (g.t.place g.r.snd.snd.fst).toNat noLv)) g.r.fst]) ∧ List.take r.toNat g.t.L ++ [((g.t.L.getD r.toNat ((0 : Int), (0 : Int), false, false)).fst, g.r.fst, g.r.snd.fst == (5 : Int), g.r.snd.fst == (6 : Int))] = x.xs))) (∃ (x : GoAt), Holds (x.xs = List.take (g.t.place g.r.snd.snd.fst).toNat g.t.L ++ if g.r.snd.fst = (7 : Int) then [] else [upto (thn g.r.snd.fst (g.t.L.getD (g.t.place g.r.snd.snd.fst).toNat noLv)) g.r.fst]) ∧ List.take r.toNat g.t.L = x.xs) ∧ ∀ (x : GoAt), Holds (x.xs = List.take (g.t.place g.r.snd.snd.fst).toNat g.t.L ++ if g.r.snd.fst = (7 : Int) then [] else [upto (thn g.r.snd.fst (g.t.L.getD (g.t.place g.r.snd.snd.fst).toNat noLv)) g.r.fst]) → Holds ((0 : Int) ≤ IntKind.i64.wrap (r + (1 : Int))) ∧ Holds (IntKind.i64.wrap (r + (1 : Int)) ≤ (↑g.t.L.length : Int)) ∧ Holds ((x.xs.length + (List.take (g.t.L.length - (IntKind.i64.wrap (r + (1 : Int))).toNat) (List.drop (IntKind.i64.wrap (r + (1 : Int))).toNat g.t.L)).length) * (24 : Nat) ≤ (140737488355328 : Nat)) ∧ ∃ (r_1 : RNoteOut), Holds (r_1 = g.t.goes g.r.fst g.r.snd.fst g.r.snd.snd.fst g.r.snd.snd.snd.fst) ∧ (0 : Int) = r_1.e ∧ g.t.next = r_1.t.next ∧ x.xs ++ List.take (g.t.L.length - (IntKind.i64.wrap (r + (1 : Int))).toNat) (List.drop (IntKind.i64.wrap (r + (1 : Int))).toNat g.t.L) = r_1.t.L))))) := by kernel_rfl
theorem bat {v w : Bool} : (∃ x : BAt, x.b = v ∧ w = x.b) ↔ w = v := ⟨fun ⟨x, h1, h2⟩ => by rw [h2, h1], fun h => ⟨⟨v⟩, rfl, h⟩⟩
theorem goat {v w : List Lv} : (∃ x : GoAt, x.xs = v ∧ w = x.xs) ↔ w = v := ⟨fun ⟨x, h1, h2⟩ => by rw [h2, h1], fun h => ⟨⟨v⟩, rfl, h⟩⟩
theorem may_kinds {k : Int} {x : Lv} (h1 : 3 ≤ k) (h2 : k ≤ 7) : k = 3 ∨ k = 4 ∨ k = 5 ∨ k = 6 ∨ k = 7 := by omega
theorem ok52 : vc52 := by
  rw [vc52_is]
  intro g _ _ _ _ _ _ _ _ _ _ _ _ _ _ _ _ _ hn hL h1 h2 h3
  obtain ⟨k1, k2, k3⟩ := h1.out
  have h2 := h2.out
  have h3 := h3.out
  have hp := idx_lt (g.t.L.map (·.1)) g.r.2.2.1
  rw [List.length_map] at hp
  have hp : -1 ≤ g.t.place g.r.2.2.1 ∧ g.t.place g.r.2.2.1 < g.t.L.length := hp
  have nl : ∀ i, g.t.L.getD i noLv = g.t.L.getD i (0, 0, false, false) := fun _ => rfl
  generalize g.r.1 = lsn at *
  generalize g.r.2.1 = kind at *
  generalize g.r.2.2.1 = tx at *
  generalize g.r.2.2.2.1 = prev at *
  have hgoes : g.t.goes lsn kind tx prev = if g.t.place tx < 0 then ⟨130, g.t⟩
    else if prev ≠ (g.t.L.getD (g.t.place tx).toNat noLv).2.1 ∨ lsn ≤ (g.t.L.getD (g.t.place tx).toNat noLv).2.1 then ⟨4, g.t⟩
    else if may kind (g.t.L.getD (g.t.place tx).toNat noLv) = false then ⟨70, g.t⟩
    else ⟨0, ⟨g.t.next, g.t.L.take (g.t.place tx).toNat ++ (if kind = 7 then [] else [upto (thn kind (g.t.L.getD (g.t.place tx).toNat noLv)) lsn]) ++ g.t.L.drop ((g.t.place tx).toNat + 1)⟩⟩ := rfl
  simp only [splitB_iff, holds_iff, forall_eq, exists_eq_left, decide_eq_true_eq, decide_eq_false_iff_not, nl] at hgoes ⊢
  rw [hgoes]
  refine ⟨fun a => by rw [if_pos a]; simp, fun a => ?_⟩
  rw [if_neg a]
  refine ⟨by omega, by omega, by omega, fun b => ?_, fun b => ⟨fun c => ?_, fun c => ?_⟩⟩
  · rw [if_pos (.inl (by simpa using b))]; simp
  · rw [if_pos (.inr c)]; simp
  · have b : prev = (g.t.L.getD (g.t.place tx).toNat (0, 0, false, false)).2.1 := by simpa using b
    rw [if_neg (by simp only [not_or]; exact ⟨fun h => h b, c⟩)]
    generalize hx : g.t.L.getD (g.t.place tx).toNat (0, 0, false, false) = x
    have hT : (g.t.L.take (g.t.place tx).toNat).length ≤ 32 := by rw [List.length_take]; omega
    have w1 : IntKind.i64.wrap (g.t.place tx + 1) = g.t.place tx + 1 := wrap64 (by omega) (by omega)
    have w2 : (g.t.place tx + 1).toNat = (g.t.place tx).toNat + 1 := by omega
    have dr : List.take (g.t.L.length - ((g.t.place tx).toNat + 1)) (List.drop ((g.t.place tx).toNat + 1) g.t.L) = List.drop ((g.t.place tx).toNat + 1) g.t.L := List.take_of_length_le (by rw [List.length_drop]; omega)
    have hD : (g.t.L.drop ((g.t.place tx).toNat + 1)).length ≤ 32 := by rw [List.length_drop]; omega
    simp only [w1, w2, dr, bat, goat]
    generalize g.t.L.take (g.t.place tx).toNat = A at *
    generalize g.t.L.drop ((g.t.place tx).toNat + 1) = D at *
    obtain ⟨xa, xl, xc, xu⟩ := x
    refine ⟨by cases xc <;> cases xu <;> simp [isOpen], fun y hy => ⟨?_, fun z hz => ⟨fun d => ?_, fun d => ⟨by omega, by omega, by omega, ?_, fun w hw => ?_⟩⟩⟩⟩
    · rw [hy]
      rcases may_kinds (x := noLv) h2 h3 with rfl | rfl | rfl | rfl | rfl <;> cases xc <;> cases xu <;> simp [may, isOpen]
    · have : may kind (xa, xl, xc, xu) = false := by rw [hz] at d; simpa using d
      rw [if_pos this]; simp
    · rcases may_kinds (x := noLv) h2 h3 with rfl | rfl | rfl | rfl | rfl <;> cases xc <;> cases xu <;> simp [upto, thn] <;> omega
    · have hm : ¬ may kind (xa, xl, xc, xu) = false := by rw [hz] at d; simpa using d
      have hwl : w.xs.length ≤ 33 := by rw [hw]; split <;> simp <;> omega
      rw [if_neg hm, hw]
      refine ⟨by omega, by omega, ?_, rfl, rfl, rfl⟩
      rw [← hw]; omega

def vc41 : Prop := vc Try.f41.body Try.f41.results Try.f41.ntmps [(27, some sp27), (52, some sp52)] sp41 (fun _ => noAnn)
theorem vc41_is : vc41 = (
∀ (g : RefRec), Holds (InR IntKind.i64 g.r.fst) → Holds (InR IntKind.i64 g.r.snd.fst) → Holds (InR IntKind.i64 g.r.snd.snd.fst) → Holds (InR IntKind.i64 g.r.snd.snd.snd.fst) → Holds (InR IntKind.i64 g.r.snd.snd.snd.snd.fst.fst) → Holds (InR IntKind.i64 g.r.snd.snd.snd.snd.fst.snd) → Holds (InR IntKind.i64 g.r.snd.snd.snd.snd.snd.fst.fst) → Holds (InR IntKind.i64 g.r.snd.snd.snd.snd.snd.fst.snd) → Holds (InR IntKind.i64 g.r.snd.snd.snd.snd.snd.snd.fst) → Holds (InR IntKind.i64 g.r.snd.snd.snd.snd.snd.snd.snd.fst.fst) → Holds (InR IntKind.i64 g.r.snd.snd.snd.snd.snd.snd.snd.fst.snd.fst) → Holds (InR IntKind.i64 g.r.snd.snd.snd.snd.snd.snd.snd.fst.snd.snd.fst.fst) → Holds (InR IntKind.i64 g.r.snd.snd.snd.snd.snd.snd.snd.fst.snd.snd.fst.snd) → Holds (InR IntKind.i64 g.r.snd.snd.snd.snd.snd.snd.snd.fst.snd.snd.snd) → Holds (kL.slice.ok g.r.snd.snd.snd.snd.snd.snd.snd.snd.fst) → Holds (kD.slice.ok g.r.snd.snd.snd.snd.snd.snd.snd.snd.snd.fst) → Holds (InR IntKind.i64 g.r.snd.snd.snd.snd.snd.snd.snd.snd.snd.snd) → Holds (InR IntKind.i64 g.t.next) → Holds (kL.slice.ok g.t.L) → Holds g.t.ok → SplitB (decide (g.r.fst < (1 : Int))) (∃ (r : RNoteOut), Holds (r = g.t.note g.r.fst g.r.snd.fst g.r.snd.snd.fst g.r.snd.snd.snd.fst) ∧ (4 : Int) = r.e ∧ g.t.next = r.t.next ∧ g.t.L = r.t.L) (SplitB (decide (g.r.fst > (2147483647 : Int))) (∃ (r : RNoteOut), Holds (r = g.t.note g.r.fst g.r.snd.fst g.r.snd.snd.fst g.r.snd.snd.snd.fst) ∧ (4 : Int) = r.e ∧ g.t.next = r.t.next ∧ g.t.L = r.t.L) (SplitB (g.r.snd.fst == (2 : Int)) (∃ (r : RNoteOut), Holds (r = g.t.note g.r.fst g.r.snd.fst g.r.snd.snd.fst g.r.snd.snd.snd.fst) ∧ (0 : Int) = r.e ∧ g.t.next = r.t.next ∧ g.t.L = r.t.L) (SplitB (g.r.snd.fst == (8 : Int)) (∃ (r : RNoteOut), Holds (r = g.t.note g.r.fst g.r.snd.fst g.r.snd.snd.fst g.r.snd.snd.snd.fst) ∧ (0 : Int) = r.e ∧ g.t.next = r.t.next ∧ g.t.L = r.t.L) (SplitB (g.r.snd.fst == (1 : Int)) (SplitB (g.r.snd.snd.fst != g.t.next) (∃ (r : RNoteOut), Holds (r = g.t.note g.r.fst g.r.snd.fst g.r.snd.snd.fst g.r.snd.snd.snd.fst) ∧ (130 : Int) = r.e ∧ g.t.next = r.t.next ∧ g.t.L = r.t.L) (Holds g.t.ok ∧ ∀ (r : RBeginOut), Holds (r = g.t.begin g.r.fst) → ∃ (r_1 : RNoteOut), Holds (r_1 = g.t.note g.r.fst g.r.snd.fst g.r.snd.snd.fst g.r.snd.snd.snd.fst) ∧ r.e = r_1.e ∧ r.t.next = r_1.t.next ∧ r.t.L = r_1.t.L)) (SplitB (g.r.snd.fst == (3 : Int)) (Holds g.t.ok ∧ Holds ((3 : Int) ≤ g.r.snd.fst) ∧ Holds (g.r.snd.fst ≤ (7 : Int)) ∧ ∀ (r : RNoteOut), Holds (r = g.t.goes g.r.fst g.r.snd.fst g.r.snd.snd.fst g.r.snd.snd.snd.fst) → ∃ (r_1 : RNoteOut), Holds (r_1 = g.t.note g.r.fst g.r.snd.fst g.r.snd.snd.fst g.r.snd.snd.snd.fst) ∧ r.e = r_1.e ∧ r.t.next = r_1.t.next ∧ r.t.L = r_1.t.L) (SplitB (g.r.snd.fst == (4 : Int)) (Holds g.t.ok ∧ Holds ((3 : Int) ≤ g.r.snd.fst) ∧ Holds (g.r.snd.fst ≤ (7 : Int)) ∧ ∀ (r : RNoteOut), Holds (r = g.t.goes g.r.fst g.r.snd.fst g.r.snd.snd.fst g.r.snd.snd.snd.fst) → ∃ (r_1 : RNoteOut), Holds (r_1 = g.t.note g.r.fst g.r.snd.fst g.r.snd.snd.fst g.r.snd.snd.snd.fst) ∧ r.e = r_1.e ∧ r.t.next = r_1.t.next ∧ r.t.L = r_1.t.L) (SplitB (g.r.snd.fst == (5 : Int)) (Holds g.t.ok ∧ Holds ((3 : Int) ≤ g.r.snd.fst) ∧ Holds (g.r.snd.fst ≤ (7 : Int)) ∧ ∀ (r : RNoteOut), Holds (r = g.t.goes g.r.fst g.r.snd.fst g.r.snd.snd.fst g.r.snd.snd.snd.fst) → ∃ (r_1 : RNoteOut), Holds (r_1 = g.t.note g.r.fst g.r.snd.fst g.r.snd.snd.fst g.r.snd.snd.snd.fst) ∧ r.e = r_1.e ∧ r.t.next = r_1.t.next ∧ r.t.L = r_1.t.L) (SplitB (g.r.snd.fst == (6 : Int)) (Holds g.t.ok ∧ Holds ((3 : Int) ≤ g.r.snd.fst) ∧ Holds (g.r.snd.fst ≤ (7 : Int)) ∧ ∀ (r : RNoteOut), Holds (r = g.t.goes g.r.fst g.r.snd.fst g.r.snd.snd.fst g.r.snd.snd.snd.fst) → ∃ (r_1 : RNoteOut), Holds (r_1 = g.t.note g.r.fst g.r.snd.fst g.r.snd.snd.fst g.r.snd.snd.snd.fst) ∧ r.e = r_1.e ∧ r.t.next = r_1.t.next ∧ r.t.L = r_1.t.L) (SplitB (g.r.snd.fst == (7 : Int)) (Holds g.t.ok ∧ Holds ((3 : Int) ≤ g.r.snd.fst) ∧ Holds (g.r.snd.fst ≤ (7 : Int)) ∧ ∀ (r : RNoteOut), Holds (r = g.t.goes g.r.fst g.r.snd.fst g.r.snd.snd.fst g.r.snd.snd.snd.fst) → ∃ (r_1 : RNoteOut), Holds (r_1 = g.t.note g.r.fst g.r.snd.fst g.r.snd.snd.fst g.r.snd.snd.snd.fst) ∧ r.e = r_1.e ∧ r.t.next = r_1.t.next ∧ r.t.L = r_1.t.L) (∃ (r : RNoteOut), Holds (r = g.t.note g.r.fst g.r.snd.fst g.r.snd.snd.fst g.r.snd.snd.snd.fst) ∧ (70 : Int) = r.e ∧ g.t.next = r.t.next ∧ g.t.L = r.t.L))))))))))) := by kernel_rfl
theorem ok41 : vc41 := by
  rw [vc41_is]
  intro g _ _ _ _ _ _ _ _ _ _ _ _ _ _ _ _ _ hn hL h1
  obtain ⟨k1, k2, k3⟩ := h1.out
  generalize g.r.1 = lsn at *
  generalize g.r.2.1 = kind at *
  generalize g.r.2.2.1 = tx at *
  generalize g.r.2.2.2.1 = prev at *
  have hw : within lsn 1 top = (decide (1 ≤ lsn) && decide (lsn ≤ 2147483647)) := rfl
  have hn : g.t.note lsn kind tx prev = if within lsn 1 top = false then ⟨4, g.t⟩
    else if kind = 2 ∨ kind = 8 then ⟨0, g.t⟩
    else if kind = 1 then (if tx ≠ g.t.next then ⟨130, g.t⟩ else ⟨(g.t.begin lsn).e, (g.t.begin lsn).t⟩)
    else if ¬ (3 ≤ kind ∧ kind ≤ 7) then ⟨70, g.t⟩
    else g.t.goes lsn kind tx prev := rfl
  have ok : g.t.ok := ⟨k1, k2, k3⟩
  simp only [splitB_iff, holds_iff, forall_eq, exists_eq_left, decide_eq_true_eq, decide_eq_false_iff_not, beq_iff_eq, beq_eq_false_iff_ne, bne_iff_ne, ne_eq, bne_eq_false_iff_eq, ok, true_and]
  rw [hn]
  refine ⟨fun a => by rw [if_pos (by rw [hw]; simp; omega)]; simp, fun a => ⟨fun b => by rw [if_pos (by rw [hw]; simp; omega)]; simp, fun b => ?_⟩⟩
  rw [if_neg (by rw [hw]; simp; omega)]
  refine ⟨fun c => by rw [if_pos (.inl c)]; simp, fun c => ⟨fun d => by rw [if_pos (.inr d)]; simp, fun d => ?_⟩⟩
  rw [if_neg (by omega)]
  refine ⟨fun e => ?_, fun e => ?_⟩
  · rw [if_pos e]
    exact ⟨fun f => by rw [if_pos f]; simp, fun f => by rw [if_neg (fun h => h f)]; simp⟩
  · rw [if_neg e]
    refine ⟨fun f => ?_, fun f3 => ⟨fun f => ?_, fun f4 => ⟨fun f => ?_, fun f5 => ⟨fun f => ?_, fun f6 => ⟨fun f => ?_, fun f7 => ?_⟩⟩⟩⟩⟩
    all_goals first | (rw [if_neg (by omega)]; exact ⟨by omega, by omega, rfl, rfl, rfl⟩) | (rw [if_pos (by omega)]; simp)

end Go.Proofs.Ytgoikphefcgleaa.VC
