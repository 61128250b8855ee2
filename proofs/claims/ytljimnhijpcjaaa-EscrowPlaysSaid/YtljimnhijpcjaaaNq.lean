/- What is to be shown of functions, shown. Plain lemmas; no conditions but those that each names. -/
import Derived.Test.YtljimnhijpcjaaaNe
import Derived.KernelRfl
set_option linter.unusedVariables false
set_option linter.unusedSimpArgs false
set_option linter.unusedSectionVars false
namespace Go.Proofs.Ytljimnhijpcjaaa.VC
open Go
set_option maxRecDepth 100000

theorem bor32 (h l : Int) (h1 : 0 ≤ l) (h2 : l < 4294967296) (h3 : -2147483648 ≤ h) (h4 : h < 2147483648) : bitOr .i64 (shlI .i64 h 32) l = h * 4294967296 + l := by
  have s : shlI .i64 h 32 = h * 4294967296 := by
    unfold shlI
    show IntKind.i64.wrap (h * 4294967296) = _
    exact wrap64 (by omega) (by omega)
  rw [s]
  have a : (BitVec.ofInt 64 (h * 4294967296)).toNat = (h % 4294967296).toNat <<< 32 := by
    rw [BitVec.toNat_ofInt, Nat.shiftLeft_eq]
    simp only [Nat.reducePow]
    omega
  have b : (BitVec.ofInt 64 l).toNat = l.toNat := by
    rw [BitVec.toNat_ofInt]
    simp only [Nat.reducePow]
    omega
  unfold bitOr
  show IntKind.i64.wrap ((BitVec.ofInt 64 (h * 4294967296) ||| BitVec.ofInt 64 l).toNat : Int) = _
  rw [BitVec.toNat_or, a, b, ← Nat.shiftLeft_add_eq_or_of_lt (show l.toNat < 2 ^ 32 by simp only [Nat.reducePow]; omega), Nat.shiftLeft_eq, i64_wrap]
  simp only [Nat.reducePow]
  omega
theorem getD_at {α : Type} {l : List α} {i : Nat} (h : i < l.length) (d : α) : l.getD i d = l[i] := by simp [List.getD, h]
theorem wv_dm (n : Int) : wv (n / 4294967296, n % 4294967296) = n := by unfold wv; simp only; omega
theorem small_low : ∀ (l : List (Int × Int)), (∀ p ∈ l, wSmall p) → -36893488147419103233 * (l.length : Int) ≤ lowS (l.map wv) ∧ lowS (l.map wv) ≤ 0
  | [], _ => ⟨Int.le_refl _, Int.le_refl _⟩
  | p :: l, h => by
    have := small_low l (fun q hq => h q (List.mem_cons_of_mem _ hq))
    have hp := h p (List.mem_cons_self ..)
    unfold wSmall at hp
    have e : lowS ((p :: l).map wv) = (if wv p < 0 then wv p else 0) + lowS (l.map wv) := by simp [lowS]
    have e2 : (((p :: l).length : Nat) : Int) = (l.length : Int) + 1 := by simp
    have hw : wv p = p.1 * 4294967296 + p.2 := rfl
    rw [e, e2]
    split <;> omega
theorem small_high : ∀ (l : List (Int × Int)), (∀ p ∈ l, wSmall p) → 0 ≤ highS (l.map wv) ∧ highS (l.map wv) ≤ 36893488151714070528 * (l.length : Int)
  | [], _ => ⟨Int.le_refl _, Int.le_refl _⟩
  | p :: l, h => by
    have := small_high l (fun q hq => h q (List.mem_cons_of_mem _ hq))
    have hp := h p (List.mem_cons_self ..)
    unfold wSmall at hp
    have e : highS ((p :: l).map wv) = (if wv p < 0 then 0 else wv p) + highS (l.map wv) := by simp [highS]
    have e2 : (((p :: l).length : Nat) : Int) = (l.length : Int) + 1 := by simp
    have hw : wv p = p.1 * 4294967296 + p.2 := rfl
    rw [e, e2]
    split <;> omega
def vc66 : Prop := vc Try.f66.body Try.f66.results Try.f66.ntmps [] sp66 (fun _ => noAnn)
theorem vc66_is : vc66 = (
∀ (g : RS), Holds (InR IntKind.i64 g.a.fst) → Holds (InR IntKind.i64 g.a.snd) → Holds (InR IntKind.i64 g.b.fst) → Holds (InR IntKind.i64 g.b.snd) → Holds (WFit g.a) → Holds (wSmall g.b) → Holds ((0 : Int) ≤ (32 : Int)) ∧ IntKind.i64.wrap (IntKind.i64.wrap (g.a.fst + g.b.fst) + shrI IntKind.i64 (IntKind.i64.wrap (g.a.snd + g.b.snd)) (32 : Int)) = (wv g.a + wv g.b) / (4294967296 : Int) ∧ bitAnd IntKind.i64 (IntKind.i64.wrap (g.a.snd + g.b.snd)) (4294967295 : Int) = (wv g.a + wv g.b) % (4294967296 : Int)) := by kernel_rfl
theorem ok66 : vc66 := by
  rw [vc66_is]
  intro g h1 h2 h3 h4 h5 h6
  obtain ⟨w1, w2, w3, w4⟩ := h5.out
  obtain ⟨v1, v2, v3, v4⟩ := h6.out
  rw [wrap64 (n := g.a.2 + g.b.2) (by omega) (by omega)]
  have a2 : bitAnd .i64 (g.a.2 + g.b.2) 4294967295 = (g.a.2 + g.b.2) % 4294967296 := and_mask 32 (by decide) _ _ (by decide)
  have s2 : shrI .i64 (g.a.2 + g.b.2) 32 = (g.a.2 + g.b.2) / 4294967296 := shr_pow 32 (by decide) _ _ rfl
  rw [a2, s2, wrap64 (n := g.a.1 + g.b.1) (by omega) (by omega), wrap64 (by omega) (by omega)]
  unfold wv
  exact ⟨⟨by decide⟩, by omega, by omega⟩

def vc56 : Prop := vc Try.f56.body Try.f56.results Try.f56.ntmps [] sp56 (fun _ => noAnn)
theorem vc56_is : vc56 = (
∀ (g : RF), Holds (InR IntKind.i64 g.w.fst) → Holds (InR IntKind.i64 g.w.snd) → Holds (Num (wv g.w)) → Holds ((0 : Int) ≤ g.w.snd) → Holds (g.w.snd < (4294967296 : Int)) → Holds ((0 : Int) ≤ (32 : Int)) ∧ bitOr IntKind.i64 (shlI IntKind.i64 g.w.fst (32 : Int)) g.w.snd = wv g.w) := by kernel_rfl
theorem ok56 : vc56 := by
  rw [vc56_is]
  intro g h1 h2 h3 h4 h5
  have h3 := h3.out
  have h4 := h4.out
  have h5 := h5.out
  unfold Num wv at h3
  exact ⟨⟨by decide⟩, bor32 _ _ h4 h5 (by omega) (by omega)⟩

def vc55 : Prop := vc Try.f55.body Try.f55.results Try.f55.ntmps [(66, some sp66)] sp55 annRWorst
theorem vc55_is : vc55 = (
∀ (g : RWo), Holds (InR IntKind.i64 g.b.fst) → Holds (InR IntKind.i64 g.b.snd) → Holds (kN.slice.ok g.l) → Holds (wSmall g.b) → Holds (∀ (p : Int × Int), p ∈ g.l → wSmall p) → Holds (g.l.length ≤ (1000001 : Nat)) → (∃ (x : IAt), Holds (x.i ≤ g.l.length) ∧ (0 : Int) = (↑x.i : Int) ∧ g.b.fst = (wv g.b + lowS (List.map wv (List.take x.i g.l))) / (4294967296 : Int) ∧ g.b.snd = (wv g.b + lowS (List.map wv (List.take x.i g.l))) % (4294967296 : Int) ∧ g.b.fst = (wv g.b + highS (List.map wv (List.take x.i g.l))) / (4294967296 : Int) ∧ g.b.snd = (wv g.b + highS (List.map wv (List.take x.i g.l))) % (4294967296 : Int)) ∧ ∀ (x : IAt), Holds (x.i ≤ g.l.length) → SplitB (decide ((↑x.i : Int) < (↑g.l.length : Int))) (Holds ((0 : Int) ≤ (↑x.i : Int)) ∧ Holds ((↑x.i : Int) < (↑g.l.length : Int)) ∧ Holds ((↑x.i : Int).toNat < g.l.length) ∧ SplitB (decide ((g.l.getD (↑x.i : Int).toNat ((0 : Int), (0 : Int))).fst < (0 : Int))) (Holds (WFit ((wv g.b + lowS (List.map wv (List.take x.i g.l))) / (4294967296 : Int), (wv g.b + lowS (List.map wv (List.take x.i g.l))) % (4294967296 : Int))) ∧ Holds (wSmall (g.l.getD (↑x.i : Int).toNat ((0 : Int), (0 : Int)))) ∧ ∃ (y : IAt), Holds (y.i ≤ g.l.length) ∧ Holds (g.l.length - y.i < g.l.length - x.i) ∧ IntKind.i64.wrap ((↑x.i : Int) + (1 : Int)) = (↑y.i : Int) ∧ (wv ((wv g.b + lowS (List.map wv (List.take x.i g.l))) / (4294967296 : Int), (wv g.b + lowS (List.map wv (List.take x.i g.l))) % (4294967296 : Int)) + wv (g.l.getD (↑x.i : Int).toNat ((0 : Int), (0 : Int)))) / (4294967296 : Int) = (wv g.b + lowS (List.map wv (List.take y.i g.l))) / (4294967296 : Int) ∧ (wv ((wv g.b + lowS (List.map wv (List.take x.i g.l))) / (4294967296 : Int), (wv g.b + lowS (List.map wv (List.take x.i g.l))) % (4294967296 : Int)) + wv (g.l.getD (↑x.i : Int).toNat ((0 : Int), (0 : Int)))) % (4294967296 : Int) = (wv g.b + lowS (List.map wv (List.take y.i g.l))) % (4294967296 : Int) ∧ (wv g.b + highS (List.map wv (List.take x.i g.l))) / (4294967296 : Int) = (wv g.b + highS (List.map wv (List.take y.i g.l))) / (4294967296 : Int) ∧ (wv g.b + highS (List.map wv (List.take x.i g.l))) % (4294967296 : Int) = (wv g.b + highS (List.map wv (List.take y.i g.l))) % (4294967296 : Int)) (Holds (WFit ((wv g.b + highS (List.map wv (List.take x.i g.l))) / (4294967296 : Int), (wv g.b + highS (List.map wv (List.take x.i g.l))) % (4294967296 : Int))) ∧ Holds (wSmall (g.l.getD (↑x.i : Int).toNat ((0 : Int), (0 : Int)))) ∧ ∃ (y : IAt), Holds (y.i ≤ g.l.length) ∧ Holds (g.l.length - y.i < g.l.length - x.i) ∧ IntKind.i64.wrap ((↑x.i : Int) + (1 : Int)) = (↑y.i : Int) ∧ (wv g.b + lowS (List.map wv (List.take x.i g.l))) / (4294967296 : Int) = (wv g.b + lowS (List.map wv (List.take y.i g.l))) / (4294967296 : Int) ∧ (wv g.b + lowS (List.map wv (List.take x.i g.l))) % (4294967296 : Int) = (wv g.b + lowS (List.map wv (List.take y.i g.l))) % (4294967296 : Int) ∧ (wv ((wv g.b + highS (List.map wv (List.take x.i g.l))) / (4294967296 : Int), (wv g.b + highS (List.map wv (List.take x.i g.l))) % (4294967296 : Int)) + wv (g.l.getD (↑x.i : Int).toNat ((0 : Int), (0 : Int)))) / (4294967296 : Int) = (wv g.b + highS (List.map wv (List.take y.i g.l))) / (4294967296 : Int) ∧ (wv ((wv g.b + highS (List.map wv (List.take x.i g.l))) / (4294967296 : Int), (wv g.b + highS (List.map wv (List.take x.i g.l))) % (4294967296 : Int)) + wv (g.l.getD (↑x.i : Int).toNat ((0 : Int), (0 : Int)))) % (4294967296 : Int) = (wv g.b + highS (List.map wv (List.take y.i g.l))) % (4294967296 : Int))) (∃ (r : Int × Int), Holds (r = (wv g.b + lowS (List.map wv g.l), wv g.b + highS (List.map wv g.l))) ∧ (wv g.b + lowS (List.map wv (List.take x.i g.l))) / (4294967296 : Int) = r.fst / (4294967296 : Int) ∧ (wv g.b + lowS (List.map wv (List.take x.i g.l))) % (4294967296 : Int) = r.fst % (4294967296 : Int) ∧ (wv g.b + highS (List.map wv (List.take x.i g.l))) / (4294967296 : Int) = r.snd / (4294967296 : Int) ∧ (wv g.b + highS (List.map wv (List.take x.i g.l))) % (4294967296 : Int) = r.snd % (4294967296 : Int))) := by kernel_rfl
theorem ok55 : vc55 := by
  rw [vc55_is]
  intro g h1 h2 h3 h4 h5 h6
  have h4 := h4.out
  have h5 := h5.out
  have h6 := h6.out
  have hb : wv g.b / 4294967296 = g.b.1 ∧ wv g.b % 4294967296 = g.b.2 := by
    unfold wSmall at h4; unfold wv; omega
  have bw : -36893488147419103232 ≤ wv g.b ∧ wv g.b ≤ 36893488151714070528 := by
    unfold wSmall at h4; unfold wv; omega
  have tk : ∀ i, ∀ p ∈ g.l.take i, wSmall p := fun i p hp => h5 p (List.mem_of_mem_take hp)
  simp only [wv_dm]
  refine ⟨⟨⟨0⟩, ⟨Nat.zero_le _⟩, rfl, ?_, ?_, ?_, ?_⟩, fun x hx => ?_⟩
  · show g.b.1 = (wv g.b + 0) / 4294967296; rw [Int.add_zero, hb.1]
  · show g.b.2 = (wv g.b + 0) % 4294967296; rw [Int.add_zero, hb.2]
  · show g.b.1 = (wv g.b + 0) / 4294967296; rw [Int.add_zero, hb.1]
  · show g.b.2 = (wv g.b + 0) % 4294967296; rw [Int.add_zero, hb.2]
  obtain ⟨i⟩ := x
  have hi := hx.out
  dsimp only at hi ⊢
  have b1 := small_low _ (tk i)
  have b2 := small_high _ (tk i)
  rw [List.length_take] at b1 b2
  simp only [splitB_iff, decide_eq_true_eq, decide_eq_false_iff_not, Int.toNat_natCast]
  refine ⟨fun a => ?_, fun a => ?_⟩
  · have a : i < g.l.length := by omega
    have e : (g.l.take (i + 1)).map wv = (g.l.take i).map wv ++ [wv (g.l.getD i (0, 0))] := by rw [take_succ_get a (0, 0), List.map_append]; rfl
    have hm : wSmall (g.l.getD i (0, 0)) := h5 _ (by rw [getD_at a (0, 0)]; exact List.getElem_mem a)
    have hs : (g.l.getD i (0, 0)).1 < 0 ↔ wv (g.l.getD i (0, 0)) < 0 := by
      have := hm; unfold wSmall at this; unfold wv; omega
    have f1 : WFit ((wv g.b + lowS ((g.l.take i).map wv)) / 4294967296, (wv g.b + lowS ((g.l.take i).map wv)) % 4294967296) := by unfold WFit; simp only; omega
    have f2 : WFit ((wv g.b + highS ((g.l.take i).map wv)) / 4294967296, (wv g.b + highS ((g.l.take i).map wv)) % 4294967296) := by unfold WFit; simp only; omega
    refine ⟨⟨by omega⟩, ⟨by omega⟩, ⟨a⟩, fun c => ⟨⟨f1⟩, ⟨hm⟩, ⟨i + 1⟩, ⟨a⟩, ⟨by show _ - (i + 1) < _; omega⟩, wrap_succ (by omega), ?_⟩, fun c => ⟨⟨f2⟩, ⟨hm⟩, ⟨i + 1⟩, ⟨a⟩, ⟨by show _ - (i + 1) < _; omega⟩, wrap_succ (by omega), ?_⟩⟩
    · have c := hs.1 c
      dsimp only
      rw [e, low_snoc, high_snoc, if_pos c, if_pos c, Int.add_zero, Int.add_assoc]
      exact ⟨rfl, rfl, rfl, rfl⟩
    · have c : ¬ wv (g.l.getD i (0, 0)) < 0 := fun h => c (hs.2 h)
      dsimp only
      rw [e, low_snoc, high_snoc, if_neg c, if_neg c, Int.add_zero, Int.add_assoc]
      exact ⟨rfl, rfl, rfl, rfl⟩
  · have : i = g.l.length := by omega
    subst this
    rw [List.take_length]
    exact ⟨_, ⟨rfl⟩, rfl, rfl, rfl, rfl⟩

def vc11 : Prop := vc Try.f11.body Try.f11.results Try.f11.ntmps [] sp11 (fun _ => noAnn)
theorem vc11_is : vc11 = (
∀ (g : RNewArg), Holds (InR IntKind.i64 g.b.fst) → Holds (InR IntKind.i64 g.b.snd) → Holds (InR IntKind.i64 g.v) → SplitB (decide (g.b.fst > g.b.snd)) ((∃ (r : Int), Holds (r ≠ (0 : Int) ∧ newF g.b g.v = r) ∧ (11 : Int) = r) ∨ ∃ (r : Unit), Holds (newF g.b g.v = (0 : Int)) ∧ False) (SplitB (decide (g.v < g.b.fst)) ((∃ (r : Int), Holds (r ≠ (0 : Int) ∧ newF g.b g.v = r) ∧ (110 : Int) = r) ∨ ∃ (r : Unit), Holds (newF g.b g.v = (0 : Int)) ∧ False) (SplitB (decide (g.v > g.b.snd)) ((∃ (r : Int), Holds (r ≠ (0 : Int) ∧ newF g.b g.v = r) ∧ (110 : Int) = r) ∨ ∃ (r : Unit), Holds (newF g.b g.v = (0 : Int)) ∧ False) ((∃ (r : Int), Holds (r ≠ (0 : Int) ∧ newF g.b g.v = r) ∧ False) ∨ ∃ (r : Unit), Holds (newF g.b g.v = (0 : Int)) ∧ (0 : Int) = (0 : Int) ∧ g.b.fst = g.b.fst ∧ g.b.snd = g.b.snd ∧ g.v = g.v ∧ nilT (Int × Int) = [])))) := by kernel_rfl
theorem ok11 : vc11 := by
  rw [vc11_is]
  intro g h1 h2 h3
  simp only [splitB_iff, decide_eq_true_eq, decide_eq_false_iff_not]
  unfold newF
  have hi : hasB g.b g.v = true ↔ g.b.1 ≤ g.v ∧ g.v ≤ g.b.2 := by unfold hasB; simp
  refine ⟨fun a => .inl ⟨11, ⟨by decide, by rw [if_pos a]⟩, rfl⟩, fun a => ⟨fun b => .inl ⟨110, ⟨by decide, ?_⟩, rfl⟩, fun b => ⟨fun c => .inl ⟨110, ⟨by decide, ?_⟩, rfl⟩, fun c => .inr ⟨(), ⟨?_⟩, trivial, trivial, trivial, trivial, trivial⟩⟩⟩⟩
  · rw [if_neg a, if_pos]
    cases h : hasB g.b g.v
    · rfl
    · have := hi.1 h; omega
  · rw [if_neg a, if_pos]
    cases h : hasB g.b g.v
    · rfl
    · have := hi.1 h; omega
  · rw [if_neg a, if_neg]
    rw [hi.2 ⟨by omega, by omega⟩]; decide

def vc38 : Prop := vc Try.f38.body Try.f38.results Try.f38.ntmps [] sp38 annRNet
theorem vc38_is : vc38 = (
∀ (g : RefTx), Holds (InR IntKind.i64 g.tx) → Holds (InR IntKind.i64 g.r.lo) → Holds (InR IntKind.i64 g.r.hi) → Holds (InR IntKind.i64 g.r.base) → Holds (kN.slice.ok g.r.nets) → (∃ (x : IAt), Holds (x.i ≤ g.r.nets.length ∧ ∀ (p : Int × Int), p ∈ List.take x.i g.r.nets → p.fst ≠ g.tx) ∧ (0 : Int) = (↑x.i : Int)) ∧ ∀ (x : IAt), Holds (x.i ≤ g.r.nets.length ∧ ∀ (p : Int × Int), p ∈ List.take x.i g.r.nets → p.fst ≠ g.tx) → SplitB (decide ((↑x.i : Int) < (↑g.r.nets.length : Int))) (Holds ((0 : Int) ≤ (↑x.i : Int)) ∧ Holds ((↑x.i : Int) < (↑g.r.nets.length : Int)) ∧ Holds ((↑x.i : Int).toNat < g.r.nets.length) ∧ SplitB ((g.r.nets.getD (↑x.i : Int).toNat ((0 : Int), (0 : Int))).fst == g.tx) (Holds ((0 : Int) ≤ (↑x.i : Int)) ∧ Holds ((↑x.i : Int) < (↑g.r.nets.length : Int)) ∧ Holds ((↑x.i : Int).toNat < g.r.nets.length) ∧ ∃ (r : Option Int), Holds (r = findN g.r.nets g.tx) ∧ (g.r.nets.getD (↑x.i : Int).toNat ((0 : Int), (0 : Int))).snd = r.getD (0 : Int) ∧ true = r.isSome) (∃ (y : IAt), Holds (y.i ≤ g.r.nets.length ∧ ∀ (p : Int × Int), p ∈ List.take y.i g.r.nets → p.fst ≠ g.tx) ∧ Holds (g.r.nets.length - y.i < g.r.nets.length - x.i) ∧ IntKind.i64.wrap ((↑x.i : Int) + (1 : Int)) = (↑y.i : Int))) (∃ (r : Option Int), Holds (r = findN g.r.nets g.tx) ∧ (0 : Int) = r.getD (0 : Int) ∧ false = r.isSome)) := by kernel_rfl
theorem find_take : ∀ (l : List (Int × Int)) (i : Nat) (tx : Int), i < l.length → (∀ p ∈ l.take i, p.1 ≠ tx) → (l.getD i (0, 0)).1 = tx → findN l tx = some (l.getD i (0, 0)).2
  | [], i, tx, h, _, _ => absurd h (Nat.not_lt_zero i)
  | p :: l, 0, tx, _, _, h => by
    have h : p.1 = tx := h
    show findN (p :: l) tx = some p.2
    unfold findN; simp [h]
  | p :: l, i + 1, tx, hi, h, he => by
    have h0 : p.1 ≠ tx := h p (List.mem_cons_self ..)
    have := find_take l i tx (Nat.lt_of_succ_lt_succ hi) (fun q hq => h q (List.mem_cons_of_mem _ hq)) he
    show findN (p :: l) tx = some (l.getD i (0, 0)).2
    rw [← this]
    unfold findN; simp [h0]
theorem find_no {l : List (Int × Int)} {tx : Int} (h : ∀ p ∈ l, p.1 ≠ tx) : findN l tx = none := by
  unfold findN
  rw [Option.map_eq_none_iff, List.find?_eq_none]
  intro p hp
  simpa using h p hp
theorem ok38 : vc38 := by
  rw [vc38_is]
  intro g h1 h2 h3 h4 h5
  have h5 := max63 h5.out.1
  refine ⟨⟨⟨0⟩, ⟨Nat.zero_le _, fun p hp => by simp at hp⟩, rfl⟩, fun x hx => ?_⟩
  obtain ⟨i⟩ := x
  obtain ⟨k1, k2⟩ := hx.out
  dsimp only at k1 k2 ⊢
  simp only [splitB_iff, decide_eq_true_eq, decide_eq_false_iff_not, Int.toNat_natCast, beq_iff_eq, beq_eq_false_iff_ne]
  refine ⟨fun a => ?_, fun a => ?_⟩
  · have a : i < g.r.nets.length := by omega
    refine ⟨⟨by omega⟩, ⟨by omega⟩, ⟨a⟩, fun b => ⟨⟨by omega⟩, ⟨by omega⟩, ⟨a⟩, _, ⟨rfl⟩, ?_⟩, fun b => ⟨⟨i + 1⟩, ⟨a, fun p hp => ?_⟩, ⟨by show _ - (i + 1) < _; omega⟩, wrap_succ (by omega)⟩⟩
    · rw [find_take _ i _ a k2 b]; exact ⟨rfl, rfl⟩
    · rw [take_succ_get a (0, 0), List.mem_append] at hp
      rcases hp with hp | hp
      · exact k2 p hp
      · rw [List.mem_singleton] at hp
        subst hp
        exact b
  · have : i = g.r.nets.length := by omega
    subst this
    rw [List.take_length] at k2
    exact ⟨_, ⟨rfl⟩, by rw [find_no k2]; rfl, by rw [find_no k2]; rfl⟩

def vc39 : Prop := vc Try.f39.body Try.f39.results Try.f39.ntmps [(27, some sp27), (55, some sp55), (56, some sp56)] sp39 annRInt
theorem vc39_is : vc39 = (
∀ (g : RefArg), Holds (InR IntKind.i64 g.r.lo) → Holds (InR IntKind.i64 g.r.hi) → Holds (InR IntKind.i64 g.r.base) → Holds (kN.slice.ok g.r.nets) → Holds g.r.Fits → (∃ (x : IAt), Holds (x.i ≤ g.r.nets.length) ∧ (0 : Int) = (↑x.i : Int) ∧ nilT (Int × Int) = List.map (fun (p : Int × Int) ↦ (p.snd / (4294967296 : Int), p.snd % (4294967296 : Int))) (List.take x.i g.r.nets)) ∧ ∀ (x : IAt), Holds (x.i ≤ g.r.nets.length) → SplitB (decide ((↑x.i : Int) < (↑g.r.nets.length : Int))) (Holds ((0 : Int) ≤ (↑x.i : Int)) ∧ Holds ((↑x.i : Int) < (↑g.r.nets.length : Int)) ∧ Holds ((↑x.i : Int).toNat < g.r.nets.length) ∧ Holds (((List.map (fun (p : Int × Int) ↦ (p.snd / (4294967296 : Int), p.snd % (4294967296 : Int))) (List.take x.i g.r.nets)).length + [((g.r.nets.getD (↑x.i : Int).toNat ((0 : Int), (0 : Int))).snd / (4294967296 : Int), (g.r.nets.getD (↑x.i : Int).toNat ((0 : Int), (0 : Int))).snd % (4294967296 : Int))].length) * (16 : Nat) ≤ (140737488355328 : Nat)) ∧ ∃ (y : IAt), Holds (y.i ≤ g.r.nets.length) ∧ Holds (g.r.nets.length - y.i < g.r.nets.length - x.i) ∧ IntKind.i64.wrap ((↑x.i : Int) + (1 : Int)) = (↑y.i : Int) ∧ List.map (fun (p : Int × Int) ↦ (p.snd / (4294967296 : Int), p.snd % (4294967296 : Int))) (List.take x.i g.r.nets) ++ [((g.r.nets.getD (↑x.i : Int).toNat ((0 : Int), (0 : Int))).snd / (4294967296 : Int), (g.r.nets.getD (↑x.i : Int).toNat ((0 : Int), (0 : Int))).snd % (4294967296 : Int))] = List.map (fun (p : Int × Int) ↦ (p.snd / (4294967296 : Int), p.snd % (4294967296 : Int))) (List.take y.i g.r.nets)) (Holds (wSmall (g.r.base / (4294967296 : Int), g.r.base % (4294967296 : Int))) ∧ Holds (∀ (p : Int × Int), p ∈ List.map (fun (p : Int × Int) ↦ (p.snd / (4294967296 : Int), p.snd % (4294967296 : Int))) (List.take x.i g.r.nets) → wSmall p) ∧ Holds ((List.map (fun (p : Int × Int) ↦ (p.snd / (4294967296 : Int), p.snd % (4294967296 : Int))) (List.take x.i g.r.nets)).length ≤ (1000001 : Nat)) ∧ ∀ (r : Int × Int), Holds (r = (wv (g.r.base / (4294967296 : Int), g.r.base % (4294967296 : Int)) + lowS (List.map wv (List.map (fun (p : Int × Int) ↦ (p.snd / (4294967296 : Int), p.snd % (4294967296 : Int))) (List.take x.i g.r.nets))), wv (g.r.base / (4294967296 : Int), g.r.base % (4294967296 : Int)) + highS (List.map wv (List.map (fun (p : Int × Int) ↦ (p.snd / (4294967296 : Int), p.snd % (4294967296 : Int))) (List.take x.i g.r.nets))))) → Holds (Num (wv (r.fst / (4294967296 : Int), r.fst % (4294967296 : Int)))) ∧ Holds ((0 : Int) ≤ r.fst % (4294967296 : Int)) ∧ Holds (r.fst % (4294967296 : Int) < (4294967296 : Int)) ∧ Holds (Num (wv (r.snd / (4294967296 : Int), r.snd % (4294967296 : Int)))) ∧ Holds ((0 : Int) ≤ r.snd % (4294967296 : Int)) ∧ Holds (r.snd % (4294967296 : Int) < (4294967296 : Int)) ∧ wv (r.fst / (4294967296 : Int), r.fst % (4294967296 : Int)) = g.r.base + lowS g.r.vals ∧ wv (r.snd / (4294967296 : Int), r.snd % (4294967296 : Int)) = g.r.base + highS g.r.vals)) := by kernel_rfl
theorem wv_halves (l : List (Int × Int)) : (l.map fun p => (p.2 / 4294967296, p.2 % 4294967296)).map wv = l.map (·.2) := by
  rw [List.map_map]
  refine List.map_congr_left fun p _ => ?_
  exact wv_dm p.2
theorem half_small {n : Int} (h : Num n) : wSmall (n / 4294967296, n % 4294967296) := by unfold Num at h; unfold wSmall; simp only; omega
theorem half_fit {n : Int} (h : Num n) : WFit (n / 4294967296, n % 4294967296) := by unfold Num at h; unfold WFit; simp only; omega
theorem ok39 : vc39 := by
  rw [vc39_is]
  intro g h1 h2 h3 h4 h5
  have hn := h4.out.2
  have h3 := h3.out
  have hf := h5.out
  have hl := hf.len
  refine ⟨⟨⟨0⟩, ⟨Nat.zero_le _⟩, rfl, rfl⟩, fun x hx => ?_⟩
  obtain ⟨i⟩ := x
  have hi := hx.out
  dsimp only at hi ⊢
  simp only [splitB_iff, decide_eq_true_eq, decide_eq_false_iff_not, Int.toNat_natCast, wv_dm, wv_halves]
  refine ⟨fun a => ?_, fun a => ?_⟩
  · have a : i < g.r.nets.length := by omega
    refine ⟨⟨by omega⟩, ⟨by omega⟩, ⟨a⟩, ⟨?_⟩, ⟨i + 1⟩, ⟨a⟩, ⟨by show _ - (i + 1) < _; omega⟩, wrap_succ (by omega), ?_⟩
    · rw [List.length_map, List.length_take]; simp only [List.length_singleton]; omega
    · dsimp only; rw [take_succ_get a (0, 0), List.map_append]; rfl
  · have : i = g.r.nets.length := by omega
    subst this
    rw [List.take_length]
    refine ⟨⟨half_small h3⟩, ⟨fun p hp => ?_⟩, ⟨by rw [List.length_map]; omega⟩, fun r hr => ?_⟩
    · obtain ⟨q, hq, rfl⟩ := List.mem_map.1 hp
      exact half_small (hn q hq).2
    · have hr := hr.out
      subst hr
      dsimp only
      exact ⟨⟨hf.low⟩, ⟨by omega⟩, ⟨by omega⟩, ⟨hf.high⟩, ⟨by omega⟩, ⟨by omega⟩, rfl, rfl⟩

def vc40 : Prop := vc Try.f40.body Try.f40.results Try.f40.ntmps [(27, some sp27), (25, some sp25), (56, some sp56)] sp40 annRVal
theorem vc40_is : vc40 = (
∀ (g : RefArg), Holds (InR IntKind.i64 g.r.lo) → Holds (InR IntKind.i64 g.r.hi) → Holds (InR IntKind.i64 g.r.base) → Holds (kN.slice.ok g.r.nets) → Holds g.r.Fits → (∃ (x : IAt), Holds (x.i ≤ g.r.nets.length) ∧ (0 : Int) = (↑x.i : Int) ∧ g.r.base / (4294967296 : Int) = (g.r.base + (List.take x.i g.r.vals).sum) / (4294967296 : Int) ∧ g.r.base % (4294967296 : Int) = (g.r.base + (List.take x.i g.r.vals).sum) % (4294967296 : Int)) ∧ ∀ (x : IAt), Holds (x.i ≤ g.r.nets.length) → SplitB (decide ((↑x.i : Int) < (↑g.r.nets.length : Int))) (Holds ((0 : Int) ≤ (↑x.i : Int)) ∧ Holds ((↑x.i : Int) < (↑g.r.nets.length : Int)) ∧ Holds ((↑x.i : Int).toNat < g.r.nets.length) ∧ Holds (WFit ((g.r.base + (List.take x.i g.r.vals).sum) / (4294967296 : Int), (g.r.base + (List.take x.i g.r.vals).sum) % (4294967296 : Int))) ∧ ∃ (y : IAt), Holds (y.i ≤ g.r.nets.length) ∧ Holds (g.r.nets.length - y.i < g.r.nets.length - x.i) ∧ IntKind.i64.wrap ((↑x.i : Int) + (1 : Int)) = (↑y.i : Int) ∧ (wv ((g.r.base + (List.take x.i g.r.vals).sum) / (4294967296 : Int), (g.r.base + (List.take x.i g.r.vals).sum) % (4294967296 : Int)) + (g.r.nets.getD (↑x.i : Int).toNat ((0 : Int), (0 : Int))).snd) / (4294967296 : Int) = (g.r.base + (List.take y.i g.r.vals).sum) / (4294967296 : Int) ∧ (wv ((g.r.base + (List.take x.i g.r.vals).sum) / (4294967296 : Int), (g.r.base + (List.take x.i g.r.vals).sum) % (4294967296 : Int)) + (g.r.nets.getD (↑x.i : Int).toNat ((0 : Int), (0 : Int))).snd) % (4294967296 : Int) = (g.r.base + (List.take y.i g.r.vals).sum) % (4294967296 : Int)) (Holds (Num (wv ((g.r.base + (List.take x.i g.r.vals).sum) / (4294967296 : Int), (g.r.base + (List.take x.i g.r.vals).sum) % (4294967296 : Int)))) ∧ Holds ((0 : Int) ≤ (g.r.base + (List.take x.i g.r.vals).sum) % (4294967296 : Int)) ∧ Holds ((g.r.base + (List.take x.i g.r.vals).sum) % (4294967296 : Int) < (4294967296 : Int)) ∧ wv ((g.r.base + (List.take x.i g.r.vals).sum) / (4294967296 : Int), (g.r.base + (List.take x.i g.r.vals).sum) % (4294967296 : Int)) = g.r.base + g.r.vals.sum)) := by kernel_rfl
theorem ok40 : vc40 := by
  rw [vc40_is]
  intro g h1 h2 h3 h4 h5
  have hn := h4.out.2
  have h3 := h3.out
  rw [inR64] at h3
  have hf := h5.out
  have hl := hf.len
  have vl : g.r.vals.length = g.r.nets.length := List.length_map ..
  have tb : ∀ i, ∀ x ∈ g.r.vals.take i, InR .i64 x := fun i x hx => by
    obtain ⟨p, hp, rfl⟩ := List.mem_map.1 (List.mem_of_mem_take hx)
    exact (hn p hp).2
  simp only [wv_dm]
  refine ⟨⟨⟨0⟩, ⟨Nat.zero_le _⟩, rfl, by show _ = (g.r.base + 0) / _; rw [Int.add_zero], by show _ = (g.r.base + 0) % _; rw [Int.add_zero]⟩, fun x hx => ?_⟩
  obtain ⟨i⟩ := x
  have hi := hx.out
  dsimp only at hi ⊢
  simp only [splitB_iff, decide_eq_true_eq, decide_eq_false_iff_not, Int.toNat_natCast]
  refine ⟨fun a => ?_, fun a => ?_⟩
  · have a : i < g.r.nets.length := by omega
    have sb := sum_bound _ (tb i)
    rw [List.length_take] at sb
    have e : (g.r.vals.take (i + 1)).sum = (g.r.vals.take i).sum + (g.r.nets.getD i (0, 0)).2 := by
      rw [take_succ_get (by omega) 0, List.sum_append]
      have : g.r.vals.getD i 0 = (g.r.nets.getD i (0, 0)).2 := by
        rw [getD_at a (0, 0), getD_at (show i < g.r.vals.length by omega) 0]
        simp [RefE.vals]
      rw [this]; simp
    refine ⟨⟨by omega⟩, ⟨by omega⟩, ⟨a⟩, ⟨by unfold WFit; simp only; omega⟩, ⟨i + 1⟩, ⟨a⟩, ⟨by show _ - (i + 1) < _; omega⟩, wrap_succ (by omega), ?_, ?_⟩
    · dsimp only; rw [e, Int.add_assoc]
    · dsimp only; rw [e, Int.add_assoc]
  · have : i = g.r.nets.length := by omega
    subst this
    rw [← vl, List.take_length]
    exact ⟨⟨hf.sum⟩, ⟨by omega⟩, ⟨by omega⟩, rfl⟩

def vc41 : Prop := vc Try.f41.body Try.f41.results Try.f41.ntmps [] sp41 annRHold
theorem vc41_is : vc41 = (
∀ (g : RefArg), Holds (InR IntKind.i64 g.r.lo) → Holds (InR IntKind.i64 g.r.hi) → Holds (InR IntKind.i64 g.r.base) → Holds (kN.slice.ok g.r.nets) → Holds (g.r.nets.length ≤ (1000000 : Nat)) → (∃ (x : IAt), Holds (x.i ≤ g.r.nets.length) ∧ (0 : Int) = (↑x.i : Int) ∧ nilT Int = List.map (fun (x : Int × Int) ↦ x.fst) (List.take x.i g.r.nets)) ∧ ∀ (x : IAt), Holds (x.i ≤ g.r.nets.length) → SplitB (decide ((↑x.i : Int) < (↑g.r.nets.length : Int))) (Holds ((0 : Int) ≤ (↑x.i : Int)) ∧ Holds ((↑x.i : Int) < (↑g.r.nets.length : Int)) ∧ Holds ((↑x.i : Int).toNat < g.r.nets.length) ∧ Holds (((List.map (fun (x : Int × Int) ↦ x.fst) (List.take x.i g.r.nets)).length + [(g.r.nets.getD (↑x.i : Int).toNat ((0 : Int), (0 : Int))).fst].length) * (8 : Nat) ≤ (140737488355328 : Nat)) ∧ ∃ (y : IAt), Holds (y.i ≤ g.r.nets.length) ∧ Holds (g.r.nets.length - y.i < g.r.nets.length - x.i) ∧ IntKind.i64.wrap ((↑x.i : Int) + (1 : Int)) = (↑y.i : Int) ∧ List.map (fun (x : Int × Int) ↦ x.fst) (List.take x.i g.r.nets) ++ [(g.r.nets.getD (↑x.i : Int).toNat ((0 : Int), (0 : Int))).fst] = List.map (fun (x : Int × Int) ↦ x.fst) (List.take y.i g.r.nets)) (∃ (r : List Int), Holds (r = List.map (fun (x : Int × Int) ↦ x.fst) g.r.nets) ∧ List.map (fun (x : Int × Int) ↦ x.fst) (List.take x.i g.r.nets) = r)) := by kernel_rfl
theorem ok41 : vc41 := by
  rw [vc41_is]
  intro g h1 h2 h3 h4 h5
  have hl := h5.out
  refine ⟨⟨⟨0⟩, ⟨Nat.zero_le _⟩, rfl, rfl⟩, fun x hx => ?_⟩
  obtain ⟨i⟩ := x
  have hi := hx.out
  dsimp only at hi ⊢
  simp only [splitB_iff, decide_eq_true_eq, decide_eq_false_iff_not, Int.toNat_natCast]
  refine ⟨fun a => ?_, fun a => ?_⟩
  · have a : i < g.r.nets.length := by omega
    refine ⟨⟨by omega⟩, ⟨by omega⟩, ⟨a⟩, ⟨?_⟩, ⟨i + 1⟩, ⟨a⟩, ⟨by show _ - (i + 1) < _; omega⟩, wrap_succ (by omega), ?_⟩
    · rw [List.length_map, List.length_take]; simp only [List.length_singleton]; omega
    · dsimp only; rw [take_succ_get a (0, 0), List.map_append]; rfl
  · have : i = g.r.nets.length := by omega
    subst this
    rw [List.take_length]
    exact ⟨_, ⟨rfl⟩, rfl⟩

def vc33 : Prop := vc Try.f33.body Try.f33.results Try.f33.ntmps [] sp33 annSame
theorem vc33_is : vc33 = (
∀ (g : SameInts), Holds (kI.slice.ok g.a) → Holds (kI.slice.ok g.b) → SplitB ((↑g.a.length : Int) != (↑g.b.length : Int)) (false = decide (g.a = g.b)) ((∃ (x : IAt), Holds (x.i ≤ g.a.length ∧ List.take x.i g.a = List.take x.i g.b) ∧ (0 : Int) = (↑x.i : Int)) ∧ ∀ (x : IAt), Holds (x.i ≤ g.a.length ∧ List.take x.i g.a = List.take x.i g.b) → SplitB (decide ((↑x.i : Int) < (↑g.a.length : Int))) (Holds ((0 : Int) ≤ (↑x.i : Int)) ∧ Holds ((↑x.i : Int) < (↑g.a.length : Int)) ∧ Holds ((↑x.i : Int).toNat < g.a.length) ∧ Holds ((0 : Int) ≤ (↑x.i : Int)) ∧ Holds ((↑x.i : Int) < (↑g.b.length : Int)) ∧ Holds ((↑x.i : Int).toNat < g.b.length) ∧ SplitB (g.a.getD (↑x.i : Int).toNat ((0 : Int)) != g.b.getD (↑x.i : Int).toNat ((0 : Int))) (false = decide (g.a = g.b)) (∃ (y : IAt), Holds (y.i ≤ g.a.length ∧ List.take y.i g.a = List.take y.i g.b) ∧ Holds (g.a.length - y.i < g.a.length - x.i) ∧ IntKind.i64.wrap ((↑x.i : Int) + (1 : Int)) = (↑y.i : Int))) (true = decide (g.a = g.b)))) := by kernel_rfl
theorem ok33 : vc33 := by
  rw [vc33_is]
  intro g h1 h2
  have h1 := max63 h1.out.1
  simp only [splitB_iff, bne_iff_ne, bne_eq_false_iff_eq, ne_eq]
  refine ⟨fun a => by symm; rw [decide_eq_false_iff_not]; intro h; rw [h] at a; exact a rfl, fun a => ⟨⟨⟨0⟩, ⟨Nat.zero_le _, by simp⟩, rfl⟩, fun x hx => ?_⟩⟩
  have a : g.a.length = g.b.length := by omega
  obtain ⟨i⟩ := x
  obtain ⟨k1, k2⟩ := hx.out
  dsimp only at k1 k2 ⊢
  simp only [decide_eq_true_eq, decide_eq_false_iff_not, Int.toNat_natCast]
  refine ⟨fun b => ?_, fun b => ?_⟩
  · refine ⟨⟨by omega⟩, ⟨by omega⟩, ⟨by omega⟩, ⟨by omega⟩, ⟨by omega⟩, ⟨by omega⟩, fun c => ?_, fun c => ⟨⟨i + 1⟩, ⟨by show i + 1 ≤ _; omega, take_next (by omega) (by omega) k2 c⟩, ⟨by show _ - (i + 1) < _; omega⟩, wrap_succ (by omega)⟩⟩
    symm; rw [decide_eq_false_iff_not]; exact ne_get c
  · symm; rw [decide_eq_true_eq]; exact take_all a (by omega) k2

def vc12 : Prop := vc Try.f12.body Try.f12.results Try.f12.ntmps [(35, some sp35), (38, some sp38), (18, some sp18), (20, some sp20), (17, some sp17), (39, some sp39), (23, some sp23), (40, some sp40), (16, some sp16), (41, some sp41), (33, some sp33)] sp12 (fun _ => noAnn)
theorem vc12_is : vc12 = (
∀ (g : TellArg), Holds (InR IntKind.i64 g.tx) → Holds (InR IntKind.i64 g.e.lo) → Holds (InR IntKind.i64 g.e.hi) → Holds (InR IntKind.i64 g.e.st) → Holds (InR IntKind.i64 g.r.lo) → Holds (InR IntKind.i64 g.r.hi) → Holds (InR IntKind.i64 g.r.base) → Holds (kN.slice.ok g.r.nets) → Holds (MOk kI kI g.e.nets) → Holds (Alike g.e g.r) → ∀ (r : Option Int), Holds (r = findN g.r.nets g.tx) → SplitB (netOf g.e.nets g.tx != r.getD (0 : Int)) (false = true) (SplitB (!(mgI g.e.nets g.tx).isSome == r.isSome) (false = true) (SplitB (!(g.e.lo == g.r.lo && g.e.hi == g.r.hi)) (false = true) (SplitB (g.e.st != g.r.base) (false = true) (Holds (g.e.nets.length ≤ (1000000 : Nat)) ∧ ∀ (r : Int × Int × Int), Holds (r = worstF g.e.st (valsOf g.e.nets)) → Holds g.r.Fits ∧ SplitB (r.fst == g.r.base + lowS g.r.vals && r.snd.fst == g.r.base + highS g.r.vals) (Holds (g.e.nets.length ≤ (1000000 : Nat)) ∧ ∀ (r : Int), Holds (r = (ans (g.e.st + (valsOf g.e.nets).sum)).fst) → Holds g.r.Fits ∧ SplitB (r == g.r.base + g.r.vals.sum) (Holds (g.e.nets.length ≤ (1000000 : Nat)) ∧ ∀ (r : List Int), Holds (r = rising (keysOf g.e.nets)) → Holds (g.r.nets.length ≤ (1000000 : Nat)) ∧ ∀ (r_1 : List Int), Holds (r_1 = List.map (fun (x : Int × Int) ↦ x.fst) g.r.nets) → decide (r = r_1) = true) (false = true)) (false = true)))))) := by kernel_rfl
theorem find_mget {l : List (Int × Int)} (h : (keysOf l).Nodup) (tx : Int) : findN l tx = mgI l tx := by
  cases hm : mgI l tx with
  | none => exact find_no (mget_none.1 hm)
  | some v =>
    have := mget_mem (q := .i64) (v := kI) hm
    cases hf : findN l tx with
    | none =>
      exfalso
      unfold findN at hf
      rw [Option.map_eq_none_iff, List.find?_eq_none] at hf
      have := hf _ this
      simp at this
    | some w =>
      unfold findN at hf
      rw [Option.map_eq_some_iff] at hf
      obtain ⟨p, h1, h2⟩ := hf
      have e1 := List.mem_of_find?_eq_some h1
      have e2 := List.find?_some h1
      simp only [decide_eq_true_eq] at e2
      have := mget_of_mem (q := .i64) (v := kI) h (show (tx, w) ∈ l by rw [← e2, ← h2]; exact e1)
      have hm' : mget (k := .int .i64) (v := kI) l tx = some v := hm
      rw [this] at hm'
      exact hm'
theorem Alike.good {e : Esc} {r : RefE} (h : Alike e r) : (keysOf r.nets).Nodup ∧ (keysOf e.nets).Nodup := by
  have : (keysOf r.nets).Nodup := by
    unfold keysOf
    rw [List.Nodup, List.pairwise_map]
    exact h.rise.imp fun hab he => by omega
  exact ⟨this, ((h.nets.map _).nodup_iff).2 this⟩
theorem Alike.vals {e : Esc} {r : RefE} (h : Alike e r) : (valsOf e.nets).Perm r.vals := by
  rw [vals_all (fun p hp => by have := h.keys p (h.nets.mem_iff.1 hp); omega)]
  exact h.nets.map _
theorem Alike.get {e : Esc} {r : RefE} (h : Alike e r) (tx : Int) : findN r.nets tx = mgI e.nets tx := by
  rw [find_mget h.good.1]
  exact (mget_perm (q := .i64) (v := kI) h.nets h.good.2 tx).symm
theorem sum_between : ∀ l : List Int, lowS l ≤ l.sum ∧ l.sum ≤ highS l
  | [] => ⟨Int.le_refl _, Int.le_refl _⟩
  | x :: l => by
    have := sum_between l
    have e1 : lowS (x :: l) = (if x < 0 then x else 0) + lowS l := by simp [lowS]
    have e2 : highS (x :: l) = (if x < 0 then 0 else x) + highS l := by simp [highS]
    rw [e1, e2, List.sum_cons]
    split <;> omega
theorem lowS_neg : ∀ l : List Int, lowS l ≤ 0 ∧ 0 ≤ highS l
  | [] => ⟨Int.le_refl _, Int.le_refl _⟩
  | x :: l => by
    have := lowS_neg l
    have e1 : lowS (x :: l) = (if x < 0 then x else 0) + lowS l := by simp [lowS]
    have e2 : highS (x :: l) = (if x < 0 then 0 else x) + highS l := by simp [highS]
    rw [e1, e2]
    split <;> omega
theorem Alike.fits {e : Esc} {r : RefE} (h : Alike e r) : r.Fits := by
  have h1 := h.low
  have h2 := h.high
  have h3 := h.b1
  have h4 := h.b2
  have h5 := sum_between r.vals
  have h6 := lowS_neg r.vals
  have h7 := h.len
  unfold Num at h3 h4
  exact ⟨by omega, by unfold Num; omega, by unfold Num; omega, by unfold Num; omega⟩
theorem Alike.worst {e : Esc} {r : RefE} (h : Alike e r) : worstF e.st (valsOf e.nets) = (r.base + lowS r.vals, r.base + highS r.vals, 0) := by
  rw [worstF_perm _ h.vals, h.st]
  unfold worstF
  rw [if_pos ⟨h.fits.low, h.fits.high⟩]
theorem Alike.value {e : Esc} {r : RefE} (h : Alike e r) : (ans (e.st + (valsOf e.nets).sum)).1 = r.base + r.vals.sum := by
  rw [perm_sum h.vals, h.st, ans_yes h.fits.sum]
theorem Alike.holders {e : Esc} {r : RefE} (h : Alike e r) : rising (keysOf e.nets) = r.nets.map (·.1) := by
  rw [← rising_of_le (l := r.nets.map (·.1)) (by rw [List.pairwise_map]; exact h.rise.imp fun h => Int.le_of_lt h)]
  exact rising_perm (h.nets.map _)
theorem ok12 : vc12 := by
  rw [vc12_is]
  intro g
  intro h1 h2 h3 h4 h5 h6 h7 h8 h9 h10
  have h := h10.out
  have hf := h.fits
  have hl := hf.len
  have el : g.e.nets.length ≤ 1000000 := by rw [h.nets.length_eq]; exact hl
  intro o ho
  have ho := ho.out
  subst ho
  rw [h.get]
  simp only [splitB_iff, bne_iff_ne, bne_eq_false_iff_eq, ne_eq, Bool.not_eq_true', beq_iff_eq, Bool.not_eq_false', Bool.and_eq_true, Bool.and_eq_false_iff, beq_eq_false_iff_ne]
  refine ⟨fun a => absurd rfl a, fun _ => ⟨fun a => absurd trivial a, fun _ => ⟨fun a => ?_, fun _ => ⟨fun a => absurd h.st a, fun _ => ⟨⟨el⟩, fun r hr => ⟨⟨hf⟩, fun _ => ⟨⟨el⟩, fun r hr => ⟨⟨hf⟩, fun _ => ⟨⟨el⟩, fun r hr => ⟨⟨hl⟩, fun r' hr' => ?_⟩⟩, fun a => absurd (hr.out.trans h.value) a⟩⟩, fun a => ?_⟩⟩⟩⟩⟩⟩
  · rcases a with a | a
    · exact absurd h.lo a
    · exact absurd h.hi a
  · rw [hr.out, hr'.out, h.holders]; simp
  · have hr := hr.out
    rw [h.worst] at hr
    subst hr
    rcases a with a | a
    · exact absurd rfl a
    · exact absurd rfl a

def vc3 : Prop := vc Try.f3.body Try.f3.results Try.f3.ntmps [(9, some sp9), (10, some sp10), (11, some sp11), (12, some sp12)] sp3 (fun _ => noAnn)
theorem vc3_is : vc3 = (
∀ (g : NewsArg), Holds (InR IntKind.i64 g.b.fst) → Holds (InR IntKind.i64 g.b.snd) → Holds (InR IntKind.i64 g.v) → Holds (InR IntKind.i64 g.tx) → (∀ (r : Int), Holds (r ≠ (0 : Int) ∧ newF g.b g.v = r) → (∀ (r_1 : Int), Holds (r_1 ≠ (0 : Int) ∧ newF g.b g.v = r_1) → SplitB (r != r_1) (false = true) (SplitB (!true == true) (false = true) (true = true))) ∧ ∀ (r_1 : Unit), Holds (newF g.b g.v = (0 : Int)) → SplitB (r != (0 : Int)) (false = true) (SplitB (!true == false) (false = true) (true = true))) ∧ ∀ (r : Unit), Holds (newF g.b g.v = (0 : Int)) → (∀ (r : Int), Holds (r ≠ (0 : Int) ∧ newF g.b g.v = r) → SplitB ((0 : Int) != r) (false = true) (SplitB (!false == true) (false = true) False)) ∧ ∀ (r : Unit), Holds (newF g.b g.v = (0 : Int)) → SplitB ((0 : Int) != (0 : Int)) (false = true) (SplitB (!false == false) (false = true) (Holds (Alike { lo := g.b.fst, hi := g.b.snd, st := g.v, nets := [] : Esc } { lo := g.b.fst, hi := g.b.snd, base := g.v, nets := [] : RefE }) ∧ true = true))) := by kernel_rfl
theorem ok3 : vc3 := by
  rw [vc3_is]
  intro g h1 h2 h3 h4
  have h1 := h1.out
  have h2 := h2.out
  simp only [splitB_iff, bne_iff_ne, bne_eq_false_iff_eq, ne_eq]
  refine ⟨fun r hr => ⟨fun q hq => ?_, fun q hq => ?_⟩, fun q hq => ⟨fun r hr => ?_, fun r hr => ?_⟩⟩
  · have e : r = q := by rw [← hr.out.2, ← hq.out.2]
    exact ⟨fun a => absurd e a, fun _ => by simp⟩
  · exact absurd (hr.out.2.symm.trans hq.out) hr.out.1
  · exact absurd (hr.out.2.symm.trans hq.out) hr.out.1
  · refine ⟨fun a => absurd trivial a, fun _ => ⟨fun a => by simp at a, fun _ => ⟨⟨?_⟩, trivial⟩⟩⟩
    have hz := hq.out
    unfold newF at hz
    by_cases a : g.b.1 > g.b.2
    · rw [if_pos a] at hz; simp at hz
    · rw [if_neg a] at hz
      cases hh : hasB g.b g.v
      · rw [if_pos hh] at hz; simp at hz
      · unfold hasB at hh
        simp only [Bool.and_eq_true, decide_eq_true_eq] at hh
        exact ⟨rfl, rfl, rfl, .refl _, List.Pairwise.nil, nofun, nofun, Nat.zero_le _, by show g.b.1 ≤ g.v + 0; omega, by show g.v + 0 ≤ g.b.2; omega, h1, h2⟩

end Go.Proofs.Ytljimnhijpcjaaa.VC
