/- What is to be shown of functions, shown. Plain lemmas; no conditions but those that each names. -/
import Derived.Test.YtljimnhijpcjaaaRf
import Derived.KernelRfl
set_option linter.unusedVariables false
set_option linter.unusedSimpArgs false
set_option linter.unusedSectionVars false
namespace Go.Proofs.Ytljimnhijpcjaaa.VC
open Go
set_option maxRecDepth 100000

def vc28 : Prop := vc Try.f28.body Try.f28.results Try.f28.ntmps [] sp28 (fun _ => noAnn)
theorem vc28_is : vc28 = (
∀ (g : RF), Holds (InR IntKind.i64 g.w.fst) → Holds (InR IntKind.i64 g.w.snd) → Holds (WFit g.w) → SplitB (decide (g.w.fst ≥ (-2147483648 : Int))) (decide (g.w.fst < (2147483648 : Int)) = decide (Num (wv g.w))) (false = decide (Num (wv g.w)))) := by kernel_rfl
theorem ok28 : vc28 := by
  rw [vc28_is]
  intro g h1 h2 h3
  obtain ⟨w1, w2, w3, w4⟩ := h3.out
  simp only [splitB_iff, decide_eq_true_eq, decide_eq_false_iff_not]
  refine ⟨fun a => ?_, fun a => ?_⟩
  · congr 1; apply propext; unfold Num wv; omega
  · symm; simp only [decide_eq_false_iff_not]; unfold Num wv; omega

theorem withM_snoc (l : List (Int × Int)) (p : Int × Int) (tx d : Int) : withM (l ++ [p]) tx d = withM l tx d ++ [if p.1 == tx then p.2 + d else p.2] := by simp [withM]
theorem withM_len (l : List (Int × Int)) (tx d : Int) : (withM l tx d).length = l.length := by simp [withM]
theorem hasN_snoc (l : List (Int × Int)) (p : Int × Int) (tx : Int) : hasN (l ++ [p]) tx = (hasN l tx || p.1 == tx) := by simp [hasN]
theorem withB_snoc (l : List (Int × Int)) (p : Int × Int) (tx d : Int) : withB (l ++ [p]) tx d = if p.1 == tx then decide (Num (p.2 + d)) else withB l tx d := by simp [withB]
theorem wide_map (l : List Int) (n : Int) : l.map wide ++ [(n / 4294967296, n % 4294967296)] = (l ++ [n]).map wide := by simp [wide]
theorem sum_fit {a b : Int} (h : Num a) (k : Num b) : WFit ((a + b) / 4294967296, (a + b) % 4294967296) := by unfold Num at h k; unfold WFit; simp only; omega

def vc57 : Prop := vc Try.f57.body Try.f57.results Try.f57.ntmps [(27, some sp27), (25, some sp25), (28, some sp28)] sp57 annRWith
theorem vc57_is : vc57 = (
∀ (g : MayR), Holds (InR IntKind.i64 g.tx) → Holds (InR IntKind.i64 g.delta) → Holds (InR IntKind.i64 g.r.lo) → Holds (InR IntKind.i64 g.r.hi) → Holds (InR IntKind.i64 g.r.base) → Holds (kN.slice.ok g.r.nets) → Holds (g.r.nets.length ≤ (1000000 : Nat)) → (∃ (x : IAt), Holds (x.i ≤ g.r.nets.length) ∧ (0 : Int) = (↑x.i : Int) ∧ true = withB (List.take x.i g.r.nets) g.tx g.delta ∧ false = hasN (List.take x.i g.r.nets) g.tx ∧ nilT (Int × Int) = List.map wide (withM (List.take x.i g.r.nets) g.tx g.delta)) ∧ ∀ (x : IAt), Holds (x.i ≤ g.r.nets.length) → SplitB (decide ((↑x.i : Int) < (↑g.r.nets.length : Int))) (Holds ((0 : Int) ≤ (↑x.i : Int)) ∧ Holds ((↑x.i : Int) < (↑g.r.nets.length : Int)) ∧ Holds ((↑x.i : Int).toNat < g.r.nets.length) ∧ Holds ((0 : Int) ≤ (↑x.i : Int)) ∧ Holds ((↑x.i : Int) < (↑g.r.nets.length : Int)) ∧ Holds ((↑x.i : Int).toNat < g.r.nets.length) ∧ SplitB ((g.r.nets.getD (↑x.i : Int).toNat ((0 : Int), (0 : Int))).fst == g.tx) (Holds (WFit ((g.r.nets.getD (↑x.i : Int).toNat ((0 : Int), (0 : Int))).snd / (4294967296 : Int), (g.r.nets.getD (↑x.i : Int).toNat ((0 : Int), (0 : Int))).snd % (4294967296 : Int))) ∧ Holds (WFit ((wv ((g.r.nets.getD (↑x.i : Int).toNat ((0 : Int), (0 : Int))).snd / (4294967296 : Int), (g.r.nets.getD (↑x.i : Int).toNat ((0 : Int), (0 : Int))).snd % (4294967296 : Int)) + g.delta) / (4294967296 : Int), (wv ((g.r.nets.getD (↑x.i : Int).toNat ((0 : Int), (0 : Int))).snd / (4294967296 : Int), (g.r.nets.getD (↑x.i : Int).toNat ((0 : Int), (0 : Int))).snd % (4294967296 : Int)) + g.delta) % (4294967296 : Int))) ∧ Holds (((List.map wide (withM (List.take x.i g.r.nets) g.tx g.delta)).length + [((wv ((g.r.nets.getD (↑x.i : Int).toNat ((0 : Int), (0 : Int))).snd / (4294967296 : Int), (g.r.nets.getD (↑x.i : Int).toNat ((0 : Int), (0 : Int))).snd % (4294967296 : Int)) + g.delta) / (4294967296 : Int), (wv ((g.r.nets.getD (↑x.i : Int).toNat ((0 : Int), (0 : Int))).snd / (4294967296 : Int), (g.r.nets.getD (↑x.i : Int).toNat ((0 : Int), (0 : Int))).snd % (4294967296 : Int)) + g.delta) % (4294967296 : Int))].length) * (16 : Nat) ≤ (140737488355328 : Nat)) ∧ ∃ (y : IAt), Holds (y.i ≤ g.r.nets.length) ∧ Holds (g.r.nets.length - y.i < g.r.nets.length - x.i) ∧ IntKind.i64.wrap ((↑x.i : Int) + (1 : Int)) = (↑y.i : Int) ∧ decide (Num (wv ((wv ((g.r.nets.getD (↑x.i : Int).toNat ((0 : Int), (0 : Int))).snd / (4294967296 : Int), (g.r.nets.getD (↑x.i : Int).toNat ((0 : Int), (0 : Int))).snd % (4294967296 : Int)) + g.delta) / (4294967296 : Int), (wv ((g.r.nets.getD (↑x.i : Int).toNat ((0 : Int), (0 : Int))).snd / (4294967296 : Int), (g.r.nets.getD (↑x.i : Int).toNat ((0 : Int), (0 : Int))).snd % (4294967296 : Int)) + g.delta) % (4294967296 : Int)))) = withB (List.take y.i g.r.nets) g.tx g.delta ∧ true = hasN (List.take y.i g.r.nets) g.tx ∧ List.map wide (withM (List.take x.i g.r.nets) g.tx g.delta) ++ [((wv ((g.r.nets.getD (↑x.i : Int).toNat ((0 : Int), (0 : Int))).snd / (4294967296 : Int), (g.r.nets.getD (↑x.i : Int).toNat ((0 : Int), (0 : Int))).snd % (4294967296 : Int)) + g.delta) / (4294967296 : Int), (wv ((g.r.nets.getD (↑x.i : Int).toNat ((0 : Int), (0 : Int))).snd / (4294967296 : Int), (g.r.nets.getD (↑x.i : Int).toNat ((0 : Int), (0 : Int))).snd % (4294967296 : Int)) + g.delta) % (4294967296 : Int))] = List.map wide (withM (List.take y.i g.r.nets) g.tx g.delta)) (Holds (((List.map wide (withM (List.take x.i g.r.nets) g.tx g.delta)).length + [((g.r.nets.getD (↑x.i : Int).toNat ((0 : Int), (0 : Int))).snd / (4294967296 : Int), (g.r.nets.getD (↑x.i : Int).toNat ((0 : Int), (0 : Int))).snd % (4294967296 : Int))].length) * (16 : Nat) ≤ (140737488355328 : Nat)) ∧ ∃ (y : IAt), Holds (y.i ≤ g.r.nets.length) ∧ Holds (g.r.nets.length - y.i < g.r.nets.length - x.i) ∧ IntKind.i64.wrap ((↑x.i : Int) + (1 : Int)) = (↑y.i : Int) ∧ withB (List.take x.i g.r.nets) g.tx g.delta = withB (List.take y.i g.r.nets) g.tx g.delta ∧ hasN (List.take x.i g.r.nets) g.tx = hasN (List.take y.i g.r.nets) g.tx ∧ List.map wide (withM (List.take x.i g.r.nets) g.tx g.delta) ++ [((g.r.nets.getD (↑x.i : Int).toNat ((0 : Int), (0 : Int))).snd / (4294967296 : Int), (g.r.nets.getD (↑x.i : Int).toNat ((0 : Int), (0 : Int))).snd % (4294967296 : Int))] = List.map wide (withM (List.take y.i g.r.nets) g.tx g.delta))) (SplitB (!hasN (List.take x.i g.r.nets) g.tx) (Holds (((List.map wide (withM (List.take x.i g.r.nets) g.tx g.delta)).length + [(g.delta / (4294967296 : Int), g.delta % (4294967296 : Int))].length) * (16 : Nat) ≤ (140737488355328 : Nat)) ∧ ∃ (r : List Int × Bool), Holds (r = (withV g.r.nets g.tx g.delta, withB g.r.nets g.tx g.delta)) ∧ withB (List.take x.i g.r.nets) g.tx g.delta = r.snd ∧ List.map wide (withM (List.take x.i g.r.nets) g.tx g.delta) ++ [(g.delta / (4294967296 : Int), g.delta % (4294967296 : Int))] = List.map wide r.fst) (∃ (r : List Int × Bool), Holds (r = (withV g.r.nets g.tx g.delta, withB g.r.nets g.tx g.delta)) ∧ withB (List.take x.i g.r.nets) g.tx g.delta = r.snd ∧ List.map wide (withM (List.take x.i g.r.nets) g.tx g.delta) = List.map wide r.fst))) := by kernel_rfl
theorem ok57 : vc57 := by
  rw [vc57_is]
  intro g h1 h2 h3 h4 h5 h6 h7
  have hd := h2.out
  have hn := h6.out.2
  have hl := h7.out
  refine ⟨⟨⟨0⟩, ⟨Nat.zero_le _⟩, rfl, rfl, rfl, rfl⟩, fun x hx => ?_⟩
  obtain ⟨i⟩ := x
  have hi := hx.out
  dsimp only at hi ⊢
  simp only [splitB_iff, decide_eq_true_eq, decide_eq_false_iff_not, Int.toNat_natCast, wv_dm, wide_map]
  refine ⟨fun a => ?_, fun a => ?_⟩
  · have a : i < g.r.nets.length := by omega
    have hp : Num (g.r.nets.getD i (0, 0)).2 := by rw [getD_at a]; exact (hn _ (List.getElem_mem a)).2
    refine ⟨⟨by omega⟩, ⟨by omega⟩, ⟨a⟩, ⟨by omega⟩, ⟨by omega⟩, ⟨a⟩, fun b => ⟨⟨half_fit hp⟩, ⟨sum_fit hp hd⟩, ⟨?_⟩, ⟨i + 1⟩, ⟨a⟩, ⟨by show _ - (i + 1) < _; omega⟩, wrap_succ (by omega), ?_, ?_, ?_⟩, fun b => ⟨⟨?_⟩, ⟨i + 1⟩, ⟨a⟩, ⟨by show _ - (i + 1) < _; omega⟩, wrap_succ (by omega), ?_, ?_, ?_⟩⟩
    · rw [List.length_map, withM_len, List.length_take]; simp only [List.length_singleton]; omega
    · dsimp only; rw [take_succ_get a (0, 0), withB_snoc, b]; rfl
    · dsimp only; rw [take_succ_get a (0, 0), hasN_snoc, b]; simp
    · dsimp only; rw [take_succ_get a (0, 0), withM_snoc, b]; rfl
    · rw [List.length_map, withM_len, List.length_take]; simp only [List.length_singleton]; omega
    · dsimp only; rw [take_succ_get a (0, 0), withB_snoc, b]; rfl
    · dsimp only; rw [take_succ_get a (0, 0), hasN_snoc, b]; simp
    · dsimp only; rw [take_succ_get a (0, 0), withM_snoc, b]; rfl
  · have : i = g.r.nets.length := by omega
    subst this
    rw [List.take_length]
    refine ⟨fun b => ⟨⟨?_⟩, _, ⟨rfl⟩, rfl, ?_⟩, fun b => ⟨_, ⟨rfl⟩, rfl, ?_⟩⟩
    · rw [List.length_map, withM_len]; simp only [List.length_singleton]; omega
    · have b : hasN g.r.nets g.tx = false := by simpa using b
      simp only [withV, b]; rfl
    · have b : hasN g.r.nets g.tx = true := by simpa using b
      simp only [withV, b, if_pos, List.append_nil]

theorem wide_wv (l : List Int) : (l.map wide).map wv = l := by
  rw [List.map_map]
  conv => rhs; rw [← List.map_id l]
  refine List.map_congr_left fun n _ => wv_dm n
theorem withV_small {l : List (Int × Int)} {tx d : Int} (hl : ∀ p ∈ l, Num p.2) (hd : Num d) : ∀ v ∈ withV l tx d, -18446744073709551616 ≤ v ∧ v ≤ 18446744073709551616 := by
  intro v hv
  unfold withV withM at hv
  unfold Num at hd
  rcases List.mem_append.1 hv with hv | hv
  · obtain ⟨p, hp, rfl⟩ := List.mem_map.1 hv
    have := hl p hp
    unfold Num at this
    split <;> omega
  · split at hv
    · cases hv
    · rw [List.mem_singleton] at hv; subst hv; omega
theorem withV_len (l : List (Int × Int)) (tx d : Int) : (withV l tx d).length ≤ l.length + 1 := by
  unfold withV
  rw [List.length_append, withM_len]
  split <;> simp
theorem wide_small {v : Int} (h : -18446744073709551616 ≤ v ∧ v ≤ 18446744073709551616) : wSmall (wide v) := by
  unfold wSmall wide; simp only; omega

def vc42 : Prop := vc Try.f42.body Try.f42.results Try.f42.ntmps [(57, some sp57), (27, some sp27), (55, some sp55), (21, some sp21), (22, some sp22)] sp42 (fun _ => noAnn)
theorem vc42_is : vc42 = (
∀ (g : MayR), Holds (InR IntKind.i64 g.tx) → Holds (InR IntKind.i64 g.delta) → Holds (InR IntKind.i64 g.r.lo) → Holds (InR IntKind.i64 g.r.hi) → Holds (InR IntKind.i64 g.r.base) → Holds (kN.slice.ok g.r.nets) → Holds (g.r.nets.length ≤ (1000 : Nat)) → Holds (Num g.r.base) → Holds (Num (g.r.base + lowS g.r.vals)) → Holds (Num (g.r.base + highS g.r.vals)) → SplitB (decide (g.tx < (1 : Int))) (∃ (r : Int), Holds (r = mayR g.r g.tx g.delta) ∧ (130 : Int) = r) (SplitB (decide (g.tx > (2147483647 : Int))) (∃ (r : Int), Holds (r = mayR g.r g.tx g.delta) ∧ (130 : Int) = r) (Holds (g.r.nets.length ≤ (1000000 : Nat)) ∧ ∀ (r : List Int × Bool), Holds (r = (withV g.r.nets g.tx g.delta, withB g.r.nets g.tx g.delta)) → Holds (wSmall (g.r.base / (4294967296 : Int), g.r.base % (4294967296 : Int))) ∧ Holds (∀ (p : Int × Int), p ∈ List.map wide r.fst → wSmall p) ∧ Holds ((List.map wide r.fst).length ≤ (1000001 : Nat)) ∧ ∀ (r_1 : Int × Int), Holds (r_1 = (wv (g.r.base / (4294967296 : Int), g.r.base % (4294967296 : Int)) + lowS (List.map wv (List.map wide r.fst)), wv (g.r.base / (4294967296 : Int), g.r.base % (4294967296 : Int)) + highS (List.map wv (List.map wide r.fst)))) → Holds (WFit (r_1.fst / (4294967296 : Int), r_1.fst % (4294967296 : Int))) ∧ SplitB (decide (wv (r_1.fst / (4294967296 : Int), r_1.fst % (4294967296 : Int)) < g.r.lo)) (∃ (r : Int), Holds (r = mayR g.r g.tx g.delta) ∧ (110 : Int) = r) (Holds (WFit (r_1.snd / (4294967296 : Int), r_1.snd % (4294967296 : Int))) ∧ SplitB (decide (wv (r_1.snd / (4294967296 : Int), r_1.snd % (4294967296 : Int)) > g.r.hi)) (∃ (r : Int), Holds (r = mayR g.r g.tx g.delta) ∧ (110 : Int) = r) (SplitB (!r.snd) (∃ (r : Int), Holds (r = mayR g.r g.tx g.delta) ∧ (10 : Int) = r) (∃ (r : Int), Holds (r = mayR g.r g.tx g.delta) ∧ (0 : Int) = r)))))) := by kernel_rfl
theorem ok42 : vc42 := by
  rw [vc42_is]
  intro g h1 h2 h3 h4 h5 h6 h7 h8 h9 h10
  have hd : Num g.delta := h2.out
  have hb := h8.out
  have hn : ∀ p ∈ g.r.nets, Num p.2 := fun p hp => (h6.out.2 p hp).2
  have hl := h7.out
  have hsm := withV_small (tx := g.tx) hn hd
  have hwl := withV_len g.r.nets g.tx g.delta
  have hws : ∀ p ∈ (withV g.r.nets g.tx g.delta).map wide, wSmall p := fun p hp => by
    obtain ⟨v, hv, rfl⟩ := List.mem_map.1 hp
    exact wide_small (hsm v hv)
  have b1 := small_low _ hws
  have b2 := small_high _ hws
  rw [wide_wv, List.length_map] at b1 b2
  have hb' := hb
  unfold Num at hb'
  simp only [splitB_iff, decide_eq_true_eq, decide_eq_false_iff_not]
  refine ⟨fun a => ⟨_, ⟨rfl⟩, ?_⟩, fun a => ⟨fun b => ⟨_, ⟨rfl⟩, ?_⟩, fun b => ⟨⟨by omega⟩, fun r hr => ?_⟩⟩⟩
  · unfold mayR; rw [if_pos (.inl a)]
  · unfold mayR; rw [if_pos (.inr b)]
  · have hr := hr.out
    subst hr
    dsimp only
    refine ⟨⟨half_small hb⟩, ⟨hws⟩, ⟨by rw [List.length_map]; omega⟩, fun r hr => ?_⟩
    have hr := hr.out
    rw [wide_wv, wv_dm] at hr
    subst hr
    dsimp only
    have e1 : ¬ (g.tx < 1 ∨ 2147483647 < g.tx) := fun h => h.elim a b
    simp only [wv_dm]
    refine ⟨⟨?_⟩, fun c => ⟨_, ⟨rfl⟩, ?_⟩, fun c => ⟨⟨?_⟩, fun e => ⟨_, ⟨rfl⟩, ?_⟩, fun e => ⟨fun f => ⟨_, ⟨rfl⟩, ?_⟩, fun f => ⟨_, ⟨rfl⟩, ?_⟩⟩⟩⟩
    · unfold WFit; simp only; omega
    · unfold mayR; rw [if_neg e1, if_pos (.inl c)]
    · unfold WFit; simp only; omega
    · unfold mayR; rw [if_neg e1, if_pos (.inr e)]
    · have f : withB g.r.nets g.tx g.delta = false := by simpa using f
      unfold mayR; rw [if_neg e1, if_neg (fun h => h.elim c e), if_pos f]
    · have f : ¬ withB g.r.nets g.tx g.delta = false := by simpa using f
      unfold mayR; rw [if_neg e1, if_neg (fun h => h.elim c e), if_neg f]

theorem addTo_snoc (l : List (Int × Int)) (p : Int × Int) (tx d : Int) : addTo (l ++ [p]) tx d = addStep tx d (addTo l tx d) p := by simp [addTo]
theorem addStep_len (tx d : Int) (a : List (Int × Int) × Bool) (n : Int × Int) : (addStep tx d a n).1.length ≤ a.1.length + 2 := by
  unfold addStep
  dsimp only
  split <;> split <;> simp
theorem addFold_len (tx d : Int) : ∀ (l : List (Int × Int)) (a : List (Int × Int) × Bool), (l.foldl (addStep tx d) a).1.length ≤ a.1.length + 2 * l.length
  | [], a => by simp
  | p :: l, a => by
    have h1 := addFold_len tx d l (addStep tx d a p)
    have h2 := addStep_len tx d a p
    rw [List.foldl_cons, List.length_cons]
    omega
theorem addTo_len (l : List (Int × Int)) (tx d : Int) : (addTo l tx d).1.length ≤ 2 * l.length := by
  have := addFold_len tx d l ([], false)
  simpa [addTo] using this

def vc43 : Prop := vc Try.f43.body Try.f43.results Try.f43.ntmps [(42, some sp42)] sp43 annRAdd
theorem vc43_is : vc43 = (
∀ (g : MayR), Holds (InR IntKind.i64 g.tx) → Holds (InR IntKind.i64 g.delta) → Holds (InR IntKind.i64 g.r.lo) → Holds (InR IntKind.i64 g.r.hi) → Holds (InR IntKind.i64 g.r.base) → Holds (kN.slice.ok g.r.nets) → Holds (g.r.nets.length ≤ (1000 : Nat)) → Holds (Num g.r.base) → Holds (Num (g.r.base + lowS g.r.vals)) → Holds (Num (g.r.base + highS g.r.vals)) → Holds (g.r.nets.length ≤ (1000 : Nat)) ∧ Holds (Num g.r.base) ∧ Holds (Num (g.r.base + lowS g.r.vals)) ∧ Holds (Num (g.r.base + highS g.r.vals)) ∧ ∀ (r : Int), Holds (r = mayR g.r g.tx g.delta) → SplitB (r != (0 : Int)) (∃ (r_1 : AddOut), Holds (r_1 = addR g.r g.tx g.delta) ∧ r = r_1.e ∧ g.r.lo = g.r.lo ∧ g.r.hi = g.r.hi ∧ g.r.base = g.r.base ∧ g.r.nets = r_1.nets) ((∃ (x : IAt), Holds (x.i ≤ g.r.nets.length) ∧ (0 : Int) = (↑x.i : Int) ∧ false = (addTo (List.take x.i g.r.nets) g.tx g.delta).snd ∧ nilT (Int × Int) = (addTo (List.take x.i g.r.nets) g.tx g.delta).fst) ∧ ∀ (x : IAt), Holds (x.i ≤ g.r.nets.length) → SplitB (decide ((↑x.i : Int) < (↑g.r.nets.length : Int))) (Holds ((0 : Int) ≤ (↑x.i : Int)) ∧ Holds ((↑x.i : Int) < (↑g.r.nets.length : Int)) ∧ Holds ((↑x.i : Int).toNat < g.r.nets.length) ∧ SplitB (decide ((g.r.nets.getD (↑x.i : Int).toNat ((0 : Int), (0 : Int))).fst > g.tx)) (SplitB (!(addTo (List.take x.i g.r.nets) g.tx g.delta).snd) (Holds (((addTo (List.take x.i g.r.nets) g.tx g.delta).fst.length + [(g.tx, g.delta)].length) * (16 : Nat) ≤ (140737488355328 : Nat)) ∧ SplitB ((g.r.nets.getD (↑x.i : Int).toNat ((0 : Int), (0 : Int))).fst == g.tx) (Holds ((((addTo (List.take x.i g.r.nets) g.tx g.delta).fst ++ [(g.tx, g.delta)]).length + [((g.r.nets.getD (↑x.i : Int).toNat ((0 : Int), (0 : Int))).fst, IntKind.i64.wrap ((g.r.nets.getD (↑x.i : Int).toNat ((0 : Int), (0 : Int))).snd + g.delta))].length) * (16 : Nat) ≤ (140737488355328 : Nat)) ∧ ∃ (y : IAt), Holds (y.i ≤ g.r.nets.length) ∧ Holds (g.r.nets.length - y.i < g.r.nets.length - x.i) ∧ IntKind.i64.wrap ((↑x.i : Int) + (1 : Int)) = (↑y.i : Int) ∧ true = (addTo (List.take y.i g.r.nets) g.tx g.delta).snd ∧ (addTo (List.take x.i g.r.nets) g.tx g.delta).fst ++ [(g.tx, g.delta)] ++ [((g.r.nets.getD (↑x.i : Int).toNat ((0 : Int), (0 : Int))).fst, IntKind.i64.wrap ((g.r.nets.getD (↑x.i : Int).toNat ((0 : Int), (0 : Int))).snd + g.delta))] = (addTo (List.take y.i g.r.nets) g.tx g.delta).fst) (Holds ((((addTo (List.take x.i g.r.nets) g.tx g.delta).fst ++ [(g.tx, g.delta)]).length + [g.r.nets.getD (↑x.i : Int).toNat ((0 : Int), (0 : Int))].length) * (16 : Nat) ≤ (140737488355328 : Nat)) ∧ ∃ (y : IAt), Holds (y.i ≤ g.r.nets.length) ∧ Holds (g.r.nets.length - y.i < g.r.nets.length - x.i) ∧ IntKind.i64.wrap ((↑x.i : Int) + (1 : Int)) = (↑y.i : Int) ∧ true = (addTo (List.take y.i g.r.nets) g.tx g.delta).snd ∧ (addTo (List.take x.i g.r.nets) g.tx g.delta).fst ++ [(g.tx, g.delta)] ++ [g.r.nets.getD (↑x.i : Int).toNat ((0 : Int), (0 : Int))] = (addTo (List.take y.i g.r.nets) g.tx g.delta).fst)) (SplitB ((g.r.nets.getD (↑x.i : Int).toNat ((0 : Int), (0 : Int))).fst == g.tx) (Holds (((addTo (List.take x.i g.r.nets) g.tx g.delta).fst.length + [((g.r.nets.getD (↑x.i : Int).toNat ((0 : Int), (0 : Int))).fst, IntKind.i64.wrap ((g.r.nets.getD (↑x.i : Int).toNat ((0 : Int), (0 : Int))).snd + g.delta))].length) * (16 : Nat) ≤ (140737488355328 : Nat)) ∧ ∃ (y : IAt), Holds (y.i ≤ g.r.nets.length) ∧ Holds (g.r.nets.length - y.i < g.r.nets.length - x.i) ∧ IntKind.i64.wrap ((↑x.i : Int) + (1 : Int)) = (↑y.i : Int) ∧ true = (addTo (List.take y.i g.r.nets) g.tx g.delta).snd ∧ (addTo (List.take x.i g.r.nets) g.tx g.delta).fst ++ [((g.r.nets.getD (↑x.i : Int).toNat ((0 : Int), (0 : Int))).fst, IntKind.i64.wrap ((g.r.nets.getD (↑x.i : Int).toNat ((0 : Int), (0 : Int))).snd + g.delta))] = (addTo (List.take y.i g.r.nets) g.tx g.delta).fst) (Holds (((addTo (List.take x.i g.r.nets) g.tx g.delta).fst.length + [g.r.nets.getD (↑x.i : Int).toNat ((0 : Int), (0 : Int))].length) * (16 : Nat) ≤ (140737488355328 : Nat)) ∧ ∃ (y : IAt), Holds (y.i ≤ g.r.nets.length) ∧ Holds (g.r.nets.length - y.i < g.r.nets.length - x.i) ∧ IntKind.i64.wrap ((↑x.i : Int) + (1 : Int)) = (↑y.i : Int) ∧ (addTo (List.take x.i g.r.nets) g.tx g.delta).snd = (addTo (List.take y.i g.r.nets) g.tx g.delta).snd ∧ (addTo (List.take x.i g.r.nets) g.tx g.delta).fst ++ [g.r.nets.getD (↑x.i : Int).toNat ((0 : Int), (0 : Int))] = (addTo (List.take y.i g.r.nets) g.tx g.delta).fst))) (SplitB ((g.r.nets.getD (↑x.i : Int).toNat ((0 : Int), (0 : Int))).fst == g.tx) (Holds (((addTo (List.take x.i g.r.nets) g.tx g.delta).fst.length + [((g.r.nets.getD (↑x.i : Int).toNat ((0 : Int), (0 : Int))).fst, IntKind.i64.wrap ((g.r.nets.getD (↑x.i : Int).toNat ((0 : Int), (0 : Int))).snd + g.delta))].length) * (16 : Nat) ≤ (140737488355328 : Nat)) ∧ ∃ (y : IAt), Holds (y.i ≤ g.r.nets.length) ∧ Holds (g.r.nets.length - y.i < g.r.nets.length - x.i) ∧ IntKind.i64.wrap ((↑x.i : Int) + (1 : Int)) = (↑y.i : Int) ∧ true = (addTo (List.take y.i g.r.nets) g.tx g.delta).snd ∧ (addTo (List.take x.i g.r.nets) g.tx g.delta).fst ++ [((g.r.nets.getD (↑x.i : Int).toNat ((0 : Int), (0 : Int))).fst, IntKind.i64.wrap ((g.r.nets.getD (↑x.i : Int).toNat ((0 : Int), (0 : Int))).snd + g.delta))] = (addTo (List.take y.i g.r.nets) g.tx g.delta).fst) (Holds (((addTo (List.take x.i g.r.nets) g.tx g.delta).fst.length + [g.r.nets.getD (↑x.i : Int).toNat ((0 : Int), (0 : Int))].length) * (16 : Nat) ≤ (140737488355328 : Nat)) ∧ ∃ (y : IAt), Holds (y.i ≤ g.r.nets.length) ∧ Holds (g.r.nets.length - y.i < g.r.nets.length - x.i) ∧ IntKind.i64.wrap ((↑x.i : Int) + (1 : Int)) = (↑y.i : Int) ∧ (addTo (List.take x.i g.r.nets) g.tx g.delta).snd = (addTo (List.take y.i g.r.nets) g.tx g.delta).snd ∧ (addTo (List.take x.i g.r.nets) g.tx g.delta).fst ++ [g.r.nets.getD (↑x.i : Int).toNat ((0 : Int), (0 : Int))] = (addTo (List.take y.i g.r.nets) g.tx g.delta).fst))) (SplitB (!(addTo (List.take x.i g.r.nets) g.tx g.delta).snd) (Holds (((addTo (List.take x.i g.r.nets) g.tx g.delta).fst.length + [(g.tx, g.delta)].length) * (16 : Nat) ≤ (140737488355328 : Nat)) ∧ ∃ (r : AddOut), Holds (r = addR g.r g.tx g.delta) ∧ (0 : Int) = r.e ∧ g.r.lo = g.r.lo ∧ g.r.hi = g.r.hi ∧ g.r.base = g.r.base ∧ (addTo (List.take x.i g.r.nets) g.tx g.delta).fst ++ [(g.tx, g.delta)] = r.nets) (∃ (r : AddOut), Holds (r = addR g.r g.tx g.delta) ∧ (0 : Int) = r.e ∧ g.r.lo = g.r.lo ∧ g.r.hi = g.r.hi ∧ g.r.base = g.r.base ∧ (addTo (List.take x.i g.r.nets) g.tx g.delta).fst = r.nets)))) := by kernel_rfl
theorem ok43 : vc43 := by
  rw [vc43_is]
  intro g h1 h2 h3 h4 h5 h6 h7 h8 h9 h10
  have hl := h7.out
  refine ⟨h7, h8, h9, h10, fun r hr => ?_⟩
  have hr := hr.out
  simp only [splitB_iff, decide_eq_true_eq, decide_eq_false_iff_not, bne_iff_ne, ne_eq, Int.toNat_natCast, beq_iff_eq, beq_eq_false_iff_ne, bne_eq_false_iff_eq, Bool.not_eq_true', Bool.not_eq_false']
  refine ⟨fun a => ⟨_, ⟨rfl⟩, ?_⟩, fun a => ⟨⟨⟨0⟩, ⟨Nat.zero_le _⟩, rfl, rfl, rfl⟩, fun x hx => ?_⟩⟩
  · subst hr
    unfold addR
    rw [if_pos a]
    exact ⟨rfl, trivial, trivial, trivial, rfl⟩
  · obtain ⟨i⟩ := x
    have hi := hx.out
    dsimp only at hi ⊢
    have hlen := addTo_len (g.r.nets.take i) g.tx g.delta
    rw [List.length_take] at hlen
    have hA : addR g.r g.tx g.delta = ⟨0, addN g.r.nets g.tx g.delta⟩ := by
      unfold addR; rw [if_neg (fun h => h (hr ▸ a))]
    refine ⟨fun b => ⟨⟨by omega⟩, ⟨by omega⟩, ⟨by omega⟩, ?_⟩, fun b => ?_⟩
    · have b : i < g.r.nets.length := by omega
      have hs : addTo (g.r.nets.take (i + 1)) g.tx g.delta = addStep g.tx g.delta (addTo (g.r.nets.take i) g.tx g.delta) (g.r.nets.getD i (0, 0)) := by rw [take_succ_get b (0, 0), addTo_snoc]
      generalize g.r.nets.getD i (0, 0) = p at hs ⊢
      generalize addTo (g.r.nets.take i) g.tx g.delta = A at hs hlen ⊢
      have go : ∀ {q : Bool} {L : List (Int × Int)}, (q, L) = ((addTo (g.r.nets.take (i + 1)) g.tx g.delta).2, (addTo (g.r.nets.take (i + 1)) g.tx g.delta).1) → ∃ y : IAt, Holds (y.i ≤ g.r.nets.length) ∧ Holds (g.r.nets.length - y.i < g.r.nets.length - i) ∧ IntKind.i64.wrap ((i : Int) + 1) = (y.i : Int) ∧ q = (addTo (g.r.nets.take y.i) g.tx g.delta).2 ∧ L = (addTo (g.r.nets.take y.i) g.tx g.delta).1 := fun h => by
        injection h with h1 h2
        exact ⟨⟨i + 1⟩, ⟨b⟩, ⟨by show _ - (i + 1) < _; omega⟩, wrap_succ (by omega), h1, h2⟩
      have ln : ∀ {n : Nat}, n ≤ A.1.length + 2 → n * 16 ≤ 140737488355328 := fun h => by omega
      refine ⟨fun c => ⟨fun e => ⟨⟨ln (by simp)⟩, fun f => ⟨⟨ln (by simp)⟩, go ?_⟩, fun f => ⟨⟨ln (by simp)⟩, go ?_⟩⟩, fun e => ⟨fun f => ⟨⟨ln (by simp)⟩, go ?_⟩, fun f => ⟨⟨ln (by simp)⟩, go ?_⟩⟩⟩, fun c => ⟨fun f => ⟨⟨ln (by simp)⟩, go ?_⟩, fun f => ⟨⟨ln (by simp)⟩, go ?_⟩⟩⟩
      · exfalso; omega
      · rw [hs]; simp [addStep, c, e, f]
      · exfalso; omega
      · rw [hs]; simp [addStep, e, f]
      · rw [hs]; simp [addStep, c, f]
      · rw [hs]; simp [addStep, c, f]
    · have : i = g.r.nets.length := by omega
      subst this
      rw [List.take_length]
      rw [List.take_length] at hlen
      refine ⟨fun c => ⟨⟨?_⟩, ⟨0, addN g.r.nets g.tx g.delta⟩, ⟨hA.symm⟩, rfl, trivial, trivial, trivial, ?_⟩, fun c => ⟨⟨0, addN g.r.nets g.tx g.delta⟩, ⟨hA.symm⟩, rfl, trivial, trivial, trivial, ?_⟩⟩
      · simp only [List.length_singleton]; omega
      · unfold addN; rw [c]; rfl
      · unfold addN; rw [c]; rfl

theorem outN_snoc (l : List (Int × Int)) (p : Int × Int) (tx : Int) : outN (l ++ [p]) tx = if p.1 = tx then outN l tx else outN l tx ++ [p] := by
  unfold outN
  rw [List.filter_append]
  by_cases h : p.1 = tx <;> simp [h]
theorem outN_len (l : List (Int × Int)) (tx : Int) : (outN l tx).length ≤ l.length := List.length_filter_le ..

def vc58 : Prop := vc Try.f58.body Try.f58.results Try.f58.ntmps [] sp58 annROut
theorem vc58_is : vc58 = (
∀ (g : RefTx), Holds (InR IntKind.i64 g.tx) → Holds (InR IntKind.i64 g.r.lo) → Holds (InR IntKind.i64 g.r.hi) → Holds (InR IntKind.i64 g.r.base) → Holds (kN.slice.ok g.r.nets) → Holds (g.r.nets.length ≤ (1000000 : Nat)) → (∃ (x : IAt), Holds (x.i ≤ g.r.nets.length) ∧ (0 : Int) = (↑x.i : Int) ∧ nilT (Int × Int) = outN (List.take x.i g.r.nets) g.tx) ∧ ∀ (x : IAt), Holds (x.i ≤ g.r.nets.length) → SplitB (decide ((↑x.i : Int) < (↑g.r.nets.length : Int))) (Holds ((0 : Int) ≤ (↑x.i : Int)) ∧ Holds ((↑x.i : Int) < (↑g.r.nets.length : Int)) ∧ Holds ((↑x.i : Int).toNat < g.r.nets.length) ∧ SplitB ((g.r.nets.getD (↑x.i : Int).toNat ((0 : Int), (0 : Int))).fst != g.tx) (Holds ((0 : Int) ≤ (↑x.i : Int)) ∧ Holds ((↑x.i : Int) < (↑g.r.nets.length : Int)) ∧ Holds ((↑x.i : Int).toNat < g.r.nets.length) ∧ Holds (((outN (List.take x.i g.r.nets) g.tx).length + [g.r.nets.getD (↑x.i : Int).toNat ((0 : Int), (0 : Int))].length) * (16 : Nat) ≤ (140737488355328 : Nat)) ∧ ∃ (y : IAt), Holds (y.i ≤ g.r.nets.length) ∧ Holds (g.r.nets.length - y.i < g.r.nets.length - x.i) ∧ IntKind.i64.wrap ((↑x.i : Int) + (1 : Int)) = (↑y.i : Int) ∧ outN (List.take x.i g.r.nets) g.tx ++ [g.r.nets.getD (↑x.i : Int).toNat ((0 : Int), (0 : Int))] = outN (List.take y.i g.r.nets) g.tx) (∃ (y : IAt), Holds (y.i ≤ g.r.nets.length) ∧ Holds (g.r.nets.length - y.i < g.r.nets.length - x.i) ∧ IntKind.i64.wrap ((↑x.i : Int) + (1 : Int)) = (↑y.i : Int) ∧ outN (List.take x.i g.r.nets) g.tx = outN (List.take y.i g.r.nets) g.tx)) (∃ (r : List (Int × Int)), Holds (r = outN g.r.nets g.tx) ∧ g.r.lo = g.r.lo ∧ g.r.hi = g.r.hi ∧ g.r.base = g.r.base ∧ outN (List.take x.i g.r.nets) g.tx = r)) := by kernel_rfl
theorem ok58 : vc58 := by
  rw [vc58_is]
  intro g h1 h2 h3 h4 h5 h6
  have hl := h6.out
  refine ⟨⟨⟨0⟩, ⟨Nat.zero_le _⟩, rfl, rfl⟩, fun x hx => ?_⟩
  obtain ⟨i⟩ := x
  have hi := hx.out
  dsimp only at hi ⊢
  simp only [splitB_iff, decide_eq_true_eq, decide_eq_false_iff_not, bne_iff_ne, ne_eq, bne_eq_false_iff_eq, Int.toNat_natCast]
  refine ⟨fun a => ⟨⟨by omega⟩, ⟨by omega⟩, ⟨by omega⟩, ?_⟩, fun a => ?_⟩
  · have a : i < g.r.nets.length := by omega
    have hs := outN_snoc (g.r.nets.take i) (g.r.nets.getD i (0, 0)) g.tx
    rw [← take_succ_get a (0, 0)] at hs
    have hle := outN_len (g.r.nets.take i) g.tx
    rw [List.length_take] at hle
    refine ⟨fun b => ⟨⟨by omega⟩, ⟨by omega⟩, ⟨a⟩, ⟨?_⟩, ⟨i + 1⟩, ⟨a⟩, ⟨by show _ - (i + 1) < _; omega⟩, wrap_succ (by omega), ?_⟩, fun b => ⟨⟨i + 1⟩, ⟨a⟩, ⟨by show _ - (i + 1) < _; omega⟩, wrap_succ (by omega), ?_⟩⟩
    · simp only [List.length_singleton]; omega
    · rw [if_neg b] at hs; exact hs.symm
    · rw [if_pos b] at hs; exact hs.symm
  · have : i = g.r.nets.length := by omega
    subst this
    rw [List.take_length]
    exact ⟨_, ⟨rfl⟩, trivial, trivial, trivial, rfl⟩

def vc44 : Prop := vc Try.f44.body Try.f44.results Try.f44.ntmps [(38, some sp38), (58, some sp58)] sp44 (fun _ => noAnn)
theorem vc44_is : vc44 = (
∀ (g : RefTx), Holds (InR IntKind.i64 g.tx) → Holds (InR IntKind.i64 g.r.lo) → Holds (InR IntKind.i64 g.r.hi) → Holds (InR IntKind.i64 g.r.base) → Holds (kN.slice.ok g.r.nets) → Holds (g.r.nets.length ≤ (1000000 : Nat)) → ∀ (r : Option Int), Holds (r = findN g.r.nets g.tx) → SplitB (!r.isSome) (∃ (r : SetOut), Holds (r = setR g.r g.tx) ∧ false = r.b ∧ g.r.lo = g.r.lo ∧ g.r.hi = g.r.hi ∧ g.r.base = r.st ∧ g.r.nets = r.nets) (Holds (g.r.nets.length ≤ (1000000 : Nat)) ∧ ∀ (r_1 : List (Int × Int)), Holds (r_1 = outN g.r.nets g.tx) → ∃ (r_2 : SetOut), Holds (r_2 = setR g.r g.tx) ∧ true = r_2.b ∧ g.r.lo = g.r.lo ∧ g.r.hi = g.r.hi ∧ IntKind.i64.wrap (g.r.base + r.getD (0 : Int)) = r_2.st ∧ r_1 = r_2.nets)) := by kernel_rfl
theorem ok44 : vc44 := by
  rw [vc44_is]
  intro g h1 h2 h3 h4 h5 h6 r hr
  have hr := hr.out
  subst hr
  simp only [splitB_iff]
  unfold setR
  cases hf : findN g.r.nets g.tx with
  | none => exact ⟨fun _ => ⟨_, ⟨rfl⟩, rfl, trivial, trivial, rfl, rfl⟩, fun h => by simp at h⟩
  | some n => exact ⟨fun h => by simp at h, fun _ => ⟨h6, fun r hr => ⟨_, ⟨rfl⟩, rfl, trivial, trivial, rfl, hr.out⟩⟩⟩

def vc45 : Prop := vc Try.f45.body Try.f45.results Try.f45.ntmps [(38, some sp38), (58, some sp58)] sp45 (fun _ => noAnn)
theorem vc45_is : vc45 = (
∀ (g : RefTx), Holds (InR IntKind.i64 g.tx) → Holds (InR IntKind.i64 g.r.lo) → Holds (InR IntKind.i64 g.r.hi) → Holds (InR IntKind.i64 g.r.base) → Holds (kN.slice.ok g.r.nets) → Holds (g.r.nets.length ≤ (1000000 : Nat)) → ∀ (r : Option Int), Holds (r = findN g.r.nets g.tx) → SplitB (!r.isSome) (∃ (r : SetOut), Holds (r = relR g.r g.tx) ∧ false = r.b ∧ g.r.lo = g.r.lo ∧ g.r.hi = g.r.hi ∧ g.r.base = r.st ∧ g.r.nets = r.nets) (Holds (g.r.nets.length ≤ (1000000 : Nat)) ∧ ∀ (r : List (Int × Int)), Holds (r = outN g.r.nets g.tx) → ∃ (r_1 : SetOut), Holds (r_1 = relR g.r g.tx) ∧ true = r_1.b ∧ g.r.lo = g.r.lo ∧ g.r.hi = g.r.hi ∧ g.r.base = r_1.st ∧ r = r_1.nets)) := by kernel_rfl
theorem ok45 : vc45 := by
  rw [vc45_is]
  intro g h1 h2 h3 h4 h5 h6 r hr
  have hr := hr.out
  subst hr
  simp only [splitB_iff]
  unfold relR
  cases hf : findN g.r.nets g.tx with
  | none => exact ⟨fun _ => ⟨_, ⟨rfl⟩, rfl, trivial, trivial, rfl, rfl⟩, fun h => by simp at h⟩
  | some n => exact ⟨fun h => by simp at h, fun _ => ⟨h6, fun r hr => ⟨_, ⟨rfl⟩, rfl, trivial, trivial, rfl, hr.out⟩⟩⟩

def vc46 : Prop := vc Try.f46.body Try.f46.results Try.f46.ntmps [] sp46 annRCopy
theorem vc46_is : vc46 = (
∀ (g : RefArg), Holds (InR IntKind.i64 g.r.lo) → Holds (InR IntKind.i64 g.r.hi) → Holds (InR IntKind.i64 g.r.base) → Holds (kN.slice.ok g.r.nets) → Holds (g.r.nets.length ≤ (1000000 : Nat)) → Holds (g.r.nets.length * (16 : Nat) ≤ (140737488355328 : Nat)) ∧ ∃ (r : List (Int × Int)), Holds (r = g.r.nets) ∧ g.r.lo = g.r.lo ∧ g.r.hi = g.r.hi ∧ g.r.base = g.r.base ∧ g.r.nets = r) := by kernel_rfl
theorem ok46 : vc46 := by
  rw [vc46_is]
  intro g h1 h2 h3 h4 h5
  have hl := h5.out
  exact ⟨⟨by omega⟩, _, ⟨rfl⟩, rfl, rfl, rfl, rfl⟩

end Go.Proofs.Ytljimnhijpcjaaa.VC
