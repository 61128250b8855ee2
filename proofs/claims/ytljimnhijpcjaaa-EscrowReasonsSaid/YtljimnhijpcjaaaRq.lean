/- What is to be shown of functions, shown. Plain lemmas; no conditions but those that each names. -/
import Derived.Test.YtljimnhijpcjaaaRp
import Derived.KernelRfl
set_option linter.unusedVariables false
set_option linter.unusedSimpArgs false
set_option linter.unusedSectionVars false
namespace Go.Proofs.Ytljimnhijpcjaaa.VC
open Go
set_option maxRecDepth 100000

def vc28 : Prop := vc Try.f28.body Try.f28.results Try.f28.ntmps [] sp28 (fun _ => noAnn)
theorem vc28_is : vc28 = (
∀ (g : RF), Holds (InR IntKind.i64 g.w.fst) → Holds (InR IntKind.i64 g.w.snd) → Holds (WFit g.w) → SplitB (decide (g.w.fst ≥ (-2147483648 : Int))) (decide (g.w.fst < (2147483648 : Int)) = decide (Num (wv g.w))) (false = decide (Num (wv g.w)))) := by kernel_rfl
theorem ok28 : vc28 := by
  rw [vc28_is]
  intro g h1 h2 h3
  obtain ⟨w1, w2, w3, w4⟩ := h3.out
  simp only [splitB_iff, decide_eq_true_eq, decide_eq_false_iff_not]
  refine ⟨fun a => ?_, fun a => ?_⟩
  · congr 1; apply propext; unfold Num wv; omega
  · symm; simp only [decide_eq_false_iff_not]; unfold Num wv; omega

def vc6 : Prop := vc Try.f6.body Try.f6.results Try.f6.ntmps [(9, some sp9), (14, some sp14), (24, some sp24), (15, some sp15), (18, some sp18), (20, some sp20), (19, some sp19), (25, some sp25), (21, some sp21), (22, some sp22), (26, some sp26), (27, some sp27), (28, some sp28)] sp6 ann6
theorem vc6_is : vc6 = (
∀ (g : ReArg), Holds (InR IntKind.i64 g.b.fst) → Holds (InR IntKind.i64 g.b.snd) → Holds (InR IntKind.i64 g.v) → Holds (kN.slice.ok g.d) → Holds (InR IntKind.i64 g.tx) → Holds (InR IntKind.i64 g.delta) → ∀ (r : Esc), Holds (r.Good ∧ (g.d = [] → r.nets = [])) → ∀ (r_1 : List (Int × Int)), Holds (r_1 = netsTo r.nets (8 : Nat)) → (∃ (x : ReAt), Holds (x.i ≤ (netsTo r.nets (8 : Nat)).length ∧ x.xs = othersTo (List.take x.i (netsTo r.nets (8 : Nat))) ((1 : Int) + g.tx % (8 : Int)) ∧ x.m = mineTo (List.take x.i (netsTo r.nets (8 : Nat))) ((1 : Int) + g.tx % (8 : Int))) ∧ (0 : Int) = (↑x.i : Int) ∧ (0 : Int) = x.m ∧ nilT (Int × Int) = x.xs) ∧ ∀ (x : ReAt), Holds (x.i ≤ (netsTo r.nets (8 : Nat)).length ∧ x.xs = othersTo (List.take x.i (netsTo r.nets (8 : Nat))) ((1 : Int) + g.tx % (8 : Int)) ∧ x.m = mineTo (List.take x.i (netsTo r.nets (8 : Nat))) ((1 : Int) + g.tx % (8 : Int))) → SplitB (decide ((↑x.i : Int) < (↑r_1.length : Int))) (Holds ((0 : Int) ≤ (↑x.i : Int)) ∧ Holds ((↑x.i : Int) < (↑r_1.length : Int)) ∧ Holds ((↑x.i : Int).toNat < r_1.length) ∧ SplitB ((r_1.getD (↑x.i : Int).toNat ((0 : Int), (0 : Int))).fst == (1 : Int) + g.tx % (8 : Int)) (Holds ((0 : Int) ≤ (↑x.i : Int)) ∧ Holds ((↑x.i : Int) < (↑r_1.length : Int)) ∧ Holds ((↑x.i : Int).toNat < r_1.length) ∧ ∃ (y : ReAt), Holds (y.i ≤ (netsTo r.nets (8 : Nat)).length ∧ y.xs = othersTo (List.take y.i (netsTo r.nets (8 : Nat))) ((1 : Int) + g.tx % (8 : Int)) ∧ y.m = mineTo (List.take y.i (netsTo r.nets (8 : Nat))) ((1 : Int) + g.tx % (8 : Int))) ∧ Holds ((netsTo r.nets (8 : Nat)).length - y.i < (netsTo r.nets (8 : Nat)).length - x.i) ∧ IntKind.i64.wrap ((↑x.i : Int) + (1 : Int)) = (↑y.i : Int) ∧ (r_1.getD (↑x.i : Int).toNat ((0 : Int), (0 : Int))).snd = y.m ∧ x.xs = y.xs) (Holds ((0 : Int) ≤ (↑x.i : Int)) ∧ Holds ((↑x.i : Int) < (↑r_1.length : Int)) ∧ Holds ((↑x.i : Int).toNat < r_1.length) ∧ Holds ((x.xs.length + [r_1.getD (↑x.i : Int).toNat ((0 : Int), (0 : Int))].length) * (16 : Nat) ≤ (140737488355328 : Nat)) ∧ ∃ (y : ReAt), Holds (y.i ≤ (netsTo r.nets (8 : Nat)).length ∧ y.xs = othersTo (List.take y.i (netsTo r.nets (8 : Nat))) ((1 : Int) + g.tx % (8 : Int)) ∧ y.m = mineTo (List.take y.i (netsTo r.nets (8 : Nat))) ((1 : Int) + g.tx % (8 : Int))) ∧ Holds ((netsTo r.nets (8 : Nat)).length - y.i < (netsTo r.nets (8 : Nat)).length - x.i) ∧ IntKind.i64.wrap ((↑x.i : Int) + (1 : Int)) = (↑y.i : Int) ∧ x.m = y.m ∧ x.xs ++ [r_1.getD (↑x.i : Int).toNat ((0 : Int), (0 : Int))] = y.xs)) ((∃ (x : SbAt), Holds (x.s ≤ (2 : Nat) ^ (othersTo (netsTo r.nets (8 : Nat)) ((1 : Int) + g.tx % (8 : Int))).length ∧ x.a = badAny r (othersTo (netsTo r.nets (8 : Nat)) ((1 : Int) + g.tx % (8 : Int))) (mineTo (netsTo r.nets (8 : Nat)) ((1 : Int) + g.tx % (8 : Int)) + g.delta) x.s) ∧ (0 : Int) = (↑x.s : Int) ∧ false = x.a) ∧ ∀ (x_1 : SbAt), Holds (x_1.s ≤ (2 : Nat) ^ (othersTo (netsTo r.nets (8 : Nat)) ((1 : Int) + g.tx % (8 : Int))).length ∧ x_1.a = badAny r (othersTo (netsTo r.nets (8 : Nat)) ((1 : Int) + g.tx % (8 : Int))) (mineTo (netsTo r.nets (8 : Nat)) ((1 : Int) + g.tx % (8 : Int)) + g.delta) x_1.s) → Holds ((0 : Int) ≤ bif decide (IntKind.i64 = IntKind.u64) then (↑x.xs.length : Int) else IntKind.u64.wrap (↑x.xs.length : Int)) ∧ SplitB (decide ((↑x_1.s : Int) < shlI IntKind.i64 (1 : Int) (bif decide (IntKind.i64 = IntKind.u64) then (↑x.xs.length : Int) else IntKind.u64.wrap (↑x.xs.length : Int)))) (Holds (x.xs.length ≤ (8 : Nat)) ∧ Holds ((0 : Int) ≤ (↑x_1.s : Int)) ∧ ∀ (r_2 : Int), Holds (r_2 = outV r.st x.xs (↑x_1.s : Int)) → Holds (WFit (r_2 / (4294967296 : Int), r_2 % (4294967296 : Int))) ∧ Holds (WFit ((wv (r_2 / (4294967296 : Int), r_2 % (4294967296 : Int)) + x.m) / (4294967296 : Int), (wv (r_2 / (4294967296 : Int), r_2 % (4294967296 : Int)) + x.m) % (4294967296 : Int))) ∧ SplitB x_1.a (∃ (y : SbAt), Holds (y.s ≤ (2 : Nat) ^ (othersTo (netsTo r.nets (8 : Nat)) ((1 : Int) + g.tx % (8 : Int))).length ∧ y.a = badAny r (othersTo (netsTo r.nets (8 : Nat)) ((1 : Int) + g.tx % (8 : Int))) (mineTo (netsTo r.nets (8 : Nat)) ((1 : Int) + g.tx % (8 : Int)) + g.delta) y.s) ∧ Holds ((2 : Nat) ^ (othersTo (netsTo r.nets (8 : Nat)) ((1 : Int) + g.tx % (8 : Int))).length - y.s < (2 : Nat) ^ (othersTo (netsTo r.nets (8 : Nat)) ((1 : Int) + g.tx % (8 : Int))).length - x_1.s) ∧ IntKind.i64.wrap ((↑x_1.s : Int) + (1 : Int)) = (↑y.s : Int) ∧ true = y.a) (Holds (WFit (r_2 / (4294967296 : Int), r_2 % (4294967296 : Int))) ∧ SplitB (decide (wv (r_2 / (4294967296 : Int), r_2 % (4294967296 : Int)) < r.lo)) (∃ (y : SbAt), Holds (y.s ≤ (2 : Nat) ^ (othersTo (netsTo r.nets (8 : Nat)) ((1 : Int) + g.tx % (8 : Int))).length ∧ y.a = badAny r (othersTo (netsTo r.nets (8 : Nat)) ((1 : Int) + g.tx % (8 : Int))) (mineTo (netsTo r.nets (8 : Nat)) ((1 : Int) + g.tx % (8 : Int)) + g.delta) y.s) ∧ Holds ((2 : Nat) ^ (othersTo (netsTo r.nets (8 : Nat)) ((1 : Int) + g.tx % (8 : Int))).length - y.s < (2 : Nat) ^ (othersTo (netsTo r.nets (8 : Nat)) ((1 : Int) + g.tx % (8 : Int))).length - x_1.s) ∧ IntKind.i64.wrap ((↑x_1.s : Int) + (1 : Int)) = (↑y.s : Int) ∧ true = y.a) (Holds (WFit (r_2 / (4294967296 : Int), r_2 % (4294967296 : Int))) ∧ SplitB (decide (wv (r_2 / (4294967296 : Int), r_2 % (4294967296 : Int)) > r.hi)) (∃ (y : SbAt), Holds (y.s ≤ (2 : Nat) ^ (othersTo (netsTo r.nets (8 : Nat)) ((1 : Int) + g.tx % (8 : Int))).length ∧ y.a = badAny r (othersTo (netsTo r.nets (8 : Nat)) ((1 : Int) + g.tx % (8 : Int))) (mineTo (netsTo r.nets (8 : Nat)) ((1 : Int) + g.tx % (8 : Int)) + g.delta) y.s) ∧ Holds ((2 : Nat) ^ (othersTo (netsTo r.nets (8 : Nat)) ((1 : Int) + g.tx % (8 : Int))).length - y.s < (2 : Nat) ^ (othersTo (netsTo r.nets (8 : Nat)) ((1 : Int) + g.tx % (8 : Int))).length - x_1.s) ∧ IntKind.i64.wrap ((↑x_1.s : Int) + (1 : Int)) = (↑y.s : Int) ∧ true = y.a) (Holds (WFit ((wv ((wv (r_2 / (4294967296 : Int), r_2 % (4294967296 : Int)) + x.m) / (4294967296 : Int), (wv (r_2 / (4294967296 : Int), r_2 % (4294967296 : Int)) + x.m) % (4294967296 : Int)) + g.delta) / (4294967296 : Int), (wv ((wv (r_2 / (4294967296 : Int), r_2 % (4294967296 : Int)) + x.m) / (4294967296 : Int), (wv (r_2 / (4294967296 : Int), r_2 % (4294967296 : Int)) + x.m) % (4294967296 : Int)) + g.delta) % (4294967296 : Int))) ∧ SplitB (decide (wv ((wv ((wv (r_2 / (4294967296 : Int), r_2 % (4294967296 : Int)) + x.m) / (4294967296 : Int), (wv (r_2 / (4294967296 : Int), r_2 % (4294967296 : Int)) + x.m) % (4294967296 : Int)) + g.delta) / (4294967296 : Int), (wv ((wv (r_2 / (4294967296 : Int), r_2 % (4294967296 : Int)) + x.m) / (4294967296 : Int), (wv (r_2 / (4294967296 : Int), r_2 % (4294967296 : Int)) + x.m) % (4294967296 : Int)) + g.delta) % (4294967296 : Int)) < r.lo)) (∃ (y : SbAt), Holds (y.s ≤ (2 : Nat) ^ (othersTo (netsTo r.nets (8 : Nat)) ((1 : Int) + g.tx % (8 : Int))).length ∧ y.a = badAny r (othersTo (netsTo r.nets (8 : Nat)) ((1 : Int) + g.tx % (8 : Int))) (mineTo (netsTo r.nets (8 : Nat)) ((1 : Int) + g.tx % (8 : Int)) + g.delta) y.s) ∧ Holds ((2 : Nat) ^ (othersTo (netsTo r.nets (8 : Nat)) ((1 : Int) + g.tx % (8 : Int))).length - y.s < (2 : Nat) ^ (othersTo (netsTo r.nets (8 : Nat)) ((1 : Int) + g.tx % (8 : Int))).length - x_1.s) ∧ IntKind.i64.wrap ((↑x_1.s : Int) + (1 : Int)) = (↑y.s : Int) ∧ true = y.a) (Holds (WFit ((wv ((wv (r_2 / (4294967296 : Int), r_2 % (4294967296 : Int)) + x.m) / (4294967296 : Int), (wv (r_2 / (4294967296 : Int), r_2 % (4294967296 : Int)) + x.m) % (4294967296 : Int)) + g.delta) / (4294967296 : Int), (wv ((wv (r_2 / (4294967296 : Int), r_2 % (4294967296 : Int)) + x.m) / (4294967296 : Int), (wv (r_2 / (4294967296 : Int), r_2 % (4294967296 : Int)) + x.m) % (4294967296 : Int)) + g.delta) % (4294967296 : Int))) ∧ ∃ (y : SbAt), Holds (y.s ≤ (2 : Nat) ^ (othersTo (netsTo r.nets (8 : Nat)) ((1 : Int) + g.tx % (8 : Int))).length ∧ y.a = badAny r (othersTo (netsTo r.nets (8 : Nat)) ((1 : Int) + g.tx % (8 : Int))) (mineTo (netsTo r.nets (8 : Nat)) ((1 : Int) + g.tx % (8 : Int)) + g.delta) y.s) ∧ Holds ((2 : Nat) ^ (othersTo (netsTo r.nets (8 : Nat)) ((1 : Int) + g.tx % (8 : Int))).length - y.s < (2 : Nat) ^ (othersTo (netsTo r.nets (8 : Nat)) ((1 : Int) + g.tx % (8 : Int))).length - x_1.s) ∧ IntKind.i64.wrap ((↑x_1.s : Int) + (1 : Int)) = (↑y.s : Int) ∧ decide (wv ((wv ((wv (r_2 / (4294967296 : Int), r_2 % (4294967296 : Int)) + x.m) / (4294967296 : Int), (wv (r_2 / (4294967296 : Int), r_2 % (4294967296 : Int)) + x.m) % (4294967296 : Int)) + g.delta) / (4294967296 : Int), (wv ((wv (r_2 / (4294967296 : Int), r_2 % (4294967296 : Int)) + x.m) / (4294967296 : Int), (wv (r_2 / (4294967296 : Int), r_2 % (4294967296 : Int)) + x.m) % (4294967296 : Int)) + g.delta) % (4294967296 : Int)) > r.hi) = y.a))))) (Holds (r.nets.length ≤ (1000000 : Nat)) ∧ ∀ (r_2 : Int), Holds (r_2 = mayF r ((1 : Int) + g.tx % (8 : Int)) g.delta) → SplitB (!(r_2 == (110 : Int)) == x_1.a) (false = true) (Holds (WFit (x.m / (4294967296 : Int), x.m % (4294967296 : Int))) ∧ Holds (WFit ((wv (x.m / (4294967296 : Int), x.m % (4294967296 : Int)) + g.delta) / (4294967296 : Int), (wv (x.m / (4294967296 : Int), x.m % (4294967296 : Int)) + g.delta) % (4294967296 : Int))) ∧ SplitB x_1.a (true = true) (SplitB ((r_2 == (0 : Int)) == decide (Num (wv ((wv (x.m / (4294967296 : Int), x.m % (4294967296 : Int)) + g.delta) / (4294967296 : Int), (wv (x.m / (4294967296 : Int), x.m % (4294967296 : Int)) + g.delta) % (4294967296 : Int))))) (((r_2 == (10 : Int)) == !decide (Num (wv ((wv (x.m / (4294967296 : Int), x.m % (4294967296 : Int)) + g.delta) / (4294967296 : Int), (wv (x.m / (4294967296 : Int), x.m % (4294967296 : Int)) + g.delta) % (4294967296 : Int))))) = true) (false = true)))))) := by kernel_rfl
theorem ok6 : vc6 := by
  rw [vc6_is]
  intro g h1 h2 h3 h4 h5 h6 e he
  have hd := h6.out
  rw [inNum] at hd
  have hg := he.out.1
  have tb := mod_in g.tx (m := 8) (by decide)
  have F := net_facts hg
  have ln := good_len hg
  have MI := mine_all hg (1 + g.tx % 8)
  have BI := fun d => @bad_iff e hg (1 + g.tx % 8) d (by omega)
  have MS := may_says hg (t := 1 + g.tx % 8) (d := g.delta) (by omega) (by omega) hd
  intro l hl
  have hl := hl.out
  subst hl
  generalize 1 + g.tx % 8 = t at *
  generalize netsTo e.nets 8 = l at *
  have mT : ∀ i, i < l.length → ∀ z, mineTo (l.take (i + 1)) t = if (l.getD i z).1 = t then (l.getD i z).2 else mineTo (l.take i) t := fun i h z => by rw [take_succ_get h z, mine_snoc]
  have oT : ∀ i, i < l.length → ∀ z, othersTo (l.take (i + 1)) t = if (l.getD i z).1 = t then othersTo (l.take i) t else othersTo (l.take i) t ++ [l.getD i z] := fun i h z => by rw [take_succ_get h z, others_snoc]
  have f8 := F.len
  have ol : ∀ m : List (Int × Int), (othersTo m t).length ≤ m.length := fun m => List.length_filter_le ..
  refine ⟨⟨⟨0, [], 0⟩, ⟨Nat.zero_le _, rfl, rfl⟩, rfl, rfl, rfl⟩, fun x hx => ?_⟩
  obtain ⟨i, xs, m⟩ := x
  obtain ⟨k1, k2, k3⟩ := hx.out
  dsimp only at k1 k2 k3 ⊢
  refine ⟨fun a => ?_, fun a => ?_⟩
  · have a : i < l.length := by simpa using a
    refine ⟨⟨by omega⟩, ⟨by omega⟩, ⟨a⟩, fun b => ⟨⟨by omega⟩, ⟨by omega⟩, ⟨a⟩, ⟨i + 1, xs, _⟩, ⟨a, ?_, ?_⟩, ⟨by show _ - (i + 1) < _; omega⟩, wrap_succ (by omega), rfl, rfl⟩, fun b => ⟨⟨by omega⟩, ⟨by omega⟩, ⟨a⟩, ⟨?_⟩, ⟨i + 1, _, m⟩, ⟨a, ?_, ?_⟩, ⟨by show _ - (i + 1) < _; omega⟩, wrap_succ (by omega), rfl, rfl⟩⟩
    · have b : (l.getD i (0, 0)).1 = t := by simpa using b
      show xs = othersTo (l.take (i + 1)) t
      rw [oT i a (0, 0), if_pos b, k2]
    · have b : (l.getD i (0, 0)).1 = t := by simpa using b
      show _ = mineTo (l.take (i + 1)) t
      rw [mT i a (0, 0), if_pos b]; rfl
    · have := ol (l.take i)
      rw [← k2, List.length_take] at this
      simp only [List.length_singleton]; omega
    · have b : ¬ (l.getD i (0, 0)).1 = t := by simpa using b
      show _ = othersTo (l.take (i + 1)) t
      rw [oT i a (0, 0), if_neg b, k2]; rfl
    · have b : ¬ (l.getD i (0, 0)).1 = t := by simpa using b
      show m = mineTo (l.take (i + 1)) t
      rw [mT i a (0, 0), if_neg b, k3]
  · have a : ¬ i < l.length := by simpa using a
    have : i = l.length := by omega
    subst this
    rw [List.take_length] at k2 k3
    rw [MI] at k3
    subst k2 k3
    have oll := ol l
    have su : (bif decide (IntKind.i64 = IntKind.u64) then ((othersTo l t).length : Int) else IntKind.u64.wrap ((othersTo l t).length : Int)) = ((othersTo l t).length : Int) := u64_small (by omega)
    have sl : shlI .i64 1 ((othersTo l t).length : Int) = 2 ^ (othersTo l t).length := shl_pow _ (by omega) _ rfl
    have p8 := pow8 (n := (othersTo l t).length) (by omega)
    have okO : Ty.ok (.slice kN) (othersTo l t) := ⟨by rw [maxLen_is]; omega, fun p hp => F.ok.2 p (List.mem_filter.1 hp).1⟩
    simp only [su, sl]
    rw [MI] at *
    have bs : InR .i64 e.st := by
      have a := hg.lo; have b := hg.hi; have c := hg.b1; have d := hg.b2; have st := good_st hg
      rw [inR64]; unfold Num at *; omega
    have hn : Num (netOf e.nets t) := by
      unfold netOf
      cases hm : mgI e.nets t with
      | none => show Num 0; unfold Num; omega
      | some v => exact hg.nums _ (mget_mem (q := .i64) (v := kI) hm)
    have oi : ∀ s : Int, -92233720368547758080 ≤ outV e.st (othersTo l t) s ∧ outV e.st (othersTo l t) s ≤ 92233720368547758080 := fun s => by
      have h1 := outV_in e.st (othersTo l t) s
      have h2 := low_bound _ (nums_snd okO)
      have h3 := high_bound _ (nums_snd okO)
      rw [List.length_map] at h2 h3
      rw [inR64] at bs
      omega
    have wf : ∀ v : Int, -184467440737095516160 ≤ v → v ≤ 184467440737095516160 → WFit (v / 4294967296, v % 4294967296) := fun v a b => by unfold WFit; simp only; omega
    simp only [wv_w]
    refine ⟨⟨⟨0, false⟩, ⟨Nat.zero_le _, rfl⟩, rfl, rfl⟩, fun y hy => ?_⟩
    obtain ⟨s, A⟩ := y
    obtain ⟨q1, q2⟩ := hy.out
    dsimp only at q1 q2 ⊢
    refine ⟨⟨by omega⟩, fun b => ?_, fun b => ?_⟩
    · have b : (s : Int) < 2 ^ (othersTo l t).length := by simpa using b
      refine ⟨⟨by omega⟩, ⟨by omega⟩, fun o ho => ?_⟩
      have ho := ho.out
      subst ho
      have o1 := oi (s : Int)
      have hn' := hn
      have hd' := hd
      unfold Num at hn' hd'
      have w1 := wf (outV e.st (othersTo l t) (s : Int)) (by omega) (by omega)
      have w2 := wf (outV e.st (othersTo l t) (s : Int) + netOf e.nets t) (by omega) (by omega)
      have w3 := wf (outV e.st (othersTo l t) (s : Int) + netOf e.nets t + g.delta) (by omega) (by omega)
      have go : ∀ A' : Bool, A' = badAny e (othersTo l t) (netOf e.nets t + g.delta) (s + 1) → ∃ y : SbAt, Holds (y.s ≤ 2 ^ (othersTo l t).length ∧ y.a = badAny e (othersTo l t) (netOf e.nets t + g.delta) y.s) ∧ Holds (2 ^ (othersTo l t).length - y.s < 2 ^ (othersTo l t).length - s) ∧ IntKind.i64.wrap ((s : Int) + 1) = (y.s : Int) ∧ A' = y.a := fun A' hA => ⟨⟨s + 1, A'⟩, ⟨by show s + 1 ≤ _; omega, hA⟩, ⟨by show _ - (s + 1) < _; omega⟩, wrap_succ (by omega), rfl⟩
      have bs' : badAny e (othersTo l t) (netOf e.nets t + g.delta) (s + 1) = (A || badB e (othersTo l t) (netOf e.nets t + g.delta) s) := by rw [badAny_succ, ← q2]
      have bb : badB e (othersTo l t) (netOf e.nets t + g.delta) s = (decide (outV e.st (othersTo l t) (s : Int) < e.lo) || decide (outV e.st (othersTo l t) (s : Int) > e.hi) || (decide (outV e.st (othersTo l t) (s : Int) + netOf e.nets t + g.delta < e.lo) || decide (outV e.st (othersTo l t) (s : Int) + netOf e.nets t + g.delta > e.hi))) := by unfold badB outB; rw [Int.add_assoc]
      rw [bb] at bs'
      refine ⟨⟨w1⟩, ⟨w2⟩, fun c => go _ (by rw [bs', c]; rfl), fun c => ⟨⟨w1⟩, fun d => go _ (by rw [bs', d]; simp), fun d => ⟨⟨w1⟩, fun f => go _ (by rw [bs', f]; simp), fun f => ⟨⟨w3⟩, fun k => go _ (by rw [bs', k]; simp), fun k => ⟨⟨w3⟩, go _ (by rw [bs', c, d, f, k]; simp)⟩⟩⟩⟩⟩
    · have b : ¬ (s : Int) < 2 ^ (othersTo l t).length := by simpa using b
      have es : s = 2 ^ (othersTo l t).length := by omega
      subst es
      have B := BI (netOf e.nets t + g.delta)
      rw [← q2] at B
      refine ⟨⟨by omega⟩, fun r hr => ?_⟩
      have hr := hr.out
      rw [MS] at hr
      have hn' := hn
      have hd' := hd
      unfold Num at hn' hd'
      have an : (ans (netOf e.nets t + g.delta)).2 = if Num (netOf e.nets t + g.delta) then 0 else 10 := by
        by_cases h : Num (netOf e.nets t + g.delta)
        · rw [ans_yes h, if_pos h]
        · rw [ans_no h, if_neg h]
      rw [an] at hr
      have w1 := wf (netOf e.nets t) (by omega) (by omega)
      have w2 := wf (netOf e.nets t + g.delta) (by omega) (by omega)
      cases A with
      | true =>
        rw [if_pos (B.1 rfl)] at hr
        subst hr
        exact ⟨fun h => by simp at h, fun _ => ⟨⟨w1⟩, ⟨w2⟩, fun _ => by trivial, fun h => by simp at h⟩⟩
      | false =>
        rw [if_neg (fun h => by have := B.2 h; cases this)] at hr
        by_cases h : Num (netOf e.nets t + g.delta)
        · rw [if_pos h] at hr
          subst hr
          refine ⟨fun k => by simp at k, fun _ => ⟨⟨w1⟩, ⟨w2⟩, fun k => by simp at k, fun _ => ⟨fun _ => by simp [h], fun k => by simp [h] at k⟩⟩⟩
        · rw [if_neg h] at hr
          subst hr
          refine ⟨fun k => by simp at k, fun _ => ⟨⟨w1⟩, ⟨w2⟩, fun k => by simp at k, fun _ => ⟨fun _ => by simp [h], fun k => by simp [h] at k⟩⟩⟩

end Go.Proofs.Ytljimnhijpcjaaa.VC
