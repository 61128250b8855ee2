/- What is to be shown of functions, shown. Plain lemmas; no conditions but those that each names. -/
import Derived.Test.YtljimnhijpcjaaaLo
import Derived.KernelRfl
set_option linter.unusedVariables false
set_option linter.unusedSimpArgs false
set_option linter.unusedSectionVars false
namespace Go.Proofs.Ytljimnhijpcjaaa.VC
open Go
set_option maxRecDepth 100000

theorem lowAny_succ (b : Int) (l : List (Int × Int)) (n : Nat) (lo : Int) : lowAny b l (n + 1) lo = (lowAny b l n lo || decide (outV b l (n : Int) ≤ lo)) := by
  unfold lowAny; rw [List.range_succ, List.any_append]; simp
theorem highAny_succ (b : Int) (l : List (Int × Int)) (n : Nat) (hi : Int) : highAny b l (n + 1) hi = (highAny b l n hi || decide (hi ≤ outV b l (n : Int))) := by
  unfold highAny; rw [List.range_succ, List.any_append]; simp
theorem lowAny_all {b : Int} {l : List (Int × Int)} {lo : Int} (h : b + lowS (l.map (·.2)) = lo) : lowAny b l (2 ^ l.length) lo = true := by
  obtain ⟨s, h1, h2, h3⟩ := ex_low b l
  unfold lowAny
  rw [List.any_eq_true]
  have hc : ((2 ^ l.length : Nat) : Int) = 2 ^ l.length := by simp
  refine ⟨s.toNat, List.mem_range.2 (by omega), ?_⟩
  have : ((s.toNat : Nat) : Int) = s := by omega
  simp only [decide_eq_true_eq]
  rw [this, h3, h]; exact Int.le_refl _
theorem highAny_all {b : Int} {l : List (Int × Int)} {hi : Int} (h : b + highS (l.map (·.2)) = hi) : highAny b l (2 ^ l.length) hi = true := by
  obtain ⟨s, h1, h2, h3⟩ := ex_high b l
  unfold highAny
  rw [List.any_eq_true]
  have hc : ((2 ^ l.length : Nat) : Int) = 2 ^ l.length := by simp
  refine ⟨s.toNat, List.mem_range.2 (by omega), ?_⟩
  have : ((s.toNat : Nat) : Int) = s := by omega
  simp only [decide_eq_true_eq]
  rw [this, h3, h]; exact Int.le_refl _
/-- What is known of the holders' list of a good escrow. -/
structure NetFacts (e : Esc) (l : List (Int × Int)) : Prop where
  ok : Ty.ok (.slice kN) l
  len : l.length ≤ 8
  low : e.st + lowS (l.map (·.2)) = e.st + lowS (valsOf e.nets)
  high : e.st + highS (l.map (·.2)) = e.st + highS (valsOf e.nets)
  sum : (l.map (·.2)).sum = (valsOf e.nets).sum
theorem net_facts {e : Esc} (h : e.Good) : NetFacts e (netsTo e.nets 8) := by
  have hp := nets_vals h
  have hl := netsTo_len e.nets 8
  refine ⟨⟨by rw [maxLen_is]; omega, fun p hp => ?_⟩, hl, by rw [lowS_perm hp], by rw [highS_perm hp], perm_sum hp⟩
  have := netsTo_mem.1 hp
  have hm := mget_mem (q := .i64) (v := kI) this.2
  exact ⟨⟨Int.le_trans (show (-9223372036854775808 : Int) ≤ 1 by decide) this.1.1, Int.le_trans this.1.2 (show (8 : Int) ≤ 9223372036854775807 by decide)⟩, h.nums p hm⟩
theorem pow8 {n : Nat} (h : n ≤ 8) : (2 : Int) ^ n ≤ 256 ∧ (2 : Nat) ^ n ≤ 256 ∧ ((2 ^ n : Nat) : Int) = 2 ^ n ∧ 1 ≤ (2 : Int) ^ n := by
  have h1 : (2 : Nat) ^ n ≤ 2 ^ 8 := Nat.pow_le_pow_right (by decide) h
  have hc : ((2 ^ n : Nat) : Int) = 2 ^ n := by simp
  have := pow_pos' n
  refine ⟨?_, ?_, hc, by omega⟩ <;> omega
def vc5 : Prop := vc Try.f5.body Try.f5.results Try.f5.ntmps [(9, some sp9), (14, some sp14), (15, some sp15), (16, some sp16), (17, some sp17), (18, some sp18), (20, some sp20), (19, some sp19), (21, some sp21), (22, some sp22), (23, some sp23)] sp5 ann5
theorem vc5_is : vc5 = (
∀ (g : MadeArg), Holds (InR IntKind.i64 g.b.fst) → Holds (InR IntKind.i64 g.b.snd) → Holds (InR IntKind.i64 g.v) → Holds (kN.slice.ok g.d) → ∀ (r : Esc), Holds (r.Good ∧ (g.d = [] → r.nets = [])) → ∀ (r_1 : List (Int × Int)), Holds (r_1 = netsTo r.nets (8 : Nat)) → Holds (r.nets.length ≤ (1000000 : Nat)) ∧ ∀ (r_2 : List Int), Holds (r_2 = rising (keysOf r.nets)) → SplitB ((↑r_2.length : Int) != (↑r_1.length : Int)) (false = true) ((∃ (x : At), Holds (x.i ≤ (8 : Nat)) ∧ (0 : Int) = (↑x.i : Int)) ∧ ∀ (x : At), Holds (x.i ≤ (8 : Nat)) → SplitB (decide ((↑x.i : Int) < (↑r_1.length : Int))) (Holds ((0 : Int) ≤ (↑x.i : Int)) ∧ Holds ((↑x.i : Int) < (↑r_2.length : Int)) ∧ Holds ((↑x.i : Int).toNat < r_2.length) ∧ Holds ((0 : Int) ≤ (↑x.i : Int)) ∧ Holds ((↑x.i : Int) < (↑r_1.length : Int)) ∧ Holds ((↑x.i : Int).toNat < r_1.length) ∧ SplitB (r_2.getD (↑x.i : Int).toNat ((0 : Int)) != (r_1.getD (↑x.i : Int).toNat ((0 : Int), (0 : Int))).fst) (false = true) (∃ (y : At), Holds (y.i ≤ (8 : Nat)) ∧ Holds ((8 : Nat) - y.i < (8 : Nat) - x.i) ∧ IntKind.i64.wrap ((↑x.i : Int) + (1 : Int)) = (↑y.i : Int))) (Holds (r.nets.length ≤ (1000000 : Nat)) ∧ ∀ (r_3 : Int × Int × Int), Holds (r_3 = worstF r.st (valsOf r.nets)) → (∃ (x : SetAt), Holds (x.s ≤ (2 : Nat) ^ (netsTo r.nets (8 : Nat)).length ∧ x.a = lowAny r.st (netsTo r.nets (8 : Nat)) x.s (r.st + lowS (valsOf r.nets)) ∧ x.b = highAny r.st (netsTo r.nets (8 : Nat)) x.s (r.st + highS (valsOf r.nets))) ∧ (0 : Int) = (↑x.s : Int) ∧ false = x.a ∧ false = x.b) ∧ ∀ (x : SetAt), Holds (x.s ≤ (2 : Nat) ^ (netsTo r.nets (8 : Nat)).length ∧ x.a = lowAny r.st (netsTo r.nets (8 : Nat)) x.s (r.st + lowS (valsOf r.nets)) ∧ x.b = highAny r.st (netsTo r.nets (8 : Nat)) x.s (r.st + highS (valsOf r.nets))) → Holds ((0 : Int) ≤ bif decide (IntKind.i64 = IntKind.u64) then (↑r_1.length : Int) else IntKind.u64.wrap (↑r_1.length : Int)) ∧ SplitB (decide ((↑x.s : Int) < shlI IntKind.i64 (1 : Int) (bif decide (IntKind.i64 = IntKind.u64) then (↑r_1.length : Int) else IntKind.u64.wrap (↑r_1.length : Int)))) (Holds (r_1.length ≤ (8 : Nat)) ∧ Holds ((0 : Int) ≤ (↑x.s : Int)) ∧ ∀ (r_4 : Int), Holds (r_4 = outV r.st r_1 (↑x.s : Int)) → Holds (WFit (r_4 / (4294967296 : Int), r_4 % (4294967296 : Int))) ∧ SplitB (decide (wv (r_4 / (4294967296 : Int), r_4 % (4294967296 : Int)) < r.lo)) (false = true) (Holds (WFit (r_4 / (4294967296 : Int), r_4 % (4294967296 : Int))) ∧ SplitB (decide (wv (r_4 / (4294967296 : Int), r_4 % (4294967296 : Int)) > r.hi)) (false = true) (Holds (WFit (r_4 / (4294967296 : Int), r_4 % (4294967296 : Int))) ∧ SplitB (decide (wv (r_4 / (4294967296 : Int), r_4 % (4294967296 : Int)) < r_3.fst)) (false = true) (Holds (WFit (r_4 / (4294967296 : Int), r_4 % (4294967296 : Int))) ∧ SplitB (decide (wv (r_4 / (4294967296 : Int), r_4 % (4294967296 : Int)) > r_3.snd.fst)) (false = true) (SplitB x.a (SplitB x.b (∃ (y : SetAt), Holds (y.s ≤ (2 : Nat) ^ (netsTo r.nets (8 : Nat)).length ∧ y.a = lowAny r.st (netsTo r.nets (8 : Nat)) y.s (r.st + lowS (valsOf r.nets)) ∧ y.b = highAny r.st (netsTo r.nets (8 : Nat)) y.s (r.st + highS (valsOf r.nets))) ∧ Holds ((2 : Nat) ^ (netsTo r.nets (8 : Nat)).length - y.s < (2 : Nat) ^ (netsTo r.nets (8 : Nat)).length - x.s) ∧ IntKind.i64.wrap ((↑x.s : Int) + (1 : Int)) = (↑y.s : Int) ∧ true = y.a ∧ true = y.b) (Holds (WFit (r_4 / (4294967296 : Int), r_4 % (4294967296 : Int))) ∧ ∃ (y : SetAt), Holds (y.s ≤ (2 : Nat) ^ (netsTo r.nets (8 : Nat)).length ∧ y.a = lowAny r.st (netsTo r.nets (8 : Nat)) y.s (r.st + lowS (valsOf r.nets)) ∧ y.b = highAny r.st (netsTo r.nets (8 : Nat)) y.s (r.st + highS (valsOf r.nets))) ∧ Holds ((2 : Nat) ^ (netsTo r.nets (8 : Nat)).length - y.s < (2 : Nat) ^ (netsTo r.nets (8 : Nat)).length - x.s) ∧ IntKind.i64.wrap ((↑x.s : Int) + (1 : Int)) = (↑y.s : Int) ∧ true = y.a ∧ (!decide (wv (r_4 / (4294967296 : Int), r_4 % (4294967296 : Int)) < r_3.snd.fst)) = y.b)) (Holds (WFit (r_4 / (4294967296 : Int), r_4 % (4294967296 : Int))) ∧ SplitB x.b (∃ (y : SetAt), Holds (y.s ≤ (2 : Nat) ^ (netsTo r.nets (8 : Nat)).length ∧ y.a = lowAny r.st (netsTo r.nets (8 : Nat)) y.s (r.st + lowS (valsOf r.nets)) ∧ y.b = highAny r.st (netsTo r.nets (8 : Nat)) y.s (r.st + highS (valsOf r.nets))) ∧ Holds ((2 : Nat) ^ (netsTo r.nets (8 : Nat)).length - y.s < (2 : Nat) ^ (netsTo r.nets (8 : Nat)).length - x.s) ∧ IntKind.i64.wrap ((↑x.s : Int) + (1 : Int)) = (↑y.s : Int) ∧ (!decide (wv (r_4 / (4294967296 : Int), r_4 % (4294967296 : Int)) > r_3.fst)) = y.a ∧ true = y.b) (Holds (WFit (r_4 / (4294967296 : Int), r_4 % (4294967296 : Int))) ∧ ∃ (y : SetAt), Holds (y.s ≤ (2 : Nat) ^ (netsTo r.nets (8 : Nat)).length ∧ y.a = lowAny r.st (netsTo r.nets (8 : Nat)) y.s (r.st + lowS (valsOf r.nets)) ∧ y.b = highAny r.st (netsTo r.nets (8 : Nat)) y.s (r.st + highS (valsOf r.nets))) ∧ Holds ((2 : Nat) ^ (netsTo r.nets (8 : Nat)).length - y.s < (2 : Nat) ^ (netsTo r.nets (8 : Nat)).length - x.s) ∧ IntKind.i64.wrap ((↑x.s : Int) + (1 : Int)) = (↑y.s : Int) ∧ (!decide (wv (r_4 / (4294967296 : Int), r_4 % (4294967296 : Int)) > r_3.fst)) = y.a ∧ (!decide (wv (r_4 / (4294967296 : Int), r_4 % (4294967296 : Int)) < r_3.snd.fst)) = y.b))))))) (Holds ((0 : Int) ≤ bif decide (IntKind.i64 = IntKind.u64) then (↑r_1.length : Int) else IntKind.u64.wrap (↑r_1.length : Int)) ∧ Holds (r_1.length ≤ (8 : Nat)) ∧ Holds ((0 : Int) ≤ IntKind.i64.wrap (shlI IntKind.i64 (1 : Int) (bif decide (IntKind.i64 = IntKind.u64) then (↑r_1.length : Int) else IntKind.u64.wrap (↑r_1.length : Int)) - (1 : Int))) ∧ ∀ (r_4 : Int), Holds (r_4 = outV r.st r_1 (IntKind.i64.wrap (shlI IntKind.i64 (1 : Int) (bif decide (IntKind.i64 = IntKind.u64) then (↑r_1.length : Int) else IntKind.u64.wrap (↑r_1.length : Int)) - (1 : Int)))) → SplitB x.a (SplitB x.b (Holds (r.nets.length ≤ (1000000 : Nat)) ∧ ∀ (r_5 : Int), Holds (r_5 = (ans (r.st + (valsOf r.nets).sum)).fst) → Holds (WFit (r_4 / (4294967296 : Int), r_4 % (4294967296 : Int))) ∧ SplitB (!decide (wv (r_4 / (4294967296 : Int), r_4 % (4294967296 : Int)) < r_5)) (Holds (r.nets.length ≤ (1000000 : Nat)) ∧ ∀ (r_6 : Int), Holds (r_6 = (ans (r.st + (valsOf r.nets).sum)).fst) → Holds (WFit (r_4 / (4294967296 : Int), r_4 % (4294967296 : Int))) ∧ (!decide (wv (r_4 / (4294967296 : Int), r_4 % (4294967296 : Int)) > r_6)) = true) (false = true)) (false = true)) (false = true))))) := by kernel_rfl
theorem ok5 : vc5 := by
  rw [vc5_is]
  intro g h1 h2 h3 h4 e he
  have hg := he.out.1
  have F := net_facts hg
  have st := good_st hg
  have ln := good_len hg
  have wg := worst_good hg
  intro l hl
  have hl := hl.out
  subst hl
  have kn := nets_keys hg
  generalize netsTo e.nets 8 = l at *
  have p8 := pow8 F.len
  have su : (bif decide (IntKind.i64 = IntKind.u64) then (l.length : Int) else IntKind.u64.wrap (l.length : Int)) = (l.length : Int) := u64_small (by have := F.len; omega)
  have sl : shlI .i64 1 (l.length : Int) = 2 ^ l.length := shl_pow l.length (by have := F.len; omega) _ rfl
  rw [su, sl]
  have bs : InR .i64 e.st := by
    have a := hg.lo; have b := hg.hi; have c := hg.b1; have d := hg.b2
    rw [inR64]; unfold Num at *; omega
  have wf : ∀ s : Int, WFit (outV e.st l s / 4294967296, outV e.st l s % 4294967296) := fun s => outTo_fit bs F.ok F.len (Nat.le_refl _)
  have oi : ∀ s : Int, e.st + lowS (valsOf e.nets) ≤ outV e.st l s ∧ outV e.st l s ≤ e.st + highS (valsOf e.nets) := fun s => by
    have := outV_in e.st l s
    rw [F.low, F.high] at this
    exact this
  refine ⟨⟨by omega⟩, fun ks hks => ?_⟩
  have hks := hks.out
  rw [kn] at hks
  subst hks
  refine ⟨fun h => by simp at h, fun _ => ⟨⟨⟨0⟩, ⟨by decide⟩, rfl⟩, fun x hx => ⟨fun a => ?_, fun a => ⟨⟨by omega⟩, fun w hw => ?_⟩⟩⟩⟩
  · have a : x.i < l.length := by simpa using a
    have ge : (l.map (·.1)).getD x.i 0 = (l.getD x.i (0, 0)).1 := by simp [List.getD, a]
    simp only [List.length_map, Int.toNat_natCast, ge]
    have f8 := F.len
    exact ⟨⟨by omega⟩, ⟨by omega⟩, ⟨a⟩, ⟨by omega⟩, ⟨by omega⟩, ⟨a⟩, fun h => by simp at h, fun _ => ⟨⟨x.i + 1⟩, ⟨by show x.i + 1 ≤ 8; omega⟩, ⟨by show 8 - (x.i + 1) < _; omega⟩, wrap_succ (by omega)⟩⟩
  · have hw := hw.out
    rw [wg] at hw
    subst hw
    refine ⟨⟨⟨0, false, false⟩, ⟨Nat.zero_le _, rfl, rfl⟩, rfl, rfl, rfl⟩, fun x hx => ?_⟩
    obtain ⟨s, A, B⟩ := x
    obtain ⟨k1, k2, k3⟩ := hx.out
    simp only at k1 k2 k3
    refine ⟨⟨by omega⟩, fun b => ?_, fun b => ?_⟩
    · have b : (s : Int) < 2 ^ l.length := by simpa using b
      refine ⟨⟨F.len⟩, ⟨by omega⟩, fun o ho => ?_⟩
      have ho := ho.out
      subst ho
      have w := wf (s : Int)
      have o1 := oi (s : Int)
      have gl := hg.lo
      have gh := hg.hi
      simp only [wv_w]
      have go : ∀ A' B' : Bool, A' = lowAny e.st l (s + 1) (e.st + lowS (valsOf e.nets)) → B' = highAny e.st l (s + 1) (e.st + highS (valsOf e.nets)) → ∃ y : SetAt, Holds (y.s ≤ 2 ^ l.length ∧ y.a = lowAny e.st l y.s (e.st + lowS (valsOf e.nets)) ∧ y.b = highAny e.st l y.s (e.st + highS (valsOf e.nets))) ∧ Holds (2 ^ l.length - y.s < 2 ^ l.length - s) ∧ IntKind.i64.wrap ((s : Int) + 1) = (y.s : Int) ∧ A' = y.a ∧ B' = y.b := fun A' B' hA hB => ⟨⟨s + 1, A', B'⟩, ⟨by show s + 1 ≤ _; omega, hA, hB⟩, ⟨by show _ - (s + 1) < _; omega⟩, wrap_succ (by omega), rfl, rfl⟩
      have a2 : (!decide (outV e.st l (s : Int) > e.st + lowS (valsOf e.nets))) = decide (outV e.st l (s : Int) ≤ e.st + lowS (valsOf e.nets)) := by rw [Bool.eq_iff_iff]; simp
      have b2 : (!decide (outV e.st l (s : Int) < e.st + highS (valsOf e.nets))) = decide (e.st + highS (valsOf e.nets) ≤ outV e.st l (s : Int)) := by rw [Bool.eq_iff_iff]; simp
      rw [a2, b2]
      have aT : A = true → true = lowAny e.st l (s + 1) (e.st + lowS (valsOf e.nets)) := fun h => by rw [lowAny_succ, ← k2, h]; rfl
      have aF : A = false → decide (outV e.st l (s : Int) ≤ e.st + lowS (valsOf e.nets)) = lowAny e.st l (s + 1) (e.st + lowS (valsOf e.nets)) := fun h => by rw [lowAny_succ, ← k2, h]; rfl
      have bT : B = true → true = highAny e.st l (s + 1) (e.st + highS (valsOf e.nets)) := fun h => by rw [highAny_succ, ← k3, h]; rfl
      have bF : B = false → decide (e.st + highS (valsOf e.nets) ≤ outV e.st l (s : Int)) = highAny e.st l (s + 1) (e.st + highS (valsOf e.nets)) := fun h => by rw [highAny_succ, ← k3, h]; rfl
      refine ⟨⟨w⟩, fun h => ?_, fun _ => ⟨⟨w⟩, fun h => ?_, fun _ => ⟨⟨w⟩, fun h => ?_, fun _ => ⟨⟨w⟩, fun h => ?_, fun _ => ⟨fun hA => ⟨fun hB => go _ _ (aT hA) (bT hB), fun hB => ⟨⟨w⟩, go _ _ (aT hA) (bF hB)⟩⟩, fun hA => ⟨⟨w⟩, fun hB => go _ _ (aF hA) (bT hB), fun hB => ⟨⟨w⟩, go _ _ (aF hA) (bF hB)⟩⟩⟩⟩⟩⟩⟩
      all_goals
        simp only [decide_eq_true_eq] at h
        omega
    · have b : ¬ (s : Int) < 2 ^ l.length := by simpa using b
      have es : s = 2 ^ l.length := by omega
      have hA : A = true := by rw [k2, es]; exact lowAny_all F.low
      have hB : B = true := by rw [k3, es]; exact highAny_all F.high
      subst hA hB
      have w1 : IntKind.i64.wrap (2 ^ l.length - 1) = 2 ^ l.length - 1 := wrap64 (by omega) (by omega)
      rw [w1]
      have vs : Num (e.st + (valsOf e.nets).sum) := by
        have := oi (2 ^ l.length - 1)
        rw [out_full, F.sum] at this
        unfold Num at *; omega
      refine ⟨⟨by omega⟩, ⟨F.len⟩, ⟨by omega⟩, fun o ho => ?_⟩
      have ho := ho.out
      subst ho
      have w := wf (2 ^ l.length - 1)
      have ev : (ans (e.st + (valsOf e.nets).sum)).1 = outV e.st l (2 ^ l.length - 1) := by rw [ans_yes vs, out_full, F.sum]
      simp only [wv_w]
      refine ⟨fun _ => ⟨fun _ => ⟨⟨by omega⟩, fun v hv => ⟨⟨w⟩, fun _ => ⟨⟨by omega⟩, fun v2 hv2 => ⟨⟨w⟩, ?_⟩⟩, fun h => ?_⟩⟩, fun h => by simp at h⟩, fun h => by simp at h⟩
      · rw [hv2.out, ev]; simp
      · rw [hv.out, ev] at h; simp at h

end Go.Proofs.Ytljimnhijpcjaaa.VC
