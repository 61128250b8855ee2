/- What is to be shown of functions, shown. Plain lemmas; no conditions but those that each names. -/
import Derived.Test.YtljimnhijpcjaaaEo
import Derived.KernelRfl
set_option linter.unusedVariables false
set_option linter.unusedSimpArgs false
set_option linter.unusedSectionVars false
namespace Go.Proofs.Ytljimnhijpcjaaa.VC
open Go
set_option maxRecDepth 100000

theorem neg_posO (x : Int) : neg x ≤ x ∧ x ≤ pos x := by unfold neg pos; split <;> omega
theorem low_le : ∀ l : List Int, lowS l ≤ 0 ∧ 0 ≤ highS l
  | [] => ⟨Int.le_refl _, Int.le_refl _⟩
  | x :: l => by
    have h := low_le l
    rw [lowS_map, highS_map] at h ⊢
    simp only [List.map_cons, List.sum_cons]
    unfold neg pos at *
    split <;> omega
theorem good_settle {e : Esc} (h : e.Good) {tx : Int} (ht : 1 ≤ tx) : Esc.Good ⟨e.lo, e.hi, (settleF e tx).st, (settleF e tx).nets⟩ := by
  unfold settleF
  by_cases hs : (mgI e.nets tx).isSome = true
  · rw [if_pos hs]
    obtain ⟨kn, k0⟩ := keys_del e.nets tx h.nodup
    have kz : ∀ p ∈ mdI e.nets tx, p.1 ≠ 0 := fun p hp => good_keys h p (mem_del hp)
    have l1 := low_split (tx := tx) (by omega) (good_keys h) h.nodup
    have h1 := high_split (tx := tx) (by omega) (good_keys h) h.nodup
    have l2 := low_split (tx := tx) (by omega) kz kn
    have h2 := high_split (tx := tx) (by omega) kz kn
    rw [other_del, netOf_none k0] at l2 h2
    have n0 : neg 0 = 0 := rfl
    have p0 : pos 0 = 0 := rfl
    rw [n0] at l2
    rw [p0] at h2
    have np := neg_posO (netOf e.nets tx)
    have a := low_le (valsOf (mdI e.nets tx))
    have lo := h.lo
    have hi := h.hi
    have b1 := h.b1
    have b2 := h.b2
    have w : IntKind.i64.wrap (e.st + netOf e.nets tx) = e.st + netOf e.nets tx := by
      unfold Num at b1 b2
      exact wrap64 (by omega) (by omega)
    refine ⟨fun p hp => h.keys p (mem_del hp), kn, fun p hp => h.nums p (mem_del hp), ?_, ?_, b1, b2⟩
    · show e.lo ≤ IntKind.i64.wrap (e.st + netOf e.nets tx) + lowS (valsOf (mdI e.nets tx))
      rw [w]; omega
    · show IntKind.i64.wrap (e.st + netOf e.nets tx) + highS (valsOf (mdI e.nets tx)) ≤ e.hi
      rw [w]; omega
  · rw [if_neg hs]; exact h
theorem good_base {e : Esc} (h : e.Good) : Num e.st := by
  have a := low_le (valsOf e.nets)
  have lo := h.lo
  have hi := h.hi
  have b1 := h.b1
  have b2 := h.b2
  unfold Num at *
  omega
theorem md_absentO : ∀ {E : List (Int × Int)} {tx : Int}, (∀ p ∈ E, p.1 ≠ tx) → mdI E tx = E
  | [], _, _ => rfl
  | e :: E, tx, h => by
    show mdel (k := kI) (v := kI) (e :: E) tx = _
    rw [mdel_cons, if_neg (h e (List.mem_cons_self ..))]
    exact congrArg _ (md_absentO (fun p hp => h p (List.mem_cons_of_mem _ hp)))
theorem md_filterO : ∀ {E : List (Int × Int)} {tx : Int}, (keysOf E).Nodup → mdI E tx = E.filter fun p => !decide (tx = p.1)
  | [], _, _ => rfl
  | e :: E, tx, h => by
    obtain ⟨h1, h2⟩ : e.1 ∉ keysOf E ∧ (keysOf E).Nodup := List.nodup_cons.1 h
    show mdel (k := kI) (v := kI) (e :: E) tx = _
    rw [mdel_cons]
    by_cases hc : e.1 = tx
    · rw [if_pos hc]
      have e1 : ∀ p ∈ E, tx ≠ p.1 := fun p hp he => h1 (by rw [hc, he]; exact List.mem_map_of_mem hp)
      rw [List.filter_cons_of_neg (by simp [hc])]
      exact (List.filter_eq_self.2 fun p hp => by simpa using e1 p hp).symm
    · rw [if_neg hc, List.filter_cons_of_pos (by simpa using fun he => hc he.symm)]
      exact congrArg _ (md_filterO h2)
theorem nets_nodupO {e : Esc} (h : e.Good) : (keysOf (netsTo e.nets 8)).Nodup := ((nets_perm h).map _).nodup_iff.2 h.nodup
theorem rel_step {X l : List (Int × Int)} {i : Nat} (hp : X.Perm (l.drop i)) (hn : (keysOf l).Nodup) (hi : i < l.length) : (mgI X (l.getD i (0, 0)).1).isSome = true ∧ (mdI X (l.getD i (0, 0)).1).Perm (l.drop (i + 1)) := by
  have e : l.drop i = l.getD i (0, 0) :: l.drop (i + 1) := by rw [List.drop_eq_getElem_cons hi]; simp [List.getD, hi]
  have nd : (keysOf (l.drop i)).Nodup := by unfold keysOf at *; rw [List.map_drop]; exact hn.sublist (List.drop_sublist i _)
  rw [e] at hp nd
  have nX : (keysOf X).Nodup := ((hp.map (fun p : Int × Int => p.1)).nodup_iff).2 nd
  have mX : l.getD i (0, 0) ∈ X := hp.mem_iff.2 (List.mem_cons_self ..)
  refine ⟨?_, ?_⟩
  · have := mget_of_mem (q := .i64) (v := kI) nX mX
    show (mget (k := kI) (v := kI) X (l.getD i (0, 0)).1).isSome = true
    rw [this]; rfl
  · rw [md_filterO nX]
    have := hp.filter (fun p => !decide ((l.getD i (0, 0)).1 = p.1))
    rw [List.filter_cons_of_neg (by simp)] at this
    refine this.trans ?_
    have k : (l.getD i (0, 0)).1 ∉ keysOf (l.drop (i + 1)) := (List.nodup_cons.1 nd).1
    rw [List.filter_eq_self.2 (fun p hp2 => by simpa using fun he : (l.getD i (0, 0)).1 = p.1 => k (by rw [he]; exact List.mem_map_of_mem hp2))]
theorem hold_len {e : Esc} (h : e.Good) : (rising (keysOf e.nets)).length ≤ 1000000 := by
  rw [nets_keys h, List.length_map]
  have := netsTo_len e.nets 8
  omega
theorem split_two {a b : Bool} {X Y : Prop} (hX : a = true → b = true → X) (hY : Y) : SplitB a (SplitB b X Y) Y := ⟨fun h => ⟨fun h2 => hX h h2, fun _ => hY⟩, fun _ => hY⟩
def vc33 : Prop := vc Try.f33.body Try.f33.results Try.f33.ntmps [] sp33 annSame10
theorem vc33_is : vc33 = (
∀ (g : SameInts), Holds (kI.slice.ok g.a) → Holds (kI.slice.ok g.b) → SplitB ((↑g.a.length : Int) != (↑g.b.length : Int)) (false = decide (g.a = g.b)) ((∃ (x : At), Holds (x.i ≤ g.a.length ∧ List.take x.i g.a = List.take x.i g.b) ∧ (0 : Int) = (↑x.i : Int)) ∧ ∀ (x : At), Holds (x.i ≤ g.a.length ∧ List.take x.i g.a = List.take x.i g.b) → SplitB (decide ((↑x.i : Int) < (↑g.a.length : Int))) (Holds ((0 : Int) ≤ (↑x.i : Int)) ∧ Holds ((↑x.i : Int) < (↑g.a.length : Int)) ∧ Holds ((↑x.i : Int).toNat < g.a.length) ∧ Holds ((0 : Int) ≤ (↑x.i : Int)) ∧ Holds ((↑x.i : Int) < (↑g.b.length : Int)) ∧ Holds ((↑x.i : Int).toNat < g.b.length) ∧ SplitB (g.a.getD (↑x.i : Int).toNat ((0 : Int)) != g.b.getD (↑x.i : Int).toNat ((0 : Int))) (false = decide (g.a = g.b)) (∃ (y : At), Holds (y.i ≤ g.a.length ∧ List.take y.i g.a = List.take y.i g.b) ∧ Holds (g.a.length - y.i < g.a.length - x.i) ∧ IntKind.i64.wrap ((↑x.i : Int) + (1 : Int)) = (↑y.i : Int))) (true = decide (g.a = g.b)))) := by kernel_rfl
theorem ok33 : vc33 := by
  rw [vc33_is]
  intro g h1 h2
  have h1 := max63 h1.out.1
  simp only [splitB_iff, bne_iff_ne, bne_eq_false_iff_eq, ne_eq]
  refine ⟨fun a => by symm; rw [decide_eq_false_iff_not]; intro h; rw [h] at a; exact a rfl, fun a => ⟨⟨⟨0⟩, ⟨Nat.zero_le _, by simp⟩, rfl⟩, fun x hx => ?_⟩⟩
  have a : g.a.length = g.b.length := by omega
  obtain ⟨i⟩ := x
  obtain ⟨k1, k2⟩ := hx.out
  dsimp only at k1 k2 ⊢
  simp only [decide_eq_true_eq, decide_eq_false_iff_not, Int.toNat_natCast]
  refine ⟨fun b => ?_, fun b => ?_⟩
  · refine ⟨⟨by omega⟩, ⟨by omega⟩, ⟨by omega⟩, ⟨by omega⟩, ⟨by omega⟩, ⟨by omega⟩, fun c => ?_, fun c => ⟨⟨i + 1⟩, ⟨by show i + 1 ≤ _; omega, take_next (by omega) (by omega) k2 c⟩, ⟨by show _ - (i + 1) < _; omega⟩, wrap_succ (by omega)⟩⟩
    symm; rw [decide_eq_false_iff_not]; exact ne_get c
  · symm; rw [decide_eq_true_eq]; exact take_all a (by omega) k2

def vc34 : Prop := vc Try.f34.body Try.f34.results Try.f34.ntmps [(16, some sp16)] sp34 (fun _ => noAnn)
theorem vc34_is : vc34 = (
∀ (g : LastArg), Holds (kHN.slice.ok g.l) → Holds (InR IntKind.i64 g.e.lo) → Holds (InR IntKind.i64 g.e.hi) → Holds (InR IntKind.i64 g.e.st) → Holds (MOk kI kI g.e.nets) → Holds (g.e.nets.length ≤ (1000000 : Nat)) → SplitB ((↑g.l.length : Int) == (0 : Int)) (Holds (g.e.nets.length ≤ (1000000 : Nat)) ∧ ∀ (r : List Int), Holds (r = rising (keysOf g.e.nets)) → (∃ (r : Unit), Holds (g.l ≠ []) ∧ False) ∨ ∃ (r_1 : List Int), Holds (g.l = [] ∧ r_1 = rising (keysOf g.e.nets)) ∧ r = r_1) (Holds ((0 : Int) ≤ IntKind.i64.wrap ((↑g.l.length : Int) - (1 : Int))) ∧ Holds (IntKind.i64.wrap ((↑g.l.length : Int) - (1 : Int)) < (↑g.l.length : Int)) ∧ Holds ((IntKind.i64.wrap ((↑g.l.length : Int) - (1 : Int))).toNat < g.l.length) ∧ ((∃ (r : Unit), Holds (g.l ≠ []) ∧ g.l.getD (IntKind.i64.wrap ((↑g.l.length : Int) - (1 : Int))).toNat { b := (0 : Nat), n := (0 : Nat), c := (0 : Nat) : Lh } = g.l.getD (g.l.length - (1 : Nat)) Lh.nil) ∨ ∃ (r : List Int), Holds (g.l = [] ∧ r = rising (keysOf g.e.nets)) ∧ False))) := by kernel_rfl
theorem ok34 : vc34 := by
  rw [vc34_is]
  intro g h1 _ _ _ _ h6
  have hm := max63 h1.out.1
  have e0 : (g.l.length : Int) = 0 → g.l = [] := fun h => List.length_eq_zero_iff.1 (by omega)
  refine ⟨fun a => ⟨h6, fun r hr => .inr ⟨r, ⟨e0 (by simpa using a), hr.out⟩, rfl⟩⟩, fun a => ?_⟩
  have a : ¬ (g.l.length : Int) = 0 := by simpa using a
  have w : IntKind.i64.wrap ((g.l.length : Int) - 1) = ((g.l.length - 1 : Nat) : Int) := by rw [wrap64 (by omega) (by omega)]; omega
  rw [w]
  simp only [Int.toNat_natCast]
  exact ⟨⟨by omega⟩, ⟨by omega⟩, ⟨by omega⟩, .inl ⟨(), ⟨fun e => a (by rw [e]; rfl)⟩, rfl⟩⟩

def vc8 : Prop := vc Try.f8.body Try.f8.results Try.f8.ntmps [(9, some sp9), (14, some sp14), (24, some sp24), (32, some sp32), (30, some sp30), (16, some sp16), (29, some sp29), (33, some sp33), (23, some sp23), (15, some sp15), (31, some sp31), (20, some sp20), (34, some sp34)] sp8 ann8
theorem vc8_is : vc8 = (
∀ (g : EoArg), Holds (InR IntKind.i64 g.b.fst) → Holds (InR IntKind.i64 g.b.snd) → Holds (InR IntKind.i64 g.v) → Holds (kN.slice.ok g.d) → ∀ (r : Esc), Holds (r.Good ∧ (nilT (Int × Int) = [] → r.nets = [])) → (∃ (x : OaAt), Holds (x.i ≤ (40 : Nat) ∧ x.i ≤ g.d.length ∧ x.e.Good ∧ Twn x.P x.G x.W ∧ Lst x.P x.W (rising (keysOf x.e.nets)) ∧ x.G.length = (2 : Nat) * x.i) ∧ (0 : Int) = (↑x.i : Int) ∧ r.lo = x.e.lo ∧ r.hi = x.e.hi ∧ r.st = x.e.st ∧ r.nets = x.e.nets ∧ nilT Lh = x.G ∧ nilT Lh = x.W ∧ nilT (Nat × Nat × List Int) = x.P) ∧ ∀ (x : OaAt), Holds (x.i ≤ (40 : Nat) ∧ x.i ≤ g.d.length ∧ x.e.Good ∧ Twn x.P x.G x.W ∧ Lst x.P x.W (rising (keysOf x.e.nets)) ∧ x.G.length = (2 : Nat) * x.i) → SplitB (decide ((↑x.i : Int) < (↑g.d.length : Int))) (SplitB (decide ((↑x.i : Int) < (40 : Int))) (Holds ((0 : Int) ≤ (↑x.i : Int)) ∧ Holds ((↑x.i : Int) < (↑g.d.length : Int)) ∧ Holds ((↑x.i : Int).toNat < g.d.length) ∧ Holds ((0 : Int) ≤ (↑x.i : Int)) ∧ Holds ((↑x.i : Int) < (↑g.d.length : Int)) ∧ Holds ((↑x.i : Int).toNat < g.d.length) ∧ Holds (x.e.nets.length ≤ (1000000 : Nat)) ∧ ∀ (r : AddOut), Holds (r = addF x.e ((1 : Int) + (g.d.getD (↑x.i : Int).toNat ((0 : Int), (0 : Int))).fst % (8 : Int)) (g.d.getD (↑x.i : Int).toNat ((0 : Int), (0 : Int))).snd) → SplitB (r.e != (0 : Int)) (Holds ((3 : Int) ≠ (0 : Int)) ∧ SplitB ((↑x.i : Int).tmod (3 : Int) == (2 : Int)) (Holds ((0 : Int) ≤ (↑x.i : Int)) ∧ Holds ((↑x.i : Int) < (↑g.d.length : Int)) ∧ Holds ((↑x.i : Int).toNat < g.d.length) ∧ ∀ (r_1 : SetOut), Holds (r_1 = settleF { lo := x.e.lo, hi := x.e.hi, st := x.e.st, nets := r.nets : Esc } ((1 : Int) + (g.d.getD (↑x.i : Int).toNat ((0 : Int), (0 : Int))).fst % (8 : Int))) → ∃ (x_1 : OePt), Holds x_1.e.Good ∧ x.e.lo = x_1.e.lo ∧ x.e.hi = x_1.e.hi ∧ r_1.st = x_1.e.st ∧ r_1.nets = x_1.e.nets) (∃ (x_1 : OePt), Holds x_1.e.Good ∧ x.e.lo = x_1.e.lo ∧ x.e.hi = x_1.e.hi ∧ x.e.st = x_1.e.st ∧ r.nets = x_1.e.nets)) (∃ (x_1 : OePt), Holds x_1.e.Good ∧ x.e.lo = x_1.e.lo ∧ x.e.hi = x_1.e.hi ∧ x.e.st = x_1.e.st ∧ r.nets = x_1.e.nets) ∧ ∀ (x_1 : OePt), Holds x_1.e.Good → (∃ (x_2 : OkAt), Holds (x_2.k ≤ (2 : Nat) ∧ Twn x_2.P x_2.G x_2.W ∧ ((0 : Nat) < x_2.k → Lst x_2.P x_2.W (rising (keysOf x_1.e.nets))) ∧ (↑x_2.G.length : Int) = (2 : Int) * (↑x.i : Int) + (↑x_2.k : Int)) ∧ (0 : Int) = (↑x_2.k : Int) ∧ x.G = x_2.G ∧ x.W = x_2.W ∧ x.P = x_2.P) ∧ ∀ (x_2 : OkAt), Holds (x_2.k ≤ (2 : Nat) ∧ Twn x_2.P x_2.G x_2.W ∧ ((0 : Nat) < x_2.k → Lst x_2.P x_2.W (rising (keysOf x_1.e.nets))) ∧ (↑x_2.G.length : Int) = (2 : Int) * (↑x.i : Int) + (↑x_2.k : Int)) → SplitB (decide ((↑x_2.k : Int) < (2 : Int))) (Holds (x_1.e.nets.length ≤ (1000000 : Nat)) ∧ ∀ (r : List Int), Holds (r = rising (keysOf x_1.e.nets)) → ∀ (g : Lh) (P' : List (Nat × Nat × List kI.den)), Holds (PackL x_2.P r g P') → Holds ((x_2.G.length + [g].length) * (24 : Nat) ≤ (140737488355328 : Nat)) ∧ Holds (g.n ≤ (pget2 P' g.b).length) ∧ Holds ((List.take g.n (pget2 P' g.b)).length * (8 : Nat) ≤ (140737488355328 : Nat)) ∧ ∀ (g_1 : Lh) (P'_1 : List (Nat × Nat × List kI.den)), Holds (PackL P' (List.take g.n (pget2 P' g.b)) g_1 P'_1) → Holds ((x_2.W.length + [g_1].length) * (24 : Nat) ≤ (140737488355328 : Nat)) ∧ ∃ (y : OkAt), Holds (y.k ≤ (2 : Nat) ∧ Twn y.P y.G y.W ∧ ((0 : Nat) < y.k → Lst y.P y.W (rising (keysOf x_1.e.nets))) ∧ (↑y.G.length : Int) = (2 : Int) * (↑x.i : Int) + (↑y.k : Int)) ∧ Holds ((2 : Nat) - y.k < (2 : Nat) - x_2.k) ∧ IntKind.i64.wrap ((↑x_2.k : Int) + (1 : Int)) = (↑y.k : Int) ∧ x_2.G ++ [g] = y.G ∧ x_2.W ++ [g_1] = y.W ∧ P'_1 = y.P) (∃ (y : OaAt), Holds (y.i ≤ (40 : Nat) ∧ y.i ≤ g.d.length ∧ y.e.Good ∧ Twn y.P y.G y.W ∧ Lst y.P y.W (rising (keysOf y.e.nets)) ∧ y.G.length = (2 : Nat) * y.i) ∧ Holds (g.d.length - y.i < g.d.length - x.i) ∧ IntKind.i64.wrap ((↑x.i : Int) + (1 : Int)) = (↑y.i : Int) ∧ x_1.e.lo = y.e.lo ∧ x_1.e.hi = y.e.hi ∧ x_1.e.st = y.e.st ∧ x_1.e.nets = y.e.nets ∧ x_2.G = y.G ∧ x_2.W = y.W ∧ x_2.P = y.P)) ((∃ (x_1 : At), Holds (x_1.i ≤ x.G.length) ∧ (0 : Int) = (↑x_1.i : Int)) ∧ ∀ (x_1 : At), Holds (x_1.i ≤ x.G.length) → SplitB (decide ((↑x_1.i : Int) < (↑x.G.length : Int))) (Holds ((0 : Int) ≤ (↑x_1.i : Int)) ∧ Holds ((↑x_1.i : Int) < (↑x.G.length : Int)) ∧ Holds ((↑x_1.i : Int).toNat < x.G.length) ∧ Holds ((0 : Int) ≤ (↑x_1.i : Int)) ∧ Holds ((↑x_1.i : Int) < (↑x.W.length : Int)) ∧ Holds ((↑x_1.i : Int).toNat < x.W.length) ∧ Holds ((x.G.getD (↑x_1.i : Int).toNat { b := (0 : Nat), n := (0 : Nat), c := (0 : Nat) : Lh }).n ≤ (pget2 x.P (x.G.getD (↑x_1.i : Int).toNat { b := (0 : Nat), n := (0 : Nat), c := (0 : Nat) : Lh }).b).length) ∧ Holds ((x.W.getD (↑x_1.i : Int).toNat { b := (0 : Nat), n := (0 : Nat), c := (0 : Nat) : Lh }).n ≤ (pget2 x.P (x.W.getD (↑x_1.i : Int).toNat { b := (0 : Nat), n := (0 : Nat), c := (0 : Nat) : Lh }).b).length) ∧ SplitB (!decide (List.take (x.G.getD (↑x_1.i : Int).toNat { b := (0 : Nat), n := (0 : Nat), c := (0 : Nat) : Lh }).n (pget2 x.P (x.G.getD (↑x_1.i : Int).toNat { b := (0 : Nat), n := (0 : Nat), c := (0 : Nat) : Lh }).b) = List.take (x.W.getD (↑x_1.i : Int).toNat { b := (0 : Nat), n := (0 : Nat), c := (0 : Nat) : Lh }).n (pget2 x.P (x.W.getD (↑x_1.i : Int).toNat { b := (0 : Nat), n := (0 : Nat), c := (0 : Nat) : Lh }).b))) (false = true) (∃ (y : At), Holds (y.i ≤ x.G.length) ∧ Holds (x.G.length - y.i < x.G.length - x_1.i) ∧ IntKind.i64.wrap ((↑x_1.i : Int) + (1 : Int)) = (↑y.i : Int))) ((∃ (x_2 : OpAt), Holds (x_2.i ≤ x.G.length ∧ OwC x_2.P x.G x.W (rising (keysOf x.e.nets)) x_2.i (0 : Nat)) ∧ (0 : Int) = (↑x_2.i : Int) ∧ x.P = x_2.P) ∧ ∀ (x_2 : OpAt), Holds (x_2.i ≤ x.G.length ∧ OwC x_2.P x.G x.W (rising (keysOf x.e.nets)) x_2.i (0 : Nat)) → SplitB (decide ((↑x_2.i : Int) < (↑x.G.length : Int))) ((∃ (x_3 : OpAt), Holds (x_3.i ≤ (x.G.getD (↑x_2.i : Int).toNat Lh.nil).n ∧ OwC x_3.P x.G x.W (rising (keysOf x.e.nets)) (↑x_2.i : Int).toNat x_3.i) ∧ (0 : Int) = (↑x_3.i : Int) ∧ x_2.P = x_3.P) ∧ ∀ (x_3 : OpAt), Holds (x_3.i ≤ (x.G.getD (↑x_2.i : Int).toNat Lh.nil).n ∧ OwC x_3.P x.G x.W (rising (keysOf x.e.nets)) (↑x_2.i : Int).toNat x_3.i) → Holds ((0 : Int) ≤ (↑x_2.i : Int)) ∧ Holds ((↑x_2.i : Int) < (↑x.G.length : Int)) ∧ Holds ((↑x_2.i : Int).toNat < x.G.length) ∧ SplitB (decide ((↑x_3.i : Int) < (↑(x.G.getD (↑x_2.i : Int).toNat { b := (0 : Nat), n := (0 : Nat), c := (0 : Nat) : Lh }).n : Int))) (Holds ((0 : Int) ≤ (↑x_2.i : Int)) ∧ Holds ((↑x_2.i : Int) < (↑x.G.length : Int)) ∧ Holds ((↑x_2.i : Int).toNat < x.G.length) ∧ Holds ((0 : Int) ≤ (↑x_3.i : Int)) ∧ Holds ((↑x_3.i : Int) < (↑(x.G.getD (↑x_2.i : Int).toNat { b := (0 : Nat), n := (0 : Nat), c := (0 : Nat) : Lh }).n : Int)) ∧ Holds ((↑x_3.i : Int).toNat < (pget2 x_3.P (x.G.getD (↑x_2.i : Int).toNat { b := (0 : Nat), n := (0 : Nat), c := (0 : Nat) : Lh }).b).length) ∧ ∃ (y : OpAt), Holds (y.i ≤ (x.G.getD (↑x_2.i : Int).toNat Lh.nil).n ∧ OwC y.P x.G x.W (rising (keysOf x.e.nets)) (↑x_2.i : Int).toNat y.i) ∧ Holds ((x.G.getD (↑x_2.i : Int).toNat Lh.nil).n - y.i < (x.G.getD (↑x_2.i : Int).toNat Lh.nil).n - x_3.i) ∧ IntKind.i64.wrap ((↑x_3.i : Int) + (1 : Int)) = (↑y.i : Int) ∧ pset2 x_3.P (x.G.getD (↑x_2.i : Int).toNat { b := (0 : Nat), n := (0 : Nat), c := (0 : Nat) : Lh }).b ((pget2 x_3.P (x.G.getD (↑x_2.i : Int).toNat { b := (0 : Nat), n := (0 : Nat), c := (0 : Nat) : Lh }).b).set (↑x_3.i : Int).toNat (IntKind.i64.wrap ((-1 : Int) - (↑x_2.i : Int)))) = y.P) (∃ (y : OpAt), Holds (y.i ≤ x.G.length ∧ OwC y.P x.G x.W (rising (keysOf x.e.nets)) y.i (0 : Nat)) ∧ Holds (x.G.length - y.i < x.G.length - x_2.i) ∧ IntKind.i64.wrap ((↑x_2.i : Int) + (1 : Int)) = (↑y.i : Int) ∧ x_3.P = y.P)) ((∃ (x_3 : OmAt), Holds (x_3.i ≤ x.G.length ∧ OwD x_3.P x.G x.W x_3.M (rising (keysOf x.e.nets)) x_3.i) ∧ (0 : Int) = (↑x_3.i : Int) ∧ x_2.P = x_3.P ∧ nilT Lh = x_3.M) ∧ ∀ (x_3 : OmAt), Holds (x_3.i ≤ x.G.length ∧ OwD x_3.P x.G x.W x_3.M (rising (keysOf x.e.nets)) x_3.i) → SplitB (decide ((↑x_3.i : Int) < (↑x.G.length : Int))) (Holds ((0 : Int) ≤ (↑x_3.i : Int)) ∧ Holds ((↑x_3.i : Int) < (↑x.G.length : Int)) ∧ Holds ((↑x_3.i : Int).toNat < x.G.length) ∧ Holds (LhOk x_3.P (x.G.getD (↑x_3.i : Int).toNat { b := (0 : Nat), n := (0 : Nat), c := (0 : Nat) : Lh })) ∧ Holds (((x.G.getD (↑x_3.i : Int).toNat { b := (0 : Nat), n := (0 : Nat), c := (0 : Nat) : Lh }).n + [IntKind.i64.wrap ((-1 : Int) - (↑x_3.i : Int)), IntKind.i64.wrap ((-1 : Int) - (↑x_3.i : Int))].length) * (8 : Nat) ≤ (140737488355328 : Nat)) ∧ ∀ (r : Lh × List (Nat × Nat × List kI.den)), Holds (AppO x_3.P (x.G.getD (↑x_3.i : Int).toNat { b := (0 : Nat), n := (0 : Nat), c := (0 : Nat) : Lh }) [IntKind.i64.wrap ((-1 : Int) - (↑x_3.i : Int)), IntKind.i64.wrap ((-1 : Int) - (↑x_3.i : Int))] r.fst r.snd) → Holds ((x_3.M.length + [r.fst].length) * (24 : Nat) ≤ (140737488355328 : Nat)) ∧ ∃ (y : OmAt), Holds (y.i ≤ x.G.length ∧ OwD y.P x.G x.W y.M (rising (keysOf x.e.nets)) y.i) ∧ Holds (x.G.length - y.i < x.G.length - x_3.i) ∧ IntKind.i64.wrap ((↑x_3.i : Int) + (1 : Int)) = (↑y.i : Int) ∧ r.snd = y.P ∧ x_3.M ++ [r.fst] = y.M) ((∃ (x : At), Holds (x.i ≤ x_3.M.length) ∧ (0 : Int) = (↑x.i : Int)) ∧ ∀ (x_4 : At), Holds (x_4.i ≤ x_3.M.length) → SplitB (decide ((↑x_4.i : Int) < (↑x_3.M.length : Int))) ((∃ (x : At), Holds (x.i ≤ (x_3.M.getD (↑x_4.i : Int).toNat Lh.nil).n) ∧ (0 : Int) = (↑x.i : Int)) ∧ ∀ (x_5 : At), Holds (x_5.i ≤ (x_3.M.getD (↑x_4.i : Int).toNat Lh.nil).n) → Holds ((0 : Int) ≤ (↑x_4.i : Int)) ∧ Holds ((↑x_4.i : Int) < (↑x_3.M.length : Int)) ∧ Holds ((↑x_4.i : Int).toNat < x_3.M.length) ∧ SplitB (decide ((↑x_5.i : Int) < (↑(x_3.M.getD (↑x_4.i : Int).toNat { b := (0 : Nat), n := (0 : Nat), c := (0 : Nat) : Lh }).n : Int))) (Holds ((0 : Int) ≤ (↑x_4.i : Int)) ∧ Holds ((↑x_4.i : Int) < (↑x_3.M.length : Int)) ∧ Holds ((↑x_4.i : Int).toNat < x_3.M.length) ∧ Holds ((0 : Int) ≤ (↑x_5.i : Int)) ∧ Holds ((↑x_5.i : Int) < (↑(x_3.M.getD (↑x_4.i : Int).toNat { b := (0 : Nat), n := (0 : Nat), c := (0 : Nat) : Lh }).n : Int)) ∧ Holds ((↑x_5.i : Int).toNat < (pget2 x_3.P (x_3.M.getD (↑x_4.i : Int).toNat { b := (0 : Nat), n := (0 : Nat), c := (0 : Nat) : Lh }).b).length) ∧ SplitB ((pget2 x_3.P (x_3.M.getD (↑x_4.i : Int).toNat { b := (0 : Nat), n := (0 : Nat), c := (0 : Nat) : Lh }).b).getD (↑x_5.i : Int).toNat ((0 : Int)) != IntKind.i64.wrap ((-1 : Int) - (↑x_4.i : Int))) (false = true) (Holds ((0 : Int) ≤ (↑x_4.i : Int)) ∧ Holds ((↑x_4.i : Int) < (↑x.G.length : Int)) ∧ Holds ((↑x_4.i : Int).toNat < x.G.length) ∧ SplitB (decide ((↑x_5.i : Int) < (↑(x.G.getD (↑x_4.i : Int).toNat { b := (0 : Nat), n := (0 : Nat), c := (0 : Nat) : Lh }).n : Int))) (Holds ((0 : Int) ≤ (↑x_4.i : Int)) ∧ Holds ((↑x_4.i : Int) < (↑x.G.length : Int)) ∧ Holds ((↑x_4.i : Int).toNat < x.G.length) ∧ Holds ((0 : Int) ≤ (↑x_5.i : Int)) ∧ Holds ((↑x_5.i : Int) < (↑(x.G.getD (↑x_4.i : Int).toNat { b := (0 : Nat), n := (0 : Nat), c := (0 : Nat) : Lh }).n : Int)) ∧ Holds ((↑x_5.i : Int).toNat < (pget2 x_3.P (x.G.getD (↑x_4.i : Int).toNat { b := (0 : Nat), n := (0 : Nat), c := (0 : Nat) : Lh }).b).length) ∧ SplitB ((pget2 x_3.P (x.G.getD (↑x_4.i : Int).toNat { b := (0 : Nat), n := (0 : Nat), c := (0 : Nat) : Lh }).b).getD (↑x_5.i : Int).toNat ((0 : Int)) != IntKind.i64.wrap ((-1 : Int) - (↑x_4.i : Int))) (false = true) (∃ (y : At), Holds (y.i ≤ (x_3.M.getD (↑x_4.i : Int).toNat Lh.nil).n) ∧ Holds ((x_3.M.getD (↑x_4.i : Int).toNat Lh.nil).n - y.i < (x_3.M.getD (↑x_4.i : Int).toNat Lh.nil).n - x_5.i) ∧ IntKind.i64.wrap ((↑x_5.i : Int) + (1 : Int)) = (↑y.i : Int))) (∃ (y : At), Holds (y.i ≤ (x_3.M.getD (↑x_4.i : Int).toNat Lh.nil).n) ∧ Holds ((x_3.M.getD (↑x_4.i : Int).toNat Lh.nil).n - y.i < (x_3.M.getD (↑x_4.i : Int).toNat Lh.nil).n - x_5.i) ∧ IntKind.i64.wrap ((↑x_5.i : Int) + (1 : Int)) = (↑y.i : Int)))) (∃ (y : At), Holds (y.i ≤ x_3.M.length) ∧ Holds (x_3.M.length - y.i < x_3.M.length - x_4.i) ∧ IntKind.i64.wrap ((↑x_4.i : Int) + (1 : Int)) = (↑y.i : Int))) (Holds (x.e.nets.length ≤ (1000000 : Nat)) ∧ ∀ (r : Int), Holds (r = (ans (x.e.st + (valsOf x.e.nets).sum)).fst) → ∀ (r_1 : List (Int × Int)), Holds (r_1 = netsTo x.e.nets (8 : Nat)) → (∃ (x_5 : OxAt), Holds (x_5.i ≤ r_1.length ∧ x_5.X.Perm (List.drop x_5.i r_1)) ∧ (0 : Int) = (↑x_5.i : Int) ∧ x.e.nets = x_5.X) ∧ ∀ (x_5 : OxAt), Holds (x_5.i ≤ r_1.length ∧ x_5.X.Perm (List.drop x_5.i r_1)) → SplitB (decide ((↑x_5.i : Int) < (↑r_1.length : Int))) (Holds ((0 : Int) ≤ (↑x_5.i : Int)) ∧ Holds ((↑x_5.i : Int) < (↑r_1.length : Int)) ∧ Holds ((↑x_5.i : Int).toNat < r_1.length) ∧ SplitB (!(mgI x_5.X (r_1.getD (↑x_5.i : Int).toNat ((0 : Int), (0 : Int))).fst).isSome) (false = true) (∃ (y : OxAt), Holds (y.i ≤ r_1.length ∧ y.X.Perm (List.drop y.i r_1)) ∧ Holds (r_1.length - y.i < r_1.length - x_5.i) ∧ IntKind.i64.wrap ((↑x_5.i : Int) + (1 : Int)) = (↑y.i : Int) ∧ mdI x_5.X (r_1.getD (↑x_5.i : Int).toNat ((0 : Int), (0 : Int))).fst = y.X)) (Holds (x.e.nets.length ≤ (1000000 : Nat)) ∧ ∀ (r_2 : Int), Holds (r_2 = (ans (x.e.st + (valsOf x.e.nets).sum)).fst) → SplitB (r_2 == r) (Holds (x_5.X.length ≤ (1000000 : Nat)) ∧ ∀ (r : Int), Holds (r = (ans (x.e.st + (valsOf x_5.X).sum)).fst) → SplitB (r == x.e.st) (SplitB (x.e.st == x.e.st) (Holds (x.e.nets.length ≤ (1000000 : Nat)) ∧ ∀ (r : List Int), Holds (r = rising (keysOf x.e.nets)) → Holds (x.e.nets.length ≤ (1000000 : Nat)) ∧ (∀ (r_3 : Unit), Holds (x.W ≠ []) → Holds ((x.W.getD (x.W.length - (1 : Nat)) Lh.nil).n ≤ (pget2 x_3.P (x.W.getD (x.W.length - (1 : Nat)) Lh.nil).b).length) ∧ decide (r = List.take (x.W.getD (x.W.length - (1 : Nat)) Lh.nil).n (pget2 x_3.P (x.W.getD (x.W.length - (1 : Nat)) Lh.nil).b)) = true) ∧ ∀ (r_3 : List Int), Holds (x.W = [] ∧ r_3 = rising (keysOf x.e.nets)) → decide (r = r_3) = true) (false = true)) (false = true)) (false = true)))))))) ((∃ (x_1 : At), Holds (x_1.i ≤ x.G.length) ∧ (0 : Int) = (↑x_1.i : Int)) ∧ ∀ (x_1 : At), Holds (x_1.i ≤ x.G.length) → SplitB (decide ((↑x_1.i : Int) < (↑x.G.length : Int))) (Holds ((0 : Int) ≤ (↑x_1.i : Int)) ∧ Holds ((↑x_1.i : Int) < (↑x.G.length : Int)) ∧ Holds ((↑x_1.i : Int).toNat < x.G.length) ∧ Holds ((0 : Int) ≤ (↑x_1.i : Int)) ∧ Holds ((↑x_1.i : Int) < (↑x.W.length : Int)) ∧ Holds ((↑x_1.i : Int).toNat < x.W.length) ∧ Holds ((x.G.getD (↑x_1.i : Int).toNat { b := (0 : Nat), n := (0 : Nat), c := (0 : Nat) : Lh }).n ≤ (pget2 x.P (x.G.getD (↑x_1.i : Int).toNat { b := (0 : Nat), n := (0 : Nat), c := (0 : Nat) : Lh }).b).length) ∧ Holds ((x.W.getD (↑x_1.i : Int).toNat { b := (0 : Nat), n := (0 : Nat), c := (0 : Nat) : Lh }).n ≤ (pget2 x.P (x.W.getD (↑x_1.i : Int).toNat { b := (0 : Nat), n := (0 : Nat), c := (0 : Nat) : Lh }).b).length) ∧ SplitB (!decide (List.take (x.G.getD (↑x_1.i : Int).toNat { b := (0 : Nat), n := (0 : Nat), c := (0 : Nat) : Lh }).n (pget2 x.P (x.G.getD (↑x_1.i : Int).toNat { b := (0 : Nat), n := (0 : Nat), c := (0 : Nat) : Lh }).b) = List.take (x.W.getD (↑x_1.i : Int).toNat { b := (0 : Nat), n := (0 : Nat), c := (0 : Nat) : Lh }).n (pget2 x.P (x.W.getD (↑x_1.i : Int).toNat { b := (0 : Nat), n := (0 : Nat), c := (0 : Nat) : Lh }).b))) (false = true) (∃ (y : At), Holds (y.i ≤ x.G.length) ∧ Holds (x.G.length - y.i < x.G.length - x_1.i) ∧ IntKind.i64.wrap ((↑x_1.i : Int) + (1 : Int)) = (↑y.i : Int))) ((∃ (x_2 : OpAt), Holds (x_2.i ≤ x.G.length ∧ OwC x_2.P x.G x.W (rising (keysOf x.e.nets)) x_2.i (0 : Nat)) ∧ (0 : Int) = (↑x_2.i : Int) ∧ x.P = x_2.P) ∧ ∀ (x_2 : OpAt), Holds (x_2.i ≤ x.G.length ∧ OwC x_2.P x.G x.W (rising (keysOf x.e.nets)) x_2.i (0 : Nat)) → SplitB (decide ((↑x_2.i : Int) < (↑x.G.length : Int))) ((∃ (x_3 : OpAt), Holds (x_3.i ≤ (x.G.getD (↑x_2.i : Int).toNat Lh.nil).n ∧ OwC x_3.P x.G x.W (rising (keysOf x.e.nets)) (↑x_2.i : Int).toNat x_3.i) ∧ (0 : Int) = (↑x_3.i : Int) ∧ x_2.P = x_3.P) ∧ ∀ (x_3 : OpAt), Holds (x_3.i ≤ (x.G.getD (↑x_2.i : Int).toNat Lh.nil).n ∧ OwC x_3.P x.G x.W (rising (keysOf x.e.nets)) (↑x_2.i : Int).toNat x_3.i) → Holds ((0 : Int) ≤ (↑x_2.i : Int)) ∧ Holds ((↑x_2.i : Int) < (↑x.G.length : Int)) ∧ Holds ((↑x_2.i : Int).toNat < x.G.length) ∧ SplitB (decide ((↑x_3.i : Int) < (↑(x.G.getD (↑x_2.i : Int).toNat { b := (0 : Nat), n := (0 : Nat), c := (0 : Nat) : Lh }).n : Int))) (Holds ((0 : Int) ≤ (↑x_2.i : Int)) ∧ Holds ((↑x_2.i : Int) < (↑x.G.length : Int)) ∧ Holds ((↑x_2.i : Int).toNat < x.G.length) ∧ Holds ((0 : Int) ≤ (↑x_3.i : Int)) ∧ Holds ((↑x_3.i : Int) < (↑(x.G.getD (↑x_2.i : Int).toNat { b := (0 : Nat), n := (0 : Nat), c := (0 : Nat) : Lh }).n : Int)) ∧ Holds ((↑x_3.i : Int).toNat < (pget2 x_3.P (x.G.getD (↑x_2.i : Int).toNat { b := (0 : Nat), n := (0 : Nat), c := (0 : Nat) : Lh }).b).length) ∧ ∃ (y : OpAt), Holds (y.i ≤ (x.G.getD (↑x_2.i : Int).toNat Lh.nil).n ∧ OwC y.P x.G x.W (rising (keysOf x.e.nets)) (↑x_2.i : Int).toNat y.i) ∧ Holds ((x.G.getD (↑x_2.i : Int).toNat Lh.nil).n - y.i < (x.G.getD (↑x_2.i : Int).toNat Lh.nil).n - x_3.i) ∧ IntKind.i64.wrap ((↑x_3.i : Int) + (1 : Int)) = (↑y.i : Int) ∧ pset2 x_3.P (x.G.getD (↑x_2.i : Int).toNat { b := (0 : Nat), n := (0 : Nat), c := (0 : Nat) : Lh }).b ((pget2 x_3.P (x.G.getD (↑x_2.i : Int).toNat { b := (0 : Nat), n := (0 : Nat), c := (0 : Nat) : Lh }).b).set (↑x_3.i : Int).toNat (IntKind.i64.wrap ((-1 : Int) - (↑x_2.i : Int)))) = y.P) (∃ (y : OpAt), Holds (y.i ≤ x.G.length ∧ OwC y.P x.G x.W (rising (keysOf x.e.nets)) y.i (0 : Nat)) ∧ Holds (x.G.length - y.i < x.G.length - x_2.i) ∧ IntKind.i64.wrap ((↑x_2.i : Int) + (1 : Int)) = (↑y.i : Int) ∧ x_3.P = y.P)) ((∃ (x_3 : OmAt), Holds (x_3.i ≤ x.G.length ∧ OwD x_3.P x.G x.W x_3.M (rising (keysOf x.e.nets)) x_3.i) ∧ (0 : Int) = (↑x_3.i : Int) ∧ x_2.P = x_3.P ∧ nilT Lh = x_3.M) ∧ ∀ (x_3 : OmAt), Holds (x_3.i ≤ x.G.length ∧ OwD x_3.P x.G x.W x_3.M (rising (keysOf x.e.nets)) x_3.i) → SplitB (decide ((↑x_3.i : Int) < (↑x.G.length : Int))) (Holds ((0 : Int) ≤ (↑x_3.i : Int)) ∧ Holds ((↑x_3.i : Int) < (↑x.G.length : Int)) ∧ Holds ((↑x_3.i : Int).toNat < x.G.length) ∧ Holds (LhOk x_3.P (x.G.getD (↑x_3.i : Int).toNat { b := (0 : Nat), n := (0 : Nat), c := (0 : Nat) : Lh })) ∧ Holds (((x.G.getD (↑x_3.i : Int).toNat { b := (0 : Nat), n := (0 : Nat), c := (0 : Nat) : Lh }).n + [IntKind.i64.wrap ((-1 : Int) - (↑x_3.i : Int)), IntKind.i64.wrap ((-1 : Int) - (↑x_3.i : Int))].length) * (8 : Nat) ≤ (140737488355328 : Nat)) ∧ ∀ (r : Lh × List (Nat × Nat × List kI.den)), Holds (AppO x_3.P (x.G.getD (↑x_3.i : Int).toNat { b := (0 : Nat), n := (0 : Nat), c := (0 : Nat) : Lh }) [IntKind.i64.wrap ((-1 : Int) - (↑x_3.i : Int)), IntKind.i64.wrap ((-1 : Int) - (↑x_3.i : Int))] r.fst r.snd) → Holds ((x_3.M.length + [r.fst].length) * (24 : Nat) ≤ (140737488355328 : Nat)) ∧ ∃ (y : OmAt), Holds (y.i ≤ x.G.length ∧ OwD y.P x.G x.W y.M (rising (keysOf x.e.nets)) y.i) ∧ Holds (x.G.length - y.i < x.G.length - x_3.i) ∧ IntKind.i64.wrap ((↑x_3.i : Int) + (1 : Int)) = (↑y.i : Int) ∧ r.snd = y.P ∧ x_3.M ++ [r.fst] = y.M) ((∃ (x : At), Holds (x.i ≤ x_3.M.length) ∧ (0 : Int) = (↑x.i : Int)) ∧ ∀ (x_4 : At), Holds (x_4.i ≤ x_3.M.length) → SplitB (decide ((↑x_4.i : Int) < (↑x_3.M.length : Int))) ((∃ (x : At), Holds (x.i ≤ (x_3.M.getD (↑x_4.i : Int).toNat Lh.nil).n) ∧ (0 : Int) = (↑x.i : Int)) ∧ ∀ (x_5 : At), Holds (x_5.i ≤ (x_3.M.getD (↑x_4.i : Int).toNat Lh.nil).n) → Holds ((0 : Int) ≤ (↑x_4.i : Int)) ∧ Holds ((↑x_4.i : Int) < (↑x_3.M.length : Int)) ∧ Holds ((↑x_4.i : Int).toNat < x_3.M.length) ∧ SplitB (decide ((↑x_5.i : Int) < (↑(x_3.M.getD (↑x_4.i : Int).toNat { b := (0 : Nat), n := (0 : Nat), c := (0 : Nat) : Lh }).n : Int))) (Holds ((0 : Int) ≤ (↑x_4.i : Int)) ∧ Holds ((↑x_4.i : Int) < (↑x_3.M.length : Int)) ∧ Holds ((↑x_4.i : Int).toNat < x_3.M.length) ∧ Holds ((0 : Int) ≤ (↑x_5.i : Int)) ∧ Holds ((↑x_5.i : Int) < (↑(x_3.M.getD (↑x_4.i : Int).toNat { b := (0 : Nat), n := (0 : Nat), c := (0 : Nat) : Lh }).n : Int)) ∧ Holds ((↑x_5.i : Int).toNat < (pget2 x_3.P (x_3.M.getD (↑x_4.i : Int).toNat { b := (0 : Nat), n := (0 : Nat), c := (0 : Nat) : Lh }).b).length) ∧ SplitB ((pget2 x_3.P (x_3.M.getD (↑x_4.i : Int).toNat { b := (0 : Nat), n := (0 : Nat), c := (0 : Nat) : Lh }).b).getD (↑x_5.i : Int).toNat ((0 : Int)) != IntKind.i64.wrap ((-1 : Int) - (↑x_4.i : Int))) (false = true) (Holds ((0 : Int) ≤ (↑x_4.i : Int)) ∧ Holds ((↑x_4.i : Int) < (↑x.G.length : Int)) ∧ Holds ((↑x_4.i : Int).toNat < x.G.length) ∧ SplitB (decide ((↑x_5.i : Int) < (↑(x.G.getD (↑x_4.i : Int).toNat { b := (0 : Nat), n := (0 : Nat), c := (0 : Nat) : Lh }).n : Int))) (Holds ((0 : Int) ≤ (↑x_4.i : Int)) ∧ Holds ((↑x_4.i : Int) < (↑x.G.length : Int)) ∧ Holds ((↑x_4.i : Int).toNat < x.G.length) ∧ Holds ((0 : Int) ≤ (↑x_5.i : Int)) ∧ Holds ((↑x_5.i : Int) < (↑(x.G.getD (↑x_4.i : Int).toNat { b := (0 : Nat), n := (0 : Nat), c := (0 : Nat) : Lh }).n : Int)) ∧ Holds ((↑x_5.i : Int).toNat < (pget2 x_3.P (x.G.getD (↑x_4.i : Int).toNat { b := (0 : Nat), n := (0 : Nat), c := (0 : Nat) : Lh }).b).length) ∧ SplitB ((pget2 x_3.P (x.G.getD (↑x_4.i : Int).toNat { b := (0 : Nat), n := (0 : Nat), c := (0 : Nat) : Lh }).b).getD (↑x_5.i : Int).toNat ((0 : Int)) != IntKind.i64.wrap ((-1 : Int) - (↑x_4.i : Int))) (false = true) (∃ (y : At), Holds (y.i ≤ (x_3.M.getD (↑x_4.i : Int).toNat Lh.nil).n) ∧ Holds ((x_3.M.getD (↑x_4.i : Int).toNat Lh.nil).n - y.i < (x_3.M.getD (↑x_4.i : Int).toNat Lh.nil).n - x_5.i) ∧ IntKind.i64.wrap ((↑x_5.i : Int) + (1 : Int)) = (↑y.i : Int))) (∃ (y : At), Holds (y.i ≤ (x_3.M.getD (↑x_4.i : Int).toNat Lh.nil).n) ∧ Holds ((x_3.M.getD (↑x_4.i : Int).toNat Lh.nil).n - y.i < (x_3.M.getD (↑x_4.i : Int).toNat Lh.nil).n - x_5.i) ∧ IntKind.i64.wrap ((↑x_5.i : Int) + (1 : Int)) = (↑y.i : Int)))) (∃ (y : At), Holds (y.i ≤ x_3.M.length) ∧ Holds (x_3.M.length - y.i < x_3.M.length - x_4.i) ∧ IntKind.i64.wrap ((↑x_4.i : Int) + (1 : Int)) = (↑y.i : Int))) (Holds (x.e.nets.length ≤ (1000000 : Nat)) ∧ ∀ (r : Int), Holds (r = (ans (x.e.st + (valsOf x.e.nets).sum)).fst) → ∀ (r_1 : List (Int × Int)), Holds (r_1 = netsTo x.e.nets (8 : Nat)) → (∃ (x_5 : OxAt), Holds (x_5.i ≤ r_1.length ∧ x_5.X.Perm (List.drop x_5.i r_1)) ∧ (0 : Int) = (↑x_5.i : Int) ∧ x.e.nets = x_5.X) ∧ ∀ (x_5 : OxAt), Holds (x_5.i ≤ r_1.length ∧ x_5.X.Perm (List.drop x_5.i r_1)) → SplitB (decide ((↑x_5.i : Int) < (↑r_1.length : Int))) (Holds ((0 : Int) ≤ (↑x_5.i : Int)) ∧ Holds ((↑x_5.i : Int) < (↑r_1.length : Int)) ∧ Holds ((↑x_5.i : Int).toNat < r_1.length) ∧ SplitB (!(mgI x_5.X (r_1.getD (↑x_5.i : Int).toNat ((0 : Int), (0 : Int))).fst).isSome) (false = true) (∃ (y : OxAt), Holds (y.i ≤ r_1.length ∧ y.X.Perm (List.drop y.i r_1)) ∧ Holds (r_1.length - y.i < r_1.length - x_5.i) ∧ IntKind.i64.wrap ((↑x_5.i : Int) + (1 : Int)) = (↑y.i : Int) ∧ mdI x_5.X (r_1.getD (↑x_5.i : Int).toNat ((0 : Int), (0 : Int))).fst = y.X)) (Holds (x.e.nets.length ≤ (1000000 : Nat)) ∧ ∀ (r_2 : Int), Holds (r_2 = (ans (x.e.st + (valsOf x.e.nets).sum)).fst) → SplitB (r_2 == r) (Holds (x_5.X.length ≤ (1000000 : Nat)) ∧ ∀ (r : Int), Holds (r = (ans (x.e.st + (valsOf x_5.X).sum)).fst) → SplitB (r == x.e.st) (SplitB (x.e.st == x.e.st) (Holds (x.e.nets.length ≤ (1000000 : Nat)) ∧ ∀ (r : List Int), Holds (r = rising (keysOf x.e.nets)) → Holds (x.e.nets.length ≤ (1000000 : Nat)) ∧ (∀ (r_3 : Unit), Holds (x.W ≠ []) → Holds ((x.W.getD (x.W.length - (1 : Nat)) Lh.nil).n ≤ (pget2 x_3.P (x.W.getD (x.W.length - (1 : Nat)) Lh.nil).b).length) ∧ decide (r = List.take (x.W.getD (x.W.length - (1 : Nat)) Lh.nil).n (pget2 x_3.P (x.W.getD (x.W.length - (1 : Nat)) Lh.nil).b)) = true) ∧ ∀ (r_3 : List Int), Holds (x.W = [] ∧ r_3 = rising (keysOf x.e.nets)) → decide (r = r_3) = true) (false = true)) (false = true)) (false = true)))))))) := by kernel_rfl
theorem ok8 : vc8 := by
  rw [vc8_is]
  intro g h1 h2 h3 h4 r0 hr0
  have hd := max63 h4.out.1
  clear h1 h2 h3 h4
  refine ⟨⟨⟨0, r0, [], [], []⟩, ⟨by show 0 ≤ 40; omega, Nat.zero_le _, hr0.out.1, twn_nil _, fun h => absurd rfl h, rfl⟩, rfl, rfl, rfl, rfl, hr0.out.2 rfl ▸ rfl, rfl, rfl, rfl⟩, fun x hx => split_two (fun a b => ?_) ?_⟩
  · obtain ⟨x1, x2, hg, tw, ls, gl⟩ := hx.out
    have a : x.i < g.d.length := by have := of_decide_eq_true a; omega
    have b : x.i < 40 := by have := of_decide_eq_true b; omega
    have n8 := good_len hg
    simp only [Int.toNat_natCast]
    generalize g.d.getD x.i ((0 : Int), (0 : Int)) = dd
    have t1 : 1 ≤ 1 + dd.1 % 8 := by omega
    have t8 : 1 + dd.1 % 8 ≤ 8 := by omega
    refine ⟨⟨by omega⟩, ⟨by omega⟩, ⟨a⟩, ⟨by omega⟩, ⟨by omega⟩, ⟨a⟩, ⟨by omega⟩, fun r hr => ?_⟩
    have gA : Esc.Good ⟨x.e.lo, x.e.hi, x.e.st, r.nets⟩ := by rw [hr.out]; exact good_addF hg t1 t8
    refine ⟨⟨fun _ => ⟨⟨by decide⟩, ⟨fun _ => ⟨⟨by omega⟩, ⟨by omega⟩, ⟨a⟩, fun s hs => ⟨⟨⟨x.e.lo, x.e.hi, s.st, s.nets⟩⟩, ⟨by rw [hs.out]; exact good_settle gA t1⟩, rfl, rfl, rfl, rfl⟩⟩, fun _ => ⟨⟨⟨_, _, _, r.nets⟩⟩, ⟨gA⟩, rfl, rfl, rfl, rfl⟩⟩⟩, fun _ => ⟨⟨⟨_, _, _, r.nets⟩⟩, ⟨gA⟩, rfl, rfl, rfl, rfl⟩⟩, fun e he => ?_⟩
    have ge := he.out
    have m8 := good_len ge
    refine ⟨⟨⟨0, x.G, x.W, x.P⟩, ⟨Nat.zero_le _, tw, fun h => absurd h (Nat.lt_irrefl _), by show (x.G.length : Int) = 2 * (x.i : Int) + ((0 : Nat) : Int); omega⟩, rfl, rfl, rfl, rfl⟩, fun y hy => ?_⟩
    obtain ⟨y1, y2, y3, y4⟩ := hy.out
    have wl := y2.len
    refine ⟨fun c => ⟨⟨by omega⟩, fun hs hhs m P1 p => ?_⟩, fun c => ?_⟩
    · have c : y.k < 2 := by have := of_decide_eq_true c; omega
      have hl : hs.length ≤ 1000000 := by rw [hhs.out]; exact hold_len ge
      have rd : List.take m.n (pget2 P1 m.b) = hs := pack_now p.out
      rw [rd]
      refine ⟨⟨by simp only [List.length_cons, List.length_nil]; omega⟩, ⟨pack_fit p.out⟩, ⟨by omega⟩, fun m2 P2 q => ?_⟩
      obtain ⟨T1, T2⟩ := y2.more p.out q.out hl
      exact ⟨⟨by simp only [List.length_cons, List.length_nil]; omega⟩, ⟨y.k + 1, _, _, P2⟩, ⟨by show y.k + 1 ≤ 2; omega, T1, fun _ => hhs.out ▸ T2, by show ((y.G ++ [m]).length : Int) = 2 * (x.i : Int) + ((y.k + 1 : Nat) : Int); simp only [List.length_append, List.length_cons, List.length_nil]; omega⟩, ⟨by show 2 - (y.k + 1) < _; omega⟩, wrap_succ (by omega), rfl, rfl, rfl⟩
    · have c : ¬ y.k < 2 := by have := of_decide_eq_false c; omega
      exact ⟨⟨x.i + 1, e.e, y.G, y.W, y.P⟩, ⟨by show x.i + 1 ≤ _; omega, by show x.i + 1 ≤ _; omega, ge, y2, y3 (by omega), by show y.G.length = 2 * (x.i + 1); omega⟩, ⟨by show _ - (x.i + 1) < _; omega⟩, wrap_succ (by omega), rfl, rfl, rfl, rfl, rfl, rfl, rfl⟩
  · obtain ⟨x1, x2, hg, tw, ls, gl⟩ := hx.out
    have n8 := good_len hg
    have wl := tw.len
    have z : (⟨0, 0, 0⟩ : Lh) = Lh.nil := rfl
    have wr : ∀ n : Nat, n ≤ 1000 → IntKind.i64.wrap (-1 - (n : Int)) = mkO n := fun n hn => wrap64 (by omega) (by omega)
    simp only [z, Int.toNat_natCast]
    generalize rising (keysOf x.e.nets) = xs at *
    refine ⟨⟨⟨0⟩, ⟨Nat.zero_le _⟩, rfl⟩, fun y hy => ⟨fun a => ?_, fun _ => ?_⟩⟩
    · have a : y.i < x.G.length := by have := of_decide_eq_true a; omega
      obtain ⟨l1, l2⟩ := tw.le a
      refine ⟨⟨by omega⟩, ⟨by omega⟩, ⟨a⟩, ⟨by omega⟩, ⟨by omega⟩, ⟨by omega⟩, ⟨l1⟩, ⟨l2⟩, fun c => ?_, fun _ => ⟨⟨y.i + 1⟩, ⟨a⟩, ⟨by show _ - (y.i + 1) < _; omega⟩, wrap_succ (by omega)⟩⟩
      have k : List.take _ _ = List.take _ _ := tw.same y.i a
      rw [k] at c
      simp at c
    refine ⟨⟨⟨0, x.P⟩, ⟨Nat.zero_le _, tw.owc ls⟩, rfl, rfl⟩, fun u hu => ⟨fun a => ⟨⟨⟨0, u.P⟩, ⟨Nat.zero_le _, hu.out.2⟩, rfl, rfl⟩, fun v hv => ?_⟩, fun a => ?_⟩⟩
    · have a : u.i < x.G.length := by have := of_decide_eq_true a; omega
      have sm := hv.out.2.le a
      refine ⟨⟨by omega⟩, ⟨by omega⟩, ⟨a⟩, fun c => ?_, fun c => ?_⟩
      · have c : v.i < (x.G.getD u.i Lh.nil).n := by have := of_decide_eq_true c; omega
        obtain ⟨w1, w2⟩ := hv.out.2.write a c
        refine ⟨⟨by omega⟩, ⟨by omega⟩, ⟨a⟩, ⟨by omega⟩, ⟨by omega⟩, ⟨w1⟩, ⟨v.i + 1, _⟩, ⟨c, w2⟩, ⟨by show _ - (v.i + 1) < _; omega⟩, wrap_succ (by omega), ?_⟩
        rw [wr u.i (by omega)]
        rfl
      · have c : ¬ v.i < (x.G.getD u.i Lh.nil).n := by have := of_decide_eq_false c; omega
        exact ⟨⟨u.i + 1, v.P⟩, ⟨a, hv.out.2.next c⟩, ⟨by show _ - (u.i + 1) < _; omega⟩, wrap_succ (by omega), rfl⟩
    have a : u.i = x.G.length := by have := of_decide_eq_false a; have := hu.out.1; omega
    have O := hu.out.2
    rw [a] at O
    refine ⟨⟨⟨0, [], u.P⟩, ⟨Nat.zero_le _, O.owd⟩, rfl, rfl, rfl⟩, fun m hm => ⟨fun b => ?_, fun b => ?_⟩⟩
    · have b : m.i < x.G.length := by have := of_decide_eq_true b; omega
      obtain ⟨m1, m2⟩ := hm.out
      obtain ⟨p, _⟩ := m2.pre b (by omega)
      have pn : (x.G.getD m.i Lh.nil).n ≤ 1000000 := p.2.2.2.2
      have ml : m.M.length = (x.G.take m.i).length := m2.bk.len
      rw [List.length_take] at ml
      rw [wr m.i (by omega)]
      refine ⟨⟨by omega⟩, ⟨by omega⟩, ⟨b⟩, ⟨p.2.1⟩, ⟨by simp only [List.length_cons, List.length_nil]; omega⟩, fun r hr => ⟨⟨by simp only [List.length_cons, List.length_nil]; omega⟩, ⟨m.i + 1, m.M ++ [r.1], r.2⟩, ⟨b, m2.step b (by omega) hr.out⟩, ⟨by show _ - (m.i + 1) < _; omega⟩, wrap_succ (by omega), rfl, rfl⟩⟩
    have b : m.i = x.G.length := by have := of_decide_eq_false b; have := hm.out.1; omega
    have D := hm.out.2
    rw [b] at D
    have bk := D.book
    have ml : m.M.length = x.G.length := bk.len
    refine ⟨⟨⟨0⟩, ⟨Nat.zero_le _⟩, rfl⟩, fun c hc => ⟨fun d => ⟨⟨⟨0⟩, ⟨Nat.zero_le _⟩, rfl⟩, fun q hq => ?_⟩, fun _ => ?_⟩⟩
    · have d : c.i < m.M.length := by have := of_decide_eq_true d; omega
      have sm := D.small d
      obtain ⟨k1, k2⟩ := bk.at (i := c.i) (by omega) (0 : Int)
      rw [wr c.i (by omega)]
      refine ⟨⟨by omega⟩, ⟨by omega⟩, ⟨d⟩, fun f => ?_, fun _ => ⟨⟨c.i + 1⟩, ⟨d⟩, ⟨by show _ - (c.i + 1) < _; omega⟩, wrap_succ (by omega)⟩⟩
      have f : q.i < (m.M.getD c.i Lh.nil).n := by have := of_decide_eq_true f; omega
      obtain ⟨m1, m2⟩ := k1 q.i f
      have nx : ∃ (y : At), Holds (y.i ≤ (m.M.getD c.i Lh.nil).n) ∧ Holds ((m.M.getD c.i Lh.nil).n - y.i < (m.M.getD c.i Lh.nil).n - q.i) ∧ IntKind.i64.wrap ((q.i : Int) + (1 : Int)) = (y.i : Int) := ⟨⟨q.i + 1⟩, ⟨f⟩, ⟨by show _ - (q.i + 1) < _; omega⟩, wrap_succ (by omega)⟩
      refine ⟨⟨by omega⟩, ⟨by omega⟩, ⟨d⟩, ⟨by omega⟩, ⟨by omega⟩, ⟨m1⟩, fun s => ?_, fun _ => ⟨⟨by omega⟩, ⟨by omega⟩, ⟨by omega⟩, fun w => ?_, fun _ => nx⟩⟩
      · rw [m2] at s; simp at s
      · have w : q.i < (x.G.getD c.i Lh.nil).n := by have := of_decide_eq_true w; omega
        obtain ⟨m3, m4⟩ := k2 q.i w
        refine ⟨⟨by omega⟩, ⟨by omega⟩, ⟨by omega⟩, ⟨by omega⟩, ⟨by omega⟩, ⟨m3⟩, fun s => ?_, fun _ => nx⟩
        rw [m4] at s; simp at s
    refine ⟨⟨by omega⟩, fun v hv L hL => ?_⟩
    have hL := hL.out
    subst hL
    have ll := netsTo_len x.e.nets 8
    refine ⟨⟨⟨0, x.e.nets⟩, ⟨Nat.zero_le _, (nets_perm hg).symm⟩, rfl, rfl⟩, fun q hq => ⟨fun f => ?_, fun f => ?_⟩⟩
    · have f : q.i < (netsTo x.e.nets 8).length := by have := of_decide_eq_true f; omega
      obtain ⟨s1, s2⟩ := rel_step hq.out.2 (nets_nodupO hg) f
      refine ⟨⟨by omega⟩, ⟨by omega⟩, ⟨f⟩, fun c => ?_, fun _ => ⟨⟨q.i + 1, _⟩, ⟨f, s2⟩, ⟨by show _ - (q.i + 1) < _; omega⟩, wrap_succ (by omega), rfl⟩⟩
      rw [s1] at c; simp at c
    have f : ¬ q.i < (netsTo x.e.nets 8).length := by have := of_decide_eq_false f; omega
    have X0 : q.X = [] := by
      have := hq.out.2
      rw [List.drop_eq_nil_of_le (by omega)] at this
      exact this.eq_nil
    rw [X0]
    refine ⟨⟨by omega⟩, fun v2 hv2 => ⟨fun _ => ⟨⟨Nat.zero_le _⟩, fun v3 hv3 => ⟨fun _ => ⟨fun _ => ⟨⟨by omega⟩, fun hs hhs => ⟨⟨by omega⟩, fun _ hw => ⟨⟨D.last hw.out⟩, decide_eq_true (hhs.out.trans (D.lst hw.out).symm)⟩, fun l hl => decide_eq_true (hhs.out.trans hl.out.2.symm)⟩⟩, fun c => ?_⟩, fun c => ?_⟩⟩, fun c => ?_⟩⟩
    · simp at c
    · have e : (ans (x.e.st + (valsOf []).sum)).1 = x.e.st := by
        rw [show (valsOf []).sum = 0 from rfl, Int.add_zero, ans_yes (good_base hg)]
      rw [hv3.out, e] at c; simp at c
    · rw [hv2.out, hv.out] at c; simp at c

end Go.Proofs.Ytljimnhijpcjaaa.VC
