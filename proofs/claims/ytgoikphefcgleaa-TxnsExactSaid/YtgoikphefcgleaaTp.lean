/- What is to be shown of functions, shown. Plain lemmas; no conditions but those that each names. -/
import Derived.Test.YtgoikphefcgleaaSp
import Derived.KernelRfl
set_option linter.unusedVariables false
set_option linter.unusedSimpArgs false
set_option linter.unusedSectionVars false
namespace Go.Proofs.Ytgoikphefcgleaa.VC
open Go
set_option maxRecDepth 100000

def vc24 : Prop := vc Try.f24.body Try.f24.results Try.f24.ntmps [] sp24 (fun _ => noAnn)
theorem vc24_is : vc24 = (
∀ (g : InArg), Holds (InR IntKind.i64 g.n) → Holds (InR IntKind.i64 g.lo) → Holds (InR IntKind.i64 g.hi) → SplitB (decide (g.n ≥ g.lo)) (decide (g.n ≤ g.hi) = within g.n g.lo g.hi) (false = within g.n g.lo g.hi)) := by kernel_rfl
theorem ok24 : vc24 := by
  rw [vc24_is]
  intro g h1 h2 h3
  simp only [splitB_iff, within, decide_eq_true_eq, decide_eq_false_iff_not]
  exact ⟨fun h => by simp [h], fun h => by simp; omega⟩

def vc7 : Prop := vc Try.f7.body Try.f7.results Try.f7.ntmps [(24, some sp24)] sp7 (fun _ => noAnn)
theorem vc7_is : vc7 = (
∀ (g : NewArg), Holds (InR IntKind.i64 g.n) → SplitB (!within g.n (1 : Int) (2147483648 : Int)) ((∃ (r : Unit), Holds (within g.n (1 : Int) (2147483648 : Int) = false) ∧ (4 : Int) = (4 : Int)) ∨ ∃ (r : Unit), Holds (within g.n (1 : Int) (2147483648 : Int) = true) ∧ False) ((∃ (r : Unit), Holds (within g.n (1 : Int) (2147483648 : Int) = false) ∧ False) ∨ ∃ (r : Unit), Holds (within g.n (1 : Int) (2147483648 : Int) = true) ∧ (0 : Int) = (0 : Int) ∧ g.n = g.n ∧ nilT (Int × Int × Int × Bool × Bool) = [])) := by kernel_rfl
theorem ok7 : vc7 := by
  rw [vc7_is]
  intro g h
  simp only [splitB_iff, holds_iff]
  exact ⟨fun h => .inl ⟨(), by simpa using h, trivial⟩, fun h => .inr ⟨(), by simpa using h, by simp⟩⟩

def vc14 : Prop := vc Try.f14.body Try.f14.results Try.f14.ntmps [(24, some sp24)] sp14 (fun _ => noAnn)
theorem vc14_is : vc14 = (
∀ (g : BeginArg), Holds (InR IntKind.i64 g.lsn) → Holds (InR IntKind.i64 g.t.next) → Holds (MOk kI kL g.t.live) → Holds g.t.ok → SplitB (!within g.lsn (1 : Int) (2147483647 : Int)) (∃ (r : BeginOut), Holds (r = g.t.begin g.lsn) ∧ (0 : Int) = r.n ∧ (4 : Int) = r.e ∧ g.t.next = r.t.next ∧ g.t.live = r.t.live) (SplitB (decide ((↑g.t.live.length : Int) ≥ (32 : Int))) (∃ (r : BeginOut), Holds (r = g.t.begin g.lsn) ∧ (0 : Int) = r.n ∧ (131 : Int) = r.e ∧ g.t.next = r.t.next ∧ g.t.live = r.t.live) (SplitB (decide (g.t.next > (2147483647 : Int))) (∃ (r : BeginOut), Holds (r = g.t.begin g.lsn) ∧ (0 : Int) = r.n ∧ (131 : Int) = r.e ∧ g.t.next = r.t.next ∧ g.t.live = r.t.live) (Holds (g.t.live.length < maxLen) ∧ ∃ (r : BeginOut), Holds (r = g.t.begin g.lsn) ∧ g.t.next = r.n ∧ (0 : Int) = r.e ∧ IntKind.i64.wrap (g.t.next + (1 : Int)) = r.t.next ∧ msetT kI kL g.t.live g.t.next (g.t.next, g.lsn, false, false) = r.t.live)))) := by kernel_rfl
theorem ok14 : vc14 := by
  rw [vc14_is]
  intro g h1 h2 h3 h4
  simp only [splitB_iff, holds_iff, exists_eq_left, inR64] at *
  have hk := h4
  unfold Tab.ok at hk
  unfold Tab.begin
  have hm := maxLen_is
  refine ⟨fun a => ?_, fun a => ⟨fun b => ?_, fun b => ⟨fun c => ?_, fun c => ⟨by omega, ?_⟩⟩⟩⟩
  · have : within g.lsn 1 top = false := by simpa using a
    rw [if_pos this]; exact ⟨rfl, rfl, rfl, rfl⟩
  all_goals have a' : ¬ within g.lsn 1 top = false := by simpa using a
  · rw [if_neg a', if_pos (.inl (by simp at b; omega))]; exact ⟨rfl, rfl, rfl, rfl⟩
  · rw [if_neg a', if_pos (.inr (by simpa using c))]; exact ⟨rfl, rfl, rfl, rfl⟩
  · have b' : ¬ (32 ≤ g.t.live.length ∨ top < g.t.next) := by simp at b c; simp [top]; omega
    rw [if_neg a', if_neg b', wrap64 (by omega) (by simp [top] at hk; omega)]; exact ⟨rfl, rfl, rfl, rfl⟩

def vc42 : Prop := vc Try.f42.body Try.f42.results Try.f42.ntmps [] sp42 (fun _ => noAnn)
theorem vc42_is : vc42 = (
∀ (g : LvArg), Holds (InR IntKind.i64 g.x.fst) → Holds (InR IntKind.i64 g.x.snd.fst) → SplitB (!g.x.snd.snd.fst) ((!g.x.snd.snd.snd) = isOpen g.x) (false = isOpen g.x)) := by kernel_rfl
theorem ok42 : vc42 := by
  rw [vc42_is]
  intro g h1 h2
  unfold isOpen
  simp only [splitB_iff]
  cases h3 : g.x.2.2.1 <;> cases h4 : g.x.2.2.2 <;> simp

def vc44 : Prop := vc Try.f44.body Try.f44.results Try.f44.ntmps [] sp44 (fun _ => noAnn)
theorem vc44_is : vc44 = (
∀ (g : LvArg), Holds (InR IntKind.i64 g.x.fst) → Holds (InR IntKind.i64 g.x.snd.fst) → g.x.snd.snd.snd = g.x.snd.snd.snd) := by kernel_rfl
theorem ok44 : vc44 := by rw [vc44_is]; intro g h1 h2; rfl

def vc47 : Prop := vc Try.f47.body Try.f47.results Try.f47.ntmps [(42, some sp42)] sp47 (fun _ => noAnn)
theorem vc47_is : vc47 = (
∀ (g : LvArg), Holds (InR IntKind.i64 g.x.fst) → Holds (InR IntKind.i64 g.x.snd.fst) → (!isOpen g.x) = !isOpen g.x) := by kernel_rfl
theorem ok47 : vc47 := by rw [vc47_is]; intro g h1 h2; rfl

def vc43 : Prop := vc Try.f43.body Try.f43.results Try.f43.ntmps [] sp43 (fun _ => noAnn)
theorem vc43_is : vc43 = (
∀ (g : LvP), Holds (InR IntKind.i64 g.p.tx) → Holds (InR IntKind.i64 g.p.last) → True) := by kernel_rfl
theorem ok43 : vc43 := by rw [vc43_is]; intro g h1 h2; trivial

def vc45 : Prop := vc Try.f45.body Try.f45.results Try.f45.ntmps [] sp45 (fun _ => noAnn)
theorem vc45_is : vc45 = (
∀ (g : LvP), Holds (InR IntKind.i64 g.p.tx) → Holds (InR IntKind.i64 g.p.last) → g.p.tx = g.p.tx ∧ g.p.last = g.p.last ∧ true = true ∧ g.p.u = g.p.u) := by kernel_rfl
theorem ok45 : vc45 := by rw [vc45_is]; intro g h1 h2; exact ⟨rfl, rfl, rfl, rfl⟩

def vc46 : Prop := vc Try.f46.body Try.f46.results Try.f46.ntmps [] sp46 (fun _ => noAnn)
theorem vc46_is : vc46 = (
∀ (g : LvP), Holds (InR IntKind.i64 g.p.tx) → Holds (InR IntKind.i64 g.p.last) → g.p.tx = g.p.tx ∧ g.p.last = g.p.last ∧ g.p.c = g.p.c ∧ true = true) := by kernel_rfl
theorem ok46 : vc46 := by rw [vc46_is]; intro g h1 h2; exact ⟨rfl, rfl, rfl, rfl⟩

def vc30 : Prop := vc Try.f30.body Try.f30.results Try.f30.ntmps [] sp30 (fun _ => noAnn)
theorem vc30_is : vc30 = (
∀ (g : Num), Holds (InR IntKind.i64 g.k) → SplitB (g.k == (3 : Int)) ((∃ (r : Unit), Holds (g.k = (3 : Int)) ∧ True) ∨ (∃ (r : Unit), Holds (g.k = (4 : Int)) ∧ False) ∨ (∃ (r : Unit), Holds (g.k = (5 : Int)) ∧ False) ∨ (∃ (r : Unit), Holds (g.k = (6 : Int)) ∧ False) ∨ (∃ (r : Unit), Holds (g.k = (7 : Int)) ∧ False) ∨ ∃ (r : Unit), Holds ¬((3 : Int) ≤ g.k ∧ g.k ≤ (7 : Int)) ∧ False) (SplitB (g.k == (4 : Int)) ((∃ (r : Unit), Holds (g.k = (3 : Int)) ∧ False) ∨ (∃ (r : Unit), Holds (g.k = (4 : Int)) ∧ True) ∨ (∃ (r : Unit), Holds (g.k = (5 : Int)) ∧ False) ∨ (∃ (r : Unit), Holds (g.k = (6 : Int)) ∧ False) ∨ (∃ (r : Unit), Holds (g.k = (7 : Int)) ∧ False) ∨ ∃ (r : Unit), Holds ¬((3 : Int) ≤ g.k ∧ g.k ≤ (7 : Int)) ∧ False) (SplitB (g.k == (5 : Int)) ((∃ (r : Unit), Holds (g.k = (3 : Int)) ∧ False) ∨ (∃ (r : Unit), Holds (g.k = (4 : Int)) ∧ False) ∨ (∃ (r : Unit), Holds (g.k = (5 : Int)) ∧ True) ∨ (∃ (r : Unit), Holds (g.k = (6 : Int)) ∧ False) ∨ (∃ (r : Unit), Holds (g.k = (7 : Int)) ∧ False) ∨ ∃ (r : Unit), Holds ¬((3 : Int) ≤ g.k ∧ g.k ≤ (7 : Int)) ∧ False) (SplitB (g.k == (6 : Int)) ((∃ (r : Unit), Holds (g.k = (3 : Int)) ∧ False) ∨ (∃ (r : Unit), Holds (g.k = (4 : Int)) ∧ False) ∨ (∃ (r : Unit), Holds (g.k = (5 : Int)) ∧ False) ∨ (∃ (r : Unit), Holds (g.k = (6 : Int)) ∧ True) ∨ (∃ (r : Unit), Holds (g.k = (7 : Int)) ∧ False) ∨ ∃ (r : Unit), Holds ¬((3 : Int) ≤ g.k ∧ g.k ≤ (7 : Int)) ∧ False) (SplitB (g.k == (7 : Int)) ((∃ (r : Unit), Holds (g.k = (3 : Int)) ∧ False) ∨ (∃ (r : Unit), Holds (g.k = (4 : Int)) ∧ False) ∨ (∃ (r : Unit), Holds (g.k = (5 : Int)) ∧ False) ∨ (∃ (r : Unit), Holds (g.k = (6 : Int)) ∧ False) ∨ (∃ (r : Unit), Holds (g.k = (7 : Int)) ∧ True) ∨ ∃ (r : Unit), Holds ¬((3 : Int) ≤ g.k ∧ g.k ≤ (7 : Int)) ∧ False) ((∃ (r : Unit), Holds (g.k = (3 : Int)) ∧ False) ∨ (∃ (r : Unit), Holds (g.k = (4 : Int)) ∧ False) ∨ (∃ (r : Unit), Holds (g.k = (5 : Int)) ∧ False) ∨ (∃ (r : Unit), Holds (g.k = (6 : Int)) ∧ False) ∨ (∃ (r : Unit), Holds (g.k = (7 : Int)) ∧ False) ∨ ∃ (r : Unit), Holds ¬((3 : Int) ≤ g.k ∧ g.k ≤ (7 : Int)) ∧ True)))))) := by kernel_rfl
theorem ok30 : vc30 := by
  rw [vc30_is]
  intro g h
  simp only [splitB_iff, holds_iff, beq_iff_eq, beq_eq_false_iff_ne, ne_eq, and_true, and_false, exists_false, false_or, or_false, exists_const]
  omega

def vc20 : Prop := vc Try.f20.body Try.f20.results Try.f20.ntmps [] sp20 (fun _ => noAnn)
theorem vc20_is : vc20 = (
∀ (g : TabOnly), Holds (InR IntKind.i64 g.t.next) → Holds (MOk kI kL g.t.live) → g.t.next = g.t.next) := by kernel_rfl
theorem ok20 : vc20 := by rw [vc20_is]; intro g h1 h2; rfl

def vc33 : Prop := vc Try.f33.body Try.f33.results Try.f33.ntmps [] sp33 (fun _ => noAnn)
theorem vc33_is : vc33 = (
∀ (g : List (Int × Lv)), Holds (MOk kI kL g) → True) := by kernel_rfl
theorem ok33 : vc33 := by rw [vc33_is]; intro g h; trivial

def vc15 : Prop := vc Try.f15.body Try.f15.results Try.f15.ntmps [(24, some sp24), (14, some sp14), (30, some sp30), (42, some sp42), (43, some sp43), (44, some sp44), (45, some sp45), (46, some sp46), (47, some sp47)] sp15 (fun _ => noAnn)
theorem vc15_is : vc15 = (
∀ (g : NoteArg), Holds (InR IntKind.i64 g.r.fst) → Holds (InR IntKind.i64 g.r.snd.fst) → Holds (InR IntKind.i64 g.r.snd.snd.fst) → Holds (InR IntKind.i64 g.r.snd.snd.snd.fst) → Holds (InR IntKind.i64 g.r.snd.snd.snd.snd.fst.fst) → Holds (InR IntKind.i64 g.r.snd.snd.snd.snd.fst.snd) → Holds (InR IntKind.i64 g.r.snd.snd.snd.snd.snd.fst.fst) → Holds (InR IntKind.i64 g.r.snd.snd.snd.snd.snd.fst.snd) → Holds (InR IntKind.i64 g.r.snd.snd.snd.snd.snd.snd.fst) → Holds (InR IntKind.i64 g.r.snd.snd.snd.snd.snd.snd.snd.fst.fst) → Holds (InR IntKind.i64 g.r.snd.snd.snd.snd.snd.snd.snd.fst.snd.fst) → Holds (InR IntKind.i64 g.r.snd.snd.snd.snd.snd.snd.snd.fst.snd.snd.fst.fst) → Holds (InR IntKind.i64 g.r.snd.snd.snd.snd.snd.snd.snd.fst.snd.snd.fst.snd) → Holds (InR IntKind.i64 g.r.snd.snd.snd.snd.snd.snd.snd.fst.snd.snd.snd) → Holds (kL.slice.ok g.r.snd.snd.snd.snd.snd.snd.snd.snd.fst) → Holds (kD.slice.ok g.r.snd.snd.snd.snd.snd.snd.snd.snd.snd.fst) → Holds (InR IntKind.i64 g.r.snd.snd.snd.snd.snd.snd.snd.snd.snd.snd) → Holds (InR IntKind.i64 g.t.next) → Holds (MOk kI kL g.t.live) → Holds g.t.ok → SplitB (!within g.r.fst (1 : Int) (2147483647 : Int)) (∃ (r : NoteOut), Holds (r = g.t.note g.r.fst g.r.snd.fst g.r.snd.snd.fst g.r.snd.snd.snd.fst) ∧ (4 : Int) = r.e ∧ g.t.next = r.t.next ∧ g.t.live = r.t.live) (SplitB (g.r.snd.fst == (2 : Int)) (∃ (r : NoteOut), Holds (r = g.t.note g.r.fst g.r.snd.fst g.r.snd.snd.fst g.r.snd.snd.snd.fst) ∧ (0 : Int) = r.e ∧ g.t.next = r.t.next ∧ g.t.live = r.t.live) (SplitB (g.r.snd.fst == (8 : Int)) (∃ (r : NoteOut), Holds (r = g.t.note g.r.fst g.r.snd.fst g.r.snd.snd.fst g.r.snd.snd.snd.fst) ∧ (0 : Int) = r.e ∧ g.t.next = r.t.next ∧ g.t.live = r.t.live) (SplitB (g.r.snd.fst == (1 : Int)) (SplitB (g.r.snd.snd.fst != g.t.next) (∃ (r : NoteOut), Holds (r = g.t.note g.r.fst g.r.snd.fst g.r.snd.snd.fst g.r.snd.snd.snd.fst) ∧ (130 : Int) = r.e ∧ g.t.next = r.t.next ∧ g.t.live = r.t.live) (Holds g.t.ok ∧ ∀ (r : BeginOut), Holds (r = g.t.begin g.r.fst) → ∃ (r_1 : NoteOut), Holds (r_1 = g.t.note g.r.fst g.r.snd.fst g.r.snd.snd.fst g.r.snd.snd.snd.fst) ∧ r.e = r_1.e ∧ r.t.next = r_1.t.next ∧ r.t.live = r_1.t.live)) ((∀ (r : Unit), Holds (g.r.snd.fst = (3 : Int)) → SplitB (!(mgetT kI kL g.t.live g.r.snd.snd.fst).isSome) (∃ (r : NoteOut), Holds (r = g.t.note g.r.fst g.r.snd.fst g.r.snd.snd.fst g.r.snd.snd.snd.fst) ∧ (130 : Int) = r.e ∧ g.t.next = r.t.next ∧ g.t.live = r.t.live) (SplitB (g.r.snd.snd.snd.fst != ((mgetT kI kL g.t.live g.r.snd.snd.fst).getD ((0 : Int), (0 : Int), false, false)).snd.fst) (∃ (r : NoteOut), Holds (r = g.t.note g.r.fst g.r.snd.fst g.r.snd.snd.fst g.r.snd.snd.snd.fst) ∧ (4 : Int) = r.e ∧ g.t.next = r.t.next ∧ g.t.live = r.t.live) (SplitB (decide (g.r.fst ≤ ((mgetT kI kL g.t.live g.r.snd.snd.fst).getD ((0 : Int), (0 : Int), false, false)).snd.fst)) (∃ (r : NoteOut), Holds (r = g.t.note g.r.fst g.r.snd.fst g.r.snd.snd.fst g.r.snd.snd.snd.fst) ∧ (4 : Int) = r.e ∧ g.t.next = r.t.next ∧ g.t.live = r.t.live) (SplitB (!isOpen ((mgetT kI kL g.t.live g.r.snd.snd.fst).getD ((0 : Int), (0 : Int), false, false))) (∃ (r : NoteOut), Holds (r = g.t.note g.r.fst g.r.snd.fst g.r.snd.snd.fst g.r.snd.snd.snd.fst) ∧ (70 : Int) = r.e ∧ g.t.next = r.t.next ∧ g.t.live = r.t.live) (Holds (g.t.live.length < maxLen) ∧ SplitB (g.r.snd.fst == (7 : Int)) (∃ (r : NoteOut), Holds (r = g.t.note g.r.fst g.r.snd.fst g.r.snd.snd.fst g.r.snd.snd.snd.fst) ∧ (0 : Int) = r.e ∧ g.t.next = r.t.next ∧ mdelT kI kL (msetT kI kL g.t.live g.r.snd.snd.fst (((mgetT kI kL g.t.live g.r.snd.snd.fst).getD ((0 : Int), (0 : Int), false, false)).fst, g.r.fst, ((mgetT kI kL g.t.live g.r.snd.snd.fst).getD ((0 : Int), (0 : Int), false, false)).snd.snd)) g.r.snd.snd.fst = r.t.live) (∃ (r : NoteOut), Holds (r = g.t.note g.r.fst g.r.snd.fst g.r.snd.snd.fst g.r.snd.snd.snd.fst) ∧ (0 : Int) = r.e ∧ g.t.next = r.t.next ∧ msetT kI kL g.t.live g.r.snd.snd.fst (((mgetT kI kL g.t.live g.r.snd.snd.fst).getD ((0 : Int), (0 : Int), false, false)).fst, g.r.fst, ((mgetT kI kL g.t.live g.r.snd.snd.fst).getD ((0 : Int), (0 : Int), false, false)).snd.snd) = r.t.live)))))) ∧ (∀ (r : Unit), Holds (g.r.snd.fst = (4 : Int)) → SplitB (!(mgetT kI kL g.t.live g.r.snd.snd.fst).isSome) (∃ (r : NoteOut), Holds (r = g.t.note g.r.fst g.r.snd.fst g.r.snd.snd.fst g.r.snd.snd.snd.fst) ∧ (130 : Int) = r.e ∧ g.t.next = r.t.next ∧ g.t.live = r.t.live) (SplitB (g.r.snd.snd.snd.fst != ((mgetT kI kL g.t.live g.r.snd.snd.fst).getD ((0 : Int), (0 : Int), false, false)).snd.fst) (∃ (r : NoteOut), Holds (r = g.t.note g.r.fst g.r.snd.fst g.r.snd.snd.fst g.r.snd.snd.snd.fst) ∧ (4 : Int) = r.e ∧ g.t.next = r.t.next ∧ g.t.live = r.t.live) (SplitB (decide (g.r.fst ≤ ((mgetT kI kL g.t.live g.r.snd.snd.fst).getD ((0 : Int), (0 : Int), false, false)).snd.fst)) (∃ (r : NoteOut), Holds (r = g.t.note g.r.fst g.r.snd.fst g.r.snd.snd.fst g.r.snd.snd.snd.fst) ∧ (4 : Int) = r.e ∧ g.t.next = r.t.next ∧ g.t.live = r.t.live) (SplitB (!((mgetT kI kL g.t.live g.r.snd.snd.fst).getD ((0 : Int), (0 : Int), false, false)).snd.snd.snd) (∃ (r : NoteOut), Holds (r = g.t.note g.r.fst g.r.snd.fst g.r.snd.snd.fst g.r.snd.snd.snd.fst) ∧ (70 : Int) = r.e ∧ g.t.next = r.t.next ∧ g.t.live = r.t.live) (Holds (g.t.live.length < maxLen) ∧ SplitB (g.r.snd.fst == (7 : Int)) (∃ (r : NoteOut), Holds (r = g.t.note g.r.fst g.r.snd.fst g.r.snd.snd.fst g.r.snd.snd.snd.fst) ∧ (0 : Int) = r.e ∧ g.t.next = r.t.next ∧ mdelT kI kL (msetT kI kL g.t.live g.r.snd.snd.fst (((mgetT kI kL g.t.live g.r.snd.snd.fst).getD ((0 : Int), (0 : Int), false, false)).fst, g.r.fst, ((mgetT kI kL g.t.live g.r.snd.snd.fst).getD ((0 : Int), (0 : Int), false, false)).snd.snd)) g.r.snd.snd.fst = r.t.live) (∃ (r : NoteOut), Holds (r = g.t.note g.r.fst g.r.snd.fst g.r.snd.snd.fst g.r.snd.snd.snd.fst) ∧ (0 : Int) = r.e ∧ g.t.next = r.t.next ∧ msetT kI kL g.t.live g.r.snd.snd.fst (((mgetT kI kL g.t.live g.r.snd.snd.fst).getD ((0 : Int), (0 : Int), false, false)).fst, g.r.fst, ((mgetT kI kL g.t.live g.r.snd.snd.fst).getD ((0 : Int), (0 : Int), false, false)).snd.snd) = r.t.live)))))) ∧ (∀ (r : Unit), Holds (g.r.snd.fst = (5 : Int)) → SplitB (!(mgetT kI kL g.t.live g.r.snd.snd.fst).isSome) (∃ (r : NoteOut), Holds (r = g.t.note g.r.fst g.r.snd.fst g.r.snd.snd.fst g.r.snd.snd.snd.fst) ∧ (130 : Int) = r.e ∧ g.t.next = r.t.next ∧ g.t.live = r.t.live) (SplitB (g.r.snd.snd.snd.fst != ((mgetT kI kL g.t.live g.r.snd.snd.fst).getD ((0 : Int), (0 : Int), false, false)).snd.fst) (∃ (r : NoteOut), Holds (r = g.t.note g.r.fst g.r.snd.fst g.r.snd.snd.fst g.r.snd.snd.snd.fst) ∧ (4 : Int) = r.e ∧ g.t.next = r.t.next ∧ g.t.live = r.t.live) (SplitB (decide (g.r.fst ≤ ((mgetT kI kL g.t.live g.r.snd.snd.fst).getD ((0 : Int), (0 : Int), false, false)).snd.fst)) (∃ (r : NoteOut), Holds (r = g.t.note g.r.fst g.r.snd.fst g.r.snd.snd.fst g.r.snd.snd.snd.fst) ∧ (4 : Int) = r.e ∧ g.t.next = r.t.next ∧ g.t.live = r.t.live) (SplitB (!isOpen ((mgetT kI kL g.t.live g.r.snd.snd.fst).getD ((0 : Int), (0 : Int), false, false))) (∃ (r : NoteOut), Holds (r = g.t.note g.r.fst g.r.snd.fst g.r.snd.snd.fst g.r.snd.snd.snd.fst) ∧ (70 : Int) = r.e ∧ g.t.next = r.t.next ∧ g.t.live = r.t.live) (Holds (g.t.live.length < maxLen) ∧ SplitB (g.r.snd.fst == (7 : Int)) (∃ (r : NoteOut), Holds (r = g.t.note g.r.fst g.r.snd.fst g.r.snd.snd.fst g.r.snd.snd.snd.fst) ∧ (0 : Int) = r.e ∧ g.t.next = r.t.next ∧ mdelT kI kL (msetT kI kL g.t.live g.r.snd.snd.fst (((mgetT kI kL g.t.live g.r.snd.snd.fst).getD ((0 : Int), (0 : Int), false, false)).fst, g.r.fst, true, ((mgetT kI kL g.t.live g.r.snd.snd.fst).getD ((0 : Int), (0 : Int), false, false)).snd.snd.snd)) g.r.snd.snd.fst = r.t.live) (∃ (r : NoteOut), Holds (r = g.t.note g.r.fst g.r.snd.fst g.r.snd.snd.fst g.r.snd.snd.snd.fst) ∧ (0 : Int) = r.e ∧ g.t.next = r.t.next ∧ msetT kI kL g.t.live g.r.snd.snd.fst (((mgetT kI kL g.t.live g.r.snd.snd.fst).getD ((0 : Int), (0 : Int), false, false)).fst, g.r.fst, true, ((mgetT kI kL g.t.live g.r.snd.snd.fst).getD ((0 : Int), (0 : Int), false, false)).snd.snd.snd) = r.t.live)))))) ∧ (∀ (r : Unit), Holds (g.r.snd.fst = (6 : Int)) → SplitB (!(mgetT kI kL g.t.live g.r.snd.snd.fst).isSome) (∃ (r : NoteOut), Holds (r = g.t.note g.r.fst g.r.snd.fst g.r.snd.snd.fst g.r.snd.snd.snd.fst) ∧ (130 : Int) = r.e ∧ g.t.next = r.t.next ∧ g.t.live = r.t.live) (SplitB (g.r.snd.snd.snd.fst != ((mgetT kI kL g.t.live g.r.snd.snd.fst).getD ((0 : Int), (0 : Int), false, false)).snd.fst) (∃ (r : NoteOut), Holds (r = g.t.note g.r.fst g.r.snd.fst g.r.snd.snd.fst g.r.snd.snd.snd.fst) ∧ (4 : Int) = r.e ∧ g.t.next = r.t.next ∧ g.t.live = r.t.live) (SplitB (decide (g.r.fst ≤ ((mgetT kI kL g.t.live g.r.snd.snd.fst).getD ((0 : Int), (0 : Int), false, false)).snd.fst)) (∃ (r : NoteOut), Holds (r = g.t.note g.r.fst g.r.snd.fst g.r.snd.snd.fst g.r.snd.snd.snd.fst) ∧ (4 : Int) = r.e ∧ g.t.next = r.t.next ∧ g.t.live = r.t.live) (SplitB (!isOpen ((mgetT kI kL g.t.live g.r.snd.snd.fst).getD ((0 : Int), (0 : Int), false, false))) (∃ (r : NoteOut), Holds (r = g.t.note g.r.fst g.r.snd.fst g.r.snd.snd.fst g.r.snd.snd.snd.fst) ∧ (70 : Int) = r.e ∧ g.t.next = r.t.next ∧ g.t.live = r.t.live) (Holds (g.t.live.length < maxLen) ∧ SplitB (g.r.snd.fst == (7 : Int)) (∃ (r : NoteOut), Holds (r = g.t.note g.r.fst g.r.snd.fst g.r.snd.snd.fst g.r.snd.snd.snd.fst) ∧ (0 : Int) = r.e ∧ g.t.next = r.t.next ∧ mdelT kI kL (msetT kI kL g.t.live g.r.snd.snd.fst (((mgetT kI kL g.t.live g.r.snd.snd.fst).getD ((0 : Int), (0 : Int), false, false)).fst, g.r.fst, ((mgetT kI kL g.t.live g.r.snd.snd.fst).getD ((0 : Int), (0 : Int), false, false)).snd.snd.fst, true)) g.r.snd.snd.fst = r.t.live) (∃ (r : NoteOut), Holds (r = g.t.note g.r.fst g.r.snd.fst g.r.snd.snd.fst g.r.snd.snd.snd.fst) ∧ (0 : Int) = r.e ∧ g.t.next = r.t.next ∧ msetT kI kL g.t.live g.r.snd.snd.fst (((mgetT kI kL g.t.live g.r.snd.snd.fst).getD ((0 : Int), (0 : Int), false, false)).fst, g.r.fst, ((mgetT kI kL g.t.live g.r.snd.snd.fst).getD ((0 : Int), (0 : Int), false, false)).snd.snd.fst, true) = r.t.live)))))) ∧ (∀ (r : Unit), Holds (g.r.snd.fst = (7 : Int)) → SplitB (!(mgetT kI kL g.t.live g.r.snd.snd.fst).isSome) (∃ (r : NoteOut), Holds (r = g.t.note g.r.fst g.r.snd.fst g.r.snd.snd.fst g.r.snd.snd.snd.fst) ∧ (130 : Int) = r.e ∧ g.t.next = r.t.next ∧ g.t.live = r.t.live) (SplitB (g.r.snd.snd.snd.fst != ((mgetT kI kL g.t.live g.r.snd.snd.fst).getD ((0 : Int), (0 : Int), false, false)).snd.fst) (∃ (r : NoteOut), Holds (r = g.t.note g.r.fst g.r.snd.fst g.r.snd.snd.fst g.r.snd.snd.snd.fst) ∧ (4 : Int) = r.e ∧ g.t.next = r.t.next ∧ g.t.live = r.t.live) (SplitB (decide (g.r.fst ≤ ((mgetT kI kL g.t.live g.r.snd.snd.fst).getD ((0 : Int), (0 : Int), false, false)).snd.fst)) (∃ (r : NoteOut), Holds (r = g.t.note g.r.fst g.r.snd.fst g.r.snd.snd.fst g.r.snd.snd.snd.fst) ∧ (4 : Int) = r.e ∧ g.t.next = r.t.next ∧ g.t.live = r.t.live) (SplitB (!!isOpen ((mgetT kI kL g.t.live g.r.snd.snd.fst).getD ((0 : Int), (0 : Int), false, false))) (∃ (r : NoteOut), Holds (r = g.t.note g.r.fst g.r.snd.fst g.r.snd.snd.fst g.r.snd.snd.snd.fst) ∧ (70 : Int) = r.e ∧ g.t.next = r.t.next ∧ g.t.live = r.t.live) (Holds (g.t.live.length < maxLen) ∧ SplitB (g.r.snd.fst == (7 : Int)) (∃ (r : NoteOut), Holds (r = g.t.note g.r.fst g.r.snd.fst g.r.snd.snd.fst g.r.snd.snd.snd.fst) ∧ (0 : Int) = r.e ∧ g.t.next = r.t.next ∧ mdelT kI kL (msetT kI kL g.t.live g.r.snd.snd.fst (((mgetT kI kL g.t.live g.r.snd.snd.fst).getD ((0 : Int), (0 : Int), false, false)).fst, g.r.fst, ((mgetT kI kL g.t.live g.r.snd.snd.fst).getD ((0 : Int), (0 : Int), false, false)).snd.snd)) g.r.snd.snd.fst = r.t.live) (∃ (r : NoteOut), Holds (r = g.t.note g.r.fst g.r.snd.fst g.r.snd.snd.fst g.r.snd.snd.snd.fst) ∧ (0 : Int) = r.e ∧ g.t.next = r.t.next ∧ msetT kI kL g.t.live g.r.snd.snd.fst (((mgetT kI kL g.t.live g.r.snd.snd.fst).getD ((0 : Int), (0 : Int), false, false)).fst, g.r.fst, ((mgetT kI kL g.t.live g.r.snd.snd.fst).getD ((0 : Int), (0 : Int), false, false)).snd.snd) = r.t.live)))))) ∧ ∀ (r : Unit), Holds ¬((3 : Int) ≤ g.r.snd.fst ∧ g.r.snd.fst ≤ (7 : Int)) → ∃ (r : NoteOut), Holds (r = g.t.note g.r.fst g.r.snd.fst g.r.snd.snd.fst g.r.snd.snd.snd.fst) ∧ (70 : Int) = r.e ∧ g.t.next = r.t.next ∧ g.t.live = r.t.live))))) := by kernel_rfl
theorem ok15 : vc15 := by
  rw [vc15_is]
  intro g h1 h2 h3 h4 _ _ _ _ _ _ _ _ _ _ _ _ _ h5 h6 h7
  simp only [holds_iff] at h1 h2 h3 h4 h5 h6 h7
  generalize g.r.1 = lsn at *
  generalize g.r.2.1 = kind at *
  generalize g.r.2.2.1 = tx at *
  generalize g.r.2.2.2.1 = prev at *
  have hl : g.t.live.length < maxLen := by have := h7.1; have := maxLen_is; omega
  simp only [splitB_iff, holds_iff, exists_eq_left, forall_eq, forall_const, hl, h7, true_and]
  have hget : ∀ E c, mgetT kI kL E c = mgL E c := fun _ _ => rfl
  have hset : ∀ E c x, msetT kI kL E c x = msL E c x := fun _ _ _ => rfl
  have hdel : ∀ E c, mdelT kI kL E c = mdL E c := fun _ _ => rfl
  simp only [hget, hset, hdel]
  unfold Tab.note Tab.goes
  have hw : within lsn 1 top = within lsn 1 2147483647 := rfl
  rw [hw]
  cases within lsn 1 2147483647 with
  | false => simp
  | true =>
    simp only [Bool.true_eq_false, if_false]
    by_cases k2 : kind = 2 ∨ kind = 8
    · rw [if_pos k2]
      rcases k2 with rfl | rfl <;> simp
    · rw [if_neg k2]
      by_cases k1 : kind = 1
      · rw [if_pos k1]
        subst k1
        by_cases e : tx = g.t.next
        · simp [e]
        · simp [e]
      · rw [if_neg k1]
        by_cases k3 : 3 ≤ kind ∧ kind ≤ 7
        · rw [if_neg (by omega)]
          rcases opt_or (mgL g.t.live tx) with hm | ⟨x, hm⟩
          · have hk : kind = 3 ∨ kind = 4 ∨ kind = 5 ∨ kind = 6 ∨ kind = 7 := by omega
            rcases hk with rfl | rfl | rfl | rfl | rfl <;> simp [hm]
          · have hk : kind = 3 ∨ kind = 4 ∨ kind = 5 ∨ kind = 6 ∨ kind = 7 := by omega
            obtain ⟨xa, xl, xc, xu⟩ := x
            by_cases e1 : prev = xl <;> by_cases e2 : lsn ≤ xl <;> cases xc <;> cases xu <;> rcases hk with rfl | rfl | rfl | rfl | rfl <;> simp [hm, e1, e2, may, thn, upto, isOpen]
        · have : ¬ kind = 3 ∧ ¬ kind = 4 ∧ ¬ kind = 5 ∧ ¬ kind = 6 ∧ ¬ kind = 7 ∧ ¬ kind = 2 ∧ ¬ kind = 8 := by omega
          simp [this, k1, k3]
theorem beq_lv {a b : Int × Int × Bool × Bool} : (!(a.1 == b.1 && (a.2.1 == b.2.1 && (a.2.2.1 == b.2.2.1 && a.2.2.2 == b.2.2.2)))) = true ↔ a ≠ b := by
  obtain ⟨a1, a2, a3, a4⟩ := a
  obtain ⟨b1, b2, b3, b4⟩ := b
  by_cases h1 : a1 = b1 <;> by_cases h2 : a2 = b2 <;> by_cases h3 : a3 = b3 <;> by_cases h4 : a4 = b4 <;> simp [h1, h2, h3, h4]
theorem beq_lv' {a b : Int × Int × Bool × Bool} : (!(a.1 == b.1 && (a.2.1 == b.2.1 && (a.2.2.1 == b.2.2.1 && a.2.2.2 == b.2.2.2)))) = false ↔ a = b := by
  obtain ⟨a1, a2, a3, a4⟩ := a
  obtain ⟨b1, b2, b3, b4⟩ := b
  simp [Prod.ext_iff]

def vc19 : Prop := vc Try.f19.body Try.f19.results Try.f19.ntmps [(33, some sp33), (32, some sp32)] sp19 ann19
theorem vc19_is : vc19 = (
∀ (g : TabOnly), Holds (InR IntKind.i64 g.t.next) → Holds (MOk kI kL g.t.live) → Holds g.t.ok → Holds (g.t.live.length * (8 : Nat) ≤ (140737488355328 : Nat)) ∧ (∃ (x : LsAt), Holds (x.i ≤ g.t.live.length) ∧ (0 : Int) = (↑x.i : Int) ∧ nilT (Int × Int × Bool × Bool) = List.take x.i g.t.list) ∧ ∀ (x : LsAt), Holds (x.i ≤ g.t.live.length) → SplitB (decide ((↑x.i : Int) < (↑(rising (keysOf g.t.live)).length : Int))) (Holds ((0 : Int) ≤ (↑x.i : Int)) ∧ Holds ((↑x.i : Int) < (↑(rising (keysOf g.t.live)).length : Int)) ∧ Holds ((↑x.i : Int).toNat < (rising (keysOf g.t.live)).length) ∧ Holds (((List.take x.i g.t.list).length + [(mgetT kI kL g.t.live ((rising (keysOf g.t.live)).getD (↑x.i : Int).toNat ((0 : Int)))).getD ((0 : Int), (0 : Int), false, false)].length) * (24 : Nat) ≤ (140737488355328 : Nat)) ∧ ∃ (y : LsAt), Holds (y.i ≤ g.t.live.length) ∧ Holds (g.t.live.length - y.i < g.t.live.length - x.i) ∧ IntKind.i64.wrap ((↑x.i : Int) + (1 : Int)) = (↑y.i : Int) ∧ List.take x.i g.t.list ++ [(mgetT kI kL g.t.live ((rising (keysOf g.t.live)).getD (↑x.i : Int).toNat ((0 : Int)))).getD ((0 : Int), (0 : Int), false, false)] = List.take y.i g.t.list) (List.take x.i g.t.list = g.t.list)) := by kernel_rfl
theorem Tab.list_len (t : Tab) : t.list.length = t.live.length := by simp [Tab.list, rising_len, keysOf_len]
theorem ok19 : vc19 := by
  rw [vc19_is]
  intro g h1 h2 h3
  simp only [holds_iff, splitB_iff, decide_eq_true_eq, decide_eq_false_iff_not] at *
  have hl := h3.1
  have hr : (rising (keysOf g.t.live)).length = g.t.live.length := by rw [rising_len, keysOf_len]
  have hll := g.t.list_len
  refine ⟨by omega, ⟨⟨0⟩, by simp, rfl, rfl⟩, fun x hx => ⟨fun h => ?_, fun h => ?_⟩⟩
  · have hi : x.i < g.t.live.length := by omega
    have hn : (↑x.i : Int).toNat = x.i := by omega
    rw [hn]
    refine ⟨by omega, by omega, by omega, by rw [List.length_take]; simp only [List.length_cons, List.length_nil]; omega, ⟨x.i + 1⟩, (show x.i + 1 ≤ _ by omega), (show g.t.live.length - (x.i + 1) < _ by omega), by rw [wrap64 (by omega) (by omega)]; rfl, ?_⟩
    show _ = g.t.list.take (x.i + 1)
    rw [List.take_succ_eq_append_getElem (show x.i < g.t.list.length by omega)]
    congr 1
    have hi' : x.i < (rising (keysOf g.t.live)).length := by omega
    simp only [Tab.list, List.getElem_map]
    have : (rising (keysOf g.t.live)).getD x.i 0 = (rising (keysOf g.t.live))[x.i] := by simp [List.getD, hi']
    rw [this]; rfl
  · rw [List.take_of_length_le (by omega)]
theorem ents_keys (l : List Lv) : keysOf (ents l) = l.map (·.1) := by simp [ents, keysOf]
theorem ents_get {l : List Lv} (h : Up l) {x : Lv} (hx : x ∈ l) : mgL (ents l) x.1 = some x := by
  have hn : (keysOf (ents l)).Nodup := by
    rw [ents_keys, List.Nodup, List.pairwise_map]
    exact h.imp fun h => by omega
  have := mget_of_mem (q := .i64) (v := kL) hn (e := (x.1, x)) (List.mem_map.2 ⟨x, hx, rfl⟩)
  exact this
theorem ents_list {t : Tab} {l : List Lv} (h : t.live = ents l) (hu : Up l) : t.list = l := by
  unfold Tab.list
  rw [h, ents_keys, rising_of_le (by rw [List.pairwise_map]; exact hu.imp fun h => by omega), List.map_map]
  conv => rhs; rw [← List.map_id l]
  refine List.map_congr_left fun x hx => ?_
  simp [ents_get hu hx]

def vc21 : Prop := vc Try.f21.body Try.f21.results Try.f21.ntmps [(7, some sp7), (24, some sp24)] sp21 ann21
theorem vc21_is : vc21 = (
∀ (g : LoadArg), Holds (kL.slice.ok g.p.fst) → Holds (kD.slice.ok g.p.snd.fst) → Holds (InR IntKind.i64 g.p.snd.snd) → (∀ (r : Unit), Holds (within g.p.snd.snd (1 : Int) (2147483648 : Int) = false) → SplitB ((4 : Int) != (0 : Int)) ((∃ (r : Unit), Holds ¬LoadOk g.p ∧ (23 : Int) = (23 : Int)) ∨ ∃ (r : Unit), Holds (LoadOk g.p) ∧ False) (SplitB (decide ((↑g.p.fst.length : Int) > (32 : Int))) ((∃ (r : Unit), Holds ¬LoadOk g.p ∧ (23 : Int) = (23 : Int)) ∨ ∃ (r : Unit), Holds (LoadOk g.p) ∧ False) ((∃ (x : LdAt), Holds (x.i ≤ g.p.fst.length ∧ x.last = lastOf (List.take x.i g.p.fst) ∧ goodL g.p.snd.snd (0 : Int) (List.take x.i g.p.fst)) ∧ False) ∧ ∀ (x : LdAt), Holds (x.i ≤ g.p.fst.length ∧ x.last = lastOf (List.take x.i g.p.fst) ∧ goodL g.p.snd.snd (0 : Int) (List.take x.i g.p.fst)) → SplitB (decide ((↑x.i : Int) < (↑g.p.fst.length : Int))) (Holds ((0 : Int) ≤ (↑x.i : Int)) ∧ Holds ((↑x.i : Int) < (↑g.p.fst.length : Int)) ∧ Holds ((↑x.i : Int).toNat < g.p.fst.length) ∧ SplitB (decide ((g.p.fst.getD (↑x.i : Int).toNat ((0 : Int), (0 : Int), false, false)).fst ≤ x.last)) ((∃ (r : Unit), Holds ¬LoadOk g.p ∧ (23 : Int) = (23 : Int)) ∨ ∃ (r : Unit), Holds (LoadOk g.p) ∧ False) (SplitB (decide ((g.p.fst.getD (↑x.i : Int).toNat ((0 : Int), (0 : Int), false, false)).fst ≥ g.p.snd.snd)) ((∃ (r : Unit), Holds ¬LoadOk g.p ∧ (23 : Int) = (23 : Int)) ∨ ∃ (r : Unit), Holds (LoadOk g.p) ∧ False) (SplitB (!within (g.p.fst.getD (↑x.i : Int).toNat ((0 : Int), (0 : Int), false, false)).snd.fst (1 : Int) (2147483647 : Int)) ((∃ (r : Unit), Holds ¬LoadOk g.p ∧ (23 : Int) = (23 : Int)) ∨ ∃ (r : Unit), Holds (LoadOk g.p) ∧ False) (SplitB (g.p.fst.getD (↑x.i : Int).toNat ((0 : Int), (0 : Int), false, false)).snd.snd.fst (SplitB (g.p.fst.getD (↑x.i : Int).toNat ((0 : Int), (0 : Int), false, false)).snd.snd.snd ((∃ (r : Unit), Holds ¬LoadOk g.p ∧ (23 : Int) = (23 : Int)) ∨ ∃ (r : Unit), Holds (LoadOk g.p) ∧ False) False) False)))) ((∃ (r : Unit), Holds ¬LoadOk g.p ∧ (0 : Int) = (23 : Int)) ∨ ∃ (r : Unit), Holds (LoadOk g.p) ∧ False)))) ∧ ∀ (r : Unit), Holds (within g.p.snd.snd (1 : Int) (2147483648 : Int) = true) → SplitB ((0 : Int) != (0 : Int)) ((∃ (r : Unit), Holds ¬LoadOk g.p ∧ (23 : Int) = (23 : Int)) ∨ ∃ (r : Unit), Holds (LoadOk g.p) ∧ False) (SplitB (decide ((↑g.p.fst.length : Int) > (32 : Int))) ((∃ (r : Unit), Holds ¬LoadOk g.p ∧ (23 : Int) = (23 : Int)) ∨ ∃ (r : Unit), Holds (LoadOk g.p) ∧ False) ((∃ (x : LdAt), Holds (x.i ≤ g.p.fst.length ∧ x.last = lastOf (List.take x.i g.p.fst) ∧ goodL g.p.snd.snd (0 : Int) (List.take x.i g.p.fst)) ∧ (0 : Int) = (↑x.i : Int) ∧ (0 : Int) = x.last ∧ nilT (Int × Int × Int × Bool × Bool) = ents (List.take x.i g.p.fst)) ∧ ∀ (x : LdAt), Holds (x.i ≤ g.p.fst.length ∧ x.last = lastOf (List.take x.i g.p.fst) ∧ goodL g.p.snd.snd (0 : Int) (List.take x.i g.p.fst)) → SplitB (decide ((↑x.i : Int) < (↑g.p.fst.length : Int))) (Holds ((0 : Int) ≤ (↑x.i : Int)) ∧ Holds ((↑x.i : Int) < (↑g.p.fst.length : Int)) ∧ Holds ((↑x.i : Int).toNat < g.p.fst.length) ∧ SplitB (decide ((g.p.fst.getD (↑x.i : Int).toNat ((0 : Int), (0 : Int), false, false)).fst ≤ x.last)) ((∃ (r : Unit), Holds ¬LoadOk g.p ∧ (23 : Int) = (23 : Int)) ∨ ∃ (r : Unit), Holds (LoadOk g.p) ∧ False) (SplitB (decide ((g.p.fst.getD (↑x.i : Int).toNat ((0 : Int), (0 : Int), false, false)).fst ≥ g.p.snd.snd)) ((∃ (r : Unit), Holds ¬LoadOk g.p ∧ (23 : Int) = (23 : Int)) ∨ ∃ (r : Unit), Holds (LoadOk g.p) ∧ False) (SplitB (!within (g.p.fst.getD (↑x.i : Int).toNat ((0 : Int), (0 : Int), false, false)).snd.fst (1 : Int) (2147483647 : Int)) ((∃ (r : Unit), Holds ¬LoadOk g.p ∧ (23 : Int) = (23 : Int)) ∨ ∃ (r : Unit), Holds (LoadOk g.p) ∧ False) (SplitB (g.p.fst.getD (↑x.i : Int).toNat ((0 : Int), (0 : Int), false, false)).snd.snd.fst (SplitB (g.p.fst.getD (↑x.i : Int).toNat ((0 : Int), (0 : Int), false, false)).snd.snd.snd ((∃ (r : Unit), Holds ¬LoadOk g.p ∧ (23 : Int) = (23 : Int)) ∨ ∃ (r : Unit), Holds (LoadOk g.p) ∧ False) (Holds ((ents (List.take x.i g.p.fst)).length < maxLen) ∧ ∃ (y : LdAt), Holds (y.i ≤ g.p.fst.length ∧ y.last = lastOf (List.take y.i g.p.fst) ∧ goodL g.p.snd.snd (0 : Int) (List.take y.i g.p.fst)) ∧ Holds (g.p.fst.length - y.i < g.p.fst.length - x.i) ∧ IntKind.i64.wrap ((↑x.i : Int) + (1 : Int)) = (↑y.i : Int) ∧ (g.p.fst.getD (↑x.i : Int).toNat ((0 : Int), (0 : Int), false, false)).fst = y.last ∧ msetT kI kL (ents (List.take x.i g.p.fst)) (g.p.fst.getD (↑x.i : Int).toNat ((0 : Int), (0 : Int), false, false)).fst (g.p.fst.getD (↑x.i : Int).toNat ((0 : Int), (0 : Int), false, false)) = ents (List.take y.i g.p.fst))) (Holds ((ents (List.take x.i g.p.fst)).length < maxLen) ∧ ∃ (y : LdAt), Holds (y.i ≤ g.p.fst.length ∧ y.last = lastOf (List.take y.i g.p.fst) ∧ goodL g.p.snd.snd (0 : Int) (List.take y.i g.p.fst)) ∧ Holds (g.p.fst.length - y.i < g.p.fst.length - x.i) ∧ IntKind.i64.wrap ((↑x.i : Int) + (1 : Int)) = (↑y.i : Int) ∧ (g.p.fst.getD (↑x.i : Int).toNat ((0 : Int), (0 : Int), false, false)).fst = y.last ∧ msetT kI kL (ents (List.take x.i g.p.fst)) (g.p.fst.getD (↑x.i : Int).toNat ((0 : Int), (0 : Int), false, false)).fst (g.p.fst.getD (↑x.i : Int).toNat ((0 : Int), (0 : Int), false, false)) = ents (List.take y.i g.p.fst)))))) ((∃ (r : Unit), Holds ¬LoadOk g.p ∧ False) ∨ ∃ (r : Unit), Holds (LoadOk g.p) ∧ (0 : Int) = (0 : Int) ∧ g.p.snd.snd = g.p.snd.snd ∧ ents (List.take x.i g.p.fst) = ents g.p.fst)))) := by kernel_rfl
theorem lastF_snoc : ∀ {a : Int} {l : List Lv} {x : Lv}, lastF a (l ++ [x]) = x.1
  | _, [], _ => rfl
  | _, _ :: l, x => lastF_snoc (l := l)
theorem goodL_snoc {n : Int} : ∀ {a : Int} {l : List Lv} {x : Lv}, goodL n a (l ++ [x]) ↔ goodL n a l ∧ lastF a l < x.1 ∧ x.1 < n ∧ 1 ≤ x.2.1 ∧ x.2.1 ≤ top ∧ ¬ (x.2.2.1 = true ∧ x.2.2.2 = true)
  | a, [], x => by simp [goodL, lastF]
  | a, y :: l, x => by
    simp only [List.cons_append, goodL, lastF]
    rw [goodL_snoc (a := y.1) (l := l)]
    constructor
    · rintro ⟨h1, h2, h3, h4, h5, h6, h7⟩; exact ⟨⟨h1, h2, h3, h4, h5, h6⟩, h7⟩
    · rintro ⟨⟨h1, h2, h3, h4, h5, h6⟩, h7⟩; exact ⟨h1, h2, h3, h4, h5, h6, h7⟩
theorem goodL_pre {n : Int} : ∀ {a : Int} {l m : List Lv}, goodL n a (l ++ m) → goodL n a l
  | _, [], _, _ => trivial
  | _, _ :: l, m, ⟨h1, h2, h3, h4, h5, h6⟩ => ⟨h1, h2, h3, h4, h5, goodL_pre h6⟩
theorem goodL_keys {n : Int} : ∀ {a : Int} {l : List Lv}, goodL n a l → ∀ x ∈ l, a < x.1 ∧ x.1 ≤ lastF a l
  | a, y :: l, ⟨h1, h2, h3, h4, h5, h6⟩, x, hx => by
    have ih := goodL_keys h6
    rcases List.mem_cons.1 hx with rfl | hx
    · refine ⟨h1, ?_⟩
      show x.1 ≤ lastF x.1 l
      cases l with
      | nil => exact Int.le_refl _
      | cons z l => have := ih z (by simp); omega
    · have := ih x hx; exact ⟨by omega, this.2⟩
theorem goodL_at {n a : Int} {l : List Lv} (h : goodL n a l) {i : Nat} {v : Lv} (hv : l[i]? = some v) : goodL n a (l.take i) ∧ lastF a (l.take i) < v.1 ∧ v.1 < n ∧ 1 ≤ v.2.1 ∧ v.2.1 ≤ top ∧ ¬ (v.2.2.1 = true ∧ v.2.2.2 = true) := by
  have h1 : goodL n a (l.take (i + 1)) := goodL_pre (m := l.drop (i + 1)) (by rw [List.take_append_drop]; exact h)
  obtain ⟨hi, hv'⟩ := List.getElem?_eq_some_iff.1 hv
  rw [List.take_succ_eq_append_getElem hi, goodL_snoc, hv'] at h1
  exact h1
theorem ents_next {n : Int} {l : List Lv} {i : Nat} {v : Lv} (hv : l[i]? = some v) (hg : goodL n 0 (l.take i)) (hl : lastF 0 (l.take i) < v.1) : msetT kI kL (ents (l.take i)) v.1 v = ents (l.take (i + 1)) := by
  obtain ⟨hi, hv'⟩ := List.getElem?_eq_some_iff.1 hv
  have h0 : mget (k := kI) (v := kL) (ents (l.take i)) v.1 = none := mget_none.2 fun e he => by
    obtain ⟨x, hx, rfl⟩ := List.mem_map.1 he
    have := goodL_keys hg x hx
    simp only
    omega
  have := mset_none (q := .i64) (v := kL) (x := v) h0
  show mset (k := kI) (v := kL) _ _ _ = _
  rw [show mset (k := kI) (v := kL) (ents (l.take i)) v.1 v = _ from this, List.take_succ_eq_append_getElem hi, hv']
  simp [ents]
theorem ok21 : vc21 := by
  rw [vc21_is]
  intro g h1 h2 h3
  obtain ⟨⟨live, dirty, next⟩⟩ := g
  dsimp only at *
  have hL : (live.length : Int) ≤ 9223372036854775807 := by have := h1.out.1; have := maxLen_is; omega
  refine ⟨fun _ hw => ⟨fun _ => .inl ⟨(), ⟨fun hk => by have := hk.1; rw [hw.out] at this; cases this⟩, rfl⟩, fun h => by simp at h⟩, fun _ hw => ⟨fun h => by simp at h, fun _ => ⟨fun hl => .inl ⟨(), ⟨fun hk => by have : live.length ≤ 32 := hk.2.1; simp at hl; omega⟩, rfl⟩, fun hl => ⟨⟨⟨0, 0⟩, ⟨by simp [lastOf, lastF, goodL]⟩, rfl, rfl, rfl⟩, fun x hx => ?_⟩⟩⟩⟩
  obtain ⟨x1, x2, x3⟩ := hx.out
  have hl : live.length ≤ 32 := by simp at hl; omega
  have hn : (↑x.i : Int).toNat = x.i := by omega
  have hmax := maxLen_is
  rw [hn]
  refine ⟨fun hi => ?_, fun hi => ?_⟩
  · have hi : x.i < live.length := by simp at hi; omega
    obtain ⟨v, hv⟩ : ∃ v, live[x.i]? = some v := ⟨_, List.getElem?_eq_getElem hi⟩
    have hd : live.getD x.i (0, 0, false, false) = v := by simp [List.getD, hv]
    rw [hd]
    have bad : (¬ (x.last < v.1 ∧ v.1 < next ∧ 1 ≤ v.2.1 ∧ v.2.1 ≤ top ∧ ¬ (v.2.2.1 = true ∧ v.2.2.2 = true))) → ¬ LoadOk (live, dirty, next) := fun hb hk => hb (by
      have := goodL_at hk.2.2 hv
      rw [x2]
      exact this.2)
    have bad' : (¬ (x.last < v.1 ∧ v.1 < next ∧ 1 ≤ v.2.1 ∧ v.2.1 ≤ top ∧ ¬ (v.2.2.1 = true ∧ v.2.2.2 = true))) → (∃ (r : Unit), Holds (¬LoadOk (live, dirty, next)) ∧ (23 : Int) = 23) ∨ ∃ (r : Unit), Holds (LoadOk (live, dirty, next)) ∧ False := fun h => .inl ⟨(), ⟨bad h⟩, rfl⟩
    have hlen : (ents (live.take x.i)).length = x.i := by simp [ents]; omega
    refine ⟨⟨by omega⟩, ⟨by omega⟩, ⟨hi⟩, fun c1 => bad' (by simp at c1; omega), fun c1 => ⟨fun c2 => bad' (by simp at c2; omega), fun c2 => ⟨fun c3 => bad' (by simp [within, top] at c3 ⊢; omega), fun c3 => ?_⟩⟩⟩
    simp only [decide_eq_false_iff_not] at c1 c2
    have c3 : 1 ≤ v.2.1 ∧ v.2.1 ≤ top := by simp [within] at c3; exact c3
    have go : ¬ (v.2.2.1 = true ∧ v.2.2.2 = true) → Holds ((ents (live.take x.i)).length < maxLen) ∧ ∃ y : LdAt, Holds (y.i ≤ live.length ∧ y.last = lastOf (live.take y.i) ∧ goodL next 0 (live.take y.i)) ∧ Holds (live.length - y.i < live.length - x.i) ∧ IntKind.i64.wrap ((x.i : Int) + 1) = (y.i : Int) ∧ v.1 = y.last ∧ msetT kI kL (ents (live.take x.i)) v.1 v = ents (live.take y.i) := fun hb => by
      have hlt : lastF 0 (live.take x.i) < v.1 := by rw [x2] at c1; unfold lastOf at c1; omega
      have hv' := (List.getElem?_eq_some_iff.1 hv).2
      have hs : live.take (x.i + 1) = live.take x.i ++ [v] := by rw [List.take_succ_eq_append_getElem hi, hv']
      refine ⟨⟨by rw [hlen]; omega⟩, ⟨x.i + 1, v.1⟩, ⟨hi, ?_, ?_⟩, ⟨(show live.length - (x.i + 1) < _ by omega)⟩, by rw [wrap64 (by omega) (by omega)]; rfl, rfl, ents_next hv x3 hlt⟩
      · show v.1 = lastOf (live.take (x.i + 1))
        rw [hs]; exact lastF_snoc.symm
      · show goodL next 0 (live.take (x.i + 1))
        rw [hs, goodL_snoc]
        exact ⟨x3, hlt, by omega, c3.1, c3.2, hb⟩
    exact ⟨fun c4 => ⟨fun c5 => bad' (by simp [c4, c5]), fun c5 => go (by simp [c5])⟩, fun c4 => go (by simp [c4])⟩
  · have hi : x.i = live.length := by simp at hi; omega
    rw [hi, List.take_length] at x3
    exact .inr ⟨(), ⟨hw.out, hl, x3⟩, rfl, rfl, by rw [hi, List.take_length]⟩

end Go.Proofs.Ytgoikphefcgleaa.VC
