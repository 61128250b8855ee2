/- What is to be shown of functions, shown. Plain lemmas; no conditions but those that each names. -/
import Derived.Test.YtkhcphdnppdfjaaSp
import Derived.KernelRfl
set_option linter.unusedVariables false
set_option linter.unusedSimpArgs false
set_option linter.unusedSectionVars false
namespace Go.Proofs.Ytkhcphdnppdfjaa.VC
open Go
set_option maxRecDepth 100000

theorem idx_some {l : List Int} {k : Int} {i : Nat} (hi : i < l.length) (h1 : l[i] = k) (h2 : ∀ p ∈ l.take i, p ≠ k) : idxI l k = (i : Int) := by
  unfold idxI
  have : l.findIdx? (fun x => decide (x = k)) = some i := by
    rw [List.findIdx?_eq_some_iff_getElem]
    refine ⟨hi, by simpa using h1, fun j hj => ?_⟩
    have := h2 l[j] (List.mem_take_iff_getElem.2 ⟨j, by omega, rfl⟩)
    simpa using this
  rw [this]
theorem idx_none {l : List Int} {k : Int} (h : ∀ p ∈ l, p ≠ k) : idxI l k = -1 := by
  unfold idxI
  have : l.findIdx? (fun x => decide (x = k)) = none := by
    rw [List.findIdx?_eq_none_iff]
    intro x hx
    simpa using h x hx
  rw [this]
theorem idx_cases (l : List Int) (k : Int) : (idxI l k = -1 ∧ ∀ p ∈ l, p ≠ k) ∨ ∃ i, ∃ hi : i < l.length, idxI l k = (i : Int) ∧ l[i] = k ∧ ∀ p ∈ l.take i, p ≠ k := by
  cases hf : l.findIdx? (fun x => decide (x = k)) with
  | none =>
    rw [List.findIdx?_eq_none_iff] at hf
    have : ∀ p ∈ l, p ≠ k := fun p hp => by simpa using hf p hp
    exact .inl ⟨idx_none this, this⟩
  | some i =>
    obtain ⟨hi, h1, h2⟩ := List.findIdx?_eq_some_iff_getElem.1 hf
    have h1 : l[i] = k := by simpa using h1
    have h2 : ∀ p ∈ l.take i, p ≠ k := fun p hp => by
      obtain ⟨j, hj, rfl⟩ := List.mem_take_iff_getElem.1 hp
      have := h2 j (by omega)
      simpa using this
    exact .inr ⟨i, hi, idx_some hi h1 h2, h1, h2⟩
theorem idx_lt (l : List Int) (k : Int) : -1 ≤ idxI l k ∧ idxI l k < l.length := by
  rcases idx_cases l k with ⟨h, _⟩ | ⟨i, hi, h, _⟩ <;> omega
def vc22 : Prop := vc Try.f22.body Try.f22.results Try.f22.ntmps [] sp22 ann22
theorem vc22_is : vc22 = (
∀ (g : Num1), Holds (InR IntKind.i64 g.v) → SplitB (decide (g.v < (2 : Int))) ((∃ (r : Unit), Holds ¬((2 : Int) ≤ g.v ∧ g.v ≤ (64 : Int)) ∧ (2 : Int) = (2 : Int)) ∨ ∃ (r : Unit), Holds ((2 : Int) ≤ g.v ∧ g.v ≤ (64 : Int)) ∧ False) (SplitB (decide (g.v > (64 : Int))) ((∃ (r : Unit), Holds ¬((2 : Int) ≤ g.v ∧ g.v ≤ (64 : Int)) ∧ (2 : Int) = (2 : Int)) ∨ ∃ (r : Unit), Holds ((2 : Int) ≤ g.v ∧ g.v ≤ (64 : Int)) ∧ False) ((∃ (r : Unit), Holds ¬((2 : Int) ≤ g.v ∧ g.v ≤ (64 : Int)) ∧ False) ∨ ∃ (r : Unit), Holds ((2 : Int) ≤ g.v ∧ g.v ≤ (64 : Int)) ∧ (0 : Int) = (0 : Int) ∧ g.v = g.v ∧ nilT (Int × Int) = [] ∧ nilT Int = []))) := by kernel_rfl
theorem ok22 : vc22 := by
  rw [vc22_is]
  intro g h
  simp only [holds_iff, splitB_iff, decide_eq_true_eq, decide_eq_false_iff_not]
  refine ⟨fun h1 => .inl ⟨(), by omega, by simp⟩, fun h1 => ⟨fun h2 => .inl ⟨(), by omega, by simp⟩, fun h2 => .inr ⟨(), by omega, by simp⟩⟩⟩

def vc43 : Prop := vc Try.f43.body Try.f43.results Try.f43.ntmps [] sp43 (fun _ => noAnn)
theorem vc43_is : vc43 = (
∀ (g : Two), Holds (InR IntKind.i64 g.a) → Holds (InR IntKind.i64 g.b) → Holds ((0 : Int) ≤ g.a) → Holds (g.a ≤ (1000000000 : Int)) → Holds ((0 : Int) < g.b) → Holds (g.b ≤ (1000000000 : Int)) → Holds (g.b ≠ (0 : Int)) ∧ IntKind.i64.wrap ((IntKind.i64.wrap (IntKind.i64.wrap (g.a + g.b) - (1 : Int))).tdiv g.b) = nd g.a g.b) := by kernel_rfl
theorem ok43 : vc43 := by
  rw [vc43_is]
  intro g h1 h2 h3 h4 h5 h6
  simp only [holds_iff, inR64] at *
  refine ⟨by omega, ?_⟩
  have e1 : (g.a + g.b - 1) / g.b ≤ g.a + g.b - 1 := Int.ediv_le_self _ (by omega)
  have e2 : 0 ≤ (g.a + g.b - 1) / g.b := Int.ediv_nonneg (by omega) (by omega)
  rw [wrap64 (n := g.a + g.b) (by omega) (by omega), wrap64 (n := g.a + g.b - 1) (by omega) (by omega), tdiv_pos (by omega), wrap64 (by omega) (by omega)]
  rfl

def vc44 : Prop := vc Try.f44.body Try.f44.results Try.f44.ntmps [] sp44 (fun _ => noAnn)
theorem vc44_is : vc44 = (
∀ (g : Num1), Holds (InR IntKind.i64 g.v) → Holds ((0 : Int) ≤ g.v) → Holds ((31 : Int) ≠ (0 : Int)) ∧ Holds ((31 : Int) ≠ (0 : Int)) ∧ IntKind.i64.wrap (g.v.tdiv (31 : Int)) = (wh g.v).fst ∧ g.v.tmod (31 : Int) = (wh g.v).snd) := by kernel_rfl
theorem ok44 : vc44 := by
  rw [vc44_is]
  intro g h1 h2
  simp only [holds_iff, inR64] at *
  refine ⟨by omega, by omega, ?_, ?_⟩
  · rw [tdiv_pos h2, wrap64 (by omega) (by omega)]; rfl
  · rw [tmod_pos h2]; rfl

def vc45 : Prop := vc Try.f45.body Try.f45.results Try.f45.ntmps [] sp45 (fun _ => noAnn)
theorem vc45_is : vc45 = (
∀ (g : RefInt), Holds (InR IntKind.i64 g.k) → Holds (InR IntKind.i64 g.r.pages) → Holds (kS.slice.ok g.r.C) → Holds (kI.slice.ok g.r.G) → Holds ((0 : Int) ≤ g.r.pages) → Holds (g.r.pages ≤ (64 : Int)) → Holds ((0 : Int) ≤ g.k) → Holds ((84 : Int) ≠ (0 : Int)) ∧ Holds ((84 : Int) ≠ (0 : Int)) ∧ IntKind.i64.wrap (IntKind.i64.wrap (g.r.pages - (1 : Int)) - IntKind.i64.wrap (g.k.tdiv (84 : Int))) = (sm g.r.pages g.k).fst ∧ g.k.tmod (84 : Int) = (sm g.r.pages g.k).snd) := by kernel_rfl
theorem ok45 : vc45 := by
  rw [vc45_is]
  intro g h1 h2 h3 h4 h5 h6 h7
  simp only [holds_iff, inR64] at *
  refine ⟨by omega, by omega, ?_, ?_⟩
  · rw [tdiv_pos h7]
    simp only [sm]
    rw [wrap64 (n := g.k / 84) (by omega) (by omega), wrap64 (n := g.r.pages - 1) (by omega) (by omega), wrap64 (by omega) (by omega)]
  · rw [tmod_pos h7]; rfl

def vc42 : Prop := vc Try.f42.body Try.f42.results Try.f42.ntmps [] sp42 ann42
theorem vc42_is : vc42 = (
∀ (g : RefInt), Holds (InR IntKind.i64 g.k) → Holds (InR IntKind.i64 g.r.pages) → Holds (kS.slice.ok g.r.C) → Holds (kI.slice.ok g.r.G) → (∃ (x : At), Holds (x.i ≤ g.r.C.length ∧ ∀ (p : Int × Int), p ∈ List.take x.i g.r.C → p.fst ≠ g.k) ∧ (0 : Int) = (↑x.i : Int)) ∧ ∀ (x : At), Holds (x.i ≤ g.r.C.length ∧ ∀ (p : Int × Int), p ∈ List.take x.i g.r.C → p.fst ≠ g.k) → SplitB (decide ((↑x.i : Int) < (↑g.r.C.length : Int))) (Holds ((0 : Int) ≤ (↑x.i : Int)) ∧ Holds ((↑x.i : Int) < (↑g.r.C.length : Int)) ∧ Holds ((↑x.i : Int).toNat < g.r.C.length) ∧ SplitB ((g.r.C.getD (↑x.i : Int).toNat ((0 : Int), (0 : Int))).fst == g.k) (∃ (r : Int), Holds (r = g.r.counter g.k) ∧ (↑x.i : Int) = r) (∃ (y : At), Holds (y.i ≤ g.r.C.length ∧ ∀ (p : Int × Int), p ∈ List.take y.i g.r.C → p.fst ≠ g.k) ∧ Holds (g.r.C.length - y.i < g.r.C.length - x.i) ∧ IntKind.i64.wrap ((↑x.i : Int) + (1 : Int)) = (↑y.i : Int))) (∃ (r : Int), Holds (r = g.r.counter g.k) ∧ (-1 : Int) = r)) := by kernel_rfl
theorem ok42 : vc42 := by
  rw [vc42_is]
  intro g h1 h2 h3 h4
  have hl := max63 h3.out.1
  simp only [splitB_iff, holds_iff, exists_eq_left, decide_eq_true_eq, decide_eq_false_iff_not, Int.toNat_natCast, beq_iff_eq, beq_eq_false_iff_ne]
  refine ⟨⟨⟨0⟩, ⟨Nat.zero_le _, by simp⟩, rfl⟩, fun x hx => ⟨fun a => ?_, fun a => ?_⟩⟩
  · have hi : x.i < g.r.C.length := by omega
    have e : g.r.C.getD x.i (0, 0) = g.r.C[x.i] := by simp [List.getD, hi]
    rw [e]
    refine ⟨by omega, a, hi, fun b => ?_, fun b => ⟨⟨x.i + 1⟩, ⟨hi, fun p hp => ?_⟩, by show _ - (x.i + 1) < _; omega, wrap_succ (by omega)⟩⟩
    · have := idx_some (l := g.r.C.map (·.1)) (k := g.k) (i := x.i) (by simpa using hi) (by simpa using b) (fun p hp => by
        rw [← List.map_take] at hp
        obtain ⟨q, hq, rfl⟩ := List.mem_map.1 hp
        exact hx.2 q hq)
      exact this.symm
    · rw [List.take_succ_eq_append_getElem hi] at hp
      rcases List.mem_append.1 hp with hp | hp
      · exact hx.2 p hp
      · obtain rfl : p = g.r.C[x.i] := by simpa using hp
        exact b
  · have hi : x.i = g.r.C.length := by omega
    have h5 := hx.2
    rw [hi, List.take_length] at h5
    exact (idx_none (l := g.r.C.map (·.1)) (k := g.k) (fun p hp => by
      obtain ⟨q, hq, rfl⟩ := List.mem_map.1 hp
      exact h5 q hq)).symm

def vc34 : Prop := vc Try.f34.body Try.f34.results Try.f34.ntmps [] sp34 ann34
theorem vc34_is : vc34 = (
∀ (g : RefInt), Holds (InR IntKind.i64 g.k) → Holds (InR IntKind.i64 g.r.pages) → Holds (kS.slice.ok g.r.C) → Holds (kI.slice.ok g.r.G) → (∃ (x : At), Holds (x.i ≤ g.r.G.length ∧ ∀ (p : Int), p ∈ List.take x.i g.r.G → p ≠ g.k) ∧ (0 : Int) = (↑x.i : Int)) ∧ ∀ (x : At), Holds (x.i ≤ g.r.G.length ∧ ∀ (p : Int), p ∈ List.take x.i g.r.G → p ≠ g.k) → SplitB (decide ((↑x.i : Int) < (↑g.r.G.length : Int))) (Holds ((0 : Int) ≤ (↑x.i : Int)) ∧ Holds ((↑x.i : Int) < (↑g.r.G.length : Int)) ∧ Holds ((↑x.i : Int).toNat < g.r.G.length) ∧ SplitB (g.r.G.getD (↑x.i : Int).toNat ((0 : Int)) == g.k) (∃ (r : Int), Holds (r = g.r.group' g.k) ∧ (↑x.i : Int) = r) (∃ (y : At), Holds (y.i ≤ g.r.G.length ∧ ∀ (p : Int), p ∈ List.take y.i g.r.G → p ≠ g.k) ∧ Holds (g.r.G.length - y.i < g.r.G.length - x.i) ∧ IntKind.i64.wrap ((↑x.i : Int) + (1 : Int)) = (↑y.i : Int))) (∃ (r : Int), Holds (r = g.r.group' g.k) ∧ (-1 : Int) = r)) := by kernel_rfl
theorem ok34 : vc34 := by
  rw [vc34_is]
  intro g h1 h2 h3 h4
  have hl := max63 h4.out.1
  simp only [splitB_iff, holds_iff, exists_eq_left, decide_eq_true_eq, decide_eq_false_iff_not, Int.toNat_natCast, beq_iff_eq, beq_eq_false_iff_ne]
  refine ⟨⟨⟨0⟩, ⟨Nat.zero_le _, by simp⟩, rfl⟩, fun x hx => ⟨fun a => ?_, fun a => ?_⟩⟩
  · have hi : x.i < g.r.G.length := by omega
    have e : g.r.G.getD x.i 0 = g.r.G[x.i] := by simp [List.getD, hi]
    rw [e]
    refine ⟨by omega, a, hi, fun b => (idx_some hi b hx.2).symm, fun b => ⟨⟨x.i + 1⟩, ⟨hi, fun p hp => ?_⟩, by show _ - (x.i + 1) < _; omega, wrap_succ (by omega)⟩⟩
    rw [List.take_succ_eq_append_getElem hi] at hp
    rcases List.mem_append.1 hp with hp | hp
    · exact hx.2 p hp
    · obtain rfl : p = g.r.G[x.i] := by simpa using hp
      exact b
  · have hi : x.i = g.r.G.length := by omega
    have h5 := hx.2
    rw [hi, List.take_length] at h5
    exact (idx_none h5).symm

def vc33 : Prop := vc Try.f33.body Try.f33.results Try.f33.ntmps [(42, some sp42), (34, some sp34), (43, some sp43), (44, some sp44), (45, some sp45)] sp33 (fun _ => noAnn)
theorem vc33_is : vc33 = (
∀ (g : RefInt2), Holds (InR IntKind.i64 g.c) → Holds (InR IntKind.i64 g.g) → Holds (InR IntKind.i64 g.r.pages) → Holds (kS.slice.ok g.r.C) → Holds (kI.slice.ok g.r.G) → Holds g.r.ok → SplitB (decide (g.c < (1 : Int))) (∃ (r : Planned), Holds (r = g.r.plan g.c g.g) ∧ (0 : Int) = r.a.fst ∧ (0 : Int) = r.a.snd ∧ (0 : Int) = r.b.fst ∧ (0 : Int) = r.b.snd ∧ (4 : Int) = r.e) (SplitB (decide (g.c > (1048576 : Int))) (∃ (r : Planned), Holds (r = g.r.plan g.c g.g) ∧ (0 : Int) = r.a.fst ∧ (0 : Int) = r.a.snd ∧ (0 : Int) = r.b.fst ∧ (0 : Int) = r.b.snd ∧ (4 : Int) = r.e) (SplitB (decide (g.g < (1 : Int))) (∃ (r : Planned), Holds (r = g.r.plan g.c g.g) ∧ (0 : Int) = r.a.fst ∧ (0 : Int) = r.a.snd ∧ (0 : Int) = r.b.fst ∧ (0 : Int) = r.b.snd ∧ (4 : Int) = r.e) (SplitB (decide (g.g > (1048576 : Int))) (∃ (r : Planned), Holds (r = g.r.plan g.c g.g) ∧ (0 : Int) = r.a.fst ∧ (0 : Int) = r.a.snd ∧ (0 : Int) = r.b.fst ∧ (0 : Int) = r.b.snd ∧ (4 : Int) = r.e) (∀ (r : Int), Holds (r = g.r.counter g.c) → SplitB (decide (r ≥ (0 : Int))) (∃ (r : Planned), Holds (r = g.r.plan g.c g.g) ∧ (0 : Int) = r.a.fst ∧ (0 : Int) = r.a.snd ∧ (0 : Int) = r.b.fst ∧ (0 : Int) = r.b.snd ∧ (121 : Int) = r.e) (∀ (r : Int), Holds (r = g.r.group' g.g) → SplitB (decide (r < (0 : Int))) (Holds ((0 : Int) ≤ IntKind.i64.wrap ((↑g.r.C.length : Int) + (1 : Int))) ∧ Holds (IntKind.i64.wrap ((↑g.r.C.length : Int) + (1 : Int)) ≤ (1000000000 : Int)) ∧ Holds ((0 : Int) < (31 : Int)) ∧ Holds ((31 : Int) ≤ (1000000000 : Int)) ∧ Holds ((0 : Int) ≤ IntKind.i64.wrap ((↑g.r.G.length : Int) + (1 : Int))) ∧ Holds (IntKind.i64.wrap ((↑g.r.G.length : Int) + (1 : Int)) ≤ (1000000000 : Int)) ∧ Holds ((0 : Int) < (84 : Int)) ∧ Holds ((84 : Int) ≤ (1000000000 : Int)) ∧ SplitB (decide (IntKind.i64.wrap (nd (IntKind.i64.wrap ((↑g.r.C.length : Int) + (1 : Int))) (31 : Int) + nd (IntKind.i64.wrap ((↑g.r.G.length : Int) + (1 : Int))) (84 : Int)) > g.r.pages)) (∃ (r : Planned), Holds (r = g.r.plan g.c g.g) ∧ (0 : Int) = r.a.fst ∧ (0 : Int) = r.a.snd ∧ (0 : Int) = r.b.fst ∧ (0 : Int) = r.b.snd ∧ (6 : Int) = r.e) (Holds ((0 : Int) ≤ (↑g.r.C.length : Int)) ∧ Holds ((0 : Int) ≤ g.r.pages) ∧ Holds (g.r.pages ≤ (64 : Int)) ∧ Holds ((0 : Int) ≤ (↑g.r.G.length : Int)) ∧ ∃ (r : Planned), Holds (r = g.r.plan g.c g.g) ∧ (wh (↑g.r.C.length : Int)).fst = r.a.fst ∧ (wh (↑g.r.C.length : Int)).snd = r.a.snd ∧ (sm g.r.pages (↑g.r.G.length : Int)).fst = r.b.fst ∧ (sm g.r.pages (↑g.r.G.length : Int)).snd = r.b.snd ∧ (0 : Int) = r.e)) (Holds ((0 : Int) ≤ IntKind.i64.wrap ((↑g.r.C.length : Int) + (1 : Int))) ∧ Holds (IntKind.i64.wrap ((↑g.r.C.length : Int) + (1 : Int)) ≤ (1000000000 : Int)) ∧ Holds ((0 : Int) < (31 : Int)) ∧ Holds ((31 : Int) ≤ (1000000000 : Int)) ∧ Holds ((0 : Int) ≤ IntKind.i64.wrap ((↑g.r.G.length : Int) + (0 : Int))) ∧ Holds (IntKind.i64.wrap ((↑g.r.G.length : Int) + (0 : Int)) ≤ (1000000000 : Int)) ∧ Holds ((0 : Int) < (84 : Int)) ∧ Holds ((84 : Int) ≤ (1000000000 : Int)) ∧ SplitB (decide (IntKind.i64.wrap (nd (IntKind.i64.wrap ((↑g.r.C.length : Int) + (1 : Int))) (31 : Int) + nd (IntKind.i64.wrap ((↑g.r.G.length : Int) + (0 : Int))) (84 : Int)) > g.r.pages)) (∃ (r : Planned), Holds (r = g.r.plan g.c g.g) ∧ (0 : Int) = r.a.fst ∧ (0 : Int) = r.a.snd ∧ (0 : Int) = r.b.fst ∧ (0 : Int) = r.b.snd ∧ (6 : Int) = r.e) (Holds ((0 : Int) ≤ (↑g.r.C.length : Int)) ∧ Holds ((0 : Int) ≤ g.r.pages) ∧ Holds (g.r.pages ≤ (64 : Int)) ∧ Holds ((0 : Int) ≤ r) ∧ ∃ (r_1 : Planned), Holds (r_1 = g.r.plan g.c g.g) ∧ (wh (↑g.r.C.length : Int)).fst = r_1.a.fst ∧ (wh (↑g.r.C.length : Int)).snd = r_1.a.snd ∧ (sm g.r.pages r).fst = r_1.b.fst ∧ (sm g.r.pages r).snd = r_1.b.snd ∧ (0 : Int) = r_1.e)))))))) := by kernel_rfl
theorem ok33 : vc33 := by
  rw [vc33_is]
  intro g h1 h2 h3 h4 h5 h6
  simp only [holds_iff, inR64] at *
  obtain ⟨p1, p2, p3, p4⟩ := h6
  have i1 := idx_lt (g.r.C.map (·.1)) g.c
  have i2 := idx_lt g.r.G g.g
  have w0 : IntKind.i64.wrap ((g.r.G.length : Int) + 0) = (g.r.G.length : Int) := by rw [Int.add_zero]; exact wrap64 (by omega) (by omega)
  have w1 : IntKind.i64.wrap ((g.r.C.length : Int) + 1) = (g.r.C.length : Int) + 1 := wrap64 (by omega) (by omega)
  have w2 : IntKind.i64.wrap ((g.r.G.length : Int) + 1) = (g.r.G.length : Int) + 1 := wrap64 (by omega) (by omega)
  have w4 : ∀ x y : Int, 0 ≤ x → x ≤ 1000001 → 0 ≤ y → y ≤ 1000001 → IntKind.i64.wrap (nd x 31 + nd y 84) = nd x 31 + nd y 84 := fun x y h1 h2 h3 h4 => by
    apply wrap64 <;> simp only [nd] <;> omega
  simp only [holds_iff, splitB_iff, decide_eq_true_eq, decide_eq_false_iff_not, w0, w1, w2, exists_eq_left, forall_eq]
  rw [w4 _ _ (by omega) (by omega) (by omega) (by omega), w4 _ _ (by omega) (by omega) (by omega) (by omega)]
  unfold RefR.plan
  refine ⟨fun a1 => by rw [if_pos (by omega)]; simp, fun a1 => ⟨fun a2 => by rw [if_pos (by omega)]; simp, fun a2 => ⟨fun a3 => by rw [if_pos (by omega)]; simp, fun a3 => ⟨fun a4 => by rw [if_pos (by omega)]; simp, fun a4 => ?_⟩⟩⟩⟩
  rw [if_neg (by omega)]
  refine ⟨fun a5 => by rw [if_pos (by omega)]; simp, fun a5 => ?_⟩
  rw [if_neg (by omega)]
  have h0 : (0 : Int) ≤ g.r.C.length := by omega
  refine ⟨fun a6 => ?_, fun a6 => ?_⟩
  · refine ⟨by omega, by omega, by omega, by omega, by omega, by omega, by omega, by omega, fun a8 => ?_, fun a8 => ?_⟩
    · rw [if_pos a6, if_pos (by omega)]; simp
    · rw [if_pos a6, if_neg (by omega), if_pos a6]
      exact ⟨by omega, by omega, by omega, by omega, rfl, rfl, rfl, rfl, rfl⟩
  · refine ⟨by omega, by omega, by omega, by omega, by omega, by omega, by omega, by omega, fun a8 => ?_, fun a8 => ?_⟩
    · rw [if_neg a6, if_pos (by omega)]; simp
    · rw [if_neg a6, if_neg (by omega), if_neg a6]
      exact ⟨by omega, by omega, by omega, by omega, rfl, rfl, rfl, rfl, rfl⟩

def vc24 : Prop := vc Try.f24.body Try.f24.results Try.f24.ntmps [(33, some sp33), (34, some sp34)] sp24 (fun _ => noAnn)
theorem vc24_is : vc24 = (
∀ (g : RefTake), Holds (InR IntKind.i64 g.c) → Holds (InR IntKind.i64 g.g) → Holds (InR IntKind.i64 g.w.fst) → Holds (InR IntKind.i64 g.w.snd) → Holds (InR IntKind.i64 g.s.fst) → Holds (InR IntKind.i64 g.s.snd) → Holds (InR IntKind.i64 g.r.pages) → Holds (kS.slice.ok g.r.C) → Holds (kI.slice.ok g.r.G) → Holds g.r.ok → Holds g.r.ok ∧ ∀ (r : Planned), Holds (r = g.r.plan g.c g.g) → SplitB (r.e != (0 : Int)) (∃ (r_1 : RTakeOut), Holds (r_1 = { e := g.r.takeE g.c g.g g.w g.s, r := g.r.take g.c g.g g.w g.s : RTakeOut }) ∧ r.e = r_1.e ∧ g.r.pages = g.r.pages ∧ g.r.C = r_1.r.C ∧ g.r.G = r_1.r.G) (SplitB (!(r.a.fst == g.w.fst && r.a.snd == g.w.snd)) (∃ (r : RTakeOut), Holds (r = { e := g.r.takeE g.c g.g g.w g.s, r := g.r.take g.c g.g g.w g.s : RTakeOut }) ∧ (83 : Int) = r.e ∧ g.r.pages = g.r.pages ∧ g.r.C = r.r.C ∧ g.r.G = r.r.G) (SplitB (!(r.b.fst == g.s.fst && r.b.snd == g.s.snd)) (∃ (r : RTakeOut), Holds (r = { e := g.r.takeE g.c g.g g.w g.s, r := g.r.take g.c g.g g.w g.s : RTakeOut }) ∧ (83 : Int) = r.e ∧ g.r.pages = g.r.pages ∧ g.r.C = r.r.C ∧ g.r.G = r.r.G) (∀ (r : Int), Holds (r = g.r.group' g.g) → SplitB (decide (r < (0 : Int))) (Holds ((g.r.G.length + [g.g].length) * (8 : Nat) ≤ (140737488355328 : Nat)) ∧ Holds ((g.r.C.length + [(g.c, g.g)].length) * (16 : Nat) ≤ (140737488355328 : Nat)) ∧ ∃ (r : RTakeOut), Holds (r = { e := g.r.takeE g.c g.g g.w g.s, r := g.r.take g.c g.g g.w g.s : RTakeOut }) ∧ (0 : Int) = r.e ∧ g.r.pages = g.r.pages ∧ g.r.C ++ [(g.c, g.g)] = r.r.C ∧ g.r.G ++ [g.g] = r.r.G) (Holds ((g.r.C.length + [(g.c, g.g)].length) * (16 : Nat) ≤ (140737488355328 : Nat)) ∧ ∃ (r : RTakeOut), Holds (r = { e := g.r.takeE g.c g.g g.w g.s, r := g.r.take g.c g.g g.w g.s : RTakeOut }) ∧ (0 : Int) = r.e ∧ g.r.pages = g.r.pages ∧ g.r.C ++ [(g.c, g.g)] = r.r.C ∧ g.r.G = r.r.G))))) := by kernel_rfl
theorem ok24 : vc24 := by
  rw [vc24_is]
  intro g h1 h2 h3 h4 h5 h6 h7 h8 h9 h10
  simp only [holds_iff, inR64] at *
  obtain ⟨p1, p2, p3, p4⟩ := h10
  refine ⟨⟨p1, p2, p3, p4⟩, ?_⟩
  simp only [holds_iff, splitB_iff, forall_eq, exists_eq_left, decide_eq_true_eq, decide_eq_false_iff_not]
  unfold RefR.take RefR.takeE
  refine ⟨fun a1 => ?_, fun a1 => ⟨fun a2 => ?_, fun a2 => ⟨fun a3 => ?_, fun a3 => ⟨fun a4 => ?_, fun a4 => ?_⟩⟩⟩⟩
  · have : (g.r.plan g.c g.g).e ≠ 0 := by simpa using a1
    simp [this]
  all_goals have b1 : (g.r.plan g.c g.g).e = 0 := by simpa using a1
  · have b2 : (g.r.plan g.c g.g).a ≠ g.w := fun e => by rw [e] at a2; simp at a2
    simp [b1, b2]
  · have b3 : (g.r.plan g.c g.g).b ≠ g.s := fun e => by rw [e] at a3; simp at a3
    simp [b1, b3]
  all_goals have b2 : (g.r.plan g.c g.g).a = g.w := by simp at a2; exact Prod.ext a2.1 a2.2
  all_goals have b3 : (g.r.plan g.c g.g).b = g.s := by simp at a3; exact Prod.ext a3.1 a3.2
  · simp only [b1, b2, b3, ne_eq, not_true_eq_false, if_false, or_self, if_true, a4, List.length_cons, List.length_nil]
    refine ⟨by omega, by omega, ?_⟩
    simp
  · simp only [b1, b2, b3, ne_eq, not_true_eq_false, if_false, or_self, if_true, a4, List.length_cons, List.length_nil]
    refine ⟨by omega, ?_⟩
    simp

def vc35 : Prop := vc Try.f35.body Try.f35.results Try.f35.ntmps [(42, some sp42), (44, some sp44), (34, some sp34), (45, some sp45)] sp35 (fun _ => noAnn)
theorem vc35_is : vc35 = (
∀ (g : RefInt), Holds (InR IntKind.i64 g.k) → Holds (InR IntKind.i64 g.r.pages) → Holds (kS.slice.ok g.r.C) → Holds (kI.slice.ok g.r.G) → Holds (g.r.ok ∧ g.r.whole) → ∀ (r : Int), Holds (r = g.r.counter g.k) → SplitB (decide (r < (0 : Int))) (∃ (r : Found), Holds (r = g.r.find g.k) ∧ (0 : Int) = r.a.fst ∧ (0 : Int) = r.a.snd ∧ (0 : Int) = r.g ∧ (0 : Int) = r.b.fst ∧ (0 : Int) = r.b.snd ∧ (120 : Int) = r.e) (Holds ((0 : Int) ≤ r) ∧ Holds (r < (↑g.r.C.length : Int)) ∧ Holds (r.toNat < g.r.C.length) ∧ Holds ((0 : Int) ≤ r) ∧ ∀ (r_1 : Int), Holds (r_1 = g.r.group' (g.r.C.getD r.toNat ((0 : Int), (0 : Int))).snd) → Holds ((0 : Int) ≤ g.r.pages) ∧ Holds (g.r.pages ≤ (64 : Int)) ∧ Holds ((0 : Int) ≤ r_1) ∧ ∃ (r_2 : Found), Holds (r_2 = g.r.find g.k) ∧ (wh r).fst = r_2.a.fst ∧ (wh r).snd = r_2.a.snd ∧ (g.r.C.getD r.toNat ((0 : Int), (0 : Int))).snd = r_2.g ∧ (sm g.r.pages r_1).fst = r_2.b.fst ∧ (sm g.r.pages r_1).snd = r_2.b.snd ∧ (0 : Int) = r_2.e)) := by kernel_rfl
theorem ok35 : vc35 := by
  rw [vc35_is]
  intro g h1 h2 h3 h4 h5
  obtain ⟨⟨p1, p2, p3, p4⟩, hw⟩ := h5.out
  simp only [holds_iff, splitB_iff, forall_eq, exists_eq_left, decide_eq_true_eq, decide_eq_false_iff_not]
  unfold RefR.find
  refine ⟨fun a => by rw [if_pos a]; simp, fun a => ?_⟩
  rw [if_neg a]
  rcases idx_cases (g.r.C.map (·.1)) g.k with ⟨h, _⟩ | ⟨i, hi, h, _, _⟩
  · exact absurd (show g.r.counter g.k < 0 by unfold RefR.counter; omega) a
  · have h : g.r.counter g.k = (i : Int) := h
    have hi : i < g.r.C.length := by simpa using hi
    rw [h]
    simp only [Int.toNat_natCast]
    have e : g.r.C.getD i (0, 0) = g.r.C[i] := by simp [List.getD, hi]
    rw [e]
    have hg := hw g.r.C[i] (List.getElem_mem hi)
    refine ⟨by omega, by omega, hi, by omega, by omega, p2, ?_, by simp⟩
    rcases idx_cases g.r.G (g.r.C[i]).2 with ⟨h, h2⟩ | ⟨j, hj, h, _, _⟩
    · exact absurd rfl (h2 _ hg)
    · show 0 ≤ idxI g.r.G _; omega

def vc36 : Prop := vc Try.f36.body Try.f36.results Try.f36.ntmps [(34, some sp34), (45, some sp45)] sp36 (fun _ => noAnn)
theorem vc36_is : vc36 = (
∀ (g : RefInt), Holds (InR IntKind.i64 g.k) → Holds (InR IntKind.i64 g.r.pages) → Holds (kS.slice.ok g.r.C) → Holds (kI.slice.ok g.r.G) → Holds g.r.ok → ∀ (r : Int), Holds (r = g.r.group' g.k) → SplitB (decide (r < (0 : Int))) (∃ (r : Planned), Holds (r = g.r.group g.k) ∧ (0 : Int) = r.a.fst ∧ (0 : Int) = r.a.snd ∧ (122 : Int) = r.e) (Holds ((0 : Int) ≤ g.r.pages) ∧ Holds (g.r.pages ≤ (64 : Int)) ∧ Holds ((0 : Int) ≤ r) ∧ ∃ (r_1 : Planned), Holds (r_1 = g.r.group g.k) ∧ (sm g.r.pages r).fst = r_1.a.fst ∧ (sm g.r.pages r).snd = r_1.a.snd ∧ (0 : Int) = r_1.e)) := by kernel_rfl
theorem ok36 : vc36 := by
  rw [vc36_is]
  intro g h1 h2 h3 h4 h5
  obtain ⟨p1, p2, p3, p4⟩ := h5.out
  simp only [holds_iff, splitB_iff, forall_eq, exists_eq_left, decide_eq_true_eq, decide_eq_false_iff_not]
  unfold RefR.group
  exact ⟨fun a => by rw [if_pos a]; simp, fun a => by rw [if_neg a]; exact ⟨by omega, p2, by omega, by simp⟩⟩

def vc46 : Prop := vc Try.f46.body Try.f46.results Try.f46.ntmps [] sp46 ann46
theorem vc46_is : vc46 = (
∀ (g : RiArg), Holds (kI.slice.ok g.l) → Holds (g.l.length ≤ (1000000 : Nat)) → (∃ (x : RiAt), Holds (x.i ≤ g.l.length ∧ x.xs.Perm (List.take x.i g.l) ∧ List.Pairwise (fun (x1 x2 : Int) ↦ x1 ≤ x2) x.xs) ∧ (0 : Int) = (↑x.i : Int) ∧ nilT Int = x.xs) ∧ ∀ (x : RiAt), Holds (x.i ≤ g.l.length ∧ x.xs.Perm (List.take x.i g.l) ∧ List.Pairwise (fun (x1 x2 : Int) ↦ x1 ≤ x2) x.xs) → SplitB (decide ((↑x.i : Int) < (↑g.l.length : Int))) (Holds ((0 : Int) ≤ (↑x.i : Int)) ∧ Holds ((↑x.i : Int) < (↑g.l.length : Int)) ∧ Holds ((↑x.i : Int).toNat < g.l.length) ∧ Holds ((x.xs.length + [g.l.getD (↑x.i : Int).toNat ((0 : Int))].length) * (8 : Nat) ≤ (140737488355328 : Nat)) ∧ (∃ (x_1 : RjAt), Holds (x_1.k ≤ (↑x.i : Int).toNat ∧ x_1.xs.Perm (List.take ((↑x.i : Int).toNat + (1 : Nat)) g.l) ∧ ∃ (a : List Int), ∃ (v : Int), ∃ (b : List Int), x_1.xs = a ++ v :: b ∧ a.length = x_1.k ∧ List.Pairwise (fun (x1 x2 : Int) ↦ x1 ≤ x2) (a ++ b) ∧ ∀ (w : Int), w ∈ b → v < w) ∧ (↑x.xs.length : Int) = (↑x_1.k : Int) ∧ x.xs ++ [g.l.getD (↑x.i : Int).toNat ((0 : Int))] = x_1.xs) ∧ ∀ (x_1 : RjAt), Holds (x_1.k ≤ (↑x.i : Int).toNat ∧ x_1.xs.Perm (List.take ((↑x.i : Int).toNat + (1 : Nat)) g.l) ∧ ∃ (a : List Int), ∃ (v : Int), ∃ (b : List Int), x_1.xs = a ++ v :: b ∧ a.length = x_1.k ∧ List.Pairwise (fun (x1 x2 : Int) ↦ x1 ≤ x2) (a ++ b) ∧ ∀ (w : Int), w ∈ b → v < w) → SplitB (decide ((↑x_1.k : Int) > (0 : Int))) (Holds ((0 : Int) ≤ IntKind.i64.wrap ((↑x_1.k : Int) - (1 : Int))) ∧ Holds (IntKind.i64.wrap ((↑x_1.k : Int) - (1 : Int)) < (↑x_1.xs.length : Int)) ∧ Holds ((IntKind.i64.wrap ((↑x_1.k : Int) - (1 : Int))).toNat < x_1.xs.length) ∧ Holds ((0 : Int) ≤ (↑x_1.k : Int)) ∧ Holds ((↑x_1.k : Int) < (↑x_1.xs.length : Int)) ∧ Holds ((↑x_1.k : Int).toNat < x_1.xs.length) ∧ SplitB (decide (x_1.xs.getD (IntKind.i64.wrap ((↑x_1.k : Int) - (1 : Int))).toNat ((0 : Int)) > x_1.xs.getD (↑x_1.k : Int).toNat ((0 : Int)))) (Holds ((0 : Int) ≤ (↑x_1.k : Int)) ∧ Holds ((↑x_1.k : Int) < (↑x_1.xs.length : Int)) ∧ Holds ((0 : Int) ≤ IntKind.i64.wrap ((↑x_1.k : Int) - (1 : Int))) ∧ Holds (IntKind.i64.wrap ((↑x_1.k : Int) - (1 : Int)) < (↑x_1.xs.length : Int)) ∧ (Holds ((↑x_1.k : Int).toNat < x_1.xs.length) ∧ Holds ((IntKind.i64.wrap ((↑x_1.k : Int) - (1 : Int))).toNat < x_1.xs.length) ∧ Holds ((0 : Int) ≤ IntKind.i64.wrap ((↑x_1.k : Int) - (1 : Int))) ∧ Holds (IntKind.i64.wrap ((↑x_1.k : Int) - (1 : Int)) < (↑x_1.xs.length : Int)) ∧ Holds ((IntKind.i64.wrap ((↑x_1.k : Int) - (1 : Int))).toNat < x_1.xs.length) ∧ Holds ((0 : Int) ≤ (↑x_1.k : Int)) ∧ Holds ((↑x_1.k : Int) < (↑(x_1.xs.set (IntKind.i64.wrap ((↑x_1.k : Int) - (1 : Int))).toNat (x_1.xs.getD (↑x_1.k : Int).toNat ((0 : Int)))).length : Int)) ∧ Holds ((↑x_1.k : Int).toNat < (x_1.xs.set (IntKind.i64.wrap ((↑x_1.k : Int) - (1 : Int))).toNat (x_1.xs.getD (↑x_1.k : Int).toNat ((0 : Int)))).length) ∧ ∃ (y : RjAt), Holds (y.k ≤ (↑x.i : Int).toNat ∧ y.xs.Perm (List.take ((↑x.i : Int).toNat + (1 : Nat)) g.l) ∧ ∃ (a : List Int), ∃ (v : Int), ∃ (b : List Int), y.xs = a ++ v :: b ∧ a.length = y.k ∧ List.Pairwise (fun (x1 x2 : Int) ↦ x1 ≤ x2) (a ++ b) ∧ ∀ (w : Int), w ∈ b → v < w) ∧ Holds (y.k < x_1.k) ∧ IntKind.i64.wrap ((↑x_1.k : Int) - (1 : Int)) = (↑y.k : Int) ∧ (x_1.xs.set (IntKind.i64.wrap ((↑x_1.k : Int) - (1 : Int))).toNat (x_1.xs.getD (↑x_1.k : Int).toNat ((0 : Int)))).set (↑x_1.k : Int).toNat (x_1.xs.getD (IntKind.i64.wrap ((↑x_1.k : Int) - (1 : Int))).toNat ((0 : Int))) = y.xs) ∧ Holds ((IntKind.i64.wrap ((↑x_1.k : Int) - (1 : Int))).toNat < x_1.xs.length) ∧ Holds ((↑x_1.k : Int).toNat < x_1.xs.length) ∧ Holds ((0 : Int) ≤ IntKind.i64.wrap ((↑x_1.k : Int) - (1 : Int))) ∧ Holds (IntKind.i64.wrap ((↑x_1.k : Int) - (1 : Int)) < (↑x_1.xs.length : Int)) ∧ Holds ((IntKind.i64.wrap ((↑x_1.k : Int) - (1 : Int))).toNat < x_1.xs.length) ∧ Holds ((0 : Int) ≤ (↑x_1.k : Int)) ∧ Holds ((↑x_1.k : Int) < (↑(x_1.xs.set (IntKind.i64.wrap ((↑x_1.k : Int) - (1 : Int))).toNat (x_1.xs.getD (↑x_1.k : Int).toNat ((0 : Int)))).length : Int)) ∧ Holds ((↑x_1.k : Int).toNat < (x_1.xs.set (IntKind.i64.wrap ((↑x_1.k : Int) - (1 : Int))).toNat (x_1.xs.getD (↑x_1.k : Int).toNat ((0 : Int)))).length) ∧ ∃ (y : RjAt), Holds (y.k ≤ (↑x.i : Int).toNat ∧ y.xs.Perm (List.take ((↑x.i : Int).toNat + (1 : Nat)) g.l) ∧ ∃ (a : List Int), ∃ (v : Int), ∃ (b : List Int), y.xs = a ++ v :: b ∧ a.length = y.k ∧ List.Pairwise (fun (x1 x2 : Int) ↦ x1 ≤ x2) (a ++ b) ∧ ∀ (w : Int), w ∈ b → v < w) ∧ Holds (y.k < x_1.k) ∧ IntKind.i64.wrap ((↑x_1.k : Int) - (1 : Int)) = (↑y.k : Int) ∧ (x_1.xs.set (IntKind.i64.wrap ((↑x_1.k : Int) - (1 : Int))).toNat (x_1.xs.getD (↑x_1.k : Int).toNat ((0 : Int)))).set (↑x_1.k : Int).toNat (x_1.xs.getD (IntKind.i64.wrap ((↑x_1.k : Int) - (1 : Int))).toNat ((0 : Int))) = y.xs) (∃ (y : RiAt), Holds (y.i ≤ g.l.length ∧ y.xs.Perm (List.take y.i g.l) ∧ List.Pairwise (fun (x1 x2 : Int) ↦ x1 ≤ x2) y.xs) ∧ Holds (g.l.length - y.i < g.l.length - x.i) ∧ IntKind.i64.wrap ((↑x.i : Int) + (1 : Int)) = (↑y.i : Int) ∧ x_1.xs = y.xs)) (∃ (y : RiAt), Holds (y.i ≤ g.l.length ∧ y.xs.Perm (List.take y.i g.l) ∧ List.Pairwise (fun (x1 x2 : Int) ↦ x1 ≤ x2) y.xs) ∧ Holds (g.l.length - y.i < g.l.length - x.i) ∧ IntKind.i64.wrap ((↑x.i : Int) + (1 : Int)) = (↑y.i : Int) ∧ x_1.xs = y.xs)) (∃ (r : List Int), Holds (r = rising g.l) ∧ x.xs = r)) := by kernel_rfl
theorem pair_mid {a b : List Int} {v : Int} (h : (a ++ b).Pairwise (· ≤ ·)) (ha : ∀ x ∈ a, x ≤ v) (hb : ∀ w ∈ b, v < w) : (a ++ v :: b).Pairwise (· ≤ ·) := by
  rw [List.pairwise_append] at h ⊢
  refine ⟨h.1, List.pairwise_cons.2 ⟨fun w hw => by have := hb w hw; omega, h.2.1⟩, fun x hx w hw => ?_⟩
  rcases List.mem_cons.1 hw with rfl | hw
  · exact ha x hx
  · exact h.2.2 x hx w hw
/-- One step of the insertion: the greater one ahead goes behind. -/
theorem ins_step {a : List Int} {u v : Int} {b : List Int} (h : ((a ++ [u]) ++ b).Pairwise (· ≤ ·)) (hb : ∀ w ∈ b, v < w) (hu : v < u) : (a ++ (u :: b)).Pairwise (· ≤ ·) ∧ ∀ w ∈ u :: b, v < w :=
  ⟨by simpa using h, fun w hw => by rcases List.mem_cons.1 hw with rfl | hw; exact hu; exact hb w hw⟩
theorem ok46 : vc46 := by
  rw [vc46_is]
  intro g h1 h2
  have hl := h2.out
  simp only [splitB_iff, holds_iff, exists_eq_left, decide_eq_true_eq, decide_eq_false_iff_not, Int.toNat_natCast]
  refine ⟨⟨⟨0, []⟩, ⟨Nat.zero_le _, by simp, .nil⟩, rfl, rfl⟩, fun x hx => ⟨fun a => ?_, fun a => ?_⟩⟩
  · obtain ⟨x1, x2, x3⟩ := hx
    have hi : x.i < g.l.length := by omega
    have e : g.l.getD x.i 0 = g.l[x.i] := by simp [List.getD, hi]
    have hlen : x.xs.length = x.i := by have := x2.length_eq; rw [List.length_take] at this; omega
    rw [e]
    refine ⟨by omega, a, hi, by simp only [List.length_cons, List.length_nil]; omega, ⟨⟨x.i, x.xs ++ [g.l[x.i]]⟩, ⟨Nat.le_refl _, ?_, x.xs, g.l[x.i], [], rfl, hlen, by simpa using x3, by simp⟩, by show (x.xs.length : Int) = (x.i : Int); omega, rfl⟩, fun y hy => ?_⟩
    · show (x.xs ++ [g.l[x.i]]).Perm (g.l.take (x.i + 1))
      rw [List.take_succ_eq_append_getElem hi]
      exact x2.append_right _
    · obtain ⟨y1, y2, A, v, B, y3, y4, y5, y6⟩ := hy
      have ylen : y.xs.length = x.i + 1 := by have := y2.length_eq; rw [List.length_take] at this; omega
      have fin : (A ++ v :: B).Pairwise (· ≤ ·) → ∃ z : RiAt, (z.i ≤ g.l.length ∧ z.xs.Perm (g.l.take z.i) ∧ z.xs.Pairwise (· ≤ ·)) ∧ g.l.length - z.i < g.l.length - x.i ∧ IntKind.i64.wrap ((x.i : Int) + 1) = (z.i : Int) ∧ y.xs = z.xs := fun hp => ⟨⟨x.i + 1, y.xs⟩, ⟨hi, y2, by rw [y3]; exact hp⟩, by show _ - (x.i + 1) < _; omega, wrap_succ (by omega), rfl⟩
      refine ⟨fun b => ?_, fun b => ?_⟩
      · have hk : 0 < y.k := by omega
        have ekk : IntKind.i64.wrap ((y.k : Int) - 1) = ((y.k - 1 : Nat) : Int) := by rw [wrap64 (by omega) (by omega)]; omega
        rw [ekk]
        simp only [Int.toNat_natCast]
        -- the one ahead
        obtain ⟨A', u, rfl⟩ : ∃ A' u, A = A' ++ [u] := by
          have hne : A ≠ [] := fun e => by rw [e] at y4; simp at y4; omega
          exact ⟨A.dropLast, A.getLast hne, (List.dropLast_concat_getLast hne).symm⟩
        have y4' : A'.length = y.k - 1 := by simp at y4; omega
        have gu : y.xs.getD (y.k - 1) 0 = u := by
          rw [y3, ← y4']; simp [List.getD]
        have gv : y.xs.getD y.k 0 = v := by
          rw [y3, ← y4]; simp [List.getD]
        have sw : (y.xs.set (y.k - 1) v).set y.k u = A' ++ v :: (u :: B) := by
          rw [y3, ← y4']
          have : y.k = A'.length + 1 := by omega
          rw [this]
          simp [List.set_append]
        rw [gu, gv, sw]
        have nx : v < u → ∃ z : RjAt, (z.k ≤ x.i ∧ z.xs.Perm (g.l.take (x.i + 1)) ∧ ∃ a v b, z.xs = a ++ v :: b ∧ a.length = z.k ∧ (a ++ b).Pairwise (· ≤ ·) ∧ ∀ w ∈ b, v < w) ∧ z.k < y.k ∧ ((y.k - 1 : Nat) : Int) = (z.k : Int) ∧ A' ++ v :: (u :: B) = z.xs := fun hu => by
          obtain ⟨q1, q2⟩ := ins_step y5 y6 hu
          refine ⟨⟨y.k - 1, A' ++ v :: (u :: B)⟩, ⟨by show y.k - 1 ≤ _; omega, ?_, A', v, u :: B, rfl, y4', q1, q2⟩, by show y.k - 1 < _; omega, rfl, rfl⟩
          refine List.Perm.trans ?_ y2
          rw [y3, List.append_assoc]
          exact List.Perm.append_left _ (List.Perm.swap _ _ _)
        refine ⟨by omega, by omega, by omega, by omega, by omega, by omega, fun c => ?_, fun c => fin (pair_mid y5 (fun w hw => ?_) y6)⟩
        · have c : v < u := by omega
          simp only [List.length_set]
          exact ⟨by omega, by omega, by omega, by omega, ⟨by omega, by omega, by omega, by omega, by omega, by omega, by omega, by omega, nx c⟩, by omega, by omega, by omega, by omega, by omega, by omega, by omega, by omega, nx c⟩
        · rcases List.mem_append.1 hw with hw | hw
          · have := (List.pairwise_append.1 (List.pairwise_append.1 y5).1).2.2 w hw u (by simp)
            omega
          · obtain rfl : w = u := by simpa using hw
            omega
      · have hA : A = [] := List.length_eq_zero_iff.1 (by omega)
        subst hA
        exact fin (pair_mid y5 (by simp) y6)
  · obtain ⟨x1, x2, x3⟩ := hx
    have hi : x.i = g.l.length := by omega
    rw [hi, List.take_length] at x2
    rw [← rising_perm x2, rising_of_le x3]

def vc37 : Prop := vc Try.f37.body Try.f37.results Try.f37.ntmps [(46, some sp46)] sp37 ann37
theorem vc37_is : vc37 = (
∀ (g : RefOnly), Holds (InR IntKind.i64 g.r.pages) → Holds (kS.slice.ok g.r.C) → Holds (kI.slice.ok g.r.G) → Holds g.r.ok → (∃ (x : At), Holds (x.i ≤ g.r.C.length) ∧ (0 : Int) = (↑x.i : Int) ∧ nilT Int = List.map (fun (x : Int × Int) ↦ x.fst) (List.take x.i g.r.C)) ∧ ∀ (x : At), Holds (x.i ≤ g.r.C.length) → SplitB (decide ((↑x.i : Int) < (↑g.r.C.length : Int))) (Holds ((0 : Int) ≤ (↑x.i : Int)) ∧ Holds ((↑x.i : Int) < (↑g.r.C.length : Int)) ∧ Holds ((↑x.i : Int).toNat < g.r.C.length) ∧ Holds (((List.map (fun (x : Int × Int) ↦ x.fst) (List.take x.i g.r.C)).length + [(g.r.C.getD (↑x.i : Int).toNat ((0 : Int), (0 : Int))).fst].length) * (8 : Nat) ≤ (140737488355328 : Nat)) ∧ ∃ (y : At), Holds (y.i ≤ g.r.C.length) ∧ Holds (g.r.C.length - y.i < g.r.C.length - x.i) ∧ IntKind.i64.wrap ((↑x.i : Int) + (1 : Int)) = (↑y.i : Int) ∧ List.map (fun (x : Int × Int) ↦ x.fst) (List.take x.i g.r.C) ++ [(g.r.C.getD (↑x.i : Int).toNat ((0 : Int), (0 : Int))).fst] = List.map (fun (x : Int × Int) ↦ x.fst) (List.take y.i g.r.C)) (Holds ((List.map (fun (x : Int × Int) ↦ x.fst) (List.take x.i g.r.C)).length ≤ (1000000 : Nat)) ∧ ∀ (r : List Int), Holds (r = rising (List.map (fun (x : Int × Int) ↦ x.fst) (List.take x.i g.r.C))) → ∃ (r_1 : List Int), Holds (r_1 = rising (List.map (fun (x : Int × Int) ↦ x.fst) g.r.C)) ∧ r = r_1)) := by kernel_rfl
theorem ok37 : vc37 := by
  rw [vc37_is]
  intro g h1 h2 h3 h4
  obtain ⟨p1, p2, p3, p4⟩ := h4.out
  simp only [splitB_iff, holds_iff, exists_eq_left, forall_eq, decide_eq_true_eq, decide_eq_false_iff_not, Int.toNat_natCast]
  refine ⟨⟨⟨0⟩, Nat.zero_le _, rfl, by simp⟩, fun x hx => ⟨fun a => ?_, fun a => ?_⟩⟩
  · have e := take_succ_get (l := g.r.C) (i := x.i) (by omega) (0, 0)
    refine ⟨by omega, a, by omega, by simp only [List.length_map, List.length_take, List.length_cons, List.length_nil]; omega, ⟨x.i + 1⟩, by show x.i + 1 ≤ _; omega, by show _ - (x.i + 1) < _; omega, wrap_succ (by omega), ?_⟩
    show _ = (g.r.C.take (x.i + 1)).map (·.1)
    rw [e, List.map_append]; rfl
  · rw [List.take_of_length_le (by omega)]
    exact ⟨by simpa using p3, rfl⟩

def vc38 : Prop := vc Try.f38.body Try.f38.results Try.f38.ntmps [(46, some sp46)] sp38 (fun _ => noAnn)
theorem vc38_is : vc38 = (
∀ (g : RefOnly), Holds (InR IntKind.i64 g.r.pages) → Holds (kS.slice.ok g.r.C) → Holds (kI.slice.ok g.r.G) → Holds g.r.ok → Holds (g.r.G.length ≤ (1000000 : Nat)) ∧ ∀ (r : List Int), Holds (r = rising g.r.G) → ∃ (r_1 : List Int), Holds (r_1 = rising g.r.G) ∧ r = r_1) := by kernel_rfl
theorem ok38 : vc38 := by
  rw [vc38_is]
  intro g h1 h2 h3 h4
  obtain ⟨p1, p2, p3, p4⟩ := h4.out
  simp only [holds_iff, exists_eq_left, forall_eq]
  exact ⟨p4, trivial⟩

end Go.Proofs.Ytkhcphdnppdfjaa.VC
