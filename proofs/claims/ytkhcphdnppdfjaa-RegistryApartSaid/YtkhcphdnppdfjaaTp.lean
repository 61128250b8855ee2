/- What is to be shown of functions, shown. Plain lemmas; no conditions but those that each names. -/
import Derived.Test.YtkhcphdnppdfjaaFn
import Derived.Test.YtkhcphdnppdfjaaTk
import Derived.KernelRfl
set_option linter.unusedVariables false
set_option linter.unusedSimpArgs false
set_option linter.unusedSectionVars false
namespace Go.Proofs.Ytkhcphdnppdfjaa.VC
open Go
set_option maxRecDepth 100000

def vc12 : Prop := vc Try.f12.body Try.f12.results Try.f12.ntmps [(18, some sp18), (15, some sp15), (11, some sp11), (20, some sp20), (19, some sp19)] sp12 ann12
theorem vc12_is : vc12 = (
∀ (g : TkArg), Holds (InR IntKind.i64 g.pages) → Holds (kS.slice.ok g.l) → Holds ((2 : Int) ≤ g.pages) → Holds (g.pages ≤ (64 : Int)) → (∀ (r : Unit), Holds ¬((2 : Int) ≤ g.pages ∧ g.pages ≤ (64 : Int)) → ∃ (r : Tk), Holds (r = takenF g.pages g.l) ∧ False) ∧ ∀ (r : Unit), Holds ((2 : Int) ≤ g.pages ∧ g.pages ≤ (64 : Int)) → SplitB ((0 : Int) != (0 : Int)) (∃ (r : Tk), Holds (r = takenF g.pages g.l) ∧ False) ((∃ (x : TkAt), Holds (x.i ≤ (List.take (3000 : Nat) g.l).length ∧ x.s = takenF g.pages (List.take x.i g.l)) ∧ (0 : Int) = (↑x.i : Int) ∧ nilT (Int × Int × Int) = x.s.r.E ∧ nilT (Int × Int) = x.s.r.M ∧ nilT (Int × Int) = x.s.own ∧ nilT (Int × Int) = x.s.wh ∧ nilT (Int × Int) = x.s.sm) ∧ ∀ (x : TkAt), Holds (x.i ≤ (List.take (3000 : Nat) g.l).length ∧ x.s = takenF g.pages (List.take x.i g.l)) → SplitB (decide ((↑x.i : Int) < (↑g.l.length : Int))) (SplitB (decide ((↑x.i : Int) < (3000 : Int))) ((Holds ((0 : Int) ≤ (↑x.i : Int)) ∧ Holds ((↑x.i : Int) < (↑g.l.length : Int)) ∧ Holds ((↑x.i : Int).toNat < g.l.length) ∧ Holds ((0 : Int) ≤ (↑x.i : Int)) ∧ Holds ((↑x.i : Int) < (↑g.l.length : Int)) ∧ Holds ((↑x.i : Int).toNat < g.l.length) ∧ (Holds ((0 : Int) ≤ (1 : Int)) ∧ Holds ((1 : Int) ≤ (4000 : Int)) ∧ Holds ((4000 : Int) ≤ (1000000 : Int)) ∧ (Holds ((0 : Int) ≤ (1 : Int)) ∧ Holds ((1 : Int) ≤ (4000 : Int)) ∧ Holds ((4000 : Int) ≤ (1000000 : Int)) ∧ ∃ (x_1 : Int × Int), Holds (x_1 = (rst (g.l.getD (↑x.i : Int).toNat ((0 : Int), (0 : Int))).fst (1 : Int) (4000 : Int), rst (g.l.getD (↑x.i : Int).toNat ((0 : Int), (0 : Int))).snd (1 : Int) (4000 : Int))) ∧ rst (g.l.getD (↑x.i : Int).toNat ((0 : Int), (0 : Int))).fst (1 : Int) (4000 : Int) = x_1.fst ∧ rst (g.l.getD (↑x.i : Int).toNat ((0 : Int), (0 : Int))).snd (1 : Int) (4000 : Int) = x_1.snd) ∧ Holds ((0 : Int) ≤ (1 : Int)) ∧ Holds ((1 : Int) ≤ (4000 : Int)) ∧ Holds ((4000 : Int) ≤ (1000000 : Int)) ∧ ∃ (x_1 : Int × Int), Holds (x_1 = (rst (g.l.getD (↑x.i : Int).toNat ((0 : Int), (0 : Int))).fst (1 : Int) (4000 : Int), rst (g.l.getD (↑x.i : Int).toNat ((0 : Int), (0 : Int))).snd (1 : Int) (4000 : Int))) ∧ rst (g.l.getD (↑x.i : Int).toNat ((0 : Int), (0 : Int))).fst (1 : Int) (4000 : Int) = x_1.fst ∧ rst (g.l.getD (↑x.i : Int).toNat ((0 : Int), (0 : Int))).snd (1 : Int) (4000 : Int) = x_1.snd) ∧ Holds ((0 : Int) ≤ (1 : Int)) ∧ Holds ((1 : Int) ≤ (4000 : Int)) ∧ Holds ((4000 : Int) ≤ (1000000 : Int)) ∧ Holds ((0 : Int) ≤ (1 : Int)) ∧ Holds ((1 : Int) ≤ (4000 : Int)) ∧ Holds ((4000 : Int) ≤ (1000000 : Int)) ∧ ∃ (x_1 : Int × Int), Holds (x_1 = (rst (g.l.getD (↑x.i : Int).toNat ((0 : Int), (0 : Int))).fst (1 : Int) (4000 : Int), rst (g.l.getD (↑x.i : Int).toNat ((0 : Int), (0 : Int))).snd (1 : Int) (4000 : Int))) ∧ rst (g.l.getD (↑x.i : Int).toNat ((0 : Int), (0 : Int))).fst (1 : Int) (4000 : Int) = x_1.fst ∧ rst (g.l.getD (↑x.i : Int).toNat ((0 : Int), (0 : Int))).snd (1 : Int) (4000 : Int) = x_1.snd) ∧ ∀ (x_1 : Int × Int), Holds (x_1 = (rst (g.l.getD (↑x.i : Int).toNat ((0 : Int), (0 : Int))).fst (1 : Int) (4000 : Int), rst (g.l.getD (↑x.i : Int).toNat ((0 : Int), (0 : Int))).snd (1 : Int) (4000 : Int))) → Holds { pages := g.pages, E := x.s.r.E, M := x.s.r.M : Reg }.ok ∧ SplitB (({ pages := g.pages, E := x.s.r.E, M := x.s.r.M : Reg }.plan x_1.fst x_1.snd).e != (0 : Int)) (SplitB (({ pages := g.pages, E := x.s.r.E, M := x.s.r.M : Reg }.plan x_1.fst x_1.snd).e != (121 : Int)) (SplitB (({ pages := g.pages, E := x.s.r.E, M := x.s.r.M : Reg }.plan x_1.fst x_1.snd).e != (6 : Int)) (∃ (r : Tk), Holds (r = takenF g.pages g.l) ∧ False) (SplitB (!(({ pages := g.pages, E := x.s.r.E, M := x.s.r.M : Reg }.plan x_1.fst x_1.snd).a.fst == (0 : Int) && ({ pages := g.pages, E := x.s.r.E, M := x.s.r.M : Reg }.plan x_1.fst x_1.snd).a.snd == (0 : Int))) (∃ (r : Tk), Holds (r = takenF g.pages g.l) ∧ False) (SplitB (!(({ pages := g.pages, E := x.s.r.E, M := x.s.r.M : Reg }.plan x_1.fst x_1.snd).b.fst == (0 : Int) && ({ pages := g.pages, E := x.s.r.E, M := x.s.r.M : Reg }.plan x_1.fst x_1.snd).b.snd == (0 : Int))) (∃ (r : Tk), Holds (r = takenF g.pages g.l) ∧ False) (∃ (y : TkAt), Holds (y.i ≤ (List.take (3000 : Nat) g.l).length ∧ y.s = takenF g.pages (List.take y.i g.l)) ∧ Holds ((3000 : Nat) - y.i < (3000 : Nat) - x.i) ∧ IntKind.i64.wrap ((↑x.i : Int) + (1 : Int)) = (↑y.i : Int) ∧ x.s.r.E = y.s.r.E ∧ x.s.r.M = y.s.r.M ∧ x.s.own = y.s.own ∧ x.s.wh = y.s.wh ∧ x.s.sm = y.s.sm)))) (SplitB (!(({ pages := g.pages, E := x.s.r.E, M := x.s.r.M : Reg }.plan x_1.fst x_1.snd).a.fst == (0 : Int) && ({ pages := g.pages, E := x.s.r.E, M := x.s.r.M : Reg }.plan x_1.fst x_1.snd).a.snd == (0 : Int))) (∃ (r : Tk), Holds (r = takenF g.pages g.l) ∧ False) (SplitB (!(({ pages := g.pages, E := x.s.r.E, M := x.s.r.M : Reg }.plan x_1.fst x_1.snd).b.fst == (0 : Int) && ({ pages := g.pages, E := x.s.r.E, M := x.s.r.M : Reg }.plan x_1.fst x_1.snd).b.snd == (0 : Int))) (∃ (r : Tk), Holds (r = takenF g.pages g.l) ∧ False) (∃ (y : TkAt), Holds (y.i ≤ (List.take (3000 : Nat) g.l).length ∧ y.s = takenF g.pages (List.take y.i g.l)) ∧ Holds ((3000 : Nat) - y.i < (3000 : Nat) - x.i) ∧ IntKind.i64.wrap ((↑x.i : Int) + (1 : Int)) = (↑y.i : Int) ∧ x.s.r.E = y.s.r.E ∧ x.s.r.M = y.s.r.M ∧ x.s.own = y.s.own ∧ x.s.wh = y.s.wh ∧ x.s.sm = y.s.sm)))) (Holds { pages := g.pages, E := x.s.r.E, M := x.s.r.M : Reg }.ok ∧ SplitB ({ pages := g.pages, E := x.s.r.E, M := x.s.r.M : Reg }.takeE x_1.fst x_1.snd ({ pages := g.pages, E := x.s.r.E, M := x.s.r.M : Reg }.plan x_1.fst x_1.snd).a ({ pages := g.pages, E := x.s.r.E, M := x.s.r.M : Reg }.plan x_1.fst x_1.snd).b != (0 : Int)) (∃ (r : Tk), Holds (r = takenF g.pages g.l) ∧ False) (Holds ((x.s.own.length + [x_1].length) * (16 : Nat) ≤ (140737488355328 : Nat)) ∧ Holds ((x.s.wh.length + [({ pages := g.pages, E := x.s.r.E, M := x.s.r.M : Reg }.plan x_1.fst x_1.snd).a].length) * (16 : Nat) ≤ (140737488355328 : Nat)) ∧ Holds ((x.s.sm.length + [({ pages := g.pages, E := x.s.r.E, M := x.s.r.M : Reg }.plan x_1.fst x_1.snd).b].length) * (16 : Nat) ≤ (140737488355328 : Nat)) ∧ ∃ (y : TkAt), Holds (y.i ≤ (List.take (3000 : Nat) g.l).length ∧ y.s = takenF g.pages (List.take y.i g.l)) ∧ Holds ((3000 : Nat) - y.i < (3000 : Nat) - x.i) ∧ IntKind.i64.wrap ((↑x.i : Int) + (1 : Int)) = (↑y.i : Int) ∧ ({ pages := g.pages, E := x.s.r.E, M := x.s.r.M : Reg }.take x_1.fst x_1.snd ({ pages := g.pages, E := x.s.r.E, M := x.s.r.M : Reg }.plan x_1.fst x_1.snd).a ({ pages := g.pages, E := x.s.r.E, M := x.s.r.M : Reg }.plan x_1.fst x_1.snd).b).E = y.s.r.E ∧ ({ pages := g.pages, E := x.s.r.E, M := x.s.r.M : Reg }.take x_1.fst x_1.snd ({ pages := g.pages, E := x.s.r.E, M := x.s.r.M : Reg }.plan x_1.fst x_1.snd).a ({ pages := g.pages, E := x.s.r.E, M := x.s.r.M : Reg }.plan x_1.fst x_1.snd).b).M = y.s.r.M ∧ x.s.own ++ [x_1] = y.s.own ∧ x.s.wh ++ [({ pages := g.pages, E := x.s.r.E, M := x.s.r.M : Reg }.plan x_1.fst x_1.snd).a] = y.s.wh ∧ x.s.sm ++ [({ pages := g.pages, E := x.s.r.E, M := x.s.r.M : Reg }.plan x_1.fst x_1.snd).b] = y.s.sm))) (∃ (r : Tk), Holds (r = takenF g.pages g.l) ∧ true = true ∧ g.pages = r.r.pages ∧ x.s.own = r.own ∧ x.s.wh = r.wh ∧ x.s.sm = r.sm ∧ x.s.r.E = r.r.E ∧ x.s.r.M = r.r.M)) (∃ (r : Tk), Holds (r = takenF g.pages g.l) ∧ true = true ∧ g.pages = r.r.pages ∧ x.s.own = r.own ∧ x.s.wh = r.wh ∧ x.s.sm = r.sm ∧ x.s.r.E = r.r.E ∧ x.s.r.M = r.r.M))) := by kernel_rfl
theorem takenF_step {pages : Int} {l : List (Int × Int)} {i : Nat} (hi : i < (l.take 3000).length) : takenF pages (l.take (i + 1)) = (takenF pages (l.take i)).step (l.getD i (0, 0)) := by
  have h1 : i < l.length := by rw [List.length_take] at hi; omega
  have h2 : i < 3000 := by rw [List.length_take] at hi; omega
  unfold takenF
  rw [List.take_take, List.take_take, Nat.min_eq_right (by omega), Nat.min_eq_right (by omega), List.take_succ_eq_append_getElem h1, List.foldl_append]
  simp [List.getD, h1]
theorem taken_all {pages : Int} {l : List (Int × Int)} {i : Nat} (hi : (l.take 3000).length ≤ i) : takenF pages (l.take i) = takenF pages l := by
  unfold takenF
  rw [List.take_take]
  by_cases h : l.length ≤ 3000
  · rw [List.length_take] at hi
    rw [List.take_of_length_le (show l.length ≤ min 3000 i by omega), List.take_of_length_le h]
  · rw [List.length_take] at hi
    rw [Nat.min_eq_left (by omega)]

/-- What is so of a registry that has taken n and no more. -/
structure Reg.Fine (r : Reg) (n : Nat) : Prop where
  e : r.E.length ≤ n
  m : r.M.length ≤ n
  me : ∀ x ∈ r.M, 0 ≤ x.2 ∧ x.2 ≤ n
  ee : ∀ x ∈ r.E, 0 ≤ x.2.1 ∧ x.2.1 ≤ n
theorem mset_len {q : IntKind} {v : Ty} : ∀ {E : List (Int × v.den)} {c : Int} {x : v.den}, (mset (k := .int q) (v := v) E c x).length ≤ E.length + 1
  | [], _, _ => Nat.le_refl _
  | e :: E, c, x => by
    unfold mset
    split
    · simp
    · have := mset_len (q := q) (v := v) (E := E) (c := c) (x := x)
      simp only [List.length_cons]; omega
theorem mset_mem {q : IntKind} {v : Ty} : ∀ {E : List (Int × v.den)} {c : Int} {x : v.den} {e : Int × v.den}, e ∈ mset (k := .int q) (v := v) E c x → e.2 = x ∨ e ∈ E
  | [], c, x, e, h => by
    obtain rfl : e = (c, x) := by simpa [mset] using h
    exact .inl rfl
  | d :: E, c, x, e, h => by
    unfold mset at h
    split at h
    · rcases List.mem_cons.1 h with h | h
      · exact .inl (by rw [h])
      · exact .inr (List.mem_cons_of_mem _ h)
    · rcases List.mem_cons.1 h with h | h
      · exact .inr (by rw [h]; simp)
      · rcases mset_mem (q := q) (v := v) h with h | h
        · exact .inl h
        · exact .inr (List.mem_cons_of_mem _ h)
theorem Reg.Fine.add {r : Reg} {n : Nat} (h : r.Fine n) (c g : Int) : (r.add c g).Fine (n + 1) := by
  have he := h.e
  have hm := h.m
  refine ⟨?_, ?_, ?_, ?_⟩
  · have := mset_len (q := .i64) (v := TSlot) (E := r.E) (c := c) (x := ((r.E.length : Int), g))
    show (msE r.E c (r.E.length, g)).length ≤ _
    exact Nat.le_trans this (by omega)
  · show (if (mgM r.M g).isSome then r.M else msM r.M g r.M.length).length ≤ _
    split
    · omega
    · have := mset_len (q := .i64) (v := TI64) (E := r.M) (c := g) (x := (r.M.length : Int))
      exact Nat.le_trans this (by omega)
  · intro x hx
    have hx : x ∈ (if (mgM r.M g).isSome then r.M else msM r.M g r.M.length) := hx
    split at hx
    · have := h.me x hx; omega
    · rcases mset_mem (q := .i64) (v := TI64) hx with h1 | h1
      · rw [h1]; show (0 : Int) ≤ (r.M.length : Int) ∧ (r.M.length : Int) ≤ _; omega
      · have := h.me x h1; omega
  · intro x hx
    have hx : x ∈ msE r.E c (r.E.length, g) := hx
    rcases mset_mem (q := .i64) (v := TSlot) hx with h1 | h1
    · rw [h1]; show (0 : Int) ≤ (r.E.length : Int) ∧ (r.E.length : Int) ≤ _; omega
    · have := h.ee x h1; omega
theorem Reg.Fine.ok {r : Reg} {n : Nat} (h : r.Fine n) (hn : n ≤ 3000) (h1 : 2 ≤ r.pages) (h2 : r.pages ≤ 64) : r.ok := by
  have he := h.e
  have hm := h.m
  exact ⟨h1, h2, by omega, by omega, fun e x => by have := h.me e x; omega, fun e x => by have := h.ee e x; omega⟩

/-- What is so of what is taken. -/
structure Tk.Good (pages : Int) (n : Nat) (s : Tk) : Prop where
  reg : s.r = regOf pages s.own
  fine : s.r.Fine n
  len : s.own.length ≤ n
  wl : s.wh.length = s.own.length
  sl : s.sm.length = s.own.length
  rg : ∀ p ∈ s.own, (1 ≤ p.1 ∧ p.1 ≤ 4000) ∧ 1 ≤ p.2 ∧ p.2 ≤ 4000
  pl : ∀ i p, s.own[i]? = some p → ∃ a b, s.wh[i]? = some a ∧ s.sm[i]? = some b ∧ (regOf pages (s.own.take i)).plan p.1 p.2 = ⟨a, b, 0⟩
theorem regOf_snoc (pages : Int) (own : List (Int × Int)) (p : Int × Int) : regOf pages (own ++ [p]) = (regOf pages own).add p.1 p.2 := by
  unfold regOf
  rw [List.foldl_append]; rfl
theorem regOf_pages (pages : Int) (own : List (Int × Int)) : (regOf pages own).pages = pages := by
  unfold regOf
  suffices ∀ (l : List (Int × Int)) (r : Reg), (l.foldl (fun r p => r.add p.1 p.2) r).pages = r.pages from this _ _
  intro l
  induction l with
  | nil => intro r; rfl
  | cons p l ih => intro r; rw [List.foldl_cons, ih]; rfl
theorem Tk.Good.step {pages : Int} {n : Nat} {s : Tk} (h : s.Good pages n) (p : Int × Int) : (s.step p).Good pages (n + 1) := by
  unfold Tk.step
  have hc := rst_in (n := p.1) (lo := 1) (hi := 4000) (by omega)
  have hg := rst_in (n := p.2) (lo := 1) (hi := 4000) (by omega)
  generalize rst p.1 1 4000 = c at *
  generalize rst p.2 1 4000 = g at *
  have hl := h.len
  split
  · exact ⟨h.reg, ⟨Nat.le_succ_of_le h.fine.e, Nat.le_succ_of_le h.fine.m, fun x hx => by have := h.fine.me x hx; omega, fun x hx => by have := h.fine.ee x hx; omega⟩, by omega, h.wl, h.sl, h.rg, h.pl⟩
  · rename_i he
    have he : (s.r.plan c g).e = 0 := by omega
    refine ⟨?_, h.fine.add c g, by simp; omega, by simp [h.wl], by simp [h.sl], fun q hq => (List.mem_append.1 hq).elim (h.rg q) (fun hq => by simp at hq; subst hq; exact ⟨hc, hg⟩), fun i q hq => ?_⟩
    · rw [regOf_snoc, ← h.reg]
    · by_cases hi : i < s.own.length
      · rw [List.getElem?_append_left hi] at hq
        obtain ⟨a, b, h1, h2, h3⟩ := h.pl i q hq
        have hw := h.wl
        have hs := h.sl
        refine ⟨a, b, by rw [List.getElem?_append_left (by omega)]; exact h1, by rw [List.getElem?_append_left (by omega)]; exact h2, ?_⟩
        rw [List.take_append_of_le_length (by omega)]
        exact h3
      · have hi2 : i = s.own.length := by
          have := (List.getElem?_eq_some_iff.1 hq).1
          simp at this; omega
        subst hi2
        simp at hq
        subst hq
        refine ⟨(s.r.plan c g).a, (s.r.plan c g).b, by rw [← h.wl]; simp, by rw [← h.sl]; simp, ?_⟩
        rw [List.take_append_of_le_length (Nat.le_refl _), List.take_length, ← h.reg]
        show s.r.plan c g = _
        rw [← he]
theorem taken_good (pages : Int) (l : List (Int × Int)) : ∀ i, (takenF pages (l.take i)).Good pages (min 3000 (min i l.length)) := by
  intro i
  suffices ∀ (l : List (Int × Int)) (s : Tk) (n : Nat), s.Good pages n → (l.foldl Tk.step s).Good pages (n + l.length) by
    have := this ((l.take i).take 3000) ⟨⟨pages, [], []⟩, [], [], []⟩ 0 ⟨rfl, ⟨by simp, by simp, by simp, by simp⟩, by simp, rfl, rfl, by simp, fun i p hp => by simp at hp⟩
    simpa [takenF] using this
  intro l
  induction l with
  | nil => intro s n h; exact h
  | cons p l ih => intro s n h; rw [List.foldl_cons]; have := ih _ _ (h.step p); rwa [List.length_cons, show n + (l.length + 1) = n + 1 + l.length from by omega]
theorem taken_all_good (pages : Int) (l : List (Int × Int)) : (takenF pages l).Good pages 3000 := by
  have := taken_good pages l l.length
  rw [List.take_length] at this
  exact ⟨this.reg, ⟨by have := this.fine.e; omega, by have := this.fine.m; omega, fun x hx => by have := this.fine.me x hx; omega, fun x hx => by have := this.fine.ee x hx; omega⟩, by have := this.len; omega, this.wl, this.sl, this.rg, this.pl⟩
theorem plan_cases {r : Reg} {c g : Int} (h1 : 1 ≤ c ∧ c ≤ 4000) (h2 : 1 ≤ g ∧ g ≤ 4000) : r.plan c g = ⟨(0, 0), (0, 0), 121⟩ ∧ (mgE r.E c).isSome = true ∨
    mgE r.E c = none ∧ (r.plan c g = ⟨(0, 0), (0, 0), 6⟩ ∨ r.plan c g = ⟨wh r.E.length, sm r.pages ((mgM r.M g).getD r.M.length), 0⟩ ∧ nd (r.E.length + 1) 31 + nd (if (mgM r.M g).isSome then r.M.length else r.M.length + 1) 84 ≤ r.pages) := by
  unfold Reg.plan
  rw [if_neg (by omega)]
  by_cases h3 : (mgE r.E c).isSome = true
  · rw [if_pos h3]; exact .inl ⟨rfl, h3⟩
  · rw [if_neg h3]
    refine .inr ⟨by simpa using h3, ?_⟩
    by_cases h4 : r.pages < nd (r.E.length + 1) 31 + nd (if (mgM r.M g).isSome then r.M.length else r.M.length + 1) 84
    · rw [if_pos h4]; exact .inl rfl
    · rw [if_neg h4]; exact .inr ⟨rfl, by omega⟩
theorem plan_bad {r : Reg} {c g : Int} (h1 : 1 ≤ c ∧ c ≤ 4000) (h2 : 1 ≤ g ∧ g ≤ 4000) (he : (r.plan c g).e ≠ 0) : ((r.plan c g).e = 121 ∨ (r.plan c g).e = 6) ∧ (r.plan c g).a = (0, 0) ∧ (r.plan c g).b = (0, 0) := by
  rcases plan_cases (r := r) h1 h2 with ⟨h, _⟩ | ⟨_, h | ⟨h, _⟩⟩ <;> rw [h] at he ⊢ <;> simp at he ⊢
theorem ok12 : vc12 := by
  rw [vc12_is]
  intro g h1 h2 h3 h4
  simp only [holds_iff] at h1 h2 h3 h4
  have hL : (g.l.length : Int) ≤ 9223372036854775807 := by have := h2.1; have e : maxLen = 9223372036854775807 := by decide
                                                           omega
  refine ⟨fun _ h => absurd ⟨h3, h4⟩ h.out, fun _ _ => ⟨fun h => by simp at h, fun _ => ⟨⟨⟨0, takenF g.pages []⟩, ⟨by simp, by simp⟩, rfl, rfl, rfl, rfl, rfl, rfl⟩, fun x hx => ?_⟩⟩⟩
  obtain ⟨x1, x2⟩ := hx.out
  have hgood := taken_good g.pages g.l x.i
  have hpg : x.s.r.pages = g.pages := by rw [x2, hgood.reg, regOf_pages]
  have hr : (⟨g.pages, x.s.r.E, x.s.r.M⟩ : Reg) = x.s.r := by rw [← hpg]
  simp only [hr, holds_iff, splitB_iff, decide_eq_true_eq, decide_eq_false_iff_not]
  have hlen : (g.l.take 3000).length = min 3000 g.l.length := List.length_take
  have fin : (g.l.take 3000).length ≤ x.i → ∃ r : Tk, r = takenF g.pages g.l ∧ True ∧ g.pages = r.r.pages ∧ x.s.own = r.own ∧ x.s.wh = r.wh ∧ x.s.sm = r.sm ∧ x.s.r.E = r.r.E ∧ x.s.r.M = r.r.M := fun hi => by
    have := taken_all (pages := g.pages) hi
    exact ⟨_, rfl, trivial, by rw [← this, ← x2, hpg], by rw [← this, ← x2], by rw [← this, ← x2], by rw [← this, ← x2], by rw [← this, ← x2], by rw [← this, ← x2]⟩
  refine ⟨fun hi => ⟨fun hi2 => ?_, fun hi2 => fin (by omega)⟩, fun hi => fin (by omega)⟩
  have hi' : x.i < (g.l.take 3000).length := by omega
  have hst := takenF_step (pages := g.pages) hi'
  rw [← x2] at hst
  have hn : (↑x.i : Int).toNat = x.i := by omega
  simp only [hn]
  generalize hp : g.l.getD x.i ((0 : Int), (0 : Int)) = p at *
  have hc := rst_in (n := p.1) (lo := 1) (hi := 4000) (by omega)
  have hg := rst_in (n := p.2) (lo := 1) (hi := 4000) (by omega)
  refine ⟨⟨by omega, by omega, by omega, by omega, by omega, by omega, ⟨by omega, by omega, by omega, ⟨by omega, by omega, by omega, _, rfl, rfl, rfl⟩, by omega, by omega, by omega, _, rfl, rfl, rfl⟩, by omega, by omega, by omega, by omega, by omega, by omega, _, rfl, rfl, rfl⟩, fun y hy => ?_⟩
  subst hy
  have hfine : x.s.r.Fine (min 3000 (min x.i g.l.length)) := x2 ▸ hgood.fine
  have hrok : x.s.r.ok := hfine.ok (by omega) (by omega) (by omega)
  have hw : IntKind.i64.wrap ((x.i : Int) + 1) = ((x.i + 1 : Nat) : Int) := by rw [wrap64 (by omega) (by omega)]; rfl
  have again : (x.s.r.plan (rst p.1 1 4000) (rst p.2 1 4000)).e ≠ 0 → ∃ y : TkAt, (y.i ≤ (List.take 3000 g.l).length ∧ y.s = takenF g.pages (List.take y.i g.l)) ∧ 3000 - y.i < 3000 - x.i ∧ IntKind.i64.wrap ((x.i : Int) + 1) = (y.i : Int) ∧ x.s.r.E = y.s.r.E ∧ x.s.r.M = y.s.r.M ∧ x.s.own = y.s.own ∧ x.s.wh = y.s.wh ∧ x.s.sm = y.s.sm := fun he => by
    refine ⟨⟨x.i + 1, x.s⟩, ⟨(by show x.i + 1 ≤ _; omega), ?_⟩, (by show 3000 - (x.i + 1) < _; omega), hw, rfl, rfl, rfl, rfl, rfl⟩
    show x.s = _
    rw [hst]
    unfold Tk.step
    rw [if_pos he]
  refine ⟨hrok, fun he => ?_, fun he => ?_⟩
  · have he : (x.s.r.plan (rst p.1 1 4000) (rst p.2 1 4000)).e ≠ 0 := by simpa using he
    obtain ⟨b1, b2, b3⟩ := plan_bad hc hg he
    have a2 : ¬ ((!((x.s.r.plan (rst p.1 1 4000) (rst p.2 1 4000)).a.1 == (0 : Int) && (x.s.r.plan (rst p.1 1 4000) (rst p.2 1 4000)).a.2 == (0 : Int))) = true) := by rw [b2]; simp
    have a3 : ¬ ((!((x.s.r.plan (rst p.1 1 4000) (rst p.2 1 4000)).b.1 == (0 : Int) && (x.s.r.plan (rst p.1 1 4000) (rst p.2 1 4000)).b.2 == (0 : Int))) = true) := by rw [b3]; simp
    refine ⟨fun k1 => ⟨fun k2 => ?_, fun k2 => ⟨fun k3 => absurd k3 a2, fun _ => ⟨fun k3 => absurd k3 a3, fun _ => again he⟩⟩⟩, fun k1 => ⟨fun k3 => absurd k3 a2, fun _ => ⟨fun k3 => absurd k3 a3, fun _ => again he⟩⟩⟩
    exfalso
    simp at k1 k2
    omega
  · have he : (x.s.r.plan (rst p.1 1 4000) (rst p.2 1 4000)).e = 0 := by simpa using he
    have hE : x.s.r.takeE (rst p.1 1 4000) (rst p.2 1 4000) (x.s.r.plan (rst p.1 1 4000) (rst p.2 1 4000)).a (x.s.r.plan (rst p.1 1 4000) (rst p.2 1 4000)).b = 0 := by unfold Reg.takeE; rw [if_neg (by omega), if_neg (by simp)]
    have hT : x.s.r.take (rst p.1 1 4000) (rst p.2 1 4000) (x.s.r.plan (rst p.1 1 4000) (rst p.2 1 4000)).a (x.s.r.plan (rst p.1 1 4000) (rst p.2 1 4000)).b = x.s.r.add (rst p.1 1 4000) (rst p.2 1 4000) := by unfold Reg.take; rw [if_pos hE]
    have hs := hgood.wl
    have hs2 := hgood.sl
    have hs3 := hgood.len
    rw [← x2] at hs hs2 hs3
    refine ⟨hrok, fun k => by rw [hE] at k; simp at k, fun _ => ⟨by simp only [List.length_cons, List.length_nil]; omega, by simp only [List.length_cons, List.length_nil]; omega, by simp only [List.length_cons, List.length_nil]; omega, ⟨x.i + 1, x.s.step p⟩, ⟨(by show x.i + 1 ≤ _; omega), hst.symm⟩, (by show 3000 - (x.i + 1) < _; omega), hw, ?_, ?_, ?_, ?_, ?_⟩⟩
    all_goals (unfold Tk.step; rw [if_neg (by omega)])
    · rw [hT]
    · rw [hT]

theorem mset_same {q : IntKind} {v : Ty} : ∀ {E : List (Int × v.den)} {c : Int} {x : v.den}, mget (k := .int q) (v := v) E c = some x → mset (k := .int q) (v := v) E c x = E
  | [], c, x, h => by cases h
  | e :: E, c, x, h => by
    unfold mset
    unfold mget at h
    rw [List.find?_cons] at h
    cases hb : (Ty.int q).beq e.1 c with
    | true => rw [hb] at h; simp at h; rw [if_pos rfl, ← h]
    | false =>
      rw [hb] at h
      rw [if_neg (by simp)]
      have : mget (k := .int q) (v := v) E c = some x := h
      rw [mset_same this]
/-- What stands in a registry that has taken the first i. -/
structure Taken (pages : Int) (s : Tk) (i : Nat) (r : Reg) : Prop where
  pg : r.pages = pages
  el : r.E.length = i
  ge : ∀ j p, j < i → s.own[j]? = some p → mgE r.E p.1 = some ((j : Int), p.2)
  gm : ∀ j p, j < i → s.own[j]? = some p → ∃ k : Int, mgM r.M p.2 = some k ∧ 0 ≤ k ∧ k < r.M.length ∧ s.sm[j]? = some (sm pages k)
  wh : ∀ j, j < i → s.wh[j]? = some (wh j)
  cap : 0 < i → 1 ≤ r.M.length ∧ nd i 31 + nd r.M.length 84 ≤ pages
  mq : ∀ x ∈ r.M, 0 ≤ x.2 ∧ x.2 < r.M.length
theorem mgE_app {E : List (Int × (Int × Int))} {c d : Int} {x : Int × Int} : mgE (E ++ [(c, x)]) d = (mgE E d).or (if c = d then some x else none) := mget_app (q := .i64) (v := TSlot)
theorem mgM_app {E : List (Int × Int)} {c d : Int} {x : Int} : mgM (E ++ [(c, x)]) d = (mgM E d).or (if c = d then some x else none) := mget_app (q := .i64) (v := TI64)
/-- One step: what is planned, and what stands then. -/
theorem taken_next {pages : Int} {s : Tk} (hs : s.Good pages 3000) {i : Nat} {p : Int × Int} (hp : s.own[i]? = some p) (h : Taken pages s i (regOf pages (s.own.take i))) :
    mgE (regOf pages (s.own.take i)).E p.1 = none ∧ s.wh[i]? = some (wh i) ∧ (regOf pages (s.own.take i)).plan p.1 p.2 = ⟨wh i, sm pages ((mgM (regOf pages (s.own.take i)).M p.2).getD (regOf pages (s.own.take i)).M.length), 0⟩ ∧
      s.sm[i]? = some (sm pages ((mgM (regOf pages (s.own.take i)).M p.2).getD (regOf pages (s.own.take i)).M.length)) ∧
      regOf pages (s.own.take (i + 1)) = (regOf pages (s.own.take i)).add p.1 p.2 ∧ Taken pages s (i + 1) (regOf pages (s.own.take (i + 1))) := by
  obtain ⟨a, b, h1, h2, h3⟩ := hs.pl i p hp
  obtain ⟨hc, hg⟩ := hs.rg p (List.mem_of_getElem? hp)
  have hi : i < s.own.length := (List.getElem?_eq_some_iff.1 hp).1
  have hnx : regOf pages (s.own.take (i + 1)) = (regOf pages (s.own.take i)).add p.1 p.2 := by
    rw [List.take_succ_eq_append_getElem hi, regOf_snoc]
    have := (List.getElem?_eq_some_iff.1 hp).2
    rw [this]
  generalize regOf pages (s.own.take i) = r at *
  rw [hnx]
  rcases plan_cases (r := r) hc hg with ⟨h4, _⟩ | ⟨h4, h5 | ⟨h5, h6⟩⟩
  · rw [h4] at h3; simp at h3
  · rw [h5] at h3; simp at h3
  rw [h5] at h3
  rw [h.el, h.pg] at h3
  simp only [Planned.mk.injEq, and_true] at h3
  obtain ⟨rfl, rfl⟩ := h3
  have eE : (r.add p.1 p.2).E = r.E ++ [(p.1, ((i : Int), p.2))] := by
    have := mset_none (q := .i64) (v := TSlot) (x := ((r.E.length : Int), p.2)) h4
    rw [h.el] at this
    show msE r.E p.1 (r.E.length, p.2) = _
    rw [h.el]; exact this
  have hp' : ∀ j q, j < i + 1 → s.own[j]? = some q → (j < i ∨ (j = i ∧ q = p)) := fun j q hj hq => by
    rcases Nat.lt_or_ge j i with h | h
    · exact .inl h
    · obtain rfl : j = i := by omega
      rw [hp] at hq; exact .inr ⟨rfl, (Option.some.inj hq).symm⟩
  have hM : (r.add p.1 p.2).M = if (mgM r.M p.2).isSome then r.M else msM r.M p.2 r.M.length := rfl
  have hMl : ((r.add p.1 p.2).M.length : Int) = if (mgM r.M p.2).isSome then (r.M.length : Int) else r.M.length + 1 := by
    rw [hM]
    cases hm : mgM r.M p.2 with
    | some k => simp
    | none =>
      have := mset_none (q := .i64) (v := TI64) (x := (r.M.length : Int)) hm
      simp only [Option.isSome_none, Bool.false_eq_true, if_false]
      rw [show msM r.M p.2 r.M.length = r.M ++ [(p.2, (r.M.length : Int))] from this]
      simp
  refine ⟨h4, h1, by rw [h5, h.el, h.pg], h2, rfl, by show r.pages = pages; exact h.pg, by rw [eE]; simp [h.el], fun j q hj hq => ?_, fun j q hj hq => ?_, fun j hj => ?_, fun _ => ?_, fun x hx => ?_⟩
  · rw [eE, mgE_app]
    rcases hp' j q hj hq with hj | ⟨rfl, rfl⟩
    · rw [h.ge j q hj hq]; rfl
    · rw [h4]; simp
  · rcases hp' j q hj hq with hj | ⟨rfl, rfl⟩
    · obtain ⟨k, k1, k2, k3, k4⟩ := h.gm j q hj hq
      refine ⟨k, ?_, k2, by rw [hMl]; split <;> omega, k4⟩
      rw [hM]
      cases hm : mgM r.M p.2 with
      | some _ => simpa using k1
      | none =>
        have := mset_none (q := .i64) (v := TI64) (x := (r.M.length : Int)) hm
        simp only [Option.isSome_none, Bool.false_eq_true, if_false]
        rw [show msM r.M p.2 r.M.length = r.M ++ [(p.2, (r.M.length : Int))] from this, mgM_app, k1]; rfl
    · cases hm : mgM r.M q.2 with
      | some k =>
        rw [hm] at h2 hM hMl
        have := h.mq _ (mget_mem hm)
        refine ⟨k, by rw [hM]; simpa using hm, this.1, by rw [hMl]; simpa using this.2, by simpa using h2⟩
      | none =>
        rw [hm] at h2 hM hMl
        have := mset_none (q := .i64) (v := TI64) (x := (r.M.length : Int)) hm
        refine ⟨r.M.length, ?_, by omega, by rw [hMl]; simp; omega, by simpa using h2⟩
        rw [hM]
        simp only [Option.isSome_none, Bool.false_eq_true, if_false]
        rw [show msM r.M q.2 r.M.length = r.M ++ [(q.2, (r.M.length : Int))] from this, mgM_app, hm]
        simp
  · rcases Nat.lt_or_ge j i with hj' | hj'
    · exact h.wh j hj'
    · obtain rfl : j = i := by omega
      exact h1
  · rw [hMl]
    rw [h.el, h.pg] at h6
    refine ⟨?_, by push_cast; exact h6⟩
    have : 1 ≤ (if (mgM r.M p.2).isSome then (r.M.length : Int) else r.M.length + 1) := by
      split
      · rename_i hm
        obtain ⟨k, hk⟩ := Option.isSome_iff_exists.1 hm
        have := h.mq _ (mget_mem hk)
        omega
      · omega
    omega
  · rw [hM] at hx
    rw [hMl]
    split at hx
    · have := h.mq x hx; split <;> omega
    · rename_i hm
      rw [if_neg hm]
      rcases mset_mem (q := .i64) (v := TI64) hx with h1 | h1
      · rw [h1]; show (0 : Int) ≤ (r.M.length : Int) ∧ (r.M.length : Int) < _; omega
      · have := h.mq x h1; omega
theorem taken_at {pages : Int} {s : Tk} (hs : s.Good pages 3000) : ∀ i, i ≤ s.own.length → Taken pages s i (regOf pages (s.own.take i))
  | 0, _ => ⟨rfl, rfl, fun j p h => by omega, fun j p h => by omega, fun j h => by omega, fun h => by omega, fun x hx => by cases hx⟩
  | i + 1, hi => by
    have := taken_at hs i (by omega)
    exact (taken_next hs (List.getElem?_eq_getElem (show i < s.own.length by omega)) this).2.2.2.2.2
theorem gs_get {r : Reg} {pages : Int} (h : r.pages = pages) (g : Int) : mget (k := TI64) (v := TSlot) r.gs g = (mgM r.M g).map (sm pages) := by
  unfold Reg.gs mgM mgetT mget
  rw [h, List.find?_map]
  simp only [Option.map_map, Function.comp_def]

def vc4 : Prop := vc Try.f4.body Try.f4.results Try.f4.ntmps [(7, some sp7), (11, some sp11), (12, some sp12), (13, some sp13), (14, some sp14), (15, some sp15), (16, some sp16), (17, some sp17)] sp4 ann4
theorem vc4_is : vc4 = (
∀ (g : TkArg), Holds (InR IntKind.i64 g.pages) → Holds (kS.slice.ok g.l) → SplitB (!true) (false = true) (Holds ((0 : Int) ≤ (2 : Int)) ∧ Holds ((2 : Int) ≤ (64 : Int)) ∧ Holds ((64 : Int) ≤ (1000000 : Int)) ∧ Holds ((2 : Int) ≤ rst g.pages (2 : Int) (64 : Int)) ∧ Holds (rst g.pages (2 : Int) (64 : Int) ≤ (64 : Int)) ∧ ∀ (r : Tk), Holds (r = takenF (rst g.pages (2 : Int) (64 : Int)) g.l) → SplitB (!true) (false = true) ((∃ (x : ApAt), Holds (ApAt.ok (rst g.pages (2 : Int) (64 : Int)) (takenF (rst g.pages (2 : Int) (64 : Int)) g.l) x) ∧ (0 : Int) = (↑x.i : Int) ∧ (-1 : Int) = x.low ∧ rst g.pages (2 : Int) (64 : Int) = x.high ∧ nilT (Int × Int × Int) = x.G) ∧ ∀ (x : ApAt), Holds (ApAt.ok (rst g.pages (2 : Int) (64 : Int)) (takenF (rst g.pages (2 : Int) (64 : Int)) g.l) x) → SplitB (decide ((↑x.i : Int) < (↑r.own.length : Int))) (Holds ((0 : Int) ≤ (↑x.i : Int)) ∧ Holds ((↑x.i : Int) < (↑r.wh.length : Int)) ∧ Holds ((↑x.i : Int).toNat < r.wh.length) ∧ Holds ((31 : Int) ≠ (0 : Int)) ∧ Holds ((31 : Int) ≠ (0 : Int)) ∧ SplitB (!((r.wh.getD (↑x.i : Int).toNat ((0 : Int), (0 : Int))).fst == IntKind.i64.wrap ((↑x.i : Int).tdiv (31 : Int)) && (r.wh.getD (↑x.i : Int).toNat ((0 : Int), (0 : Int))).snd == (↑x.i : Int).tmod (31 : Int))) (false = true) (Holds ((0 : Int) ≤ (↑x.i : Int)) ∧ Holds ((↑x.i : Int) < (↑r.wh.length : Int)) ∧ Holds ((↑x.i : Int).toNat < r.wh.length) ∧ Holds ((0 : Int) ≤ (↑x.i : Int)) ∧ Holds ((↑x.i : Int) < (↑r.own.length : Int)) ∧ Holds ((↑x.i : Int).toNat < r.own.length) ∧ SplitB (mgetT TI64 TSlot x.G (r.own.getD (↑x.i : Int).toNat ((0 : Int), (0 : Int))).snd).isSome (Holds ((0 : Int) ≤ (↑x.i : Int)) ∧ Holds ((↑x.i : Int) < (↑r.sm.length : Int)) ∧ Holds ((↑x.i : Int).toNat < r.sm.length) ∧ SplitB (!(((mgetT TI64 TSlot x.G (r.own.getD (↑x.i : Int).toNat ((0 : Int), (0 : Int))).snd).getD ((0 : Int), (0 : Int))).fst == (r.sm.getD (↑x.i : Int).toNat ((0 : Int), (0 : Int))).fst && ((mgetT TI64 TSlot x.G (r.own.getD (↑x.i : Int).toNat ((0 : Int), (0 : Int))).snd).getD ((0 : Int), (0 : Int))).snd == (r.sm.getD (↑x.i : Int).toNat ((0 : Int), (0 : Int))).snd)) (false = true) (SplitB (!(mgetT TI64 TSlot x.G (r.own.getD (↑x.i : Int).toNat ((0 : Int), (0 : Int))).snd).isSome) (Holds ((0 : Int) ≤ (↑x.i : Int)) ∧ Holds ((↑x.i : Int) < (↑r.sm.length : Int)) ∧ Holds ((↑x.i : Int).toNat < r.sm.length) ∧ Holds ((84 : Int) ≠ (0 : Int)) ∧ Holds ((84 : Int) ≠ (0 : Int)) ∧ SplitB (!((r.sm.getD (↑x.i : Int).toNat ((0 : Int), (0 : Int))).fst == IntKind.i64.wrap (IntKind.i64.wrap (rst g.pages (2 : Int) (64 : Int) - (1 : Int)) - IntKind.i64.wrap ((↑x.G.length : Int).tdiv (84 : Int))) && (r.sm.getD (↑x.i : Int).toNat ((0 : Int), (0 : Int))).snd == (↑x.G.length : Int).tmod (84 : Int))) (false = true) (Holds ((0 : Int) ≤ (↑x.i : Int)) ∧ Holds ((↑x.i : Int) < (↑r.own.length : Int)) ∧ Holds ((↑x.i : Int).toNat < r.own.length) ∧ Holds ((0 : Int) ≤ (↑x.i : Int)) ∧ Holds ((↑x.i : Int) < (↑r.sm.length : Int)) ∧ Holds ((↑x.i : Int).toNat < r.sm.length) ∧ Holds (x.G.length < maxLen) ∧ Holds ((0 : Int) ≤ (↑x.i : Int)) ∧ Holds ((↑x.i : Int) < (↑r.sm.length : Int)) ∧ Holds ((↑x.i : Int).toNat < r.sm.length) ∧ Holds ((0 : Int) ≤ (↑x.i : Int)) ∧ Holds ((↑x.i : Int) < (↑r.own.length : Int)) ∧ Holds ((↑x.i : Int).toNat < r.own.length) ∧ Holds r.r.ok ∧ Holds ((0 : Int) ≤ (↑x.i : Int)) ∧ Holds ((↑x.i : Int) < (↑r.own.length : Int)) ∧ Holds ((↑x.i : Int).toNat < r.own.length) ∧ Holds r.r.ok ∧ SplitB ((r.r.find (r.own.getD (↑x.i : Int).toNat ((0 : Int), (0 : Int))).fst).e != (0 : Int)) (false = true) (SplitB ((r.r.group (r.own.getD (↑x.i : Int).toNat ((0 : Int), (0 : Int))).snd).e != (0 : Int)) (false = true) (Holds ((0 : Int) ≤ (↑x.i : Int)) ∧ Holds ((↑x.i : Int) < (↑r.wh.length : Int)) ∧ Holds ((↑x.i : Int).toNat < r.wh.length) ∧ SplitB (!((r.r.find (r.own.getD (↑x.i : Int).toNat ((0 : Int), (0 : Int))).fst).a.fst == (r.wh.getD (↑x.i : Int).toNat ((0 : Int), (0 : Int))).fst && (r.r.find (r.own.getD (↑x.i : Int).toNat ((0 : Int), (0 : Int))).fst).a.snd == (r.wh.getD (↑x.i : Int).toNat ((0 : Int), (0 : Int))).snd)) (false = true) (Holds ((0 : Int) ≤ (↑x.i : Int)) ∧ Holds ((↑x.i : Int) < (↑r.own.length : Int)) ∧ Holds ((↑x.i : Int).toNat < r.own.length) ∧ SplitB ((r.r.find (r.own.getD (↑x.i : Int).toNat ((0 : Int), (0 : Int))).fst).g != (r.own.getD (↑x.i : Int).toNat ((0 : Int), (0 : Int))).snd) (false = true) (Holds ((0 : Int) ≤ (↑x.i : Int)) ∧ Holds ((↑x.i : Int) < (↑r.sm.length : Int)) ∧ Holds ((↑x.i : Int).toNat < r.sm.length) ∧ SplitB (!((r.r.find (r.own.getD (↑x.i : Int).toNat ((0 : Int), (0 : Int))).fst).b.fst == (r.sm.getD (↑x.i : Int).toNat ((0 : Int), (0 : Int))).fst && (r.r.find (r.own.getD (↑x.i : Int).toNat ((0 : Int), (0 : Int))).fst).b.snd == (r.sm.getD (↑x.i : Int).toNat ((0 : Int), (0 : Int))).snd)) (false = true) (Holds ((0 : Int) ≤ (↑x.i : Int)) ∧ Holds ((↑x.i : Int) < (↑r.sm.length : Int)) ∧ Holds ((↑x.i : Int).toNat < r.sm.length) ∧ SplitB (!((r.r.group (r.own.getD (↑x.i : Int).toNat ((0 : Int), Int.ofNat (nat_lit 0))).snd).a.fst == (r.sm.getD (↑x.i : Int).toNat ((0 : Int), (0 : Int))).fst && (r.r.group (r.own.getD (↑x.i : Int).toNat ((0 : Int), Int.ofNat (nat_lit 0))).snd).a.snd == (r.sm.getD (↑x.i : Int).toNat ((0 : Int), (0 : Int))).snd)) (false = true) (∃ (y : ApAt), Holds (ApAt.ok (rst g.pages (2 : Int) (64 : Int)) (takenF (rst g.pages (2 : Int) (64 : Int)) g.l) y) ∧ Holds ((takenF (rst g.pages (2 : Int) (64 : Int)) g.l).own.length - y.i < (takenF (rst g.pages (2 : Int) (64 : Int)) g.l).own.length - x.i) ∧ IntKind.i64.wrap ((↑x.i : Int) + (1 : Int)) = (↑y.i : Int) ∧ (r.wh.getD (↑x.i : Int).toNat ((0 : Int), (0 : Int))).fst = y.low ∧ (if (r.sm.getD (↑x.i : Int).toNat ((0 : Int), Int.ofNat (nat_lit 0))).fst < x.high then (r.sm.getD (↑x.i : Int).toNat ((0 : Int), Int.ofNat (nat_lit 0))).fst else x.high) = y.high ∧ msetT TI64 TSlot x.G (r.own.getD (↑x.i : Int).toNat ((0 : Int), Int.ofNat (nat_lit 0))).snd (r.sm.getD (↑x.i : Int).toNat ((0 : Int), (0 : Int))) = y.G)))))))) (Holds ((0 : Int) ≤ (↑x.i : Int)) ∧ Holds ((↑x.i : Int) < (↑r.own.length : Int)) ∧ Holds ((↑x.i : Int).toNat < r.own.length) ∧ Holds ((0 : Int) ≤ (↑x.i : Int)) ∧ Holds ((↑x.i : Int) < (↑r.sm.length : Int)) ∧ Holds ((↑x.i : Int).toNat < r.sm.length) ∧ Holds (x.G.length < maxLen) ∧ Holds ((0 : Int) ≤ (↑x.i : Int)) ∧ Holds ((↑x.i : Int) < (↑r.sm.length : Int)) ∧ Holds ((↑x.i : Int).toNat < r.sm.length) ∧ Holds ((0 : Int) ≤ (↑x.i : Int)) ∧ Holds ((↑x.i : Int) < (↑r.own.length : Int)) ∧ Holds ((↑x.i : Int).toNat < r.own.length) ∧ Holds r.r.ok ∧ Holds ((0 : Int) ≤ (↑x.i : Int)) ∧ Holds ((↑x.i : Int) < (↑r.own.length : Int)) ∧ Holds ((↑x.i : Int).toNat < r.own.length) ∧ Holds r.r.ok ∧ SplitB ((r.r.find (r.own.getD (↑x.i : Int).toNat ((0 : Int), (0 : Int))).fst).e != (0 : Int)) (false = true) (SplitB ((r.r.group (r.own.getD (↑x.i : Int).toNat ((0 : Int), (0 : Int))).snd).e != (0 : Int)) (false = true) (Holds ((0 : Int) ≤ (↑x.i : Int)) ∧ Holds ((↑x.i : Int) < (↑r.wh.length : Int)) ∧ Holds ((↑x.i : Int).toNat < r.wh.length) ∧ SplitB (!((r.r.find (r.own.getD (↑x.i : Int).toNat ((0 : Int), (0 : Int))).fst).a.fst == (r.wh.getD (↑x.i : Int).toNat ((0 : Int), (0 : Int))).fst && (r.r.find (r.own.getD (↑x.i : Int).toNat ((0 : Int), (0 : Int))).fst).a.snd == (r.wh.getD (↑x.i : Int).toNat ((0 : Int), (0 : Int))).snd)) (false = true) (Holds ((0 : Int) ≤ (↑x.i : Int)) ∧ Holds ((↑x.i : Int) < (↑r.own.length : Int)) ∧ Holds ((↑x.i : Int).toNat < r.own.length) ∧ SplitB ((r.r.find (r.own.getD (↑x.i : Int).toNat ((0 : Int), (0 : Int))).fst).g != (r.own.getD (↑x.i : Int).toNat ((0 : Int), (0 : Int))).snd) (false = true) (Holds ((0 : Int) ≤ (↑x.i : Int)) ∧ Holds ((↑x.i : Int) < (↑r.sm.length : Int)) ∧ Holds ((↑x.i : Int).toNat < r.sm.length) ∧ SplitB (!((r.r.find (r.own.getD (↑x.i : Int).toNat ((0 : Int), (0 : Int))).fst).b.fst == (r.sm.getD (↑x.i : Int).toNat ((0 : Int), (0 : Int))).fst && (r.r.find (r.own.getD (↑x.i : Int).toNat ((0 : Int), (0 : Int))).fst).b.snd == (r.sm.getD (↑x.i : Int).toNat ((0 : Int), (0 : Int))).snd)) (false = true) (Holds ((0 : Int) ≤ (↑x.i : Int)) ∧ Holds ((↑x.i : Int) < (↑r.sm.length : Int)) ∧ Holds ((↑x.i : Int).toNat < r.sm.length) ∧ SplitB (!((r.r.group (r.own.getD (↑x.i : Int).toNat ((0 : Int), (0 : Int))).snd).a.fst == (r.sm.getD (↑x.i : Int).toNat ((0 : Int), (0 : Int))).fst && (r.r.group (r.own.getD (↑x.i : Int).toNat ((0 : Int), (0 : Int))).snd).a.snd == (r.sm.getD (↑x.i : Int).toNat ((0 : Int), (0 : Int))).snd)) (false = true) (∃ (y : ApAt), Holds (ApAt.ok (rst g.pages (2 : Int) (64 : Int)) (takenF (rst g.pages (2 : Int) (64 : Int)) g.l) y) ∧ Holds ((takenF (rst g.pages (2 : Int) (64 : Int)) g.l).own.length - y.i < (takenF (rst g.pages (2 : Int) (64 : Int)) g.l).own.length - x.i) ∧ IntKind.i64.wrap ((↑x.i : Int) + (1 : Int)) = (↑y.i : Int) ∧ (r.wh.getD (↑x.i : Int).toNat ((0 : Int), (0 : Int))).fst = y.low ∧ (if (r.sm.getD (↑x.i : Int).toNat ((0 : Int), (0 : Int))).fst < x.high then (r.sm.getD (↑x.i : Int).toNat ((0 : Int), (0 : Int))).fst else x.high) = y.high ∧ msetT TI64 TSlot x.G (r.own.getD (↑x.i : Int).toNat ((0 : Int), (0 : Int))).snd (r.sm.getD (↑x.i : Int).toNat ((0 : Int), (0 : Int))) = y.G))))))))) (SplitB (!(mgetT TI64 TSlot x.G (r.own.getD (↑x.i : Int).toNat ((0 : Int), (0 : Int))).snd).isSome) (Holds ((0 : Int) ≤ (↑x.i : Int)) ∧ Holds ((↑x.i : Int) < (↑r.sm.length : Int)) ∧ Holds ((↑x.i : Int).toNat < r.sm.length) ∧ Holds ((84 : Int) ≠ (0 : Int)) ∧ Holds ((84 : Int) ≠ (0 : Int)) ∧ SplitB (!((r.sm.getD (↑x.i : Int).toNat ((0 : Int), (0 : Int))).fst == IntKind.i64.wrap (IntKind.i64.wrap (rst g.pages (2 : Int) (64 : Int) - (1 : Int)) - IntKind.i64.wrap ((↑x.G.length : Int).tdiv (84 : Int))) && (r.sm.getD (↑x.i : Int).toNat ((0 : Int), (0 : Int))).snd == (↑x.G.length : Int).tmod (84 : Int))) (false = true) (Holds ((0 : Int) ≤ (↑x.i : Int)) ∧ Holds ((↑x.i : Int) < (↑r.own.length : Int)) ∧ Holds ((↑x.i : Int).toNat < r.own.length) ∧ Holds ((0 : Int) ≤ (↑x.i : Int)) ∧ Holds ((↑x.i : Int) < (↑r.sm.length : Int)) ∧ Holds ((↑x.i : Int).toNat < r.sm.length) ∧ Holds (x.G.length < maxLen) ∧ Holds ((0 : Int) ≤ (↑x.i : Int)) ∧ Holds ((↑x.i : Int) < (↑r.sm.length : Int)) ∧ Holds ((↑x.i : Int).toNat < r.sm.length) ∧ Holds ((0 : Int) ≤ (↑x.i : Int)) ∧ Holds ((↑x.i : Int) < (↑r.own.length : Int)) ∧ Holds ((↑x.i : Int).toNat < r.own.length) ∧ Holds r.r.ok ∧ Holds ((0 : Int) ≤ (↑x.i : Int)) ∧ Holds ((↑x.i : Int) < (↑r.own.length : Int)) ∧ Holds ((↑x.i : Int).toNat < r.own.length) ∧ Holds r.r.ok ∧ SplitB ((r.r.find (r.own.getD (↑x.i : Int).toNat ((0 : Int), (0 : Int))).fst).e != (0 : Int)) (false = true) (SplitB ((r.r.group (r.own.getD (↑x.i : Int).toNat ((0 : Int), (0 : Int))).snd).e != (0 : Int)) (false = true) (Holds ((0 : Int) ≤ (↑x.i : Int)) ∧ Holds ((↑x.i : Int) < (↑r.wh.length : Int)) ∧ Holds ((↑x.i : Int).toNat < r.wh.length) ∧ SplitB (!((r.r.find (r.own.getD (↑x.i : Int).toNat ((0 : Int), (0 : Int))).fst).a.fst == (r.wh.getD (↑x.i : Int).toNat ((0 : Int), (0 : Int))).fst && (r.r.find (r.own.getD (↑x.i : Int).toNat ((0 : Int), (0 : Int))).fst).a.snd == (r.wh.getD (↑x.i : Int).toNat ((0 : Int), (0 : Int))).snd)) (false = true) (Holds ((0 : Int) ≤ (↑x.i : Int)) ∧ Holds ((↑x.i : Int) < (↑r.own.length : Int)) ∧ Holds ((↑x.i : Int).toNat < r.own.length) ∧ SplitB ((r.r.find (r.own.getD (↑x.i : Int).toNat ((0 : Int), (0 : Int))).fst).g != (r.own.getD (↑x.i : Int).toNat ((0 : Int), (0 : Int))).snd) (false = true) (Holds ((0 : Int) ≤ (↑x.i : Int)) ∧ Holds ((↑x.i : Int) < (↑r.sm.length : Int)) ∧ Holds ((↑x.i : Int).toNat < r.sm.length) ∧ SplitB (!((r.r.find (r.own.getD (↑x.i : Int).toNat ((0 : Int), (0 : Int))).fst).b.fst == (r.sm.getD (↑x.i : Int).toNat ((0 : Int), (0 : Int))).fst && (r.r.find (r.own.getD (↑x.i : Int).toNat ((0 : Int), (0 : Int))).fst).b.snd == (r.sm.getD (↑x.i : Int).toNat ((0 : Int), (0 : Int))).snd)) (false = true) (Holds ((0 : Int) ≤ (↑x.i : Int)) ∧ Holds ((↑x.i : Int) < (↑r.sm.length : Int)) ∧ Holds ((↑x.i : Int).toNat < r.sm.length) ∧ SplitB (!((r.r.group (r.own.getD (↑x.i : Int).toNat ((0 : Int), (0 : Int))).snd).a.fst == (r.sm.getD (↑x.i : Int).toNat ((0 : Int), (0 : Int))).fst && (r.r.group (r.own.getD (↑x.i : Int).toNat ((0 : Int), (0 : Int))).snd).a.snd == (r.sm.getD (↑x.i : Int).toNat ((0 : Int), (0 : Int))).snd)) (false = true) (∃ (y : ApAt), Holds (ApAt.ok (rst g.pages (2 : Int) (64 : Int)) (takenF (rst g.pages (2 : Int) (64 : Int)) g.l) y) ∧ Holds ((takenF (rst g.pages (2 : Int) (64 : Int)) g.l).own.length - y.i < (takenF (rst g.pages (2 : Int) (64 : Int)) g.l).own.length - x.i) ∧ IntKind.i64.wrap ((↑x.i : Int) + (1 : Int)) = (↑y.i : Int) ∧ (r.wh.getD (↑x.i : Int).toNat ((0 : Int), (0 : Int))).fst = y.low ∧ (if (r.sm.getD (↑x.i : Int).toNat ((0 : Int), (0 : Int))).fst < x.high then (r.sm.getD (↑x.i : Int).toNat ((0 : Int), (0 : Int))).fst else x.high) = y.high ∧ msetT TI64 TSlot x.G (r.own.getD (↑x.i : Int).toNat ((0 : Int), (0 : Int))).snd (r.sm.getD (↑x.i : Int).toNat ((0 : Int), (0 : Int))) = y.G)))))))) (Holds ((0 : Int) ≤ (↑x.i : Int)) ∧ Holds ((↑x.i : Int) < (↑r.own.length : Int)) ∧ Holds ((↑x.i : Int).toNat < r.own.length) ∧ Holds ((0 : Int) ≤ (↑x.i : Int)) ∧ Holds ((↑x.i : Int) < (↑r.sm.length : Int)) ∧ Holds ((↑x.i : Int).toNat < r.sm.length) ∧ Holds (x.G.length < maxLen) ∧ Holds ((0 : Int) ≤ (↑x.i : Int)) ∧ Holds ((↑x.i : Int) < (↑r.sm.length : Int)) ∧ Holds ((↑x.i : Int).toNat < r.sm.length) ∧ Holds ((0 : Int) ≤ (↑x.i : Int)) ∧ Holds ((↑x.i : Int) < (↑r.own.length : Int)) ∧ Holds ((↑x.i : Int).toNat < r.own.length) ∧ Holds r.r.ok ∧ Holds ((0 : Int) ≤ (↑x.i : Int)) ∧ Holds ((↑x.i : Int) < (↑r.own.length : Int)) ∧ Holds ((↑x.i : Int).toNat < r.own.length) ∧ Holds r.r.ok ∧ SplitB ((r.r.find (r.own.getD (↑x.i : Int).toNat ((0 : Int), (0 : Int))).fst).e != (0 : Int)) (false = true) (SplitB ((r.r.group (r.own.getD (↑x.i : Int).toNat ((0 : Int), (0 : Int))).snd).e != (0 : Int)) (false = true) (Holds ((0 : Int) ≤ (↑x.i : Int)) ∧ Holds ((↑x.i : Int) < (↑r.wh.length : Int)) ∧ Holds ((↑x.i : Int).toNat < r.wh.length) ∧ SplitB (!((r.r.find (r.own.getD (↑x.i : Int).toNat ((0 : Int), (0 : Int))).fst).a.fst == (r.wh.getD (↑x.i : Int).toNat ((0 : Int), (0 : Int))).fst && (r.r.find (r.own.getD (↑x.i : Int).toNat ((0 : Int), (0 : Int))).fst).a.snd == (r.wh.getD (↑x.i : Int).toNat ((0 : Int), (0 : Int))).snd)) (false = true) (Holds ((0 : Int) ≤ (↑x.i : Int)) ∧ Holds ((↑x.i : Int) < (↑r.own.length : Int)) ∧ Holds ((↑x.i : Int).toNat < r.own.length) ∧ SplitB ((r.r.find (r.own.getD (↑x.i : Int).toNat ((0 : Int), (0 : Int))).fst).g != (r.own.getD (↑x.i : Int).toNat ((0 : Int), (0 : Int))).snd) (false = true) (Holds ((0 : Int) ≤ (↑x.i : Int)) ∧ Holds ((↑x.i : Int) < (↑r.sm.length : Int)) ∧ Holds ((↑x.i : Int).toNat < r.sm.length) ∧ SplitB (!((r.r.find (r.own.getD (↑x.i : Int).toNat ((0 : Int), (0 : Int))).fst).b.fst == (r.sm.getD (↑x.i : Int).toNat ((0 : Int), (0 : Int))).fst && (r.r.find (r.own.getD (↑x.i : Int).toNat ((0 : Int), (0 : Int))).fst).b.snd == (r.sm.getD (↑x.i : Int).toNat ((0 : Int), (0 : Int))).snd)) (false = true) (Holds ((0 : Int) ≤ (↑x.i : Int)) ∧ Holds ((↑x.i : Int) < (↑r.sm.length : Int)) ∧ Holds ((↑x.i : Int).toNat < r.sm.length) ∧ SplitB (!((r.r.group (r.own.getD (↑x.i : Int).toNat ((0 : Int), (0 : Int))).snd).a.fst == (r.sm.getD (↑x.i : Int).toNat ((0 : Int), (0 : Int))).fst && (r.r.group (r.own.getD (↑x.i : Int).toNat ((0 : Int), (0 : Int))).snd).a.snd == (r.sm.getD (↑x.i : Int).toNat ((0 : Int), (0 : Int))).snd)) (false = true) (∃ (y : ApAt), Holds (ApAt.ok (rst g.pages (2 : Int) (64 : Int)) (takenF (rst g.pages (2 : Int) (64 : Int)) g.l) y) ∧ Holds ((takenF (rst g.pages (2 : Int) (64 : Int)) g.l).own.length - y.i < (takenF (rst g.pages (2 : Int) (64 : Int)) g.l).own.length - x.i) ∧ IntKind.i64.wrap ((↑x.i : Int) + (1 : Int)) = (↑y.i : Int) ∧ (r.wh.getD (↑x.i : Int).toNat ((0 : Int), (0 : Int))).fst = y.low ∧ (if (r.sm.getD (↑x.i : Int).toNat ((0 : Int), (0 : Int))).fst < x.high then (r.sm.getD (↑x.i : Int).toNat ((0 : Int), (0 : Int))).fst else x.high) = y.high ∧ msetT TI64 TSlot x.G (r.own.getD (↑x.i : Int).toNat ((0 : Int), (0 : Int))).snd (r.sm.getD (↑x.i : Int).toNat ((0 : Int), (0 : Int))) = y.G)))))))))) (SplitB (decide (x.low < x.high)) (SplitB (decide (x.high ≥ (0 : Int))) (Holds r.r.ok ∧ SplitB ((↑(rising (keysOf r.r.E)).length : Int) == (↑r.own.length : Int)) (Holds r.r.ok ∧ ((↑(rising (keysOf r.r.M)).length : Int) == (↑x.G.length : Int)) = true) (false = true)) (false = true)) (false = true))))) := by kernel_rfl
theorem apart_step {pages : Int} {s : Tk} (hs : s.Good pages 3000) (h2 : 2 ≤ pages ∧ pages ≤ 64) {x : ApAt} (hx : x.ok pages s) {p : Int × Int} (hp : s.own[x.i]? = some p) {k : Int} (hk : (mgM (regOf pages (s.own.take x.i)).M p.2).getD (regOf pages (s.own.take x.i)).M.length = k) :
    ApAt.ok pages s ⟨x.i + 1, (wh x.i).1, if (sm pages k).1 < x.high then (sm pages k).1 else x.high, mset (k := TI64) (v := TSlot) x.G p.2 (sm pages k)⟩ := by
  have hi : x.i < s.own.length := (List.getElem?_eq_some_iff.1 hp).1
  obtain ⟨x1, x2, x3, x4⟩ := hx
  have ht := taken_at hs x.i x1
  obtain ⟨n1, n2, n3, n4, n5, n6⟩ := taken_next hs hp ht
  have hc := n6.cap (by omega)
  refine ⟨(by show x.i + 1 ≤ _; omega), ?_, fun h => (by have h : x.i + 1 = 0 := h; omega), fun _ => ⟨?_, ?_⟩⟩
  · show mset (k := TI64) (v := TSlot) x.G p.2 (sm pages k) = (regOf pages (s.own.take (x.i + 1))).gs
    rw [n5, x2]
    generalize regOf pages (s.own.take x.i) = r at *
    have hM : (r.add p.1 p.2).M = if (mgM r.M p.2).isSome then r.M else msM r.M p.2 r.M.length := rfl
    have hg : (r.add p.1 p.2).gs = (r.add p.1 p.2).M.map fun e => (e.1, sm r.pages e.2) := rfl
    rw [hg, hM]
    have h0 := gs_get ht.pg p.2
    cases hm : mgM r.M p.2 with
    | some k' =>
      rw [hm] at h0 hk
      simp at hk
      subst hk
      rw [mset_same (q := .i64) (v := TSlot) h0]; rfl
    | none =>
      rw [hm] at h0 hk
      simp at hk
      have e1 := mset_none (q := .i64) (v := TSlot) (x := sm pages k) h0
      have e2 := mset_none (q := .i64) (v := TI64) (x := (r.M.length : Int)) hm
      rw [show mset (k := TI64) (v := TSlot) r.gs p.2 (sm pages k) = r.gs ++ [(p.2, sm pages k)] from e1]
      simp only [Option.isSome_none, Bool.false_eq_true, if_false]
      rw [show msM r.M p.2 r.M.length = r.M ++ [(p.2, (r.M.length : Int))] from e2]
      simp [Reg.gs, ht.pg, hk]
  · show (wh x.i).1 = ((x.i + 1 - 1 : Nat) : Int) / 31
    rw [Nat.add_sub_cancel]; rfl
  · show (if (sm pages k).1 < x.high then (sm pages k).1 else x.high) = pages - 1 - (((regOf pages (s.own.take (x.i + 1))).M.length - 1 : Nat) : Int) / 84
    rw [n5]
    have hl : (((regOf pages (s.own.take x.i)).add p.1 p.2).M.length : Int) = if (mgM (regOf pages (s.own.take x.i)).M p.2).isSome then ((regOf pages (s.own.take x.i)).M.length : Int) else (regOf pages (s.own.take x.i)).M.length + 1 := by
      show ((if (mgM (regOf pages (s.own.take x.i)).M p.2).isSome then (regOf pages (s.own.take x.i)).M else msM (regOf pages (s.own.take x.i)).M p.2 (regOf pages (s.own.take x.i)).M.length).length : Int) = _
      cases hm : mgM (regOf pages (s.own.take x.i)).M p.2 with
      | some k => simp
      | none =>
        have := mset_none (q := .i64) (v := TI64) (x := ((regOf pages (s.own.take x.i)).M.length : Int)) hm
        simp only [Option.isSome_none, Bool.false_eq_true, if_false]
        rw [show msM (regOf pages (s.own.take x.i)).M p.2 (regOf pages (s.own.take x.i)).M.length = _ from this]
        simp
    rw [n5] at hc
    have e : (sm pages k).1 = pages - 1 - k / 84 := rfl
    rw [e]
    generalize ((regOf pages (s.own.take x.i)).add p.1 p.2).M.length = L at *
    by_cases h0 : x.i = 0
    · obtain ⟨y1, y2⟩ := x3 h0
      have hz : (regOf pages (s.own.take x.i)).M = [] := by rw [h0]; rfl
      rw [hz] at hk hl
      simp [mgM, mgetT, mget] at hk hl
      rw [y2]
      have : k = 0 := hk.symm
      subst this
      have : L = 1 := by omega
      subst this
      rw [if_pos (by simp; omega)]
      simp
    · obtain ⟨y1, y2⟩ := x4 (by omega)
      have hc0 := ht.cap (by omega)
      rw [y2]
      cases hm : mgM (regOf pages (s.own.take x.i)).M p.2 with
      | some k' =>
        rw [hm] at hk hl
        simp at hk hl
        have := ht.mq _ (mget_mem hm)
        simp only at this
        rw [← hk]
        split <;> omega
      | none =>
        rw [hm] at hk hl
        simp at hk hl
        split <;> omega
theorem ok4 : vc4 := by
  rw [vc4_is]
  intro g h1 h2
  have hp := rst_in (n := g.pages) (lo := 2) (hi := 64) (by omega)
  generalize rst g.pages 2 64 = pages at *
  have hs := taken_all_good pages g.l
  refine ⟨fun h => by simp at h, fun _ => ⟨⟨by omega⟩, ⟨by omega⟩, ⟨by omega⟩, ⟨by omega⟩, ⟨by omega⟩, fun r hr => ⟨fun h => by simp at h, fun _ => ?_⟩⟩⟩
  have hr := hr.out
  subst hr
  generalize takenF pages g.l = s at *
  have hlen := hs.len
  have hwl := hs.wl
  have hsl := hs.sl
  refine ⟨⟨⟨0, -1, pages, []⟩, ⟨by simp [ApAt.ok, Reg.gs, regOf]⟩, rfl, rfl, rfl, rfl⟩, fun x hx => ?_⟩
  have hx := hx.out
  have hxi := hx.1
  have hreg : s.r = regOf pages (s.own.take s.own.length) := by rw [List.take_length]; exact hs.reg
  have hall := taken_at hs _ (Nat.le_refl s.own.length)
  rw [← hreg] at hall
  have hok : s.r.ok := hs.fine.ok (Nat.le_refl _) (by rw [hall.pg]; omega) (by rw [hall.pg]; omega)
  have hx2 := hx.2
  simp only [holds_iff, splitB_iff, decide_eq_true_eq, decide_eq_false_iff_not, hok]
  have hn : (↑x.i : Int).toNat = x.i := by omega
  rw [hn]
  refine ⟨fun hi => ?_, fun hi => ?_⟩
  · have hi : x.i < s.own.length := by omega
    obtain ⟨p, hpp⟩ : ∃ p, s.own[x.i]? = some p := ⟨_, List.getElem?_eq_getElem hi⟩
    have ht := taken_at hs x.i hxi
    obtain ⟨n1, n2, n3, n4, n5, n6⟩ := taken_next hs hpp ht
    have a1 : s.own.getD x.i (0, 0) = p := by simp [List.getD, hpp]
    have a2 : s.wh.getD x.i (0, 0) = wh x.i := by simp [List.getD, n2]
    generalize hk : (mgM (regOf pages (s.own.take x.i)).M p.2).getD (regOf pages (s.own.take x.i)).M.length = k at *
    have a3 : s.sm.getD x.i (0, 0) = sm pages k := by simp [List.getD, n4]
    rw [a1, a2, a3]
    have hgs := gs_get ht.pg p.2
    rw [← hx2.1] at hgs
    have hG : mgetT TI64 TSlot x.G p.2 = (mgM (regOf pages (s.own.take x.i)).M p.2).map (sm pages) := hgs
    have hge := hall.ge x.i p hi hpp
    obtain ⟨k', m1, m2, m3, m4⟩ := hall.gm x.i p hi hpp
    have hkk : sm pages k' = sm pages k := by rw [n4] at m4; exact (Option.some.inj m4).symm
    have hfind : s.r.find p.1 = ⟨wh x.i, p.2, sm pages k, 0⟩ := by
      unfold Reg.find
      rw [hge]
      simp only
      rw [m1, hall.pg]
      simp [hkk]
    have hgroup : s.r.group p.2 = ⟨sm pages k, (0, 0), 0⟩ := by
      unfold Reg.group
      rw [m1]
      simp only
      rw [hall.pg, hkk]
    have w1 : IntKind.i64.wrap ((x.i : Int).tdiv 31) = (wh x.i).1 := by rw [tdiv_pos (by omega), wrap64 (by omega) (by omega)]; rfl
    have w2 : (x.i : Int).tmod 31 = (wh x.i).2 := by rw [tmod_pos (by omega)]; rfl
    have hMl : (regOf pages (s.own.take x.i)).M.length ≤ 3000 := by
      have : ∀ (l : List (Int × Int)) (r : Reg), (l.foldl (fun r p => r.add p.1 p.2) r).M.length ≤ r.M.length + l.length := by
        intro l
        induction l with
        | nil => intro r; simp
        | cons q l ih =>
          intro r
          rw [List.foldl_cons]
          have h1 := ih (r.add q.1 q.2)
          have h2 : (r.add q.1 q.2).M.length ≤ r.M.length + 1 := by
            show (if (mgM r.M q.2).isSome then r.M else msM r.M q.2 r.M.length).length ≤ _
            split
            · omega
            · exact mset_len (q := .i64) (v := TI64)
          simp only [List.length_cons]; omega
      have := this (s.own.take x.i) ⟨pages, [], []⟩
      have e : (s.own.take x.i).length ≤ s.own.length := by rw [List.length_take]; omega
      unfold regOf
      simp only [List.length_nil] at this
      omega
    have hGl : x.G.length ≤ 3000 := by rw [hx2.1]; simpa [Reg.gs] using hMl
    have hmax : maxLen = 9223372036854775807 := by decide
    have again : ∃ y : ApAt, ApAt.ok pages s y ∧ s.own.length - y.i < s.own.length - x.i ∧ IntKind.i64.wrap ((x.i : Int) + 1) = (y.i : Int) ∧ (wh x.i).1 = y.low ∧ (if (sm pages k).1 < x.high then (sm pages k).1 else x.high) = y.high ∧ msetT TI64 TSlot x.G p.2 (sm pages k) = y.G := by
      refine ⟨_, apart_step hs hp hx hpp hk, (by show s.own.length - (x.i + 1) < _; omega), ?_, rfl, rfl, rfl⟩
      rw [wrap64 (by omega) (by omega)]; rfl
    rw [w1, w2, hfind, hgroup]
    have t : (∃ y : ApAt, ApAt.ok pages s y ∧ s.own.length - y.i < s.own.length - x.i ∧ IntKind.i64.wrap ((x.i : Int) + 1) = (y.i : Int) ∧ (wh x.i).1 = y.low ∧ (if (sm pages k).1 < x.high then (sm pages k).1 else x.high) = y.high ∧ msetT TI64 TSlot x.G p.2 (sm pages k) = y.G) ↔ True := ⟨fun _ => trivial, fun _ => again⟩
    rw [hG]
    simp only [t, beq_self_eq_true, Bool.and_self, Bool.not_true, bne_self_eq_false, Bool.false_eq_true, false_implies, true_implies, true_and, and_true, ne_eq]
    cases hm : mgM (regOf pages (s.own.take x.i)).M p.2 with
    | some k0 =>
      rw [hm] at hk
      simp at hk
      subst hk
      simp
      omega
    | none =>
      rw [hm] at hk
      simp at hk
      have w3 : IntKind.i64.wrap (IntKind.i64.wrap (pages - 1) - IntKind.i64.wrap ((x.G.length : Int).tdiv 84)) = (sm pages k).1 := by
        rw [tdiv_pos (by omega), wrap64 (n := pages - 1) (by omega) (by omega), wrap64 (n := (x.G.length : Int) / 84) (by omega) (by omega), wrap64 (by omega) (by omega), ← hk]
        have : x.G.length = (regOf pages (s.own.take x.i)).M.length := by rw [hx2.1]; simp [Reg.gs]
        rw [this]; rfl
      have w4 : (x.G.length : Int).tmod 84 = (sm pages k).2 := by
        rw [tmod_pos (by omega), ← hk]
        have : x.G.length = (regOf pages (s.own.take x.i)).M.length := by rw [hx2.1]; simp [Reg.gs]
        rw [this]; rfl
      rw [w3, w4]
      simp
      omega
  · have hi : x.i = s.own.length := by omega
    have hE : ((rising (keysOf s.r.E)).length : Int) = s.own.length := by
      have := (List.mergeSort_perm (keysOf s.r.E) (fun a b => decide (a ≤ b))).length_eq
      unfold rising
      rw [this]
      simp only [keysOf, List.length_map]
      rw [hall.el]
    have hM : ((rising (keysOf s.r.M)).length : Int) = x.G.length := by
      have := (List.mergeSort_perm (keysOf s.r.M) (fun a b => decide (a ≤ b))).length_eq
      unfold rising
      rw [this, hx2.1, hi, ← hreg]
      simp [keysOf, Reg.gs]
    rw [hE, hM]
    have hlt : x.low < x.high ∧ x.high ≥ 0 := by
      by_cases h0 : x.i = 0
      · obtain ⟨y1, y2⟩ := hx2.2.1 h0
        omega
      · obtain ⟨y1, y2⟩ := hx2.2.2 (by omega)
        obtain ⟨c1, c2⟩ := hall.cap (by omega)
        rw [hi, ← hreg] at y2
        rw [hi] at y1
        unfold nd at c2
        omega
    simp [hlt.1, hlt.2]

def vc5 : Prop := vc Try.f5.body Try.f5.results Try.f5.ntmps [(7, some sp7), (11, some sp11), (12, some sp12), (18, some sp18), (15, some sp15), (19, some sp19n), (20, some sp20), (13, some sp13), (16, some sp16), (17, some sp17), (21, some sp21)] sp5 ann5
theorem vc5_is : vc5 = (
∀ (g : SmArg), Holds (InR IntKind.i64 g.pages) → Holds (kS.slice.ok g.l) → Holds (kS.slice.ok g.ask) → Holds (InR IntKind.i64 g.odd.fst) → Holds (InR IntKind.i64 g.odd.snd) → SplitB (!true) (false = true) (Holds ((0 : Int) ≤ (2 : Int)) ∧ Holds ((2 : Int) ≤ (64 : Int)) ∧ Holds ((64 : Int) ≤ (1000000 : Int)) ∧ Holds ((2 : Int) ≤ rst g.pages (2 : Int) (64 : Int)) ∧ Holds (rst g.pages (2 : Int) (64 : Int) ≤ (64 : Int)) ∧ ∀ (r : Tk), Holds (r = takenF (rst g.pages (2 : Int) (64 : Int)) g.l) → (∀ (r : Unit), Holds ¬((2 : Int) ≤ rst g.pages (2 : Int) (64 : Int) ∧ rst g.pages (2 : Int) (64 : Int) ≤ (64 : Int)) → SplitB (!true) (false = true) (false = true)) ∧ ∀ (r_1 : Unit), Holds ((2 : Int) ≤ rst g.pages (2 : Int) (64 : Int) ∧ rst g.pages (2 : Int) (64 : Int) ≤ (64 : Int)) → SplitB (!true) (false = true) (SplitB ((0 : Int) != (0 : Int)) (false = true) ((∃ (x : QAt), Holds (x.i ≤ (takenF (rst g.pages (2 : Int) (64 : Int)) g.l).own.length ∧ { pages := rst g.pages (2 : Int) (64 : Int), E := x.E, M := x.M : Reg } = regOf (rst g.pages (2 : Int) (64 : Int)) (List.take x.i (takenF (rst g.pages (2 : Int) (64 : Int)) g.l).own)) ∧ (0 : Int) = (↑x.i : Int) ∧ nilT (Int × Int × Int) = x.E ∧ nilT (Int × Int) = x.M) ∧ ∀ (x : QAt), Holds (x.i ≤ (takenF (rst g.pages (2 : Int) (64 : Int)) g.l).own.length ∧ { pages := rst g.pages (2 : Int) (64 : Int), E := x.E, M := x.M : Reg } = regOf (rst g.pages (2 : Int) (64 : Int)) (List.take x.i (takenF (rst g.pages (2 : Int) (64 : Int)) g.l).own)) → SplitB (decide ((↑x.i : Int) < (↑r.own.length : Int))) (Holds ((0 : Int) ≤ (↑x.i : Int)) ∧ Holds ((↑x.i : Int) < (↑r.wh.length : Int)) ∧ Holds ((↑x.i : Int).toNat < r.wh.length) ∧ SplitB (!(g.odd.fst == (r.wh.getD (↑x.i : Int).toNat ((0 : Int), (0 : Int))).fst && g.odd.snd == (r.wh.getD (↑x.i : Int).toNat ((0 : Int), (0 : Int))).snd)) (Holds ((0 : Int) ≤ (↑x.i : Int)) ∧ Holds ((↑x.i : Int) < (↑r.own.length : Int)) ∧ Holds ((↑x.i : Int).toNat < r.own.length) ∧ Holds ((0 : Int) ≤ (↑x.i : Int)) ∧ Holds ((↑x.i : Int) < (↑r.own.length : Int)) ∧ Holds ((↑x.i : Int).toNat < r.own.length) ∧ Holds ((0 : Int) ≤ (↑x.i : Int)) ∧ Holds ((↑x.i : Int) < (↑r.sm.length : Int)) ∧ Holds ((↑x.i : Int).toNat < r.sm.length) ∧ Holds { pages := rst g.pages (2 : Int) (64 : Int), E := x.E, M := x.M : Reg }.ok ∧ ∀ (r_2 : TakeOut), Holds (r_2 = { e := { pages := rst g.pages (2 : Int) (64 : Int), E := x.E, M := x.M : Reg }.takeE (r.own.getD (↑x.i : Int).toNat ((0 : Int), (0 : Int))).fst (r.own.getD (↑x.i : Int).toNat ((0 : Int), (0 : Int))).snd g.odd (r.sm.getD (↑x.i : Int).toNat ((0 : Int), (0 : Int))), r := { pages := rst g.pages (2 : Int) (64 : Int), E := x.E, M := x.M : Reg }.take (r.own.getD (↑x.i : Int).toNat ((0 : Int), (0 : Int))).fst (r.own.getD (↑x.i : Int).toNat ((0 : Int), (0 : Int))).snd g.odd (r.sm.getD (↑x.i : Int).toNat ((0 : Int), (0 : Int))) : TakeOut }) → SplitB (r_2.e != (83 : Int)) (false = true) (Holds ((0 : Int) ≤ (↑x.i : Int)) ∧ Holds ((↑x.i : Int) < (↑r.sm.length : Int)) ∧ Holds ((↑x.i : Int).toNat < r.sm.length) ∧ SplitB (!(g.odd.fst == (r.sm.getD (↑x.i : Int).toNat ((0 : Int), (0 : Int))).fst && g.odd.snd == (r.sm.getD (↑x.i : Int).toNat ((0 : Int), (0 : Int))).snd)) (Holds ((0 : Int) ≤ (↑x.i : Int)) ∧ Holds ((↑x.i : Int) < (↑r.own.length : Int)) ∧ Holds ((↑x.i : Int).toNat < r.own.length) ∧ Holds ((0 : Int) ≤ (↑x.i : Int)) ∧ Holds ((↑x.i : Int) < (↑r.own.length : Int)) ∧ Holds ((↑x.i : Int).toNat < r.own.length) ∧ Holds ((0 : Int) ≤ (↑x.i : Int)) ∧ Holds ((↑x.i : Int) < (↑r.wh.length : Int)) ∧ Holds ((↑x.i : Int).toNat < r.wh.length) ∧ Holds { pages := rst g.pages (2 : Int) (64 : Int), E := r_2.r.E, M := r_2.r.M : Reg }.ok ∧ ∀ (r_3 : TakeOut), Holds (r_3 = { e := { pages := rst g.pages (2 : Int) (64 : Int), E := r_2.r.E, M := r_2.r.M : Reg }.takeE (r.own.getD (↑x.i : Int).toNat ((0 : Int), (0 : Int))).fst (r.own.getD (↑x.i : Int).toNat ((0 : Int), (0 : Int))).snd (r.wh.getD (↑x.i : Int).toNat ((0 : Int), (0 : Int))) g.odd, r := { pages := rst g.pages (2 : Int) (64 : Int), E := r_2.r.E, M := r_2.r.M : Reg }.take (r.own.getD (↑x.i : Int).toNat ((0 : Int), (0 : Int))).fst (r.own.getD (↑x.i : Int).toNat ((0 : Int), (0 : Int))).snd (r.wh.getD (↑x.i : Int).toNat ((0 : Int), (0 : Int))) g.odd : TakeOut }) → SplitB (r_3.e != (83 : Int)) (false = true) (Holds ((0 : Int) ≤ (↑x.i : Int)) ∧ Holds ((↑x.i : Int) < (↑r.own.length : Int)) ∧ Holds ((↑x.i : Int).toNat < r.own.length) ∧ Holds ((0 : Int) ≤ (↑x.i : Int)) ∧ Holds ((↑x.i : Int) < (↑r.own.length : Int)) ∧ Holds ((↑x.i : Int).toNat < r.own.length) ∧ Holds ((0 : Int) ≤ (↑x.i : Int)) ∧ Holds ((↑x.i : Int) < (↑r.wh.length : Int)) ∧ Holds ((↑x.i : Int).toNat < r.wh.length) ∧ Holds ((0 : Int) ≤ (↑x.i : Int)) ∧ Holds ((↑x.i : Int) < (↑r.sm.length : Int)) ∧ Holds ((↑x.i : Int).toNat < r.sm.length) ∧ Holds { pages := rst g.pages (2 : Int) (64 : Int), E := r_3.r.E, M := r_3.r.M : Reg }.ok ∧ ∀ (r_4 : TakeOut), Holds (r_4 = { e := { pages := rst g.pages (2 : Int) (64 : Int), E := r_3.r.E, M := r_3.r.M : Reg }.takeE (r.own.getD (↑x.i : Int).toNat ((0 : Int), (0 : Int))).fst (r.own.getD (↑x.i : Int).toNat ((0 : Int), (0 : Int))).snd (r.wh.getD (↑x.i : Int).toNat ((0 : Int), (0 : Int))) (r.sm.getD (↑x.i : Int).toNat ((0 : Int), (0 : Int))), r := { pages := rst g.pages (2 : Int) (64 : Int), E := r_3.r.E, M := r_3.r.M : Reg }.take (r.own.getD (↑x.i : Int).toNat ((0 : Int), (0 : Int))).fst (r.own.getD (↑x.i : Int).toNat ((0 : Int), (0 : Int))).snd (r.wh.getD (↑x.i : Int).toNat ((0 : Int), (0 : Int))) (r.sm.getD (↑x.i : Int).toNat ((0 : Int), (0 : Int))) : TakeOut }) → SplitB (r_4.e != (0 : Int)) (false = true) (Holds ((0 : Int) ≤ (↑x.i : Int)) ∧ Holds ((↑x.i : Int) < (↑r.own.length : Int)) ∧ Holds ((↑x.i : Int).toNat < r.own.length) ∧ Holds ((0 : Int) ≤ (↑x.i : Int)) ∧ Holds ((↑x.i : Int) < (↑r.own.length : Int)) ∧ Holds ((↑x.i : Int).toNat < r.own.length) ∧ Holds ((0 : Int) ≤ (↑x.i : Int)) ∧ Holds ((↑x.i : Int) < (↑r.wh.length : Int)) ∧ Holds ((↑x.i : Int).toNat < r.wh.length) ∧ Holds ((0 : Int) ≤ (↑x.i : Int)) ∧ Holds ((↑x.i : Int) < (↑r.sm.length : Int)) ∧ Holds ((↑x.i : Int).toNat < r.sm.length) ∧ Holds { pages := rst g.pages (2 : Int) (64 : Int), E := r_4.r.E, M := r_4.r.M : Reg }.ok ∧ ∀ (r_5 : TakeOut), Holds (r_5 = { e := { pages := rst g.pages (2 : Int) (64 : Int), E := r_4.r.E, M := r_4.r.M : Reg }.takeE (r.own.getD (↑x.i : Int).toNat (Int.ofNat (nat_lit 0), Int.ofNat (nat_lit 0))).fst (r.own.getD (↑x.i : Int).toNat (Int.ofNat (nat_lit 0), Int.ofNat (nat_lit 0))).snd (r.wh.getD (↑x.i : Int).toNat (Int.ofNat (nat_lit 0), Int.ofNat (nat_lit 0))) (r.sm.getD (↑x.i : Int).toNat (Int.ofNat (nat_lit 0), Int.ofNat (nat_lit 0))), r := { pages := rst g.pages (2 : Int) (64 : Int), E := r_4.r.E, M := r_4.r.M : Reg }.take (r.own.getD (↑x.i : Int).toNat (Int.ofNat (nat_lit 0), Int.ofNat (nat_lit 0))).fst (r.own.getD (↑x.i : Int).toNat (Int.ofNat (nat_lit 0), Int.ofNat (nat_lit 0))).snd (r.wh.getD (↑x.i : Int).toNat (Int.ofNat (nat_lit 0), Int.ofNat (nat_lit 0))) (r.sm.getD (↑x.i : Int).toNat (Int.ofNat (nat_lit 0), Int.ofNat (nat_lit 0))) : TakeOut }) → SplitB (r_5.e != (121 : Int)) (false = true) (∃ (y : QAt), Holds (y.i ≤ (takenF (rst g.pages (2 : Int) (64 : Int)) g.l).own.length ∧ { pages := rst g.pages (2 : Int) (64 : Int), E := y.E, M := y.M : Reg } = regOf (rst g.pages (2 : Int) (64 : Int)) (List.take y.i (takenF (rst g.pages (2 : Int) (64 : Int)) g.l).own)) ∧ Holds ((takenF (rst g.pages (2 : Int) (64 : Int)) g.l).own.length - y.i < (takenF (rst g.pages (2 : Int) (64 : Int)) g.l).own.length - x.i) ∧ IntKind.i64.wrap ((↑x.i : Int) + (1 : Int)) = (↑y.i : Int) ∧ r_5.r.E = y.E ∧ r_5.r.M = y.M)))) (Holds ((0 : Int) ≤ (↑x.i : Int)) ∧ Holds ((↑x.i : Int) < (↑r.own.length : Int)) ∧ Holds ((↑x.i : Int).toNat < r.own.length) ∧ Holds ((0 : Int) ≤ (↑x.i : Int)) ∧ Holds ((↑x.i : Int) < (↑r.own.length : Int)) ∧ Holds ((↑x.i : Int).toNat < r.own.length) ∧ Holds ((0 : Int) ≤ (↑x.i : Int)) ∧ Holds ((↑x.i : Int) < (↑r.wh.length : Int)) ∧ Holds ((↑x.i : Int).toNat < r.wh.length) ∧ Holds ((0 : Int) ≤ (↑x.i : Int)) ∧ Holds ((↑x.i : Int) < (↑r.sm.length : Int)) ∧ Holds ((↑x.i : Int).toNat < r.sm.length) ∧ Holds { pages := rst g.pages (2 : Int) (64 : Int), E := r_2.r.E, M := r_2.r.M : Reg }.ok ∧ ∀ (r_3 : TakeOut), Holds (r_3 = { e := { pages := rst g.pages (2 : Int) (64 : Int), E := r_2.r.E, M := r_2.r.M : Reg }.takeE (r.own.getD (↑x.i : Int).toNat ((0 : Int), (0 : Int))).fst (r.own.getD (↑x.i : Int).toNat ((0 : Int), (0 : Int))).snd (r.wh.getD (↑x.i : Int).toNat ((0 : Int), (0 : Int))) (r.sm.getD (↑x.i : Int).toNat ((0 : Int), (0 : Int))), r := { pages := rst g.pages (2 : Int) (64 : Int), E := r_2.r.E, M := r_2.r.M : Reg }.take (r.own.getD (↑x.i : Int).toNat ((0 : Int), (0 : Int))).fst (r.own.getD (↑x.i : Int).toNat ((0 : Int), (0 : Int))).snd (r.wh.getD (↑x.i : Int).toNat ((0 : Int), (0 : Int))) (r.sm.getD (↑x.i : Int).toNat ((0 : Int), (0 : Int))) : TakeOut }) → SplitB (r_3.e != (0 : Int)) (false = true) (Holds ((0 : Int) ≤ (↑x.i : Int)) ∧ Holds ((↑x.i : Int) < (↑r.own.length : Int)) ∧ Holds ((↑x.i : Int).toNat < r.own.length) ∧ Holds ((0 : Int) ≤ (↑x.i : Int)) ∧ Holds ((↑x.i : Int) < (↑r.own.length : Int)) ∧ Holds ((↑x.i : Int).toNat < r.own.length) ∧ Holds ((0 : Int) ≤ (↑x.i : Int)) ∧ Holds ((↑x.i : Int) < (↑r.wh.length : Int)) ∧ Holds ((↑x.i : Int).toNat < r.wh.length) ∧ Holds ((0 : Int) ≤ (↑x.i : Int)) ∧ Holds ((↑x.i : Int) < (↑r.sm.length : Int)) ∧ Holds ((↑x.i : Int).toNat < r.sm.length) ∧ Holds { pages := rst g.pages (2 : Int) (64 : Int), E := r_3.r.E, M := r_3.r.M : Reg }.ok ∧ ∀ (r_4 : TakeOut), Holds (r_4 = { e := { pages := rst g.pages (2 : Int) (64 : Int), E := r_3.r.E, M := r_3.r.M : Reg }.takeE (r.own.getD (↑x.i : Int).toNat ((0 : Int), (0 : Int))).fst (r.own.getD (↑x.i : Int).toNat ((0 : Int), (0 : Int))).snd (r.wh.getD (↑x.i : Int).toNat ((0 : Int), (0 : Int))) (r.sm.getD (↑x.i : Int).toNat ((0 : Int), (0 : Int))), r := { pages := rst g.pages (2 : Int) (64 : Int), E := r_3.r.E, M := r_3.r.M : Reg }.take (r.own.getD (↑x.i : Int).toNat ((0 : Int), (0 : Int))).fst (r.own.getD (↑x.i : Int).toNat ((0 : Int), (0 : Int))).snd (r.wh.getD (↑x.i : Int).toNat ((0 : Int), (0 : Int))) (r.sm.getD (↑x.i : Int).toNat ((0 : Int), (0 : Int))) : TakeOut }) → SplitB (r_4.e != (121 : Int)) (false = true) (∃ (y : QAt), Holds (y.i ≤ (takenF (rst g.pages (2 : Int) (64 : Int)) g.l).own.length ∧ { pages := rst g.pages (2 : Int) (64 : Int), E := y.E, M := y.M : Reg } = regOf (rst g.pages (2 : Int) (64 : Int)) (List.take y.i (takenF (rst g.pages (2 : Int) (64 : Int)) g.l).own)) ∧ Holds ((takenF (rst g.pages (2 : Int) (64 : Int)) g.l).own.length - y.i < (takenF (rst g.pages (2 : Int) (64 : Int)) g.l).own.length - x.i) ∧ IntKind.i64.wrap ((↑x.i : Int) + (1 : Int)) = (↑y.i : Int) ∧ r_4.r.E = y.E ∧ r_4.r.M = y.M))))) (Holds ((0 : Int) ≤ (↑x.i : Int)) ∧ Holds ((↑x.i : Int) < (↑r.sm.length : Int)) ∧ Holds ((↑x.i : Int).toNat < r.sm.length) ∧ SplitB (!(g.odd.fst == (r.sm.getD (↑x.i : Int).toNat ((0 : Int), (0 : Int))).fst && g.odd.snd == (r.sm.getD (↑x.i : Int).toNat ((0 : Int), (0 : Int))).snd)) (Holds ((0 : Int) ≤ (↑x.i : Int)) ∧ Holds ((↑x.i : Int) < (↑r.own.length : Int)) ∧ Holds ((↑x.i : Int).toNat < r.own.length) ∧ Holds ((0 : Int) ≤ (↑x.i : Int)) ∧ Holds ((↑x.i : Int) < (↑r.own.length : Int)) ∧ Holds ((↑x.i : Int).toNat < r.own.length) ∧ Holds ((0 : Int) ≤ (↑x.i : Int)) ∧ Holds ((↑x.i : Int) < (↑r.wh.length : Int)) ∧ Holds ((↑x.i : Int).toNat < r.wh.length) ∧ Holds { pages := rst g.pages (2 : Int) (64 : Int), E := x.E, M := x.M : Reg }.ok ∧ ∀ (r_2 : TakeOut), Holds (r_2 = { e := { pages := rst g.pages (2 : Int) (64 : Int), E := x.E, M := x.M : Reg }.takeE (r.own.getD (↑x.i : Int).toNat ((0 : Int), (0 : Int))).fst (r.own.getD (↑x.i : Int).toNat ((0 : Int), (0 : Int))).snd (r.wh.getD (↑x.i : Int).toNat ((0 : Int), (0 : Int))) g.odd, r := { pages := rst g.pages (2 : Int) (64 : Int), E := x.E, M := x.M : Reg }.take (r.own.getD (↑x.i : Int).toNat ((0 : Int), (0 : Int))).fst (r.own.getD (↑x.i : Int).toNat ((0 : Int), (0 : Int))).snd (r.wh.getD (↑x.i : Int).toNat ((0 : Int), (0 : Int))) g.odd : TakeOut }) → SplitB (r_2.e != (83 : Int)) (false = true) (Holds ((0 : Int) ≤ (↑x.i : Int)) ∧ Holds ((↑x.i : Int) < (↑r.own.length : Int)) ∧ Holds ((↑x.i : Int).toNat < r.own.length) ∧ Holds ((0 : Int) ≤ (↑x.i : Int)) ∧ Holds ((↑x.i : Int) < (↑r.own.length : Int)) ∧ Holds ((↑x.i : Int).toNat < r.own.length) ∧ Holds ((0 : Int) ≤ (↑x.i : Int)) ∧ Holds ((↑x.i : Int) < (↑r.wh.length : Int)) ∧ Holds ((↑x.i : Int).toNat < r.wh.length) ∧ Holds ((0 : Int) ≤ (↑x.i : Int)) ∧ Holds ((↑x.i : Int) < (↑r.sm.length : Int)) ∧ Holds ((↑x.i : Int).toNat < r.sm.length) ∧ Holds { pages := rst g.pages (2 : Int) (64 : Int), E := r_2.r.E, M := r_2.r.M : Reg }.ok ∧ ∀ (r_3 : TakeOut), Holds (r_3 = { e := { pages := rst g.pages (2 : Int) (64 : Int), E := r_2.r.E, M := r_2.r.M : Reg }.takeE (r.own.getD (↑x.i : Int).toNat ((0 : Int), (0 : Int))).fst (r.own.getD (↑x.i : Int).toNat ((0 : Int), (0 : Int))).snd (r.wh.getD (↑x.i : Int).toNat ((0 : Int), (0 : Int))) (r.sm.getD (↑x.i : Int).toNat ((0 : Int), (0 : Int))), r := { pages := rst g.pages (2 : Int) (64 : Int), E := r_2.r.E, M := r_2.r.M : Reg }.take (r.own.getD (↑x.i : Int).toNat ((0 : Int), (0 : Int))).fst (r.own.getD (↑x.i : Int).toNat ((0 : Int), (0 : Int))).snd (r.wh.getD (↑x.i : Int).toNat ((0 : Int), (0 : Int))) (r.sm.getD (↑x.i : Int).toNat ((0 : Int), (0 : Int))) : TakeOut }) → SplitB (r_3.e != (0 : Int)) (false = true) (Holds ((0 : Int) ≤ (↑x.i : Int)) ∧ Holds ((↑x.i : Int) < (↑r.own.length : Int)) ∧ Holds ((↑x.i : Int).toNat < r.own.length) ∧ Holds ((0 : Int) ≤ (↑x.i : Int)) ∧ Holds ((↑x.i : Int) < (↑r.own.length : Int)) ∧ Holds ((↑x.i : Int).toNat < r.own.length) ∧ Holds ((0 : Int) ≤ (↑x.i : Int)) ∧ Holds ((↑x.i : Int) < (↑r.wh.length : Int)) ∧ Holds ((↑x.i : Int).toNat < r.wh.length) ∧ Holds ((0 : Int) ≤ (↑x.i : Int)) ∧ Holds ((↑x.i : Int) < (↑r.sm.length : Int)) ∧ Holds ((↑x.i : Int).toNat < r.sm.length) ∧ Holds { pages := rst g.pages (2 : Int) (64 : Int), E := r_3.r.E, M := r_3.r.M : Reg }.ok ∧ ∀ (r_4 : TakeOut), Holds (r_4 = { e := { pages := rst g.pages (2 : Int) (64 : Int), E := r_3.r.E, M := r_3.r.M : Reg }.takeE (r.own.getD (↑x.i : Int).toNat ((0 : Int), (0 : Int))).fst (r.own.getD (↑x.i : Int).toNat ((0 : Int), (0 : Int))).snd (r.wh.getD (↑x.i : Int).toNat ((0 : Int), (0 : Int))) (r.sm.getD (↑x.i : Int).toNat ((0 : Int), (0 : Int))), r := { pages := rst g.pages (2 : Int) (64 : Int), E := r_3.r.E, M := r_3.r.M : Reg }.take (r.own.getD (↑x.i : Int).toNat ((0 : Int), (0 : Int))).fst (r.own.getD (↑x.i : Int).toNat ((0 : Int), (0 : Int))).snd (r.wh.getD (↑x.i : Int).toNat ((0 : Int), (0 : Int))) (r.sm.getD (↑x.i : Int).toNat ((0 : Int), (0 : Int))) : TakeOut }) → SplitB (r_4.e != (121 : Int)) (false = true) (∃ (y : QAt), Holds (y.i ≤ (takenF (rst g.pages (2 : Int) (64 : Int)) g.l).own.length ∧ { pages := rst g.pages (2 : Int) (64 : Int), E := y.E, M := y.M : Reg } = regOf (rst g.pages (2 : Int) (64 : Int)) (List.take y.i (takenF (rst g.pages (2 : Int) (64 : Int)) g.l).own)) ∧ Holds ((takenF (rst g.pages (2 : Int) (64 : Int)) g.l).own.length - y.i < (takenF (rst g.pages (2 : Int) (64 : Int)) g.l).own.length - x.i) ∧ IntKind.i64.wrap ((↑x.i : Int) + (1 : Int)) = (↑y.i : Int) ∧ r_4.r.E = y.E ∧ r_4.r.M = y.M)))) (Holds ((0 : Int) ≤ (↑x.i : Int)) ∧ Holds ((↑x.i : Int) < (↑r.own.length : Int)) ∧ Holds ((↑x.i : Int).toNat < r.own.length) ∧ Holds ((0 : Int) ≤ (↑x.i : Int)) ∧ Holds ((↑x.i : Int) < (↑r.own.length : Int)) ∧ Holds ((↑x.i : Int).toNat < r.own.length) ∧ Holds ((0 : Int) ≤ (↑x.i : Int)) ∧ Holds ((↑x.i : Int) < (↑r.wh.length : Int)) ∧ Holds ((↑x.i : Int).toNat < r.wh.length) ∧ Holds ((0 : Int) ≤ (↑x.i : Int)) ∧ Holds ((↑x.i : Int) < (↑r.sm.length : Int)) ∧ Holds ((↑x.i : Int).toNat < r.sm.length) ∧ Holds { pages := rst g.pages (2 : Int) (64 : Int), E := x.E, M := x.M : Reg }.ok ∧ ∀ (r_2 : TakeOut), Holds (r_2 = { e := { pages := rst g.pages (2 : Int) (64 : Int), E := x.E, M := x.M : Reg }.takeE (r.own.getD (↑x.i : Int).toNat ((0 : Int), (0 : Int))).fst (r.own.getD (↑x.i : Int).toNat ((0 : Int), (0 : Int))).snd (r.wh.getD (↑x.i : Int).toNat ((0 : Int), (0 : Int))) (r.sm.getD (↑x.i : Int).toNat ((0 : Int), (0 : Int))), r := { pages := rst g.pages (2 : Int) (64 : Int), E := x.E, M := x.M : Reg }.take (r.own.getD (↑x.i : Int).toNat ((0 : Int), (0 : Int))).fst (r.own.getD (↑x.i : Int).toNat ((0 : Int), (0 : Int))).snd (r.wh.getD (↑x.i : Int).toNat ((0 : Int), (0 : Int))) (r.sm.getD (↑x.i : Int).toNat ((0 : Int), (0 : Int))) : TakeOut }) → SplitB (r_2.e != (0 : Int)) (false = true) (Holds ((0 : Int) ≤ (↑x.i : Int)) ∧ Holds ((↑x.i : Int) < (↑r.own.length : Int)) ∧ Holds ((↑x.i : Int).toNat < r.own.length) ∧ Holds ((0 : Int) ≤ (↑x.i : Int)) ∧ Holds ((↑x.i : Int) < (↑r.own.length : Int)) ∧ Holds ((↑x.i : Int).toNat < r.own.length) ∧ Holds ((0 : Int) ≤ (↑x.i : Int)) ∧ Holds ((↑x.i : Int) < (↑r.wh.length : Int)) ∧ Holds ((↑x.i : Int).toNat < r.wh.length) ∧ Holds ((0 : Int) ≤ (↑x.i : Int)) ∧ Holds ((↑x.i : Int) < (↑r.sm.length : Int)) ∧ Holds ((↑x.i : Int).toNat < r.sm.length) ∧ Holds { pages := rst g.pages (2 : Int) (64 : Int), E := r_2.r.E, M := r_2.r.M : Reg }.ok ∧ ∀ (r_3 : TakeOut), Holds (r_3 = { e := { pages := rst g.pages (2 : Int) (64 : Int), E := r_2.r.E, M := r_2.r.M : Reg }.takeE (r.own.getD (↑x.i : Int).toNat ((0 : Int), (0 : Int))).fst (r.own.getD (↑x.i : Int).toNat ((0 : Int), (0 : Int))).snd (r.wh.getD (↑x.i : Int).toNat ((0 : Int), (0 : Int))) (r.sm.getD (↑x.i : Int).toNat ((0 : Int), (0 : Int))), r := { pages := rst g.pages (2 : Int) (64 : Int), E := r_2.r.E, M := r_2.r.M : Reg }.take (r.own.getD (↑x.i : Int).toNat ((0 : Int), (0 : Int))).fst (r.own.getD (↑x.i : Int).toNat ((0 : Int), (0 : Int))).snd (r.wh.getD (↑x.i : Int).toNat ((0 : Int), (0 : Int))) (r.sm.getD (↑x.i : Int).toNat ((0 : Int), (0 : Int))) : TakeOut }) → SplitB (r_3.e != (121 : Int)) (false = true) (∃ (y : QAt), Holds (y.i ≤ (takenF (rst g.pages (2 : Int) (64 : Int)) g.l).own.length ∧ { pages := rst g.pages (2 : Int) (64 : Int), E := y.E, M := y.M : Reg } = regOf (rst g.pages (2 : Int) (64 : Int)) (List.take y.i (takenF (rst g.pages (2 : Int) (64 : Int)) g.l).own)) ∧ Holds ((takenF (rst g.pages (2 : Int) (64 : Int)) g.l).own.length - y.i < (takenF (rst g.pages (2 : Int) (64 : Int)) g.l).own.length - x.i) ∧ IntKind.i64.wrap ((↑x.i : Int) + (1 : Int)) = (↑y.i : Int) ∧ r_3.r.E = y.E ∧ r_3.r.M = y.M))))) ((∃ (x : AskAt), Holds (x.i ≤ (200 : Nat)) ∧ (0 : Int) = (↑x.i : Int)) ∧ ∀ (x_1 : AskAt), Holds (x_1.i ≤ (200 : Nat)) → SplitB (decide ((↑x_1.i : Int) < (↑g.ask.length : Int))) (SplitB (decide ((↑x_1.i : Int) < (200 : Int))) ((Holds ((0 : Int) ≤ (↑x_1.i : Int)) ∧ Holds ((↑x_1.i : Int) < (↑g.ask.length : Int)) ∧ Holds ((↑x_1.i : Int).toNat < g.ask.length) ∧ Holds ((0 : Int) ≤ (↑x_1.i : Int)) ∧ Holds ((↑x_1.i : Int) < (↑g.ask.length : Int)) ∧ Holds ((↑x_1.i : Int).toNat < g.ask.length) ∧ (Holds r.r.ok ∧ (∃ (x : Planned), Holds (x = (takenF (rst g.pages (2 : Int) (64 : Int)) g.l).r.plan (g.ask.getD (↑x_1.i : Int).toNat ((0 : Int), (0 : Int))).fst (g.ask.getD (↑x_1.i : Int).toNat ((0 : Int), (0 : Int))).snd) ∧ (r.r.plan (g.ask.getD (↑x_1.i : Int).toNat ((0 : Int), (0 : Int))).fst (g.ask.getD (↑x_1.i : Int).toNat ((0 : Int), (0 : Int))).snd).e = x.e ∧ (r.r.plan (g.ask.getD (↑x_1.i : Int).toNat ((0 : Int), (0 : Int))).fst (g.ask.getD (↑x_1.i : Int).toNat ((0 : Int), (0 : Int))).snd).a.fst = x.a.fst ∧ (r.r.plan (g.ask.getD (↑x_1.i : Int).toNat ((0 : Int), (0 : Int))).fst (g.ask.getD (↑x_1.i : Int).toNat ((0 : Int), (0 : Int))).snd).a.snd = x.a.snd ∧ (r.r.plan (g.ask.getD (↑x_1.i : Int).toNat ((0 : Int), (0 : Int))).fst (g.ask.getD (↑x_1.i : Int).toNat ((0 : Int), (0 : Int))).snd).b.fst = x.b.fst ∧ (r.r.plan (g.ask.getD (↑x_1.i : Int).toNat ((0 : Int), (0 : Int))).fst (g.ask.getD (↑x_1.i : Int).toNat ((0 : Int), (0 : Int))).snd).b.snd = x.b.snd) ∧ ∃ (x : Planned), Holds (x = (takenF (rst g.pages (2 : Int) (64 : Int)) g.l).r.plan (g.ask.getD (↑x_1.i : Int).toNat ((0 : Int), (0 : Int))).fst (g.ask.getD (↑x_1.i : Int).toNat ((0 : Int), (0 : Int))).snd) ∧ (r.r.plan (g.ask.getD (↑x_1.i : Int).toNat ((0 : Int), (0 : Int))).fst (g.ask.getD (↑x_1.i : Int).toNat ((0 : Int), (0 : Int))).snd).e = x.e ∧ (r.r.plan (g.ask.getD (↑x_1.i : Int).toNat ((0 : Int), (0 : Int))).fst (g.ask.getD (↑x_1.i : Int).toNat ((0 : Int), (0 : Int))).snd).a.fst = x.a.fst ∧ (r.r.plan (g.ask.getD (↑x_1.i : Int).toNat ((0 : Int), (0 : Int))).fst (g.ask.getD (↑x_1.i : Int).toNat ((0 : Int), (0 : Int))).snd).a.snd = x.a.snd ∧ (r.r.plan (g.ask.getD (↑x_1.i : Int).toNat ((0 : Int), (0 : Int))).fst (g.ask.getD (↑x_1.i : Int).toNat ((0 : Int), (0 : Int))).snd).b.fst = x.b.fst ∧ (r.r.plan (g.ask.getD (↑x_1.i : Int).toNat ((0 : Int), (0 : Int))).fst (g.ask.getD (↑x_1.i : Int).toNat ((0 : Int), (0 : Int))).snd).b.snd = x.b.snd) ∧ ((Holds r.r.ok ∧ ∃ (x : Planned), Holds (x = (takenF (rst g.pages (2 : Int) (64 : Int)) g.l).r.plan (g.ask.getD (↑x_1.i : Int).toNat ((0 : Int), (0 : Int))).fst (g.ask.getD (↑x_1.i : Int).toNat ((0 : Int), (0 : Int))).snd) ∧ (r.r.plan (g.ask.getD (↑x_1.i : Int).toNat ((0 : Int), (0 : Int))).fst (g.ask.getD (↑x_1.i : Int).toNat ((0 : Int), (0 : Int))).snd).e = x.e ∧ (r.r.plan (g.ask.getD (↑x_1.i : Int).toNat ((0 : Int), (0 : Int))).fst (g.ask.getD (↑x_1.i : Int).toNat ((0 : Int), (0 : Int))).snd).a.fst = x.a.fst ∧ (r.r.plan (g.ask.getD (↑x_1.i : Int).toNat ((0 : Int), (0 : Int))).fst (g.ask.getD (↑x_1.i : Int).toNat ((0 : Int), (0 : Int))).snd).a.snd = x.a.snd ∧ (r.r.plan (g.ask.getD (↑x_1.i : Int).toNat ((0 : Int), (0 : Int))).fst (g.ask.getD (↑x_1.i : Int).toNat ((0 : Int), (0 : Int))).snd).b.fst = x.b.fst ∧ (r.r.plan (g.ask.getD (↑x_1.i : Int).toNat ((0 : Int), (0 : Int))).fst (g.ask.getD (↑x_1.i : Int).toNat ((0 : Int), (0 : Int))).snd).b.snd = x.b.snd) ∧ Holds r.r.ok ∧ ∃ (x : Planned), Holds (x = (takenF (rst g.pages (2 : Int) (64 : Int)) g.l).r.plan (g.ask.getD (↑x_1.i : Int).toNat ((0 : Int), (0 : Int))).fst (g.ask.getD (↑x_1.i : Int).toNat ((0 : Int), (0 : Int))).snd) ∧ (r.r.plan (g.ask.getD (↑x_1.i : Int).toNat ((0 : Int), (0 : Int))).fst (g.ask.getD (↑x_1.i : Int).toNat ((0 : Int), (0 : Int))).snd).e = x.e ∧ (r.r.plan (g.ask.getD (↑x_1.i : Int).toNat ((0 : Int), (0 : Int))).fst (g.ask.getD (↑x_1.i : Int).toNat ((0 : Int), (0 : Int))).snd).a.fst = x.a.fst ∧ (r.r.plan (g.ask.getD (↑x_1.i : Int).toNat ((0 : Int), (0 : Int))).fst (g.ask.getD (↑x_1.i : Int).toNat ((0 : Int), (0 : Int))).snd).a.snd = x.a.snd ∧ (r.r.plan (g.ask.getD (↑x_1.i : Int).toNat ((0 : Int), (0 : Int))).fst (g.ask.getD (↑x_1.i : Int).toNat ((0 : Int), (0 : Int))).snd).b.fst = x.b.fst ∧ (r.r.plan (g.ask.getD (↑x_1.i : Int).toNat ((0 : Int), (0 : Int))).fst (g.ask.getD (↑x_1.i : Int).toNat ((0 : Int), (0 : Int))).snd).b.snd = x.b.snd) ∧ (Holds r.r.ok ∧ ∃ (x : Planned), Holds (x = (takenF (rst g.pages (2 : Int) (64 : Int)) g.l).r.plan (g.ask.getD (↑x_1.i : Int).toNat ((0 : Int), (0 : Int))).fst (g.ask.getD (↑x_1.i : Int).toNat ((0 : Int), (0 : Int))).snd) ∧ (r.r.plan (g.ask.getD (↑x_1.i : Int).toNat ((0 : Int), (0 : Int))).fst (g.ask.getD (↑x_1.i : Int).toNat ((0 : Int), (0 : Int))).snd).e = x.e ∧ (r.r.plan (g.ask.getD (↑x_1.i : Int).toNat ((0 : Int), (0 : Int))).fst (g.ask.getD (↑x_1.i : Int).toNat ((0 : Int), (0 : Int))).snd).a.fst = x.a.fst ∧ (r.r.plan (g.ask.getD (↑x_1.i : Int).toNat ((0 : Int), (0 : Int))).fst (g.ask.getD (↑x_1.i : Int).toNat ((0 : Int), (0 : Int))).snd).a.snd = x.a.snd ∧ (r.r.plan (g.ask.getD (↑x_1.i : Int).toNat ((0 : Int), (0 : Int))).fst (g.ask.getD (↑x_1.i : Int).toNat ((0 : Int), (0 : Int))).snd).b.fst = x.b.fst ∧ (r.r.plan (g.ask.getD (↑x_1.i : Int).toNat ((0 : Int), (0 : Int))).fst (g.ask.getD (↑x_1.i : Int).toNat ((0 : Int), (0 : Int))).snd).b.snd = x.b.snd) ∧ Holds r.r.ok ∧ ∃ (x : Planned), Holds (x = (takenF (rst g.pages (2 : Int) (64 : Int)) g.l).r.plan (g.ask.getD (↑x_1.i : Int).toNat ((0 : Int), (0 : Int))).fst (g.ask.getD (↑x_1.i : Int).toNat ((0 : Int), (0 : Int))).snd) ∧ (r.r.plan (g.ask.getD (↑x_1.i : Int).toNat ((0 : Int), (0 : Int))).fst (g.ask.getD (↑x_1.i : Int).toNat ((0 : Int), (0 : Int))).snd).e = x.e ∧ (r.r.plan (g.ask.getD (↑x_1.i : Int).toNat ((0 : Int), (0 : Int))).fst (g.ask.getD (↑x_1.i : Int).toNat ((0 : Int), (0 : Int))).snd).a.fst = x.a.fst ∧ (r.r.plan (g.ask.getD (↑x_1.i : Int).toNat ((0 : Int), (0 : Int))).fst (g.ask.getD (↑x_1.i : Int).toNat ((0 : Int), (0 : Int))).snd).a.snd = x.a.snd ∧ (r.r.plan (g.ask.getD (↑x_1.i : Int).toNat ((0 : Int), (0 : Int))).fst (g.ask.getD (↑x_1.i : Int).toNat ((0 : Int), (0 : Int))).snd).b.fst = x.b.fst ∧ (r.r.plan (g.ask.getD (↑x_1.i : Int).toNat ((0 : Int), (0 : Int))).fst (g.ask.getD (↑x_1.i : Int).toNat ((0 : Int), (0 : Int))).snd).b.snd = x.b.snd) ∧ ∀ (x_2 : Planned), Holds (x_2 = (takenF (rst g.pages (2 : Int) (64 : Int)) g.l).r.plan (g.ask.getD (↑x_1.i : Int).toNat ((0 : Int), (0 : Int))).fst (g.ask.getD (↑x_1.i : Int).toNat ((0 : Int), (0 : Int))).snd) → (Holds ((0 : Int) ≤ (↑x_1.i : Int)) ∧ Holds ((↑x_1.i : Int) < (↑g.ask.length : Int)) ∧ Holds ((↑x_1.i : Int).toNat < g.ask.length) ∧ Holds ((0 : Int) ≤ (↑x_1.i : Int)) ∧ Holds ((↑x_1.i : Int) < (↑g.ask.length : Int)) ∧ Holds ((↑x_1.i : Int).toNat < g.ask.length) ∧ (Holds { pages := rst g.pages (2 : Int) (64 : Int), E := x.E, M := x.M : Reg }.ok ∧ (∃ (x_3 : Planned), Holds (x_3 = (takenF (rst g.pages (2 : Int) (64 : Int)) g.l).r.plan (g.ask.getD (↑x_1.i : Int).toNat ((0 : Int), (0 : Int))).fst (g.ask.getD (↑x_1.i : Int).toNat ((0 : Int), (0 : Int))).snd) ∧ ({ pages := rst g.pages (2 : Int) (64 : Int), E := x.E, M := x.M : Reg }.plan (g.ask.getD (↑x_1.i : Int).toNat ((0 : Int), (0 : Int))).fst (g.ask.getD (↑x_1.i : Int).toNat ((0 : Int), (0 : Int))).snd).e = x_3.e ∧ ({ pages := rst g.pages (2 : Int) (64 : Int), E := x.E, M := x.M : Reg }.plan (g.ask.getD (↑x_1.i : Int).toNat ((0 : Int), (0 : Int))).fst (g.ask.getD (↑x_1.i : Int).toNat ((0 : Int), (0 : Int))).snd).a.fst = x_3.a.fst ∧ ({ pages := rst g.pages (2 : Int) (64 : Int), E := x.E, M := x.M : Reg }.plan (g.ask.getD (↑x_1.i : Int).toNat ((0 : Int), (0 : Int))).fst (g.ask.getD (↑x_1.i : Int).toNat ((0 : Int), (0 : Int))).snd).a.snd = x_3.a.snd ∧ ({ pages := rst g.pages (2 : Int) (64 : Int), E := x.E, M := x.M : Reg }.plan (g.ask.getD (↑x_1.i : Int).toNat ((0 : Int), (0 : Int))).fst (g.ask.getD (↑x_1.i : Int).toNat ((0 : Int), (0 : Int))).snd).b.fst = x_3.b.fst ∧ ({ pages := rst g.pages (2 : Int) (64 : Int), E := x.E, M := x.M : Reg }.plan (g.ask.getD (↑x_1.i : Int).toNat ((0 : Int), (0 : Int))).fst (g.ask.getD (↑x_1.i : Int).toNat ((0 : Int), (0 : Int))).snd).b.snd = x_3.b.snd) ∧ ∃ (x_3 : Planned), Holds (x_3 = (takenF (rst g.pages (2 : Int) (64 : Int)) g.l).r.plan (g.ask.getD (↑x_1.i : Int).toNat ((0 : Int), (0 : Int))).fst (g.ask.getD (↑x_1.i : Int).toNat ((0 : Int), (0 : Int))).snd) ∧ ({ pages := rst g.pages (2 : Int) (64 : Int), E := x.E, M := x.M : Reg }.plan (g.ask.getD (↑x_1.i : Int).toNat ((0 : Int), (0 : Int))).fst (g.ask.getD (↑x_1.i : Int).toNat ((0 : Int), (0 : Int))).snd).e = x_3.e ∧ ({ pages := rst g.pages (2 : Int) (64 : Int), E := x.E, M := x.M : Reg }.plan (g.ask.getD (↑x_1.i : Int).toNat ((0 : Int), (0 : Int))).fst (g.ask.getD (↑x_1.i : Int).toNat ((0 : Int), (0 : Int))).snd).a.fst = x_3.a.fst ∧ ({ pages := rst g.pages (2 : Int) (64 : Int), E := x.E, M := x.M : Reg }.plan (g.ask.getD (↑x_1.i : Int).toNat ((0 : Int), (0 : Int))).fst (g.ask.getD (↑x_1.i : Int).toNat ((0 : Int), (0 : Int))).snd).a.snd = x_3.a.snd ∧ ({ pages := rst g.pages (2 : Int) (64 : Int), E := x.E, M := x.M : Reg }.plan (g.ask.getD (↑x_1.i : Int).toNat ((0 : Int), (0 : Int))).fst (g.ask.getD (↑x_1.i : Int).toNat ((0 : Int), (0 : Int))).snd).b.fst = x_3.b.fst ∧ ({ pages := rst g.pages (2 : Int) (64 : Int), E := x.E, M := x.M : Reg }.plan (g.ask.getD (↑x_1.i : Int).toNat ((0 : Int), (0 : Int))).fst (g.ask.getD (↑x_1.i : Int).toNat ((0 : Int), (0 : Int))).snd).b.snd = x_3.b.snd) ∧ ((Holds { pages := rst g.pages (2 : Int) (64 : Int), E := x.E, M := x.M : Reg }.ok ∧ ∃ (x_3 : Planned), Holds (x_3 = (takenF (rst g.pages (2 : Int) (64 : Int)) g.l).r.plan (g.ask.getD (↑x_1.i : Int).toNat ((0 : Int), (0 : Int))).fst (g.ask.getD (↑x_1.i : Int).toNat ((0 : Int), (0 : Int))).snd) ∧ ({ pages := rst g.pages (2 : Int) (64 : Int), E := x.E, M := x.M : Reg }.plan (g.ask.getD (↑x_1.i : Int).toNat ((0 : Int), (0 : Int))).fst (g.ask.getD (↑x_1.i : Int).toNat ((0 : Int), (0 : Int))).snd).e = x_3.e ∧ ({ pages := rst g.pages (2 : Int) (64 : Int), E := x.E, M := x.M : Reg }.plan (g.ask.getD (↑x_1.i : Int).toNat ((0 : Int), (0 : Int))).fst (g.ask.getD (↑x_1.i : Int).toNat ((0 : Int), (0 : Int))).snd).a.fst = x_3.a.fst ∧ ({ pages := rst g.pages (2 : Int) (64 : Int), E := x.E, M := x.M : Reg }.plan (g.ask.getD (↑x_1.i : Int).toNat ((0 : Int), (0 : Int))).fst (g.ask.getD (↑x_1.i : Int).toNat ((0 : Int), (0 : Int))).snd).a.snd = x_3.a.snd ∧ ({ pages := rst g.pages (2 : Int) (64 : Int), E := x.E, M := x.M : Reg }.plan (g.ask.getD (↑x_1.i : Int).toNat ((0 : Int), (0 : Int))).fst (g.ask.getD (↑x_1.i : Int).toNat ((0 : Int), (0 : Int))).snd).b.fst = x_3.b.fst ∧ ({ pages := rst g.pages (2 : Int) (64 : Int), E := x.E, M := x.M : Reg }.plan (g.ask.getD (↑x_1.i : Int).toNat ((0 : Int), (0 : Int))).fst (g.ask.getD (↑x_1.i : Int).toNat ((0 : Int), (0 : Int))).snd).b.snd = x_3.b.snd) ∧ Holds { pages := rst g.pages (2 : Int) (64 : Int), E := x.E, M := x.M : Reg }.ok ∧ ∃ (x_3 : Planned), Holds (x_3 = (takenF (rst g.pages (2 : Int) (64 : Int)) g.l).r.plan (g.ask.getD (↑x_1.i : Int).toNat ((0 : Int), (0 : Int))).fst (g.ask.getD (↑x_1.i : Int).toNat ((0 : Int), (0 : Int))).snd) ∧ ({ pages := rst g.pages (2 : Int) (64 : Int), E := x.E, M := x.M : Reg }.plan (g.ask.getD (↑x_1.i : Int).toNat ((0 : Int), (0 : Int))).fst (g.ask.getD (↑x_1.i : Int).toNat ((0 : Int), (0 : Int))).snd).e = x_3.e ∧ ({ pages := rst g.pages (2 : Int) (64 : Int), E := x.E, M := x.M : Reg }.plan (g.ask.getD (↑x_1.i : Int).toNat ((0 : Int), (0 : Int))).fst (g.ask.getD (↑x_1.i : Int).toNat ((0 : Int), (0 : Int))).snd).a.fst = x_3.a.fst ∧ ({ pages := rst g.pages (2 : Int) (64 : Int), E := x.E, M := x.M : Reg }.plan (g.ask.getD (↑x_1.i : Int).toNat ((0 : Int), (0 : Int))).fst (g.ask.getD (↑x_1.i : Int).toNat ((0 : Int), (0 : Int))).snd).a.snd = x_3.a.snd ∧ ({ pages := rst g.pages (2 : Int) (64 : Int), E := x.E, M := x.M : Reg }.plan (g.ask.getD (↑x_1.i : Int).toNat ((0 : Int), (0 : Int))).fst (g.ask.getD (↑x_1.i : Int).toNat ((0 : Int), (0 : Int))).snd).b.fst = x_3.b.fst ∧ ({ pages := rst g.pages (2 : Int) (64 : Int), E := x.E, M := x.M : Reg }.plan (g.ask.getD (↑x_1.i : Int).toNat ((0 : Int), (0 : Int))).fst (g.ask.getD (↑x_1.i : Int).toNat ((0 : Int), (0 : Int))).snd).b.snd = x_3.b.snd) ∧ (Holds { pages := rst g.pages (2 : Int) (64 : Int), E := x.E, M := x.M : Reg }.ok ∧ ∃ (x_3 : Planned), Holds (x_3 = (takenF (rst g.pages (2 : Int) (64 : Int)) g.l).r.plan (g.ask.getD (↑x_1.i : Int).toNat ((0 : Int), (0 : Int))).fst (g.ask.getD (↑x_1.i : Int).toNat ((0 : Int), (0 : Int))).snd) ∧ ({ pages := rst g.pages (2 : Int) (64 : Int), E := x.E, M := x.M : Reg }.plan (g.ask.getD (↑x_1.i : Int).toNat ((0 : Int), (0 : Int))).fst (g.ask.getD (↑x_1.i : Int).toNat ((0 : Int), (0 : Int))).snd).e = x_3.e ∧ ({ pages := rst g.pages (2 : Int) (64 : Int), E := x.E, M := x.M : Reg }.plan (g.ask.getD (↑x_1.i : Int).toNat ((0 : Int), (0 : Int))).fst (g.ask.getD (↑x_1.i : Int).toNat ((0 : Int), (0 : Int))).snd).a.fst = x_3.a.fst ∧ ({ pages := rst g.pages (2 : Int) (64 : Int), E := x.E, M := x.M : Reg }.plan (g.ask.getD (↑x_1.i : Int).toNat ((0 : Int), (0 : Int))).fst (g.ask.getD (↑x_1.i : Int).toNat ((0 : Int), (0 : Int))).snd).a.snd = x_3.a.snd ∧ ({ pages := rst g.pages (2 : Int) (64 : Int), E := x.E, M := x.M : Reg }.plan (g.ask.getD (↑x_1.i : Int).toNat ((0 : Int), (0 : Int))).fst (g.ask.getD (↑x_1.i : Int).toNat ((0 : Int), (0 : Int))).snd).b.fst = x_3.b.fst ∧ ({ pages := rst g.pages (2 : Int) (64 : Int), E := x.E, M := x.M : Reg }.plan (g.ask.getD (↑x_1.i : Int).toNat ((0 : Int), (0 : Int))).fst (g.ask.getD (↑x_1.i : Int).toNat ((0 : Int), (0 : Int))).snd).b.snd = x_3.b.snd) ∧ Holds { pages := rst g.pages (2 : Int) (64 : Int), E := x.E, M := x.M : Reg }.ok ∧ ∃ (x_3 : Planned), Holds (x_3 = (takenF (rst g.pages (2 : Int) (64 : Int)) g.l).r.plan (g.ask.getD (↑x_1.i : Int).toNat ((0 : Int), (0 : Int))).fst (g.ask.getD (↑x_1.i : Int).toNat ((0 : Int), (0 : Int))).snd) ∧ ({ pages := rst g.pages (2 : Int) (64 : Int), E := x.E, M := x.M : Reg }.plan (g.ask.getD (↑x_1.i : Int).toNat ((0 : Int), (0 : Int))).fst (g.ask.getD (↑x_1.i : Int).toNat ((0 : Int), (0 : Int))).snd).e = x_3.e ∧ ({ pages := rst g.pages (2 : Int) (64 : Int), E := x.E, M := x.M : Reg }.plan (g.ask.getD (↑x_1.i : Int).toNat ((0 : Int), (0 : Int))).fst (g.ask.getD (↑x_1.i : Int).toNat ((0 : Int), (0 : Int))).snd).a.fst = x_3.a.fst ∧ ({ pages := rst g.pages (2 : Int) (64 : Int), E := x.E, M := x.M : Reg }.plan (g.ask.getD (↑x_1.i : Int).toNat ((0 : Int), (0 : Int))).fst (g.ask.getD (↑x_1.i : Int).toNat ((0 : Int), (0 : Int))).snd).a.snd = x_3.a.snd ∧ ({ pages := rst g.pages (2 : Int) (64 : Int), E := x.E, M := x.M : Reg }.plan (g.ask.getD (↑x_1.i : Int).toNat ((0 : Int), (0 : Int))).fst (g.ask.getD (↑x_1.i : Int).toNat ((0 : Int), (0 : Int))).snd).b.fst = x_3.b.fst ∧ ({ pages := rst g.pages (2 : Int) (64 : Int), E := x.E, M := x.M : Reg }.plan (g.ask.getD (↑x_1.i : Int).toNat ((0 : Int), (0 : Int))).fst (g.ask.getD (↑x_1.i : Int).toNat ((0 : Int), (0 : Int))).snd).b.snd = x_3.b.snd) ∧ ∀ (x_3 : Planned), Holds (x_3 = (takenF (rst g.pages (2 : Int) (64 : Int)) g.l).r.plan (g.ask.getD (↑x_1.i : Int).toNat ((0 : Int), (0 : Int))).fst (g.ask.getD (↑x_1.i : Int).toNat ((0 : Int), (0 : Int))).snd) → Holds ((0 : Int) ≤ (↑x_1.i : Int)) ∧ Holds ((↑x_1.i : Int) < (↑g.ask.length : Int)) ∧ Holds ((↑x_1.i : Int).toNat < g.ask.length) ∧ Holds r.r.ok ∧ Holds ((0 : Int) ≤ (↑x_1.i : Int)) ∧ Holds ((↑x_1.i : Int) < (↑g.ask.length : Int)) ∧ Holds ((↑x_1.i : Int).toNat < g.ask.length) ∧ Holds { pages := rst g.pages (2 : Int) (64 : Int), E := x.E, M := x.M : Reg }.ok ∧ SplitB (!(x_2.a.fst == x_3.a.fst && x_2.a.snd == x_3.a.snd)) (false = true) (SplitB (!(x_2.b.fst == x_3.b.fst && x_2.b.snd == x_3.b.snd)) (false = true) (SplitB (x_2.e != x_3.e) (false = true) (SplitB (!((r.r.find (g.ask.getD (↑x_1.i : Int).toNat ((0 : Int), (0 : Int))).fst).a.fst == ({ pages := rst g.pages (2 : Int) (64 : Int), E := x.E, M := x.M : Reg }.find (g.ask.getD (↑x_1.i : Int).toNat ((0 : Int), (0 : Int))).fst).a.fst && (r.r.find (g.ask.getD (↑x_1.i : Int).toNat ((0 : Int), (0 : Int))).fst).a.snd == ({ pages := rst g.pages (2 : Int) (64 : Int), E := x.E, M := x.M : Reg }.find (g.ask.getD (↑x_1.i : Int).toNat ((0 : Int), (0 : Int))).fst).a.snd)) (false = true) (SplitB ((r.r.find (g.ask.getD (↑x_1.i : Int).toNat ((0 : Int), (0 : Int))).fst).g != ({ pages := rst g.pages (2 : Int) (64 : Int), E := x.E, M := x.M : Reg }.find (g.ask.getD (↑x_1.i : Int).toNat ((0 : Int), (0 : Int))).fst).g) (false = true) (SplitB (!((r.r.find (g.ask.getD (↑x_1.i : Int).toNat ((0 : Int), (0 : Int))).fst).b.fst == ({ pages := rst g.pages (2 : Int) (64 : Int), E := x.E, M := x.M : Reg }.find (g.ask.getD (↑x_1.i : Int).toNat ((0 : Int), (0 : Int))).fst).b.fst && (r.r.find (g.ask.getD (↑x_1.i : Int).toNat ((0 : Int), (0 : Int))).fst).b.snd == ({ pages := rst g.pages (2 : Int) (64 : Int), E := x.E, M := x.M : Reg }.find (g.ask.getD (↑x_1.i : Int).toNat ((0 : Int), (0 : Int))).fst).b.snd)) (false = true) (SplitB ((r.r.find (g.ask.getD (↑x_1.i : Int).toNat ((0 : Int), (0 : Int))).fst).e != ({ pages := rst g.pages (2 : Int) (64 : Int), E := x.E, M := x.M : Reg }.find (g.ask.getD (↑x_1.i : Int).toNat ((0 : Int), (0 : Int))).fst).e) (false = true) (∃ (y : AskAt), Holds (y.i ≤ (200 : Nat)) ∧ Holds ((200 : Nat) - y.i < (200 : Nat) - x_1.i) ∧ IntKind.i64.wrap ((↑x_1.i : Int) + (1 : Int)) = (↑y.i : Int))))))))) (Holds r.r.ok ∧ Holds { pages := rst g.pages (2 : Int) (64 : Int), E := x.E, M := x.M : Reg }.ok ∧ SplitB (decide (rising (keysOf r.r.E) = rising (keysOf x.E))) (Holds r.r.ok ∧ Holds { pages := rst g.pages (2 : Int) (64 : Int), E := x.E, M := x.M : Reg }.ok ∧ decide (rising (keysOf r.r.M) = rising (keysOf x.M)) = true) (false = true))) (Holds r.r.ok ∧ Holds { pages := rst g.pages (2 : Int) (64 : Int), E := x.E, M := x.M : Reg }.ok ∧ SplitB (decide (rising (keysOf r.r.E) = rising (keysOf x.E))) (Holds r.r.ok ∧ Holds { pages := rst g.pages (2 : Int) (64 : Int), E := x.E, M := x.M : Reg }.ok ∧ decide (rising (keysOf r.r.M) = rising (keysOf x.M)) = true) (false = true))))))) := by kernel_rfl
theorem take_bad {r : Reg} {c g : Int} {a b w s : Int × Int} (hp : r.plan c g = ⟨a, b, 0⟩) (h : w ≠ a ∨ s ≠ b) : r.takeE c g w s = 83 ∧ r.take c g w s = r := by
  have : r.takeE c g w s = 83 := by
    unfold Reg.takeE
    rw [hp]
    rw [if_neg (by simp), if_pos (by rcases h with h | h; exact .inl (Ne.symm h); exact .inr (Ne.symm h))]
  exact ⟨this, by unfold Reg.take; rw [if_neg (by rw [this]; omega)]⟩
theorem take_good {r : Reg} {c g : Int} {a b : Int × Int} (hp : r.plan c g = ⟨a, b, 0⟩) : r.takeE c g a b = 0 ∧ r.take c g a b = r.add c g := by
  have : r.takeE c g a b = 0 := by
    unfold Reg.takeE
    rw [hp]
    rw [if_neg (by simp), if_neg (by simp)]
  exact ⟨this, by unfold Reg.take; rw [if_pos this]⟩
theorem take_twice {r : Reg} {c g : Int} {w s : Int × Int} (h1 : 1 ≤ c ∧ c ≤ 4000) (h2 : 1 ≤ g ∧ g ≤ 4000) (hp : (mgE r.E c).isSome = true) : r.takeE c g w s = 121 ∧ r.take c g w s = r := by
  have hpl : r.plan c g = ⟨(0, 0), (0, 0), 121⟩ := by
    rcases plan_cases (r := r) h1 h2 with ⟨h, _⟩ | ⟨h, _⟩
    · exact h
    · rw [h] at hp; cases hp
  have : r.takeE c g w s = 121 := by
    unfold Reg.takeE
    rw [hpl]
    rw [if_pos (by simp)]
  exact ⟨this, by unfold Reg.take; rw [if_neg (by rw [this]; omega)]⟩
theorem pair_beq {a b : Int × Int} : (!(a.1 == b.1 && a.2 == b.2)) = true ↔ a ≠ b := by
  obtain ⟨a1, a2⟩ := a
  obtain ⟨b1, b2⟩ := b
  simp [Prod.ext_iff]
  omega
theorem pair_beq' {a b : Int × Int} : (!(a.1 == b.1 && a.2 == b.2)) = false ↔ a = b := by
  obtain ⟨a1, a2⟩ := a
  obtain ⟨b1, b2⟩ := b
  simp [Prod.ext_iff]
theorem regOf_fine (pages : Int) (own : List (Int × Int)) : (regOf pages own).Fine own.length := by
  suffices ∀ (l : List (Int × Int)) (r : Reg) (n : Nat), r.Fine n → (l.foldl (fun r p => r.add p.1 p.2) r).Fine (n + l.length) by
    have := this own ⟨pages, [], []⟩ 0 ⟨by simp, by simp, by simp, by simp⟩
    simpa [regOf] using this
  intro l
  induction l with
  | nil => intro r n h; exact h
  | cons p l ih => intro r n h; rw [List.foldl_cons]; have := ih _ _ (h.add p.1 p.2); rwa [List.length_cons, show n + (l.length + 1) = n + 1 + l.length from by omega]
theorem ok5 : vc5 := by
  rw [vc5_is]
  intro g h1 h2 h2' h3 h4
  have hp := rst_in (n := g.pages) (lo := 2) (hi := 64) (by omega)
  generalize rst g.pages 2 64 = pages at *
  have hs := taken_all_good pages g.l
  refine ⟨fun h => by simp at h, fun _ => ⟨⟨by omega⟩, ⟨by omega⟩, ⟨by omega⟩, ⟨by omega⟩, ⟨by omega⟩, fun r hr => ⟨fun _ h => absurd hp h.out, fun _ _ => ⟨fun h => by simp at h, fun _ => ⟨fun h => by simp at h, fun _ => ?_⟩⟩⟩⟩⟩
  have hr := hr.out
  subst hr
  generalize takenF pages g.l = s at *
  have hlen := hs.len
  have hwl := hs.wl
  have hsl := hs.sl
  refine ⟨⟨⟨0, [], []⟩, ⟨⟨Nat.zero_le _, rfl⟩⟩, rfl, rfl, rfl⟩, fun x hx => ?_⟩
  obtain ⟨hxi, hxr⟩ := hx.out
  have hreg : s.r = regOf pages (s.own.take s.own.length) := by rw [List.take_length]; exact hs.reg
  have hall := taken_at hs _ (Nat.le_refl s.own.length)
  rw [← hreg] at hall
  have hok : s.r.ok := hs.fine.ok (Nat.le_refl _) (by rw [hall.pg]; omega) (by rw [hall.pg]; omega)
  have hqok : ∀ i, i ≤ s.own.length → (regOf pages (s.own.take i)).ok := fun i hi => by
    have := regOf_fine pages (s.own.take i)
    rw [List.length_take, Nat.min_eq_left hi] at this
    exact this.ok (by omega) (by rw [regOf_pages]; omega) (by rw [regOf_pages]; omega)
  rw [hxr]
  have hn : (↑x.i : Int).toNat = x.i := by omega
  have hL : (g.ask.length : Int) ≤ 9223372036854775807 := by have := h2'.out.1; have e : maxLen = 9223372036854775807 := by decide
                                                             omega
  rw [hn]
  refine ⟨fun hi => ?_, fun hi => ?_⟩
  · have hi : x.i < s.own.length := by simp at hi; omega
    obtain ⟨p, hpp⟩ : ∃ p, s.own[x.i]? = some p := ⟨_, List.getElem?_eq_getElem hi⟩
    have ht := taken_at hs x.i hxi
    obtain ⟨n1, n2, n3, n4, n5, n6⟩ := taken_next hs hpp ht
    obtain ⟨r1, r2⟩ := hs.rg p (List.mem_of_getElem? hpp)
    have a1 : s.own.getD x.i (0, 0) = p := by simp [List.getD, hpp]
    have a2 : s.wh.getD x.i (0, 0) = wh x.i := by simp [List.getD, n2]
    generalize sm pages ((mgM (regOf pages (s.own.take x.i)).M p.2).getD (regOf pages (s.own.take x.i)).M.length) = b at *
    generalize wh x.i = a at *
    have a3 : s.sm.getD x.i (0, 0) = b := by simp [List.getD, n4]
    rw [a1, a2, a3]
    have hok1 := hqok x.i hxi
    have hok2 := hqok (x.i + 1) (by omega)
    have hg1 : (mgE (regOf pages (s.own.take (x.i + 1))).E p.1).isSome = true := by rw [n6.ge x.i p (by omega) hpp]; rfl
    have eta : ∀ i, (⟨pages, (regOf pages (s.own.take i)).E, (regOf pages (s.own.take i)).M⟩ : Reg) = regOf pages (s.own.take i) := fun i => by
      have := regOf_pages pages (s.own.take i)
      generalize regOf pages (s.own.take i) = r at *
      cases r; simp at this; simp [this]
    have e1 := eta x.i
    have e2 := eta (x.i + 1)
    have b1 := fun w t h => take_bad (w := w) (s := t) n3 h
    obtain ⟨b2, b3⟩ := take_good n3
    obtain ⟨b4, b5⟩ := take_twice (w := a) (s := b) r1 r2 hg1
    rw [← n5] at b3
    have again : ∃ y : QAt, (y.i ≤ s.own.length ∧ (⟨pages, y.E, y.M⟩ : Reg) = regOf pages (s.own.take y.i)) ∧ s.own.length - y.i < s.own.length - x.i ∧ IntKind.i64.wrap ((x.i : Int) + 1) = (y.i : Int) ∧ (regOf pages (s.own.take (x.i + 1))).E = y.E ∧ (regOf pages (s.own.take (x.i + 1))).M = y.M := by
      refine ⟨⟨x.i + 1, _, _⟩, ⟨hi, e2⟩, (by show s.own.length - (x.i + 1) < _; omega), ?_, rfl, rfl⟩
      rw [wrap64 (by omega) (by omega)]; rfl
    have nat1 : ∀ (n : Nat), s.own.length = n → ((x.i : Int) < n ↔ True) := fun n hn => ⟨fun _ => trivial, fun _ => by omega⟩
    have f1 : ((x.i : Int) < s.own.length) := by omega
    have f2 : ((x.i : Int) < s.wh.length) := by omega
    have f3 : ((x.i : Int) < s.sm.length) := by omega
    have f4 : x.i < s.wh.length := by omega
    have f5 : x.i < s.sm.length := by omega
    have f6 : (0 : Int) ≤ (x.i : Int) := by omega
    have g1 : s.own[x.i] = p := (List.getElem?_eq_some_iff.1 hpp).2
    have g2 : s.wh[x.i] = a := (List.getElem?_eq_some_iff.1 n2).2
    have g3 : s.sm[x.i] = b := (List.getElem?_eq_some_iff.1 n4).2
    simp only [holds_iff, splitB_iff, pair_beq, pair_beq', forall_eq]
    by_cases o1 : g.odd = a
    · by_cases o2 : g.odd = b
      · simp [o1, o2, f1, f2, f3, f4, f5, f6, hi, hok1, hok2, b2, b3, b4, b5, e1, e2, again]
        simp [← o1, o2, f1, f2, f3, f4, f5, f6, hi, hok1, hok2, b2, b3, b4, b5, e1, e2, again]
      · obtain ⟨c1, c2⟩ := b1 a g.odd (.inr o2)
        rw [o1] at c1 c2 o2
        simp [o1, o2, f1, f2, f3, f4, f5, f6, hi, hok1, hok2, b2, b3, b4, b5, e1, e2, again, c1, c2]
    · obtain ⟨c1, c2⟩ := b1 g.odd b (.inl o1)
      by_cases o2 : g.odd = b
      · rw [o2] at c1 c2 o1
        simp [o1, o2, f1, f2, f3, f4, f5, f6, hi, hok1, hok2, b2, b3, b4, b5, e1, e2, again, c1, c2]
      · obtain ⟨c3, c4⟩ := b1 a g.odd (.inr o2)
        simp [o1, o2, f1, f2, f3, f4, f5, f6, hi, hok1, hok2, b2, b3, b4, b5, e1, e2, again, c1, c2, c3, c4, g1, g2, g3]
  · have hi : x.i = s.own.length := by simp at hi; omega
    rw [hi, ← hreg] at hxr
    have hE : x.E = s.r.E := by rw [← hxr]
    have hM : x.M = s.r.M := by rw [← hxr]
    rw [hi, ← hreg, hE, hM]
    simp only [holds_iff, splitB_iff, hok]
    refine ⟨⟨⟨0⟩, by simp, rfl⟩, fun y hy => ⟨fun ha => ⟨fun hb => ?_, fun hb => ?_⟩, fun ha => ?_⟩⟩
    · have ha : y.i < g.ask.length := by simpa using ha
      have hb : y.i < 200 := by simp at hb; omega
      have hn : (↑y.i : Int).toNat = y.i := by omega
      have k1 : ((y.i : Int) < g.ask.length) := by omega
      have k2 : (0 : Int) ≤ (y.i : Int) := by omega
      have again : ∃ z : AskAt, z.i ≤ 200 ∧ 200 - z.i < 200 - y.i ∧ IntKind.i64.wrap ((y.i : Int) + 1) = (z.i : Int) := ⟨⟨y.i + 1⟩, hb, by show 200 - (y.i + 1) < _; omega, by rw [wrap64 (by omega) (by omega)]; rfl⟩
      simp [hn, k1, k2, ha, again]
    · simp
    · simp

end Go.Proofs.Ytkhcphdnppdfjaa.VC
