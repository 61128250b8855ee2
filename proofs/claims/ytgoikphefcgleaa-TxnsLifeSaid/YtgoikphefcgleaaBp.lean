/- What is to be shown of functions, shown. Plain lemmas; no conditions but those that each names. -/
import Derived.Test.YtgoikphefcgleaaEx
import Derived.Test.YtgoikphefcgleaaBk
import Derived.Test.YtgoikphefcgleaaKs
import Derived.KernelRfl
set_option linter.unusedVariables false
set_option linter.unusedSimpArgs false
set_option linter.unusedSectionVars false
namespace Go.Proofs.Ytgoikphefcgleaa.VC
open Go
set_option maxRecDepth 100000

def vc6 : Prop := vc Try.f6.body Try.f6.results Try.f6.ntmps [(7, some sp7), (12, some sp12), (14, some sp14), (15, some sp15), (23, some sp23), (20, some sp20), (19, some sp19), (22, some sp22), (21, some sp21)] sp6 (fun _ => noAnn)
theorem vc6_is : vc6 = (
∀ (g : Unit), (∀ (r : Unit), Holds (within (1 : Int) (1 : Int) (2147483648 : Int) = false) → (∀ (r : Unit), Holds (within (0 : Int) (1 : Int) (2147483648 : Int) = false) → false = true) ∧ ∀ (r : Unit), Holds (within (0 : Int) (1 : Int) (2147483648 : Int) = true) → false = true) ∧ ∀ (r : Unit), Holds (within (1 : Int) (1 : Int) (2147483648 : Int) = true) → (∀ (r : Unit), Holds (within (0 : Int) (1 : Int) (2147483648 : Int) = false) → SplitB ((0 : Int) != (0 : Int)) (false = true) (SplitB ((4 : Int) != (4 : Int)) (false = true) (Holds { next := (1 : Int), live := [] : Tab }.ok ∧ ∀ (r : BeginOut), Holds (r = { next := (1 : Int), live := [] : Tab }.begin (3 : Int)) → SplitB (r.n != (1 : Int)) (false = true) (SplitB (r.e != (0 : Int)) (false = true) (Holds r.t.ok ∧ ∀ (r_1 : NoteOut), Holds (r_1 = r.t.note (5 : Int) (3 : Int) (1 : Int) (3 : Int)) → SplitB (r_1.e != (0 : Int)) (false = true) (Holds r_1.t.ok ∧ ∀ (r : NoteOut), Holds (r = r_1.t.note (6 : Int) (7 : Int) (1 : Int) (5 : Int)) → SplitB (r.e != (70 : Int)) (false = true) (∀ (r_2 : GetOut), Holds (r_2 = r.t.get (1 : Int)) → ∀ (r_3 : GetOut), Holds (r_3 = r.t.get (2 : Int)) → SplitB (!(r_2.x.fst == (1 : Int) && (r_2.x.snd.fst == (5 : Int) && (r_2.x.snd.snd.fst == false && r_2.x.snd.snd.snd == false)))) (false = true) (SplitB (r_2.e != (0 : Int)) (false = true) (SplitB (r_3.e != (130 : Int)) (false = true) (SplitB (r.t.next != (2 : Int)) (false = true) ((Holds r.t.ok ∧ SplitB (!decide (r.t.list = [r_2.x])) (false = true) ((∀ (r : Unit), Holds ¬LoadOk ([((1 : Int), (5 : Int), true, false)], [], (2 : Int)) → false = true) ∧ ∀ (r : Unit), Holds (LoadOk ([((1 : Int), (5 : Int), true, false)], [], (2 : Int))) → SplitB ((0 : Int) == (0 : Int)) (Holds { next := (2 : Int), live := ents [((1 : Int), (5 : Int), true, false)] : Tab }.ok ∧ ∀ (r : NoteOut), Holds (r = { next := (2 : Int), live := ents [((1 : Int), (5 : Int), true, false)] : Tab }.note (6 : Int) (7 : Int) (1 : Int) (5 : Int)) → SplitB (r.e == (0 : Int)) (Holds r.t.ok ∧ ((↑r.t.list.length : Int) == (0 : Int)) = true) (false = true)) (false = true))) ∧ Holds r.t.ok ∧ SplitB (!decide (r.t.list = [r_2.x])) (false = true) ((∀ (r : Unit), Holds ¬LoadOk ([((1 : Int), (5 : Int), true, false)], [], (2 : Int)) → false = true) ∧ ∀ (r : Unit), Holds (LoadOk ([((1 : Int), (5 : Int), true, false)], [], (2 : Int))) → SplitB ((0 : Int) == (0 : Int)) (Holds { next := (2 : Int), live := ents [((1 : Int), (5 : Int), true, false)] : Tab }.ok ∧ ∀ (r : NoteOut), Holds (r = { next := (2 : Int), live := ents [((1 : Int), (5 : Int), true, false)] : Tab }.note (6 : Int) (7 : Int) (1 : Int) (5 : Int)) → SplitB (r.e == (0 : Int)) (Holds r.t.ok ∧ ((↑r.t.list.length : Int) == (0 : Int)) = true) (false = true)) (false = true))))))))))))) ∧ ∀ (r : Unit), Holds (within (0 : Int) (1 : Int) (2147483648 : Int) = true) → SplitB ((0 : Int) != (0 : Int)) (false = true) (false = true)) := by kernel_rfl
def tab0 : Tab := ⟨1, []⟩
def tab1 : Tab := ⟨2, [(1, (1, 3, false, false))]⟩
def tab2 : Tab := ⟨2, [(1, (1, 5, false, false))]⟩
theorem a1 : (Tab.mk 1 []).begin 3 = ⟨1, 0, tab1⟩ := by kernel_rfl
theorem a2 : tab1.note 5 3 1 3 = ⟨0, tab2⟩ := by kernel_rfl
theorem a3 : tab2.note 6 7 1 5 = ⟨70, tab2⟩ := by kernel_rfl
theorem a4 : tab2.get 1 = ⟨(1, 5, false, false), 0⟩ := by kernel_rfl
theorem a5 : tab2.get 2 = ⟨(0, 0, false, false), 130⟩ := by kernel_rfl
theorem a6 : tab2.list = [(1, 5, false, false)] := ents_list (l := [(1, 5, false, false)]) rfl (List.pairwise_singleton _ _)
theorem a7 : (Tab.mk 2 (ents [(1, 5, true, false)])).note 6 7 1 5 = ⟨0, ⟨2, []⟩⟩ := by kernel_rfl
theorem a8 : (Tab.mk 2 []).list = [] := by simp [Tab.list, rising, keysOf]
theorem k0 : (Tab.mk 1 []).ok := by simp [Tab.ok, top]
theorem k1 : tab1.ok := by simp [Tab.ok, tab1, top]
theorem k2 : tab2.ok := by simp [Tab.ok, tab2, top]
theorem k3 : (Tab.mk 2 (ents [(1, 5, true, false)])).ok := by simp [Tab.ok, ents, top]
theorem k4 : (Tab.mk 2 []).ok := by simp [Tab.ok, top]
theorem l1 : LoadOk ([(1, 5, true, false)], [], 2) := by simp [LoadOk, goodL, within, top]
theorem w0 : within 1 1 2147483648 = true := by decide
theorem w1 : within 0 1 2147483648 = false := by decide
theorem ok6 : vc6 := by
  rw [vc6_is]
  intro g
  simp only [holds_iff, splitB_iff, forall_eq, a1, a2, a3, a4, a5, a6, a7, a8, k0, k1, k2, k3, k4, l1, w0, w1]
  simp [tab2]


theorem mgL_is (E : List (Int × Lv)) (c : Int) : mgL E c = mget (k := .int .i64) (v := kL) E c := rfl
theorem msL_is (E : List (Int × Lv)) (c : Int) (x : Lv) : msL E c x = mset (k := .int .i64) (v := kL) E c x := rfl
theorem mdL_is (E : List (Int × Lv)) (c : Int) : mdL E c = mdel (k := .int .i64) (v := kL) E c := rfl

theorem Tab.Fine.mono {t : Tab} {a b : Int} (h : t.Fine a) (hab : a ≤ b) : t.Fine b :=
  ⟨h.nodup, h.len, fun e he => by have := h.ent e he; exact ⟨this.1, this.2.1, this.2.2.1, this.2.2.2.1, by omega, this.2.2.2.2.2⟩, by have := h.nx; omega⟩
theorem fine0 : (Tab.mk 1 []).Fine 0 := ⟨by simp [keysOf], by simp, by simp, by simp⟩
theorem Tab.Fine.ok {t : Tab} {a : Int} (h : t.Fine a) (ha : a ≤ 1000) : t.ok := ⟨h.len, h.nx.1, by have := h.nx.2; simp only [top]; omega⟩
theorem Tab.Fine.begin {t : Tab} {i : Int} (h : t.Fine i) (h0 : 0 ≤ i) (hi : i ≤ 1000) : (t.begin (i + 1)).t.Fine (i + 1) := by
  unfold Tab.begin
  have hw : within (i + 1) 1 top = true := by simp [within, top]; omega
  rw [hw, if_neg (by simp)]
  split
  · exact h.mono (by omega)
  · rename_i hn
    have hn' : mget (k := .int .i64) (v := kL) t.live t.next = none := mget_none.2 fun e he hc => by have := h.ent e he; omega
    have e1 : msL t.live t.next (t.next, i + 1, false, false) = t.live ++ [(t.next, (t.next, i + 1, false, false))] := mset_none hn'
    have hnx := h.nx
    refine ⟨?_, ?_, ?_, ?_⟩
    · show (keysOf (msL _ _ _)).Nodup
      rw [e1]
      simp only [keysOf, List.map_append, List.map_cons, List.map_nil]
      refine List.nodup_append.2 ⟨h.nodup, by simp, fun a ha b hb => ?_⟩
      simp at hb
      subst hb
      obtain ⟨e, he, rfl⟩ := List.mem_map.1 ha
      have := h.ent e he
      omega
    · show (msL _ _ _).length ≤ 32
      rw [e1]; simp; omega
    · intro e he
      have he : e ∈ msL t.live t.next (t.next, i + 1, false, false) := he
      rw [e1] at he
      show _ ∧ _ ∧ e.1 < t.next + 1 ∧ _
      rcases List.mem_append.1 he with he | he
      · have := h.ent e he
        exact ⟨this.1, this.2.1, by omega, this.2.2.2.1, by omega, this.2.2.2.2.2⟩
      · simp at he
        subst he
        simp
        omega
    · show 1 ≤ t.next + 1 ∧ t.next + 1 ≤ i + 1 + 1
      omega
theorem mset_mem_key {E : List (Int × Lv)} {c : Int} {x : Lv} : ∀ {e : Int × Lv}, (mgL E c).isSome = true → e ∈ msL E c x → e = (c, x) ∨ e ∈ E := by
  rw [mgL_is, msL_is]
  induction E with
  | nil => intro e h; cases h
  | cons d E ih =>
    intro e h he
    rw [mset_cons] at he
    rw [mget_cons] at h
    by_cases hc : d.1 = c
    · rw [if_pos hc] at he
      rcases List.mem_cons.1 he with he | he
      · exact .inl (by rw [he, hc])
      · exact .inr (List.mem_cons_of_mem _ he)
    · rw [if_neg hc] at he h
      rcases List.mem_cons.1 he with he | he
      · exact .inr (by rw [he]; simp)
      · rcases ih h he with h | h
        · exact .inl h
        · exact .inr (List.mem_cons_of_mem _ h)
theorem mdel_mem {E : List (Int × Lv)} {c : Int} : ∀ {e : Int × Lv}, e ∈ mdL E c → e ∈ E := by
  rw [mdL_is]
  induction E with
  | nil => intro e h; cases h
  | cons d E ih =>
    intro e he
    rw [mdel_cons] at he
    split at he
    · exact List.mem_cons_of_mem _ he
    · rcases List.mem_cons.1 he with he | he
      · rw [he]; simp
      · exact List.mem_cons_of_mem _ (ih he)
theorem mdel_len {E : List (Int × Lv)} {c : Int} : (mdL E c).length ≤ E.length := by
  rw [mdL_is]
  induction E with
  | nil => exact Nat.le_refl _
  | cons d E ih =>
    rw [mdel_cons]
    split
    · simp
    · simp only [List.length_cons]; omega
theorem Tab.Fine.goes {t : Tab} {i : Int} (h : t.Fine i) (h0 : 0 ≤ i) {x : Lv} {kind tx prev : Int} (hx : mgL t.live tx = some x) (hk : 3 ≤ kind ∧ kind ≤ 7) : (t.goes x (i + 1) kind tx prev).t.Fine (i + 1) := by
  unfold Tab.goes
  split
  · exact h.mono (by omega)
  split
  · exact h.mono (by omega)
  rename_i _ hm
  have hs : (mgL t.live tx).isSome = true := by rw [hx]; rfl
  have hent := h.ent _ (mget_mem (q := .i64) (v := kL) hx)
  simp only at hent
  have key : (⟨t.next, msL t.live tx (upto (thn kind x) (i + 1))⟩ : Tab).Fine (i + 1) := by
    have hnx := h.nx
    refine ⟨?_, ?_, fun e he => ?_, by show 1 ≤ t.next ∧ t.next ≤ i + 1 + 1; omega⟩
    · show (keysOf (msL _ _ _)).Nodup
      rw [msL_is, mset_keys_some hs]
      exact h.nodup
    · show (msL _ _ _).length ≤ 32
      rw [msL_is, mset_len_some hs]
      exact h.len
    · rcases mset_mem_key hs he with rfl | he
      · obtain ⟨xa, xl, xc, xu⟩ := x
        have hk' : kind = 3 ∨ kind = 4 ∨ kind = 5 ∨ kind = 6 ∨ kind = 7 := by omega
        rcases hk' with rfl | rfl | rfl | rfl | rfl <;> cases xc <;> cases xu <;> simp [may, isOpen, upto, thn] at hm hent ⊢ <;> omega
      · have := h.ent e he
        exact ⟨this.1, this.2.1, this.2.2.1, this.2.2.2.1, by omega, this.2.2.2.2.2⟩
  split
  · refine ⟨?_, Nat.le_trans mdel_len key.len, fun e he => key.ent e (mdel_mem he), key.nx⟩
    show (keysOf (mdL _ _)).Nodup
    rw [mdL_is, mdel_keys]
    exact key.nodup.erase _
  · exact key
theorem Tab.Fine.note {t : Tab} {i : Int} (h : t.Fine i) (h0 : 0 ≤ i) {kind tx prev : Int} (hk : 3 ≤ kind ∧ kind ≤ 7) : (t.note (i + 1) kind tx prev).t.Fine (i + 1) := by
  unfold Tab.note
  split
  · exact h.mono (by omega)
  rw [if_neg (show ¬ (kind = 2 ∨ kind = 8) by omega), if_neg (show ¬ kind = 1 by omega)]
  split
  · exact h.mono (by omega)
  · rename_i x hx
    exact h.goes h0 hx hk

/-! ### What a table tells, loaded -/

theorem rising_lt {l : List Int} (h : l.Nodup) : (rising l).Pairwise (· < ·) := by
  have tr : ∀ a b c : Int, decide (a ≤ b) = true → decide (b ≤ c) = true → decide (a ≤ c) = true := fun a b c h1 h2 => by simp at *; omega
  have to : ∀ a b : Int, (decide (a ≤ b) || decide (b ≤ a)) = true := fun a b => by simp; omega
  have h1 : (rising l).Pairwise (fun a b => decide (a ≤ b) = true) := List.pairwise_mergeSort tr to l
  have h2 : (rising l).Nodup := (List.mergeSort_perm l _).nodup_iff.2 h
  exact (h1.and h2).imp fun ⟨a, b⟩ => by simp at a; omega
theorem list_at {t : Tab} {a : Int} (h : t.Fine a) {k : Int} (hk : k ∈ keysOf t.live) : ∃ x, (k, x) ∈ t.live ∧ (mgL t.live k).getD noLv = x ∧ x.1 = k := by
  obtain ⟨e, he, rfl⟩ := List.mem_map.1 hk
  refine ⟨e.2, he, ?_, (h.ent e he).1⟩
  rw [mgL_is, mget_of_mem h.nodup he]; rfl
theorem goodL_of {n : Int} : ∀ {a : Int} {l : List Lv}, l.Pairwise (fun x y => x.1 < y.1) → (∀ x ∈ l, a < x.1 ∧ x.1 < n ∧ 1 ≤ x.2.1 ∧ x.2.1 ≤ top ∧ ¬ (x.2.2.1 = true ∧ x.2.2.2 = true)) → goodL n a l
  | _, [], _, _ => trivial
  | a, x :: l, hp, h => by
    obtain ⟨h1, h2⟩ := List.pairwise_cons.1 hp
    obtain ⟨g1, g2, g3, g4, g5⟩ := h x (by simp)
    exact ⟨g1, g2, g3, g4, g5, goodL_of h2 fun y hy => ⟨h1 y hy, (h y (by simp [hy])).2⟩⟩
theorem list_good {t : Tab} {a : Int} (h : t.Fine a) (ha : a ≤ 1000) (dirty : List (Int × Int)) : LoadOk (t.list, dirty, t.next) := by
  have hnx := h.nx
  refine ⟨by simp [within]; omega, by rw [show (t.list, dirty, t.next).1.length = t.list.length from rfl, t.list_len]; exact h.len, goodL_of ?_ fun x hx => ?_⟩
  · show t.list.Pairwise _
    unfold Tab.list
    rw [List.pairwise_map]
    refine (rising_lt h.nodup).imp_of_mem fun {k m} hk hm hlt => ?_
    obtain ⟨x, _, hx, hx1⟩ := list_at h (rising_mem.1 hk)
    obtain ⟨y, _, hy, hy1⟩ := list_at h (rising_mem.1 hm)
    rw [hx, hy, hx1, hy1]; exact hlt
  · have hx : x ∈ t.list := hx
    obtain ⟨k, hk, rfl⟩ := List.mem_map.1 hx
    obtain ⟨y, hy1, hy2, hy3⟩ := list_at h (rising_mem.1 hk)
    have := h.ent _ hy1
    simp only at this
    rw [hy2]
    show 0 < y.1 ∧ y.1 < t.next ∧ _ ∧ y.2.1 ≤ top ∧ _
    refine ⟨by omega, by omega, this.2.2.2.1, by simp only [top]; omega, this.2.2.2.2.2⟩
theorem list_perm {t : Tab} {a : Int} (h : t.Fine a) : (ents t.list).Perm t.live := by
  have e1 : ents t.list = (rising (keysOf t.live)).map fun k => (k, (mgL t.live k).getD noLv) := by
    unfold ents Tab.list
    rw [List.map_map]
    refine List.map_congr_left fun k hk => ?_
    obtain ⟨x, _, hx, hx1⟩ := list_at h (rising_mem.1 hk)
    simp [hx, hx1]
  have e2 : t.live = (keysOf t.live).map fun k => (k, (mgL t.live k).getD noLv) := by
    unfold keysOf
    rw [List.map_map]
    conv => lhs; rw [← List.map_id t.live]
    refine List.map_congr_left fun e he => ?_
    simp only [Function.comp, id]
    rw [mgL_is, mget_of_mem h.nodup he]
    rfl
  rw [e1]
  conv => rhs; rw [e2]
  exact (List.mergeSort_perm _ _).map _
theorem like_loaded {t : Tab} {a : Int} (h : t.Fine a) (ha : a ≤ 1000) : t.Like ⟨t.next, ents t.list⟩ := ⟨rfl, (list_perm h).symm, h.nodup, h.ok ha⟩

/-! ### Two of a kind -/

theorem Tab.Like.list {t u : Tab} (h : t.Like u) : t.list = u.list := by
  unfold Tab.list
  rw [show rising (keysOf t.live) = rising (keysOf u.live) from rising_perm (h.perm.map (fun e : Int × Lv => e.1))]
  refine List.map_congr_left fun k _ => ?_
  rw [mgL_is, mgL_is, mget_perm h.perm h.nodup]
theorem Tab.Like.ok' {t u : Tab} (h : t.Like u) : u.ok := ⟨by rw [← h.perm.length_eq]; exact h.ok.1, h.nx ▸ h.ok.2⟩
theorem Tab.Like.begin {t u : Tab} (h : t.Like u) (lsn : Int) : (t.begin lsn).n = (u.begin lsn).n ∧ (t.begin lsn).e = (u.begin lsn).e ∧ (t.begin lsn).t.Like (u.begin lsn).t := by
  unfold Tab.begin
  rw [← h.nx, ← h.perm.length_eq]
  split
  · exact ⟨rfl, rfl, h⟩
  split
  · exact ⟨rfl, rfl, h⟩
  · rename_i hn
    refine ⟨rfl, rfl, rfl, mset_perm h.perm h.nodup _ _, ?_, ?_⟩
    · show (keysOf (msL _ _ _)).Nodup
      rw [msL_is]
      cases hg : mget (k := .int .i64) (v := kL) t.live t.next with
      | some x => rw [mset_keys_some (by rw [hg]; rfl)]; exact h.nodup
      | none =>
        rw [mset_none hg]
        simp only [keysOf, List.map_append, List.map_cons, List.map_nil]
        refine List.nodup_append.2 ⟨h.nodup, by simp, fun a ha b hb => ?_⟩
        simp at hb
        subst hb
        obtain ⟨e, he, rfl⟩ := List.mem_map.1 ha
        exact mget_none.1 hg e he
    · have h1 := h.ok
      refine ⟨Nat.le_trans (mset_len (q := .i64) (v := kL)) (by omega), ?_, ?_⟩
      · show 1 ≤ t.next + 1; have := h1.2.1; omega
      · show t.next + 1 ≤ top + 1; omega
theorem Tab.Like.goes {t u : Tab} (h : t.Like u) {x : Lv} {lsn kind tx prev : Int} (hx : mgL t.live tx = some x) : (t.goes x lsn kind tx prev).e = (u.goes x lsn kind tx prev).e ∧ (t.goes x lsn kind tx prev).t.Like (u.goes x lsn kind tx prev).t := by
  have hs : (mgL t.live tx).isSome = true := by rw [hx]; rfl
  unfold Tab.goes
  split
  · exact ⟨rfl, h⟩
  split
  · exact ⟨rfl, h⟩
  have hp := mset_perm (q := .i64) (v := kL) h.perm h.nodup tx (upto (thn kind x) lsn)
  have hn : (keysOf (msL t.live tx (upto (thn kind x) lsn))).Nodup := by rw [msL_is, mset_keys_some hs]; exact h.nodup
  have hl : (msL t.live tx (upto (thn kind x) lsn)).length ≤ 32 := by rw [msL_is, mset_len_some hs]; exact h.ok.1
  refine ⟨rfl, h.nx, ?_, ?_, ?_⟩
  · show (if kind = 7 then _ else _ : List (Int × Lv)).Perm (if kind = 7 then _ else _)
    split
    · exact mdel_perm hp hn tx
    · exact hp
  · show (keysOf (if kind = 7 then _ else _ : List (Int × Lv))).Nodup
    split
    · rw [mdL_is, mdel_keys]; exact hn.erase _
    · exact hn
  · refine ⟨?_, h.ok.2⟩
    show (if kind = 7 then _ else _ : List (Int × Lv)).length ≤ 32
    split
    · exact Nat.le_trans mdel_len hl
    · exact hl
theorem Tab.Like.note {t u : Tab} (h : t.Like u) (lsn kind tx prev : Int) : (t.note lsn kind tx prev).e = (u.note lsn kind tx prev).e ∧ (t.note lsn kind tx prev).t.Like (u.note lsn kind tx prev).t := by
  have hm : mgL u.live tx = mgL t.live tx := (mget_perm (q := .i64) (v := kL) h.perm h.nodup tx).symm
  unfold Tab.note
  rw [← h.nx, hm]
  split
  · exact ⟨rfl, h⟩
  split
  · exact ⟨rfl, h⟩
  split
  · split
    · exact ⟨rfl, h⟩
    · exact ⟨(h.begin lsn).2.1, (h.begin lsn).2.2⟩
  split
  · exact ⟨rfl, h⟩
  split
  · exact ⟨rfl, h⟩
  · rename_i x hx
    exact h.goes hx

def vc5 : Prop := vc Try.f5.body Try.f5.results Try.f5.ntmps [(7, some sp7), (12, some sp12), (6, some sp6), (19, some sp19), (14, some sp14), (13, some sp13), (15, some sp15), (20, some sp20), (21, some sp21), (22, some sp22)] sp5 ann5
theorem vc5_is : vc5 = (
∀ (g : BackArg), Holds (kM.slice.ok g.moves) → Holds (kR.slice.ok g.records) → Holds (kD.slice.ok g.dirty) → Holds (InR IntKind.i64 g.odd.fst) → Holds (InR IntKind.i64 g.odd.snd.fst) → (∀ (r : Unit), Holds (within (1 : Int) (1 : Int) (2147483648 : Int) = false) → false = true) ∧ ∀ (r : Unit), Holds (within (1 : Int) (1 : Int) (2147483648 : Int) = true) → SplitB ((0 : Int) != (0 : Int)) (false = true) (SplitB (!true) (false = true) ((∃ (x : OneAt), Holds (x.i ≤ (60 : Nat) ∧ x.t.Fine (↑x.i : Int)) ∧ (0 : Int) = (↑x.i : Int) ∧ (1 : Int) = x.t.next ∧ nilT (Int × Int × Int × Bool × Bool) = x.t.live) ∧ ∀ (x : OneAt), Holds (x.i ≤ (60 : Nat) ∧ x.t.Fine (↑x.i : Int)) → SplitB (decide ((↑x.i : Int) < (↑g.moves.length : Int))) (SplitB (decide ((↑x.i : Int) < (60 : Int))) (Holds x.t.ok ∧ SplitB ((↑x.t.list.length : Int) == (0 : Int)) (Holds x.t.ok ∧ ∀ (r : BeginOut), Holds (r = x.t.begin (IntKind.i64.wrap ((↑x.i : Int) + (1 : Int)))) → ∃ (y : OneAt), Holds (y.i ≤ (60 : Nat) ∧ y.t.Fine (↑y.i : Int)) ∧ Holds ((60 : Nat) - y.i < (60 : Nat) - x.i) ∧ IntKind.i64.wrap ((↑x.i : Int) + (1 : Int)) = (↑y.i : Int) ∧ r.t.next = y.t.next ∧ r.t.live = y.t.live) (Holds ((0 : Int) ≤ (↑x.i : Int)) ∧ Holds ((↑x.i : Int) < (↑g.moves.length : Int)) ∧ Holds ((↑x.i : Int).toNat < g.moves.length) ∧ Holds ((1 : Int) ≤ (3 : Int)) ∧ Holds ((3 : Int) ≤ (1000000 : Int)) ∧ SplitB (rs (g.moves.getD (↑x.i : Int).toNat ((0 : Int), (0 : Int))).snd (3 : Int) == (0 : Int)) (Holds x.t.ok ∧ ∀ (r : BeginOut), Holds (r = x.t.begin (IntKind.i64.wrap ((↑x.i : Int) + (1 : Int)))) → ∃ (y : OneAt), Holds (y.i ≤ (60 : Nat) ∧ y.t.Fine (↑y.i : Int)) ∧ Holds ((60 : Nat) - y.i < (60 : Nat) - x.i) ∧ IntKind.i64.wrap ((↑x.i : Int) + (1 : Int)) = (↑y.i : Int) ∧ r.t.next = y.t.next ∧ r.t.live = y.t.live) (Holds ((0 : Int) ≤ (↑x.i : Int)) ∧ Holds ((↑x.i : Int) < (↑g.moves.length : Int)) ∧ Holds ((↑x.i : Int).toNat < g.moves.length) ∧ Holds ((1 : Int) ≤ (↑x.t.list.length : Int)) ∧ Holds ((↑x.t.list.length : Int) ≤ (1000000 : Int)) ∧ Holds ((0 : Int) ≤ rs (g.moves.getD (↑x.i : Int).toNat ((0 : Int), (0 : Int))).snd (↑x.t.list.length : Int)) ∧ Holds (rs (g.moves.getD (↑x.i : Int).toNat ((0 : Int), (0 : Int))).snd (↑x.t.list.length : Int) < (↑x.t.list.length : Int)) ∧ Holds ((rs (g.moves.getD (↑x.i : Int).toNat ((0 : Int), (0 : Int))).snd (↑x.t.list.length : Int)).toNat < x.t.list.length) ∧ Holds ((0 : Int) ≤ (↑x.i : Int)) ∧ Holds ((↑x.i : Int) < (↑g.moves.length : Int)) ∧ Holds ((↑x.i : Int).toNat < g.moves.length) ∧ Holds ((1 : Int) ≤ (5 : Int)) ∧ Holds ((5 : Int) ≤ (1000000 : Int)) ∧ Holds x.t.ok ∧ ∀ (r : NoteOut), Holds (r = x.t.note (IntKind.i64.wrap ((↑x.i : Int) + (1 : Int))) (IntKind.i64.wrap ((3 : Int) + rs (g.moves.getD (↑x.i : Int).toNat ((0 : Int), (0 : Int))).fst (5 : Int))) (x.t.list.getD (rs (g.moves.getD (↑x.i : Int).toNat ((0 : Int), (0 : Int))).snd (↑x.t.list.length : Int)).toNat ((0 : Int), (0 : Int), false, false)).fst (x.t.list.getD (rs (g.moves.getD (↑x.i : Int).toNat ((0 : Int), (0 : Int))).snd (↑x.t.list.length : Int)).toNat ((0 : Int), (0 : Int), false, false)).snd.fst) → ∃ (y : OneAt), Holds (y.i ≤ (60 : Nat) ∧ y.t.Fine (↑y.i : Int)) ∧ Holds ((60 : Nat) - y.i < (60 : Nat) - x.i) ∧ IntKind.i64.wrap ((↑x.i : Int) + (1 : Int)) = (↑y.i : Int) ∧ r.t.next = y.t.next ∧ r.t.live = y.t.live))) (Holds x.t.ok ∧ (∀ (r : Unit), Holds ¬LoadOk (x.t.list, g.dirty, x.t.next) → false = true) ∧ ∀ (r : Unit), Holds (LoadOk (x.t.list, g.dirty, x.t.next)) → SplitB ((0 : Int) != (0 : Int)) (false = true) ((∃ (x_1 : TwoAt), Holds (x_1.i ≤ (100 : Nat) ∧ x_1.t.Like x_1.u) ∧ (0 : Int) = (↑x_1.i : Int) ∧ x.t.next = x_1.t.next ∧ x.t.live = x_1.t.live ∧ x.t.next = x_1.u.next ∧ ents x.t.list = x_1.u.live) ∧ ∀ (x_1 : TwoAt), Holds (x_1.i ≤ (100 : Nat) ∧ x_1.t.Like x_1.u) → SplitB (decide ((↑x_1.i : Int) < (↑g.records.length : Int))) (SplitB (decide ((↑x_1.i : Int) < (100 : Int))) (Holds ((0 : Int) ≤ (↑x_1.i : Int)) ∧ Holds ((↑x_1.i : Int) < (↑g.records.length : Int)) ∧ Holds ((↑x_1.i : Int).toNat < g.records.length) ∧ Holds ((0 : Int) ≤ (↑x_1.i : Int)) ∧ Holds ((↑x_1.i : Int) < (↑g.records.length : Int)) ∧ Holds ((↑x_1.i : Int).toNat < g.records.length) ∧ Holds x_1.t.ok ∧ ∀ (r : NoteOut), Holds (r = x_1.t.note (g.records.getD (↑x_1.i : Int).toNat ((0 : Int), (0 : Int), (0 : Int), (0 : Int), ((0 : Int), (0 : Int)), ((0 : Int), (0 : Int)), (0 : Int), ((0 : Int), (0 : Int), ((0 : Int), (0 : Int)), (0 : Int)), [], [], (0 : Int))).fst (g.records.getD (↑x_1.i : Int).toNat ((0 : Int), (0 : Int), (0 : Int), (0 : Int), ((0 : Int), (0 : Int)), ((0 : Int), (0 : Int)), (0 : Int), ((0 : Int), (0 : Int), ((0 : Int), (0 : Int)), (0 : Int)), [], [], (0 : Int))).snd.fst (g.records.getD (↑x_1.i : Int).toNat ((0 : Int), (0 : Int), (0 : Int), (0 : Int), ((0 : Int), (0 : Int)), ((0 : Int), (0 : Int)), (0 : Int), ((0 : Int), (0 : Int), ((0 : Int), (0 : Int)), (0 : Int)), [], [], (0 : Int))).snd.snd.fst (g.records.getD (↑x_1.i : Int).toNat ((0 : Int), (0 : Int), (0 : Int), (0 : Int), ((0 : Int), (0 : Int)), ((0 : Int), (0 : Int)), (0 : Int), ((0 : Int), (0 : Int), ((0 : Int), (0 : Int)), (0 : Int)), [], [], (0 : Int))).snd.snd.snd.fst) → Holds x_1.u.ok ∧ ∀ (r_1 : NoteOut), Holds (r_1 = x_1.u.note (g.records.getD (↑x_1.i : Int).toNat ((0 : Int), (0 : Int), (0 : Int), (0 : Int), ((0 : Int), (0 : Int)), ((0 : Int), (0 : Int)), (0 : Int), ((0 : Int), (0 : Int), ((0 : Int), (0 : Int)), (0 : Int)), [], [], (0 : Int))).fst (g.records.getD (↑x_1.i : Int).toNat ((0 : Int), (0 : Int), (0 : Int), (0 : Int), ((0 : Int), (0 : Int)), ((0 : Int), (0 : Int)), (0 : Int), ((0 : Int), (0 : Int), ((0 : Int), (0 : Int)), (0 : Int)), [], [], (0 : Int))).snd.fst (g.records.getD (↑x_1.i : Int).toNat ((0 : Int), (0 : Int), (0 : Int), (0 : Int), ((0 : Int), (0 : Int)), ((0 : Int), (0 : Int)), (0 : Int), ((0 : Int), (0 : Int), ((0 : Int), (0 : Int)), (0 : Int)), [], [], (0 : Int))).snd.snd.fst (g.records.getD (↑x_1.i : Int).toNat ((0 : Int), (0 : Int), (0 : Int), (0 : Int), ((0 : Int), (0 : Int)), ((0 : Int), (0 : Int)), (0 : Int), ((0 : Int), (0 : Int), ((0 : Int), (0 : Int)), (0 : Int)), [], [], (0 : Int))).snd.snd.snd.fst) → SplitB (r.e != r_1.e) (false = true) (Holds r.t.ok ∧ Holds r_1.t.ok ∧ SplitB (!decide (r.t.list = r_1.t.list)) (false = true) (SplitB (r.t.next != r_1.t.next) (false = true) (Holds ((0 : Int) ≤ (↑x_1.i : Int)) ∧ Holds ((↑x_1.i : Int) < (↑g.records.length : Int)) ∧ Holds ((↑x_1.i : Int).toNat < g.records.length) ∧ Holds r.t.ok ∧ ∀ (r_2 : BeginOut), Holds (r_2 = r.t.begin (g.records.getD (↑x_1.i : Int).toNat ((0 : Int), (0 : Int), (0 : Int), (0 : Int), ((0 : Int), (0 : Int)), ((0 : Int), (0 : Int)), (0 : Int), ((0 : Int), (0 : Int), ((0 : Int), (0 : Int)), (0 : Int)), [], [], (0 : Int))).fst) → Holds ((0 : Int) ≤ (↑x_1.i : Int)) ∧ Holds ((↑x_1.i : Int) < (↑g.records.length : Int)) ∧ Holds ((↑x_1.i : Int).toNat < g.records.length) ∧ Holds r_1.t.ok ∧ ∀ (r : BeginOut), Holds (r = r_1.t.begin (g.records.getD (↑x_1.i : Int).toNat ((0 : Int), (0 : Int), (0 : Int), (0 : Int), ((0 : Int), (0 : Int)), ((0 : Int), (0 : Int)), (0 : Int), ((0 : Int), (0 : Int), ((0 : Int), (0 : Int)), (0 : Int)), [], [], (0 : Int))).fst) → SplitB (r_2.n != r.n) (false = true) (SplitB (r_2.e != r.e) (false = true) (∃ (y : TwoAt), Holds (y.i ≤ (100 : Nat) ∧ y.t.Like y.u) ∧ Holds ((100 : Nat) - y.i < (100 : Nat) - x_1.i) ∧ IntKind.i64.wrap ((↑x_1.i : Int) + (1 : Int)) = (↑y.i : Int) ∧ r_2.t.next = y.t.next ∧ r_2.t.live = y.t.live ∧ r.t.next = y.u.next ∧ r.t.live = y.u.live)))))) (SplitB (decide (g.odd.fst < (1 : Int))) ((∀ (r : Unit), Holds ¬LoadOk ([g.odd], [], x.t.next) → SplitB (((23 : Int) == (23 : Int)) == true) (SplitB (true == true) (true = true) (false = true)) (false = true)) ∧ ∀ (r : Unit), Holds (LoadOk ([g.odd], [], x.t.next)) → SplitB (((0 : Int) == (23 : Int)) == true) (SplitB (false == true) (true = true) (false = true)) (false = true)) (SplitB (decide (g.odd.fst ≥ x.t.next)) ((∀ (r : Unit), Holds ¬LoadOk ([g.odd], [], x.t.next) → SplitB (((23 : Int) == (23 : Int)) == true) (SplitB (true == true) (true = true) (false = true)) (false = true)) ∧ ∀ (r : Unit), Holds (LoadOk ([g.odd], [], x.t.next)) → SplitB (((0 : Int) == (23 : Int)) == true) (SplitB (false == true) (true = true) (false = true)) (false = true)) (SplitB (decide (g.odd.snd.fst < (1 : Int))) ((∀ (r : Unit), Holds ¬LoadOk ([g.odd], [], x.t.next) → SplitB (((23 : Int) == (23 : Int)) == true) (SplitB (true == true) (true = true) (false = true)) (false = true)) ∧ ∀ (r : Unit), Holds (LoadOk ([g.odd], [], x.t.next)) → SplitB (((0 : Int) == (23 : Int)) == true) (SplitB (false == true) (true = true) (false = true)) (false = true)) (SplitB (decide (g.odd.snd.fst > (2147483647 : Int))) ((∀ (r : Unit), Holds ¬LoadOk ([g.odd], [], x.t.next) → SplitB (((23 : Int) == (23 : Int)) == true) (SplitB (true == true) (true = true) (false = true)) (false = true)) ∧ ∀ (r : Unit), Holds (LoadOk ([g.odd], [], x.t.next)) → SplitB (((0 : Int) == (23 : Int)) == true) (SplitB (false == true) (true = true) (false = true)) (false = true)) (SplitB g.odd.snd.snd.fst ((∀ (r : Unit), Holds ¬LoadOk ([g.odd], [], x.t.next) → SplitB (((23 : Int) == (23 : Int)) == g.odd.snd.snd.snd) (SplitB (true == g.odd.snd.snd.snd) (SplitB g.odd.snd.snd.snd (true = true) (((23 : Int) == (0 : Int)) = true)) (false = true)) (false = true)) ∧ ∀ (r : Unit), Holds (LoadOk ([g.odd], [], x.t.next)) → SplitB (((0 : Int) == (23 : Int)) == g.odd.snd.snd.snd) (SplitB (false == g.odd.snd.snd.snd) (SplitB g.odd.snd.snd.snd (true = true) (((0 : Int) == (0 : Int)) = true)) (false = true)) (false = true)) ((∀ (r : Unit), Holds ¬LoadOk ([g.odd], [], x.t.next) → SplitB (((23 : Int) == (23 : Int)) == false) (SplitB (true == false) (((23 : Int) == (0 : Int)) = true) (false = true)) (false = true)) ∧ ∀ (r : Unit), Holds (LoadOk ([g.odd], [], x.t.next)) → SplitB (((0 : Int) == (23 : Int)) == false) (SplitB (false == false) (((0 : Int) == (0 : Int)) = true) (false = true)) (false = true)))))))) (SplitB (decide (g.odd.fst < (1 : Int))) ((∀ (r : Unit), Holds ¬LoadOk ([g.odd], [], x.t.next) → SplitB (((23 : Int) == (23 : Int)) == true) (SplitB (true == true) (true = true) (false = true)) (false = true)) ∧ ∀ (r : Unit), Holds (LoadOk ([g.odd], [], x.t.next)) → SplitB (((0 : Int) == (23 : Int)) == true) (SplitB (false == true) (true = true) (false = true)) (false = true)) (SplitB (decide (g.odd.fst ≥ x.t.next)) ((∀ (r : Unit), Holds ¬LoadOk ([g.odd], [], x.t.next) → SplitB (((23 : Int) == (23 : Int)) == true) (SplitB (true == true) (true = true) (false = true)) (false = true)) ∧ ∀ (r : Unit), Holds (LoadOk ([g.odd], [], x.t.next)) → SplitB (((0 : Int) == (23 : Int)) == true) (SplitB (false == true) (true = true) (false = true)) (false = true)) (SplitB (decide (g.odd.snd.fst < (1 : Int))) ((∀ (r : Unit), Holds ¬LoadOk ([g.odd], [], x.t.next) → SplitB (((23 : Int) == (23 : Int)) == true) (SplitB (true == true) (true = true) (false = true)) (false = true)) ∧ ∀ (r : Unit), Holds (LoadOk ([g.odd], [], x.t.next)) → SplitB (((0 : Int) == (23 : Int)) == true) (SplitB (false == true) (true = true) (false = true)) (false = true)) (SplitB (decide (g.odd.snd.fst > (2147483647 : Int))) ((∀ (r : Unit), Holds ¬LoadOk ([g.odd], [], x.t.next) → SplitB (((23 : Int) == (23 : Int)) == true) (SplitB (true == true) (true = true) (false = true)) (false = true)) ∧ ∀ (r : Unit), Holds (LoadOk ([g.odd], [], x.t.next)) → SplitB (((0 : Int) == (23 : Int)) == true) (SplitB (false == true) (true = true) (false = true)) (false = true)) (SplitB g.odd.snd.snd.fst ((∀ (r : Unit), Holds ¬LoadOk ([g.odd], [], x.t.next) → SplitB (((23 : Int) == (23 : Int)) == g.odd.snd.snd.snd) (SplitB (true == g.odd.snd.snd.snd) (SplitB g.odd.snd.snd.snd (true = true) (((23 : Int) == (0 : Int)) = true)) (false = true)) (false = true)) ∧ ∀ (r : Unit), Holds (LoadOk ([g.odd], [], x.t.next)) → SplitB (((0 : Int) == (23 : Int)) == g.odd.snd.snd.snd) (SplitB (false == g.odd.snd.snd.snd) (SplitB g.odd.snd.snd.snd (true = true) (((0 : Int) == (0 : Int)) = true)) (false = true)) (false = true)) ((∀ (r : Unit), Holds ¬LoadOk ([g.odd], [], x.t.next) → SplitB (((23 : Int) == (23 : Int)) == false) (SplitB (true == false) (((23 : Int) == (0 : Int)) = true) (false = true)) (false = true)) ∧ ∀ (r : Unit), Holds (LoadOk ([g.odd], [], x.t.next)) → SplitB (((0 : Int) == (23 : Int)) == false) (SplitB (false == false) (((0 : Int) == (0 : Int)) = true) (false = true)) (false = true)))))))))) (Holds x.t.ok ∧ (∀ (r : Unit), Holds ¬LoadOk (x.t.list, g.dirty, x.t.next) → false = true) ∧ ∀ (r : Unit), Holds (LoadOk (x.t.list, g.dirty, x.t.next)) → SplitB ((0 : Int) != (0 : Int)) (false = true) ((∃ (x_1 : TwoAt), Holds (x_1.i ≤ (100 : Nat) ∧ x_1.t.Like x_1.u) ∧ (0 : Int) = (↑x_1.i : Int) ∧ x.t.next = x_1.t.next ∧ x.t.live = x_1.t.live ∧ x.t.next = x_1.u.next ∧ ents x.t.list = x_1.u.live) ∧ ∀ (x_1 : TwoAt), Holds (x_1.i ≤ (100 : Nat) ∧ x_1.t.Like x_1.u) → SplitB (decide ((↑x_1.i : Int) < (↑g.records.length : Int))) (SplitB (decide ((↑x_1.i : Int) < (100 : Int))) (Holds ((0 : Int) ≤ (↑x_1.i : Int)) ∧ Holds ((↑x_1.i : Int) < (↑g.records.length : Int)) ∧ Holds ((↑x_1.i : Int).toNat < g.records.length) ∧ Holds ((0 : Int) ≤ (↑x_1.i : Int)) ∧ Holds ((↑x_1.i : Int) < (↑g.records.length : Int)) ∧ Holds ((↑x_1.i : Int).toNat < g.records.length) ∧ Holds x_1.t.ok ∧ ∀ (r : NoteOut), Holds (r = x_1.t.note (g.records.getD (↑x_1.i : Int).toNat ((0 : Int), (0 : Int), (0 : Int), (0 : Int), ((0 : Int), (0 : Int)), ((0 : Int), (0 : Int)), (0 : Int), ((0 : Int), (0 : Int), ((0 : Int), (0 : Int)), (0 : Int)), [], [], (0 : Int))).fst (g.records.getD (↑x_1.i : Int).toNat ((0 : Int), (0 : Int), (0 : Int), (0 : Int), ((0 : Int), (0 : Int)), ((0 : Int), (0 : Int)), (0 : Int), ((0 : Int), (0 : Int), ((0 : Int), (0 : Int)), (0 : Int)), [], [], (0 : Int))).snd.fst (g.records.getD (↑x_1.i : Int).toNat ((0 : Int), (0 : Int), (0 : Int), (0 : Int), ((0 : Int), (0 : Int)), ((0 : Int), (0 : Int)), (0 : Int), ((0 : Int), (0 : Int), ((0 : Int), (0 : Int)), (0 : Int)), [], [], (0 : Int))).snd.snd.fst (g.records.getD (↑x_1.i : Int).toNat ((0 : Int), (0 : Int), (0 : Int), (0 : Int), ((0 : Int), (0 : Int)), ((0 : Int), (0 : Int)), (0 : Int), ((0 : Int), (0 : Int), ((0 : Int), (0 : Int)), (0 : Int)), [], [], (0 : Int))).snd.snd.snd.fst) → Holds x_1.u.ok ∧ ∀ (r_1 : NoteOut), Holds (r_1 = x_1.u.note (g.records.getD (↑x_1.i : Int).toNat ((0 : Int), (0 : Int), (0 : Int), (0 : Int), ((0 : Int), (0 : Int)), ((0 : Int), (0 : Int)), (0 : Int), ((0 : Int), (0 : Int), ((0 : Int), (0 : Int)), (0 : Int)), [], [], (0 : Int))).fst (g.records.getD (↑x_1.i : Int).toNat ((0 : Int), (0 : Int), (0 : Int), (0 : Int), ((0 : Int), (0 : Int)), ((0 : Int), (0 : Int)), (0 : Int), ((0 : Int), (0 : Int), ((0 : Int), (0 : Int)), (0 : Int)), [], [], (0 : Int))).snd.fst (g.records.getD (↑x_1.i : Int).toNat ((0 : Int), (0 : Int), (0 : Int), (0 : Int), ((0 : Int), (0 : Int)), ((0 : Int), (0 : Int)), (0 : Int), ((0 : Int), (0 : Int), ((0 : Int), (0 : Int)), (0 : Int)), [], [], (0 : Int))).snd.snd.fst (g.records.getD (↑x_1.i : Int).toNat ((0 : Int), (0 : Int), (0 : Int), (0 : Int), ((0 : Int), (0 : Int)), ((0 : Int), (0 : Int)), (0 : Int), ((0 : Int), (0 : Int), ((0 : Int), (0 : Int)), (0 : Int)), [], [], (0 : Int))).snd.snd.snd.fst) → SplitB (r.e != r_1.e) (false = true) (Holds r.t.ok ∧ Holds r_1.t.ok ∧ SplitB (!decide (r.t.list = r_1.t.list)) (false = true) (SplitB (r.t.next != r_1.t.next) (false = true) (Holds ((0 : Int) ≤ (↑x_1.i : Int)) ∧ Holds ((↑x_1.i : Int) < (↑g.records.length : Int)) ∧ Holds ((↑x_1.i : Int).toNat < g.records.length) ∧ Holds r.t.ok ∧ ∀ (r_2 : BeginOut), Holds (r_2 = r.t.begin (g.records.getD (↑x_1.i : Int).toNat ((0 : Int), (0 : Int), (0 : Int), (0 : Int), ((0 : Int), (0 : Int)), ((0 : Int), (0 : Int)), (0 : Int), ((0 : Int), (0 : Int), ((0 : Int), (0 : Int)), (0 : Int)), [], [], (0 : Int))).fst) → Holds ((0 : Int) ≤ (↑x_1.i : Int)) ∧ Holds ((↑x_1.i : Int) < (↑g.records.length : Int)) ∧ Holds ((↑x_1.i : Int).toNat < g.records.length) ∧ Holds r_1.t.ok ∧ ∀ (r : BeginOut), Holds (r = r_1.t.begin (g.records.getD (↑x_1.i : Int).toNat ((0 : Int), (0 : Int), (0 : Int), (0 : Int), ((0 : Int), (0 : Int)), ((0 : Int), (0 : Int)), (0 : Int), ((0 : Int), (0 : Int), ((0 : Int), (0 : Int)), (0 : Int)), [], [], (0 : Int))).fst) → SplitB (r_2.n != r.n) (false = true) (SplitB (r_2.e != r.e) (false = true) (∃ (y : TwoAt), Holds (y.i ≤ (100 : Nat) ∧ y.t.Like y.u) ∧ Holds ((100 : Nat) - y.i < (100 : Nat) - x_1.i) ∧ IntKind.i64.wrap ((↑x_1.i : Int) + (1 : Int)) = (↑y.i : Int) ∧ r_2.t.next = y.t.next ∧ r_2.t.live = y.t.live ∧ r.t.next = y.u.next ∧ r.t.live = y.u.live)))))) (SplitB (decide (g.odd.fst < (1 : Int))) ((∀ (r : Unit), Holds ¬LoadOk ([g.odd], [], x.t.next) → SplitB (((23 : Int) == (23 : Int)) == true) (SplitB (true == true) (true = true) (false = true)) (false = true)) ∧ ∀ (r : Unit), Holds (LoadOk ([g.odd], [], x.t.next)) → SplitB (((0 : Int) == (23 : Int)) == true) (SplitB (false == true) (true = true) (false = true)) (false = true)) (SplitB (decide (g.odd.fst ≥ x.t.next)) ((∀ (r : Unit), Holds ¬LoadOk ([g.odd], [], x.t.next) → SplitB (((23 : Int) == (23 : Int)) == true) (SplitB (true == true) (true = true) (false = true)) (false = true)) ∧ ∀ (r : Unit), Holds (LoadOk ([g.odd], [], x.t.next)) → SplitB (((0 : Int) == (23 : Int)) == true) (SplitB (false == true) (true = true) (false = true)) (false = true)) (SplitB (decide (g.odd.snd.fst < (1 : Int))) ((∀ (r : Unit), Holds ¬LoadOk ([g.odd], [], x.t.next) → SplitB (((23 : Int) == (23 : Int)) == true) (SplitB (true == true) (true = true) (false = true)) (false = true)) ∧ ∀ (r : Unit), Holds (LoadOk ([g.odd], [], x.t.next)) → SplitB (((0 : Int) == (23 : Int)) == true) (SplitB (false == true) (true = true) (false = true)) (false = true)) (SplitB (decide (g.odd.snd.fst > (2147483647 : Int))) ((∀ (r : Unit), Holds ¬LoadOk ([g.odd], [], x.t.next) → SplitB (((23 : Int) == (23 : Int)) == true) (SplitB (true == true) (true = true) (false = true)) (false = true)) ∧ ∀ (r : Unit), Holds (LoadOk ([g.odd], [], x.t.next)) → SplitB (((0 : Int) == (23 : Int)) == true) (SplitB (false == true) (true = true) (false = true)) (false = true)) (SplitB g.odd.snd.snd.fst ((∀ (r : Unit), Holds ¬LoadOk ([g.odd], [], x.t.next) → SplitB (((23 : Int) == (23 : Int)) == g.odd.snd.snd.snd) (SplitB (true == g.odd.snd.snd.snd) (SplitB g.odd.snd.snd.snd (true = true) (((23 : Int) == (0 : Int)) = true)) (false = true)) (false = true)) ∧ ∀ (r : Unit), Holds (LoadOk ([g.odd], [], x.t.next)) → SplitB (((0 : Int) == (23 : Int)) == g.odd.snd.snd.snd) (SplitB (false == g.odd.snd.snd.snd) (SplitB g.odd.snd.snd.snd (true = true) (((0 : Int) == (0 : Int)) = true)) (false = true)) (false = true)) ((∀ (r : Unit), Holds ¬LoadOk ([g.odd], [], x.t.next) → SplitB (((23 : Int) == (23 : Int)) == false) (SplitB (true == false) (((23 : Int) == (0 : Int)) = true) (false = true)) (false = true)) ∧ ∀ (r : Unit), Holds (LoadOk ([g.odd], [], x.t.next)) → SplitB (((0 : Int) == (23 : Int)) == false) (SplitB (false == false) (((0 : Int) == (0 : Int)) = true) (false = true)) (false = true)))))))) (SplitB (decide (g.odd.fst < (1 : Int))) ((∀ (r : Unit), Holds ¬LoadOk ([g.odd], [], x.t.next) → SplitB (((23 : Int) == (23 : Int)) == true) (SplitB (true == true) (true = true) (false = true)) (false = true)) ∧ ∀ (r : Unit), Holds (LoadOk ([g.odd], [], x.t.next)) → SplitB (((0 : Int) == (23 : Int)) == true) (SplitB (false == true) (true = true) (false = true)) (false = true)) (SplitB (decide (g.odd.fst ≥ x.t.next)) ((∀ (r : Unit), Holds ¬LoadOk ([g.odd], [], x.t.next) → SplitB (((23 : Int) == (23 : Int)) == true) (SplitB (true == true) (true = true) (false = true)) (false = true)) ∧ ∀ (r : Unit), Holds (LoadOk ([g.odd], [], x.t.next)) → SplitB (((0 : Int) == (23 : Int)) == true) (SplitB (false == true) (true = true) (false = true)) (false = true)) (SplitB (decide (g.odd.snd.fst < (1 : Int))) ((∀ (r : Unit), Holds ¬LoadOk ([g.odd], [], x.t.next) → SplitB (((23 : Int) == (23 : Int)) == true) (SplitB (true == true) (true = true) (false = true)) (false = true)) ∧ ∀ (r : Unit), Holds (LoadOk ([g.odd], [], x.t.next)) → SplitB (((0 : Int) == (23 : Int)) == true) (SplitB (false == true) (true = true) (false = true)) (false = true)) (SplitB (decide (g.odd.snd.fst > (2147483647 : Int))) ((∀ (r : Unit), Holds ¬LoadOk ([g.odd], [], x.t.next) → SplitB (((23 : Int) == (23 : Int)) == true) (SplitB (true == true) (true = true) (false = true)) (false = true)) ∧ ∀ (r : Unit), Holds (LoadOk ([g.odd], [], x.t.next)) → SplitB (((0 : Int) == (23 : Int)) == true) (SplitB (false == true) (true = true) (false = true)) (false = true)) (SplitB g.odd.snd.snd.fst ((∀ (r : Unit), Holds ¬LoadOk ([g.odd], [], x.t.next) → SplitB (((23 : Int) == (23 : Int)) == g.odd.snd.snd.snd) (SplitB (true == g.odd.snd.snd.snd) (SplitB g.odd.snd.snd.snd (true = true) (((23 : Int) == (0 : Int)) = true)) (false = true)) (false = true)) ∧ ∀ (r : Unit), Holds (LoadOk ([g.odd], [], x.t.next)) → SplitB (((0 : Int) == (23 : Int)) == g.odd.snd.snd.snd) (SplitB (false == g.odd.snd.snd.snd) (SplitB g.odd.snd.snd.snd (true = true) (((0 : Int) == (0 : Int)) = true)) (false = true)) (false = true)) ((∀ (r : Unit), Holds ¬LoadOk ([g.odd], [], x.t.next) → SplitB (((23 : Int) == (23 : Int)) == false) (SplitB (true == false) (((23 : Int) == (0 : Int)) = true) (false = true)) (false = true)) ∧ ∀ (r : Unit), Holds (LoadOk ([g.odd], [], x.t.next)) → SplitB (((0 : Int) == (23 : Int)) == false) (SplitB (false == false) (((0 : Int) == (0 : Int)) = true) (false = true)) (false = true)))))))))))) := by kernel_rfl
theorem one_ok {x : Lv} {n : Int} (hn : 1 ≤ n ∧ n ≤ 2147483648) : LoadOk ([x], [], n) ↔ ¬ x.1 < 1 ∧ ¬ x.1 ≥ n ∧ ¬ x.2.1 < 1 ∧ ¬ x.2.1 > 2147483647 ∧ ¬ (x.2.2.1 = true ∧ x.2.2.2 = true) := by
  have hw : within n 1 2147483648 = true := by simp [within]; omega
  simp only [LoadOk, hw, goodL, top, List.length_cons, List.length_nil, true_and]
  constructor
  · rintro ⟨_, h1, h2, h3, h4, h5, _⟩
    exact ⟨by omega, by omega, by omega, by omega, h5⟩
  · rintro ⟨h1, h2, h3, h4, h5⟩
    exact ⟨by omega, by omega, by omega, by omega, by omega, h5, trivial⟩
theorem ok5 : vc5 := by
  rw [vc5_is]
  intro g h1 h2 h3 h4 h5
  have hL1 : (g.moves.length : Int) ≤ 9223372036854775807 := by have := h1.out.1; have := maxLen_is; omega
  have hL2 : (g.records.length : Int) ≤ 9223372036854775807 := by have := h2.out.1; have := maxLen_is; omega
  refine ⟨fun _ h => (by have := h.out; rw [w0] at this; cases this), fun _ _ => ⟨fun h => by simp at h, fun _ => ⟨fun h => by simp at h, fun _ => ⟨⟨⟨0, ⟨1, []⟩⟩, ⟨⟨by simp, fine0⟩⟩, rfl, rfl, rfl⟩, fun x hx => ?_⟩⟩⟩⟩
  obtain ⟨x1, hf⟩ := hx.out
  have hok := hf.ok (by omega)
  have hnx := hf.nx
  refine ⟨fun a => ⟨fun b => ?body, fun b => ?after1⟩, fun a => ?after2⟩
  case body =>
    have a : x.i < g.moves.length := by simp at a; omega
    have b : x.i < 60 := by simp at b; omega
    have hn : (↑x.i : Int).toNat = x.i := by omega
    have hw : IntKind.i64.wrap ((x.i : Int) + 1) = (x.i : Int) + 1 := wrap64 (by omega) (by omega)
    have hbeg := hf.begin (by omega) (by omega)
    have i1 : (x.i : Int) < g.moves.length := by omega
    have go : ∀ u : Tab, u.Fine ((x.i : Int) + 1) → ∃ y : OneAt, (y.i ≤ 60 ∧ y.t.Fine y.i) ∧ 60 - y.i < 60 - x.i ∧ (x.i : Int) + 1 = (y.i : Int) ∧ u.next = y.t.next ∧ u.live = y.t.live := fun u hu => ⟨⟨x.i + 1, u⟩, ⟨(by show x.i + 1 ≤ 60; omega), hu⟩, (by show 60 - (x.i + 1) < _; omega), rfl, rfl, rfl⟩
    rw [hn, hw]
    generalize g.moves.getD x.i ((0 : Int), (0 : Int)) = m
    simp only [holds_iff, splitB_iff, forall_eq, hok, i1, a, true_and]
    refine ⟨fun _ => go _ hbeg, fun c => ⟨by omega, by omega, by omega, fun _ => go _ hbeg, fun _ => ?_⟩⟩
    have hl0 : 1 ≤ x.t.list.length := by
      have : ¬ ((x.t.list.length : Int) = 0) := by simpa using c
      omega
    have hl1 : x.t.list.length ≤ 32 := by rw [x.t.list_len]; exact hok.1
    have hm := mod_in m.2 (m := (x.t.list.length : Int)) (by omega)
    have hm5 := mod_in m.1 (m := 5) (by omega)
    have hw2 : IntKind.i64.wrap (3 + rs m.1 5) = 3 + rs m.1 5 := wrap64 (by unfold rs; omega) (by unfold rs; omega)
    rw [hw2]
    unfold rs at *
    refine ⟨by omega, by omega, by omega, hm.1, hm.2, by omega, by omega, by omega, by omega, go _ ?_⟩
    exact hf.note (by omega) (by omega)
  all_goals
    refine ⟨⟨hok⟩, fun _ h => absurd (list_good hf (by omega) _) h.out, fun _ _ => ⟨fun h => by simp at h, fun _ => ⟨⟨⟨0, x.t, ⟨x.t.next, ents x.t.list⟩⟩, ⟨⟨by simp, like_loaded hf (by omega)⟩⟩, rfl, rfl, rfl, rfl, rfl⟩, fun y hy => ?_⟩⟩⟩
    obtain ⟨y1, hl⟩ := hy.out
    refine ⟨fun c => ⟨fun d => ?_, fun d => ?_⟩, fun c => ?_⟩
    · have a : y.i < g.records.length := by simp at c; omega
      have b : y.i < 100 := by simp at d; omega
      have hn : (↑y.i : Int).toNat = y.i := by omega
      have hw : IntKind.i64.wrap ((y.i : Int) + 1) = (y.i : Int) + 1 := wrap64 (by omega) (by omega)
      have i1 : (y.i : Int) < g.records.length := by omega
      have i0 : (0 : Int) ≤ y.i := by omega
      rw [hn, hw]
      generalize g.records.getD y.i _ = r
      obtain ⟨e1, e2⟩ := hl.note r.1 r.2.1 r.2.2.1 r.2.2.2.1
      obtain ⟨e3, e4, e5⟩ := e2.begin r.1
      have go : ∃ z : TwoAt, (z.i ≤ 100 ∧ z.t.Like z.u) ∧ 100 - z.i < 100 - y.i ∧ (y.i : Int) + 1 = (z.i : Int) ∧ ((y.t.note r.1 r.2.1 r.2.2.1 r.2.2.2.1).t.begin r.1).t.next = z.t.next ∧ ((y.t.note r.1 r.2.1 r.2.2.1 r.2.2.2.1).t.begin r.1).t.live = z.t.live ∧ ((y.u.note r.1 r.2.1 r.2.2.1 r.2.2.2.1).t.begin r.1).t.next = z.u.next ∧ ((y.u.note r.1 r.2.1 r.2.2.1 r.2.2.2.1).t.begin r.1).t.live = z.u.live :=
        ⟨⟨y.i + 1, _, _⟩, ⟨(by show y.i + 1 ≤ 100; omega), e5⟩, (by show 100 - (y.i + 1) < _; omega), rfl, rfl, rfl, rfl, rfl⟩
      simp only [holds_iff, splitB_iff, forall_eq, i1, i0, a, hl.ok, hl.ok', e2.ok, e2.ok', true_and, e1, e2.list, e2.nx, e3, e4, go]
      simp
    all_goals
      have hO := one_ok (x := g.odd) (n := x.t.next) (by omega)
      simp only [holds_iff, splitB_iff, hO]
      by_cases c1 : g.odd.1 < 1 <;> by_cases c2 : g.odd.1 ≥ x.t.next <;> by_cases c3 : g.odd.2.1 < 1 <;> by_cases c4 : g.odd.2.1 > 2147483647 <;> cases c5 : g.odd.2.2.1 <;> cases c6 : g.odd.2.2.2 <;> simp [c1, c2, c3, c4]

end Go.Proofs.Ytgoikphefcgleaa.VC
