/- Logs that are grown, from their beginning and from their checkpoints. Plain facts. Conditions: as each theorem states them. -/
import Derived.Test.YtncecddhknfimaaLq
set_option linter.unusedVariables false
set_option linter.unusedSimpArgs false
namespace Go.Proofs.Ytncecddhknfimaa.VC
open Go
def noM : Mv := (0, 0, 0, 0)
theorem grow_app : ∀ (a : List Mv) (b : List Mv) (l : List Rc), growF (a ++ b) l = growF b (growF a l)
  | [], b, l => rfl
  | m :: a, b, l => grow_app a b _
abbrev GL (ms : List Mv) (k : Nat) : List Rc := growF (ms.take k) []
theorem GL_succ {ms : List Mv} {k : Nat} (h : k < ms.length) : GL ms (k + 1) = GL ms k ++ [stepF (ms.getD k noM) (((GL ms k).length : Int) + 1) (fndOf (GL ms k))] := by
  unfold GL
  rw [take_succ_get h noM, grow_app]
  rfl
theorem GL_grown {ms : List Mv} : ∀ {k : Nat}, k ≤ ms.length → k ≤ 80 → (GL ms k).length = k ∧ ∃ n L s, Grown (GL ms k) n L s
  | 0, _, _ => ⟨rfl, 1, [], zeros 64, ⟨rfl, rfl, List.Pairwise.nil, Nat.zero_le _, Int.le_refl 1, Int.le_refl 1, (fun x hx => by cases hx), rfl, rfl, rfl, fun k hk => by
      have : (zeros 64).getD k 0 = 0 := by unfold zeros; rw [List.getD_eq_getElem?_getD, List.getElem?_replicate]; split <;> rfl
      rw [this]
      exact ⟨Int.le_refl 0, Int.le_refl 0⟩, (fun r hr => by cases hr), (fun r hr => by cases hr)⟩⟩
  | k + 1, h1, h2 => by
    obtain ⟨e, n, L, s, g⟩ := GL_grown (ms := ms) (k := k) (by omega) (by omega)
    have hs := GL_succ (ms := ms) (k := k) h1
    obtain ⟨n', L', g'⟩ := g.step (by omega) (ms.getD k noM)
    rw [hs]
    exact ⟨by rw [List.length_append, e]; rfl, n', L', _, g'⟩
theorem GL_take {ms : List Mv} {j : Nat} : ∀ {k : Nat}, j ≤ k → k ≤ ms.length → k ≤ 80 → (GL ms k).take j = GL ms j
  | 0, h, _, _ => by obtain rfl : j = 0 := by omega
                     rfl
  | k + 1, h, h1, h2 => by
    have e := (GL_grown (ms := ms) (k := k) (by omega) (by omega)).1
    rcases Nat.lt_or_ge k j with h' | h'
    · obtain rfl : j = k + 1 := by omega
      rw [List.take_of_length_le]
      rw [(GL_grown h1 h2).1]; exact Nat.le_refl _
    · rw [GL_succ h1, List.take_append_of_le_length (by omega)]
      exact GL_take h' (by omega) (by omega)
theorem GL_get {ms : List Mv} {k i : Nat} (hi : i < k) (h1 : k ≤ ms.length) (h2 : k ≤ 80) : (GL ms k).getD i noR = stepF (ms.getD i noM) ((i : Int) + 1) (fndOf (GL ms i)) := by
  have e1 := GL_take (j := i + 1) (by omega) h1 h2
  have e2 := GL_succ (ms := ms) (k := i) (by omega)
  have e3 := (GL_grown (ms := ms) (k := i) (by omega) (by omega)).1
  have : (GL ms k).getD i noR = ((GL ms k).take (i + 1)).getD i noR := by
    rw [List.getD_eq_getElem?_getD, List.getD_eq_getElem?_getD, List.getElem?_take, if_pos (Nat.lt_succ_self i)]
  rw [this, e1, e2, List.getD_eq_getElem?_getD, List.getElem?_append_right (by omega), e3, Nat.sub_self]
  rfl
/-- All that a law's log is. -/
theorem grownL_is (ms : List Mv) : ∃ q : List Mv, q.length ≤ 80 ∧ grownL ms = GL q q.length := ⟨ms.take 80, by rw [List.length_take]; omega, by unfold grownL GL; rw [List.take_of_length_le (Nat.le_refl (ms.take 80).length)]⟩
theorem Grown.runE0 {l : List Rc} {n : Int} {L : List Lv} {s : List Int} (h : Grown l n L s) : runF l 0 = some (⟨n, ents L⟩, s) ∧ runE l 0 = 0 := by
  have e1 : runF l 0 = some (⟨n, ents L⟩, s) := h.run
  refine ⟨e1, ?_⟩
  unfold runE
  rw [h.rt, if_neg (by decide), if_neg (by rintro (h | h | ⟨h, _⟩) <;> omega), e1]
  rfl
theorem chgS_pt {s : List Int} {r : Rc} (h : r.2.1 = 8) : chgS s r = s := by
  unfold chgS
  rw [if_neg (by unfold chg; omega)]
theorem goF_s : ∀ {l : List Rc} {t t' : Tab} {s s' : List Int} (z : List Int), goF t s l = some (t', s') → s' = l.foldl chgS s ∧ goF t z l = some (t', l.foldl chgS z)
  | [], t, t', s, s', z, h => by
    have h : some (t, s) = some (t', s') := h
    injection h with h; injection h with h1 h2
    subst h1 h2
    exact ⟨rfl, rfl⟩
  | r :: l, t, t', s, s', z, h => by
    have h : (if (noteR t r).e ≠ 0 then none else goF (noteR t r).t (chgS s r) l) = some (t', s') := h
    show _ ∧ (if (noteR t r).e ≠ 0 then none else goF (noteR t r).t (chgS z r) l) = _
    by_cases a : (noteR t r).e ≠ 0
    · rw [if_pos a] at h; cases h
    · rw [if_neg a] at h ⊢
      exact goF_s _ h
theorem getD_set (s : List Int) (p : Nat) (v : Int) (k : Nat) (hp : p < s.length) : (s.set p v).getD k 0 = if p = k then v else s.getD k 0 := by
  rw [List.getD_eq_getElem?_getD, List.getElem?_set, List.getD_eq_getElem?_getD]
  split
  · rename_i h; subst h; first | (rw [if_pos hp]; rfl) | rfl
  · rfl
theorem putS_get (s : List Int) (p v : Int) (k : Nat) (hp : p.toNat < s.length) : (putS s p v).getD k 0 = if p.toNat = k ∧ s.getD k 0 = 0 then v else s.getD k 0 := by
  unfold putS
  split
  · rename_i h
    rw [getD_set s _ v k hp]
    by_cases e : p.toNat = k
    · rw [if_pos e, if_pos ⟨e, by rw [← e]; exact h⟩]
    · rw [if_neg e, if_neg (fun h => e h.1)]
  · rename_i h
    rw [if_neg]
    rintro ⟨e, h0⟩
    exact h (by rw [e]; exact h0)
/-- What one table of pages says of another. -/
def Later (a b : List Int) : Prop := ∀ k, k < 64 → b.getD k 0 ≠ 0 → a.getD k 0 ≠ 0 ∧ a.getD k 0 ≤ b.getD k 0
theorem later_put {a b : List Int} (ha : a.length = 64) (hb : b.length = 64) (h : Later a b) {p v : Int} (hv : 1 ≤ v) (hs : ∀ k, k < 64 → a.getD k 0 ≤ v) : Later (putS a p v) (putS b p v) ∧ ∀ k, k < 64 → (putS a p v).getD k 0 ≤ v := by
  by_cases hp : p.toNat < 64
  · refine ⟨fun k hk hb0 => ?_, fun k hk => ?_⟩
    · have Pa := putS_get a p v k (by omega)
      have Pb := putS_get b p v k (by omega)
      have h1 := h k hk
      have h2 := hs k hk
      rw [Pb] at hb0
      rw [Pa, Pb]
      generalize a.getD k 0 = x at *
      generalize b.getD k 0 = y at *
      by_cases e : p.toNat = k
      · by_cases ex : x = 0 <;> by_cases ey : y = 0 <;> simp [e, ex, ey] at * <;> omega
      · simp [e] at *; exact h1 hb0
    · rw [putS_get a p v k (by omega)]
      split
      · exact Int.le_refl _
      · exact hs k hk
  · have : ∀ s : List Int, s.length = 64 → ∀ k, k < 64 → (putS s p v).getD k 0 = s.getD k 0 := fun s hs k hk => by
      unfold putS
      split
      · rw [List.getD_eq_getElem?_getD, List.getElem?_set, if_neg (by omega), List.getD_eq_getElem?_getD]
      · rfl
    refine ⟨fun k hk hb0 => ?_, fun k hk => ?_⟩
    · rw [this b hb k hk] at hb0 ⊢
      rw [this a ha k hk]
      exact h k hk hb0
    · rw [this a ha k hk]; exact hs k hk
theorem later_chg {a b : List Int} (ha : a.length = 64) (hb : b.length = 64) (h : Later a b) {r : Rc} (hv : 1 ≤ r.1) (hs : ∀ k, k < 64 → a.getD k 0 ≤ r.1) : Later (chgS a r) (chgS b r) ∧ ∀ k, k < 64 → (chgS a r).getD k 0 ≤ r.1 := by
  unfold chgS
  split
  · have h1 := later_put ha hb h (p := r.2.2.2.2.1.1) hv hs
    exact later_put (by rw [putS_len]; exact ha) (by rw [putS_len]; exact hb) h1.1 hv h1.2
  · exact ⟨h, hs⟩
theorem later_all : ∀ {l : List Rc} {a b : List Int} {q : Int}, a.length = 64 → b.length = 64 → Later a b → 0 ≤ q → (∀ k, k < 64 → a.getD k 0 ≤ q) → (∀ i, i < l.length → (l.getD i noR).1 = q + i + 1) → Later (l.foldl chgS a) (l.foldl chgS b)
  | [], _, _, _, _, _, h, _, _, _ => h
  | r :: l, a, b, q, ha, hb, h, hq, hs, hl => by
    have h0 : r.1 = q + 1 := by have := hl 0 (Nat.zero_lt_succ _); simpa using this
    have h1 := later_chg ha hb h (r := r) (by omega) (fun k hk => by have := hs k hk; omega)
    show Later (l.foldl chgS (chgS a r)) (l.foldl chgS (chgS b r))
    refine later_all (l := l) (a := chgS a r) (b := chgS b r) (q := q + 1) (by rw [chgS_len]; exact ha) (by rw [chgS_len]; exact hb) h1.1 (by omega) (fun k hk => by have := h1.2 k hk; omega) fun i hi => ?_
    have := hl (i + 1) (by simp only [List.length_cons]; omega)
    rw [show (r :: l).getD (i + 1) noR = l.getD i noR from rfl] at this
    rw [this]; omega
theorem put_keeps {s : List Int} (hs : s.length = 64) {p v : Int} (hv : 1 ≤ v) (k : Nat) (h : s.getD k 0 ≠ 0) : (putS s p v).getD k 0 ≠ 0 := by
  unfold putS
  split
  · rw [List.getD_eq_getElem?_getD, List.getElem?_set]
    split
    · split
      · simp; omega
      · rename_i h1 h2
        exfalso
        rw [h1] at h2
        rw [List.getD_eq_getElem?_getD, List.getElem?_eq_none (by omega)] at h
        exact h rfl
    · rw [← List.getD_eq_getElem?_getD]; exact h
  · exact h
theorem chg_keeps {s : List Int} (hs : s.length = 64) {r : Rc} (hv : 1 ≤ r.1) (k : Nat) (h : s.getD k 0 ≠ 0) : (chgS s r).getD k 0 ≠ 0 := by
  unfold chgS
  split
  · exact put_keeps (by rw [putS_len]; exact hs) hv k (put_keeps hs hv k h)
  · exact h
theorem fold_keeps : ∀ {l : List Rc} {s : List Int}, s.length = 64 → (∀ r ∈ l, 1 ≤ r.1) → ∀ k, s.getD k 0 ≠ 0 → (l.foldl chgS s).getD k 0 ≠ 0
  | [], _, _, _, _, h => h
  | r :: l, s, hs, hl, k, h => fold_keeps (l := l) (s := chgS s r) (by rw [chgS_len]; exact hs) (fun q hq => hl q (by simp [hq])) k (chg_keeps hs (hl r (by simp)) k h)
theorem chg_sets {s : List Int} (hs : s.length = 64) {r : Rc} (hv : 1 ≤ r.1) (hc : chg r) (hw : r.2.2.2.2.1.1.toNat < 64) (hp : r.2.2.2.2.2.1.1.toNat < 64) : (chgS s r).getD r.2.2.2.2.1.1.toNat 0 ≠ 0 ∧ (chgS s r).getD r.2.2.2.2.2.1.1.toNat 0 ≠ 0 := by
  have put : ∀ (s : List Int) (p : Int), s.length = 64 → p.toNat < 64 → (putS s p r.1).getD p.toNat 0 ≠ 0 := fun s p hs hp => by
    rw [putS_get s p r.1 _ (by omega)]
    split
    · omega
    · rename_i h; exact fun e => h ⟨rfl, e⟩
  have e1 := put s r.2.2.2.2.1.1 hs hw
  have l1 : (putS s r.2.2.2.2.1.1 r.1).length = 64 := by rw [putS_len]; exact hs
  have e2 := put (putS s r.2.2.2.2.1.1 r.1) r.2.2.2.2.2.1.1 l1 hp
  have e3 := put_keeps (s := putS s r.2.2.2.2.1.1 r.1) (p := r.2.2.2.2.2.1.1) (v := r.1) l1 hv r.2.2.2.2.1.1.toNat e1
  rw [show chgS s r = putS (putS s r.2.2.2.2.1.1 r.1) r.2.2.2.2.2.1.1 r.1 from if_pos hc]
  exact ⟨e3, e2⟩
theorem fold_sets : ∀ {l : List Rc} {s : List Int}, s.length = 64 → (∀ r ∈ l, 1 ≤ r.1) → ∀ r ∈ l, chg r → r.2.2.2.2.1.1.toNat < 64 → r.2.2.2.2.2.1.1.toNat < 64 → (l.foldl chgS s).getD r.2.2.2.2.1.1.toNat 0 ≠ 0 ∧ (l.foldl chgS s).getD r.2.2.2.2.2.1.1.toNat 0 ≠ 0
  | [], _, _, _, r, hr => nomatch hr
  | q :: l, s, hs, hl, r, hr => fun hc hw hp => by
    rcases List.mem_cons.1 hr with rfl | hr
    · have h := chg_sets hs (hl r (by simp)) hc hw hp
      have l1 : (chgS s r).length = 64 := by rw [chgS_len]; exact hs
      exact ⟨fold_keeps (l := l) (s := chgS s r) l1 (fun q hq => hl q (by simp [hq])) _ h.1, fold_keeps (l := l) (s := chgS s r) l1 (fun q hq => hl q (by simp [hq])) _ h.2⟩
    · have l1 : (chgS s q).length = 64 := by rw [chgS_len]; exact hs
      exact fold_sets (l := l) (s := chgS s q) l1 (fun y hy => hl y (by simp [hy])) r hr hc hw hp
theorem sets_get : ∀ {d : List (Int × Int)} {s : List Int}, s.length = 64 → (∀ x ∈ d, 0 ≤ x.1 ∧ x.1 < 64) → ∀ k : Nat, k < 64 → (setsS s d).getD k 0 = s.getD k 0 ∨ ∃ x ∈ d, x.1 = (k : Int) ∧ (setsS s d).getD k 0 = x.2
  | [], s, _, _, k, _ => .inl rfl
  | x :: d, s, hs, hd, k, hk => by
    have hx := hd x (by simp)
    rcases sets_get (d := d) (s := s.set x.1.toNat x.2) (by rw [List.length_set]; exact hs) (fun y hy => hd y (by simp [hy])) k hk with h | ⟨y, hy, h1, h2⟩
    · have h : (setsS s (x :: d)).getD k 0 = (s.set x.1.toNat x.2).getD k 0 := h
      rw [getD_set s _ _ k (by omega)] at h
      split at h
      · right; exact ⟨x, by simp, by omega, h⟩
      · left; exact h
    · right; exact ⟨y, by simp [hy], h1, h2⟩
theorem since_dirt (s : List Int) {p : Int} (h0 : 0 ≤ p) (h64 : p < 64) : sinceF (dirt s 64) p = s.getD p.toNat 0 := by
  have find : ∀ (l : List (Int × Int)), l.Pairwise (fun a b => a.1 < b.1) → (∀ x ∈ l, x.1 = p → sinceF l p = x.2) ∧ ((∀ x ∈ l, x.1 ≠ p) → sinceF l p = 0) := by
    intro l
    induction l with
    | nil => intro _; exact ⟨(fun x hx => by cases hx), fun _ => rfl⟩
    | cons y l ih =>
      intro hl
      have hl := List.pairwise_cons.1 hl
      refine ⟨fun x hx e => ?_, fun hn => ?_⟩
      · show (if y.1 = p then y.2 else sinceF l p) = x.2
        rcases List.mem_cons.1 hx with rfl | hx
        · rw [if_pos e]
        · rw [if_neg (by have := hl.1 x hx; omega)]
          exact (ih hl.2).1 x hx e
      · show (if y.1 = p then y.2 else sinceF l p) = 0
        rw [if_neg (hn y (by simp))]
        exact (ih hl.2).2 fun x hx => hn x (by simp [hx])
  have hf := find _ (dirt_rise s 64)
  by_cases e : s.getD p.toNat 0 = 0
  · rw [e]
    refine hf.2 fun x hx => ?_
    obtain ⟨k, hk, rfl, hne⟩ := dirt_mem.1 hx
    rintro rfl
    exact hne (by simpa using e)
  · have := hf.1 (((p.toNat : Nat) : Int), s.getD p.toNat 0) (dirt_mem.2 ⟨p.toNat, by omega, rfl, e⟩) (by dsimp only; omega)
    exact this
/-- What Run finds from a checkpoint of such a log. -/
theorem point_run {ms : List Mv} (hm : ms.length ≤ 80) {i : Nat} (hi : i < ms.length) (hk : ((GL ms ms.length).getD i noR).2.1 = 8) {n : Int} {L : List Lv} {s : List Int} (hg : Grown (GL ms ms.length) n L s) :
    ∃ z : List Int, runE (GL ms ms.length) ((i : Int) + 1) = 0 ∧ runF (GL ms ms.length) ((i : Int) + 1) = some (⟨n, ents L⟩, z) ∧ z.length = 64 ∧ Later s z ∧ ∀ k, i < k → k < ms.length → chg ((GL ms ms.length).getD k noR) → z.getD ((GL ms ms.length).getD k noR).2.2.2.2.1.1.toNat 0 ≠ 0 ∧ z.getD ((GL ms ms.length).getD k noR).2.2.2.2.2.1.1.toNat 0 ≠ 0 := by
  have hlen := (GL_grown (ms := ms) (k := ms.length) (Nat.le_refl _) hm).1
  obtain ⟨e1, ni, Li, si, gi⟩ := GL_grown (ms := ms) (k := i) (by omega) (by omega)
  have ht := GL_take (ms := ms) (j := i) (k := ms.length) (by omega) (Nat.le_refl _) hm
  have hr := GL_get (ms := ms) hi (Nat.le_refl _) hm
  rw [fnd_is gi] at hr
  have hst : (GL ms ms.length).getD i noR = ((i : Int) + 1, 8, 0, 0, (0, 0), (0, 0), 0, zC, (Li, dropD (ms.getD i noM) ((i : Int) + 1) (dirt si 64), ni)) := by
    rw [hr] at hk ⊢
    unfold stepF at hk ⊢
    by_cases a : rs (ms.getD i noM).1 12 = 0
    · rw [if_pos a] at hk; simp at hk
    · rw [if_neg a] at hk ⊢
      by_cases b : rs (ms.getD i noM).1 12 = 1 ∨ rs (ms.getD i noM).1 12 = 2
      · rw [if_pos b]
      · rw [if_neg b] at hk
        by_cases c : Li.length = 0 ∨ (rs (ms.getD i noM).1 12 < 5 ∧ Li.length < 32)
        · rw [if_pos c] at hk; simp at hk
        · rw [if_neg c] at hk
          exfalso
          unfold recB at hk
          dsimp only at hk
          split at hk
          · simp at hk
          · split at hk
            · split at hk <;> simp at hk
            · split at hk
              · simp at hk
              · split at hk <;> simp at hk
  have hd := dropD_in gi (ms.getD i noM)
  rw [e1] at hd
  clear hr
  generalize hLL : GL ms ms.length = l at *
  have hsplit : l = l.take i ++ (l.getD i noR :: l.drop (i + 1)) := by rw [← drop_at (by omega) noR, List.take_append_drop]
  have hrun := hg.run
  rw [hsplit, goF_app, ht, gi.run] at hrun
  have hrun : (if (noteR ⟨ni, ents Li⟩ (l.getD i noR)).e ≠ 0 then none else goF (noteR ⟨ni, ents Li⟩ (l.getD i noR)).t (chgS si (l.getD i noR)) (l.drop (i + 1))) = some (⟨n, ents L⟩, s) := hrun
  have rg : ∀ k, k < l.length → (l.getD k noR).1 = (k : Int) + 1 := fun k hk' => by have := (right_at hg.rt hk').1; omega
  rw [note_free (by rw [rg i (by omega)]; omega) (by rw [rg i (by omega)]; unfold top; omega) (.inr hk), if_neg (fun h => h rfl), chgS_pt hk] at hrun
  obtain ⟨hs, hz⟩ := goF_s (setsS (zeros 64) (dropD (ms.getD i noM) ((i : Int) + 1) (dirt si 64))) hrun
  have z0 : (setsS (zeros 64) (dropD (ms.getD i noM) ((i : Int) + 1) (dirt si 64))).length = 64 := by rw [setsS_len]; rfl
  have hfl : ∀ (q : List Rc) (x : List Int), x.length = 64 → (q.foldl chgS x).length = 64 := by
    intro q
    induction q with
    | nil => exact fun x h => h
    | cons r q ih => exact fun x h => ih _ (by rw [chgS_len]; exact h)
  have hdrop : ∀ j, j < (l.drop (i + 1)).length → ((l.drop (i + 1)).getD j noR).1 = (i : Int) + 1 + j + 1 := fun j hj => by
    rw [List.length_drop] at hj
    rw [show (l.drop (i + 1)).getD j noR = l.getD (i + 1 + j) noR by simp [List.getD, List.getElem?_drop], rg _ (by omega)]
    omega
  have hpos : ∀ r ∈ l.drop (i + 1), 1 ≤ r.1 := fun r hr => by
    obtain ⟨j, hj, rfl⟩ := List.mem_iff_getElem.1 hr
    have := hdrop j hj
    rw [List.getD_eq_getElem?_getD, List.getElem?_eq_getElem hj] at this
    have this : (l.drop (i + 1))[j].1 = (i : Int) + 1 + j + 1 := this
    omega
  have e4 : (((i : Int) + 1) - 1).toNat = i := by omega
  have hF : runF l ((i : Int) + 1) = some (⟨n, ents L⟩, (l.drop (i + 1)).foldl chgS (setsS (zeros 64) (dropD (ms.getD i noM) ((i : Int) + 1) (dirt si 64)))) := by
    unfold runF startT startS
    rw [if_neg (by omega), if_neg (by omega), e4, hst, show ((i : Int) + 1).toNat = i + 1 by omega]
    exact hz
  refine ⟨_, ?_, hF, hfl _ _ z0, ?_, fun k h1 h2 hc => ?_⟩
  · unfold runE
    rw [hg.rt, if_neg (by decide), if_neg, hF]
    · rfl
    · rintro (h | h | ⟨_, h⟩)
      · omega
      · omega
      · rw [e4] at h; exact h hk
  · rw [hs]
    refine later_all (q := (i : Int) + 1) gi.slen z0 (fun k hk' h0 => ?_) (by omega) (fun k hk' => by have := gi.sv k hk'; omega) hdrop
    rcases sets_get (s := zeros 64) rfl (fun x hx => ⟨(hd x hx).1, (hd x hx).2.1⟩) k hk' with h | ⟨x, hx, h1, h2⟩
    · exfalso
      rw [h] at h0
      apply h0
      unfold zeros
      rw [List.getD_eq_getElem?_getD, List.getElem?_replicate]
      split <;> rfl
    · have := hd x hx
      rw [h2]
      rw [h1, Int.toNat_natCast] at this
      exact this.2.2.2.2
  · have hkl : k - (i + 1) < (l.drop (i + 1)).length := by rw [List.length_drop]; omega
    have hmem : l.getD k noR ∈ l.drop (i + 1) := by
      have := get_mem hkl noR
      rwa [show (l.drop (i + 1)).getD (k - (i + 1)) noR = l.getD k noR by simp only [List.getD_eq_getElem?_getD, List.getElem?_drop]; rw [show i + 1 + (k - (i + 1)) = k by omega]] at this
    have hsl := slots_in (check_slots (right_at hg.rt (by omega)).2 hc)
    exact fold_sets z0 hpos _ hmem hc (by omega) (by omega)
end Go.Proofs.Ytncecddhknfimaa.VC
