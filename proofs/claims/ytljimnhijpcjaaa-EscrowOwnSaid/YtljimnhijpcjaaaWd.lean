/- Words and lemmas for specifications and plain proofs. Plain lemmas; no conditions but those that each names. -/
import Derived.Test.YtljimnhijpcjaaaVt
import Derived.Test.YtljimnhijpcjaaaWa
import Derived.Test.YtljimnhijpcjaaaWb
set_option linter.unusedVariables false
set_option linter.unusedSimpArgs false
namespace Go.Proofs.Ytljimnhijpcjaaa.VC
open Go

abbrev i64 (n : Int) : AV := .int .i64 n
abbrev TI64 : Ty := .int .i64
/-- The place that is made for a slot. -/
def pl (t i : Nat) : Nat := 1000 + 16 * t + i
def noAnn : Ann := { loop := fun _ => none, cut := fun _ => none, loose := fun _ => [] }
/-- Words that ask for the number in a slot. -/
def byInt (st : St) (t : Nat) (f : Int → Inv) : Inv := match st.tmp t with
  | .int _ n => f n
  | _ => f 0
def keysOf {v : Type} (E : List (Int × v)) : List Int := E.map (·.1)
/-- Numbers, rising. -/
def rising (l : List Int) : List Int := l.mergeSort (fun a b => decide (a ≤ b))
def vc (body : Option Code) (rs : Array ResultVar) (nt : Nat) (sps : List (FuncId × Option Spc)) (s : Spc) (A : s.G → Ann) : Prop := vcF ⟨TT, EQ, look none sps, nt⟩ (body.getD .skip) rs.toList s A

/-! ### The chain -/

abbrev Sps (l : List (FuncId × Option Spc)) : Prop := ∀ f s, look none l f = some s → FnOk Try.prog f s
theorem sps_nil : Sps [] := fun f s h => by cases h
theorem sps_cons {f : FuncId} {s : Spc} {l : List (FuncId × Option Spc)} (h : FnOk Try.prog f s) (t : Sps l) : Sps ((f, some s) :: l) := fun g u hu => by
  simp only [look] at hu
  cases hb : Nat.beq f g with
  | true =>
    rw [hb] at hu
    simp only [cond_true, Option.some.injEq] at hu
    rw [← Nat.eq_of_beq_eq_true hb, ← hu]
    exact h
  | false =>
    rw [hb] at hu
    exact t g u hu
/-- What is shown of a function is so. -/
theorem fn_of {f : FuncId} {fn : Func} {l : List (FuncId × Option Spc)} {s : Spc} {A : s.G → Ann} (S : Sps l) (hf : Try.prog.funcs[f]? = some fn) (hb : fn.body.isSome = true) (hc : ∀ args w, (callFunc f args).run Try.prog w = .ok (.enter f args) w) (hst : s.still = false)
    (h : vc fn.body fn.results fn.ntmps l s A) : FnOk Try.prog f s := by
  obtain ⟨code, hcode⟩ := Option.isSome_iff_exists.1 hb
  refine fn_ok (C := ⟨TT, EQ, look none l, fn.ntmps⟩) tabOk S mixed hf hcode rfl hc hst ?_ (A := A)
  unfold vc at h
  rw [hcode] at h
  exact h

theorem fn_both {f : FuncId} {a b : Spc} {ho : a.own = b.own} {hl : b.lends = a.lends} (ha : FnOk Try.prog f a) (hb : FnOk Try.prog f b) (h1 : a.still = false) (h2 : b.still = false) : FnOk Try.prog f (a.both b ho hl) :=
  ⟨ha.enter, fun g c vals hpre hc hv => match g with
    | .inl x => by have := ha.calls x c vals hpre hc hv; rw [h1] at this; exact this
    | .inr x => by have := hb.calls x c vals hpre hc hv; rw [h2] at this; exact this⟩

/-! ### Numbers -/

theorem maxLen_is : maxLen = 9223372036854775807 := by decide
theorem mod_pos {n m : Int} (h : 1 ≤ m) (h2 : m ≤ 4611686018427387904) : (IntKind.i64.wrap (n.tmod m + m)).tmod m = n % m := by
  have e1 : -m < n.tmod m := by have := Int.lt_tmod_of_pos n (show 0 < m by omega); omega
  have e2 : n.tmod m < m := Int.tmod_lt_of_pos n (by omega)
  rw [wrap64 (by omega) (by omega), tmod_pos (by omega), Int.add_emod_right]
  have := Int.tmod_eq_emod (a := n) (b := m)
  rw [this]
  split
  · simp
  · rw [Int.sub_emod, Int.emod_emod_of_dvd _ (Int.dvd_refl _)]
    have : ((m.natAbs : Int)) = m := by omega
    rw [this]
    simp
theorem mod_in (n : Int) {m : Int} (h : 1 ≤ m) : 0 ≤ n % m ∧ n % m < m := ⟨Int.emod_nonneg _ (by omega), Int.emod_lt_of_pos _ (by omega)⟩

theorem opt_or {α : Type} (o : Option α) : o = none ∨ ∃ x, o = some x := by cases o <;> simp

/-! ### Sorting -/

theorem rising_perm {a b : List Int} (h : a.Perm b) : rising a = rising b := by
  unfold rising
  have ha := List.mergeSort_perm a (fun a b => decide (a ≤ b))
  have hb := List.mergeSort_perm b (fun a b => decide (a ≤ b))
  have tr : ∀ a b c : Int, decide (a ≤ b) = true → decide (b ≤ c) = true → decide (a ≤ c) = true := fun a b c h1 h2 => by simp at *; omega
  have to : ∀ a b : Int, (decide (a ≤ b) || decide (b ≤ a)) = true := fun a b => by simp; omega
  refine List.Perm.eq_of_pairwise (le := fun a b => decide (a ≤ b) = true) (fun x y _ _ h1 h2 => by simp at *; omega) (List.pairwise_mergeSort tr to a) (List.pairwise_mergeSort tr to b) ((ha.trans h).trans hb.symm)
theorem rising_len (l : List Int) : (rising l).length = l.length := (List.mergeSort_perm l (fun a b => decide (a ≤ b))).length_eq
theorem rising_mem {l : List Int} {x : Int} : x ∈ rising l ↔ x ∈ l := (List.mergeSort_perm l (fun a b => decide (a ≤ b))).mem_iff
theorem rising_of_le {l : List Int} (h : l.Pairwise (· ≤ ·)) : rising l = l := by
  unfold rising
  exact List.mergeSort_of_pairwise (le := fun a b => decide (a ≤ b)) (h.imp fun h => by simpa using h)
theorem keysOf_mid {v : Type} (a : List (Int × v)) (e : Int × v) (b : List (Int × v)) (out : List Int) : (out ++ [e.1] ++ keysOf (a ++ b)).Perm (out ++ keysOf (a ++ e :: b)) := by
  simp only [keysOf, List.map_append, List.map_cons, List.append_assoc, List.singleton_append]
  refine List.Perm.append_left _ ?_
  exact List.perm_middle.symm
theorem keysOf_len {v : Type} (E : List (Int × v)) : (keysOf E).length = E.length := by simp [keysOf]
theorem keys_length {v : Type} {E left : List (Int × v)} {out : List Int} (h : (out ++ keysOf left).Perm (keysOf E)) : out.length + left.length = E.length := by
  have := h.length_eq
  simpa [keysOf] using this

/-! ### Maps -/

section
variable {q : IntKind} {v : Ty}
theorem mset_same : ∀ {E : List (Int × v.den)} {c : Int} {x : v.den}, mget (k := .int q) (v := v) E c = some x → mset (k := .int q) (v := v) E c x = E
  | [], c, x, h => by cases h
  | e :: E, c, x, h => by
    unfold mset
    unfold mget at h
    rw [List.find?_cons] at h
    cases hb : (Ty.int q).beq e.1 c with
    | true => rw [hb] at h; simp at h; rw [if_pos rfl, ← h]
    | false =>
      rw [hb] at h
      rw [if_neg (by simp)]
      have : mget (k := .int q) (v := v) E c = some x := h
      rw [mset_same this]
theorem mset_len : ∀ {E : List (Int × v.den)} {c : Int} {x : v.den}, (mset (k := .int q) (v := v) E c x).length ≤ E.length + 1
  | [], _, _ => Nat.le_refl _
  | e :: E, c, x => by
    unfold mset
    split
    · simp
    · have := mset_len (E := E) (c := c) (x := x)
      simp only [List.length_cons]; omega
theorem mset_len_some : ∀ {E : List (Int × v.den)} {c : Int} {x : v.den}, (mget (k := .int q) (v := v) E c).isSome = true → (mset (k := .int q) (v := v) E c x).length = E.length
  | [], _, _, h => by cases h
  | e :: E, c, x, h => by
    unfold mset
    unfold mget at h
    rw [List.find?_cons] at h
    cases hb : (Ty.int q).beq e.1 c with
    | true => simp
    | false =>
      rw [hb] at h
      simp only [Bool.false_eq_true, if_false, List.length_cons]
      rw [mset_len_some (c := c) (x := x) (show (mget (k := .int q) (v := v) E c).isSome = true from h)]
theorem mset_mem : ∀ {E : List (Int × v.den)} {c : Int} {x : v.den} {e : Int × v.den}, e ∈ mset (k := .int q) (v := v) E c x → e.2 = x ∨ e ∈ E
  | [], c, x, e, h => by
    obtain rfl : e = (c, x) := by simpa [mset] using h
    exact .inl rfl
  | d :: E, c, x, e, h => by
    unfold mset at h
    split at h
    · rcases List.mem_cons.1 h with h | h
      · exact .inl (by rw [h])
      · exact .inr (List.mem_cons_of_mem _ h)
    · rcases List.mem_cons.1 h with h | h
      · exact .inr (by rw [h]; simp)
      · rcases mset_mem h with h | h
        · exact .inl h
        · exact .inr (List.mem_cons_of_mem _ h)
theorem mget_cons {e : Int × v.den} {E : List (Int × v.den)} {c : Int} : mget (k := .int q) (v := v) (e :: E) c = if e.1 = c then some e.2 else mget (k := .int q) (v := v) E c := by
  unfold mget
  rw [List.find?_cons]
  by_cases h : e.1 = c
  · simp [Ty.beq, h]
  · have : ((Ty.int q).beq e.1 c) = false := by simpa [Ty.beq] using h
    rw [this, if_neg h]
theorem mset_cons {e : Int × v.den} {E : List (Int × v.den)} {c : Int} {x : v.den} : mset (k := .int q) (v := v) (e :: E) c x = if e.1 = c then (e.1, x) :: E else e :: mset (k := .int q) (v := v) E c x := by
  rw [mset]
  by_cases h : e.1 = c
  · have : ((Ty.int q).beq e.1 c) = true := by simpa [Ty.beq] using h
    rw [if_pos this, if_pos h]
  · have : ((Ty.int q).beq e.1 c) = false := by simpa [Ty.beq] using h
    rw [if_neg (by simp [this]), if_neg h]
theorem mdel_cons {e : Int × v.den} {E : List (Int × v.den)} {c : Int} : mdel (k := .int q) (v := v) (e :: E) c = if e.1 = c then E else e :: mdel (k := .int q) (v := v) E c := by
  rw [mdel]
  by_cases h : e.1 = c
  · have : ((Ty.int q).beq e.1 c) = true := by simpa [Ty.beq] using h
    rw [if_pos this, if_pos h]
  · have : ((Ty.int q).beq e.1 c) = false := by simpa [Ty.beq] using h
    rw [if_neg (by simp [this]), if_neg h]
theorem mget_set : ∀ {E : List (Int × v.den)} {c d : Int} {x : v.den}, mget (k := .int q) (v := v) (mset (k := .int q) (v := v) E c x) d = if c = d then some x else mget (k := .int q) (v := v) E d
  | [], c, d, x => by
    show mget (k := .int q) (v := v) [(c, x)] d = _
    rw [mget_cons]
  | e :: E, c, d, x => by
    rw [mset_cons]
    by_cases h : e.1 = c
    · rw [if_pos h, mget_cons, mget_cons, h]
      by_cases h2 : c = d
      · simp [h2]
      · simp [h2]
    · rw [if_neg h, mget_cons, mget_cons, mget_set]
      by_cases h2 : e.1 = d
      · have : ¬ c = d := fun h3 => h (by rw [h2, h3])
        simp [h2, this]
      · simp [h2]
theorem mset_keys_some : ∀ {E : List (Int × v.den)} {c : Int} {x : v.den}, (mget (k := .int q) (v := v) E c).isSome = true → keysOf (mset (k := .int q) (v := v) E c x) = keysOf E
  | [], _, _, h => by cases h
  | e :: E, c, x, h => by
    rw [mset_cons]
    rw [mget_cons] at h
    by_cases hc : e.1 = c
    · rw [if_pos hc]; rfl
    · rw [if_neg hc] at h ⊢
      show e.1 :: keysOf _ = e.1 :: keysOf E
      rw [mset_keys_some h]
theorem mdel_keys : ∀ {E : List (Int × v.den)} {c : Int}, keysOf (mdel (k := .int q) (v := v) E c) = (keysOf E).erase c
  | [], c => rfl
  | e :: E, c => by
    rw [mdel_cons]
    by_cases hc : e.1 = c
    · rw [if_pos hc]
      show keysOf E = (e.1 :: keysOf E).erase c
      rw [hc, List.erase_cons_head]
    · rw [if_neg hc]
      show e.1 :: keysOf _ = (e.1 :: keysOf E).erase c
      rw [List.erase_cons_tail (by simpa using hc), mdel_keys]
/-- Another order of the entries is another list of the same map. -/
theorem mget_perm {E F : List (Int × v.den)} (h : E.Perm F) (hn : (keysOf E).Nodup) (c : Int) : mget (k := .int q) (v := v) E c = mget (k := .int q) (v := v) F c := by
  induction h with
  | nil => rfl
  | cons x _ ih =>
    rw [mget_cons, mget_cons, ih (List.nodup_cons.1 hn).2]
  | swap x y l =>
    rw [mget_cons, mget_cons, mget_cons, mget_cons]
    by_cases h1 : x.1 = c
    · by_cases h2 : y.1 = c
      · exfalso
        have := (List.nodup_cons.1 hn).1
        exact this (by simp [h1, h2])
      · simp [h1, h2]
    · simp [h1]
  | trans h1 h2 ih1 ih2 =>
    rw [ih1 hn, ih2 ((h1.map _).nodup_iff.1 hn)]
theorem mset_perm {E F : List (Int × v.den)} (h : E.Perm F) (hn : (keysOf E).Nodup) (c : Int) (x : v.den) : (mset (k := .int q) (v := v) E c x).Perm (mset (k := .int q) (v := v) F c x) := by
  induction h with
  | nil => exact .refl _
  | cons y hp ih =>
    rw [mset_cons, mset_cons]
    split
    · exact .cons _ hp
    · exact .cons _ (ih (List.nodup_cons.1 hn).2)
  | swap y z l =>
    rw [mset_cons, mset_cons, mset_cons, mset_cons]
    by_cases h1 : y.1 = c
    · by_cases h2 : z.1 = c
      · exfalso
        exact (List.nodup_cons.1 hn).1 (by simp [h1, h2])
      · simp only [h1, h2, if_true, if_false]; exact .swap _ _ _
    · by_cases h2 : z.1 = c
      · simp only [h1, h2, if_true, if_false]; exact .swap _ _ _
      · simp only [h1, h2, if_false]; exact .swap _ _ _
  | trans h1 h2 ih1 ih2 => exact (ih1 hn).trans (ih2 ((h1.map _).nodup_iff.1 hn))
theorem mdel_perm {E F : List (Int × v.den)} (h : E.Perm F) (hn : (keysOf E).Nodup) (c : Int) : (mdel (k := .int q) (v := v) E c).Perm (mdel (k := .int q) (v := v) F c) := by
  induction h with
  | nil => exact .refl _
  | cons y hp ih =>
    rw [mdel_cons, mdel_cons]
    split
    · exact hp
    · exact .cons _ (ih (List.nodup_cons.1 hn).2)
  | swap y z l =>
    rw [mdel_cons, mdel_cons, mdel_cons, mdel_cons]
    by_cases h1 : y.1 = c
    · by_cases h2 : z.1 = c
      · exfalso
        exact (List.nodup_cons.1 hn).1 (by simp [h1, h2])
      · simp [h1, h2]
    · by_cases h2 : z.1 = c
      · simp [h1, h2]
      · simp only [h1, h2, if_false]; exact .swap _ _ _
  | trans h1 h2 ih1 ih2 => exact (ih1 hn).trans (ih2 ((h1.map _).nodup_iff.1 hn))
theorem mget_of_mem : ∀ {E : List (Int × v.den)} (hn : (keysOf E).Nodup) {e : Int × v.den}, e ∈ E → mget (k := .int q) (v := v) E e.1 = some e.2
  | d :: E, hn, e, h => by
    rw [mget_cons]
    rcases List.mem_cons.1 h with rfl | h
    · rw [if_pos rfl]
    · have : ¬ d.1 = e.1 := fun h2 => (List.nodup_cons.1 hn).1 (by show d.1 ∈ keysOf E; rw [h2]; exact List.mem_map_of_mem h)
      rw [if_neg this]
      exact mget_of_mem (List.nodup_cons.1 hn).2 h
theorem mget_isSome {E : List (Int × v.den)} {c : Int} : (mget (k := .int q) (v := v) E c).isSome = true ↔ c ∈ keysOf E := by
  constructor
  · intro h
    obtain ⟨x, hx⟩ := Option.isSome_iff_exists.1 h
    exact List.mem_map.2 ⟨_, mget_mem hx, rfl⟩
  · intro h
    cases hg : mget (k := .int q) (v := v) E c with
    | some x => rfl
    | none =>
      obtain ⟨e, he, rfl⟩ := List.mem_map.1 h
      exact absurd rfl (mget_none.1 hg e he)
end
theorem MOk.nodup {q : IntKind} {v : Ty} {E : List (Int × v.den)} (h : MOk (.int q) v E) : (keysOf E).Nodup := by
  unfold keysOf
  rw [List.Nodup, List.pairwise_map]
  exact h.2.1.imp fun h => by simpa [Ty.beq] using h
end Go.Proofs.Ytljimnhijpcjaaa.VC
