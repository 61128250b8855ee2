/- Words for plain proofs of what is to be shown. Plain lemmas; no conditions but those that each names. -/
import Derived.Test.YtljimnhijpcjaaaVz
set_option linter.unusedVariables false
namespace Go.Proofs.Ytljimnhijpcjaaa.VC
open Go

theorem holds_iff {p : Prop} : Holds p ↔ p := ⟨Holds.out, Holds.mk⟩
theorem splitB_iff {b : Bool} {A B : Prop} : SplitB b A B ↔ (b = true → A) ∧ (b = false → B) := ⟨fun h => ⟨h.t, h.f⟩, fun h => ⟨h.1, h.2⟩⟩
theorem wrap64 {n : Int} (h1 : -9223372036854775808 ≤ n) (h2 : n ≤ 9223372036854775807) : IntKind.i64.wrap n = n := wrap_in ⟨h1, h2⟩
theorem inR64 {n : Int} : InR .i64 n ↔ -9223372036854775808 ≤ n ∧ n ≤ 9223372036854775807 := Iff.rfl
theorem tdiv_pos {a b : Int} (h : 0 ≤ a) : a.tdiv b = a / b := Int.tdiv_eq_ediv_of_nonneg h
theorem tmod_pos {a b : Int} (h : 0 ≤ a) : a.tmod b = a % b := Int.tmod_eq_emod_of_nonneg h

/-- What is said of a function, said with other words: less, or with names. -/
theorem FnOk.weak {P : Program} {f : FuncId} {s : Spc} (h : FnOk P f s) (con : s.G → Con) (hp : ∀ g, (∀ q ∈ (con g).pre, q) → ∀ q ∈ (s.con g).pre, q) (hm : ∀ g, (con g).mods = (s.con g).mods)
    (hh : ∀ g val upd new, (∀ q ∈ (con g).pre, q) → Con.has val upd new (s.con g) → Con.has val upd new (con g)) : FnOk P f { s with con := con, lends := false, lendsOk := (fun h => by cases h) } :=
  ⟨h.enter, fun g c vals hpre hc hv => (h.calls g c vals (hp g hpre) hc hv).mono fun e w' hd => by
    obtain ⟨val, upd, new, cv, c', k1, k2, k3, k4, k5, k6⟩ := hd
    refine ⟨val, upd, new, cv, c', hh g _ _ _ hpre k1, k2, k3, by rw [show (({ s with con := con, lends := false, lendsOk := (fun h => by cases h) } : Spc).con g).mods = (con g).mods from rfl, hm]; exact k4, ?_, k6⟩
    show Fits c c' (con g).mods _ ((con g).mods.zip upd) new _
    rw [hm]
    exact k5⟩

/-! ### Maps whose keys are numbers -/

theorem mget_mem {q : IntKind} {v : Ty} {E : List (Int × v.den)} {c : Int} {x : v.den} (h : mget (k := .int q) (v := v) E c = some x) : (c, x) ∈ E := by
  unfold mget at h
  obtain ⟨e, he, rfl⟩ := Option.map_eq_some_iff.1 h
  have h1 := List.mem_of_find?_eq_some he
  have h2 := List.find?_some he
  have h3 : e.1 = c := by simpa [Ty.beq] using h2
  rw [← h3]
  exact h1
theorem mget_none {q : IntKind} {v : Ty} {E : List (Int × v.den)} {c : Int} : mget (k := .int q) (v := v) E c = none ↔ ∀ e ∈ E, e.1 ≠ c := by
  unfold mget
  rw [Option.map_eq_none_iff, List.find?_eq_none]
  constructor
  · intro h e he hc
    exact h e he (by simp [Ty.beq, hc])
  · intro h e he hc
    exact h e he (by simpa [Ty.beq] using hc)
theorem mget_nil {q : IntKind} {v : Ty} {c : Int} : mget (k := .int q) (v := v) [] c = none := rfl
theorem mset_none {q : IntKind} {v : Ty} : ∀ {E : List (Int × v.den)} {c : Int} {x : v.den}, mget (k := .int q) (v := v) E c = none → mset (k := .int q) (v := v) E c x = E ++ [(c, x)]
  | [], _, _, _ => rfl
  | e :: E, c, x, h => by
    have h1 := mget_none.1 h
    have h2 : ((Ty.int q).beq e.1 c) = false := by
      have := h1 e (by simp)
      simpa [Ty.beq] using this
    unfold mset
    rw [if_neg (by rw [h2]; simp), mset_none (q := q) (mget_none.2 fun e he => h1 e (by simp [he]))]
    rfl
theorem mget_app {q : IntKind} {v : Ty} {E : List (Int × v.den)} {c d : Int} {x : v.den} : mget (k := .int q) (v := v) (E ++ [(c, x)]) d = (mget (k := .int q) (v := v) E d).or (if c = d then some x else none) := by
  unfold mget
  rw [List.find?_append]
  cases hf : E.find? (fun e => (Ty.int q).beq e.1 d) with
  | some e => simp
  | none =>
    by_cases hc : c = d
    · simp [Ty.beq, hc]
    · simp [Ty.beq, hc]
end Go.Proofs.Ytljimnhijpcjaaa.VC
