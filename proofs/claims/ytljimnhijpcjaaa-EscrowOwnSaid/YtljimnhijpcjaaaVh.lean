/- Maps: where a key stands among the entries. Plain lemmas; no conditions but those that each names. -/
import Derived.Test.YtljimnhijpcjaaaVg
set_option linter.unusedVariables false
set_option linter.unusedSimpArgs false
set_option linter.unusedSectionVars false
namespace Go.Proofs.Ytljimnhijpcjaaa.VC
open Go

def kidx {k v : Ty} : List (k.den × v.den) → k.den → Option Nat
  | [], _ => none
  | e :: E, key => if k.beq e.1 key then some 0 else (kidx E key).map (· + 1)

section
variable {k v : Ty}

theorem kidx_none : ∀ {E : List (k.den × v.den)} {key : k.den}, kidx E key = none → mget E key = none ∧ (∀ x, mset E key x = E ++ [(key, x)]) ∧ mdel E key = E ∧ ∀ e ∈ E, k.beq e.1 key = false
  | [], key, _ => ⟨rfl, fun _ => rfl, rfl, by simp⟩
  | e :: E, key, h => by
    simp only [kidx] at h
    split at h
    · cases h
    · rename_i hb
      have hb' : k.beq e.1 key = false := by simpa using hb
      simp only [Option.map_eq_none_iff] at h
      obtain ⟨h1, h2, h3, h4⟩ := kidx_none h
      refine ⟨?_, fun x => ?_, ?_, ?_⟩
      · simpa [mget, List.find?_cons, hb'] using h1
      · simp [mset, hb', h2]
      · simp [mdel, hb', h3]
      · intro e' he'
        rcases List.mem_cons.1 he' with rfl | h5
        · exact hb'
        · exact h4 e' h5
theorem kidx_some : ∀ {E : List (k.den × v.den)} {key : k.den} {j : Nat}, kidx E key = some j → ∃ e, E[j]? = some e ∧ k.beq e.1 key = true ∧ mget E key = some e.2 ∧ (∀ x, mset E key x = E.set j (e.1, x)) ∧ mdel E key = E.eraseIdx j
  | [], key, j, h => by simp [kidx] at h
  | e :: E, key, j, h => by
    simp only [kidx] at h
    split at h
    · rename_i hb
      simp at h
      subst h
      exact ⟨e, rfl, hb, by simp [mget, List.find?_cons, hb], fun x => by simp [mset, hb], by simp [mdel, hb]⟩
    · rename_i hb
      have hb' : k.beq e.1 key = false := by simpa using hb
      obtain ⟨i, hi, rfl⟩ := Option.map_eq_some_iff.1 h
      obtain ⟨e', h1, h2, h3, h4, h5⟩ := kidx_some hi
      exact ⟨e', by simpa using h1, h2, by simpa [mget, List.find?_cons, hb'] using h3, fun x => by simp [mset, hb', h4], by simp [mdel, hb', h5]⟩

theorem MapK.len {c : Ctx} : ∀ {E : List (k.den × v.den)} {es : List MapEntry}, MapK c k v E es → E.length = es.length
  | [], [], _ => rfl
  | _ :: _, _ :: _, h => by simp [MapK.len h.2.2]
  | [], _ :: _, h => h.elim
  | _ :: _, [], h => h.elim
theorem MapK.at {c : Ctx} : ∀ {E : List (k.den × v.den)} {es : List MapEntry} {j : Nat} {e : k.den × v.den}, MapK c k v E es → E[j]? = some e → ∃ x, es[j]? = some x ∧ k.V c e.1 x.key ∧ v.V c e.2 x.val
  | e :: E, x :: es, 0, e', h, he => by simp at he; subst he; exact ⟨x, rfl, h.1, h.2.1⟩
  | e :: E, x :: es, j + 1, e', h, he => by simp at he; simpa using MapK.at h.2.2 he
  | [], _, _, _, _, he => by simp at he
  | _ :: _, [], _, _, h, _ => h.elim
theorem MapK.append {c : Ctx} : ∀ {E E' : List (k.den × v.den)} {es es' : List MapEntry}, MapK c k v E es → MapK c k v E' es' → MapK c k v (E ++ E') (es ++ es')
  | [], _, [], _, _, h => h
  | _ :: _, _, _ :: _, _, h, h' => ⟨h.1, h.2.1, MapK.append h.2.2 h'⟩
  | [], _, _ :: _, _, h, _ => h.elim
  | _ :: _, _, [], _, h, _ => h.elim
theorem MapK.set {c : Ctx} {y : k.den × v.den} {z : MapEntry} (h1 : k.V c y.1 z.key) (h2 : v.V c y.2 z.val) : ∀ {E : List (k.den × v.den)} {es : List MapEntry} (j : Nat), MapK c k v E es → MapK c k v (E.set j y) (es.set j z)
  | [], [], _, _ => trivial
  | _ :: _, _ :: _, 0, h => ⟨h1, h2, h.2.2⟩
  | _ :: _, _ :: _, j + 1, h => ⟨h.1, h.2.1, MapK.set h1 h2 j h.2.2⟩
  | [], _ :: _, _, h => h.elim
  | _ :: _, [], _, h => h.elim
theorem MapK.erase {c : Ctx} : ∀ {E : List (k.den × v.den)} {es : List MapEntry} (j : Nat), MapK c k v E es → MapK c k v (E.eraseIdx j) (es.eraseIdx j)
  | [], [], _, _ => trivial
  | _ :: _, _ :: _, 0, h => h.2.2
  | _ :: _, _ :: _, j + 1, h => ⟨h.1, h.2.1, MapK.erase j h.2.2⟩
  | [], _ :: _, _, h => h.elim
  | _ :: _, [], _, h => h.elim

/-- What is asked of a type of keys. -/
structure KeyOk (P : Program) (t : TypeId) (k : Ty) : Prop where
  check : ∀ (c : Ctx) (w : World) (emp : Bool) (d : k.den) (kv : Value), k.V c d kv → (Instr.checkKey emp 10000 t kv).run P w = .ok () w
  find : ∀ (c : Ctx) (w : World) (v : Ty) (d : k.den) (kv : Value) (E : List (k.den × v.den)) (es : List MapEntry), k.V c d kv → MapK c k v E es →
    ∃ o : Option (Nat × Value), (Instr.findKey t kv es).run P w = .ok o w ∧ o.map (·.1) = kidx E d ∧ ∀ x, o = some x → ∃ y, es[x.1]? = some y ∧ y.val = x.2
  bits : ∀ (c : Ctx) (d d' : k.den) (kv kv' : Value), k.V c d kv → k.V c d' kv' → k.beq d d' = true → kv = kv' ∧ Instr.sameBits 10000 kv kv' = true

theorem run_checkKey_int {P : Program} {t : TypeId} {q : IntKind} (ht : P.underlying t = some (.int q)) (emp : Bool) (d : Nat) (n : Int) (w : World) : (Instr.checkKey emp (d + 1) t (.int q n)).run P w = .ok () w := by
  simp [Instr.checkKey, run_underlying ht]

theorem findNow_int {c : Ctx} {q : IntKind} {n : Int} : ∀ (E : List (Int × v.den)) (es : List MapEntry) (i : Nat), MapK c (.int q) v E es →
    ∃ o : Option (Nat × Value), Instr.findNow (.int q) (.int q n) es i = some o ∧ o.map (·.1) = (kidx (k := .int q) E n).map (· + i) ∧ ∀ x, o = some x → ∃ y, i ≤ x.1 ∧ es[x.1 - i]? = some y ∧ y.val = x.2
  | [], [], i, _ => ⟨none, rfl, rfl, fun _ h => by cases h⟩
  | e :: E, x :: es, i, h => by
    have hk : x.key = .int q e.1 := by simpa [Ty.V, Ty.agg, Ty.K] using h.1.2
    simp only [Instr.findNow, hk, Instr.sameNow, if_true]
    cases hb : n == e.1 with
    | true =>
      refine ⟨some (i, x.val), rfl, ?_, fun y hy => ?_⟩
      · have : (Ty.int q).beq e.1 n = true := by have := beq_iff_eq.1 hb; simp [Ty.beq, this]
        simp [kidx, this]
      · simp at hy; subst hy; exact ⟨x, Nat.le_refl _, by simp, rfl⟩
    | false =>
      obtain ⟨o, h1, h2, h3⟩ := findNow_int E es (i + 1) h.2.2
      refine ⟨o, h1, ?_, fun y hy => ?_⟩
      · have : (Ty.int q).beq e.1 n = false := by have := beq_eq_false_iff_ne.1 hb; simp [Ty.beq]; exact fun h => this h.symm
        rw [h2]
        simp only [kidx, this, Bool.false_eq_true, if_false, Option.map_map]
        congr 1
        funext m
        simp only [Function.comp_apply]
        omega
      · obtain ⟨z, hz1, hz2, hz3⟩ := h3 y hy
        refine ⟨z, by omega, ?_, hz3⟩
        rw [show y.1 - i = (y.1 - (i + 1)) + 1 from by omega]
        simpa using hz2
  | [], _ :: _, _, h => h.elim
  | _ :: _, [], _, h => h.elim

theorem keyOk_int {P : Program} {t : TypeId} {q : IntKind} (ht : P.underlying t = some (.int q)) : KeyOk P t (.int q) where
  check c w emp d kv h := by
    have : kv = .int q d := by simpa [Ty.V, Ty.agg, Ty.K] using h.2
    subst this
    exact run_checkKey_int ht emp 9999 d w
  find c w v d kv E es h hm := by
    have : kv = .int q d := by simpa [Ty.V, Ty.agg, Ty.K] using h.2
    subst this
    obtain ⟨o, h1, h2, h3⟩ := findNow_int (n := d) E es 0 hm
    refine ⟨o, ?_, by simpa using h2, fun x hx => ?_⟩
    · simp only [Instr.findKey, Sem.run_bind, run_underlying ht, Result.andThen_ok]
      rw [h1]; rfl
    · obtain ⟨y, _, hy, hz⟩ := h3 x hx
      exact ⟨y, by simpa using hy, hz⟩
  bits c d d' kv kv' h h' hb := by
    have h1 : kv = .int q d := by simpa [Ty.V, Ty.agg, Ty.K] using h.2
    have h2 : kv' = .int q d' := by simpa [Ty.V, Ty.agg, Ty.K] using h'.2
    have h3 : d = d' := by simpa [Ty.beq] using hb
    subst h1 h2 h3
    refine ⟨rfl, ?_⟩
    unfold Instr.sameBits
    simp

theorem keyOk {P : Program} {t : TypeId} {ti : TI} (T : TIok P t ti) {k : Ty} (hk : ti.ty = some k) (hky : k.keyed = true) (hkn : ∀ q, k = .int q → ti.kn = .int q) : KeyOk P t k := by
  cases k with
  | int q => exact keyOk_int (T.int (hkn q rfl))
  | _ => simp [Ty.keyed] at hky
end
end Go.Proofs.Ytljimnhijpcjaaa.VC
