/- The table of types, held against the program. Plain lemmas; no conditions but those that each names. -/
import Derived.Test.YtkhcphdnppdfjaaVx
import Derived.Laws.StructEq
set_option linter.unusedVariables false
set_option linter.unusedSimpArgs false
namespace Go.Proofs.Ytkhcphdnppdfjaa.VC
open Go

theorem says_at {α β : Type} {f g : α → β} : ∀ {l : List α}, l.map f = l.map g → ∀ x ∈ l, f x = g x
  | [], _, x, hx => by cases hx
  | y :: l, h, x, hx => by
    simp only [List.map_cons, List.cons.injEq] at h
    rcases List.mem_cons.1 hx with rfl | hx
    · exact h.1
    · exact says_at h.2 x hx
theorem look_mem {α : Type} {l : List (Nat × Option α)} {t : Nat} {x : α} (h : look none l t = some x) : (t, some x) ∈ l := by
  induction l with
  | nil => cases h
  | cons y l ih =>
    obtain ⟨u, v⟩ := y
    simp only [look] at h
    cases hb : Nat.beq u t with
    | true =>
      simp only [hb, cond_true] at h
      rw [← Nat.eq_of_beq_eq_true hb, h]
      simp
    | false =>
      simp only [hb, cond_false] at h
      simp [ih h]

def TI.intOf (ti : TI) : Kn := match ti.ty with
  | some (.int q) => .int q
  | _ => ti.kn
def isAggV (v : Value) : Bool := match v with | .agg _ => true | _ => false

/-- What the program says of a type; what the table says. -/
def progSays (P : Program) (x : Nat × Option TI) : Option (Option Kn × Option (Nat × Nat × Option Value) × Option (Nat × Bool × List Value) × Kn × Bool) :=
  x.2.map fun ti => ((P.underlying x.1).map Kn.of, (P.info? x.1).map (fun i => (i.size, i.bytes, i.zero)), ti.ty.map (fun e => (e.sz, e.agg, ti.zero.cells.toList)), ti.intOf, isAggV ti.zero)
def tabSays (x : Nat × Option TI) : Option (Option Kn × Option (Nat × Nat × Option Value) × Option (Nat × Bool × List Value) × Kn × Bool) :=
  x.2.map fun ti => (some ti.kn, some (ti.size, ti.bytes, some ti.zero), ti.ty.map (fun e => (ti.size, ti.kn.agg, e.zcells)), ti.kn, ti.kn.agg)

theorem ti_ok {P : Program} {tab : List (Nat × Option TI)} (h : tab.map (progSays P) = tab.map tabSays) : ∀ t ti, look none tab t = some ti → TIok P t ti := fun t ti ht => by
  have h1 := says_at h _ (look_mem ht)
  simp only [progSays, tabSays, Option.map_some, Option.some.injEq, Prod.mk.injEq] at h1
  obtain ⟨h1, h2, h3, h4, h5⟩ := h1
  refine ⟨h1, h2, fun e he => ?_, fun q hq => ?_, h5⟩
  · rw [he] at h3
    simp only [Option.map_some, Option.some.injEq, Prod.mk.injEq] at h3
    exact h3
  · rw [← h4, TI.intOf, hq]

theorem drop_cons {α : Type} {l m : List α} {x : α} : ∀ {i : Nat}, l.drop i = x :: m → l[i]? = some x ∧ l.drop (i + 1) = m := fun {i} h => by
  constructor
  · have := List.getElem?_drop (xs := l) (i := i) (j := 0)
    rw [h] at this
    simpa using this.symm
  · rw [← List.drop_drop, h]; rfl

theorem eqF {P : Program} {tt : TypeId → Option TI} (hti : ∀ t ti, tt t = some ti → TIok P t ti) {c : Ctx} {d : Nat} {w : World} {X Y : List AV} {xs ys : List Value} (hX : CVL c X xs) (hY : CVL c Y ys) : ∀ (fs : List Field) (ks : List IntKind) (i : Nat) (b : Bool),
    fs.map (fun f => (f.offset, f.name != "_", (tt f.type).map (·.kn))) = (numFrom i ks).map (fun x => (x.1, true, some (.int x.2))) → eqcA ks (X.drop i) (Y.drop i) = some b → (Op.eqFields (d + 1) xs.toArray ys.toArray fs).run P w = .ok b w := by
  intro fs
  induction fs with
  | nil =>
    intro ks i b hf hb
    cases ks with
    | nil => simp [eqcA] at hb
    | cons k ks => simp [numFrom] at hf
  | cons f fs ih =>
    intro ks i b hf hb
    cases ks with
    | nil => simp [numFrom] at hf
    | cons k ks =>
      simp only [numFrom, List.map_cons, List.cons.injEq, Prod.mk.injEq] at hf
      obtain ⟨⟨ho, hn, ht⟩, hf⟩ := hf
      obtain ⟨ti, hti', hkn⟩ := Option.map_eq_some_iff.1 ht
      have Ti := hti _ _ hti'
      obtain ⟨de, hu, hk⟩ := Ti.desc
      rw [hkn] at hk
      have hun : P.underlying f.type = some (.int k) := by
        rw [hu]
        cases de <;> simp [Kn.of] at hk
        rw [hk]
      have key : ∃ (a b' : Int) (X' Y' : List AV), X.drop i = .int k a :: X' ∧ Y.drop i = .int k b' :: Y' ∧ ((ks = [] ∧ b = (a == b')) ∨ ∃ s, eqcA ks X' Y' = some s ∧ b = (a == b' && s)) := by
        unfold eqcA at hb
        split at hb
        · rename_i k' q a r b' e1 e2 e3
          simp only [List.cons.injEq] at e1
          obtain ⟨rfl, rfl⟩ := e1
          obtain ⟨e, hb'⟩ := bif_some hb
          clear hb
          simp only [Bool.and_eq_true, decide_eq_true_eq] at e
          obtain ⟨rfl, rfl⟩ := e
          exact ⟨a, b', [], [], e2, e3, .inl ⟨rfl, hb'.symm⟩⟩
        · rename_i k' ks' q a X' r b' Y' hno e1 e2 e3
          simp only [List.cons.injEq] at e1
          obtain ⟨rfl, rfl⟩ := e1
          cases hd : decide (q = k) && decide (r = k) with
          | false => rw [hd] at hb; simp at hb
          | true =>
            rw [hd] at hb
            simp only [cond_true] at hb
            simp only [Bool.and_eq_true, decide_eq_true_eq] at hd
            obtain ⟨rfl, rfl⟩ := hd
            obtain ⟨s, hs, hb⟩ := Option.map_eq_some_iff.1 hb
            exact ⟨a, b', X', Y', e2, e3, .inr ⟨s, hs, hb.symm⟩⟩
        · cases hb
      obtain ⟨x, y, X', Y', hx, hy, hres⟩ := key
      obtain ⟨hx1, hx2⟩ := drop_cons hx
      obtain ⟨hy1, hy2⟩ := drop_cons hy
      have hpx : partA ti X i = some (.int k x) := by simp [partA, hkn, Kn.agg, hx1]
      have hpy : partA ti Y i = some (.int k y) := by simp [partA, hkn, Kn.agg, hy1]
      obtain ⟨cx, hcx, rx, _⟩ := part_at Ti hX hpx
      obtain ⟨cy, hcy, ry, _⟩ := part_at Ti hY hpy
      simp only [CV] at hcx hcy
      have hne : f.name ≠ "_" := by simpa using hn
      simp only [Op.eqFields, if_pos hne, Sem.run_bind, ho, rx, ry, Result.andThen_ok, hcx.2, hcy.2, run_equalIn_int w d f.type k k x y hun]
      rcases hres with ⟨rfl, rfl⟩ | ⟨s, hs, rfl⟩
      · have hfs : fs = [] := by cases fs with
          | nil => rfl
          | cons g fs => simp [numFrom] at hf
        subst hfs
        cases hxy : x == y <;> simp [Op.eqFields]
      · rw [← hx2, ← hy2] at hs
        have := ih ks (i + 1) s hf hs
        cases hxy : x == y
        · simp
        · simpa using this

/-- Structs of numbers, compared. -/
theorem eq_ok {P : Program} {tt : TypeId → Option TI} (hti : ∀ t ti, tt t = some ti → TIok P t ti) {t : TypeId} {ks : List IntKind} (hg : P.eqGuardType P.depth t = false) (hu : P.underlying t = some (.struct (P.fieldsOf t))) (hp : P.stoodInHeld t = false)
    (hf : (P.fieldsOf t).toList.map (fun f => (f.offset, f.name != "_", (tt f.type).map (·.kn))) = (numFrom 0 ks).map (fun x => (x.1, true, some (.int x.2)))) : EqOk P t ks := by
  refine ⟨hg, fun w xs ys ax ay c b hx hy hb => ?_⟩
  show (Op.equalIn (9998 + 1 + 1) t _ _).run P w = _
  rw [run_equalIn_struct w (9998 + 1) t xs.toArray ys.toArray hu hp]
  exact eqF hti hx hy _ ks 0 b hf (by simpa using hb)

/-- Types of structs: all that a comparison asks, as equations. -/
def eqSays (P : Program) (tt : TypeId → Option TI) (x : Nat × Option (List IntKind)) : Option (Bool × Bool × List (Nat × Bool × Option Kn)) :=
  x.2.map fun _ => (P.eqGuardType P.depth x.1, P.stoodInHeld x.1, (P.fieldsOf x.1).toList.map (fun f => (f.offset, f.name != "_", (tt f.type).map (·.kn))))
def eqTab (x : Nat × Option (List IntKind)) : Option (Bool × Bool × List (Nat × Bool × Option Kn)) :=
  x.2.map fun ks => (false, false, (numFrom 0 ks).map (fun x => (x.1, true, some (.int x.2))))
theorem tab_ok {P : Program} {tab : List (Nat × Option TI)} {eqs : List (Nat × Option (List IntKind))} (h : tab.map (progSays P) = tab.map tabSays) (he : eqs.map (eqSays P (look none tab)) = eqs.map eqTab)
    (hs : eqs.map (fun x => P.underlying x.1) = eqs.map (fun x => some (.struct (P.fieldsOf x.1)))) : TabOk P (look none tab) (look none eqs) := by
  refine ⟨ti_ok h, fun t ks hks => ?_⟩
  have hm := look_mem hks
  have h1 := says_at he _ hm
  have h2 := says_at hs _ hm
  simp only [eqSays, eqTab, Option.map_some, Option.some.injEq, Prod.mk.injEq] at h1
  exact eq_ok (ti_ok h) h1.1 h2 h1.2.1 h1.2.2
end Go.Proofs.Ytkhcphdnppdfjaa.VC
