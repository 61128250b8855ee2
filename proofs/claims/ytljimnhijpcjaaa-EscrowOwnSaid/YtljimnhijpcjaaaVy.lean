/- The table of types, held against the program. Plain lemmas; no conditions but those that each names. -/
import Derived.Test.YtljimnhijpcjaaaVx
import Derived.Laws.StructEq
set_option linter.unusedVariables false
set_option linter.unusedSimpArgs false
namespace Go.Proofs.Ytljimnhijpcjaaa.VC
open Go

theorem says_at {α β : Type} {f g : α → β} : ∀ {l : List α}, l.map f = l.map g → ∀ x ∈ l, f x = g x
  | [], _, x, hx => by cases hx
  | y :: l, h, x, hx => by
    simp only [List.map_cons, List.cons.injEq] at h
    rcases List.mem_cons.1 hx with rfl | hx
    · exact h.1
    · exact says_at h.2 x hx
theorem look_mem {α : Type} {l : List (Nat × Option α)} {t : Nat} {x : α} (h : look none l t = some x) : (t, some x) ∈ l := by
  induction l with
  | nil => cases h
  | cons y l ih =>
    obtain ⟨u, v⟩ := y
    simp only [look] at h
    cases hb : Nat.beq u t with
    | true =>
      simp only [hb, cond_true] at h
      rw [← Nat.eq_of_beq_eq_true hb, h]
      simp
    | false =>
      simp only [hb, cond_false] at h
      simp [ih h]

def TI.intOf (ti : TI) : Kn := match ti.ty with
  | some (.int q) => .int q
  | _ => ti.kn
def isAggV (v : Value) : Bool := match v with | .agg _ => true | _ => false

/-- What the program says of a type; what the table says. -/
def progSays (P : Program) (x : Nat × Option TI) : Option (Option Kn × Option (Nat × Nat × Option Value) × Option (Nat × Bool × List Value) × Kn × Bool) :=
  x.2.map fun ti => ((P.underlying x.1).map Kn.of, (P.info? x.1).map (fun i => (i.size, i.bytes, i.zero)), ti.ty.map (fun e => (e.sz, e.agg, ti.zero.cells.toList)), ti.intOf, isAggV ti.zero)
def tabSays (x : Nat × Option TI) : Option (Option Kn × Option (Nat × Nat × Option Value) × Option (Nat × Bool × List Value) × Kn × Bool) :=
  x.2.map fun ti => (some ti.kn, some (ti.size, ti.bytes, some ti.zero), ti.ty.map (fun e => (ti.size, ti.kn.agg, e.zcells)), ti.kn, ti.kn.agg)

theorem ti_ok {P : Program} {tab : List (Nat × Option TI)} (h : tab.map (progSays P) = tab.map tabSays) : ∀ t ti, look none tab t = some ti → TIok P t ti := fun t ti ht => by
  have h1 := says_at h _ (look_mem ht)
  simp only [progSays, tabSays, Option.map_some, Option.some.injEq, Prod.mk.injEq] at h1
  obtain ⟨h1, h2, h3, h4, h5⟩ := h1
  refine ⟨h1, h2, fun e he => ?_, fun q hq => ?_, h5⟩
  · rw [he] at h3
    simp only [Option.map_some, Option.some.injEq, Prod.mk.injEq] at h3
    exact h3
  · rw [← h4, TI.intOf, hq]

theorem drop_cons {α : Type} {l m : List α} {x : α} : ∀ {i : Nat}, l.drop i = x :: m → l[i]? = some x ∧ l.drop (i + 1) = m := fun {i} h => by
  constructor
  · have := List.getElem?_drop (xs := l) (i := i) (j := 0)
    rw [h] at this
    simpa using this.symm
  · rw [← List.drop_drop, h]; rfl

/-- What a comparison asks of a struct's fields. -/
def efRow (tt : TypeId → Option TI) (off : Nat) (f : Field) : EF → Bool
  | .int k => Nat.beq f.offset off && (f.name != "_") && (match tt f.type with
    | some ti => decide (ti.kn = .int k)
    | none => false)
  | .bool => Nat.beq f.offset off && (f.name != "_") && (match tt f.type with
    | some ti => decide (ti.kn = .bool)
    | none => false)
  | .sub t n => Nat.beq f.offset off && (f.name != "_") && Nat.beq f.type t && (match tt t with
    | some ti => ti.kn.agg && Nat.beq ti.size n
    | none => false)
def efRows (tt : TypeId → Option TI) : Nat → List Field → List EF → Bool
  | _, [], [] => true
  | off, f :: fs, e :: es => efRow tt off f e && efRows tt (off + e.sz) fs es
  | _, _, _ => false
structure EqFacts (P : Program) (tt : TypeId → Option TI) (t : TypeId) (fs : List EF) : Prop where
  grd : P.eqGuardType P.depth t = false
  und : P.underlying t = some (.struct (P.fieldsOf t))
  held : P.stoodInHeld t = false
  flds : efRows tt 0 (P.fieldsOf t).toList fs = true

theorem drop_head {α : Type} {l : List α} {x : α} {m : List α} {i : Nat} (h : l.drop i = x :: m) : l[i]? = some x := (drop_cons h).1

theorem eqOne_int {eqt : TypeId → Option (List EF)} {rec : List EF → List AV → List AV → Option Bool} {k : IntKind} {X Y : List AV} {b : Bool} (h : eqOne eqt rec (.int k) X Y = some b) : ∃ x y X' Y', X = .int k x :: X' ∧ Y = .int k y :: Y' ∧ (x == y) = b := by
  cases X with
  | nil => simp [eqOne] at h
  | cons u X =>
    cases Y with
    | nil => cases u <;> simp [eqOne] at h
    | cons v Y =>
      cases u <;> cases v <;> try (simp [eqOne] at h; done)
      rename_i q a r c
      simp only [eqOne] at h
      obtain ⟨e, hb⟩ := bif_some h
      simp only [Bool.and_eq_true, decide_eq_true_eq] at e
      obtain ⟨rfl, rfl⟩ := e
      exact ⟨_, _, _, _, rfl, rfl, hb⟩
theorem eqOne_bool {eqt : TypeId → Option (List EF)} {rec : List EF → List AV → List AV → Option Bool} {X Y : List AV} {b : Bool} (h : eqOne eqt rec .bool X Y = some b) : ∃ x y X' Y' p q, X = x :: X' ∧ Y = y :: Y' ∧ x.toBool? = some p ∧ y.toBool? = some q ∧ (p == q) = b := by
  cases X with
  | nil => simp [eqOne] at h
  | cons u X =>
    cases Y with
    | nil => simp [eqOne] at h
    | cons v Y =>
      simp only [eqOne] at h
      cases hu : u.toBool? with
      | none => rw [hu] at h; cases h
      | some p =>
        cases hv : v.toBool? with
        | none => rw [hu, hv] at h; cases h
        | some q =>
          rw [hu, hv] at h
          exact ⟨u, v, X, Y, p, q, rfl, rfl, hu, hv, by simpa using h⟩

section
variable {P : Program} {tt : TypeId → Option TI} {eqt : TypeId → Option (List EF)} (hti : ∀ t ti, tt t = some ti → TIok P t ti) (hf : ∀ t fs, eqt t = some fs → EqFacts P tt t fs) {c : Ctx} {w : World}
include hti

theorem eqField {n d : Nat} (rec : ∀ t fs, eqt t = some fs → ∀ (X Y : List AV) (xs ys : List Value) (b : Bool), CVL c X xs → CVL c Y ys → eqcA eqt n fs X Y = some b → (Op.equalIn (d + n + 1) t (.agg xs.toArray) (.agg ys.toArray)).run P w = .ok b w)
    {X Y : List AV} {xs ys : List Value} (hX : CVL c X xs) (hY : CVL c Y ys) {f : Field} {e : EF} {off : Nat} {b : Bool} (hr : efRow tt off f e = true) (hb : eqOne eqt (eqcA eqt n) e (X.drop off) (Y.drop off) = some b) :
    ∃ cx cy, (∀ w', (part f.type xs.toArray f.offset).run P w' = .ok cx w') ∧ (∀ w', (part f.type ys.toArray f.offset).run P w' = .ok cy w') ∧ f.name ≠ "_" ∧ (Op.equalIn (d + n + 1) f.type cx cy).run P w = .ok b w := by
  cases e with
  | int k =>
    simp only [efRow, Bool.and_eq_true] at hr
    obtain ⟨⟨ho, hn⟩, ht⟩ := hr
    have ho := Nat.eq_of_beq_eq_true ho
    split at ht
    · rename_i ti hti'
      have hkn : ti.kn = .int k := by simpa using ht
      have Ti := hti _ _ hti'
      obtain ⟨de, hu, hk⟩ := Ti.desc
      rw [hkn] at hk
      have hun : P.underlying f.type = some (.int k) := by
        rw [hu]
        cases de <;> simp [Kn.of] at hk
        rw [hk]
      obtain ⟨x, y, X', Y', e2, e3, hb'⟩ := eqOne_int hb
      have hpx : partA ti X off = some (.int k x) := by simp [partA, hkn, Kn.agg, drop_head e2]
      have hpy : partA ti Y off = some (.int k y) := by simp [partA, hkn, Kn.agg, drop_head e3]
      obtain ⟨cx, hcx, rx, _⟩ := part_at Ti hX hpx
      obtain ⟨cy, hcy, ry, _⟩ := part_at Ti hY hpy
      simp only [CV] at hcx hcy
      obtain ⟨_, rfl⟩ := hcx
      obtain ⟨_, rfl⟩ := hcy
      refine ⟨_, _, fun w' => ho ▸ rx w', fun w' => ho ▸ ry w', by simpa using hn, ?_⟩
      rw [run_equalIn_int w (d + n) f.type k k x y hun, hb']
    · cases ht
  | bool =>
    simp only [efRow, Bool.and_eq_true] at hr
    obtain ⟨⟨ho, hn⟩, ht⟩ := hr
    have ho := Nat.eq_of_beq_eq_true ho
    split at ht
    · rename_i ti hti'
      have hkn : ti.kn = .bool := by simpa using ht
      have Ti := hti _ _ hti'
      obtain ⟨de, hu, hk⟩ := Ti.desc
      rw [hkn] at hk
      have hun : P.underlying f.type = some .bool := by
        rw [hu]
        cases de <;> simp [Kn.of] at hk
        rfl
      obtain ⟨x, y, X', Y', p, q, e2, e3, hp, hq, hb'⟩ := eqOne_bool hb
      have hpx : partA ti X off = some x := by simp [partA, hkn, Kn.agg, drop_head e2]
      have hpy : partA ti Y off = some y := by simp [partA, hkn, Kn.agg, drop_head e3]
      obtain ⟨cx, hcx, rx, _⟩ := part_at Ti hX hpx
      obtain ⟨cy, hcy, ry, _⟩ := part_at Ti hY hpy
      obtain rfl := toBool_cv hp hcx
      obtain rfl := toBool_cv hq hcy
      refine ⟨_, _, fun w' => ho ▸ rx w', fun w' => ho ▸ ry w', by simpa using hn, ?_⟩
      have : (Op.equalIn (d + n + 1) f.type (.bool p) (.bool q)).run P w = .ok (p == q) w := by
        simp only [Op.equalIn, Sem.run_bind, run_underlying hun, Result.andThen_ok]; rfl
      rw [this, hb']
    · cases ht
  | sub t m =>
    simp only [efRow, Bool.and_eq_true] at hr
    obtain ⟨⟨⟨ho, hn⟩, htt⟩, ht⟩ := hr
    have ho := Nat.eq_of_beq_eq_true ho
    have htt := Nat.eq_of_beq_eq_true htt
    split at ht
    · rename_i ti hti'
      simp only [Bool.and_eq_true] at ht
      have hsz := Nat.eq_of_beq_eq_true ht.2
      have Ti := hti _ _ hti'
      simp only [eqOne] at hb
      · cases hc : Nat.ble 1 m && Nat.ble m (X.drop off).length && Nat.ble m (Y.drop off).length with
        | false => rw [hc] at hb; cases hb
        | true =>
          rw [hc] at hb
          simp only [cond_true] at hb
          simp only [Bool.and_eq_true, Nat.ble_eq, List.length_drop] at hc
          split at hb
          · rename_i fs hfs
            have hpx : partA ti X off = some (.agg ((X.drop off).take m)) := by
              simp only [partA, ht.1, cond_true, hsz]
              rw [show Nat.ble (off + m) X.length = true from by rw [Nat.ble_eq]; omega]; rfl
            have hpy : partA ti Y off = some (.agg ((Y.drop off).take m)) := by
              simp only [partA, ht.1, cond_true, hsz]
              rw [show Nat.ble (off + m) Y.length = true from by rw [Nat.ble_eq]; omega]; rfl
            obtain ⟨cx, hcx, rx, _⟩ := part_at Ti hX hpx
            obtain ⟨cy, hcy, ry, _⟩ := part_at Ti hY hpy
            simp only [CV] at hcx hcy
            obtain ⟨lx, rfl, hlx⟩ := hcx
            obtain ⟨ly, rfl, hly⟩ := hcy
            refine ⟨_, _, fun w' => by rw [ho, htt]; exact rx w', fun w' => by rw [ho, htt]; exact ry w', by simpa using hn, ?_⟩
            rw [htt]
            exact rec t fs hfs _ _ _ _ b hlx hly hb
          · cases hb
    · cases ht

theorem eqFields_ok {n d : Nat} (rec : ∀ t fs, eqt t = some fs → ∀ (X Y : List AV) (xs ys : List Value) (b : Bool), CVL c X xs → CVL c Y ys → eqcA eqt n fs X Y = some b → (Op.equalIn (d + n + 1) t (.agg xs.toArray) (.agg ys.toArray)).run P w = .ok b w)
    {X Y : List AV} {xs ys : List Value} (hX : CVL c X xs) (hY : CVL c Y ys) : ∀ (es : List EF) (fs : List Field) (off : Nat) (b : Bool), efRows tt off fs es = true → eqList (eqOne eqt (eqcA eqt n)) es (X.drop off) (Y.drop off) = some b → (Op.eqFields (d + n + 1) xs.toArray ys.toArray fs).run P w = .ok b w
  | [], _, _, _, _, hb => by simp [eqList] at hb
  | [e], fs, off, b, hr, hb => by
    cases fs with
    | nil => simp [efRows] at hr
    | cons f fs =>
      simp only [efRows, Bool.and_eq_true] at hr
      have hfs : fs = [] := by
        cases fs with
        | nil => rfl
        | cons g fs => simp [efRows] at hr
      subst hfs
      obtain ⟨cx, cy, rx, ry, hne, he⟩ := eqField hti rec hX hY hr.1 (show eqOne eqt (eqcA eqt n) e _ _ = some b from hb)
      simp only [Op.eqFields, if_pos hne, Sem.run_bind, rx, ry, Result.andThen_ok, he]
      cases b <;> simp [Op.eqFields]
  | e :: e2 :: es, fs, off, b, hr, hb => by
    cases fs with
    | nil => simp [efRows] at hr
    | cons f fs =>
      rw [show efRows tt off (f :: fs) (e :: e2 :: es) = (efRow tt off f e && efRows tt (off + e.sz) fs (e2 :: es)) from rfl] at hr
      simp only [Bool.and_eq_true] at hr
      simp only [eqList] at hb
      split at hb
      · rename_i b1 b2 h1 h2
        simp only [Option.some.injEq] at hb
        obtain ⟨cx, cy, rx, ry, hne, he⟩ := eqField hti rec hX hY hr.1 h1
        rw [List.drop_drop, List.drop_drop] at h2
        have ih := eqFields_ok rec hX hY (e2 :: es) fs (off + e.sz) b2 hr.2 h2
        simp only [Op.eqFields, if_pos hne, Sem.run_bind, rx, ry, Result.andThen_ok, he]
        cases b1
        · simp [← hb]
        · simpa [← hb] using ih
      · cases hb
include hf
theorem eqDeep : ∀ (n : Nat) (d : Nat) (t : TypeId) (fs : List EF), eqt t = some fs → ∀ (X Y : List AV) (xs ys : List Value) (b : Bool), CVL c X xs → CVL c Y ys → eqcA eqt n fs X Y = some b → (Op.equalIn (d + n + 1) t (.agg xs.toArray) (.agg ys.toArray)).run P w = .ok b w
  | 0, _, _, _, _, _, _, _, _, _, _, _, hb => by simp [eqcA] at hb
  | n + 1, d, t, fs, ht, X, Y, xs, ys, b, hX, hY, hb => by
    have F := hf t fs ht
    show (Op.equalIn ((d + n + 1) + 1) t _ _).run P w = _
    rw [run_equalIn_struct w (d + n + 1) t xs.toArray ys.toArray F.und F.held]
    exact eqFields_ok hti (fun t fs h => eqDeep n d t fs h) hX hY fs _ 0 b F.flds (by simpa [eqcA] using hb)
end

/-- Types of structs: all that a comparison asks. -/
def eqSays (P : Program) (tt : TypeId → Option TI) (x : Nat × Option (List EF)) : Bool :=
  match x.2 with
  | some fs => efRows tt 0 (P.fieldsOf x.1).toList fs && !P.eqGuardType P.depth x.1 && !P.stoodInHeld x.1
  | none => true
theorem tab_ok {P : Program} {tab : List (Nat × Option TI)} {eqs : List (Nat × Option (List EF))} (h : tab.map (progSays P) = tab.map tabSays) (he : eqs.all (eqSays P (look none tab)) = true)
    (hs : eqs.map (fun x => P.underlying x.1) = eqs.map (fun x => some (.struct (P.fieldsOf x.1)))) : TabOk P (look none tab) (look none eqs) := by
  have hf : ∀ t fs, look none eqs t = some fs → EqFacts P (look none tab) t fs := fun t fs hks => by
    have hm := look_mem hks
    have h1 := List.all_eq_true.1 he _ hm
    have h2 := says_at hs _ hm
    simp only [eqSays, Bool.and_eq_true, Bool.not_eq_true'] at h1
    exact ⟨h1.1.2, h2, h1.2, h1.1.1⟩
  exact ⟨ti_ok h, fun t ks hks => ⟨(hf t ks hks).grd, fun w xs ys ax ay c b hx hy hb => eqDeep (ti_ok h) hf 4 9995 t ks hks ax ay xs ys b hx hy hb⟩⟩
end Go.Proofs.Ytljimnhijpcjaaa.VC
