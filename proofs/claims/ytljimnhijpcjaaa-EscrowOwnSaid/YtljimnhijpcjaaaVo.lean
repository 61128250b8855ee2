/- Calls: what is said of a function serves wherever it is called. Plain lemmas; no conditions but those that each names. -/
import Derived.Test.YtljimnhijpcjaaaVn
set_option linter.unusedVariables false
set_option linter.unusedSimpArgs false
set_option linter.unusedSectionVars false
namespace Go.Proofs.Ytljimnhijpcjaaa.VC
open Go

/-! ### What is said of a function -/

/-- The places 0, 1, .. hold these items; each has its own blocks. -/
structure COk (c : Ctx) (heap : List Itm) : Prop where
  D : ∀ p, c.D p ↔ p < heap.length
  it : ∀ p it, heap[p]? = some it → IOk c p it
  dj : ∀ p q b, c.D p → c.D q → p ≠ q → c.F p b → ¬ c.F q b
  lt : ∀ p b, c.D p → c.F p b → b < c.w.heap.size
  im : ∀ b, c.Im b → b < c.w.heap.size ∧ ∀ p, c.D p → ¬ c.F p b

/-- One of the outcomes that are said. -/
def Con.has (val : AV) (upd new : List Itm) : Con → Prop
  | .det _ _ v u n => val = v ∧ upd = u ∧ new = n
  | .any _ _ T post v u n => ∃ r : T, post r ∧ val = v r ∧ upd = u r ∧ new = n r
  | .or a b => Con.has val upd new a ∨ Con.has val upd new b

def relOf (mods : List Nat) (heap : List Itm) : List Nat := mods.filter fun p => ((heap[p]?).map Itm.isArr).getD false

def Done (c : Ctx) (heap : List Itm) (still : Bool) (cn : Con) (e : Ending) (w' : World) : Prop :=
  ∃ val upd new cv c', Con.has val upd new cn ∧ e = .returned cv ∧ c'.w = w' ∧ upd.length = cn.mods.length ∧ Fits c c' cn.mods (bif still then [] else relOf cn.mods heap) (cn.mods.zip upd) new heap.length ∧ CV c' val cv

mutual
theorem AV.Le.cv {c : Ctx} {v w : AV} {cv : Value} (h : AV.Le v w) (hv : CV c v cv) : CV c w cv := by
  cases h with
  | rfl => exact hv
  | tt => simpa [CV] using hv
  | ff => simpa [CV] using hv
  | nsl e => simp only [CV] at hv ⊢; exact ⟨none, 0, by rw [hv]; rfl, Nat.le_refl _, ⟨Nat.zero_le _, fun _ => rfl⟩, fun h0 => absurd h0 (by simp)⟩
  | nref q => simp only [CV] at hv ⊢; exact hv
  | nhd q e => simp only [CV] at hv ⊢; exact ⟨⟨Nat.le_refl _, Nat.zero_le _, fun _ => rfl⟩, hv⟩
  | agg hl => simp only [CV] at hv ⊢; obtain ⟨l, h1, h2⟩ := hv; exact ⟨l, h1, AV.LeL.cv hl h2⟩
theorem AV.LeL.cv {c : Ctx} {l m : List AV} {cvs : List Value} (h : AV.LeL l m) (hv : CVL c l cvs) : CVL c m cvs := by
  cases h with
  | nil => exact hv
  | cons ha hl =>
    cases cvs with
    | nil => exact hv.elim
    | cons x xs => exact ⟨AV.Le.cv ha hv.1, AV.LeL.cv hl hv.2⟩
end
theorem Itm.Le.ok {c : Ctx} {p : Nat} {i j : Itm} (h : Itm.Le i j) (hi : IOk c p i) : IOk c p j := by
  cases h with
  | rfl => exact hi
  | cells hl => obtain ⟨b, l, t, h1, h2, h3, h4⟩ := hi; exact ⟨b, l, t, h1, h2, hl.cv h3, h4⟩
theorem Itm.Le.isArr {i j : Itm} (h : Itm.Le i j) : i.isArr = j.isArr := by cases h <;> rfl
theorem Itm.LeL.len : ∀ {l m : List Itm}, Itm.LeL l m → l.length = m.length
  | _, _, .nil => rfl
  | _, _, .cons _ h => by simp [h.len]
theorem Itm.LeL.get : ∀ {l m : List Itm}, Itm.LeL l m → ∀ (n : Nat) (j : Itm), m[n]? = some j → ∃ i, l[n]? = some i ∧ Itm.Le i j
  | _, _, .nil, n, j, h => by simp at h
  | _, _, .cons ha _, 0, j, h => by simp at h; subst h; exact ⟨_, rfl, ha⟩
  | _, _, .cons _ hl, n + 1, j, h => by simpa using hl.get n j (by simpa using h)
theorem Itm.LeL.arr {l m : List Itm} (h : Itm.LeL l m) (n : Nat) : ((l[n]?).map Itm.isArr).getD false = ((m[n]?).map Itm.isArr).getD false := by
  cases hm : m[n]? with
  | some j => obtain ⟨i, h1, h2⟩ := h.get n j hm; rw [h1]; exact h2.isArr
  | none =>
    have : l[n]? = none := by rw [List.getElem?_eq_none_iff] at *; rw [h.len]; exact hm
    rw [this]
theorem relOf_le {mods : List Nat} {l m : List Itm} (h : Itm.LeL l m) : relOf mods l = relOf mods m := by
  unfold relOf
  congr 1
  funext p
  exact h.arr p
theorem COk.le {c : Ctx} {l m : List Itm} (h : Itm.LeL l m) (k : COk c l) : COk c m :=
  ⟨fun p => by rw [k.D, h.len], fun p it hp => by obtain ⟨i, h1, h2⟩ := h.get p it hp; exact h2.ok (k.it p i h1), k.dj, k.lt, k.im⟩

structure FnOk (P : Program) (f : FuncId) (s : Spc) : Prop where
  enter : ∀ args w, (callFunc f args).run P w = .ok (.enter f args) w
  calls : ∀ (g : s.G) (c : Ctx) (vals : Array Value), (∀ q ∈ (s.con g).pre, q) → COk c (s.heap g) → CVL c (s.args g) vals.toList → Calls P f vals c.w (Done c (s.heap g) s.still (s.con g))
end Go.Proofs.Ytljimnhijpcjaaa.VC
