/- Calls: what is said of a function serves wherever it is called. Plain lemmas; no conditions but those that each names. -/
import Derived.Test.YtncecddhknfimaaVn
set_option linter.unusedVariables false
set_option linter.unusedSimpArgs false
set_option linter.unusedSectionVars false
namespace Go.Proofs.Ytncecddhknfimaa.VC
open Go

/-! ### Other names -/

/-- The places of c1 are places of c2, under other names. -/
structure Ren (c1 c2 : Ctx) (s : Nat → Nat) : Prop where
  D : ∀ q, c1.D q → c2.D (s q)
  ρ : ∀ q, c1.D q → c2.ρ (s q) = c1.ρ q
  F : ∀ q b, c1.D q → (c2.F (s q) b ↔ c1.F q b)
  w : c2.w = c1.w
  Im : ∀ b, c1.Im b → c2.Im b

theorem Ty.V_ren {c1 c2 : Ctx} {s : Nat → Nat} (h : Ren c1 c2 s) {t : Ty} {d : t.den} {v : Value} (hv : t.V c1 d v) : t.V c2 d v := by
  unfold Ty.V at *
  have hk : ∀ l, t.K c1.w c1.Im d l → t.K c2.w c2.Im d l := fun l hl => Ty.K_mono h.Im (fun b _ => by rw [h.w]) t d l hl
  split
  · rename_i ha
    rw [if_pos ha] at hv
    obtain ⟨l, h1, h2⟩ := hv
    exact ⟨l, h1, hk l h2⟩
  · rename_i ha
    rw [if_neg ha] at hv
    exact hk _ hv

mutual
theorem CV.ren {c1 c2 : Ctx} {s : Nat → Nat} (h : Ren c1 c2 s) : ∀ (v : AV) (cv : Value), CV c1 v cv → CV c2 (v.ren s) cv
  | .undef, _, _ => by simp [AV.ren, CV]
  | .skip, _, hv => by simpa [AV.ren, CV] using hv
  | .tt, _, hv => by simpa [AV.ren, CV] using hv
  | .ff, _, hv => by simpa [AV.ren, CV] using hv
  | .bool b, _, hv => by simpa [AV.ren, CV] using hv
  | .int k n, _, hv => by simpa [AV.ren, CV] using hv
  | .nptr, _, hv => by simpa [AV.ren, CV] using hv
  | .ptr p off, _, hv => by
    simp only [AV.ren, CV] at *
    rw [h.ρ p hv.1]
    exact ⟨h.D p hv.1, hv.2⟩
  | .eptr p i sz off, _, hv => by
    simp only [AV.ren, CV] at *
    rw [h.ρ p hv.1]
    exact ⟨h.D p hv.1, hv.2⟩
  | .iptr e xs i off, _, hv => by
    simp only [AV.ren, CV] at *
    obtain ⟨ad, h1, h2⟩ := hv
    refine ⟨ad, h1, fun x hx => ?_⟩
    obtain ⟨cs, h3, h4⟩ := h2 x hx
    exact ⟨cs, Ty.K_mono h.Im (fun b _ => by rw [h.w]) e _ _ h3, h4.mono h.Im (fun b _ => by rw [h.w])⟩
  | .nsl, _, hv => by simpa [AV.ren, CV] using hv
  | .sl p, _, hv => by
    simp only [AV.ren, CV] at *
    rw [h.ρ p hv.1]
    exact ⟨h.D p hv.1, hv.2⟩
  | .pfx p n, _, hv => by
    simp only [AV.ren, CV] at *
    rw [h.ρ p hv.1]
    exact ⟨h.D p hv.1, hv.2⟩
  | .sub p l n z, _, hv => by
    simp only [AV.ren, CV] at *
    rw [h.ρ p hv.1]
    exact ⟨h.D p hv.1, hv.2⟩
  | .lst e xs, _, hv => by
    simp only [AV.ren, CV] at *
    exact Ty.K_mono h.Im (fun b _ => by rw [h.w]) (.slice e) _ _ hv
  | .nmap, _, hv => by simpa [AV.ren, CV] using hv
  | .map p, _, hv => by
    simp only [AV.ren, CV] at *
    rw [h.ρ p hv.1]
    exact ⟨h.D p hv.1, hv.2⟩
  | .stamp p k key, _, hv => by
    simp only [AV.ren, CV] at *
    obtain ⟨hd, b, es, clock, i, x, h1, h2, h3, h4, h5, h6⟩ := hv
    exact ⟨h.D p hd, b, es, clock, i, x, (h.ρ p hd).trans h1, (h.F p b hd).2 h2, by rw [h.w]; exact h3, h4, Ty.V_ren h h5, h6⟩
  | .nfn, _, hv => by simpa [AV.ren, CV] using hv
  | .vec _ _, _, hv => by simpa [AV.ren, CV] using hv
  | .fn f caps, _, hv => by
    simp only [AV.ren, CV] at *
    obtain ⟨l, h1, h2⟩ := hv
    exact ⟨l, h1, CVL.ren h caps l h2⟩
  | .agg cs, _, hv => by
    simp only [AV.ren, CV] at *
    obtain ⟨l, h1, h2⟩ := hv
    exact ⟨l, h1, CVL.ren h cs l h2⟩
  | .tup cs, _, hv => by
    simp only [AV.ren, CV] at *
    obtain ⟨l, h1, h2⟩ := hv
    exact ⟨l, h1, CVL.ren h cs l h2⟩
theorem CVL.ren {c1 c2 : Ctx} {s : Nat → Nat} (h : Ren c1 c2 s) : ∀ (l : List AV) (m : List Value), CVL c1 l m → CVL c2 (AV.renL s l) m
  | [], [], _ => trivial
  | v :: l, cv :: m, hv => ⟨CV.ren h v cv hv.1, CVL.ren h l m hv.2⟩
  | [], _ :: _, hv => hv.elim
  | _ :: _, [], hv => hv.elim
end

theorem MapK.ren {c1 c2 : Ctx} {s : Nat → Nat} (h : Ren c1 c2 s) {k v : Ty} : ∀ {E : List (k.den × v.den)} {es : List MapEntry}, MapK c1 k v E es → MapK c2 k v E es
  | [], [], _ => trivial
  | _ :: _, _ :: _, ⟨h1, h2, h3⟩ => ⟨Ty.V_ren h h1, Ty.V_ren h h2, MapK.ren h h3⟩
  | [], _ :: _, h => h.elim
  | _ :: _, [], h => h.elim

theorem IOk.ren {c1 c2 : Ctx} {s : Nat → Nat} (h : Ren c1 c2 s) {p : Nat} (hD : c1.D p) : ∀ {it : Itm}, IOk c1 p it → IOk c2 (s p) (it.ren s)
  | .gone, _ => trivial
  | .cells vs, ⟨b, l, t, h1, h2, h3, h4⟩ => ⟨b, l, t, (h.ρ p hD).trans h1, by rw [h.w]; exact h2, CVL.ren h vs l h3, fun x => (h.F p x hD).trans (h4 x)⟩
  | .arr t e xs, ⟨cs, h1, h2, h3⟩ => ⟨cs, by rw [h.w, h.ρ p hD]; exact h1, h2.mono h.Im (fun b _ => by rw [h.w]), fun x => by rw [h.ρ p hD]; exact (h.F p x hD).trans (h3 x)⟩
  | .mapo k v E, ⟨b, es, clock, h1, h2, h3, h4, h5, h6⟩ => ⟨b, es, clock, (h.ρ p hD).trans h1, by rw [h.w]; exact h2, MapK.ren h h3, h4, h5, fun x => (h.F p x hD).trans (h6 x)⟩
  | .iter m k v left now, ⟨b, mb, seen, es, clock, h1, h2, h3, h4, h5, h6, h7, h8, h9, h10⟩ =>
    ⟨b, mb, seen, es, clock, (h.ρ p hD).trans h1, by rw [h.w]; exact h2, h.D m h3, (h.ρ m h3).trans h4, (h.F m mb h3).2 h5, by rw [h.w]; exact h6, h7, MapK.ren h h8,
      fun e he => by obtain ⟨x, hx1, hx2, hx3, hx4⟩ := h9 e he; exact ⟨x, hx1, hx2, Ty.V_ren h hx3, Ty.V_ren h hx4⟩, fun x => (h.F p x hD).trans (h10 x)⟩

/-! ### Fewer places -/

def Ctx.only (c : Ctx) (D : Nat → Prop) : Ctx := { c with D := D }

mutual
theorem CV.only {c : Ctx} {D : Nat → Prop} : ∀ (v : AV) (cv : Value), (∀ q ∈ v.pos, D q) → CV c v cv → CV (c.only D) v cv
  | .undef, _, _, _ => by simp [CV]
  | .skip, _, _, hv => by simpa [CV] using hv
  | .tt, _, _, hv => by simpa [CV] using hv
  | .ff, _, _, hv => by simpa [CV] using hv
  | .bool b, _, _, hv => by simpa [CV] using hv
  | .int k n, _, _, hv => by simpa [CV] using hv
  | .nptr, _, _, hv => by simpa [CV] using hv
  | .ptr p off, _, hp, hv => by simp only [CV] at *; exact ⟨hp p (by simp [AV.pos]), hv.2⟩
  | .eptr p i sz off, _, hp, hv => by simp only [CV] at *; exact ⟨hp p (by simp [AV.pos]), hv.2⟩
  | .iptr e xs i off, _, _, hv => by simp only [CV] at hv ⊢; exact hv
  | .nsl, _, _, hv => by simpa [CV] using hv
  | .sl p, _, hp, hv => by simp only [CV] at *; exact ⟨hp p (by simp [AV.pos]), hv.2⟩
  | .pfx p n, _, hp, hv => by simp only [CV] at *; exact ⟨hp p (by simp [AV.pos]), hv.2⟩
  | .sub p l n z, _, hp, hv => by simp only [CV] at *; exact ⟨hp p (by simp [AV.pos]), hv.2⟩
  | .lst e xs, _, _, hv => by simp only [CV] at hv ⊢; exact hv
  | .nmap, _, _, hv => by simpa [CV] using hv
  | .map p, _, hp, hv => by simp only [CV] at *; exact ⟨hp p (by simp [AV.pos]), hv.2⟩
  | .stamp p k key, _, hp, hv => by
    simp only [CV] at *
    exact ⟨hp p (by simp [AV.pos]), hv.2⟩
  | .nfn, _, _, hv => by simpa [CV] using hv
  | .vec _ _, _, _, hv => by simpa [CV] using hv
  | .fn f caps, _, hp, hv => by
    simp only [CV, AV.pos] at *
    obtain ⟨l, h1, h2⟩ := hv
    exact ⟨l, h1, CVL.only caps l hp h2⟩
  | .agg cs, _, hp, hv => by
    simp only [CV, AV.pos] at *
    obtain ⟨l, h1, h2⟩ := hv
    exact ⟨l, h1, CVL.only cs l hp h2⟩
  | .tup cs, _, hp, hv => by
    simp only [CV, AV.pos] at *
    obtain ⟨l, h1, h2⟩ := hv
    exact ⟨l, h1, CVL.only cs l hp h2⟩
theorem CVL.only {c : Ctx} {D : Nat → Prop} : ∀ (l : List AV) (m : List Value), (∀ q ∈ AV.posL l, D q) → CVL c l m → CVL (c.only D) l m
  | [], [], _, _ => trivial
  | v :: l, cv :: m, hp, hv => ⟨CV.only v cv (fun q hq => hp q (by simp [AV.posL, hq])) hv.1, CVL.only l m (fun q hq => hp q (by simp [AV.posL, hq])) hv.2⟩
  | [], _ :: _, _, hv => hv.elim
  | _ :: _, [], _, hv => hv.elim
end
theorem MapK.only {c : Ctx} {D : Nat → Prop} {k v : Ty} : ∀ {E : List (k.den × v.den)} {es : List MapEntry}, MapK c k v E es → MapK (c.only D) k v E es
  | [], [], _ => trivial
  | _ :: _, _ :: _, ⟨h1, h2, h3⟩ => ⟨h1, h2, MapK.only h3⟩
  | [], _ :: _, h => h.elim
  | _ :: _, [], h => h.elim
theorem IOk.only {c : Ctx} {D : Nat → Prop} {p : Nat} : ∀ {it : Itm}, (∀ q ∈ it.pos, D q) → IOk c p it → IOk (c.only D) p it
  | .gone, _, _ => trivial
  | .cells vs, hp, ⟨b, l, t, h1, h2, h3, h4⟩ => ⟨b, l, t, h1, h2, CVL.only vs l hp h3, h4⟩
  | .arr t e xs, _, h => h
  | .mapo k v E, _, ⟨b, es, clock, h1, h2, h3, h4, h5, h6⟩ => ⟨b, es, clock, h1, h2, h3.only, h4, h5, h6⟩
  | .iter m k v left now, hp, ⟨b, mb, seen, es, clock, h1, h2, h3, h4, h5, h6, h7, h8, h9, h10⟩ => ⟨b, mb, seen, es, clock, h1, h2, hp m (by simp [Itm.pos]), h4, h5, h6, h7, h8.only, h9, h10⟩

/-! ### What is said of a function -/

/-- The places 0, 1, .. hold these items; each has its own blocks. -/
structure COk (c : Ctx) (heap : List Itm) : Prop where
  D : ∀ p, c.D p ↔ p < heap.length
  it : ∀ p it, heap[p]? = some it → IOk c p it
  dj : ∀ p q b, c.D p → c.D q → p ≠ q → c.F p b → ¬ c.F q b
  lt : ∀ p b, c.D p → c.F p b → b < c.w.heap.size
  im : ∀ b, c.Im b → b < c.w.heap.size ∧ ∀ p, c.D p → ¬ c.F p b

/-- One of the outcomes that are said. -/
def Con.has (val : AV) (upd new : List Itm) : Con → Prop
  | .det _ _ v u n => val = v ∧ upd = u ∧ new = n
  | .any _ _ T post v u n => ∃ r : T, post r ∧ val = v r ∧ upd = u r ∧ new = n r
  | .or a b => Con.has val upd new a ∨ Con.has val upd new b

def relOf (mods : List Nat) (heap : List Itm) : List Nat := mods.filter fun p => ((heap[p]?).map Itm.isArr).getD false

def Done (c : Ctx) (heap : List Itm) (still : Bool) (cn : Con) (e : Ending) (w' : World) : Prop :=
  ∃ val upd new cv c', Con.has val upd new cn ∧ e = .returned cv ∧ c'.w = w' ∧ upd.length = cn.mods.length ∧ Fits c c' cn.mods (bif still then [] else relOf cn.mods heap) (cn.mods.zip upd) new heap.length ∧ CV c' val cv

mutual
theorem AV.Le.cv {c : Ctx} {v w : AV} {cv : Value} (h : AV.Le v w) (hv : CV c v cv) : CV c w cv := by
  cases h with
  | rfl => exact hv
  | tt => simpa [CV] using hv
  | ff => simpa [CV] using hv
  | nsl e => simp only [CV] at hv ⊢; exact ⟨none, 0, by rw [hv]; rfl, Nat.le_refl _, ⟨Nat.zero_le _, fun _ => rfl⟩, fun h0 => absurd h0 (by simp)⟩
  | agg hl => simp only [CV] at hv ⊢; obtain ⟨l, h1, h2⟩ := hv; exact ⟨l, h1, AV.LeL.cv hl h2⟩
theorem AV.LeL.cv {c : Ctx} {l m : List AV} {cvs : List Value} (h : AV.LeL l m) (hv : CVL c l cvs) : CVL c m cvs := by
  cases h with
  | nil => exact hv
  | cons ha hl =>
    cases cvs with
    | nil => exact hv.elim
    | cons x xs => exact ⟨AV.Le.cv ha hv.1, AV.LeL.cv hl hv.2⟩
end
theorem Itm.Le.ok {c : Ctx} {p : Nat} {i j : Itm} (h : Itm.Le i j) (hi : IOk c p i) : IOk c p j := by
  cases h with
  | rfl => exact hi
  | cells hl => obtain ⟨b, l, t, h1, h2, h3, h4⟩ := hi; exact ⟨b, l, t, h1, h2, hl.cv h3, h4⟩
theorem Itm.Le.isArr {i j : Itm} (h : Itm.Le i j) : i.isArr = j.isArr := by cases h <;> rfl
theorem Itm.LeL.len : ∀ {l m : List Itm}, Itm.LeL l m → l.length = m.length
  | _, _, .nil => rfl
  | _, _, .cons _ h => by simp [h.len]
theorem Itm.LeL.get : ∀ {l m : List Itm}, Itm.LeL l m → ∀ (n : Nat) (j : Itm), m[n]? = some j → ∃ i, l[n]? = some i ∧ Itm.Le i j
  | _, _, .nil, n, j, h => by simp at h
  | _, _, .cons ha _, 0, j, h => by simp at h; subst h; exact ⟨_, rfl, ha⟩
  | _, _, .cons _ hl, n + 1, j, h => by simpa using hl.get n j (by simpa using h)
theorem Itm.LeL.arr {l m : List Itm} (h : Itm.LeL l m) (n : Nat) : ((l[n]?).map Itm.isArr).getD false = ((m[n]?).map Itm.isArr).getD false := by
  cases hm : m[n]? with
  | some j => obtain ⟨i, h1, h2⟩ := h.get n j hm; rw [h1]; exact h2.isArr
  | none =>
    have : l[n]? = none := by rw [List.getElem?_eq_none_iff] at *; rw [h.len]; exact hm
    rw [this]
theorem relOf_le {mods : List Nat} {l m : List Itm} (h : Itm.LeL l m) : relOf mods l = relOf mods m := by
  unfold relOf
  congr 1
  funext p
  exact h.arr p
theorem COk.le {c : Ctx} {l m : List Itm} (h : Itm.LeL l m) (k : COk c l) : COk c m :=
  ⟨fun p => by rw [k.D, h.len], fun p it hp => by obtain ⟨i, h1, h2⟩ := h.get p it hp; exact h2.ok (k.it p i h1), k.dj, k.lt, k.im⟩

structure FnOk (P : Program) (f : FuncId) (s : Spc) : Prop where
  enter : ∀ args w, (callFunc f args).run P w = .ok (.enter f args) w
  calls : ∀ (g : s.G) (c : Ctx) (vals : Array Value), (∀ q ∈ (s.con g).pre, q) → COk c (s.heap g) → CVL c (s.args g) vals.toList → Calls P f vals c.w (Done c (s.heap g) s.still (s.con g))
end Go.Proofs.Ytncecddhknfimaa.VC
