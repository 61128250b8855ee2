/- What a state of the abstract machine says of the frame and of memory, and how a step keeps it. Plain lemmas; no conditions but those that each names. -/
import Derived.Test.YtljimnhijpcjaaaVd
set_option linter.unusedVariables false
set_option linter.unusedSimpArgs false
set_option linter.unusedSectionVars false
namespace Go.Proofs.Ytljimnhijpcjaaa.VC
open Go

def MapK (c : Ctx) (k v : Ty) : List (k.den × v.den) → List MapEntry → Prop
  | [], [] => True
  | a :: E, x :: es => k.V c a.1 x.key ∧ v.V c a.2 x.val ∧ MapK c k v E es
  | _, _ => False

def BornOk (es : List MapEntry) (clock : Nat) : Prop := (es.map (·.born)).Nodup ∧ ∀ x ∈ es, x.born < clock

/-- The item at a place is as said (not of pools). -/
def IOk0 (c : Ctx) (p : Nat) : Itm → Prop
  | .pool _ _ _ _ => False
  | .apool _ _ _ _ => False
  | .gone => True
  | .cells vs => ∃ (b : Nat) (l : List Value) (t : TypeId), c.ρ p = .pointer (some ⟨b, 0, none⟩) ∧ c.w.heap[b]? = some (.cells l.toArray t (0, 0)) ∧ CVL c vs l ∧ ∀ x, c.F p x ↔ x = b
  | .arr t e xs => ∃ cs, c.w.ownsRow 0 t e.sz (c.ρ p) xs.length cs ∧ RowsK c.w c.Im e xs cs ∧ ∀ x, c.F p x ↔ (c.ρ p).ownBlock = some x
  | .mapo k v E => ∃ (b : Nat) (es : Array MapEntry) (clock : Nat), c.ρ p = .map (some b) ∧ c.w.heap[b]? = some (.map es clock) ∧ MapK c k v E es.toList ∧ BornOk es.toList clock ∧ MOk k v E ∧ ∀ x, c.F p x ↔ x = b
  | .iter m k v left now => ∃ (b mb : Nat) (seen : Array Nat) (es : Array MapEntry) (clock : Nat), c.ρ p = .pointer (some ⟨b, 0, none⟩) ∧ c.w.heap[b]? = some (.mapIter (some mb) clock seen clock) ∧
      c.D m ∧ c.ρ m = .map (some mb) ∧ c.F m mb ∧ c.w.heap[mb]? = some (.map es clock) ∧ BornOk es.toList clock ∧ MapK c k v left (es.toList.filter fun x => !seen.contains x.born) ∧
      (∀ e, now = some e → ∃ x ∈ es.toList, seen.back? = some x.born ∧ k.V c e.1 x.key ∧ v.V c e.2 x.val) ∧ ∀ x, c.F p x ↔ x = b

/-- An object's places, by themselves. -/
def Ctx.obj (c : Ctx) (k : Nat) (ρ : Nat → Value) (F : Nat → Nat → Prop) : Ctx := { w := c.w, D := fun i => i < k, ρ := ρ, F := F, Im := c.Im }
/-- An object of a pool: number n, its data d. -/
structure PObj (c : Ctx) (H : List HT) (n : Nat) (d : HTden H) (ρ : Nat → Value) (F : Nat → Nat → Prop) : Prop where
  pos : 0 < n
  root : ρ 0 = refVal n
  it : ∀ i it, (HTitms H d)[i]? = some it → IOk0 (c.obj H.length ρ F) i it
  dj : ∀ i j b, i < H.length → j < H.length → i ≠ j → F i b → ¬ F j b
/-- The item at a place is as said. -/
def IOk (c : Ctx) (p : Nat) : Itm → Prop
  | .gone => IOk0 c p .gone
  | .cells vs => IOk0 c p (.cells vs)
  | .arr t e xs => IOk0 c p (.arr t e xs)
  | .mapo k v E => IOk0 c p (.mapo k v E)
  | .iter m k v left now => IOk0 c p (.iter m k v left now)
  | .pool q H P hs => c.ρ p = undef ∧ fits1 H = true ∧ PoolOk P ∧ ∃ (ρ : Nat → Nat → Value) (F : Nat → Nat → Nat → Prop), (∀ x ∈ P, x.1 ∉ hs → PObj c H x.1 x.2 (ρ x.1) (F x.1)) ∧
      (∀ x ∈ P, ∀ y ∈ P, x.1 ∉ hs → y.1 ∉ hs → x.1 ≠ y.1 → ∀ i j b, i < H.length → j < H.length → F x.1 i b → ¬ F y.1 j b) ∧
      ∀ b, c.F p b ↔ ∃ x ∈ P, x.1 ∉ hs ∧ ∃ i, i < H.length ∧ F x.1 i b
  | .apool q t e P => c.ρ p = undef ∧ 1 ≤ e.sz ∧ PoolOk P ∧ (∀ x ∈ P, x.2.2.length ≤ x.2.1 ∧ x.2.1 ≤ maxLen ∧ ∃ cur : Array Value, c.w.heap[x.1 - 1]? = some (.cells cur t (0, 0)) ∧ cur.size = x.2.1 * e.sz ∧
      RowsK c.w c.Im e x.2.2 (cur.toList.take (x.2.2.length * e.sz))) ∧ ∀ b, c.F p b ↔ ∃ x ∈ P, b + 1 = x.1
theorem IOk.of0 {c : Ctx} {p : Nat} : ∀ {it : Itm}, IOk0 c p it → IOk c p it
  | .gone, h => h
  | .cells _, h => h
  | .arr _ _ _, h => h
  | .mapo _ _ _, h => h
  | .iter _ _ _ _ _, h => h
  | .pool _ _ _ _, h => h.elim
  | .apool _ _ _ _, h => h.elim
theorem IOk.to0 {c : Ctx} {p : Nat} : ∀ {it : Itm}, (∀ q, it.poolIs q = false) → IOk c p it → IOk0 c p it
  | .gone, _, h => h
  | .cells _, _, h => h
  | .arr _ _ _, _, h => h
  | .mapo _ _ _, _, h => h
  | .iter _ _ _ _ _, _, h => h
  | .pool q _ _ _, hn, _ => by have := hn q; simp [Itm.poolIs] at this
  | .apool q _ _ _, hn, _ => by have := hn q; simp [Itm.poolIs] at this
theorem HT.itm_flat (h : HT) (d : h.den) (q : Nat) : (h.itm d).poolIs q = false := by cases h <;> rfl
theorem HTitms_len : ∀ (H : List HT) (d : HTden H), (HTitms H d).length = H.length
  | [], _ => rfl
  | _ :: H, d => by simp [HTitms, HTitms_len H d.2]
theorem HTitms_flat : ∀ {H : List HT} {d : HTden H} {i : Nat} {it : Itm}, (HTitms H d)[i]? = some it → ∀ q, it.poolIs q = false
  | [], _, _, _, h, _ => by simp [HTitms] at h
  | a :: H, d, 0, it, h, q => by simp [HTitms] at h; subst h; exact HT.itm_flat a d.1 q
  | a :: H, d, i + 1, it, h, q => HTitms_flat (H := H) (d := d.2) (i := i) (by simpa [HTitms] using h) q

theorem MapK.ext {c c' : Ctx} {keys rel : Nat → Prop} (h : Ext c c' keys rel) {k v : Ty} : ∀ {E : List (k.den × v.den)} {es : List MapEntry}, MapK c k v E es → MapK c' k v E es
  | [], [], _ => trivial
  | _ :: _, _ :: _, ⟨h1, h2, h3⟩ => ⟨Ty.V_ext h h1, Ty.V_ext h h2, MapK.ext h h3⟩
  | [], _ :: _, h => h.elim
  | _ :: _, [], h => h.elim

/-! ### Values whose places are gone -/

mutual
theorem clear_of {keys rel : Nat → Prop} : ∀ (v : AV), (∀ p, rel p → v.has p = false) → (∀ p, keys p → v.hasSt p = false) → v.clear keys rel
  | .undef, _, _ => trivial
  | .skip, _, _ => trivial
  | .tt, _, _ => trivial
  | .ff, _, _ => trivial
  | .bool _, _, _ => trivial
  | .int _ _, _, _ => trivial
  | .nptr, _, _ => trivial
  | .ptr q _, _, _ => trivial
  | .eptr q _ _ _, h, _ => fun hr => by have := h q hr; simp [AV.has] at this
  | .iptr _ _ _ _, _, _ => trivial
  | .nsl, _, _ => trivial
  | .sl q, h, _ => fun hr => by have := h q hr; simp [AV.has] at this
  | .pfx q _, h, _ => fun hr => by have := h q hr; simp [AV.has] at this
  | .sub q _ _ _, h, _ => fun hr => by have := h q hr; simp [AV.has] at this
  | .lst _ _, _, _ => trivial
  | .nmap, _, _ => trivial
  | .map q, _, _ => trivial
  | .stamp q _ _, _, k => fun hr => by have := k q hr; simp [AV.hasSt] at this
  | .nfn, _, _ => trivial
  | .vec _ _, _, _ => trivial
  | .ref _ _, _, _ => trivial
  | .rp _ _ _, _, _ => trivial
  | .hd _ _ _, _, _ => trivial
  | .hp _ _ _ _ _, _, _ => trivial
  | .fn _ cs, h, k => clearL_of cs (fun p hp => by simpa [AV.has] using h p hp) (fun p hp => by simpa [AV.hasSt] using k p hp)
  | .agg cs, h, k => clearL_of cs (fun p hp => by simpa [AV.has] using h p hp) (fun p hp => by simpa [AV.hasSt] using k p hp)
  | .tup cs, h, k => clearL_of cs (fun p hp => by simpa [AV.has] using h p hp) (fun p hp => by simpa [AV.hasSt] using k p hp)
theorem clearL_of {keys rel : Nat → Prop} : ∀ (l : List AV), (∀ p, rel p → AV.hasL p l = false) → (∀ p, keys p → AV.hasStL p l = false) → AV.clearL keys rel l
  | [], _, _ => trivial
  | v :: l, h, k => ⟨clear_of v (fun p hp => by have := h p hp; simp [AV.hasL] at this; exact this.1) (fun p hp => by have := k p hp; simp [AV.hasStL] at this; exact this.1),
      clearL_of l (fun p hp => by have := h p hp; simp [AV.hasL] at this; exact this.2) (fun p hp => by have := k p hp; simp [AV.hasStL] at this; exact this.2)⟩
end

def dropsV (rel : List Nat) (v : AV) : AV := rel.foldl (fun v p => v.drop p) v
def unstsV (keys : List Nat) (v : AV) : AV := keys.foldl (fun v p => v.unst p) v
def dropsI (rel : List Nat) (it : Itm) : Itm := rel.foldl (fun it p => it.drop p) it
def stopsI (keys : List Nat) (it : Itm) : Itm := keys.foldl (fun it p => it.stop p) it

theorem dropsV_undef (rel : List Nat) : dropsV rel .undef = .undef := by
  induction rel with
  | nil => rfl
  | cons p l ih => simpa [dropsV, AV.drop, AV.has] using ih
theorem unstsV_undef (rel : List Nat) : unstsV rel .undef = .undef := by
  induction rel with
  | nil => rfl
  | cons p l ih => simpa [unstsV, AV.unst, AV.hasSt] using ih
theorem dropsI_gone (rel : List Nat) : dropsI rel .gone = .gone := by
  induction rel with
  | nil => rfl
  | cons p l ih => simpa [dropsI, Itm.drop] using ih
theorem stopsI_gone (rel : List Nat) : stopsI rel .gone = .gone := by
  induction rel with
  | nil => rfl
  | cons p l ih => simpa [stopsI, Itm.stop] using ih

theorem dropsV_or (rel : List Nat) : ∀ v : AV, dropsV rel v = .undef ∨ (dropsV rel v = v ∧ ∀ p ∈ rel, v.has p = false) := by
  induction rel with
  | nil => intro v; exact .inr ⟨rfl, by simp⟩
  | cons p l ih =>
    intro v
    have hs : dropsV (p :: l) v = dropsV l (v.drop p) := rfl
    rw [hs]
    cases hp : v.has p with
    | true => left; simp [AV.drop, hp, dropsV_undef]
    | false =>
      have : v.drop p = v := by simp [AV.drop, hp]
      rw [this]
      rcases ih v with h | ⟨h1, h2⟩
      · exact .inl h
      · exact .inr ⟨h1, by simpa [hp] using h2⟩
theorem unstsV_or (rel : List Nat) : ∀ v : AV, unstsV rel v = .undef ∨ (unstsV rel v = v ∧ ∀ p ∈ rel, v.hasSt p = false) := by
  induction rel with
  | nil => intro v; exact .inr ⟨rfl, by simp⟩
  | cons p l ih =>
    intro v
    have hs : unstsV (p :: l) v = unstsV l (v.unst p) := rfl
    rw [hs]
    cases hp : v.hasSt p with
    | true => left; simp [AV.unst, hp, unstsV_undef]
    | false =>
      have : v.unst p = v := by simp [AV.unst, hp]
      rw [this]
      rcases ih v with h | ⟨h1, h2⟩
      · exact .inl h
      · exact .inr ⟨h1, by simpa [hp] using h2⟩

/-- What is left of a value behind a step. -/
theorem CV.left {c c' : Ctx} {keys rel : List Nat} (h : Ext c c' (· ∈ keys) (· ∈ rel)) {v : AV} {cv : Value} (hv : CV c v cv) : CV c' (unstsV keys (dropsV rel v)) cv := by
  rcases dropsV_or rel v with h1 | ⟨h1, h2⟩
  · rw [h1, unstsV_undef]; simp [CV]
  · rw [h1]
    rcases unstsV_or keys v with h3 | ⟨h3, h4⟩
    · rw [h3]; simp [CV]
    · rw [h3]; exact CV.ext h v cv (clear_of v h2 h4) hv
theorem CVL.left {c c' : Ctx} {keys rel : List Nat} (h : Ext c c' (· ∈ keys) (· ∈ rel)) : ∀ {l : List AV} {m : List Value}, CVL c l m → CVL c' (l.map fun v => unstsV keys (dropsV rel v)) m
  | [], [], _ => trivial
  | _ :: _, _ :: _, hv => ⟨CV.left h hv.1, CVL.left h hv.2⟩
  | [], _ :: _, hv => hv.elim
  | _ :: _, [], hv => hv.elim

theorem dropsI_cells (rel : List Nat) : ∀ vs : List AV, dropsI rel (.cells vs) = .cells (vs.map (dropsV rel)) := by
  induction rel with
  | nil => intro vs; simp [dropsI, show (dropsV [] : AV → AV) = id from rfl]
  | cons p l ih =>
    intro vs
    show dropsI l (.cells (vs.map (AV.drop p))) = _
    rw [ih, List.map_map]; rfl
theorem stopsI_cells (rel : List Nat) : ∀ vs : List AV, stopsI rel (.cells vs) = .cells (vs.map (unstsV rel)) := by
  induction rel with
  | nil => intro vs; simp [stopsI, show (unstsV [] : AV → AV) = id from rfl]
  | cons p l ih =>
    intro vs
    show stopsI l (.cells (vs.map (AV.unst p))) = _
    rw [ih, List.map_map]; rfl
theorem dropsI_arr (rel : List Nat) (t : TypeId) (e : Ty) (xs : List e.den) : dropsI rel (.arr t e xs) = .arr t e xs := by
  induction rel with
  | nil => rfl
  | cons p l ih => exact ih
theorem stopsI_arr (rel : List Nat) (t : TypeId) (e : Ty) (xs : List e.den) : stopsI rel (.arr t e xs) = .arr t e xs := by
  induction rel with
  | nil => rfl
  | cons p l ih => exact ih
theorem dropsI_mapo (rel : List Nat) (k v : Ty) (E : List (k.den × v.den)) : dropsI rel (.mapo k v E) = .mapo k v E := by
  induction rel with
  | nil => rfl
  | cons p l ih => exact ih
theorem stopsI_mapo (rel : List Nat) (k v : Ty) (E : List (k.den × v.den)) : stopsI rel (.mapo k v E) = .mapo k v E := by
  induction rel with
  | nil => rfl
  | cons p l ih => exact ih
theorem dropsI_iter (rel : List Nat) (m : Nat) (k v : Ty) (E : List (k.den × v.den)) (x : Option (k.den × v.den)) : dropsI rel (.iter m k v E x) = .iter m k v E x := by
  induction rel with
  | nil => rfl
  | cons p l ih => exact ih
theorem stopsI_iter (rel : List Nat) (m : Nat) (k v : Ty) (E : List (k.den × v.den)) (x : Option (k.den × v.den)) : stopsI rel (.iter m k v E x) = .gone ∨ (stopsI rel (.iter m k v E x) = .iter m k v E x ∧ m ∉ rel) := by
  induction rel with
  | nil => exact .inr ⟨rfl, by simp⟩
  | cons p l ih =>
    have hs : stopsI (p :: l) (.iter m k v E x) = stopsI l (bif Nat.beq m p then .gone else .iter m k v E x) := rfl
    rw [hs]
    cases hp : Nat.beq m p with
    | true => left; simp [stopsI_gone]
    | false =>
      simp only [cond_false]
      rcases ih with h | ⟨h1, h2⟩
      · exact .inl h
      · refine .inr ⟨h1, ?_⟩
        have : m ≠ p := by intro e; subst e; simp at hp
        simp [this, h2]

theorem IOk0.left {c c' : Ctx} {keys rel : List Nat} (h : Ext c c' (· ∈ keys) (· ∈ rel)) {p : Nat} (hD : c.D p) (hp : p ∉ keys) : ∀ {it : Itm}, IOk0 c p it → IOk0 c' p (stopsI keys (dropsI rel it))
  | .gone, _ => by rw [dropsI_gone, stopsI_gone]; trivial
  | .cells vs, ⟨b, l, t, h1, h2, h3, h4⟩ => by
    rw [dropsI_cells, stopsI_cells, List.map_map]
    have hr : p ∉ rel := fun hr => hp (h.sub p hr).1
    exact ⟨b, l, t, (h.ρ p hD hr).trans h1, (h.fw p b hD hp ((h4 b).2 rfl)).trans h2, CVL.left h h3, fun x => (h.F p hD hp x).trans (h4 x)⟩
  | .arr t e xs, ⟨cs, h1, h2, h3⟩ => by
    rw [dropsI_arr, stopsI_arr]
    have hr : p ∉ rel := fun hr => hp (h.sub p hr).1
    have hρ := h.ρ p hD hr
    refine ⟨cs, ?_, h2.mono h.Im h.imw, fun x => by rw [hρ]; exact (h.F p hD hp x).trans (h3 x)⟩
    rw [hρ]
    refine ⟨h1.1, ?_⟩
    rcases h1.2 with hn | ⟨g, cap, cur, hv, hb, hg, hrest⟩
    · exact .inl hn
    · refine .inr ⟨g, cap, cur, hv, hb, ?_, hrest⟩
      rw [h.fw p g hD hp ((h3 g).2 (by rw [hv]; rfl))]
      exact hg
  | .mapo k v E, ⟨b, es, clock, h1, h2, h3, h4, h5, h6⟩ => by
    rw [dropsI_mapo, stopsI_mapo]
    have hr : p ∉ rel := fun hr => hp (h.sub p hr).1
    exact ⟨b, es, clock, (h.ρ p hD hr).trans h1, (h.fw p b hD hp ((h6 b).2 rfl)).trans h2, MapK.ext h h3, h4, h5, fun x => (h.F p hD hp x).trans (h6 x)⟩
  | .iter m k v left now, ⟨b, mb, seen, es, clock, h1, h2, h3, h4, h5, h6, h7, h8, h9, h10⟩ => by
    rw [dropsI_iter]
    rcases stopsI_iter keys m k v left now with hg | ⟨hg, hm⟩
    · rw [hg]; trivial
    · rw [hg]
      have hr : p ∉ rel := fun hr => hp (h.sub p hr).1
      have hr' : m ∉ rel := fun hr => hm (h.sub m hr).1
      refine ⟨b, mb, seen, es, clock, (h.ρ p hD hr).trans h1, (h.fw p b hD hp ((h10 b).2 rfl)).trans h2, h.D m h3, (h.ρ m h3 hr').trans h4, (h.F m h3 hm mb).2 h5, (h.fw m mb h3 hm h5).trans h6, h7, MapK.ext h h8, fun e he => ?_, fun x => (h.F p hD hp x).trans (h10 x)⟩
      obtain ⟨x, hx1, hx2, hx3, hx4⟩ := h9 e he
      exact ⟨x, hx1, hx2, Ty.V_ext h hx3, Ty.V_ext h hx4⟩

theorem dropsI_pool (rel : List Nat) (q : Nat) (H : List HT) (P : List (Nat × HTden H)) (hs : List Nat) : dropsI rel (.pool q H P hs) = .pool q H P hs := by
  induction rel with
  | nil => rfl
  | cons p l ih => exact ih
theorem stopsI_pool (rel : List Nat) (q : Nat) (H : List HT) (P : List (Nat × HTden H)) (hs : List Nat) : stopsI rel (.pool q H P hs) = .pool q H P hs := by
  induction rel with
  | nil => rfl
  | cons p l ih => exact ih
theorem dropsI_apool (rel : List Nat) (q : Nat) (t : TypeId) (e : Ty) (P : List (Nat × Nat × List e.den)) : dropsI rel (.apool q t e P) = .apool q t e P := by
  induction rel with
  | nil => rfl
  | cons p l ih => exact ih
theorem stopsI_apool (rel : List Nat) (q : Nat) (t : TypeId) (e : Ty) (P : List (Nat × Nat × List e.den)) : stopsI rel (.apool q t e P) = .apool q t e P := by
  induction rel with
  | nil => rfl
  | cons p l ih => exact ih
/-- An object whose blocks are as they were. -/
theorem PObj.same {c c' : Ctx} {H : List HT} {n : Nat} {d : HTden H} {ρ : Nat → Value} {F : Nat → Nat → Prop} (h : PObj c H n d ρ F) (hI : ∀ b, c.Im b → c'.Im b) (hw : ∀ b, c.Im b → c'.w.heap[b]? = c.w.heap[b]?)
    (hF : ∀ i b, i < H.length → F i b → c'.w.heap[b]? = c.w.heap[b]?) : PObj c' H n d ρ F := by
  have e : Ext (c.obj H.length ρ F) (c'.obj H.length ρ F) (· ∈ ([] : List Nat)) (· ∈ ([] : List Nat)) := ⟨fun _ h => h, fun _ _ _ => rfl, fun _ _ _ _ => Iff.rfl, hI, hw, fun p b hp _ hb => hF p b hp hb, fun p hp => absurd hp (by simp)⟩
  refine ⟨h.pos, h.root, fun i it hi => ?_, h.dj⟩
  have hlt : i < H.length := by have := (List.getElem?_eq_some_iff.1 hi).1; rwa [HTitms_len] at this
  exact IOk0.left e hlt (by simp) (h.it i it hi)
/-- A pool whose blocks are as they were. -/
theorem IOk.samePool {c c' : Ctx} {p p' : Nat} {it : Itm} (hit : ∃ q, it.poolIs q = true) (h : IOk c p it) (hρ : c'.ρ p' = c.ρ p) (hI : ∀ b, c.Im b → c'.Im b) (hw : ∀ b, c.Im b → c'.w.heap[b]? = c.w.heap[b]?) (hF : ∀ b, c'.F p' b ↔ c.F p b) (hb : ∀ b, c.F p b → c'.w.heap[b]? = c.w.heap[b]?) : IOk c' p' it := by
  cases it with
  | pool q H P hs =>
    obtain ⟨hr, h0, h1, ρ, F, h2, h3, h4⟩ := h
    exact ⟨hρ.trans hr, h0, h1, ρ, F, fun x hx hn => (h2 x hx hn).same hI hw fun i b hi hF' => hb b ((h4 b).2 ⟨x, hx, hn, i, hi, hF'⟩), h3, fun b => (hF b).trans (h4 b)⟩
  | apool q t e P =>
    obtain ⟨hr, h0, h1, h2, h3⟩ := h
    refine ⟨hρ.trans hr, h0, h1, fun x hx => ?_, fun b => (hF b).trans (h3 b)⟩
    obtain ⟨k1, k2, cur, k3, k4, k5⟩ := h2 x hx
    have hpos := h1.2 x hx
    exact ⟨k1, k2, cur, (hb _ ((h3 _).2 ⟨x, hx, by omega⟩)).trans k3, k4, k5.mono hI hw⟩
  | _ => obtain ⟨q, hq⟩ := hit; cases hq
/-- An item that was not written. -/
theorem IOk.left {c c' : Ctx} {keys rel : List Nat} (h : Ext c c' (· ∈ keys) (· ∈ rel)) {p : Nat} (hD : c.D p) (hp : p ∉ keys) : ∀ {it : Itm}, IOk c p it → IOk c' p (stopsI keys (dropsI rel it))
  | .gone, hi => IOk.of0 (IOk0.left h hD hp hi)
  | .cells _, hi => IOk.of0 (IOk0.left h hD hp hi)
  | .arr _ _ _, hi => IOk.of0 (IOk0.left h hD hp hi)
  | .mapo _ _ _, hi => IOk.of0 (IOk0.left h hD hp hi)
  | .iter _ _ _ _ _, hi => IOk.of0 (IOk0.left h hD hp hi)
  | .pool q H P hs, hi => by
    rw [dropsI_pool, stopsI_pool]
    exact IOk.samePool ⟨q, by simp [Itm.poolIs]⟩ hi (h.ρ p hD fun hr => hp (h.sub p hr).1) h.Im h.imw (fun b => h.F p hD hp b) (fun b hb => h.fw p b hD hp hb)
  | .apool q t e P, hi => by
    rw [dropsI_apool, stopsI_apool]
    exact IOk.samePool ⟨q, by simp [Itm.poolIs]⟩ hi (h.ρ p hD fun hr => hp (h.sub p hr).1) h.Im h.imw (fun b => h.F p hD hp b) (fun b hb => h.fw p b hD hp hb)

theorem CVL.unst {c : Ctx} {q : Nat} : ∀ {l : List AV} {m : List Value}, CVL c l m → CVL c (l.map (AV.unst q)) m
  | [], [], _ => trivial
  | v :: _, _ :: _, hv => ⟨by unfold AV.unst; cases v.hasSt q <;> first | exact hv.1 | simp [CV], CVL.unst hv.2⟩
  | [], _ :: _, hv => hv.elim
  | _ :: _, [], hv => hv.elim
theorem IOk.stop {c : Ctx} {p q : Nat} : ∀ {it : Itm}, IOk c p it → IOk c p (it.stop q)
  | .gone, _ => trivial
  | .cells vs, ⟨b, l, t, h1, h2, h3, h4⟩ => ⟨b, l, t, h1, h2, h3.unst, h4⟩
  | .arr t e xs, h => h
  | .mapo k v E, h => h
  | .pool _ _ _ _, h => h
  | .apool _ _ _ _, h => h
  | .iter m k v left now, h => by
    show IOk c p (bif Nat.beq m q then .gone else .iter m k v left now)
    cases Nat.beq m q
    · exact h
    · trivial
theorem IOk.stops {c : Ctx} {p : Nat} (ks : List Nat) : ∀ {it : Itm}, IOk c p it → IOk c p (stopsI ks it) := by
  induction ks with
  | nil => intro it h; exact h
  | cons q l ih => intro it h; exact ih h.stop

/-! ### States -/

theorem nbeq_ne {p q : Nat} (h : p ≠ q) : Nat.beq p q = false := by
  cases hb : Nat.beq p q with
  | false => rfl
  | true => exact absurd (Nat.eq_of_beq_eq_true hb) h

theorem look_map {α : Type} (d : α) (f : α → α) (hf : f d = d) (l : List (Nat × α)) (p : Nat) : look d (l.map fun x => (x.1, f x.2)) p = f (look d l p) := by
  induction l with
  | nil => exact hf.symm
  | cons x l ih =>
    obtain ⟨q, x⟩ := x
    simp only [List.map_cons, look]
    cases Nat.beq q p
    · exact ih
    · rfl
theorem hasKey_map {α β : Type} (f : α → β) (l : List (Nat × α)) (p : Nat) : hasKey (l.map fun x => (x.1, f x.2)) p = hasKey l p := by
  simp [hasKey, List.any_map, Function.comp_def]
theorem look_none {α : Type} (d : α) (l : List (Nat × α)) (p : Nat) (h : hasKey l p = false) : look d l p = d := by
  induction l with
  | nil => rfl
  | cons x l ih =>
    obtain ⟨q, x⟩ := x
    simp only [hasKey, List.any_cons, Bool.or_eq_false_iff] at h
    simp only [look, h.1, cond_false]
    exact ih h.2

theorem tmp_kill (rel : List Nat) : ∀ (st : St) (t : Nat), (st.kill rel).tmp t = dropsV rel (st.tmp t) := by
  induction rel with
  | nil => intro st t; rfl
  | cons p l ih =>
    intro st t
    simp only [St.kill]
    rw [ih]
    show dropsV l (look .undef (st.tmps.map fun x => (x.1, x.2.drop p)) t) = dropsV l ((st.tmp t).drop p)
    rw [look_map .undef (AV.drop p) (by simp [AV.drop, AV.has])]; rfl
theorem at_kill (rel : List Nat) : ∀ (st : St) (q : Nat), (st.kill rel).at q = dropsI rel (st.at q) := by
  induction rel with
  | nil => intro st t; rfl
  | cons p l ih =>
    intro st t
    simp only [St.kill]
    rw [ih]
    show dropsI l (look .gone (st.heap.map fun x => (x.1, x.2.drop p)) t) = dropsI l ((st.at t).drop p)
    rw [look_map .gone (Itm.drop p) rfl]; rfl
theorem key_kill (rel : List Nat) : ∀ (st : St) (q : Nat), hasKey (st.kill rel).heap q = hasKey st.heap q := by
  induction rel with
  | nil => intro st t; rfl
  | cons p l ih => intro st t; simp only [St.kill]; rw [ih, hasKey_map]
theorem rest_kill (rel : List Nat) : ∀ (st : St), (st.kill rel).next = st.next ∧ (st.kill rel).lock = st.lock := by
  induction rel with
  | nil => intro st; exact ⟨rfl, rfl⟩
  | cons p l ih => intro st; simp only [St.kill]; rw [(ih _).1, (ih _).2]; exact ⟨rfl, rfl⟩

theorem tmp_upds : ∀ (upd : List (Nat × Itm)) (st : St) (t : Nat), (st.upds upd).tmp t = unstsV (upd.map (·.1)) (st.tmp t)
  | [], st, t => rfl
  | (p, it) :: l, st, t => by
    simp only [St.upds]
    rw [tmp_upds l]
    show unstsV (l.map (·.1)) (look .undef (st.tmps.map fun x => (x.1, x.2.unst p)) t) = unstsV (l.map (·.1)) ((st.tmp t).unst p)
    rw [look_map .undef (AV.unst p) (by simp [AV.unst, AV.hasSt])]; rfl
theorem at_upds_other : ∀ (upd : List (Nat × Itm)) (st : St) (q : Nat), q ∉ upd.map (·.1) → (st.upds upd).at q = stopsI (upd.map (·.1)) (st.at q)
  | [], st, t, _ => rfl
  | (p, it) :: l, st, q, h => by
    simp only [List.map_cons, List.mem_cons, not_or] at h
    simp only [St.upds]
    rw [at_upds_other l _ q h.2]
    have : Nat.beq p q = false := nbeq_ne (Ne.symm h.1)
    show stopsI (l.map (·.1)) (look .gone ((p, it) :: st.heap.map fun x => (x.1, x.2.stop p)) q) = stopsI (l.map (·.1)) ((st.at q).stop p)
    simp only [look, this, cond_false]
    rw [look_map .gone (Itm.stop p) rfl]; rfl
theorem at_upds_key : ∀ (upd : List (Nat × Itm)) (st : St) (p : Nat) (it : Itm), (upd.map (·.1)).Nodup → (p, it) ∈ upd → ∃ ks, (st.upds upd).at p = stopsI ks it
  | [], st, p, it, _, h => by simp at h
  | (q, jt) :: l, st, p, it, hn, h => by
    simp only [List.map_cons, List.nodup_cons] at hn
    simp only [St.upds]
    rcases List.mem_cons.1 h with h | h
    · obtain ⟨h1, h2⟩ := Prod.mk.inj h
      subst h1 h2
      refine ⟨l.map (·.1), ?_⟩
      rw [at_upds_other l _ p hn.1]
      simp [St.at, look]
    · exact at_upds_key l _ p it hn.2 h
theorem key_upds : ∀ (upd : List (Nat × Itm)) (st : St) (q : Nat), (∀ x ∈ upd, hasKey st.heap x.1 = true) → hasKey (st.upds upd).heap q = hasKey st.heap q
  | [], st, q, _ => rfl
  | (p, it) :: l, st, q, h => by
    simp only [St.upds]
    have hk : ∀ q, hasKey ((p, it) :: st.heap.map fun x => (x.1, x.2.stop p)) q = hasKey st.heap q := by
      intro q
      show (Nat.beq p q || hasKey (st.heap.map fun x => (x.1, x.2.stop p)) q) = _
      rw [hasKey_map]
      cases hp : Nat.beq p q with
      | false => simp
      | true =>
        have : p = q := by simpa using hp
        subst this
        simp [h (p, it) (by simp)]
    rw [key_upds l _ q (fun x hx => by rw [hk]; exact h x (by simp [hx])), hk]
theorem rest_upds : ∀ (upd : List (Nat × Itm)) (st : St), (st.upds upd).next = st.next ∧ (st.upds upd).lock = st.lock
  | [], st => ⟨rfl, rfl⟩
  | (p, it) :: l, st => by simp only [St.upds]; rw [(rest_upds l _).1, (rest_upds l _).2]; exact ⟨rfl, rfl⟩

theorem tmp_news : ∀ (new : List Itm) (st : St) (t : Nat), (st.news new).tmp t = st.tmp t
  | [], st, t => rfl
  | it :: l, st, t => by simp only [St.news]; rw [tmp_news l]; rfl
theorem rest_news : ∀ (new : List Itm) (st : St), (st.news new).next = st.next + new.length ∧ (st.news new).lock = st.lock
  | [], st => ⟨rfl, rfl⟩
  | it :: l, st => by simp only [St.news]; rw [(rest_news l _).1, (rest_news l _).2]; exact ⟨by simp; omega, rfl⟩
theorem at_news_other : ∀ (new : List Itm) (st : St) (q : Nat), (q < st.next ∨ st.next + new.length ≤ q) → (st.news new).at q = st.at q
  | [], st, q, _ => rfl
  | it :: l, st, q, h => by
    simp only [St.news]
    simp only [List.length_cons] at h
    rw [at_news_other l _ q (by simp only; omega)]
    have : Nat.beq st.next q = false := nbeq_ne (by omega)
    show look .gone ((st.next, it) :: st.heap) q = _
    simp only [look, this, cond_false]; rfl
theorem at_news_new : ∀ (new : List Itm) (st : St) (i : Nat) (it : Itm), new[i]? = some it → (st.news new).at (st.next + i) = it
  | jt :: l, st, 0, it, h => by
    simp at h
    subst h
    simp only [St.news]
    rw [at_news_other l _ _ (by simp only; omega)]
    show look .gone ((st.next, jt) :: st.heap) (st.next + 0) = _
    simp [look]
  | jt :: l, st, i + 1, it, h => by
    simp at h
    simp only [St.news]
    have := at_news_new l { st with heap := (st.next, jt) :: st.heap, next := st.next + 1 } i it h
    rw [show st.next + (i + 1) = st.next + 1 + i from by omega]
    exact this
theorem key_news : ∀ (new : List Itm) (st : St) (q : Nat), hasKey (st.news new).heap q = true ↔ hasKey st.heap q = true ∨ (st.next ≤ q ∧ q < st.next + new.length)
  | [], st, q => by simp only [St.news, List.length_nil]; constructor; exact .inl; rintro (h | h); exact h; omega
  | it :: l, st, q => by
    simp only [St.news]
    rw [key_news l]
    simp only [hasKey, List.any_cons, List.length_cons, Bool.or_eq_true]
    rw [show (Nat.beq st.next q = true) ↔ st.next = q from by simp]
    constructor
    · rintro ((h | h) | h)
      · right; omega
      · exact .inl h
      · right; omega
    · rintro (h | h)
      · exact .inl (.inr h)
      · by_cases he : st.next = q
        · exact .inl (.inl he)
        · right; omega

/-! ### What a state says -/

/-- But for these blocks, what there was is as it was. -/
structure Fr (F0 : Nat → Prop) (w0 w : World) : Prop where
  os : w.os = w0.os
  tape : w.tape = w0.tape
  output : w.output = w0.output
  size : w0.heap.size ≤ w.heap.size
  block : ∀ k, k < w0.heap.size → ¬ F0 k → w.heap[k]? = w0.heap[k]?

theorem Fr.refl (F0 : Nat → Prop) (w : World) : Fr F0 w w := ⟨rfl, rfl, rfl, Nat.le_refl _, fun _ _ _ => rfl⟩
theorem Fr.trans {F0 F1 : Nat → Prop} {a b c : World} (h : Fr F0 a b) (k : Fr F1 b c) (hF : ∀ x, F1 x → x < a.heap.size → F0 x) : Fr F0 a c :=
  ⟨k.os.trans h.os, k.tape.trans h.tape, k.output.trans h.output, Nat.le_trans h.size k.size, fun x hx hn =>
    (k.block x (Nat.lt_of_lt_of_le hx h.size) (fun h1 => hn (hF x h1 hx))).trans (h.block x hx hn)⟩

structure Env where
  w0 : World
  F0 : Nat → Nat → Prop
  Im0 : Nat → Prop
  nt : Nat

/-- The place whose blocks a place may have had at the start. -/
def org (p : Nat) : Nat := if 1000000 ≤ p then (p - 1000000) / 10000 else p
theorem org_lt {p : Nat} (h : p < 1000000) : org p = p := if_neg (by omega)
structure ROk (E : Env) (st : St) (a : Act) (c : Ctx) : Prop where
  Dk : ∀ p, c.D p ↔ hasKey st.heap p = true
  tm : ∀ t, CV c (st.tmp t) (a.tmps.getD t undef)
  sz : E.nt ≤ a.tmps.size
  df : a.defers = []
  it : ∀ p, c.D p → IOk c p (st.at p)
  dj : ∀ p q b, c.D p → c.D q → p ≠ q → c.F p b → ¬ c.F q b
  lt : ∀ p b, c.D p → c.F p b → b < c.w.heap.size ∧ (E.w0.heap.size ≤ b ∨ E.F0 (org p) b)
  im : ∀ b, c.Im b → b < c.w.heap.size ∧ ∀ p, c.D p → ¬ c.F p b
  im0 : ∀ b, E.Im0 b → c.Im b
  im1 : ∀ b, c.Im b → E.Im0 b ∨ E.w0.heap.size ≤ b
  fr : Fr (fun b => ∃ p, E.F0 p b) E.w0 c.w

/-- What a step has done to memory, and the value that it came to. -/
structure Fits (c c' : Ctx) (keys rel : List Nat) (upd : List (Nat × Itm)) (new : List Itm) (next : Nat) : Prop where
  D : ∀ p, c'.D p ↔ c.D p ∨ (next ≤ p ∧ p < next + new.length)
  ext : Ext c c' (· ∈ keys) (· ∈ rel)
  up : ∀ p it, (p, it) ∈ upd → IOk c' p it
  nw : ∀ i it, new[i]? = some it → IOk c' (next + i) it
  own : ∀ p b, p ∈ keys → c.D p → c'.F p b → c.F p b ∨ c.w.heap.size ≤ b
  nwo : ∀ p b, next ≤ p → p < next + new.length → c'.F p b → c.w.heap.size ≤ b
  dj : ∀ p q b, (p ∈ keys ∨ (next ≤ p ∧ p < next + new.length)) → (q ∈ keys ∨ (next ≤ q ∧ q < next + new.length)) → p ≠ q → c'.F p b → ¬ c'.F q b
  lt : ∀ p b, c'.D p → c'.F p b → b < c'.w.heap.size
  im : ∀ b, c'.Im b → b < c'.w.heap.size ∧ (c.Im b ∨ c.w.heap.size ≤ b)
  imn : ∀ b p, c'.Im b → (p ∈ keys ∨ (next ≤ p ∧ p < next + new.length)) → ¬ c'.F p b
  fr : Fr (fun b => ∃ p, p ∈ keys ∧ c.D p ∧ c.F p b) c.w c'.w

theorem isIn_iff {l : List Nat} {p : Nat} : isIn l p = true ↔ p ∈ l := by
  simp [isIn, List.any_eq_true]
theorem nodupB_iff : ∀ {l : List Nat}, nodupB l = true → l.Nodup
  | [], _ => by simp
  | p :: l, h => by
    simp only [nodupB, Bool.and_eq_true, Bool.not_eq_true'] at h
    refine List.nodup_cons.2 ⟨fun hm => ?_, nodupB_iff h.2⟩
    rw [isIn_iff.2 hm] at h
    simp at h
theorem hasKey_iff {α : Type} {l : List (Nat × α)} {p : Nat} : hasKey l p = true ↔ p ∈ l.map (·.1) := by
  simp [hasKey, List.any_eq_true]

structure Lets (st : St) (hold rel : List Nat) (upd : List (Nat × Itm)) (n : Nat) : Prop where
  lockK : ∀ x ∈ upd, x.1 ∉ st.lock
  holdK : ∀ x ∈ upd, x.1 ∉ hold
  key : ∀ x ∈ upd, hasKey st.heap x.1 = true
  nodup : (upd.map (·.1)).Nodup
  relK : ∀ p ∈ rel, p ∈ upd.map (·.1)
  lockR : ∀ q ∈ st.lock, ∀ p ∈ rel, (st.at q).has p = false
  lockU : ∀ q ∈ st.lock, ∀ x ∈ upd, (match st.at q with
    | .iter m _ _ _ _ => !Nat.beq m x.1
    | .cells vs => !AV.hasStL x.1 vs
    | _ => true) = true
  new : ∀ i, i < n → hasKey st.heap (st.next + i) = false

theorem lets_iff {st : St} {hold rel : List Nat} {upd : List (Nat × Itm)} {n : Nat} (h : st.lets hold rel upd n = true) : Lets st hold rel upd n := by
  unfold St.lets at h
  simp only [Bool.and_eq_true, List.all_eq_true, Bool.not_eq_true', List.mem_range] at h
  obtain ⟨⟨⟨⟨h1, h2⟩, h3⟩, h4⟩, h5⟩ := h
  have notin : ∀ {l : List Nat} {p : Nat}, isIn l p = false → p ∉ l := fun h hm => by rw [isIn_iff.2 hm] at h; cases h
  exact ⟨fun x hx => notin (h1 x hx).1.1, fun x hx => notin (h1 x hx).1.2, fun x hx => (h1 x hx).2, nodupB_iff h2, fun p hp => hasKey_iff.1 (h3 p hp), fun q hq p hp => (h4 q hq).1 p hp, fun q hq x hx => (h4 q hq).2 x hx, h5⟩

/-- A step keeps what the state says. -/
theorem step_ok {E : Env} {st : St} {a : Act} {c c' : Ctx} {hold rel : List Nat} {upd : List (Nat × Itm)} {new : List Itm} {dst : Option Nat} {v : AV} {cv : Value}
    (h : ROk E st a c) (hl : Lets st hold rel upd new.length) (hd : dstOk E.nt dst = true) (hf : Fits c c' (upd.map (·.1)) rel upd new st.next) (hv : CV c' v cv) :
    ROk E ((((st.kill rel).upds upd).news new).put dst v) (a.put dst cv) c' := by
  have hkeys : ∀ x ∈ upd, hasKey (st.kill rel).heap x.1 = true := fun x hx => by rw [key_kill]; exact hl.key x hx
  have hnx : ((st.kill rel).upds upd).next = st.next := by rw [(rest_upds _ _).1, (rest_kill _ _).1]
  have hkey : ∀ p, hasKey (((st.kill rel).upds upd).news new).heap p = true ↔ hasKey st.heap p = true ∨ (st.next ≤ p ∧ p < st.next + new.length) := fun p => by
    rw [key_news, hnx, key_upds _ _ _ hkeys, key_kill]
  have hput : ∀ (s : St) p, (s.put dst v).at p = s.at p ∧ (s.put dst v).heap = s.heap := fun s p => by cases dst <;> exact ⟨rfl, rfl⟩
  have hkD : ∀ p, p ∈ upd.map (·.1) → c.D p := fun p hp => by
    obtain ⟨x, hx, rfl⟩ := List.mem_map.1 hp
    exact (h.Dk _).2 (hl.key x hx)
  have hnD : ∀ p, st.next ≤ p → p < st.next + new.length → ¬ c.D p := fun p h1 h2 hD => by
    have := hl.new (p - st.next) (by omega)
    rw [show st.next + (p - st.next) = p from by omega, (h.Dk p).1 hD] at this
    cases this
  have tmAll : ∀ t, CV c' ((((st.kill rel).upds upd).news new).tmp t) (a.tmps.getD t undef) := fun t => by
    rw [tmp_news, tmp_upds, tmp_kill]
    exact CV.left hf.ext (h.tm t)
  have hFc : ∀ p b, c'.D p → c'.F p b → (p ∉ upd.map (·.1) ∧ c.D p ∧ c.F p b) ∨ ((p ∈ upd.map (·.1) ∨ (st.next ≤ p ∧ p < st.next + new.length)) ∧ ((c.D p ∧ c.F p b) ∨ c.w.heap.size ≤ b)) := fun p b hD hF => by
    by_cases hk : p ∈ upd.map (·.1)
    · exact .inr ⟨.inl hk, (hf.own p b hk (hkD p hk) hF).imp (fun h => ⟨hkD p hk, h⟩) id⟩
    · rcases (hf.D p).1 hD with hc | hn
      · exact .inl ⟨hk, hc, (hf.ext.F p hc hk b).1 hF⟩
      · exact .inr ⟨.inr hn, .inr (hf.nwo p b hn.1 hn.2 hF)⟩
  refine ⟨fun p => ?_, ?_, ?_, ?_, fun p hD => ?_, fun p q b hp hq hne hpb hqb => ?_, fun p b hD hF => ?_, fun b hb => ?_, fun b hb => hf.ext.Im b (h.im0 b hb), fun b hb => ?_, ?_⟩
  · rw [(hput _ p).2, hkey, hf.D, h.Dk]
  · intro t
    cases dst with
    | none => exact tmAll t
    | some d =>
      have hdt : d < a.tmps.size := Nat.lt_of_lt_of_le (by simpa [dstOk, Nat.blt_eq] using hd) h.sz
      show CV c' (look .undef ((d, v) :: _) t) ((a.tmps.setIfInBounds d cv).getD t undef)
      by_cases hdt' : d = t
      · subst hdt'
        simp only [look, Nat.beq_refl, cond_true]
        rw [Array.getD_eq_getD_getElem?, Array.getElem?_setIfInBounds_self_of_lt hdt]
        exact hv
      · simp only [look, nbeq_ne hdt', cond_false]
        rw [Array.getD_eq_getD_getElem?, Array.getElem?_setIfInBounds_ne hdt', ← Array.getD_eq_getD_getElem?]
        exact tmAll t
  · cases dst with
    | none => exact h.sz
    | some d => simpa [Act.put] using h.sz
  · cases dst with
    | none => exact h.df
    | some d => exact h.df
  · rw [(hput _ p).1]
    by_cases hn : st.next ≤ p ∧ p < st.next + new.length
    · have hi : p - st.next < new.length := by omega
      have := at_news_new new ((st.kill rel).upds upd) (p - st.next) _ (List.getElem?_eq_getElem hi)
      rw [hnx, show st.next + (p - st.next) = p from by omega] at this
      rw [this]
      have := hf.nw (p - st.next) _ (List.getElem?_eq_getElem hi)
      rwa [show st.next + (p - st.next) = p from by omega] at this
    · rw [at_news_other new _ p (by rw [hnx]; omega)]
      have hc : c.D p := ((hf.D p).1 hD).resolve_right hn
      by_cases hk : p ∈ upd.map (·.1)
      · obtain ⟨x, hx, rfl⟩ := List.mem_map.1 hk
        obtain ⟨ks, hks⟩ := at_upds_key upd (st.kill rel) x.1 x.2 hl.nodup hx
        rw [hks]
        exact (hf.up _ _ hx).stops ks
      · rw [at_upds_other upd _ p hk, at_kill]
        exact IOk.left hf.ext hc hk (h.it p hc)
  · rcases hFc p b hp hpb with ⟨hk, hc, hcb⟩ | ⟨hk, hcb⟩ <;> rcases hFc q b hq hqb with ⟨hk', hc', hcb'⟩ | ⟨hk', hcb'⟩
    · exact h.dj p q b hc hc' hne hcb hcb'
    · rcases hcb' with ⟨h1, h2⟩ | h1
      · exact h.dj p q b hc h1 hne hcb h2
      · have := (h.lt p b hc hcb).1; omega
    · rcases hcb with ⟨h1, h2⟩ | h1
      · exact h.dj p q b h1 hc' hne h2 hcb'
      · have := (h.lt q b hc' hcb').1; omega
    · exact hf.dj p q b hk hk' hne hpb hqb
  · refine ⟨hf.lt p b hD hF, ?_⟩
    rcases hFc p b hD hF with ⟨hk, hc, hcb⟩ | ⟨hk, ⟨hc, hcb⟩ | hcb⟩
    · exact (h.lt p b hc hcb).2
    · exact (h.lt p b hc hcb).2
    · exact .inl (Nat.le_trans h.fr.size hcb)
  · refine ⟨(hf.im b hb).1, fun p hD hF => ?_⟩
    by_cases hk : p ∈ upd.map (·.1) ∨ (st.next ≤ p ∧ p < st.next + new.length)
    · exact hf.imn b p hb hk hF
    · have hk1 : p ∉ upd.map (·.1) := fun h => hk (.inl h)
      have hc : c.D p := ((hf.D p).1 hD).resolve_right (fun h => hk (.inr h))
      have hcb := (hf.ext.F p hc hk1 b).1 hF
      rcases (hf.im b hb).2 with h1 | h1
      · exact (h.im b h1).2 p hc hcb
      · have := (h.lt p b hc hcb).1; omega
  · rcases (hf.im b hb).2 with h1 | h1
    · exact h.im1 b h1
    · exact .inr (Nat.le_trans h.fr.size h1)
  · refine h.fr.trans hf.fr fun x ⟨p, hp, hc, hx⟩ hlt => ?_
    rcases (h.lt p x hc hx).2 with h1 | h1
    · omega
    · exact ⟨_, h1⟩
end Go.Proofs.Ytljimnhijpcjaaa.VC
