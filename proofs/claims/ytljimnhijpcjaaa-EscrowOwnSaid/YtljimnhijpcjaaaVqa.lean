/- Objects of pools, opened for a call and closed behind it. Plain lemmas; no conditions but those that each names. -/
import Derived.Test.YtljimnhijpcjaaaVq
set_option linter.unusedVariables false
set_option linter.unusedSimpArgs false
set_option linter.unusedSectionVars false
namespace Go.Proofs.Ytljimnhijpcjaaa.VC
open Go

/-! ### The places that a value names are there -/

mutual
theorem cv_pos {c : Ctx} : ∀ (v : AV) (cv : Value), CV c v cv → ∀ q ∈ v.pos, c.D q
  | .undef, _, _, q, h => by simp [AV.pos] at h
  | .skip, _, _, q, h => by simp [AV.pos] at h
  | .tt, _, _, q, h => by simp [AV.pos] at h
  | .ff, _, _, q, h => by simp [AV.pos] at h
  | .bool b, _, _, q, h => by simp [AV.pos] at h
  | .int k n, _, _, q, h => by simp [AV.pos] at h
  | .nptr, _, _, q, h => by simp [AV.pos] at h
  | .ptr p off, _, hv, q, h => by simp [AV.pos] at h; subst h; simp only [CV] at hv; exact hv.1
  | .eptr p i sz off, _, hv, q, h => by simp [AV.pos] at h; subst h; simp only [CV] at hv; exact hv.1
  | .iptr e xs i off, _, _, q, h => by simp [AV.pos] at h
  | .nsl, _, _, q, h => by simp [AV.pos] at h
  | .sl p, _, hv, q, h => by simp [AV.pos] at h; subst h; simp only [CV] at hv; exact hv.1
  | .pfx p n, _, hv, q, h => by simp [AV.pos] at h; subst h; simp only [CV] at hv; exact hv.1
  | .sub p l n z, _, hv, q, h => by simp [AV.pos] at h; subst h; simp only [CV] at hv; exact hv.1
  | .lst e xs, _, _, q, h => by simp [AV.pos] at h
  | .nmap, _, _, q, h => by simp [AV.pos] at h
  | .map p, _, hv, q, h => by simp [AV.pos] at h; subst h; simp only [CV] at hv; exact hv.1
  | .stamp p k key, _, hv, q, h => by simp [AV.pos] at h; subst h; simp only [CV] at hv; exact hv.1
  | .nfn, _, _, q, h => by simp [AV.pos] at h
  | .vec _ _, _, _, q, h => by simp [AV.pos] at h
  | .ref _ _, _, _, q, h => by simp [AV.pos] at h
  | .rp _ _ _, _, _, q, h => by simp [AV.pos] at h
  | .hd _ _ _, _, _, q, h => by simp [AV.pos] at h
  | .hp _ _ _ _ _, _, _, q, h => by simp [AV.pos] at h
  | .fn f caps, _, hv, q, h => by simp only [CV, AV.pos] at *; obtain ⟨l, _, h2⟩ := hv; exact cvl_pos caps l h2 q h
  | .agg cs, _, hv, q, h => by simp only [CV, AV.pos] at *; obtain ⟨l, _, h2⟩ := hv; exact cvl_pos cs l h2 q h
  | .tup cs, _, hv, q, h => by simp only [CV, AV.pos] at *; obtain ⟨l, _, h2⟩ := hv; exact cvl_pos cs l h2 q h
theorem cvl_pos {c : Ctx} : ∀ (l : List AV) (m : List Value), CVL c l m → ∀ q ∈ AV.posL l, c.D q
  | [], [], _, q, h => by simp [AV.posL] at h
  | v :: l, x :: m, hv, q, h => by
    simp only [AV.posL, List.mem_append] at h
    exact h.elim (cv_pos v x hv.1 q) (cvl_pos l m hv.2 q)
  | [], _ :: _, hv, _, _ => hv.elim
  | _ :: _, [], hv, _, _ => hv.elim
end
theorem iok_pos {c : Ctx} {p : Nat} : ∀ {it : Itm}, IOk c p it → ∀ q ∈ it.pos, c.D q
  | .gone, _, q, h => by simp [Itm.pos] at h
  | .cells vs, ⟨b, l, t, _, _, h3, _⟩, q, h => cvl_pos vs l h3 q (by simpa [Itm.pos] using h)
  | .arr t e xs, _, q, h => by simp [Itm.pos] at h
  | .mapo k v E, _, q, h => by simp [Itm.pos] at h
  | .iter m k v left now, ⟨b, mb, seen, es, clock, h1, h2, h3, _⟩, q, h => by simp [Itm.pos] at h; subst h; exact h3
  | .pool _ _ _ _, _, q, h => by simp [Itm.pos] at h
  | .apool _ _ _ _, _, q, h => by simp [Itm.pos] at h

mutual
theorem has_pos {p : Nat} : ∀ (v : AV), v.has p = true ∨ v.hasSt p = true → p ∈ v.pos
  | .undef, h => by simp [AV.has, AV.hasSt] at h
  | .skip, h => by simp [AV.has, AV.hasSt] at h
  | .tt, h => by simp [AV.has, AV.hasSt] at h
  | .ff, h => by simp [AV.has, AV.hasSt] at h
  | .bool b, h => by simp [AV.has, AV.hasSt] at h
  | .int k n, h => by simp [AV.has, AV.hasSt] at h
  | .nptr, h => by simp [AV.has, AV.hasSt] at h
  | .ptr p off, h => by simp [AV.has, AV.hasSt] at h
  | .eptr q i sz off, h => by simp [AV.has, AV.hasSt] at h; simp [AV.pos, h]
  | .iptr e xs i off, h => by simp [AV.has, AV.hasSt] at h
  | .nsl, h => by simp [AV.has, AV.hasSt] at h
  | .sl q, h => by simp [AV.has, AV.hasSt] at h; simp [AV.pos, h]
  | .pfx q n, h => by simp [AV.has, AV.hasSt] at h; simp [AV.pos, h]
  | .sub q l n z, h => by simp [AV.has, AV.hasSt] at h; simp [AV.pos, h]
  | .lst e xs, h => by simp [AV.has, AV.hasSt] at h
  | .nmap, h => by simp [AV.has, AV.hasSt] at h
  | .map q, h => by simp [AV.has, AV.hasSt] at h
  | .stamp q k key, h => by simp [AV.has, AV.hasSt] at h; simp [AV.pos, h]
  | .nfn, h => by simp [AV.has, AV.hasSt] at h
  | .vec _ _, h => by simp [AV.has, AV.hasSt] at h
  | .ref _ _, h => by simp [AV.has, AV.hasSt] at h
  | .rp _ _ _, h => by simp [AV.has, AV.hasSt] at h
  | .hd _ _ _, h => by simp [AV.has, AV.hasSt] at h
  | .hp _ _ _ _ _, h => by simp [AV.has, AV.hasSt] at h
  | .fn f cs, h => by simp only [AV.has, AV.hasSt, AV.pos] at *; exact hasl_pos cs h
  | .agg cs, h => by simp only [AV.has, AV.hasSt, AV.pos] at *; exact hasl_pos cs h
  | .tup cs, h => by simp only [AV.has, AV.hasSt, AV.pos] at *; exact hasl_pos cs h
theorem hasl_pos {p : Nat} : ∀ (l : List AV), AV.hasL p l = true ∨ AV.hasStL p l = true → p ∈ AV.posL l
  | [], h => by simp [AV.hasL, AV.hasStL] at h
  | v :: l, h => by
    simp only [AV.hasL, AV.hasStL, AV.posL, Bool.or_eq_true, List.mem_append] at *
    rcases h with (h | h) | (h | h)
    · exact .inl (has_pos v (.inl h))
    · exact .inr (hasl_pos l (.inl h))
    · exact .inl (has_pos v (.inr h))
    · exact .inr (hasl_pos l (.inr h))
end

/-! ### Rows of places -/

theorem look_num {α : Type} (d : α) : ∀ (l : List α) (n t : Nat), look d (numFrom n l) t = if n ≤ t ∧ t < n + l.length then l.getD (t - n) d else d
  | [], n, t => by rw [if_neg (by simp)]; rfl
  | x :: l, n, t => by
    show look d ((n, x) :: numFrom (n + 1) l) t = _
    by_cases h : n = t
    · subst h
      rw [if_pos (by simp)]
      simp [look]
    · simp only [look, nbeq_ne h, cond_false]
      rw [look_num d l (n + 1) t]
      simp only [List.length_cons]
      by_cases h2 : n + 1 ≤ t ∧ t < n + 1 + l.length
      · rw [if_pos h2, if_pos (by omega), show t - n = (t - (n + 1)) + 1 from by omega]
        rfl
      · rw [if_neg h2, if_neg (by omega)]
theorem key_num {α : Type} : ∀ (l : List α) (n t : Nat), hasKey (numFrom n l) t = true ↔ n ≤ t ∧ t < n + l.length
  | [], n, t => by simp [numFrom, hasKey]
  | x :: l, n, t => by
    rw [hasKey_iff]
    show t ∈ n :: (numFrom (n + 1) l).map (·.1) ↔ _
    rw [List.mem_cons, ← hasKey_iff, key_num l (n + 1) t]
    simp only [List.length_cons]
    omega

theorem look_append {α : Type} (d : α) : ∀ (l m : List (Nat × α)) (t : Nat), look d (l ++ m) t = if hasKey l t = true then look d l t else look d m t
  | [], m, t => by rw [if_neg (by simp [hasKey])]; rfl
  | (u, x) :: l, m, t => by
    by_cases h : u = t
    · subst h
      rw [if_pos (by simp [hasKey])]
      simp [look]
    · have hk : hasKey ((u, x) :: l) t = hasKey l t := by simp [hasKey, nbeq_ne h]
      rw [hk]
      simp only [List.cons_append, look, nbeq_ne h, cond_false]
      exact look_append d l m t
theorem hasKey_append {α : Type} (l m : List (Nat × α)) (t : Nat) : hasKey (l ++ m) t = (hasKey l t || hasKey m t) := by simp [hasKey]
theorem look_memK {α : Type} (d : α) : ∀ {l : List (Nat × α)} {t : Nat}, hasKey l t = true → (t, look d l t) ∈ l
  | [], _, h => by simp [hasKey] at h
  | (u, x) :: l, t, h => by
    by_cases e : u = t
    · subst e; simp [look]
    · have hk : hasKey l t = true := by simpa [hasKey, nbeq_ne e] using h
      simp only [look, nbeq_ne e, cond_false]
      exact List.mem_cons_of_mem _ (look_memK d hk)
theorem look_filter {α : Type} (d : α) (f : Nat → Bool) : ∀ (l : List (Nat × α)) (t : Nat), look d (l.filter fun y => f y.1) t = bif f t then look d l t else d
  | [], t => by cases f t <;> rfl
  | (u, x) :: l, t => by
    have ih := look_filter d f l t
    by_cases hu : u = t
    · subst hu
      cases hf : f u with
      | true => simp [List.filter_cons, hf, look]
      | false => rw [List.filter_cons, if_neg (by simp [hf]), ih, hf]; rfl
    · cases hf : f u with
      | true =>
        rw [List.filter_cons, if_pos (by simp [hf])]
        simp only [look, nbeq_ne hu, cond_false]
        exact ih
      | false =>
        rw [List.filter_cons, if_neg (by simp [hf])]
        simp only [look, nbeq_ne hu, cond_false]
        exact ih
theorem key_filter {α : Type} (f : Nat → Bool) (l : List (Nat × α)) (t : Nat) : hasKey (l.filter fun y => f y.1) t = true ↔ f t = true ∧ hasKey l t = true := by
  rw [hasKey_iff, hasKey_iff]
  constructor
  · intro h
    obtain ⟨y, hy, rfl⟩ := List.mem_map.1 h
    have := List.mem_filter.1 hy
    exact ⟨this.2, List.mem_map_of_mem this.1⟩
  · rintro ⟨h1, h2⟩
    obtain ⟨y, hy, rfl⟩ := List.mem_map.1 h2
    exact List.mem_map_of_mem (List.mem_filter.2 ⟨hy, h1⟩)
theorem inRange_iff {base k p : Nat} : inRange base k p = true ↔ base ≤ p ∧ p < base + k := by
  simp [inRange, Nat.blt_eq]
theorem farFrom_iff {base k pq : Nat} {ps : List Nat} : farFrom base k pq ps = true ↔ ∀ p ∈ ps, ¬ (base ≤ p ∧ p < base + k) ∧ p ≠ pq := by
  unfold farFrom
  rw [List.all_eq_true]
  refine forall_congr' fun p => forall_congr' fun _ => ?_
  simp only [Bool.and_eq_true, Bool.not_eq_true']
  refine and_congr ?_ ?_
  · rw [← inRange_iff, Bool.not_eq_true]
  · constructor
    · intro h e; subst e; simp at h
    · exact fun h => nbeq_ne h

/-! ### Other names for what is kept -/

/-- A value whose places are as they were. -/
theorem CV.to {c c' : Ctx} {v : AV} {cv : Value} (h : ∀ q ∈ v.pos, c.D q → c'.D q ∧ c'.ρ q = c.ρ q ∧ ∀ b, c'.F q b ↔ c.F q b) (hw : c'.w = c.w) (hI : ∀ b, c.Im b → c'.Im b) (hv : CV c v cv) : CV c' v cv := by
  have hD := cv_pos v cv hv
  have h1 := CV.only (D := (· ∈ v.pos)) v cv (fun q hq => hq) hv
  have h2 : Ren (c.only (· ∈ v.pos)) c' id := ⟨fun q hq => (h q hq (hD q hq)).1, fun q hq => (h q hq (hD q hq)).2.1, fun q b hq => (h q hq (hD q hq)).2.2 b, hw, hI⟩
  have h3 := CV.ren h2 v cv h1
  rwa [ren_fix (s := id) v fun _ _ => rfl] at h3
theorem itm_ren_id (it : Itm) : it.ren id = it := by
  cases it with
  | cells vs => simp only [Itm.ren]; rw [renl_fix (s := id) vs fun _ _ => rfl]
  | _ => rfl
theorem IOk.to {c c' : Ctx} {p : Nat} {it : Itm} (h : ∀ q, (q = p ∨ q ∈ it.pos) → c.D q → c'.D q ∧ c'.ρ q = c.ρ q ∧ ∀ b, c'.F q b ↔ c.F q b) (hD : c.D p) (hw : c'.w = c.w) (hI : ∀ b, c.Im b → c'.Im b) (hi : IOk c p it) : IOk c' p it := by
  have hp := iok_pos hi
  have h1 := IOk.only (D := fun q => q = p ∨ q ∈ it.pos) (fun q hq => .inr hq) hi
  have hDq : ∀ q, (q = p ∨ q ∈ it.pos) → c.D q := fun q hq => hq.elim (fun e => e ▸ hD) (hp q)
  have h2 : Ren (c.only (fun q => q = p ∨ q ∈ it.pos)) c' id := ⟨fun q hq => (h q hq (hDq q hq)).1, fun q hq => (h q hq (hDq q hq)).2.1, fun q b hq => (h q hq (hDq q hq)).2.2 b, hw, hI⟩
  have h3 := IOk.ren h2 (p := p) (.inl rfl) h1
  rwa [itm_ren_id] at h3

section
variable {c c' : Ctx} {p0 : Nat} {ps : List Nat} {r : AV}

theorem cl_gen (h : ∀ q, c.D q → q ∉ ps → c'.D q ∧ c'.ρ q = c.ρ q ∧ ∀ b, c'.F q b ↔ c.F q b) (hw : c'.w = c.w) (hI : ∀ b, c.Im b → c'.Im b) (v : AV) (cv : Value) (hv : CV c v cv) : CV c' (bif v.pos.any (isIn ps) then .undef else v) cv := by
  cases hb : v.pos.any (isIn ps) with
  | true => simp [CV]
  | false =>
    refine CV.to (fun q hq hD => h q hD fun hm => ?_) hw hI hv
    have := List.any_eq_false.1 hb q hq
    exact this (isIn_iff.2 hm)
mutual
theorem cl_cv (h : ∀ q, c.D q → q ∉ ps → c'.D q ∧ c'.ρ q = c.ρ q ∧ ∀ b, c'.F q b ↔ c.F q b) (hw : c'.w = c.w) (hI : ∀ b, c.Im b → c'.Im b) (hr : ∀ cv, CV c (.ptr p0 0) cv → CV c' r cv) : ∀ (v : AV) (cv : Value), CV c v cv → CV c' (AV.cl p0 ps r v) cv
  | .undef, cv, hv => by simp only [AV.cl]; exact cl_gen h hw hI _ _ hv
  | .skip, cv, hv => by simp only [AV.cl]; exact cl_gen h hw hI _ _ hv
  | .tt, cv, hv => by simp only [AV.cl]; exact cl_gen h hw hI _ _ hv
  | .ff, cv, hv => by simp only [AV.cl]; exact cl_gen h hw hI _ _ hv
  | .bool _, cv, hv => by simp only [AV.cl]; exact cl_gen h hw hI _ _ hv
  | .int _ _, cv, hv => by simp only [AV.cl]; exact cl_gen h hw hI _ _ hv
  | .nptr, cv, hv => by simp only [AV.cl]; exact cl_gen h hw hI _ _ hv
  | .ptr p o, cv, hv => by
    simp only [AV.cl]
    cases hb : Nat.beq p p0 && Nat.beq o 0 with
    | true =>
      simp only [Bool.and_eq_true] at hb
      rw [Nat.eq_of_beq_eq_true hb.1, Nat.eq_of_beq_eq_true hb.2] at hv
      exact hr cv hv
    | false =>
      have := cl_gen (ps := ps) h hw hI _ _ hv
      simpa [AV.pos] using this
  | .eptr _ _ _ _, cv, hv => by simp only [AV.cl]; exact cl_gen h hw hI _ _ hv
  | .iptr _ _ _ _, cv, hv => by simp only [AV.cl]; exact cl_gen h hw hI _ _ hv
  | .nsl, cv, hv => by simp only [AV.cl]; exact cl_gen h hw hI _ _ hv
  | .sl _, cv, hv => by simp only [AV.cl]; exact cl_gen h hw hI _ _ hv
  | .pfx _ _, cv, hv => by simp only [AV.cl]; exact cl_gen h hw hI _ _ hv
  | .sub _ _ _ _, cv, hv => by simp only [AV.cl]; exact cl_gen h hw hI _ _ hv
  | .lst _ _, cv, hv => by simp only [AV.cl]; exact cl_gen h hw hI _ _ hv
  | .nmap, cv, hv => by simp only [AV.cl]; exact cl_gen h hw hI _ _ hv
  | .map _, cv, hv => by simp only [AV.cl]; exact cl_gen h hw hI _ _ hv
  | .stamp _ _ _, cv, hv => by simp only [AV.cl]; exact cl_gen h hw hI _ _ hv
  | .nfn, cv, hv => by simp only [AV.cl]; exact cl_gen h hw hI _ _ hv
  | .vec _ _, cv, hv => by simp only [AV.cl]; exact cl_gen h hw hI _ _ hv
  | .ref _ _, cv, hv => by simp only [AV.cl]; exact cl_gen h hw hI _ _ hv
  | .rp _ _ _, cv, hv => by simp only [AV.cl]; exact cl_gen h hw hI _ _ hv
  | .hd _ _ _, cv, hv => by simp only [AV.cl]; exact cl_gen h hw hI _ _ hv
  | .hp _ _ _ _ _, cv, hv => by simp only [AV.cl]; exact cl_gen h hw hI _ _ hv
  | .fn f cs, cv, hv => by
    simp only [AV.cl, CV] at *
    obtain ⟨l, h1, h2⟩ := hv
    exact ⟨l, h1, cll_cv h hw hI hr cs l h2⟩
  | .agg cs, cv, hv => by
    simp only [AV.cl, CV] at *
    obtain ⟨l, h1, h2⟩ := hv
    exact ⟨l, h1, cll_cv h hw hI hr cs l h2⟩
  | .tup cs, cv, hv => by
    simp only [AV.cl, CV] at *
    obtain ⟨l, h1, h2⟩ := hv
    exact ⟨l, h1, cll_cv h hw hI hr cs l h2⟩
theorem cll_cv (h : ∀ q, c.D q → q ∉ ps → c'.D q ∧ c'.ρ q = c.ρ q ∧ ∀ b, c'.F q b ↔ c.F q b) (hw : c'.w = c.w) (hI : ∀ b, c.Im b → c'.Im b) (hr : ∀ cv, CV c (.ptr p0 0) cv → CV c' r cv) : ∀ (l : List AV) (m : List Value), CVL c l m → CVL c' (AV.clL p0 ps r l) m
  | [], [], _ => trivial
  | v :: l, x :: m, hv => ⟨cl_cv h hw hI hr v x hv.1, cll_cv h hw hI hr l m hv.2⟩
  | [], _ :: _, hv => hv.elim
  | _ :: _, [], hv => hv.elim
end
theorem cl_iok (h : ∀ q, c.D q → q ∉ ps → c'.D q ∧ c'.ρ q = c.ρ q ∧ ∀ b, c'.F q b ↔ c.F q b) (hw : c'.w = c.w) (hI : ∀ b, c.Im b → c'.Im b) (hr : ∀ cv, CV c (.ptr p0 0) cv → CV c' r cv) {p : Nat} (hp : p ∉ ps) (hD : c.D p) {it : Itm} (hi : IOk c p it) : IOk c' p (it.cl p0 ps r) := by
  have hx : ∀ (it : Itm), it.pos = [] → IOk c p it → IOk c' p it := fun it he hi => IOk.to (fun q hq hD' => by
    rw [he] at hq
    have : q = p := hq.resolve_right (by simp)
    subst this
    exact h q hD' hp) hD hw hI hi
  cases it with
  | cells vs =>
    obtain ⟨b, l, t, h1, h2, h3, h4⟩ := hi
    obtain ⟨k1, k2, k3⟩ := h p hD hp
    exact ⟨b, l, t, k2.trans h1, by rw [hw]; exact h2, cll_cv h hw hI hr vs l h3, fun x => (k3 x).trans (h4 x)⟩
  | iter m k v left now =>
    show IOk c' p (bif isIn ps m then .gone else .iter m k v left now)
    cases hm : isIn ps m with
    | true => trivial
    | false =>
      refine IOk.to (fun q hq hD' => h q hD' fun hmem => ?_) hD hw hI hi
      rcases hq with rfl | hq
      · exact hp hmem
      · simp [Itm.pos] at hq
        subst hq
        rw [isIn_iff.2 hmem] at hm; cases hm
  | gone => trivial
  | arr t e xs => exact hx _ rfl hi
  | mapo k v E => exact hx _ rfl hi
  | pool q H P hs => exact hx _ rfl hi
  | apool q t e P => exact hx _ rfl hi
theorem cl_idg (hp : p0 ∈ ps) (v : AV) (h : ∀ q ∈ v.pos, q ∉ ps) : (bif v.pos.any (isIn ps) then .undef else v) = v := by
  have : v.pos.any (isIn ps) = false := List.any_eq_false.2 fun q hq hm => h q hq (isIn_iff.1 hm)
  rw [this]; rfl
mutual
theorem cl_id (hp : p0 ∈ ps) : ∀ (v : AV), (∀ q ∈ v.pos, q ∉ ps) → AV.cl p0 ps r v = v
  | .undef, h => by simp only [AV.cl]; exact cl_idg hp _ h
  | .skip, h => by simp only [AV.cl]; exact cl_idg hp _ h
  | .tt, h => by simp only [AV.cl]; exact cl_idg hp _ h
  | .ff, h => by simp only [AV.cl]; exact cl_idg hp _ h
  | .bool _, h => by simp only [AV.cl]; exact cl_idg hp _ h
  | .int _ _, h => by simp only [AV.cl]; exact cl_idg hp _ h
  | .nptr, h => by simp only [AV.cl]; exact cl_idg hp _ h
  | .ptr p o, h => by
    have h1 := h p (by simp [AV.pos])
    simp only [AV.cl]
    have h2 : Nat.beq p p0 = false := nbeq_ne fun e => h1 (e ▸ hp)
    have h3 : isIn ps p = false := by
      cases hb : isIn ps p with
      | true => exact absurd (isIn_iff.1 hb) h1
      | false => rfl
    rw [h2, h3]; rfl
  | .eptr _ _ _ _, h => by simp only [AV.cl]; exact cl_idg hp _ h
  | .iptr _ _ _ _, h => by simp only [AV.cl]; exact cl_idg hp _ h
  | .nsl, h => by simp only [AV.cl]; exact cl_idg hp _ h
  | .sl _, h => by simp only [AV.cl]; exact cl_idg hp _ h
  | .pfx _ _, h => by simp only [AV.cl]; exact cl_idg hp _ h
  | .sub _ _ _ _, h => by simp only [AV.cl]; exact cl_idg hp _ h
  | .lst _ _, h => by simp only [AV.cl]; exact cl_idg hp _ h
  | .nmap, h => by simp only [AV.cl]; exact cl_idg hp _ h
  | .map _, h => by simp only [AV.cl]; exact cl_idg hp _ h
  | .stamp _ _ _, h => by simp only [AV.cl]; exact cl_idg hp _ h
  | .nfn, h => by simp only [AV.cl]; exact cl_idg hp _ h
  | .vec _ _, h => by simp only [AV.cl]; exact cl_idg hp _ h
  | .ref _ _, h => by simp only [AV.cl]; exact cl_idg hp _ h
  | .rp _ _ _, h => by simp only [AV.cl]; exact cl_idg hp _ h
  | .hd _ _ _, h => by simp only [AV.cl]; exact cl_idg hp _ h
  | .hp _ _ _ _ _, h => by simp only [AV.cl]; exact cl_idg hp _ h
  | .fn f cs, h => by simp only [AV.cl]; rw [cll_id hp cs (by simpa [AV.pos] using h)]
  | .agg cs, h => by simp only [AV.cl]; rw [cll_id hp cs (by simpa [AV.pos] using h)]
  | .tup cs, h => by simp only [AV.cl]; rw [cll_id hp cs (by simpa [AV.pos] using h)]
theorem cll_id (hp : p0 ∈ ps) : ∀ (l : List AV), (∀ q ∈ AV.posL l, q ∉ ps) → AV.clL p0 ps r l = l
  | [], _ => rfl
  | v :: l, h => by
    simp only [AV.clL]
    rw [cl_id hp v (fun q hq => h q (by simp [AV.posL, hq])), cll_id hp l (fun q hq => h q (by simp [AV.posL, hq]))]
end
theorem cl_iid (hp : p0 ∈ ps) (it : Itm) (h : ∀ q ∈ it.pos, q ∉ ps) : it.cl p0 ps r = it := by
  cases it with
  | cells vs => simp only [Itm.cl]; rw [cll_id hp vs (by simpa [Itm.pos] using h)]
  | iter m k v l x =>
    have h1 := h m (by simp [Itm.pos])
    have h3 : isIn ps m = false := by
      cases hb : isIn ps m with
      | true => exact absurd (isIn_iff.1 hb) h1
      | false => rfl
    simp only [Itm.cl, h3, cond_false]
  | _ => rfl
end

/-! ### Opened -/

/-- An object's places are its own. -/
def Ctx.openW (c : Ctx) (base k pq : Nat) (ρ : Nat → Value) (F : Nat → Nat → Prop) (B : Nat → Prop) : Ctx :=
  { w := c.w, D := fun p => c.D p ∨ (base ≤ p ∧ p < base + k), ρ := fun p => if base ≤ p ∧ p < base + k then ρ (p - base) else c.ρ p,
    F := fun p b => if base ≤ p ∧ p < base + k then F (p - base) b else if p = pq then B b else c.F p b, Im := c.Im }

/-- What is so when one is open. -/
structure One (st : St) (c : Ctx) (hold : List Nat) (o : Opn) (st1 : St) (c1 : Ctx) : Prop where
  tmp : st.tmp o.t = .ref o.q o.n
  tmp1 : ∀ t, st1.tmp t = if t = o.t then .ptr o.base 0 else st.tmp t
  at1 : ∀ p, p ≠ o.pq → ¬ (o.base ≤ p ∧ p < o.base + o.k) → st1.at p = st.at p
  lock : st1.lock = st.lock
  key1 : ∀ p, hasKey st1.heap p = true ↔ hasKey st.heap p = true ∨ (o.base ≤ p ∧ p < o.base + o.k)
  far : ∀ p, hasKey st.heap p = true → ¬ (o.base ≤ p ∧ p < o.base + o.k)
  farT : ∀ t, ∀ p ∈ (st.tmp t).pos, ¬ (o.base ≤ p ∧ p < o.base + o.k) ∧ p ≠ o.pq
  hq : o.pq ∉ hold ∧ o.pq ∉ st.lock
  pq : hasKey st.heap o.pq = true
  pqlt : o.pq < 1000000
  org : ∀ p, o.base ≤ p → p < o.base + o.k → org p = o.pq
  pos : 0 < o.k ∧ 0 < o.n
  D : ∀ p, c1.D p ↔ c.D p ∨ (o.base ≤ p ∧ p < o.base + o.k)
  ρ : ∀ p, c.D p → c1.ρ p = c.ρ p
  F : ∀ p b, c.D p → p ≠ o.pq → (c1.F p b ↔ c.F p b)
  Im : c1.Im = c.Im
  w : c1.w = c.w
  root : c1.ρ o.base = refVal o.n

section
variable {E : Env} {st : St} {a : Act} {c : Ctx} {hold : List Nat}

theorem open_one (h : ROk E st a c) {j t q n pq q' : Nat} {H : List HT} {P : List (Nat × HTden H)} {hs : List Nat} (ht : st.tmp t = .ref q n) (hat : st.at pq = .pool q' H P hs) (hk : hasKey st.heap pq = true) (hm : st.mayOpen hold j pq H = true)
    (hin : (pget P n).isSome = true ∧ n ∉ hs) : ∃ c1, c1.w = c.w ∧ ROk E (st.open t (openB j pq) pq (.pool q' H P (n :: hs)) (HTitms H ((pget P n).getD (HTdflt H)))) a c1 ∧
      One st c hold ⟨t, openB j pq, H.length, pq, q, n⟩ (st.open t (openB j pq) pq (.pool q' H P (n :: hs)) (HTitms H ((pget P n).getD (HTdflt H)))) c1 := by
  obtain ⟨hg, hnh⟩ := hin
  obtain ⟨d, hd⟩ := Option.isSome_iff_exists.1 hg
  rw [hd]
  simp only [Option.getD_some]
  unfold St.mayOpen at hm
  simp only [Bool.and_eq_true, Nat.blt_eq, Bool.not_eq_true', List.all_eq_true] at hm
  obtain ⟨⟨⟨⟨⟨⟨m1, m2⟩, m3⟩, m4⟩, m5⟩, m6⟩, m7⟩ := hm
  have hD : c.D pq := (h.Dk pq).2 hk
  have hit := h.it pq hD
  rw [hat] at hit
  obtain ⟨fr, f1, f2, ρ, F, f3, f4, f5⟩ := hit
  have hmem := pget_mem hd
  have ho := f3 _ hmem hnh
  have hH : 0 < H.length ∧ H.length ≤ 100 := by
    unfold fits1 at f1
    split at f1
    · rename_i l H'
      exact ⟨by simp, Nat.le_of_ble_eq_true f1⟩
    · cases f1
  generalize hb : openB j pq = base at *
  have hbase : base = 1000000 + 10000 * pq + 100 * j := by rw [← hb]; rfl
  have hfar : ∀ p, hasKey st.heap p = true → ¬ (base ≤ p ∧ p < base + H.length) := fun p hp hr => by
    have := m5 _ (look_memK Itm.gone hp)
    rw [inRange_iff.2 hr] at this
    cases this
  have hpq : ¬ (base ≤ pq ∧ pq < base + H.length) := hfar pq hk
  have hfarT : ∀ t, ∀ p ∈ (st.tmp t).pos, ¬ (base ≤ p ∧ p < base + H.length) ∧ p ≠ pq := fun t p hp => by
    cases hkt : hasKey st.tmps t with
    | true =>
      have := m6 _ (look_memK AV.undef hkt)
      exact farFrom_iff.1 this p hp
    | false =>
      have : st.tmp t = .undef := look_none AV.undef st.tmps t hkt
      rw [this] at hp
      simp [AV.pos] at hp
  have hfarI : ∀ r, hasKey st.heap r = true → ∀ p ∈ (st.at r).pos, ¬ (base ≤ p ∧ p < base + H.length) ∧ p ≠ pq := fun r hr p hp => farFrom_iff.1 (m7 _ (look_memK Itm.gone hr)) p hp
  let B : Nat → Prop := fun b => ∃ x ∈ P, x.1 ∉ n :: hs ∧ ∃ i, i < H.length ∧ F x.1 i b
  let c1 := c.openW base H.length pq (ρ n) (F n) B
  have hlen : ((HTitms H d).map (·.ren (base + ·))).length = H.length := by rw [List.length_map, HTitms_len]
  have key1 : ∀ p, hasKey (st.open t base pq (.pool q' H P (n :: hs)) (HTitms H d)).heap p = true ↔ hasKey st.heap p = true ∨ (base ≤ p ∧ p < base + H.length) := fun p => by
    show hasKey ((pq, _) :: (numFrom base ((HTitms H d).map (·.ren (base + ·))) ++ st.heap)) p = true ↔ _
    rw [show hasKey ((pq, Itm.pool q' H P (n :: hs)) :: (numFrom base ((HTitms H d).map (·.ren (base + ·))) ++ st.heap)) p = (Nat.beq pq p || hasKey (numFrom base ((HTitms H d).map (·.ren (base + ·))) ++ st.heap) p) from rfl, hasKey_append, Bool.or_eq_true, Bool.or_eq_true, key_num, hlen]
    constructor
    · rintro (e | e | e)
      · exact .inl (Nat.eq_of_beq_eq_true e ▸ hk)
      · exact .inr e
      · exact .inl e
    · rintro (e | e)
      · exact .inr (.inr e)
      · exact .inr (.inl e)
  have atIn : ∀ i it, (HTitms H d)[i]? = some it → (st.open t base pq (.pool q' H P (n :: hs)) (HTitms H d)).at (base + i) = it.ren (base + ·) := fun i it hi => by
    have hlt : i < H.length := by have := (List.getElem?_eq_some_iff.1 hi).1; rwa [HTitms_len] at this
    show look .gone ((pq, _) :: (numFrom base ((HTitms H d).map (·.ren (base + ·))) ++ st.heap)) (base + i) = _
    have hne : pq ≠ base + i := fun e => hpq (by omega)
    simp only [look, nbeq_ne hne, cond_false]
    rw [look_append, if_pos ((key_num _ _ _).2 (by rw [hlen]; omega)), look_num, if_pos (by rw [hlen]; omega), Nat.add_sub_cancel_left]
    simp [List.getD, hi]
  have at1 : ∀ p, p ≠ pq → ¬ (base ≤ p ∧ p < base + H.length) → (st.open t base pq (.pool q' H P (n :: hs)) (HTitms H d)).at p = st.at p := fun p h1 h2 => by
    show look .gone ((pq, _) :: (numFrom base ((HTitms H d).map (·.ren (base + ·))) ++ st.heap)) p = _
    simp only [look, nbeq_ne (Ne.symm h1), cond_false]
    have : hasKey (numFrom base ((HTitms H d).map (·.ren (base + ·)))) p ≠ true := fun e => h2 (by have := (key_num _ _ _).1 e; rwa [hlen] at this)
    rw [look_append, if_neg this]
    rfl
  have tmp1 : ∀ u, (st.open t base pq (.pool q' H P (n :: hs)) (HTitms H d)).tmp u = if u = t then .ptr base 0 else st.tmp u := fun u => by
    show look .undef ((t, .ptr base 0) :: st.tmps) u = _
    by_cases e : u = t
    · subst e; simp [look]
    · rw [if_neg e]; simp only [look, nbeq_ne (Ne.symm e), cond_false]; rfl
  have hin0 : ∀ {p}, base ≤ p ∧ p < base + H.length → c1.ρ p = ρ n (p - base) ∧ ∀ b, c1.F p b ↔ F n (p - base) b := fun {p} hp => ⟨if_pos hp, fun b => by show (if _ then _ else _) ↔ _; rw [if_pos hp]⟩
  have hold0 : ∀ {p}, ¬ (base ≤ p ∧ p < base + H.length) → c1.ρ p = c.ρ p ∧ (p ≠ pq → ∀ b, c1.F p b ↔ c.F p b) ∧ (p = pq → ∀ b, c1.F p b ↔ B b) := fun {p} hp => ⟨if_neg hp, fun hne b => by show (if _ then _ else _) ↔ _; rw [if_neg hp, if_neg hne], fun he b => by show (if _ then _ else _) ↔ _; rw [if_neg hp, if_pos he]⟩
  have hsub : ∀ b, B b → c.F pq b := fun b ⟨x, h1, h2, i, h3, h4⟩ => (f5 b).2 ⟨x, h1, fun hm => h2 (List.mem_cons_of_mem _ hm), i, h3, h4⟩
  have hsubn : ∀ i b, i < H.length → F n i b → c.F pq b := fun i b h1 h2 => (f5 b).2 ⟨_, hmem, hnh, i, h1, h2⟩
  have hDr : ∀ {p}, c.D p → ¬ (base ≤ p ∧ p < base + H.length) := fun {p} hp => hfar p ((h.Dk p).1 hp)
  have keep : ∀ q, c.D q → q ≠ pq → c1.D q ∧ c1.ρ q = c.ρ q ∧ ∀ b, c1.F q b ↔ c.F q b := fun q hq hne => ⟨.inl hq, (hold0 (hDr hq)).1, (hold0 (hDr hq)).2.1 hne⟩
  have hv : a.tmps.getD t undef = refVal n := by have := h.tm t; rw [ht] at this; simpa only [CV] using this
  have hrv : refVal n = .pointer (some ⟨n - 1, 0, none⟩) := by have := ho.pos; obtain ⟨m, rfl⟩ : ∃ m, n = m + 1 := ⟨n - 1, by omega⟩; rfl
  -- what all blocks are
  have blk : ∀ p b, c1.D p → c1.F p b → (c.D p ∧ c.F p b) ∨ ((base ≤ p ∧ p < base + H.length) ∧ c.F pq b ∧ F n (p - base) b) := fun p b hp hF => by
    by_cases hr : base ≤ p ∧ p < base + H.length
    · have := ((hin0 hr).2 b).1 hF
      exact .inr ⟨hr, hsubn _ b (by omega) this, this⟩
    · have hp' : c.D p := hp.resolve_right hr
      by_cases he : p = pq
      · subst he; exact .inl ⟨hp', hsub b (((hold0 hr).2.2 rfl b).1 hF)⟩
      · exact .inl ⟨hp', ((hold0 hr).2.1 he b).1 hF⟩
  refine ⟨c1, rfl, ⟨fun p => ?_, fun u => ?_, h.sz, h.df, fun p hp => ?_, fun p r b hp hr hne hF hG => ?_, fun p b hp hF => ?_, fun b hb => ⟨(h.im b hb).1, fun p hp hF => ?_⟩, h.im0, h.im1, h.fr⟩, ⟨ht, tmp1, at1, rfl, key1, hfar, hfarT, ⟨?_, ?_⟩, hk, m1, fun p h1 h2 => ?_, ⟨hH.1, ho.pos⟩, fun p => Iff.rfl, fun p hp => (hold0 (hDr hp)).1, fun p b hp hne => (hold0 (hDr hp)).2.1 hne b, rfl, rfl, ?_⟩⟩
  · rw [key1, ← h.Dk]; rfl
  · rw [tmp1]
    by_cases e : u = t
    · subst e
      rw [if_pos rfl]
      simp only [CV]
      have hb0 : base ≤ base ∧ base < base + H.length := by omega
      refine ⟨.inr hb0, n - 1, ?_, by rw [hv, hrv]⟩
      rw [(hin0 hb0).1, Nat.sub_self, ho.root, hrv]
    · rw [if_neg e]
      exact CV.to (fun q hq hD' => keep q hD' (hfarT u q hq).2) rfl (fun _ h => h) (h.tm u)
  · by_cases hr : base ≤ p ∧ p < base + H.length
    · obtain ⟨i, rfl⟩ : ∃ i, p = base + i := ⟨p - base, by omega⟩
      have hi : i < (HTitms H d).length := by rw [HTitms_len]; omega
      have hit := ho.it i _ (List.getElem?_eq_getElem hi)
      rw [atIn i _ (List.getElem?_eq_getElem hi)]
      have hren : Ren (c.obj H.length (ρ n) (F n)) c1 (base + ·) := ⟨fun q hq => .inr ⟨by omega, by have hq : q < H.length := hq; omega⟩, fun q hq => by
          have hq : q < H.length := hq
          rw [(hin0 (p := base + q) (by omega)).1, Nat.add_sub_cancel_left]; rfl, fun q b hq => by
          have hq : q < H.length := hq
          rw [(hin0 (p := base + q) (by omega)).2, Nat.add_sub_cancel_left]; exact Iff.rfl, rfl, fun _ h => h⟩
      exact IOk.ren hren (p := i) (by show i < H.length; rw [HTitms_len] at hi; exact hi) (IOk.of0 hit)
    · have hp' : c.D p := hp.resolve_right hr
      by_cases he : p = pq
      · subst he
        have : (st.open t base p (.pool q' H P (n :: hs)) (HTitms H d)).at p = .pool q' H P (n :: hs) := by
          simp [St.at, St.open, look]
        rw [this]
        exact ⟨(hold0 hr).1.trans fr, f1, f2, ρ, F, fun x hx hn => (f3 x hx fun hm => hn (List.mem_cons_of_mem _ hm)).same (fun _ h => h) (fun _ _ => rfl) (fun _ _ _ _ => rfl), fun x hx y hy h1 h2 => f4 x hx y hy (fun hm => h1 (List.mem_cons_of_mem _ hm)) (fun hm => h2 (List.mem_cons_of_mem _ hm)), (hold0 hr).2.2 rfl⟩
      · rw [at1 p he hr]
        refine IOk.to (fun q hq hD' => keep q hD' ?_) hp' rfl (fun _ h => h) (h.it p hp')
        rcases hq with rfl | hq
        · exact he
        · exact (hfarI p ((h.Dk p).1 hp') q hq).2
  · -- blocks stay apart
    by_cases h1 : base ≤ p ∧ p < base + H.length
    · by_cases h2 : base ≤ r ∧ r < base + H.length
      · exact ho.dj (p - base) (r - base) b (by omega) (by omega) (by omega) (((hin0 h1).2 b).1 hF) (((hin0 h2).2 b).1 hG)
      · have hr' : c.D r := hr.resolve_right h2
        have hFn := ((hin0 h1).2 b).1 hF
        by_cases he : r = pq
        · subst he
          obtain ⟨x, hx, hx2, i, hi, hxb⟩ := ((hold0 h2).2.2 rfl b).1 hG
          simp only [List.mem_cons, not_or] at hx2
          exact f4 _ hmem x hx hnh hx2.2 (fun e => hx2.1 e.symm) (p - base) i b (by omega) hi hFn hxb
        · exact h.dj pq r b hD hr' (Ne.symm he) (hsubn _ b (by omega) hFn) (((hold0 h2).2.1 he b).1 hG)
    · have hp' : c.D p := hp.resolve_right h1
      by_cases h2 : base ≤ r ∧ r < base + H.length
      · have hGn := ((hin0 h2).2 b).1 hG
        by_cases he : p = pq
        · subst he
          obtain ⟨x, hx, hx2, i, hi, hxb⟩ := ((hold0 h1).2.2 rfl b).1 hF
          simp only [List.mem_cons, not_or] at hx2
          exact f4 x hx _ hmem hx2.2 hnh hx2.1 i (r - base) b hi (by omega) hxb hGn
        · exact h.dj p pq b hp' hD he (((hold0 h1).2.1 he b).1 hF) (hsubn _ b (by omega) hGn)
      · rcases blk p b hp hF with ⟨k1, k2⟩ | ⟨k1, _⟩
        · rcases blk r b hr hG with ⟨k3, k4⟩ | ⟨k3, _⟩
          · exact h.dj p r b k1 k3 hne k2 k4
          · exact h2 k3
        · exact h1 k1
  · rcases blk p b hp hF with ⟨k1, k2⟩ | ⟨k1, k2, _⟩
    · exact h.lt p b k1 k2
    · have := h.lt pq b hD k2
      have he : org p = pq := by
        unfold org
        rw [if_pos (by omega)]
        omega
      have he2 : org pq = pq := org_lt m1
      rw [he]; rw [he2] at this; exact this
  · rcases blk p b hp hF with ⟨k1, k2⟩ | ⟨k1, k2, _⟩
    · exact (h.im b hb).2 p k1 k2
    · exact (h.im b hb).2 pq hD k2
  · exact fun hm => by rw [isIn_iff.2 hm] at m3; cases m3
  · exact fun hm => by rw [isIn_iff.2 hm] at m4; cases m4
  · dsimp only at h1 h2 ⊢
    unfold org
    rw [if_pos (by omega)]
    omega
  · have hb0 : base ≤ base ∧ base < base + H.length := by omega
    dsimp only
    rw [(hin0 hb0).1, Nat.sub_self, ho.root]

/-! ### Closed -/

def Ctx.closeW (d : Ctx) (base k pq : Nat) (B : Nat → Prop) : Ctx :=
  { w := d.w, D := fun p => d.D p ∧ ¬ (base ≤ p ∧ p < base + k), ρ := d.ρ, F := fun p b => if p = pq then B b else d.F p b, Im := d.Im }

theorem close_one {st1 s : St} {a' : Act} {c1 d : Ctx} {ts : List Nat} {o : Opn} {K : St → Prop} (hts : ∀ t ∈ ts, t < 1000000000) (hlk : LockOk st) (h0 : ∀ p, c.D p ↔ hasKey st.heap p = true) (ho : One st c hold o st1 c1) (h : ROk E s a' d) (hk : Kp st1 s ts) (hd : Hd c1 d (hold ++ st1.lock)) (hc : close1 o s K) :
    ∃ s' d', d'.w = d.w ∧ ROk E s' a' d' ∧ K s' ∧ Kp st s' ts ∧ Hd c d' (hold ++ st.lock) := by
  unfold close1 at hc
  split at hc
  case h_2 => exact hc.elim
  rename_i q' H P m hs hat
  split at hc
  case h_2 => exact hc.elim
  rename_i dd hrd
  obtain ⟨⟨e1, hnh⟩, hc⟩ := hc
  cases hb : (Nat.beq H.length o.k && (List.range o.k).all (fun i => hasKey s.heap (o.base + i) && (s.at (o.base + i)).pos.all (inRange o.base o.k)) && s.lock.all (fun p => !inRange o.base o.k p && !Nat.beq p o.pq && farFrom o.base o.k o.pq (s.at p).pos)) with
  | false => rw [hb] at hc; exact hc.elim
  | true =>
  rw [hb] at hc
  simp only [cond_true] at hc
  simp only [Bool.and_eq_true, decide_eq_true_eq, Bool.not_eq_true', List.all_eq_true, List.mem_range] at hb
  obtain ⟨⟨e2, e4⟩, e5⟩ := hb
  have e2 := Nat.eq_of_beq_eq_true e2
  subst e1
  have hpqr : ¬ (o.base ≤ o.pq ∧ o.pq < o.base + o.k) := ho.far _ ho.pq
  have hkpq : hasKey s.heap o.pq = true := hk.key _ ((ho.key1 _).2 (.inl ho.pq))
  have hDpq : d.D o.pq := (h.Dk _).2 hkpq
  have hDi : ∀ i, i < o.k → d.D (o.base + i) := fun i hi => (h.Dk _).2 (e4 i hi).1
  have hne : ∀ i, i < o.k → o.base + i ≠ o.pq := fun i hi e => hpqr (by omega)
  have hroot : d.ρ o.base = refVal o.n := by
    have hp := ho.pos
    have hD1 : c1.D o.base := (ho.D _).2 (.inr (by omega))
    rcases hd.s _ hD1 with ⟨A, n, cap, hs⟩ | hs
    · rw [ho.root] at hs
      obtain ⟨m, hm⟩ : ∃ m, o.n = m + 1 := ⟨o.n - 1, by omega⟩
      rw [hm] at hs
      cases hs
    · exact hs.trans ho.root
  have hit := h.it _ hDpq
  rw [hat] at hit
  obtain ⟨fr, f1, f2, ρp, Fp, f3, f4, f5⟩ := hit
  let ρ' : Nat → Nat → Value := fun m => if m = o.n then fun i => d.ρ (o.base + i) else ρp m
  let F' : Nat → Nat → Nat → Prop := fun m => if m = o.n then fun i => d.F (o.base + i) else Fp m
  have F'n : F' o.n = fun i => d.F (o.base + i) := if_pos rfl
  have F'o : ∀ {m}, m ≠ o.n → F' m = Fp m := fun hm => if_neg hm
  have ρ'n : ρ' o.n = fun i => d.ρ (o.base + i) := if_pos rfl
  have ρ'o : ∀ {m}, m ≠ o.n → ρ' m = ρp m := fun hm => if_neg hm
  let B : Nat → Prop := fun b => ∃ x ∈ pset P o.n dd, x.1 ∉ hs ∧ ∃ i, i < H.length ∧ F' x.1 i b
  let d' := d.closeW o.base o.k o.pq B
  have d'pq : ∀ b, d'.F o.pq b ↔ B b := fun b => by show (if _ then _ else _) ↔ _; rw [if_pos rfl]
  have d'o : ∀ {p}, p ≠ o.pq → ∀ b, d'.F p b ↔ d.F p b := fun {p} hp b => by show (if _ then _ else _) ↔ _; rw [if_neg hp]
  have hmem : ∀ x ∈ pset P o.n dd, (x = (o.n, dd) ∧ x.1 = o.n) ∨ (x.1 ≠ o.n ∧ x ∈ P) := fun x hx => by
    rcases pset_mem f2.1 hx with ⟨e, _⟩ | e
    · exact .inl ⟨e, by rw [e]⟩
    · exact .inr e
  have hBb : ∀ b, B b → d.F o.pq b ∨ ∃ i, i < o.k ∧ d.F (o.base + i) b := fun b ⟨x, hx, hx2, i, hi, hF⟩ => by
    rcases hmem x hx with ⟨_, e⟩ | ⟨e, hxP⟩
    · rw [e, F'n] at hF
      exact .inr ⟨i, by omega, hF⟩
    · rw [F'o e] at hF
      refine .inl ((f5 b).2 ⟨x, hxP, fun hm => ?_, i, hi, hF⟩)
      rcases List.mem_cons.1 hm with hm | hm
      · exact e hm
      · exact hx2 hm
  have blk : ∀ p b, d'.D p → d'.F p b → (d.F p b) ∨ (p = o.pq ∧ ∃ i, i < o.k ∧ d.F (o.base + i) b) := fun p b hp hF => by
    by_cases he : p = o.pq
    · subst he
      rcases hBb b ((d'pq b).1 hF) with h1 | h1
      · exact .inl h1
      · exact .inr ⟨rfl, h1⟩
    · exact .inl ((d'o he b).1 hF)
  have hobj : PObj d' H o.n dd (ρ' o.n) (F' o.n) := by
    rw [ρ'n, F'n]
    refine ⟨ho.pos.2, hroot, fun i it hi => ?_, fun i j b hi hj hij => ?_⟩
    · have hlt : i < H.length := by have := (List.getElem?_eq_some_iff.1 hi).1; rwa [HTitms_len] at this
      obtain ⟨it0, hi0, hle⟩ := (HTrds_le hrd).get i it hi
      have hik : i < o.k := by omega
      rw [List.getElem?_map, List.getElem?_range hik] at hi0
      simp only [Option.map_some, Option.some.injEq] at hi0
      subst hi0
      have hpos : ∀ q ∈ (s.at (o.base + i)).pos, o.base ≤ q ∧ q < o.base + o.k := fun q hq => inRange_iff.1 ((e4 i hik).2 q hq)
      have h1 := IOk.only (D := fun q => o.base ≤ q ∧ q < o.base + o.k) hpos (h.it _ (hDi i hik))
      have hren : Ren (d.only fun q => o.base ≤ q ∧ q < o.base + o.k) (d'.obj H.length (fun i => d.ρ (o.base + i)) (fun i => d.F (o.base + i))) (· - o.base) := by
        refine ⟨fun q hq => ?_, fun q hq => ?_, fun q b hq => ?_, rfl, fun _ h => h⟩
        · have hq : o.base ≤ q ∧ q < o.base + o.k := hq
          show q - o.base < H.length
          omega
        · have hq : o.base ≤ q ∧ q < o.base + o.k := hq
          show d.ρ (o.base + (q - o.base)) = d.ρ q
          rw [show o.base + (q - o.base) = q from by omega]
        · have hq : o.base ≤ q ∧ q < o.base + o.k := hq
          show d.F (o.base + (q - o.base)) b ↔ d.F q b
          rw [show o.base + (q - o.base) = q from by omega]
      have h2 := IOk.ren hren (p := o.base + i) (by show _ ∧ _; omega) h1
      have h3 := hle.ok h2
      rw [Nat.add_sub_cancel_left] at h3
      exact IOk.to0 (HTitms_flat hi) h3
    · exact h.dj _ _ b (hDi i (by omega)) (hDi j (by omega)) (by omega)
  have hpool : IOk d' o.pq (.pool q' H (pset P o.n dd) hs) := by
    refine ⟨fr, f1, f2.set _ _, ρ', F', fun x hx hx2 => ?_, fun x hx y hy hx2 hy2 hxy i j b hi hj hF hG => ?_, d'pq⟩
    · rcases hmem x hx with ⟨e, e'⟩ | ⟨e, hxP⟩
      · rw [e]; exact hobj
      · rw [ρ'o e, F'o e]
        refine (f3 x hxP fun hm => ?_).same (fun _ h => h) (fun _ _ => rfl) (fun _ _ _ _ => rfl)
        rcases List.mem_cons.1 hm with hm | hm
        · exact e hm
        · exact hx2 hm
    · have nin : ∀ {z : Nat × HTden H}, z.1 ≠ o.n → z.1 ∉ hs → z.1 ∉ o.n :: hs := fun e1 e2 hm => (List.mem_cons.1 hm).elim e1 e2
      rcases hmem x hx with ⟨e, e'⟩ | ⟨e, hxP⟩
      · rcases hmem y hy with ⟨k, k'⟩ | ⟨k, hyP⟩
        · exact hxy (e'.trans k'.symm)
        · rw [e', F'n] at hF
          rw [F'o k] at hG
          exact h.dj _ _ b (hDi i (by omega)) hDpq (hne i (by omega)) hF ((f5 b).2 ⟨y, hyP, nin k hy2, j, hj, hG⟩)
      · rw [F'o e] at hF
        rcases hmem y hy with ⟨k, k'⟩ | ⟨k, hyP⟩
        · rw [k', F'n] at hG
          exact h.dj _ _ b (hDi j (by omega)) hDpq (hne j (by omega)) hG ((f5 b).2 ⟨x, hxP, nin e hx2, i, hi, hF⟩)
        · rw [F'o k] at hG
          exact f4 x hxP y hyP (nin e hx2) (nin k hy2) hxy i j b hi hj hF hG
  let ps := o.pq :: (List.range o.k).map (o.base + ·)
  have hps : ∀ q, q ∈ ps ↔ q = o.pq ∨ (o.base ≤ q ∧ q < o.base + o.k) := fun q => by
    show q ∈ o.pq :: (List.range o.k).map (o.base + ·) ↔ _
    rw [List.mem_cons, List.mem_map]
    refine or_congr Iff.rfl ⟨fun ⟨i, hi, e⟩ => ?_, fun hq => ⟨q - o.base, List.mem_range.2 (by omega), by omega⟩⟩
    have := List.mem_range.1 hi
    omega
  have hb0 : o.base ∈ ps := (hps _).2 (.inr (by have := ho.pos; omega))
  have keep : ∀ q, d.D q → q ∉ ps → d'.D q ∧ d'.ρ q = d.ρ q ∧ ∀ b, d'.F q b ↔ d.F q b := fun q hq hn => by
    rw [hps, not_or] at hn
    exact ⟨⟨hq, hn.2⟩, rfl, d'o hn.1⟩
  have hr : ∀ cv, CV d (.ptr o.base 0) cv → CV d' (.ref o.q o.n) cv := fun cv hv => by
    simp only [CV] at hv ⊢
    obtain ⟨_, b, h1, h2⟩ := hv
    rw [h2, ← hroot, h1]
  let s' := s.close o.base o.k o.pq (.pool q' H (pset P o.n dd) hs) (.ref o.q o.n)
  have tmp' : ∀ t, s'.tmp t = AV.cl o.base ps (.ref o.q o.n) (s.tmp t) := fun t => look_map AV.undef (AV.cl o.base ps (.ref o.q o.n)) rfl s.tmps t
  have at'pq : s'.at o.pq = .pool q' H (pset P o.n dd) hs := by simp [s', St.at, St.close, look]
  have at' : ∀ p, p ≠ o.pq → ¬ (o.base ≤ p ∧ p < o.base + o.k) → s'.at p = (s.at p).cl o.base ps (.ref o.q o.n) := fun p h1 h2 => by
    show look Itm.gone ((o.pq, _) :: (s.heap.filter fun x => !inRange o.base o.k x.1).map (fun x => (x.1, x.2.cl o.base ps (.ref o.q o.n)))) p = _
    simp only [look, nbeq_ne (Ne.symm h1), cond_false]
    rw [look_map Itm.gone (Itm.cl o.base ps (.ref o.q o.n)) rfl, look_filter Itm.gone (fun p => !inRange o.base o.k p)]
    have : inRange o.base o.k p = false := by
      cases hx : inRange o.base o.k p with
      | true => exact absurd (inRange_iff.1 hx) h2
      | false => rfl
    rw [this]; rfl
  have key' : ∀ p, hasKey s'.heap p = true ↔ hasKey s.heap p = true ∧ ¬ (o.base ≤ p ∧ p < o.base + o.k) := fun p => by
    show hasKey ((o.pq, Itm.pool q' H (pset P o.n dd) hs) :: (s.heap.filter fun x => !inRange o.base o.k x.1).map (fun x => (x.1, x.2.cl o.base ps (.ref o.q o.n)))) p = true ↔ _
    rw [show hasKey ((o.pq, Itm.pool q' H (pset P o.n dd) hs) :: (s.heap.filter fun x => !inRange o.base o.k x.1).map (fun x => (x.1, x.2.cl o.base ps (.ref o.q o.n)))) p = (Nat.beq o.pq p || hasKey ((s.heap.filter fun x => !inRange o.base o.k x.1).map (fun x => (x.1, x.2.cl o.base ps (.ref o.q o.n)))) p) from rfl, hasKey_map, Bool.or_eq_true, key_filter (fun p => !inRange o.base o.k p)]
    rw [← inRange_iff]
    constructor
    · rintro (e | ⟨e, e'⟩)
      · have e := Nat.eq_of_beq_eq_true e
        subst e
        exact ⟨hkpq, fun hx => hpqr (inRange_iff.1 hx)⟩
      · exact ⟨e', by simpa using e⟩
    · rintro ⟨e, e'⟩
      exact .inr ⟨by simpa using e', e⟩
  have hlock : s.lock = st.lock := hk.lockl.trans ho.lock
  have orgb : ∀ i, i < o.k → org (o.base + i) = o.pq := fun i hi => ho.org _ (by omega) (by omega)
  refine ⟨s', d', rfl, ⟨fun p => ?_, fun t => ?_, h.sz, h.df, fun p hp => ?_, fun p r b hp hr' hne' hF hG => ?_, fun p b hp hF => ?_, fun b hb => ⟨(h.im b hb).1, fun p hp hF => ?_⟩, h.im0, h.im1, h.fr⟩, hc, ⟨fun p hp => ?_, hlock, fun t ht => ?_, fun p hp => ?_⟩, ⟨fun p hp => ?_, fun b hb => ?_, fun p b hp hD hF => ?_, fun p b hp hD => ?_, fun p hp hD => ?_, fun p hD => ?_⟩⟩
  · rw [key', ← h.Dk]; rfl
  · rw [tmp']
    exact cl_cv keep rfl (fun _ h => h) hr _ _ (h.tm t)
  · by_cases he : p = o.pq
    · subst he; rw [at'pq]; exact hpool
    · rw [at' p he hp.2]
      exact cl_iok keep rfl (fun _ h => h) hr (fun hm => ((hps p).1 hm).elim he hp.2) hp.1 (h.it p hp.1)
  · rcases blk p b hp hF with k1 | ⟨rfl, i, hi, k1⟩
    · rcases blk r b hr' hG with k2 | ⟨rfl, i, hi, k2⟩
      · exact h.dj p r b hp.1 hr'.1 hne' k1 k2
      · exact h.dj p _ b hp.1 (hDi i hi) (fun e => hp.2 (by omega)) k1 k2
    · rcases blk r b hr' hG with k2 | ⟨rfl, j, hj, k2⟩
      · exact h.dj _ r b (hDi i hi) hr'.1 (fun e => hr'.2 (by omega)) k1 k2
      · exact hne' rfl
  · rcases blk p b hp hF with k1 | ⟨rfl, i, hi, k1⟩
    · exact h.lt p b hp.1 k1
    · have := h.lt _ b (hDi i hi) k1
      rw [orgb i hi] at this
      rw [org_lt ho.pqlt]
      exact this
  · rcases blk p b hp hF with k1 | ⟨rfl, i, hi, k1⟩
    · exact (h.im b hb).2 p hp.1 k1
    · exact (h.im b hb).2 _ (hDi i hi) k1
  · have h5 := e5 p (by rw [hlock]; exact hp)
    obtain ⟨⟨h5, h6⟩, h7⟩ := h5
    have hnr : ¬ (o.base ≤ p ∧ p < o.base + o.k) := fun hx => by rw [inRange_iff.2 hx] at h5; cases h5
    have hnq : p ≠ o.pq := fun e => by subst e; simp at h6
    rw [at' p hnq hnr, cl_iid hb0 _ (fun q hq hm => by have := farFrom_iff.1 h7 q hq; exact ((hps q).1 hm).elim this.2 this.1), hk.lockA p (by rw [ho.lock]; exact hp), ho.at1 p hnq hnr]
  · rw [tmp']
    rcases hk.tmp t ht with k1 | ⟨k1, p, k2, k3⟩
    · left
      rw [k1, ho.tmp1]
      by_cases e : t = o.t
      · rw [if_pos e, e, ho.tmp]
        simp [AV.cl]
      · rw [if_neg e]
        exact cl_id hb0 _ fun q hq hm => ((hps q).1 hm).elim (ho.farT t q hq).2 (ho.farT t q hq).1
    · rw [ho.tmp1] at k3
      by_cases e : t = o.t
      · rw [if_pos e] at k3
        rcases k3 with (k3 | k3) | ⟨_, k3⟩
        · simp [AV.has] at k3
        · simp [AV.hasSt] at k3
        · have := hts _ k3
          unfold pkNo at this
          omega
      · rw [if_neg e] at k3
        exact .inr ⟨by rw [k1]; rfl, p, by rw [← ho.lock]; exact k2, k3⟩
  · exact (key' p).2 ⟨hk.key p ((ho.key1 p).2 (.inl hp)), ho.far p hp⟩
  · exact ⟨hd.D p ((ho.D p).2 (.inl hp)), ho.far p ((h0 p).1 hp)⟩
  · have hb1 : c1.Im b := by rw [ho.Im]; exact hb
    obtain ⟨k1, k2⟩ := hd.im b hb1
    exact ⟨k1, by rw [← ho.w]; exact k2⟩
  · have hnq : p ≠ o.pq := fun e => (List.mem_append.1 hp).elim (fun h => ho.hq.1 (e ▸ h)) (fun h => ho.hq.2 (e ▸ h))
    have := hd.pl p b (by rw [ho.lock]; exact hp) ((ho.D p).2 (.inl hD)) ((ho.F p b hD hnq).2 hF)
    rw [ho.w] at this
    exact this
  · have hnq : p ≠ o.pq := fun e => (List.mem_append.1 hp).elim (fun h => ho.hq.1 (e ▸ h)) (fun h => ho.hq.2 (e ▸ h))
    rw [d'o hnq, hd.F p b (by rw [ho.lock]; exact hp) ((ho.D p).2 (.inl hD)), ho.F p b hD hnq]
  · show d.ρ p = c.ρ p
    rw [hd.r p (by rw [ho.lock]; exact hp) ((ho.D p).2 (.inl hD)), ho.ρ p hD]
  · rcases hd.s p ((ho.D p).2 (.inl hD)) with k | k
    · exact .inl (by rw [← ho.ρ p hD]; exact k)
    · exact .inr (k.trans (ho.ρ p hD))

/-! ### All of them -/

inductive Opened (hold : List Nat) : List Opn → St → Ctx → St → Ctx → Prop
  | nil {st : St} {c : Ctx} : Opened hold [] st c st c
  | cons {o : Opn} {os : List Opn} {st st1 st2 : St} {c c1 c2 : Ctx} : LockOk st → (∀ p, c.D p ↔ hasKey st.heap p = true) → One st c hold o st1 c1 → Opened hold os st1 c1 st2 c2 → Opened hold (o :: os) st c st2 c2

theorem open_ok {R : Prop} : ∀ (l : List Nat) (j : Nat) (st : St) (c : Ctx) (K : List Opn → St → Prop), ROk E st a c → LockOk st → openA hold j l st K →
    (∀ os st' c', c'.w = c.w → ROk E st' a c' → LockOk st' → st'.lock = st.lock → Opened hold os st c st' c' → K os st' → R) → R
  | [], j, st, c, K, h, hlk, hs, hR => hR [] st c rfl h hlk rfl .nil hs
  | t :: l, j, st, c, K, h, hlk, hs, hR => by
    unfold openA at hs
    split at hs
    · rename_i q n ht
      split at hs
      · exact hs.elim
      · rename_i pq hpq
        split at hs
        · rename_i q' H P gs hat
          cases hm : st.mayOpen hold j pq H with
          | false => rw [hm] at hs; exact hs.elim
          | true =>
            rw [hm] at hs
            obtain ⟨⟨hin⟩, hs⟩ := hs
            obtain ⟨c1, hw, h1, ho⟩ := open_one h ht hat (poolAt_key hpq) hm hin
            have hlk1 : LockOk (st.open t (openB j pq) pq (.pool q' H P (n :: gs)) (HTitms H ((pget P n).getD (HTdflt H)))) := fun p hp => (ho.key1 p).2 (.inl (hlk p hp))
            exact open_ok l (j + 1) _ c1 _ h1 hlk1 hs fun os st' c' k0 k1 k2 k3 k4 k5 => hR _ st' c' (k0.trans hw) k1 k2 k3 (.cons hlk h.Dk ho k4) k5
        · exact hs.elim
    · exact open_ok l (j + 1) st c K h hlk hs hR

theorem Opened.lock {os : List Opn} {st st1 : St} {c c1 : Ctx} (h : Opened hold os st c st1 c1) : st1.lock = st.lock := by
  induction h with
  | nil => rfl
  | cons _ _ ho _ ih => exact ih.trans ho.lock

theorem close_ok {os : List Opn} {st st1 : St} {c c1 : Ctx} (ho : Opened hold os st c st1 c1) : ∀ {s : St} {a' : Act} {d : Ctx} {ts : List Nat} {K : St → Prop}, (∀ t ∈ ts, t < 1000000000) → ROk E s a' d → Kp st1 s ts → Hd c1 d (hold ++ st1.lock) → closeA os s K →
    ∃ s' d', d'.w = d.w ∧ ROk E s' a' d' ∧ K s' ∧ Kp st s' ts ∧ Hd c d' (hold ++ st.lock) := by
  induction ho with
  | nil => intro s a' d ts K hts h hk hd hs; exact ⟨s, d, rfl, h, hs, hk, hd⟩
  | cons hlk h0 h1 _ ih =>
    intro s a' d ts K hts h hk hd hs
    obtain ⟨s1, d1, k1, k2, k3, k4, k5⟩ := ih hts h hk hd hs
    obtain ⟨s2, d2, r1, r2, r3, r4, r5⟩ := close_one hts hlk h0 h1 k2 k4 k5 k3
    exact ⟨s2, d2, r1.trans k1, r2, r3, r4, r5⟩
end
end Go.Proofs.Ytljimnhijpcjaaa.VC
