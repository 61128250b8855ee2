/- The same places under other names; fewer places; pools. Plain lemmas; no conditions but those that each names. -/
import Derived.Test.YtljimnhijpcjaaaVe
set_option linter.unusedVariables false
set_option linter.unusedSimpArgs false
set_option linter.unusedSectionVars false
namespace Go.Proofs.Ytljimnhijpcjaaa.VC
open Go

/-! ### Other names -/

/-- The places of c1 are places of c2, under other names. -/
structure Ren (c1 c2 : Ctx) (s : Nat → Nat) : Prop where
  D : ∀ q, c1.D q → c2.D (s q)
  ρ : ∀ q, c1.D q → c2.ρ (s q) = c1.ρ q
  F : ∀ q b, c1.D q → (c2.F (s q) b ↔ c1.F q b)
  w : c2.w = c1.w
  Im : ∀ b, c1.Im b → c2.Im b

theorem Ty.V_ren {c1 c2 : Ctx} {s : Nat → Nat} (h : Ren c1 c2 s) {t : Ty} {d : t.den} {v : Value} (hv : t.V c1 d v) : t.V c2 d v := by
  unfold Ty.V at *
  have hk : ∀ l, t.K c1.w c1.Im d l → t.K c2.w c2.Im d l := fun l hl => Ty.K_mono h.Im (fun b _ => by rw [h.w]) t d l hl
  split
  · rename_i ha
    rw [if_pos ha] at hv
    obtain ⟨l, h1, h2⟩ := hv
    exact ⟨l, h1, hk l h2⟩
  · rename_i ha
    rw [if_neg ha] at hv
    exact hk _ hv

mutual
theorem CV.ren {c1 c2 : Ctx} {s : Nat → Nat} (h : Ren c1 c2 s) : ∀ (v : AV) (cv : Value), CV c1 v cv → CV c2 (v.ren s) cv
  | .undef, _, _ => by simp [AV.ren, CV]
  | .skip, _, hv => by simpa [AV.ren, CV] using hv
  | .tt, _, hv => by simpa [AV.ren, CV] using hv
  | .ff, _, hv => by simpa [AV.ren, CV] using hv
  | .bool b, _, hv => by simpa [AV.ren, CV] using hv
  | .int k n, _, hv => by simpa [AV.ren, CV] using hv
  | .nptr, _, hv => by simpa [AV.ren, CV] using hv
  | .ptr p off, _, hv => by
    simp only [AV.ren, CV] at *
    rw [h.ρ p hv.1]
    exact ⟨h.D p hv.1, hv.2⟩
  | .eptr p i sz off, _, hv => by
    simp only [AV.ren, CV] at *
    rw [h.ρ p hv.1]
    exact ⟨h.D p hv.1, hv.2⟩
  | .iptr e xs i off, _, hv => by
    simp only [AV.ren, CV] at *
    obtain ⟨ad, h1, h2⟩ := hv
    refine ⟨ad, h1, fun x hx => ?_⟩
    obtain ⟨cs, h3, h4⟩ := h2 x hx
    exact ⟨cs, Ty.K_mono h.Im (fun b _ => by rw [h.w]) e _ _ h3, h4.mono h.Im (fun b _ => by rw [h.w])⟩
  | .nsl, _, hv => by simpa [AV.ren, CV] using hv
  | .sl p, _, hv => by
    simp only [AV.ren, CV] at *
    rw [h.ρ p hv.1]
    exact ⟨h.D p hv.1, hv.2⟩
  | .pfx p n, _, hv => by
    simp only [AV.ren, CV] at *
    rw [h.ρ p hv.1]
    exact ⟨h.D p hv.1, hv.2⟩
  | .sub p l n z, _, hv => by
    simp only [AV.ren, CV] at *
    rw [h.ρ p hv.1]
    exact ⟨h.D p hv.1, hv.2⟩
  | .lst e xs, _, hv => by
    simp only [AV.ren, CV] at *
    exact Ty.K_mono h.Im (fun b _ => by rw [h.w]) (.slice e) _ _ hv
  | .nmap, _, hv => by simpa [AV.ren, CV] using hv
  | .map p, _, hv => by
    simp only [AV.ren, CV] at *
    rw [h.ρ p hv.1]
    exact ⟨h.D p hv.1, hv.2⟩
  | .stamp p k key, _, hv => by
    simp only [AV.ren, CV] at *
    obtain ⟨hd, b, es, clock, i, x, h1, h2, h3, h4, h5, h6⟩ := hv
    exact ⟨h.D p hd, b, es, clock, i, x, (h.ρ p hd).trans h1, (h.F p b hd).2 h2, by rw [h.w]; exact h3, h4, Ty.V_ren h h5, h6⟩
  | .nfn, _, hv => by simpa [AV.ren, CV] using hv
  | .vec _ _, _, hv => by simpa [AV.ren, CV] using hv
  | .ref _ _, _, hv => by simpa [AV.ren, CV] using hv
  | .rp _ _ _, _, hv => by simpa [AV.ren, CV] using hv
  | .hd _ _ _, _, hv => by simpa [AV.ren, CV] using hv
  | .hp _ _ _ _ _, _, hv => by simpa [AV.ren, CV] using hv
  | .fn f caps, _, hv => by
    simp only [AV.ren, CV] at *
    obtain ⟨l, h1, h2⟩ := hv
    exact ⟨l, h1, CVL.ren h caps l h2⟩
  | .agg cs, _, hv => by
    simp only [AV.ren, CV] at *
    obtain ⟨l, h1, h2⟩ := hv
    exact ⟨l, h1, CVL.ren h cs l h2⟩
  | .tup cs, _, hv => by
    simp only [AV.ren, CV] at *
    obtain ⟨l, h1, h2⟩ := hv
    exact ⟨l, h1, CVL.ren h cs l h2⟩
theorem CVL.ren {c1 c2 : Ctx} {s : Nat → Nat} (h : Ren c1 c2 s) : ∀ (l : List AV) (m : List Value), CVL c1 l m → CVL c2 (AV.renL s l) m
  | [], [], _ => trivial
  | v :: l, cv :: m, hv => ⟨CV.ren h v cv hv.1, CVL.ren h l m hv.2⟩
  | [], _ :: _, hv => hv.elim
  | _ :: _, [], hv => hv.elim
end

theorem MapK.ren {c1 c2 : Ctx} {s : Nat → Nat} (h : Ren c1 c2 s) {k v : Ty} : ∀ {E : List (k.den × v.den)} {es : List MapEntry}, MapK c1 k v E es → MapK c2 k v E es
  | [], [], _ => trivial
  | _ :: _, _ :: _, ⟨h1, h2, h3⟩ => ⟨Ty.V_ren h h1, Ty.V_ren h h2, MapK.ren h h3⟩
  | [], _ :: _, h => h.elim
  | _ :: _, [], h => h.elim

theorem IOk.ren {c1 c2 : Ctx} {s : Nat → Nat} (h : Ren c1 c2 s) {p : Nat} (hD : c1.D p) : ∀ {it : Itm}, IOk c1 p it → IOk c2 (s p) (it.ren s)
  | .gone, _ => trivial
  | .cells vs, ⟨b, l, t, h1, h2, h3, h4⟩ => ⟨b, l, t, (h.ρ p hD).trans h1, by rw [h.w]; exact h2, CVL.ren h vs l h3, fun x => (h.F p x hD).trans (h4 x)⟩
  | .arr t e xs, ⟨cs, h1, h2, h3⟩ => ⟨cs, by rw [h.w, h.ρ p hD]; exact h1, h2.mono h.Im (fun b _ => by rw [h.w]), fun x => by rw [h.ρ p hD]; exact (h.F p x hD).trans (h3 x)⟩
  | .mapo k v E, ⟨b, es, clock, h1, h2, h3, h4, h5, h6⟩ => ⟨b, es, clock, (h.ρ p hD).trans h1, by rw [h.w]; exact h2, MapK.ren h h3, h4, h5, fun x => (h.F p x hD).trans (h6 x)⟩
  | .pool q H P hs, hi => IOk.samePool (it := .pool q H P hs) ⟨q, by simp [Itm.poolIs]⟩ hi (h.ρ p hD) h.Im (fun b _ => by rw [h.w]) (fun b => h.F p b hD) (fun b _ => by rw [h.w])
  | .apool q t e P, hi => IOk.samePool (it := .apool q t e P) ⟨q, by simp [Itm.poolIs]⟩ hi (h.ρ p hD) h.Im (fun b _ => by rw [h.w]) (fun b => h.F p b hD) (fun b _ => by rw [h.w])
  | .iter m k v left now, ⟨b, mb, seen, es, clock, h1, h2, h3, h4, h5, h6, h7, h8, h9, h10⟩ =>
    ⟨b, mb, seen, es, clock, (h.ρ p hD).trans h1, by rw [h.w]; exact h2, h.D m h3, (h.ρ m h3).trans h4, (h.F m mb h3).2 h5, by rw [h.w]; exact h6, h7, MapK.ren h h8,
      fun e he => by obtain ⟨x, hx1, hx2, hx3, hx4⟩ := h9 e he; exact ⟨x, hx1, hx2, Ty.V_ren h hx3, Ty.V_ren h hx4⟩, fun x => (h.F p x hD).trans (h10 x)⟩

/-! ### Fewer places -/

def Ctx.only (c : Ctx) (D : Nat → Prop) : Ctx := { c with D := D }

mutual
theorem CV.only {c : Ctx} {D : Nat → Prop} : ∀ (v : AV) (cv : Value), (∀ q ∈ v.pos, D q) → CV c v cv → CV (c.only D) v cv
  | .undef, _, _, _ => by simp [CV]
  | .skip, _, _, hv => by simpa [CV] using hv
  | .tt, _, _, hv => by simpa [CV] using hv
  | .ff, _, _, hv => by simpa [CV] using hv
  | .bool b, _, _, hv => by simpa [CV] using hv
  | .int k n, _, _, hv => by simpa [CV] using hv
  | .nptr, _, _, hv => by simpa [CV] using hv
  | .ptr p off, _, hp, hv => by simp only [CV] at *; exact ⟨hp p (by simp [AV.pos]), hv.2⟩
  | .eptr p i sz off, _, hp, hv => by simp only [CV] at *; exact ⟨hp p (by simp [AV.pos]), hv.2⟩
  | .iptr e xs i off, _, _, hv => by simp only [CV] at hv ⊢; exact hv
  | .nsl, _, _, hv => by simpa [CV] using hv
  | .sl p, _, hp, hv => by simp only [CV] at *; exact ⟨hp p (by simp [AV.pos]), hv.2⟩
  | .pfx p n, _, hp, hv => by simp only [CV] at *; exact ⟨hp p (by simp [AV.pos]), hv.2⟩
  | .sub p l n z, _, hp, hv => by simp only [CV] at *; exact ⟨hp p (by simp [AV.pos]), hv.2⟩
  | .lst e xs, _, _, hv => by simp only [CV] at hv ⊢; exact hv
  | .nmap, _, _, hv => by simpa [CV] using hv
  | .map p, _, hp, hv => by simp only [CV] at *; exact ⟨hp p (by simp [AV.pos]), hv.2⟩
  | .stamp p k key, _, hp, hv => by
    simp only [CV] at *
    exact ⟨hp p (by simp [AV.pos]), hv.2⟩
  | .nfn, _, _, hv => by simpa [CV] using hv
  | .vec _ _, _, _, hv => by simpa [CV] using hv
  | .ref _ _, _, _, hv => by simpa [CV] using hv
  | .rp _ _ _, _, _, hv => by simpa [CV] using hv
  | .hd _ _ _, _, _, hv => by simpa [CV] using hv
  | .hp _ _ _ _ _, _, _, hv => by simpa [CV] using hv
  | .fn f caps, _, hp, hv => by
    simp only [CV, AV.pos] at *
    obtain ⟨l, h1, h2⟩ := hv
    exact ⟨l, h1, CVL.only caps l hp h2⟩
  | .agg cs, _, hp, hv => by
    simp only [CV, AV.pos] at *
    obtain ⟨l, h1, h2⟩ := hv
    exact ⟨l, h1, CVL.only cs l hp h2⟩
  | .tup cs, _, hp, hv => by
    simp only [CV, AV.pos] at *
    obtain ⟨l, h1, h2⟩ := hv
    exact ⟨l, h1, CVL.only cs l hp h2⟩
theorem CVL.only {c : Ctx} {D : Nat → Prop} : ∀ (l : List AV) (m : List Value), (∀ q ∈ AV.posL l, D q) → CVL c l m → CVL (c.only D) l m
  | [], [], _, _ => trivial
  | v :: l, cv :: m, hp, hv => ⟨CV.only v cv (fun q hq => hp q (by simp [AV.posL, hq])) hv.1, CVL.only l m (fun q hq => hp q (by simp [AV.posL, hq])) hv.2⟩
  | [], _ :: _, _, hv => hv.elim
  | _ :: _, [], _, hv => hv.elim
end
theorem MapK.only {c : Ctx} {D : Nat → Prop} {k v : Ty} : ∀ {E : List (k.den × v.den)} {es : List MapEntry}, MapK c k v E es → MapK (c.only D) k v E es
  | [], [], _ => trivial
  | _ :: _, _ :: _, ⟨h1, h2, h3⟩ => ⟨h1, h2, MapK.only h3⟩
  | [], _ :: _, h => h.elim
  | _ :: _, [], h => h.elim
theorem IOk.only {c : Ctx} {D : Nat → Prop} {p : Nat} : ∀ {it : Itm}, (∀ q ∈ it.pos, D q) → IOk c p it → IOk (c.only D) p it
  | .gone, _, _ => trivial
  | .cells vs, hp, ⟨b, l, t, h1, h2, h3, h4⟩ => ⟨b, l, t, h1, h2, CVL.only vs l hp h3, h4⟩
  | .arr t e xs, _, h => h
  | .mapo k v E, _, ⟨b, es, clock, h1, h2, h3, h4, h5, h6⟩ => ⟨b, es, clock, h1, h2, h3.only, h4, h5, h6⟩
  | .pool q H P hs, _, hi => IOk.samePool ⟨q, by simp [Itm.poolIs]⟩ hi rfl (fun _ h => h) (fun _ _ => rfl) (fun _ => Iff.rfl) (fun _ _ => rfl)
  | .apool q t e P, _, hi => IOk.samePool ⟨q, by simp [Itm.poolIs]⟩ hi rfl (fun _ h => h) (fun _ _ => rfl) (fun _ => Iff.rfl) (fun _ _ => rfl)
  | .iter m k v left now, hp, ⟨b, mb, seen, es, clock, h1, h2, h3, h4, h5, h6, h7, h8, h9, h10⟩ => ⟨b, mb, seen, es, clock, h1, h2, hp m (by simp [Itm.pos]), h4, h5, h6, h7, h8.only, h9, h10⟩

mutual
theorem ren_fix {s : Nat → Nat} : ∀ (v : AV), (∀ x ∈ v.pos, s x = x) → v.ren s = v
  | .undef, _ => rfl
  | .skip, _ => rfl
  | .tt, _ => rfl
  | .ff, _ => rfl
  | .bool _, _ => rfl
  | .int _ _, _ => rfl
  | .nptr, _ => rfl
  | .ptr p o, h => by simp only [AV.ren]; rw [h p (by simp [AV.pos])]
  | .eptr p i z o, h => by simp only [AV.ren]; rw [h p (by simp [AV.pos])]
  | .iptr _ _ _ _, _ => rfl
  | .nsl, _ => rfl
  | .sl p, h => by simp only [AV.ren]; rw [h p (by simp [AV.pos])]
  | .pfx p n, h => by simp only [AV.ren]; rw [h p (by simp [AV.pos])]
  | .sub p l n z, h => by simp only [AV.ren]; rw [h p (by simp [AV.pos])]
  | .lst _ _, _ => rfl
  | .nmap, _ => rfl
  | .map p, h => by simp only [AV.ren]; rw [h p (by simp [AV.pos])]
  | .stamp p k x, h => by simp only [AV.ren]; rw [h p (by simp [AV.pos])]
  | .nfn, _ => rfl
  | .vec _ _, _ => rfl
  | .ref _ _, _ => rfl
  | .rp _ _ _, _ => rfl
  | .hd _ _ _, _ => rfl
  | .hp _ _ _ _ _, _ => rfl
  | .fn f cs, h => by simp only [AV.ren]; rw [renl_fix cs (fun x hx => h x (by simpa [AV.pos] using hx))]
  | .agg cs, h => by simp only [AV.ren]; rw [renl_fix cs (fun x hx => h x (by simpa [AV.pos] using hx))]
  | .tup cs, h => by simp only [AV.ren]; rw [renl_fix cs (fun x hx => h x (by simpa [AV.pos] using hx))]
theorem renl_fix {s : Nat → Nat} : ∀ (l : List AV), (∀ x ∈ AV.posL l, s x = x) → AV.renL s l = l
  | [], _ => rfl
  | v :: l, h => by
    simp only [AV.renL]
    rw [ren_fix v (fun x hx => h x (by simp [AV.posL, hx])), renl_fix l (fun x hx => h x (by simp [AV.posL, hx]))]
end
/-- A value that names no place. -/
theorem CV.nopos {c c' : Ctx} {v : AV} {cv : Value} (hw : c'.w = c.w) (hI : ∀ b, c.Im b → c'.Im b) (hp : v.pos = []) (h : CV c v cv) : CV c' v cv := by
  have h1 := CV.only (D := fun _ => False) v cv (fun q hq => by rw [hp] at hq; cases hq) h
  have h2 : Ren (c.only fun _ => False) c' id := ⟨fun _ h => h.elim, fun _ h => h.elim, fun _ _ h => h.elim, hw, hI⟩
  have h3 := CV.ren h2 v cv h1
  rwa [ren_fix (s := id) v fun _ _ => rfl] at h3

/-! ### Pools -/

theorem pget_mem {α : Type} : ∀ {P : List (Nat × α)} {n : Nat} {d : α}, pget P n = some d → (n, d) ∈ P
  | [], _, _, h => by cases h
  | (q, x) :: P, n, d, h => by
    unfold pget at h
    cases hb : Nat.beq q n with
    | true => rw [hb] at h; rw [← Nat.eq_of_beq_eq_true hb, ← Option.some.inj h]; exact List.mem_cons_self ..
    | false => rw [hb] at h; exact List.mem_cons_of_mem _ (pget_mem h)
theorem pget_none {α : Type} : ∀ {P : List (Nat × α)} {n : Nat}, pget P n = none ↔ n ∉ P.map (·.1)
  | [], _ => by simp [pget]
  | (q, x) :: P, n => by
    unfold pget
    cases hb : Nat.beq q n with
    | true => simp [Nat.eq_of_beq_eq_true hb]
    | false =>
      have : q ≠ n := fun e => by rw [e, Nat.beq_refl] at hb; cases hb
      simp only [cond_false, List.map_cons, List.mem_cons, not_or]
      rw [pget_none]
      exact ⟨fun h => ⟨fun e => this e.symm, h⟩, fun h => h.2⟩
theorem pget_of_mem {α : Type} : ∀ {P : List (Nat × α)} {x : Nat × α}, (P.map (·.1)).Nodup → x ∈ P → pget P x.1 = some x.2
  | (q, y) :: P, x, hn, h => by
    simp only [List.map_cons, List.nodup_cons] at hn
    unfold pget
    rcases List.mem_cons.1 h with rfl | h
    · simp
    · have : q ≠ x.1 := fun e => hn.1 (by rw [e]; exact List.mem_map_of_mem h)
      have hb : Nat.beq q x.1 = false := nbeq_ne this
      rw [hb]
      exact pget_of_mem hn.2 h
  | [], _, _, h => nomatch h
theorem pset_keys {α : Type} : ∀ (P : List (Nat × α)) (n : Nat) (d : α), (pset P n d).map (·.1) = P.map (·.1)
  | [], _, _ => rfl
  | (q, x) :: P, n, d => by
    unfold pset
    cases Nat.beq q n with
    | true => rfl
    | false => simp [pset_keys P n d]
theorem pset_mem {α : Type} : ∀ {P : List (Nat × α)} {n : Nat} {d : α} {x : Nat × α}, (P.map (·.1)).Nodup → x ∈ pset P n d → (x = (n, d) ∧ ∃ y, (n, y) ∈ P) ∨ (x.1 ≠ n ∧ x ∈ P)
  | [], _, _, _, _, h => by cases h
  | (q, y) :: P, n, d, x, hn, h => by
    simp only [List.map_cons, List.nodup_cons] at hn
    unfold pset at h
    cases hb : Nat.beq q n with
    | true =>
      rw [hb] at h
      have e := Nat.eq_of_beq_eq_true hb
      subst e
      rcases List.mem_cons.1 h with rfl | h
      · exact .inl ⟨rfl, y, List.mem_cons_self ..⟩
      · exact .inr ⟨fun e => hn.1 (by rw [← e]; exact List.mem_map_of_mem h), List.mem_cons_of_mem _ h⟩
    | false =>
      rw [hb] at h
      have hne : q ≠ n := fun e => by rw [e, Nat.beq_refl] at hb; cases hb
      rcases List.mem_cons.1 h with rfl | h
      · exact .inr ⟨hne, List.mem_cons_self ..⟩
      · rcases pset_mem hn.2 h with ⟨h1, z, h2⟩ | ⟨h1, h2⟩
        · exact .inl ⟨h1, z, List.mem_cons_of_mem _ h2⟩
        · exact .inr ⟨h1, List.mem_cons_of_mem _ h2⟩
theorem pset_in {α : Type} : ∀ {P : List (Nat × α)} {n : Nat} {d y : α}, (n, y) ∈ P → (P.map (·.1)).Nodup → (n, d) ∈ pset P n d
  | (q, z) :: P, n, d, y, h, hn => by
    simp only [List.map_cons, List.nodup_cons] at hn
    unfold pset
    cases hb : Nat.beq q n with
    | true => rw [← Nat.eq_of_beq_eq_true hb]; exact List.mem_cons_self ..
    | false =>
      have hne : q ≠ n := fun e => by rw [e, Nat.beq_refl] at hb; cases hb
      rcases List.mem_cons.1 h with e | h
      · injection e with e1 e2; exact absurd e1.symm hne
      · exact List.mem_cons_of_mem _ (pset_in h hn.2)
  | [], _, _, _, h, _ => nomatch h
theorem pset_keep {α : Type} : ∀ {P : List (Nat × α)} {n : Nat} {d : α} {x : Nat × α}, x ∈ P → x.1 ≠ n → x ∈ pset P n d
  | (q, z) :: P, n, d, x, h, hne => by
    unfold pset
    cases hb : Nat.beq q n with
    | true =>
      rcases List.mem_cons.1 h with rfl | h
      · exact absurd (Nat.eq_of_beq_eq_true hb) hne
      · exact List.mem_cons_of_mem _ h
    | false =>
      rcases List.mem_cons.1 h with rfl | h
      · exact List.mem_cons_self ..
      · exact List.mem_cons_of_mem _ (pset_keep h hne)
  | [], _, _, _, h, _ => nomatch h
theorem PoolOk.set {α : Type} {P : List (Nat × α)} (h : PoolOk P) (n : Nat) (d : α) : PoolOk (pset P n d) := by
  refine ⟨by rw [pset_keys]; exact h.1, fun x hx => ?_⟩
  have : x.1 ∈ P.map (·.1) := by rw [← pset_keys P n d]; exact List.mem_map_of_mem hx
  obtain ⟨y, hy, e⟩ := List.mem_map.1 this
  rw [← e]; exact h.2 y hy
theorem PoolOk.add {α : Type} {P : List (Nat × α)} (h : PoolOk P) {n : Nat} {d : α} (h0 : 0 < n) (hn : pget P n = none) : PoolOk (P ++ [(n, d)]) := by
  have hn := pget_none.1 hn
  refine ⟨?_, fun x hx => ?_⟩
  · rw [List.map_append]
    refine List.nodup_append.2 ⟨h.1, by simp, fun a ha b hb => ?_⟩
    simp at hb
    subst hb
    exact fun e => hn (e ▸ ha)
  · rcases List.mem_append.1 hx with hx | hx
    · exact h.2 x hx
    · rw [List.mem_singleton.1 hx]; exact h0
theorem poolIn_mem {q : Nat} : ∀ {l : List (Nat × Itm)} {p : Nat}, poolIn q l = some p → p ∈ l.map (·.1)
  | [], _, h => by cases h
  | x :: l, p, h => by
    unfold poolIn at h
    cases hb : x.2.poolIs q with
    | true => rw [hb] at h; simp at h; simp [h]
    | false => rw [hb] at h; exact List.mem_cons_of_mem _ (poolIn_mem h)
theorem poolAt_key {st : St} {q p : Nat} (h : poolAt st q = some p) : hasKey st.heap p = true := hasKey_iff.2 (poolIn_mem h)
/-- An object that is in its pool. -/
theorem pool_obj {c : Ctx} {p q : Nat} {H : List HT} {P : List (Nat × HTden H)} {hs : List Nat} (h : IOk c p (.pool q H P hs)) {n : Nat} {d : HTden H} (hg : pget P n = some d) (hn : n ∉ hs) :
    ∃ ρ F, PObj c H n d ρ F ∧ ∀ i b, i < H.length → F i b → c.F p b := by
  obtain ⟨_, h0, h1, ρ, F, h2, h3, h4⟩ := h
  have hm := pget_mem hg
  exact ⟨ρ n, F n, h2 _ hm hn, fun i b hi hb => (h4 b).2 ⟨_, hm, hn, i, hi, hb⟩⟩
/-- A list of a pool. -/
theorem apool_list {c : Ctx} {p q : Nat} {t : TypeId} {e : Ty} {P : List (Nat × Nat × List e.den)} (h : IOk c p (.apool q t e P)) {b : Nat} (h0 : 0 < (pget2 P b).length) :
    ∃ (k : Nat) (cur : Array Value), pget P b = some (k, pget2 P b) ∧ 0 < b ∧ c.F p (b - 1) ∧ c.w.heap[b - 1]? = some (.cells cur t (0, 0)) ∧ (pget2 P b).length ≤ k ∧ k ≤ maxLen ∧ cur.size = k * e.sz ∧ RowsK c.w c.Im e (pget2 P b) (cur.toList.take ((pget2 P b).length * e.sz)) := by
  obtain ⟨_, h1, h2, h3, h4⟩ := h
  unfold pget2 at h0 ⊢
  cases hg : pget P b with
  | none => rw [hg] at h0; simp at h0
  | some x =>
    obtain ⟨k, xs⟩ := x
    have hm := pget_mem hg
    have hb := h2.2 _ hm
    obtain ⟨k1, k2, cur, k3, k4, k5⟩ := h3 _ hm
    exact ⟨k, cur, rfl, hb, (h4 _).2 ⟨_, hm, by dsimp only at hb ⊢; omega⟩, k3, k1, k2, k4, k5⟩
/-- A list of a pool is written. -/
theorem apool_set {c c' : Ctx} {p p' q : Nat} {t : TypeId} {e : Ty} {P : List (Nat × Nat × List e.den)} (h : IOk c p (.apool q t e P)) {b k : Nat} {xs xs' : List e.den} {cur : Array Value} (hg : pget P b = some (k, xs)) (hρ : c'.ρ p' = c.ρ p)
    (hI : ∀ b, c.Im b → c'.Im b) (hw : ∀ b, c.Im b → c'.w.heap[b]? = c.w.heap[b]?) (hF : ∀ b, c'.F p' b ↔ c.F p b) (hb : ∀ x, c.F p x → x ≠ b - 1 → c'.w.heap[x]? = c.w.heap[x]?)
    (h1 : xs'.length ≤ k) (h2 : c'.w.heap[b - 1]? = some (.cells cur t (0, 0))) (h3 : cur.size = k * e.sz) (h4 : RowsK c'.w c'.Im e xs' (cur.toList.take (xs'.length * e.sz))) : IOk c' p' (.apool q t e (pset2 P b xs')) := by
  obtain ⟨kr, k0, k1, k2, k3⟩ := h
  have hp2 : pset2 P b xs' = pset P b (k, xs') := by unfold pset2; rw [hg]; rfl
  rw [hp2]
  refine ⟨hρ.trans kr, k0, k1.set b _, fun x hx => ?_, fun x => ?_⟩
  · rcases pset_mem k1.1 hx with ⟨rfl, _, hy⟩ | ⟨hne, hx⟩
    · exact ⟨h1, (k2 _ (pget_mem hg)).2.1, cur, h2, h3, h4⟩
    · obtain ⟨j1, j2, cur', j3, j4, j5⟩ := k2 x hx
      have hpos := k1.2 x hx
      have hbp := k1.2 _ (pget_mem hg)
      dsimp only at hbp
      exact ⟨j1, j2, cur', (hb _ ((k3 _).2 ⟨x, hx, by omega⟩) (by omega)).trans j3, j4, j5.mono hI hw⟩
  · rw [hF, k3]
    constructor
    · rintro ⟨y, hy, e'⟩
      have : y.1 ∈ (pset P b (k, xs')).map (·.1) := by rw [pset_keys]; exact List.mem_map_of_mem hy
      obtain ⟨z, hz, e''⟩ := List.mem_map.1 this
      exact ⟨z, hz, e'.trans e''.symm⟩
    · rintro ⟨y, hy, e'⟩
      have : y.1 ∈ P.map (·.1) := by rw [← pset_keys P b (k, xs')]; exact List.mem_map_of_mem hy
      obtain ⟨z, hz, e''⟩ := List.mem_map.1 this
      exact ⟨z, hz, e'.trans e''.symm⟩
end Go.Proofs.Ytljimnhijpcjaaa.VC
