/- What is said anew with no step of the program. Plain lemmas; no conditions but those that each names. -/
import Derived.Test.YtljimnhijpcjaaaVv
set_option linter.unusedVariables false
set_option linter.unusedSimpArgs false
set_option linter.unusedSectionVars false
namespace Go.Proofs.Ytljimnhijpcjaaa.VC
open Go

/-- Where a list lies, no pointer points and no map is. -/
def IsSl (c : Ctx) (q : Nat) : Prop := ∃ A n cap, c.ρ q = .slice A n cap

mutual
theorem pos_has {c : Ctx} {q : Nat} (hq : IsSl c q) : ∀ (v : AV) (cv : Value), CV c v cv → v.has q = false → q ∉ v.pos
  | .undef, _, _, _ => by simp [AV.pos]
  | .skip, _, _, _ => by simp [AV.pos]
  | .tt, _, _, _ => by simp [AV.pos]
  | .ff, _, _, _ => by simp [AV.pos]
  | .bool b, _, _, _ => by simp [AV.pos]
  | .int k n, _, _, _ => by simp [AV.pos]
  | .nptr, _, _, _ => by simp [AV.pos]
  | .ptr p off, _, hv, _ => fun hm => by
    simp only [AV.pos, List.mem_singleton] at hm
    simp only [CV] at hv
    obtain ⟨_, b, e, _⟩ := hv
    obtain ⟨A, n, cap, e'⟩ := hq
    rw [← hm, e'] at e; cases e
  | .eptr p i z o, _, _, h => fun hm => by
    simp only [AV.pos, List.mem_singleton] at hm
    simp [AV.has, hm] at h
  | .iptr _ _ _ _, _, _, _ => by simp [AV.pos]
  | .nsl, _, _, _ => by simp [AV.pos]
  | .sl p, _, _, h => fun hm => by
    simp only [AV.pos, List.mem_singleton] at hm
    simp [AV.has, hm] at h
  | .pfx p n, _, _, h => fun hm => by
    simp only [AV.pos, List.mem_singleton] at hm
    simp [AV.has, hm] at h
  | .sub p l n z, _, _, h => fun hm => by
    simp only [AV.pos, List.mem_singleton] at hm
    simp [AV.has, hm] at h
  | .lst _ _, _, _, _ => by simp [AV.pos]
  | .nmap, _, _, _ => by simp [AV.pos]
  | .map p, _, hv, _ => fun hm => by
    simp only [AV.pos, List.mem_singleton] at hm
    simp only [CV] at hv
    obtain ⟨_, e1, r, e2⟩ := hv
    obtain ⟨A, n, cap, e'⟩ := hq
    rw [e1, ← hm, e'] at e2; cases e2
  | .stamp p k x, _, hv, _ => fun hm => by
    simp only [AV.pos, List.mem_singleton] at hm
    simp only [CV] at hv
    obtain ⟨_, b, es, clock, i, y, e1, _⟩ := hv
    obtain ⟨A, n, cap, e'⟩ := hq
    rw [← hm, e'] at e1; cases e1
  | .nfn, _, _, _ => by simp [AV.pos]
  | .vec _ _, _, _, _ => by simp [AV.pos]
  | .ref _ _, _, _, _ => by simp [AV.pos]
  | .rp _ _ _, _, _, _ => by simp [AV.pos]
  | .hd _ _ _, _, _, _ => by simp [AV.pos]
  | .hp _ _ _ _ _, _, _, _ => by simp [AV.pos]
  | .fn f cs, _, hv, h => by
    simp only [CV, AV.has, AV.pos] at *
    obtain ⟨l, _, h2⟩ := hv
    exact posl_has hq cs l h2 h
  | .agg cs, _, hv, h => by
    simp only [CV, AV.has, AV.pos] at *
    obtain ⟨l, _, h2⟩ := hv
    exact posl_has hq cs l h2 h
  | .tup cs, _, hv, h => by
    simp only [CV, AV.has, AV.pos] at *
    obtain ⟨l, _, h2⟩ := hv
    exact posl_has hq cs l h2 h
theorem posl_has {c : Ctx} {q : Nat} (hq : IsSl c q) : ∀ (l : List AV) (m : List Value), CVL c l m → AV.hasL q l = false → q ∉ AV.posL l
  | [], [], _, _ => by simp [AV.posL]
  | v :: l, x :: m, hv, h => by
    simp only [AV.hasL, Bool.or_eq_false_iff] at h
    simp only [AV.posL, List.mem_append, not_or]
    exact ⟨pos_has hq v x hv.1 h.1, posl_has hq l m hv.2 h.2⟩
  | [], _ :: _, hv, _ => hv.elim
  | _ :: _, [], hv, _ => hv.elim
end

theorem itm_fix {s : Nat → Nat} {it : Itm} (h : ∀ x ∈ it.pos, s x = x) : it.ren s = it := by
  cases it with
  | cells vs => simp only [Itm.ren]; rw [renl_fix vs (fun x hx => h x (by simpa [Itm.pos] using hx))]
  | iter m k v l x => simp only [Itm.ren]; rw [h m (by simp [Itm.pos])]
  | _ => rfl
theorem drop_fix {p : Nat} {v : AV} (h : v.has p = false) : v.drop p = v := by unfold AV.drop; rw [h]; rfl
theorem drop_has {p : Nat} {v : AV} : (v.drop p = v ∧ v.has p = false) ∨ (v.drop p = .undef ∧ v.has p = true) := by
  unfold AV.drop
  cases h : v.has p with
  | true => exact .inr ⟨rfl, rfl⟩
  | false => exact .inl ⟨rfl, rfl⟩
theorem itm_drop_fix {p : Nat} {it : Itm} (h : p ∉ it.pos) : it.drop p = it := by
  cases it with
  | cells vs =>
    simp only [Itm.drop]
    congr 1
    have h : p ∉ AV.posL vs := h
    suffices ∀ (l : List AV), p ∉ AV.posL l → l.map (AV.drop p) = l from this vs h
    intro l
    induction l with
    | nil => intro _; rfl
    | cons v l ih =>
      intro h
      simp only [AV.posL, List.mem_append, not_or] at h
      rw [List.map_cons, ih h.2]
      rcases drop_has (p := p) (v := v) with ⟨e, _⟩ | ⟨_, e⟩
      · rw [e]
      · exact absurd (has_pos v (.inl e)) h.1
  | _ => rfl

theorem look_mapK {α : Type} (d : α) (f : Nat → α → α) (hf : ∀ t, f t d = d) : ∀ (l : List (Nat × α)) (t : Nat), look d (l.map fun x => (x.1, f x.1 x.2)) t = f t (look d l t)
  | [], t => (hf t).symm
  | x :: l, t => by
    simp only [List.map_cons, look]
    cases hb : Nat.beq x.1 t with
    | true => simp only [cond_true]; rw [Nat.eq_of_beq_eq_true hb]
    | false => simp only [cond_false]; exact look_mapK d f hf l t

section
variable {E : Env} {st : St} {a : Act} {c : Ctx} {p q : Nat} {ts : List Nat}

def Ctx.mv (c : Ctx) (p q : Nat) : Ctx := { c with ρ := fun x => if x = q then c.ρ p else c.ρ x, F := fun x b => if x = q then c.F p b else if x = p then False else c.F x b }

theorem ren_mv (hpq : p ≠ q) (hD : c.D q) : Ren (c.only fun x => c.D x ∧ x ≠ q) (c.mv p q) (mvs p q) := by
  refine ⟨fun x hx => ?_, fun x hx => ?_, fun x b hx => ?_, rfl, fun _ h => h⟩
  · show c.D (mvs p q x)
    unfold mvs
    cases Nat.beq x p
    · exact hx.1
    · exact hD
  · have hx' : x ≠ q := hx.2
    show (c.mv p q).ρ (mvs p q x) = c.ρ x
    unfold mvs
    cases hb : Nat.beq x p with
    | true => simp [Ctx.mv, Nat.eq_of_beq_eq_true hb]
    | false => simp [Ctx.mv, hx']
  · have hx' : x ≠ q := hx.2
    show (c.mv p q).F (mvs p q x) b ↔ c.F x b
    unfold mvs
    cases hb : Nat.beq x p with
    | true => simp [Ctx.mv, Nat.eq_of_beq_eq_true hb]
    | false =>
      have : x ≠ p := fun e => by rw [e] at hb; simp at hb
      simp [Ctx.mv, hx', this]

theorem cv_mv (hpq : p ≠ q) (hD : c.D q) (hq : IsSl c q) {v : AV} {cv : Value} (hv : CV c v cv) : CV (c.mv p q) ((v.drop q).ren (mvs p q)) cv := by
  unfold AV.drop
  cases hh : v.has q with
  | true => simp [AV.ren, CV]
  | false =>
    exact CV.ren (ren_mv hpq hD) v cv (CV.only v cv (fun x hx => ⟨cv_pos v cv hv x hx, fun e => pos_has hq v cv hv hh (e ▸ hx)⟩) hv)
theorem cv_away (hpq : p ≠ q) (hp : IsSl c p) (hq : IsSl c q) {v : AV} {cv : Value} (hv : CV c v cv) : CV (c.mv p q) ((v.drop p).drop q) cv := by
  unfold AV.drop
  cases hh : v.has p with
  | true => simp [AV.has, CV]
  | false =>
    simp only [cond_false]
    cases hh2 : v.has q with
    | true => simp [CV]
    | false =>
      simp only [cond_false]
      have h1 := pos_has hp v cv hv hh
      have h2 := pos_has hq v cv hv hh2
      have hr : Ren (c.only fun x => c.D x ∧ x ≠ p ∧ x ≠ q) (c.mv p q) id := by
        refine ⟨fun x hx => hx.1, fun x hx => ?_, fun x b hx => ?_, rfl, fun _ h => h⟩
        · have e1 : x ≠ q := hx.2.2
          simp [Ctx.mv, e1, Ctx.only]
        · have e1 : x ≠ q := hx.2.2
          have e2 : x ≠ p := hx.2.1
          simp [Ctx.mv, e1, e2, Ctx.only]
      have := CV.ren hr v cv (CV.only v cv (fun x hx => ⟨cv_pos v cv hv x hx, fun e => h1 (e ▸ hx), fun e => h2 (e ▸ hx)⟩) hv)
      rwa [ren_fix (s := id) v (fun _ _ => rfl)] at this

theorem cvl_mv (hpq : p ≠ q) (hD : c.D q) (hq : IsSl c q) : ∀ {l : List AV} {m : List Value}, CVL c l m → CVL (c.mv p q) (AV.renL (mvs p q) (l.map (AV.drop q))) m
  | [], [], _ => trivial
  | v :: l, x :: m, hv => ⟨cv_mv hpq hD hq hv.1, cvl_mv hpq hD hq hv.2⟩
  | [], _ :: _, hv => hv.elim
  | _ :: _, [], hv => hv.elim
theorem iok_mv (hpq : p ≠ q) (hDp : c.D p) (hD : c.D q) (hp : IsSl c p) (hq : IsSl c q) {x : Nat} (hxD : c.D x) (hxp : x ≠ p) (hxq : x ≠ q) {it : Itm} (hi : IOk c x it) : IOk (c.mv p q) x ((it.drop q).ren (mvs p q)) := by
  have hρ : (c.mv p q).ρ x = c.ρ x := by simp [Ctx.mv, hxq]
  have hF : ∀ b, (c.mv p q).F x b ↔ c.F x b := fun b => by simp [Ctx.mv, hxq, hxp]
  cases it with
  | cells vs =>
    obtain ⟨b, l, t, h1, h2, h3, h4⟩ := hi
    exact ⟨b, l, t, hρ.trans h1, h2, cvl_mv hpq hD hq h3, fun y => (hF y).trans (h4 y)⟩
  | iter m k v l e =>
    have hm : m ≠ p ∧ m ≠ q := by
      obtain ⟨b, mb, seen, es, clock, _, _, _, e1, _⟩ := hi
      constructor <;> intro e2
      · obtain ⟨A, n, cap, e3⟩ := hp; rw [← e2, e1] at e3; cases e3
      · obtain ⟨A, n, cap, e3⟩ := hq; rw [← e2, e1] at e3; cases e3
    have hs : mvs p q x = x := by unfold mvs; rw [nbeq_ne hxp]; rfl
    have := IOk.ren (ren_mv hpq hD) (p := x) ⟨hxD, hxq⟩ (IOk.only (fun y hy => by
      have hy : y = m := by simpa [Itm.pos] using hy
      subst hy
      obtain ⟨b, mb, seen, es, clock, _, _, hDm, _⟩ := hi
      exact ⟨hDm, hm.2⟩) hi)
    rwa [hs] at this
  | gone => trivial
  | arr t e xs =>
    have hs : mvs p q x = x := by unfold mvs; rw [nbeq_ne hxp]; rfl
    have := IOk.ren (ren_mv hpq hD) (p := x) ⟨hxD, hxq⟩ (IOk.only (fun y hy => by simp [Itm.pos] at hy) hi)
    rwa [hs] at this
  | mapo k v E =>
    have hs : mvs p q x = x := by unfold mvs; rw [nbeq_ne hxp]; rfl
    have := IOk.ren (ren_mv hpq hD) (p := x) ⟨hxD, hxq⟩ (IOk.only (fun y hy => by simp [Itm.pos] at hy) hi)
    rwa [hs] at this
  | pool r H P hs => exact IOk.samePool (it := .pool r H P hs) ⟨r, by simp [Itm.poolIs]⟩ hi hρ (fun _ h => h) (fun _ _ => rfl) hF (fun _ _ => rfl)
  | apool r t e P => exact IOk.samePool (it := .apool r t e P) ⟨r, by simp [Itm.poolIs]⟩ hi hρ (fun _ h => h) (fun _ _ => rfl) hF (fun _ _ => rfl)

theorem mv_at (st : St) (hpq : p ≠ q) (x : Nat) : (st.mv p q ts).at x = if x = q then st.at p else if x = p then .gone else ((st.at x).drop q).ren (mvs p q) := by
  show look .gone ((q, st.at p) :: (p, .gone) :: st.heap.map (fun x => (x.1, (x.2.drop q).ren (mvs p q)))) x = _
  by_cases h1 : x = q
  · subst h1; simp [look]
  · rw [if_neg h1]
    have : Nat.beq q x = false := nbeq_ne (Ne.symm h1)
    simp only [look, this, cond_false]
    by_cases h2 : x = p
    · subst h2; simp
    · rw [if_neg h2]
      have : Nat.beq p x = false := nbeq_ne (Ne.symm h2)
      rw [this]
      simp only [cond_false]
      exact look_map .gone (fun it : Itm => (it.drop q).ren (mvs p q)) rfl st.heap x
theorem mv_key (st : St) (hp : hasKey st.heap p = true) (hq : hasKey st.heap q = true) (x : Nat) : hasKey (st.mv p q ts).heap x = hasKey st.heap x := by
  have h0 := hasKey_map (fun it : Itm => (it.drop q).ren (mvs p q)) st.heap x
  show hasKey ((q, st.at p) :: (p, .gone) :: st.heap.map (fun x => (x.1, (x.2.drop q).ren (mvs p q)))) x = _
  have h1 : hasKey ((q, st.at p) :: (p, Itm.gone) :: st.heap.map (fun x => (x.1, (x.2.drop q).ren (mvs p q)))) x = (Nat.beq q x || (Nat.beq p x || hasKey (st.heap.map (fun x => (x.1, (x.2.drop q).ren (mvs p q)))) x)) := rfl
  rw [h1, h0]
  cases e1 : Nat.beq q x with
  | true => rw [← Nat.eq_of_beq_eq_true e1, hq]; rfl
  | false =>
    cases e2 : Nat.beq p x with
    | true => rw [← Nat.eq_of_beq_eq_true e2, hp]; rfl
    | false => rfl
theorem mv_tmp (st : St) (t : Nat) : (st.mv p q ts).tmp t = bif isIn ts t then ((st.tmp t).drop q).ren (mvs p q) else ((st.tmp t).drop p).drop q := by
  exact look_mapK .undef (fun t v => bif isIn ts t then (v.drop q).ren (mvs p q) else (v.drop p).drop q) (fun t => by cases isIn ts t <;> simp [AV.drop, AV.has, AV.ren]) st.tmps t

theorem mv_ok (hlim : ∀ p b, 900 ≤ p → ¬ E.F0 p b) (h : ROk E st a c) (hlk : LockOk st) (hm : st.mayMv p q = true) : ROk E (st.mv p q ts) a (c.mv p q) ∧ LockOk (st.mv p q ts) ∧ Kp st (st.mv p q ts) ts ∧ Hd c (c.mv p q) st.lock := by
  simp only [St.mayMv, Bool.and_eq_true, Bool.not_eq_true', List.all_eq_true] at hm
  obtain ⟨⟨⟨⟨⟨⟨⟨⟨m1, m2⟩, m3⟩, m4⟩, m5⟩, m6⟩, m7⟩, m8⟩, m9⟩ := hm
  have hpq : p ≠ q := fun e => by rw [e] at m3; simp at m3
  have h900 := Nat.le_of_ble_eq_true m4.1
  have hmil : p < 1000000 := by simpa [Nat.blt_eq] using m4.2
  have hDp := (h.Dk p).2 m5
  have hDq := (h.Dk q).2 m6
  have hlp : p ∉ st.lock := fun hh => by rw [isIn_iff.2 hh] at m7; cases m7
  have hlq : q ∉ st.lock := fun hh => by rw [isIn_iff.2 hh] at m8; cases m8
  have sl : ∀ x, c.D x → (match st.at x with | .arr _ _ _ => true | _ => false) = true → IsSl c x := fun x hx hh => by
    have hi := h.it x hx
    cases hat : st.at x with
    | arr t e xs =>
      rw [hat] at hi
      obtain ⟨A, cap, e1, _⟩ := arr_shape hi
      exact ⟨A, _, cap, e1⟩
    | _ => rw [hat] at hh; cases hh
  have hsp := sl p hDp m1
  have hsq := sl q hDq m2
  have hlock : ∀ x ∈ st.lock, ((st.at x).drop q).ren (mvs p q) = st.at x := fun x hx => by
    obtain ⟨n1, n2⟩ := m9 x hx
    have n1 : p ∉ (st.at x).pos := fun hh => by rw [isIn_iff.2 hh] at n1; cases n1
    have n2 : q ∉ (st.at x).pos := fun hh => by rw [isIn_iff.2 hh] at n2; cases n2
    rw [itm_drop_fix n2]
    refine itm_fix fun y hy => ?_
    unfold mvs
    have : y ≠ p := fun e => n1 (e ▸ hy)
    rw [nbeq_ne this]; rfl
  refine ⟨⟨fun x => ?_, fun t => ?_, h.sz, h.df, fun x hx => ?_, fun x y b hx hy hne hF => ?_, fun x b hx hF => ?_, fun b hb => ⟨(h.im b hb).1, fun x hx hF => ?_⟩, h.im0, h.im1, h.fr⟩, fun x hx => ?_, ⟨fun x hx => ?_, rfl, fun t ht => ?_, fun x hx => ?_⟩, ⟨fun x hx => hx, fun b hb => ⟨hb, rfl⟩, fun x b _ _ _ => rfl, fun x b hx _ => ?_, fun x hx _ => ?_, fun x hx => ?_⟩⟩
  · rw [mv_key st m5 m6]; exact h.Dk x
  · rw [mv_tmp]
    cases isIn ts t
    · exact cv_away hpq hsp hsq (h.tm t)
    · exact cv_mv hpq hDq hsq (h.tm t)
  · rw [mv_at st hpq]
    by_cases e1 : x = q
    · subst e1
      rw [if_pos rfl]
      have hi := h.it p hDp
      cases hat : st.at p with
      | arr t e xs =>
        rw [hat] at hi
        have := IOk.ren (ren_mv hpq hDq) (p := p) ⟨hDp, hpq⟩ (IOk.only (fun y hy => by simp [Itm.pos] at hy) hi)
        have hs : mvs p x p = x := by unfold mvs; simp
        rwa [hs] at this
      | _ => rw [hat] at m1; cases m1
    · rw [if_neg e1]
      by_cases e2 : x = p
      · rw [if_pos e2]; trivial
      · rw [if_neg e2]
        exact iok_mv hpq hDp hDq hsp hsq hx e2 e1 (h.it x hx)
  · have hx : c.D x := hx
    have hy : c.D y := hy
    simp only [Ctx.mv] at hF ⊢
    by_cases e1 : x = q
    · rw [if_pos e1] at hF
      have e2 : y ≠ q := fun e => hne (e1.trans e.symm)
      rw [if_neg e2]
      by_cases e3 : y = p
      · rw [if_pos e3]; exact id
      · rw [if_neg e3]; exact h.dj p y b hDp hy (Ne.symm e3) hF
    · rw [if_neg e1] at hF
      by_cases e2 : x = p
      · rw [if_pos e2] at hF; exact hF.elim
      · rw [if_neg e2] at hF
        by_cases e3 : y = q
        · rw [if_pos e3]; exact h.dj x p b hx hDp e2 hF
        · rw [if_neg e3]
          by_cases e4 : y = p
          · rw [if_pos e4]; exact id
          · rw [if_neg e4]; exact h.dj x y b hx hy hne hF
  · have hx : c.D x := hx
    simp only [Ctx.mv] at hF
    by_cases e1 : x = q
    · rw [if_pos e1] at hF
      obtain ⟨k1, k2⟩ := h.lt p b hDp hF
      refine ⟨k1, .inl ?_⟩
      rcases k2 with k2 | k2
      · exact k2
      · rw [org_lt hmil] at k2; exact absurd k2 (hlim p b h900)
    · rw [if_neg e1] at hF
      by_cases e2 : x = p
      · rw [if_pos e2] at hF; exact hF.elim
      · rw [if_neg e2] at hF; exact h.lt x b hx hF
  · have hx : c.D x := hx
    simp only [Ctx.mv] at hF
    by_cases e1 : x = q
    · rw [if_pos e1] at hF; exact (h.im b hb).2 p hDp hF
    · rw [if_neg e1] at hF
      by_cases e2 : x = p
      · rw [if_pos e2] at hF; exact hF
      · rw [if_neg e2] at hF; exact (h.im b hb).2 x hx hF
  · rw [mv_key st m5 m6]; exact hlk x hx
  · have e1 : x ≠ q := fun e => hlq (e ▸ hx)
    have e2 : x ≠ p := fun e => hlp (e ▸ hx)
    rw [mv_at st hpq, if_neg e1, if_neg e2]
    exact hlock x hx
  · rw [mv_tmp]
    have : isIn ts t = false := by
      cases hi : isIn ts t with
      | false => rfl
      | true => exact absurd (isIn_iff.1 hi) ht
    rw [this]
    simp only [cond_false]
    rcases drop_has (p := p) (v := st.tmp t) with ⟨e1, _⟩ | ⟨e1, e2⟩
    · rw [e1]
      rcases drop_has (p := q) (v := st.tmp t) with ⟨e3, _⟩ | ⟨e3, e4⟩
      · exact .inl e3
      · exact .inr ⟨e3, q, hlq, .inl (.inl e4)⟩
    · refine .inr ⟨?_, p, hlp, .inl (.inl e2)⟩
      rw [e1]; rfl
  · rw [mv_key st m5 m6]; exact hx
  · have e1 : x ≠ q := fun e => hlq (e ▸ hx)
    have e2 : x ≠ p := fun e => hlp (e ▸ hx)
    simp [Ctx.mv, e1, e2]
  · have e1 : x ≠ q := fun e => hlq (e ▸ hx)
    simp [Ctx.mv, e1]
  · by_cases e1 : x = q
    · exact .inl (e1 ▸ hsq)
    · exact .inr (by simp [Ctx.mv, e1])
end

end Go.Proofs.Ytljimnhijpcjaaa.VC
