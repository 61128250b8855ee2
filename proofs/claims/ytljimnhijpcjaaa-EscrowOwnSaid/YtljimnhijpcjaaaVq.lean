/- Calls, the last of it: a call runs as its function's law says. Plain lemmas; no conditions but those that each names. -/
import Derived.Test.YtljimnhijpcjaaaVp
set_option linter.unusedVariables false
set_option linter.unusedSimpArgs false
set_option linter.unusedSectionVars false
namespace Go.Proofs.Ytljimnhijpcjaaa.VC
open Go

/-- The callee's sight of the places. -/
def Ctx.inner (c : Ctx) (sg : List Nat) (Im : Nat → Prop) : Ctx := { w := c.w, D := fun i => i < sg.length, ρ := fun i => c.ρ (sg.getD i 0), F := fun i b => c.F (sg.getD i 0) b, Im := Im }

theorem getD_index {s : List Nat} {p : Nat} (h : p ∈ s) : s.getD (indexIn s p) 0 = p := by
  obtain ⟨_, h2⟩ := indexIn_at h
  simp [List.getD, h2]

theorem ren_inner {c : Ctx} {sg : List Nat} {Im : Nat → Prop} (hI : ∀ b, c.Im b → Im b) : Ren (c.only (· ∈ sg)) (c.inner sg Im) (indexIn sg) :=
  ⟨fun q hq => (indexIn_at hq).1, fun q hq => by show c.ρ _ = c.ρ q; rw [getD_index hq], fun q b hq => by show c.F _ b ↔ c.F q b; rw [getD_index hq], rfl, hI⟩

/-- The caller's sight of what the callee leaves. -/
def Ctx.outer (c cc : Ctx) (sg : List Nat) (nx n : Nat) (Im : Nat → Prop) : Ctx :=
  { w := cc.w, D := fun p => c.D p ∨ (nx ≤ p ∧ p < nx + n),
    ρ := fun p => if p ∈ sg then cc.ρ (indexIn sg p) else if nx ≤ p ∧ p < nx + n then cc.ρ (sg.length + (p - nx)) else c.ρ p,
    F := fun p b => if p ∈ sg then cc.F (indexIn sg p) b else if nx ≤ p ∧ p < nx + n then cc.F (sg.length + (p - nx)) b else c.F p b,
    Im := Im }

section
variable {c cc : Ctx} {sg : List Nat} {nx n : Nat} {Im : Nat → Prop}

theorem outer_in {p : Nat} (h : p ∈ sg) : (c.outer cc sg nx n Im).ρ p = cc.ρ (indexIn sg p) ∧ ∀ b, (c.outer cc sg nx n Im).F p b ↔ cc.F (indexIn sg p) b := by simp [Ctx.outer, h]
theorem outer_new {p : Nat} (h : p ∉ sg) (h1 : nx ≤ p) (h2 : p < nx + n) : (c.outer cc sg nx n Im).ρ p = cc.ρ (sg.length + (p - nx)) ∧ ∀ b, (c.outer cc sg nx n Im).F p b ↔ cc.F (sg.length + (p - nx)) b := by simp [Ctx.outer, h, h1, h2]
theorem outer_old {p : Nat} (h : p ∉ sg) (h1 : ¬ (nx ≤ p ∧ p < nx + n)) : (c.outer cc sg nx n Im).ρ p = c.ρ p ∧ ∀ b, (c.outer cc sg nx n Im).F p b ↔ c.F p b := by
  constructor
  · show (if p ∈ sg then _ else if nx ≤ p ∧ p < nx + n then _ else _) = _
    rw [if_neg h, if_neg h1]
  · intro b
    show (if p ∈ sg then _ else if nx ≤ p ∧ p < nx + n then _ else _) ↔ _
    rw [if_neg h, if_neg h1]

/-- The outer name of a callee's place. -/
theorem outer_out (hn : sg.Nodup) (hf : ∀ p, nx ≤ p → p < nx + n → p ∉ sg) {i : Nat} (hi : i < sg.length + n) (hD : ∀ p ∈ sg, c.D p) :
    (c.outer cc sg nx n Im).D (outOf sg nx i) ∧ (c.outer cc sg nx n Im).ρ (outOf sg nx i) = cc.ρ i ∧ ∀ b, (c.outer cc sg nx n Im).F (outOf sg nx i) b ↔ cc.F i b := by
  rcases Nat.lt_or_ge i sg.length with h | h
  · obtain ⟨h1, h2⟩ := outOf_lt (nx := nx) h
    rw [h1]
    obtain ⟨k1, k2⟩ := outer_in (c := c) (cc := cc) (nx := nx) (n := n) (Im := Im) h2
    rw [indexIn_get hn h] at k1 k2
    exact ⟨.inl (hD _ h2), k1, k2⟩
  · rw [outOf_ge (nx := nx) h]
    have hb : nx ≤ nx + (i - sg.length) ∧ nx + (i - sg.length) < nx + n := by omega
    obtain ⟨k1, k2⟩ := outer_new (c := c) (cc := cc) (Im := Im) (hf _ hb.1 hb.2) hb.1 hb.2
    rw [show sg.length + (nx + (i - sg.length) - nx) = i from by omega] at k1 k2
    exact ⟨.inr hb, k1, k2⟩

/-- A place, its outer name being known. -/
theorem outer_cases (hn : sg.Nodup) (hf : ∀ p, nx ≤ p → p < nx + n → p ∉ sg) {p : Nat} (hD : c.D p ∨ (nx ≤ p ∧ p < nx + n)) :
    (∃ i, i < sg.length ∧ p = outOf sg nx i ∧ p = sg.getD i 0 ∧ p ∈ sg) ∨ (∃ i, sg.length ≤ i ∧ i < sg.length + n ∧ p = outOf sg nx i ∧ nx ≤ p ∧ p < nx + n) ∨ (c.D p ∧ p ∉ sg ∧ ¬ (nx ≤ p ∧ p < nx + n)) := by
  by_cases h : p ∈ sg
  · left
    have := indexIn_at h
    exact ⟨indexIn sg p, this.1, (outOf_index h).symm, (getD_index h).symm, h⟩
  · by_cases h' : nx ≤ p ∧ p < nx + n
    · right; left
      refine ⟨sg.length + (p - nx), by omega, by omega, ?_, h'⟩
      rw [outOf_ge (by omega)]; omega
    · right; right
      exact ⟨hD.resolve_right h', h, h'⟩
end

theorem back {E : Env} {st : St} {a : Act} {c cc : Ctx} {sg : List Nat} {Im Im2 : Nat → Prop} {mods rel0 rel : List Nat} {upd new : List Itm} {nx : Nat}
    (h : ROk E st a c) (hn : sg.Nodup) (hsg : ∀ p ∈ sg, c.D p) (hf : ∀ p, nx ≤ p → p < nx + new.length → ¬ c.D p) (hm : ∀ i ∈ mods, i < sg.length) (hlen : upd.length = mods.length)
    (hI : ∀ b, c.Im b → Im b)
    (hI2 : (Im2 = cc.Im ∧ ∀ b, Im b → c.Im b) ∨ (Im2 = c.Im ∧ (∀ it ∈ upd, it.own = true) ∧ ∀ it ∈ new, it.own = true))
    (hr : ∀ i ∈ rel0, outOf sg nx i ∈ rel) (hr' : ∀ p ∈ rel, p ∈ mods.map (outOf sg nx)) (hra : ∀ p ∈ rel, c.D p → ∃ A n cap, c.ρ p = .slice A n cap)
    (ft : Fits (c.inner sg Im) cc mods rel0 (mods.zip upd) new sg.length) :
    Fits c (c.outer cc sg nx new.length Im2) (mods.map (outOf sg nx)) rel ((mods.map (outOf sg nx)).zip (upd.map (·.ren (outOf sg nx)))) (new.map (·.ren (outOf sg nx))) nx := by
  have hf' : ∀ p, nx ≤ p → p < nx + new.length → p ∉ sg := fun p h1 h2 h3 => hf p h1 h2 (hsg p h3)
  have out := fun i hi => outer_out (c := c) (cc := cc) (Im := Im2) (n := new.length) hn hf' (i := i) hi hsg
  have cs := fun p hp => outer_cases (c := c) (n := new.length) hn hf' (p := p) hp
  have keyi : ∀ {p}, p ∈ mods.map (outOf sg nx) → ∃ i, i ∈ mods ∧ p = outOf sg nx i ∧ i < sg.length ∧ p ∈ sg ∧ c.D p := fun {p} hp => by
    obtain ⟨i, hi, rfl⟩ := List.mem_map.1 hp
    have := outOf_lt (nx := nx) (hm i hi)
    exact ⟨i, hi, rfl, hm i hi, this.1 ▸ this.2, hsg _ (this.1 ▸ this.2)⟩
  have keyo : ∀ {p}, p ∈ sg → p ∉ mods.map (outOf sg nx) → indexIn sg p ∉ mods := fun {p} hp hnk hmk => hnk (List.mem_map.2 ⟨_, hmk, outOf_index hp⟩)
  have newi : ∀ {p}, nx ≤ p → p < nx + new.length → ∃ i, sg.length ≤ i ∧ i < sg.length + new.length ∧ p = outOf sg nx i := fun {p} h1 h2 => ⟨sg.length + (p - nx), by omega, by omega, by rw [outOf_ge (by omega)]; omega⟩
  have kn : ∀ {p}, (p ∈ mods.map (outOf sg nx) ∨ (nx ≤ p ∧ p < nx + (new.map (·.ren (outOf sg nx))).length)) → ∃ i, p = outOf sg nx i ∧ i < sg.length + new.length ∧ (i ∈ mods ∨ (sg.length ≤ i ∧ i < sg.length + new.length)) := fun {p} hp => by
    rcases hp with hp | hp
    · obtain ⟨i, h1, h2, h3, _⟩ := keyi hp
      exact ⟨i, h2, by omega, .inl h1⟩
    · obtain ⟨i, h1, h2, h3⟩ := newi hp.1 (by simpa using hp.2)
      exact ⟨i, h3, h2, .inr ⟨h1, h2⟩⟩
  have hren : ∀ {Im3 : Nat → Prop}, (∀ b, Im3 b → Im2 b) → Ren (cc.withIm Im3) (c.outer cc sg nx new.length Im2) (outOf sg nx) := fun {Im3} h3 => by
    have hDq : ∀ q, cc.D q → q < sg.length + new.length := fun q hq => ((ft.D q).1 hq).elim (fun h => Nat.lt_of_lt_of_le h (Nat.le_add_right _ _)) (fun h => h.2)
    exact ⟨fun q hq => (out q (hDq q hq)).1, fun q hq => (out q (hDq q hq)).2.1, fun q b hq => (out q (hDq q hq)).2.2 b, rfl, h3⟩
  have items : ∀ {i it}, cc.D i → (it ∈ upd ∨ it ∈ new) → IOk cc i it → IOk (c.outer cc sg nx new.length Im2) (outOf sg nx i) (it.ren (outOf sg nx)) := fun {i it} hD hit hi => by
    rcases hI2 with ⟨rfl, _⟩ | ⟨rfl, h1, h2⟩
    · exact IOk.ren (c1 := cc.withIm cc.Im) (hren fun _ h => h) hD hi
    · exact IOk.ren (hren fun _ h => h) hD (hi.owned (hit.elim (h1 it) (h2 it)))
  have frb : ∀ p b, c.D p → p ∉ mods.map (outOf sg nx) → c.F p b → cc.w.heap[b]? = c.w.heap[b]? := fun p b hD hk hF => by
    refine ft.fr.block b (h.lt p b hD hF).1 ?_
    rintro ⟨i, hi, hi2, hi3⟩
    have hi3 : c.F (sg.getD i 0) b := hi3
    have hio := outOf_lt (nx := nx) (hm i hi)
    refine h.dj p (sg.getD i 0) b hD (hsg _ hio.2) (fun e => hk ?_) hF hi3
    rw [e, ← hio.1]
    exact List.mem_map_of_mem hi
  have szle : c.w.heap.size ≤ cc.w.heap.size := ft.fr.size
  refine ⟨fun p => (by simp [Ctx.outer]), ⟨fun p hp => .inl hp, fun p hp hnr => ?_, fun p hp hnk b => ?_, fun b hb => ?_, fun b hb => ft.ext.imw b (hI b hb), fun p b hp hnk hF => frb p b hp hnk hF, fun p hp => ⟨hr' p hp, hra p hp⟩⟩,
    fun p it hp => ?_, fun i it hi => ?_, fun p b hp hD hF => ?_, fun p b h1 h2 hF => ?_, fun p q b hp hq hne hpb hqb => ?_, fun p b hD hF => ?_, fun b hb => ?_, fun b p hb hp hF => ?_, ?_⟩
  · by_cases hs : p ∈ sg
    · rw [(outer_in hs).1, ft.ext.ρ _ (indexIn_at hs).1 (fun hm' => hnr (by have := hr _ hm'; rwa [outOf_index hs] at this))]
      show c.ρ _ = _
      rw [getD_index hs]
    · exact (outer_old hs (fun hb => hf p hb.1 hb.2 hp)).1
  · by_cases hs : p ∈ sg
    · rw [(outer_in hs).2, ft.ext.F _ (indexIn_at hs).1 (keyo hs hnk)]
      show c.F _ b ↔ _
      rw [getD_index hs]
    · exact (outer_old hs (fun hb => hf p hb.1 hb.2 hp)).2 b
  · show Im2 b
    rcases hI2 with ⟨rfl, _⟩ | ⟨rfl, _⟩
    · exact ft.ext.Im b (hI b hb)
    · exact hb
  · rw [List.zip_map] at hp
    obtain ⟨⟨i, u⟩, hz, he⟩ := List.mem_map.1 hp
    simp only [Prod.map, Prod.mk.injEq] at he
    obtain ⟨rfl, rfl⟩ := he
    exact items ((ft.D i).2 (.inl (hm i (List.of_mem_zip hz).1))) (.inl (List.of_mem_zip hz).2) (ft.up i u hz)
  · rw [List.getElem?_map] at hi
    obtain ⟨u, hu, rfl⟩ := Option.map_eq_some_iff.1 hi
    have hlt : i < new.length := by
      rw [List.getElem?_eq_some_iff] at hu
      exact hu.1
    have := items ((ft.D (sg.length + i)).2 (.inr ⟨by omega, by omega⟩)) (.inr (List.mem_of_getElem? hu)) (ft.nw i u hu)
    rwa [outOf_ge (by omega), show nx + (sg.length + i - sg.length) = nx + i from by omega] at this
  · obtain ⟨i, h1, rfl, h3, h4, h5⟩ := keyi hp
    have hF' := ((out i (by omega)).2.2 b).1 hF
    rcases ft.own i b h1 h3 hF' with h6 | h6
    · left
      rw [(outOf_lt h3).1]
      exact h6
    · exact .inr h6
  · obtain ⟨i, k1, k2, rfl⟩ := newi h1 (by simpa using h2)
    exact ft.nwo i b k1 k2 (((out i k2).2.2 b).1 hF)
  · obtain ⟨i, rfl, hi, hi'⟩ := kn hp
    obtain ⟨j, rfl, hj, hj'⟩ := kn hq
    exact ft.dj i j b hi' hj' (fun e => hne (by rw [e])) (((out i hi).2.2 b).1 hpb) (((out j hj).2.2 b).1 hqb)
  · show b < cc.w.heap.size
    rcases cs p hD with ⟨i, hi, rfl, _⟩ | ⟨i, hi, hi2, rfl, _⟩ | ⟨h1, h2, h3⟩
    · exact ft.lt i b ((ft.D i).2 (.inl hi)) (((out i (by omega)).2.2 b).1 hF)
    · exact ft.lt i b ((ft.D i).2 (.inr ⟨hi, hi2⟩)) (((out i hi2).2.2 b).1 hF)
    · exact Nat.lt_of_lt_of_le (h.lt p b h1 (((outer_old h2 h3).2 b).1 hF)).1 szle
  · show b < cc.w.heap.size ∧ _
    have hb : Im2 b := hb
    rcases hI2 with ⟨rfl, h1⟩ | ⟨rfl, _⟩
    · obtain ⟨h2, h3⟩ := ft.im b hb
      exact ⟨h2, h3.imp (h1 b) id⟩
    · exact ⟨Nat.lt_of_lt_of_le (h.im b hb).1 szle, .inl hb⟩
  · have hb : Im2 b := hb
    obtain ⟨i, rfl, hi, hi'⟩ := kn hp
    refine ft.imn b i ?_ hi' (((out i hi).2.2 b).1 hF)
    rcases hI2 with ⟨rfl, h1⟩ | ⟨rfl, _⟩
    · exact hb
    · exact ft.ext.Im b (hI b hb)
  · refine ⟨ft.fr.os, ft.fr.tape, ft.fr.output, ft.fr.size, fun b hb hn => ft.fr.block b hb ?_⟩
    rintro ⟨i, hi, hi2, hi3⟩
    have hio := outOf_lt (nx := nx) (hm i hi)
    exact hn ⟨outOf sg nx i, List.mem_map_of_mem hi, by rw [hio.1]; exact hsg _ hio.2, by rw [hio.1]; exact hi3⟩

section
variable {P : Program} {tt : TypeId → Option TI} {eqt : TypeId → Option (List EF)} {sp : FuncId → Option Spc} {E : Env} {st : St} {a : Act} {c : Ctx} {hold : List Nat} {K : St → Prop} {Q : Exit → Act → World → Prop} {o : Oper}

/-- The callee's places hold what it asks for. -/
theorem inner_ok (h : ROk E st a c) {sg : List Nat} {Im : Nat → Prop} (hn : sg.Nodup) (hsg : ∀ p ∈ sg, c.D p) (hp : ∀ p ∈ sg, ∀ q ∈ (st.at p).pos, q ∈ sg)
    (hI : ∀ b, c.Im b → Im b) (hI' : ∀ b, Im b → b < c.w.heap.size ∧ ∀ p ∈ sg, ¬ c.F p b) : COk (c.inner sg Im) (sg.map fun p => (st.at p).ren (indexIn sg)) := by
  have get : ∀ i, i < sg.length → sg.getD i 0 ∈ sg := fun i hi => by simp [List.getD, hi]
  refine ⟨fun p => by simp [Ctx.inner], fun i it hi => ?_, fun p q b hp' hq' hne hF hG => ?_, fun p b hp' hF => ?_, fun b hb => ?_⟩
  · rw [List.getElem?_map] at hi
    obtain ⟨p, hg, rfl⟩ := Option.map_eq_some_iff.1 hi
    rw [List.getElem?_eq_some_iff] at hg
    obtain ⟨hlt, rfl⟩ := hg
    have hm : sg[i] ∈ sg := List.getElem_mem hlt
    have := IOk.ren (ren_inner (c := c) (sg := sg) hI) (p := sg[i]) hm ((h.it _ (hsg _ hm)).only (hp _ hm))
    have hidx := indexIn_get hn hlt
    rw [show sg.getD i 0 = sg[i] from by simp [List.getD, hlt]] at hidx
    rwa [hidx] at this
  · have hp' : p < sg.length := hp'
    have hq' : q < sg.length := hq'
    refine h.dj _ _ b (hsg _ (get p hp')) (hsg _ (get q hq')) (fun e => hne ?_) hF hG
    rw [← indexIn_get hn hp', ← indexIn_get hn hq', e]
  · exact (h.lt _ b (hsg _ (get p hp')) hF).1
  · exact ⟨(hI' b hb).1, fun p hp' => (hI' b hb).2 _ (get p hp')⟩

theorem isArr_ren (it : Itm) (s : Nat → Nat) : (it.ren s).isArr = it.isArr := by cases it <;> rfl

theorem natsEq_iff : ∀ {a b : List Nat}, natsEq a b = true → a = b
  | [], [], _ => rfl
  | x :: a, y :: b, h => by
    simp only [natsEq, Bool.and_eq_true] at h
    rw [Nat.eq_of_beq_eq_true h.1, natsEq_iff h.2]
  | [], _ :: _, h => by cases h
  | _ :: _, [], h => by cases h

theorem goAlts_mem {nt : Nat} {st : St} {hold rel : List Nat} {dst : Option Nat} : ∀ {l : List Alt}, goAlts nt st hold rel dst K l → ∀ x ∈ l, goAlt nt st hold rel dst K x
  | [], h, _, _ => h.elim
  | [y], h, x, hx => (List.mem_singleton.1 hx) ▸ h
  | y :: z :: l, h, x, hx => by
    rcases List.mem_cons.1 hx with rfl | hx
    · exact h.1
    · exact goAlts_mem h.2 x hx

theorem goAlt_con {nt : Nat} {st : St} {hold rel : List Nat} {dst : Option Nat} {sg : List Nat} {nx : Nat} : ∀ {cn : Con}, cn.fair = true → (∀ x ∈ Alt.ofCon sg nx cn, goAlt nt st hold rel dst K x) → ∀ {val : AV} {upd new : List Itm}, Con.has val upd new cn →
    stepK nt st hold rel dst (val.ren (outOf sg nx)) ((cn.mods.map (outOf sg nx)).zip (upd.map (·.ren (outOf sg nx)))) (new.map (·.ren (outOf sg nx))) K
  | .det p m v u n, _, h, val, upd, new, hc => by
    obtain ⟨rfl, rfl, rfl⟩ := hc
    exact h _ (List.mem_singleton.2 rfl)
  | .any p m T post v u n, _, h, val, upd, new, hc => by
    obtain ⟨r, hp, rfl, rfl, rfl⟩ := hc
    exact h _ (List.mem_singleton.2 rfl) r ⟨hp⟩
  | .or a b, hf, h, val, upd, new, hc => by
    simp only [Con.fair, Bool.and_eq_true] at hf
    rcases hc with hc | hc
    · exact goAlt_con hf.1.1 (fun x hx => h x (List.mem_append_left _ hx)) hc
    · have := goAlt_con (cn := b) hf.1.2 (fun x hx => h x (List.mem_append_right _ hx)) hc
      rwa [← natsEq_iff hf.2] at this

theorem owned_has : ∀ {cn : Con}, cn.owned = true → ∀ {val : AV} {upd new : List Itm}, Con.has val upd new cn → val.own = true ∧ (∀ it ∈ upd, it.own = true) ∧ ∀ it ∈ new, it.own = true
  | .det p m v u n, h, val, upd, new, hc => by
    obtain ⟨rfl, rfl, rfl⟩ := hc
    simpa [Con.owned, and_assoc] using h
  | .any p m T post v u n, h, _, _, _, _ => by simp [Con.owned] at h
  | .or a b, h, val, upd, new, hc => by
    simp only [Con.owned, Bool.and_eq_true] at h
    rcases hc with hc | hc
    · exact owned_has h.1 hc
    · exact owned_has h.2 hc

theorem ownedAll_has : ∀ {cn : Con}, cn.ownedAll → ∀ {val : AV} {upd new : List Itm}, Con.has val upd new cn → val.own = true ∧ (∀ it ∈ upd, it.own = true) ∧ ∀ it ∈ new, it.own = true
  | .det _ _ v u n, h, _, _, _, ⟨rfl, rfl, rfl⟩ => by
    simp only [Con.ownedAll, Bool.and_eq_true, List.all_eq_true] at h
    exact ⟨h.1.1, h.1.2, h.2⟩
  | .any _ _ T post v u n, h, _, _, _, ⟨r, _, rfl, rfl, rfl⟩ => by
    have h := h r
    simp only [Bool.and_eq_true, List.all_eq_true] at h
    exact ⟨h.1.1, h.1.2, h.2⟩
  | .or a b, h, _, _, _, hh => hh.elim (ownedAll_has h.1) (ownedAll_has h.2)

theorem call_go (S : ∀ f s, sp f = some s → FnOk P f s) (h : ROk E st a c) (hlk : LockOk st) {f : FuncId} {args : List AV} {vals : Array Value} (hv : CVL c args vals.toList) (hrun : (execOp a.eval o).run P c.w = (callFunc f vals).run P c.w)
    {r : Res} (hr : callA sp st f args = some r) (hpre : ∀ q ∈ r.pre, q) (hK : goAlts E.nt st hold r.rel o.dst K r.alts) : o.wp P a c.w (Post E st hold c o.dst K) Q := by
  unfold callA at hr
  cases hsp : sp f with
  | none => simp [hsp] at hr
  | some s =>
    have ok := S f s hsp
    simp only [hsp] at hr
    generalize has : (bif s.own then args else args.map (lendA st)) = as at hr
    split at hr
    · cases hr
    rename_i pls hpls
    generalize hlent : (bif s.own then [] else args.flatMap (lentBy st)) = lent at hr
    generalize hsg : reach st 12 (addAll [] (AV.posL as)) 0 ++ pls = sg at hr
    split at hr
    · cases hr
    · rename_i g hg
      obtain ⟨hga, hgh⟩ := s.ok _ _ _ hg
      cases hb : (lent.all (fun p => !sg.any (Nat.beq p)) && (s.con g).fair && (lent.isEmpty || (s.con g).owned || s.lends) && (AV.posL as).all (fun q => sg.any (Nat.beq q)) && sg.all (fun p => (st.at p).pos.all (fun q => sg.any (Nat.beq q))) && sg.all (hasKey st.heap) && nodupB sg && (s.con g).mods.all (fun i => Nat.blt i sg.length) && nodupB (s.con g).mods) with
      | false => rw [hb] at hr; simp at hr
      | true =>
        rw [hb] at hr
        simp only [cond_true] at hr
        have hr := Option.some.inj hr
        subst hr
        simp only [Bool.and_eq_true] at hb
        obtain ⟨⟨⟨⟨⟨⟨⟨⟨b1, bf⟩, b2⟩, b3⟩, b4⟩, b5⟩, b6⟩, b7⟩, b8⟩ := hb
        have hany : ∀ p, sg.any (Nat.beq p) = true ↔ p ∈ sg := fun p => isIn_iff (l := sg) (p := p)
        have c1 : ∀ p ∈ lent, p ∉ sg := fun p hp hm => by
          have := List.all_eq_true.1 b1 p hp
          rw [(hany p).2 hm] at this
          cases this
        have c3 : ∀ q ∈ AV.posL as, q ∈ sg := fun q hq => (hany q).1 (List.all_eq_true.1 b3 q hq)
        have c4 : ∀ p ∈ sg, ∀ q ∈ (st.at p).pos, q ∈ sg := fun p hp q hq => (hany q).1 (List.all_eq_true.1 (List.all_eq_true.1 b4 p hp) q hq)
        have c5 : ∀ p ∈ sg, c.D p := fun p hp => (h.Dk p).2 (List.all_eq_true.1 b5 p hp)
        have c6 := nodupB_iff b6
        have c7 : ∀ i ∈ (s.con g).mods, i < sg.length := fun i hi => by
          have := List.all_eq_true.1 b7 i hi
          rwa [Nat.blt_eq] at this
        have hIm : ∃ Im : Nat → Prop, (∀ b, c.Im b → Im b) ∧ (∀ b, Im b → b < c.w.heap.size ∧ ∀ p ∈ sg, ¬ c.F p b) ∧ (lent = [] → ∀ b, Im b → c.Im b) ∧ CVL (c.withIm Im) as vals.toList := by
          cases hown : s.own with
          | true =>
            rw [hown] at has hlent
            simp only [cond_true] at has hlent
            subst has
            exact ⟨c.Im, fun _ h => h, fun b hb => ⟨(h.im b hb).1, fun p hp => (h.im b hb).2 p (c5 p hp)⟩, fun _ _ h => h, hv⟩
          | false =>
            rw [hown] at has hlent
            simp only [cond_false] at has hlent
            subst has
            refine ⟨fun b => c.Im b ∨ ∃ p, p ∈ lent ∧ c.D p ∧ c.F p b, fun b hb => .inl hb, fun b hb => ?_, fun hl b hb => ?_, ?_⟩
            · rcases hb with hb | ⟨p, h1, h2, h3⟩
              · exact ⟨(h.im b hb).1, fun p hp => (h.im b hb).2 p (c5 p hp)⟩
              · exact ⟨(h.lt p b h2 h3).1, fun q hq => h.dj p q b h2 (c5 q hq) (fun e => c1 p h1 (e ▸ hq)) h3⟩
            · rcases hb with hb | ⟨p, h1, _⟩
              · exact hb
              · rw [hl] at h1; cases h1
            · refine lendL_cv (fun p hp => (h.Dk p).2 hp) (fun b hb => .inl hb) h.it args _ (fun p hp hD b hb => ?_) (fun q hq => hpre q (List.mem_append_left _ (by rw [hown]; exact hq))) hv
              rw [hlent] at hp
              exact .inr ⟨p, hp, hD, hb⟩
        obtain ⟨Im, i1, i2, i3, i4⟩ := hIm
        have hcok : COk (c.inner sg Im) (s.heap g) := by
          exact COk.le hgh (inner_ok h c6 c5 c4 i1 i2)
        have hcv : CVL (c.inner sg Im) (s.args g) vals.toList := by
          exact hga.cv <| CVL.ren (ren_inner (c := c.withIm Im) (sg := sg) (fun _ h => h)) as _ (CVL.only (D := (· ∈ sg)) as _ c3 i4)
        have hlen : (s.heap g).length = sg.length := by rw [← hgh.len]; simp
        unfold Oper.wp
        rw [hrun, ok.enter, Oper.upon_enter]
        refine (ok.calls g (c.inner sg Im) vals (fun q hq => hpre q (List.mem_append_right _ hq)) hcok hcv).mono fun e w' hd => ?_
        obtain ⟨val, upd, new, cv, cc, k1, rfl, rfl, k4, k5, k6⟩ := hd
        show Post E st hold c o.dst K _ _
        refine post_of h hlk (goAlt_con bf (goAlts_mem hK) k1) fun hl => ?_
        rw [hlen] at k5
        have hnw := hl.new
        rw [List.length_map] at hnw
        have hfresh : ∀ p, st.next ≤ p → p < st.next + new.length → ¬ c.D p := fun p h1 h2 hD => by
          have := hnw (p - st.next) (by omega)
          rw [show st.next + (p - st.next) = p from by omega, (h.Dk p).1 hD] at this
          cases this
        have hown : (lent = []) ∨ (val.own = true ∧ (∀ it ∈ upd, it.own = true) ∧ ∀ it ∈ new, it.own = true) := by
          simp only [Bool.or_eq_true] at b2
          rcases b2 with (hb | hb) | hb
          · exact .inl (List.isEmpty_iff.1 hb)
          · exact .inr (owned_has hb k1)
          · exact .inr (ownedAll_has (s.lendsOk hb g) k1)
        have hmap : ((((s.con g).mods.map (outOf sg st.next)).zip (upd.map (·.ren (outOf sg st.next)))).map (·.1)) = (s.con g).mods.map (outOf sg st.next) := List.map_fst_zip (by simp [k4])
        rw [hmap]
        have hrel0 : ∀ i ∈ relOf (s.con g).mods (s.heap g), outOf sg st.next i ∈ ((s.con g).mods.map (outOf sg st.next)).filter (fun p => (st.at p).isArr) := fun i hi => by
          rw [← relOf_le hgh] at hi
          simp only [relOf, List.mem_filter] at hi ⊢
          refine ⟨List.mem_map_of_mem hi.1, ?_⟩
          have hlt := c7 i hi.1
          have := hi.2
          rw [List.getElem?_map, List.getElem?_eq_getElem hlt] at this
          simp only [Option.map_some, Option.getD_some, isArr_ren] at this
          rw [(outOf_lt hlt).1]
          simpa [List.getD, hlt] using this
        have hsub : ∀ p ∈ (bif s.still then [] else ((s.con g).mods.map (outOf sg st.next)).filter (fun p => (st.at p).isArr)), p ∈ ((s.con g).mods.map (outOf sg st.next)).filter (fun p => (st.at p).isArr) := fun p hp => by
          cases hst : s.still with
          | true => rw [hst] at hp; cases hp
          | false => rw [hst] at hp; exact hp
        have hrel : ∀ i ∈ (bif s.still then [] else relOf (s.con g).mods (s.heap g)), outOf sg st.next i ∈ (bif s.still then [] else ((s.con g).mods.map (outOf sg st.next)).filter (fun p => (st.at p).isArr)) := fun i hi => by
          cases hst : s.still with
          | true => rw [hst] at hi; cases hi
          | false => rw [hst] at hi; exact hrel0 i hi
        have hrel' : ∀ p ∈ (bif s.still then [] else ((s.con g).mods.map (outOf sg st.next)).filter (fun p => (st.at p).isArr)), p ∈ (s.con g).mods.map (outOf sg st.next) := fun p hp => (List.mem_filter.1 (hsub p hp)).1
        have hrela : ∀ p ∈ (bif s.still then [] else ((s.con g).mods.map (outOf sg st.next)).filter (fun p => (st.at p).isArr)), c.D p → ∃ A n cap, c.ρ p = .slice A n cap := fun p hp hD => by
          have hp := hsub p hp
          have hi := h.it p hD
          have ha := (List.mem_filter.1 hp).2
          cases hat : st.at p with
          | arr t e xs =>
            rw [hat] at hi
            obtain ⟨A, cap, e1, _⟩ := arr_shape hi
            exact ⟨A, _, cap, e1⟩
          | _ => rw [hat] at ha; cases ha
        have hDq : ∀ q, cc.D q → q < sg.length + new.length := fun q hq => ((k5.D q).1 hq).elim (fun h => Nat.lt_of_lt_of_le h (Nat.le_add_right _ _)) (fun h => h.2)
        rcases hown with hl0 | ⟨o1, o2, o3⟩
        · refine ⟨c.outer cc sg st.next new.length cc.Im, rfl, back h c6 c5 hfresh c7 k4 i1 (.inl ⟨rfl, i3 hl0⟩) hrel hrel' hrela k5, ?_⟩
          have out := fun i hi => outer_out (c := c) (cc := cc) (Im := cc.Im) (n := new.length) c6 (fun p h1 h2 h3 => hfresh p h1 h2 (c5 p h3)) (i := i) hi c5
          exact CV.ren ⟨fun q hq => (out q (hDq q hq)).1, fun q hq => (out q (hDq q hq)).2.1, fun q b hq => (out q (hDq q hq)).2.2 b, rfl, fun _ h => h⟩ val cv k6
        · refine ⟨c.outer cc sg st.next new.length c.Im, rfl, back h c6 c5 hfresh c7 k4 i1 (.inr ⟨rfl, o2, o3⟩) hrel hrel' hrela k5, ?_⟩
          have out := fun i hi => outer_out (c := c) (cc := cc) (Im := c.Im) (n := new.length) c6 (fun p h1 h2 h3 => hfresh p h1 h2 (c5 p h3)) (i := i) hi c5
          exact CV.ren (c1 := cc.withIm c.Im) ⟨fun q hq => (out q (hDq q hq)).1, fun q hq => (out q (hDq q hq)).2.1, fun q b hq => (out q (hDq q hq)).2.2 b, rfl, fun _ h => h⟩ val cv (CV.owned val cv o1 k6)

theorem call_loud (S : ∀ f s, sp f = some s → FnOk P f s) (h : ROk E st a c) (hlk : LockOk st) {ts : Array TypeId} {args : Array Operand} {fo : Operand} (hop : o.op = .call ⟨.value fo, args, ts⟩) {r : Res} (hr : opA tt eqt sp st o = some r)
    (hpre : ∀ q ∈ r.pre, q) (hK : goAlts E.nt st hold r.rel o.dst K r.alts) : o.wp P a c.w (Post E st hold c o.dst K) Q := by
  simp only [opA, hop] at hr
  have hf := eval_cv h fo
  split at hr
  · rename_i g cs he
    rw [he] at hf
    simp only [CV] at hf
    obtain ⟨l, h1, h2⟩ := hf
    refine call_go S h hlk (vals := args.map a.eval ++ l.toArray) ?_ ?_ hr hpre hK
    · have hm := eval_list h args.toList
      simpa using CVL.append hm h2
    · simp [execOp, hop, resolve, invoke, h1, Deferred.ofValue]
  · cases hr
end
end Go.Proofs.Ytljimnhijpcjaaa.VC
