/- slices.Sort at whole numbers: the shelf's law, in these words. No conditions but what the specification says. -/
import Derived.Test.YtkhcphdnppdfjaaSp
import Derived.Test.YtkhcphdnppdfjaaSh
import Derived.Shelf.Sort.Plain
import Derived.Shelf.Slices.In.SortNone
import Derived.Sort.OwnSortedInts
set_option linter.unusedVariables false
namespace Go.Proofs.Ytkhcphdnppdfjaa.VC
open Go Go.Shelf Go.Sort

theorem fits_kept {E : Env} {st : St} {a : Act} {c : Ctx} (h : ROk E st a c) {p nx : Nat} {w' : World} {it : Itm} {v : Value} (hD : c.D p) (hF : ∀ x, c.F p x ↔ v.ownBlock = some x) (hg : c.w.grownBy w' v.ownBlock) (hi : IOk (c.at w') p it) : Fits c (c.at w') [p] [] [(p, it)] [] nx := by
  have old : ∀ b, b < c.w.heap.size → ¬ c.F p b → w'.heap[b]? = c.w.heap[b]? := fun b hb hn => hg.block b hb (fun e => hn ((hF b).2 e.symm))
  refine ⟨fun q => (by simp [Ctx.at]; omega), ⟨fun q hq => hq, fun q hq hn => rfl, fun q hq hn b => Iff.rfl, fun b hb => hb, fun b hb' => old b (h.im b hb').1 ((h.im b hb').2 p hD), fun q b hq hne hqb => ?_, fun q hq => absurd hq (by simp)⟩,
    fun q jt hq => ?_, fun i jt hj => (by simp at hj), fun q b hq _ hF' => .inl hF', fun q b h1 h2 => (by simp at h2; omega), fun q q' b hq hq' hne => ?_, fun q b hq hF' => ?_, fun b hb' => ?_, fun b q hb' hq hF' => ?_, ?_⟩
  · have : q ≠ p := by simpa using hne
    exact old b (h.lt q b hq hqb).1 (h.dj q p b hq hD this hqb)
  · simp at hq; obtain ⟨rfl, rfl⟩ := hq; exact hi
  · simp at hq hq'; omega
  · exact Nat.lt_of_lt_of_le (h.lt q b hq hF').1 hg.size
  · exact ⟨Nat.lt_of_lt_of_le (h.im b hb').1 hg.size, .inl hb'⟩
  · simp at hq
    rcases hq with rfl | hq
    · exact (h.im b hb').2 q hD hF'
    · omega
  · exact ⟨hg.os, hg.tape, hg.output, hg.size, fun b hlt hn => old b hlt (fun hF' => hn ⟨p, by simp, hD, hF'⟩)⟩

theorem rows_intsS {w : World} {Im : Nat → Prop} : ∀ {xs : List Int} {cs : List Value}, RowsK w Im TI64 xs cs → cs = xs.map (Value.int .i64) ∧ ∀ x ∈ xs, InR .i64 x
  | [], cs, h => ⟨h, by simp⟩
  | x :: xs, cs, ⟨c1, c2, h, h1, h2⟩ => by
    obtain ⟨e1, e2⟩ := rows_intsS h2
    obtain ⟨h3, h4⟩ := h1
    refine ⟨by rw [h, h4, e1]; rfl, fun y hy => ?_⟩
    rcases List.mem_cons.1 hy with rfl | hy
    · exact h3
    · exact e2 y hy
theorem ints_rows {w : World} {Im : Nat → Prop} : ∀ {xs : List Int}, (∀ x ∈ xs, InR .i64 x) → RowsK w Im TI64 xs (xs.map (Value.int .i64))
  | [], _ => rfl
  | x :: xs, h => ⟨[.int .i64 x], xs.map (Value.int .i64), rfl, ⟨h x (by simp), rfl⟩, ints_rows fun y hy => h y (by simp [hy])⟩

theorem fn31 : FnOk Try.prog 31 sp31 := by
  refine ⟨Try.call31, fun g c vals hpre h0 hv => ?_⟩
  have hlt : g.length < 4611686018427387904 := hpre _ (List.mem_singleton.2 rfl)
  have hst := start_ok (mods := [0]) (nt := 0) h0 (fun p hp => Nat.lt_of_lt_of_le ((h0.D p).1 hp) (by show 1 ≤ 1000000; omega)) hv
  have hD : c.D 0 := (h0.D 0).2 (by show 0 < 1; omega)
  obtain ⟨cs, k1, k2, k3⟩ := h0.it 0 (.arr 3 TI64 g) rfl
  obtain ⟨e1, e2⟩ := rows_intsS k2
  subst e1
  have hvals : vals = #[c.ρ 0] := by
    have : CVL c [.sl 0] vals.toList := hv
    cases hl : vals.toList with
    | nil => rw [hl] at this; exact this.elim
    | cons x l =>
      rw [hl] at this
      obtain ⟨h1, h2⟩ := this
      cases l with
      | nil =>
        simp only [CV] at h1
        rw [h1.2.1] at hl
        exact Array.toList_inj.1 hl
      | cons y l => exact h2.elim
  have perm := List.mergeSort_perm g (fun a b => decide (a ≤ b))
  have hrow : (∀ x ∈ rising g, InR .i64 x) := fun x hx => e2 x (perm.mem_iff.1 hx)
  have hrl : (rising g).length = g.length := perm.length_eq
  have fin : ∀ w', c.w.grownBy w' (c.ρ 0).ownBlock → w'.ownsRow 0 3 1 (c.ρ 0) (rising g).length ((rising g).map (Value.int .i64)) → Done c (sp31.heap g) sp31.still (sp31.con g) (.returned (.tuple #[])) w' := fun w' hg ho => by
    refine ⟨.tup [], [.arr 3 TI64 (rising g)], [], .tuple #[], c.at w', ⟨rfl, rfl, rfl⟩, rfl, rfl, rfl, ?_, by simp only [CV]; exact ⟨[], rfl, trivial⟩⟩
    exact fits_kept hst hD k3 hg ⟨_, ho, ints_rows hrow, k3⟩
  rw [hvals]
  rcases k1.2 with ⟨hn, hz⟩ | ⟨gb, cap, cur, hsl, hb, hcur, hle, hcap, hsz, htk⟩
  · rw [hn]
    refine (Any.slices_Sort_int_none Try.lays189 none 0 c.w).mono fun e w' he => ?_
    obtain ⟨rfl, rfl⟩ := he
    refine fin _ ⟨rfl, rfl, rfl, Nat.le_refl _, fun _ _ _ => rfl⟩ ?_
    have : g = [] := List.eq_nil_of_length_eq_zero hz
    subst this
    exact ⟨by simp [rising], .inl ⟨hn, by simp [rising]⟩⟩
  · rw [hsl]
    have htk' : cur.toList.take g.length = g.map (Value.int .i64) := by simpa [Ty.sz] using htk
    have hH := holds_of_blockI hcur htk'
    refine (Any.slices_Sort_int Try.lays189 gb 0 cap g c.w hH (Array.getElem?_eq_some_iff.1 hcur).1 hlt).mono fun e w' he => ?_
    obtain ⟨rfl, n, os, rfl⟩ := he
    refine fin _ (by rw [hsl]; exact grownBy_sortedI _) ?_
    rw [hsl, hrl]
    exact ownsRow_sortedI hrl (Nat.zero_le _) hcur hle hcap (by simpa [Ty.sz] using hsz)
end Go.Proofs.Ytkhcphdnppdfjaa.VC
