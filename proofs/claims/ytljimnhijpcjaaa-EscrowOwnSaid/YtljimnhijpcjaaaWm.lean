/- maps.Clone answers as is said. Plain lemmas; no conditions but those that the specification names. -/
import Derived.Test.YtljimnhijpcjaaaEq
import Derived.Test.YtljimnhijpcjaaaSh
set_option linter.unusedVariables false
set_option linter.unusedSimpArgs false
namespace Go.Proofs.Ytljimnhijpcjaaa.VC
open Go
theorem fn54 : FnOk Try.prog 54 sp54 := by
  refine ⟨Try.call54, fun g c vals hpre h0 hv => ?_⟩
  have hst := start_ok (mods := []) (nt := 0) h0 (fun p hp => Nat.lt_of_lt_of_le ((h0.D p).1 hp) (by show 1 ≤ 1000000; omega)) hv
  have hD0 : c.D 0 := (h0.D 0).2 (by show 0 < 1; omega)
  have hD1 : ¬ c.D 1 := fun h => by have := (h0.D 1).1 h; exact absurd this (by show ¬ (1 < 1); omega)
  obtain ⟨b, es, clock, k1, k2, k3, k4, k5, k6⟩ := h0.it 0 (.mapo kI kI g) rfl
  have hvals : vals = #[.map (some b)] := by
    have hv' : CVL c [.map 0] vals.toList := hv
    cases hvl : vals.toList with
    | nil => rw [hvl] at hv'; exact hv'.elim
    | cons x xs =>
      rw [hvl] at hv'
      obtain ⟨hx, hxs⟩ := hv'
      cases xs with
      | cons y ys => exact hxs.elim
      | nil =>
        simp only [CV] at hx
        apply Array.toList_inj.1
        rw [hvl, hx.2.1, k1]
  rw [hvals]
  refine (AnyW.maps_Clone Try.cloneA b es clock c.w k2).mono fun e w' ⟨he, hw⟩ => ?_
  subst hw
  have hnew := Ctx.new_at c (c.w.alloc (.map es clock)) 1 (.map (some c.w.heap.size)) (fun x => x = c.w.heap.size)
  have hblk : (c.w.alloc (.map es clock)).heap[c.w.heap.size]? = some (.map es clock) := by
    show (c.w.heap.push (.map es clock))[c.w.heap.size]? = _
    simp
  have hold : ∀ x, x < c.w.heap.size → (c.w.alloc (.map es clock)).heap[x]? = c.w.heap[x]? := fun x hx => heap_alloc_old c.w _ hx
  have hi : IOk (c.new (c.w.alloc (.map es clock)) 1 (.map (some c.w.heap.size)) (fun x => x = c.w.heap.size)) 1 (.mapo kI kI g) := by
    refine ⟨c.w.heap.size, es, clock, hnew.1, hblk, ?_, k4, k5, fun x => hnew.2.2 x⟩
    have hx : Ext c (c.new (c.w.alloc (.map es clock)) 1 (.map (some c.w.heap.size)) (fun x => x = c.w.heap.size)) (fun _ => False) (fun _ => False) := by
      have ne : ∀ p, c.D p → p ≠ 1 := fun p hp e => hD1 (e ▸ hp)
      exact ⟨fun p hp => .inl hp, fun p hp _ => by simp [Ctx.new, ne p hp], fun p hp _ b => by simp [Ctx.new, ne p hp], fun _ h => h, fun b hb => hold b (h0.im b hb).1, fun p b hp _ hb => hold b (h0.lt p b hp hb), fun _ h => h.elim⟩
    exact MapK.ext hx k3
  have hfit := fits_made (st := { startSt [.map 0] [.mapo kI kI g] [] with next := 1 }) (it := .mapo kI kI g) (v := .map (some c.w.heap.size)) (B := fun x => x = c.w.heap.size)
    (E := envOf c 0) (a := { tmps := vals ++ Array.replicate (0 - vals.size) undef, defers := [] }) (c := c)
    ⟨hst.Dk, hst.tm, hst.sz, hst.df, hst.it, hst.dj, hst.lt, hst.im, hst.im0, hst.im1, hst.fr⟩ hD1 (w' := c.w.alloc (.map es clock)) ⟨rfl, rfl, rfl, by show _ ≤ (c.w.heap.push _).size; simp, fun k hk _ => hold k hk⟩ (fun x hx => by subst hx; exact ⟨Nat.le_refl _, by show _ < (c.w.heap.push _).size; simp⟩) hi
  refine ⟨.map 1, [], [.mapo kI kI g], .map (some c.w.heap.size), c.new (c.w.alloc (.map es clock)) 1 (.map (some c.w.heap.size)) (fun x => x = c.w.heap.size), ⟨rfl, rfl, rfl⟩, he, rfl, rfl, hfit, ?_⟩
  simp only [CV]
  exact ⟨hnew.2.1, hnew.1.symm, _, rfl⟩
end Go.Proofs.Ytljimnhijpcjaaa.VC
