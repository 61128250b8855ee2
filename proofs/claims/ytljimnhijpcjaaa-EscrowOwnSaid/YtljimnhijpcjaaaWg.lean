/- interval.wide's plus and minus answer as is said. Plain lemmas; no conditions but those that the specifications name. -/
import Derived.Test.YtljimnhijpcjaaaEq
import Derived.Test.YtljimnhijpcjaaaWide
set_option linter.unusedVariables false
set_option linter.unusedSimpArgs false
namespace Go.Proofs.Ytljimnhijpcjaaa.VC
open Go

/-- A call that touches no old memory, of arguments that reach none. -/
theorem done_pure {c : Ctx} (h0 : COk c []) {pre : List Prop} {val : AV} {cv : Value} {w' : World} (hb : RowKit.Below c.w.heap.size c.w w') (hv : CV (c.at w') val cv) : Done c [] false (.det pre [] val [] []) (.returned cv) w' := by
  have noD : ∀ p, ¬ c.D p := fun p hp => absurd ((h0.D p).1 hp) (by simp)
  refine ⟨val, [], [], cv, c.at w', ⟨rfl, rfl, rfl⟩, rfl, rfl, rfl, ⟨fun p => ⟨fun h => .inl h, fun h => h.elim id fun h => absurd h.2 (by simp)⟩, ⟨fun _ h => h, fun _ _ _ => rfl, fun _ _ _ _ => Iff.rfl, fun _ h => h, fun b hb' => hb.block b (h0.im b hb').1, fun p b hp => absurd hp (noD p), fun p hp => by simp [relOf, Con.mods] at hp⟩,
    fun p it h => by simp [Con.mods] at h, fun i it h => by simp at h, fun p b h => by simp [Con.mods] at h, fun p b h1 h2 => absurd h2 (by simp), fun p q b h1 h2 => ?_, fun p b hp => absurd hp (noD p), fun b hb' => ⟨Nat.lt_of_lt_of_le (h0.im b hb').1 hb.size, .inl hb'⟩, fun b p hb' hp => ?_, ⟨hb.os, hb.tape, hb.output, hb.size, fun k hk _ => hb.block k hk⟩⟩, hv⟩
  · rcases h1 with h1 | h1
    · simp [Con.mods] at h1
    · exact absurd h1.2 (by simp)
  · rcases hp with hp | hp
    · simp [Con.mods] at hp
    · exact absurd hp.2 (by simp)

theorem wide_vals {c : Ctx} {h l v : Int} {vals : Array Value} (hv : CVL c [.agg [.int .i64 h, .int .u64 l], .int .i64 v] vals.toList) :
    InR .i64 h ∧ InR .u64 l ∧ InR .i64 v ∧ vals = #[.agg #[.int .i64 h, .int .u64 l], .int .i64 v] := by
  cases hvl : vals.toList with
  | nil => rw [hvl] at hv; exact hv.elim
  | cons x xs =>
    rw [hvl] at hv
    obtain ⟨hx, hxs⟩ := hv
    cases xs with
    | nil => exact hxs.elim
    | cons y ys =>
      obtain ⟨hy, hys⟩ := hxs
      cases ys with
      | cons z zs => exact hys.elim
      | nil =>
        simp only [CV] at hx hy
        obtain ⟨lb, rfl, hlb⟩ := hx
        match lb, hlb with
        | [a, b], ⟨ha, hb, _⟩ =>
          simp only [CV] at ha hb
          refine ⟨ha.1, hb.1, hy.1, ?_⟩
          apply Array.toList_inj.1
          rw [hvl, ha.2, hb.2, hy.2]

theorem plus_wd {h l v : Int} (h1 : -4611686018427387904 ≤ h) (h2 : h ≤ 4611686018427387904) (hl : InR .u64 l) (hv : InR .i64 v) :
    Wide.plusF h l v = (hiW (wval (h, l) + v), loW (wval (h, l) + v)) ∧ InR .i64 (hiW (wval (h, l) + v)) ∧ InR .u64 (loW (wval (h, l) + v)) := by
  rw [inR64] at hv ⊢
  rw [inU64] at hl ⊢
  unfold Wide.plusF Wide.addLo Wide.addHi hiW loW wval
  have w64 : ∀ n : Int, -9223372036854775808 ≤ n → n ≤ 9223372036854775807 → Go.RowKit.wrap64 n = n := fun n a b => by unfold Go.RowKit.wrap64; omega
  rw [u64_wrap]
  simp only
  have hv1 : (v / 9223372036854775808 = -1 ∧ v % 18446744073709551616 = v + 18446744073709551616) ∨ (v / 9223372036854775808 = 0 ∧ v % 18446744073709551616 = v) := by omega
  refine ⟨Prod.ext ?_ ?_, by omega, by omega⟩
  · simp only
    rcases hv1 with ⟨a1, a2⟩ | ⟨a1, a2⟩ <;> rw [a1, a2] <;> rw [w64 (h + _) (by omega) (by omega), w64 (_ / _) (by omega) (by omega), w64 _ (by omega) (by omega)] <;> omega
  · simp only; omega
theorem fn63 : FnOk Try.prog 63 sp63 := by
  refine ⟨Try.call63, fun g c vals hpre h0 hv => ?_⟩
  obtain ⟨⟨h, l⟩, v⟩ := g
  have h1 : -4611686018427387904 ≤ h := hpre _ (List.mem_cons_self ..)
  have h2 : h ≤ 4611686018427387904 := hpre _ (List.mem_cons_of_mem _ (List.mem_cons_self ..))
  obtain ⟨ih, il, iv, rfl⟩ := wide_vals (h := h) (l := l) (v := v) hv
  refine (Wide.plus_any h l v c.w il.1).mono fun e w' ⟨he, hb⟩ => ?_
  obtain ⟨p1, p2, p3⟩ := plus_wd h1 h2 il iv
  rw [he, p1]
  refine done_pure h0 hb ?_
  simp only [CV]
  exact ⟨[_, _], rfl, by simp only [CV]; exact ⟨p2, trivial⟩, by simp only [CV]; exact ⟨p3, trivial⟩, trivial⟩
end Go.Proofs.Ytljimnhijpcjaaa.VC
