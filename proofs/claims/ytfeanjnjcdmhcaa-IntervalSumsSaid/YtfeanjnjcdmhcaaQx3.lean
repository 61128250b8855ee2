/- Written by a program of this session's prover: what functions of the program answer, as Lean functions, and that the calls answer so. Conditions: as each theorem states them. -/
import Derived.Test.YtfeanjnjcdmhcaaQx0
import Derived.Test.YtfeanjnjcdmhcaaQx1
import Derived.Test.YtfeanjnjcdmhcaaQx2
namespace Go.Proofs.Ytfeanjnjcdmhcaa.Q
open Go.RowKit Go.Proofs.YtfeanjnjcdmhcaaW.PrintWords Go.Proofs.YtfeanjnjcdmhcaaW.PrintLast Go.Proofs.YtfeanjnjcdmhcaaW.PrintMore
attribute [local go_sem] max2_int min2_int max_two min_two max_three min_three max_four min_four   -- for this text's walks alone
set_option linter.unusedVariables false
set_option linter.unusedSimpArgs false

attribute [local go_sem high] eqA26
/-! ### quotalaw01_awake: function 9 -/
def quotalaw01_awake.j0 : Nat → Int → Int → Int → Bool → Int → Int → Option (Bool)
  | 0, _, _, _, _, _, _ => none
  | k + 1, x1, x5, x9, x66, x159000, x159001 => if x66 = true then (some false) else ((interval_Check.f 1 0).bind fun t169 => ((quotalaw01_num.f t169).bind fun t170 => (if t170 = 11 then ((interval_Has.f x159000 x159001 3).bind fun t171 => (if t171 = true then ((interval_Within.f x159000 x159001 3 7).bind fun t172 => (if t172 = true then (some false) else (if x1 = 5 then (if x5 = 9223372036854775807 then (if (x159000 == 3 && (x159001 == 8)) = true then (some (x9 == 9223372036854775807)) else (some false)) else (some false)) else (some false)))) else (some false))) else (some false))))
def quotalaw01_awake.f (k : Nat)  : Option (Bool) := (interval_Add.f 2 3).bind fun bt143 => ((interval_Add.f 9223372036854775807 1).bind fun bt145 => ((interval_Sum.f k (([9223372036854775807, 1, (-1)] : List Int))).bind fun bt150 => ((interval_Worst.f k 5 (([3, (-2)] : List Int))).bind fun bt155 => ((interval_Sub.f (-1) (-9223372036854775808)).bind fun bt159 => ((interval_Neg.f (-9223372036854775808)).bind fun bt161 => ((quotalaw01_num.f bt143.2).bind fun t163 => (if t163 = 0 then ((quotalaw01_num.f bt145.2).bind fun t164 => (if t164 = 10 then ((quotalaw01_num.f bt150.2).bind fun t165 => (if t165 = 0 then ((quotalaw01_num.f bt155.2.2).bind fun t166 => (if t166 = 0 then ((quotalaw01_num.f bt159.2).bind fun t167 => (if t167 = 0 then ((quotalaw01_num.f bt161.2).bind fun t168 => (quotalaw01_awake.j0 k bt143.1 bt150.1 bt159.1 (t168 != 10) bt155.1 bt155.2.1)) else (quotalaw01_awake.j0 k bt143.1 bt150.1 bt159.1 true bt155.1 bt155.2.1))) else (quotalaw01_awake.j0 k bt143.1 bt150.1 bt159.1 true bt155.1 bt155.2.1))) else (quotalaw01_awake.j0 k bt143.1 bt150.1 bt159.1 true bt155.1 bt155.2.1))) else (quotalaw01_awake.j0 k bt143.1 bt150.1 bt159.1 true bt155.1 bt155.2.1))) else (quotalaw01_awake.j0 k bt143.1 bt150.1 bt159.1 true bt155.1 bt155.2.1))))))))
theorem quotalaw01_awake.mono_l : ∀ k, (∀ y0 y1 y2 y3 y4 y5, LeO (quotalaw01_awake.j0 k y0 y1 y2 y3 y4 y5) (quotalaw01_awake.j0 (k + 1) y0 y1 y2 y3 y4 y5))
  | 0 => fun _ _ _ _ _ _ r h => by simp [quotalaw01_awake.j0] at h
  | k + 1 => by
    have ih0 := quotalaw01_awake.mono_l k
    · intro y0 y1 y2 y3 y4 y5
      unfold quotalaw01_awake.j0
      repeat' first
      | (with_reducible exact ih0 _ _ _ _ _ _)
      | (with_reducible exact interval_Sum.mono _ _)
      | (with_reducible exact interval_Worst.mono _ _ _)
      | (with_reducible exact LeO.refl _)
      | (with_reducible exact LeO.none _)
      | (with_reducible refine LeO.ite ?_ ?_)
      | (with_reducible refine LeO.bind ?_ (fun _ => ?_))
      | exact ih0 _ _ _ _ _ _
      | exact interval_Sum.mono _ _
      | exact interval_Worst.mono _ _ _
      | exact LeO.none _
      | refine LeO.ite ?_ ?_
      | refine LeO.bind ?_ (fun _ => ?_)
theorem quotalaw01_awake.mono : ∀ k, LeO (quotalaw01_awake.f k ) (quotalaw01_awake.f (k + 1) ) := by
  intro  k
  have ih0 := quotalaw01_awake.mono_l k
  unfold quotalaw01_awake.f
  repeat' first
      | (with_reducible exact ih0 _ _ _ _ _ _)
      | (with_reducible exact interval_Sum.mono _ _)
      | (with_reducible exact interval_Worst.mono _ _ _)
      | (with_reducible exact LeO.refl _)
      | (with_reducible exact LeO.none _)
      | (with_reducible refine LeO.ite ?_ ?_)
      | (with_reducible refine LeO.bind ?_ (fun _ => ?_))
      | exact ih0 _ _ _ _ _ _
      | exact interval_Sum.mono _ _
      | exact interval_Worst.mono _ _ _
      | exact LeO.none _
      | refine LeO.ite ?_ ?_
      | refine LeO.bind ?_ (fun _ => ?_)
set_option maxHeartbeats 8000000 in
set_option maxRecDepth 100000 in
theorem quotalaw01_awake.calls (k : Nat)  (r : Bool) (w : World) (h : quotalaw01_awake.f k  = some r) :
    Calls Try.prog 9 #[] w fun e w' => e = .returned (.bool r) ∧ Below w.heap.size w w' := by
  have hu26 := Try.underlying26
  have HB := Aside0.mk (Below.refl w.heap.size w)
  have H : ((interval_Add.f 2 3).bind fun bt143 => ((interval_Add.f 9223372036854775807 1).bind fun bt145 => ((interval_Sum.f k (([9223372036854775807, 1, (-1)] : List Int))).bind fun bt150 => ((interval_Worst.f k 5 (([3, (-2)] : List Int))).bind fun bt155 => ((interval_Sub.f (-1) (-9223372036854775808)).bind fun bt159 => ((interval_Neg.f (-9223372036854775808)).bind fun bt161 => ((quotalaw01_num.f bt143.2).bind fun t163 => (if t163 = 0 then ((quotalaw01_num.f bt145.2).bind fun t164 => (if t164 = 10 then ((quotalaw01_num.f bt150.2).bind fun t165 => (if t165 = 0 then ((quotalaw01_num.f bt155.2.2).bind fun t166 => (if t166 = 0 then ((quotalaw01_num.f bt159.2).bind fun t167 => (if t167 = 0 then ((quotalaw01_num.f bt161.2).bind fun t168 => (quotalaw01_awake.j0 k bt143.1 bt150.1 bt159.1 (t168 != 10) bt155.1 bt155.2.1)) else (quotalaw01_awake.j0 k bt143.1 bt150.1 bt159.1 true bt155.1 bt155.2.1))) else (quotalaw01_awake.j0 k bt143.1 bt150.1 bt159.1 true bt155.1 bt155.2.1))) else (quotalaw01_awake.j0 k bt143.1 bt150.1 bt159.1 true bt155.1 bt155.2.1))) else (quotalaw01_awake.j0 k bt143.1 bt150.1 bt159.1 true bt155.1 bt155.2.1))) else (quotalaw01_awake.j0 k bt143.1 bt150.1 bt159.1 true bt155.1 bt155.2.1))))))))) = some r := h
  clear h
  replace H := Option.bind_eq_some_iff.mp H
  obtain ⟨⟨t143, t144⟩, A10, H⟩ := H
  replace H : ((interval_Add.f 9223372036854775807 1).bind fun bt145 => ((interval_Sum.f k (([9223372036854775807, 1, (-1)] : List Int))).bind fun bt150 => ((interval_Worst.f k 5 (([3, (-2)] : List Int))).bind fun bt155 => ((interval_Sub.f (-1) (-9223372036854775808)).bind fun bt159 => ((interval_Neg.f (-9223372036854775808)).bind fun bt161 => ((quotalaw01_num.f t144).bind fun t163 => (if t163 = 0 then ((quotalaw01_num.f bt145.2).bind fun t164 => (if t164 = 10 then ((quotalaw01_num.f bt150.2).bind fun t165 => (if t165 = 0 then ((quotalaw01_num.f bt155.2.2).bind fun t166 => (if t166 = 0 then ((quotalaw01_num.f bt159.2).bind fun t167 => (if t167 = 0 then ((quotalaw01_num.f bt161.2).bind fun t168 => (quotalaw01_awake.j0 k t143 bt150.1 bt159.1 (t168 != 10) bt155.1 bt155.2.1)) else (quotalaw01_awake.j0 k t143 bt150.1 bt159.1 true bt155.1 bt155.2.1))) else (quotalaw01_awake.j0 k t143 bt150.1 bt159.1 true bt155.1 bt155.2.1))) else (quotalaw01_awake.j0 k t143 bt150.1 bt159.1 true bt155.1 bt155.2.1))) else (quotalaw01_awake.j0 k t143 bt150.1 bt159.1 true bt155.1 bt155.2.1))) else (quotalaw01_awake.j0 k t143 bt150.1 bt159.1 true bt155.1 bt155.2.1)))))))) = some r := H
  have A1 := Aside0.mk A10
  clear A10
  replace H := Option.bind_eq_some_iff.mp H
  obtain ⟨⟨t145, t146⟩, A20, H⟩ := H
  replace H : ((interval_Sum.f k (([9223372036854775807, 1, (-1)] : List Int))).bind fun bt150 => ((interval_Worst.f k 5 (([3, (-2)] : List Int))).bind fun bt155 => ((interval_Sub.f (-1) (-9223372036854775808)).bind fun bt159 => ((interval_Neg.f (-9223372036854775808)).bind fun bt161 => ((quotalaw01_num.f t144).bind fun t163 => (if t163 = 0 then ((quotalaw01_num.f t146).bind fun t164 => (if t164 = 10 then ((quotalaw01_num.f bt150.2).bind fun t165 => (if t165 = 0 then ((quotalaw01_num.f bt155.2.2).bind fun t166 => (if t166 = 0 then ((quotalaw01_num.f bt159.2).bind fun t167 => (if t167 = 0 then ((quotalaw01_num.f bt161.2).bind fun t168 => (quotalaw01_awake.j0 k t143 bt150.1 bt159.1 (t168 != 10) bt155.1 bt155.2.1)) else (quotalaw01_awake.j0 k t143 bt150.1 bt159.1 true bt155.1 bt155.2.1))) else (quotalaw01_awake.j0 k t143 bt150.1 bt159.1 true bt155.1 bt155.2.1))) else (quotalaw01_awake.j0 k t143 bt150.1 bt159.1 true bt155.1 bt155.2.1))) else (quotalaw01_awake.j0 k t143 bt150.1 bt159.1 true bt155.1 bt155.2.1))) else (quotalaw01_awake.j0 k t143 bt150.1 bt159.1 true bt155.1 bt155.2.1))))))) = some r := H
  have A2 := Aside0.mk A20
  clear A20
  obtain ⟨y147, hy147⟩ : ∃ y_ : List Int, y_ = (([9223372036854775807, 1, (-1)] : List Int)) := ⟨_, rfl⟩
  replace H : ((interval_Sum.f k y147).bind fun bt150 => ((interval_Worst.f k 5 (([3, (-2)] : List Int))).bind fun bt155 => ((interval_Sub.f (-1) (-9223372036854775808)).bind fun bt159 => ((interval_Neg.f (-9223372036854775808)).bind fun bt161 => ((quotalaw01_num.f t144).bind fun t163 => (if t163 = 0 then ((quotalaw01_num.f t146).bind fun t164 => (if t164 = 10 then ((quotalaw01_num.f bt150.2).bind fun t165 => (if t165 = 0 then ((quotalaw01_num.f bt155.2.2).bind fun t166 => (if t166 = 0 then ((quotalaw01_num.f bt159.2).bind fun t167 => (if t167 = 0 then ((quotalaw01_num.f bt161.2).bind fun t168 => (quotalaw01_awake.j0 k t143 bt150.1 bt159.1 (t168 != 10) bt155.1 bt155.2.1)) else (quotalaw01_awake.j0 k t143 bt150.1 bt159.1 true bt155.1 bt155.2.1))) else (quotalaw01_awake.j0 k t143 bt150.1 bt159.1 true bt155.1 bt155.2.1))) else (quotalaw01_awake.j0 k t143 bt150.1 bt159.1 true bt155.1 bt155.2.1))) else (quotalaw01_awake.j0 k t143 bt150.1 bt159.1 true bt155.1 bt155.2.1))) else (quotalaw01_awake.j0 k t143 bt150.1 bt159.1 true bt155.1 bt155.2.1))))))) = some r := by first | (rw [hy147]; with_reducible exact H) | (have H2_ := (Option.bind_some _ _).symm.trans H; rw [hy147]; with_reducible exact H2_) | (have H2_ := (Option.bind_some _ _).symm.trans H; with_reducible exact H2_) | with_reducible exact H | (rw [hy147]; exact H) | exact H
  have Ny147 := Aside0.mk hy147
  clear hy147
  replace H := Option.bind_eq_some_iff.mp H
  obtain ⟨⟨t150, t151⟩, A30, H⟩ := H
  replace H : ((interval_Worst.f k 5 (([3, (-2)] : List Int))).bind fun bt155 => ((interval_Sub.f (-1) (-9223372036854775808)).bind fun bt159 => ((interval_Neg.f (-9223372036854775808)).bind fun bt161 => ((quotalaw01_num.f t144).bind fun t163 => (if t163 = 0 then ((quotalaw01_num.f t146).bind fun t164 => (if t164 = 10 then ((quotalaw01_num.f t151).bind fun t165 => (if t165 = 0 then ((quotalaw01_num.f bt155.2.2).bind fun t166 => (if t166 = 0 then ((quotalaw01_num.f bt159.2).bind fun t167 => (if t167 = 0 then ((quotalaw01_num.f bt161.2).bind fun t168 => (quotalaw01_awake.j0 k t143 t150 bt159.1 (t168 != 10) bt155.1 bt155.2.1)) else (quotalaw01_awake.j0 k t143 t150 bt159.1 true bt155.1 bt155.2.1))) else (quotalaw01_awake.j0 k t143 t150 bt159.1 true bt155.1 bt155.2.1))) else (quotalaw01_awake.j0 k t143 t150 bt159.1 true bt155.1 bt155.2.1))) else (quotalaw01_awake.j0 k t143 t150 bt159.1 true bt155.1 bt155.2.1))) else (quotalaw01_awake.j0 k t143 t150 bt159.1 true bt155.1 bt155.2.1)))))) = some r := H
  have A3 := Aside0.mk A30
  clear A30
  obtain ⟨y152, hy152⟩ : ∃ y_ : List Int, y_ = (([3, (-2)] : List Int)) := ⟨_, rfl⟩
  replace H : ((interval_Worst.f k 5 y152).bind fun bt155 => ((interval_Sub.f (-1) (-9223372036854775808)).bind fun bt159 => ((interval_Neg.f (-9223372036854775808)).bind fun bt161 => ((quotalaw01_num.f t144).bind fun t163 => (if t163 = 0 then ((quotalaw01_num.f t146).bind fun t164 => (if t164 = 10 then ((quotalaw01_num.f t151).bind fun t165 => (if t165 = 0 then ((quotalaw01_num.f bt155.2.2).bind fun t166 => (if t166 = 0 then ((quotalaw01_num.f bt159.2).bind fun t167 => (if t167 = 0 then ((quotalaw01_num.f bt161.2).bind fun t168 => (quotalaw01_awake.j0 k t143 t150 bt159.1 (t168 != 10) bt155.1 bt155.2.1)) else (quotalaw01_awake.j0 k t143 t150 bt159.1 true bt155.1 bt155.2.1))) else (quotalaw01_awake.j0 k t143 t150 bt159.1 true bt155.1 bt155.2.1))) else (quotalaw01_awake.j0 k t143 t150 bt159.1 true bt155.1 bt155.2.1))) else (quotalaw01_awake.j0 k t143 t150 bt159.1 true bt155.1 bt155.2.1))) else (quotalaw01_awake.j0 k t143 t150 bt159.1 true bt155.1 bt155.2.1)))))) = some r := by first | (rw [hy152]; with_reducible exact H) | (have H2_ := (Option.bind_some _ _).symm.trans H; rw [hy152]; with_reducible exact H2_) | (have H2_ := (Option.bind_some _ _).symm.trans H; with_reducible exact H2_) | with_reducible exact H | (rw [hy152]; exact H) | exact H
  have Ny152 := Aside0.mk hy152
  clear hy152
  replace H := Option.bind_eq_some_iff.mp H
  obtain ⟨⟨t155, t156, t157⟩, A40, H⟩ := H
  replace H : ((interval_Sub.f (-1) (-9223372036854775808)).bind fun bt159 => ((interval_Neg.f (-9223372036854775808)).bind fun bt161 => ((quotalaw01_num.f t144).bind fun t163 => (if t163 = 0 then ((quotalaw01_num.f t146).bind fun t164 => (if t164 = 10 then ((quotalaw01_num.f t151).bind fun t165 => (if t165 = 0 then ((quotalaw01_num.f t157).bind fun t166 => (if t166 = 0 then ((quotalaw01_num.f bt159.2).bind fun t167 => (if t167 = 0 then ((quotalaw01_num.f bt161.2).bind fun t168 => (quotalaw01_awake.j0 k t143 t150 bt159.1 (t168 != 10) t155 t156)) else (quotalaw01_awake.j0 k t143 t150 bt159.1 true t155 t156))) else (quotalaw01_awake.j0 k t143 t150 bt159.1 true t155 t156))) else (quotalaw01_awake.j0 k t143 t150 bt159.1 true t155 t156))) else (quotalaw01_awake.j0 k t143 t150 bt159.1 true t155 t156))) else (quotalaw01_awake.j0 k t143 t150 bt159.1 true t155 t156))))) = some r := H
  have A4 := Aside0.mk A40
  clear A40
  replace H := Option.bind_eq_some_iff.mp H
  obtain ⟨⟨t159, t160⟩, A50, H⟩ := H
  replace H : ((interval_Neg.f (-9223372036854775808)).bind fun bt161 => ((quotalaw01_num.f t144).bind fun t163 => (if t163 = 0 then ((quotalaw01_num.f t146).bind fun t164 => (if t164 = 10 then ((quotalaw01_num.f t151).bind fun t165 => (if t165 = 0 then ((quotalaw01_num.f t157).bind fun t166 => (if t166 = 0 then ((quotalaw01_num.f t160).bind fun t167 => (if t167 = 0 then ((quotalaw01_num.f bt161.2).bind fun t168 => (quotalaw01_awake.j0 k t143 t150 t159 (t168 != 10) t155 t156)) else (quotalaw01_awake.j0 k t143 t150 t159 true t155 t156))) else (quotalaw01_awake.j0 k t143 t150 t159 true t155 t156))) else (quotalaw01_awake.j0 k t143 t150 t159 true t155 t156))) else (quotalaw01_awake.j0 k t143 t150 t159 true t155 t156))) else (quotalaw01_awake.j0 k t143 t150 t159 true t155 t156)))) = some r := H
  have A5 := Aside0.mk A50
  clear A50
  replace H := Option.bind_eq_some_iff.mp H
  obtain ⟨⟨t161, t162⟩, A60, H⟩ := H
  replace H : ((quotalaw01_num.f t144).bind fun t163 => (if t163 = 0 then ((quotalaw01_num.f t146).bind fun t164 => (if t164 = 10 then ((quotalaw01_num.f t151).bind fun t165 => (if t165 = 0 then ((quotalaw01_num.f t157).bind fun t166 => (if t166 = 0 then ((quotalaw01_num.f t160).bind fun t167 => (if t167 = 0 then ((quotalaw01_num.f t162).bind fun t168 => (quotalaw01_awake.j0 k t143 t150 t159 (t168 != 10) t155 t156)) else (quotalaw01_awake.j0 k t143 t150 t159 true t155 t156))) else (quotalaw01_awake.j0 k t143 t150 t159 true t155 t156))) else (quotalaw01_awake.j0 k t143 t150 t159 true t155 t156))) else (quotalaw01_awake.j0 k t143 t150 t159 true t155 t156))) else (quotalaw01_awake.j0 k t143 t150 t159 true t155 t156))) = some r := H
  have A6 := Aside0.mk A60
  clear A60
  have HC7 := Aside0.mk H
  clear H
  go_enter Try.func9, Try.ntmps9
  go_upto_region 7 with (first | ((with_reducible refine gate_callee (f := 16) rfl ?_); refine goesL_ (some 14) rfl rfl Try.func16 (by kernel_rfl) rfl #[.int .i64 2, .int .i64 3] rfl (by (try simp only [List.map_toArray, List.map_cons, List.map_nil]); first | done | rfl | (simp only [List.length_drop, List.length_take]; rfl)) ?_; (with_reducible refine (interval_Add.calls 2 3 t143 t144 _ A1.out).mono ?_); rintro e w8 ⟨rfl, hb⟩; refine ⟨_, rfl, ?_⟩; have n0_ := Aside0.mk (below_step (by repeat (first | (with_reducible first | exact HB.out | apply below_alloc | apply pw_below_drewN | apply below_drew1) | exact HB.out)) hb); clear HB; have HB := n0_; clear n0_; (try clear hb); (try clear hb2); (try clear hk); (try clear hi)) | ((with_reducible refine gate_callee (f := 16) rfl ?_); refine goesL_ (some 18) rfl rfl Try.func16 (by kernel_rfl) rfl #[.int .i64 9223372036854775807, .int .i64 1] rfl (by (try simp only [List.map_toArray, List.map_cons, List.map_nil]); first | done | rfl | (simp only [List.length_drop, List.length_take]; rfl)) ?_; (with_reducible refine (interval_Add.calls 9223372036854775807 1 t145 t146 _ A2.out).mono ?_); rintro e w9 ⟨rfl, hb⟩; refine ⟨_, rfl, ?_⟩; have n0_ := Aside0.mk (below_step (by repeat (first | (with_reducible first | exact HB.out | apply below_alloc | apply pw_below_drewN | apply below_drew1) | exact HB.out)) hb); clear HB; have HB := n0_; clear n0_; (try clear hb); (try clear hb2); (try clear hk); (try clear hi)) | ((with_reducible refine gate_dst (N := 22) rfl ?_); refine Kd.R_lit (Kd.int .i64) _ 2 ?hg (N := 22) ?hd (xs := ([9223372036854775807, 1, (-1)] : List Int)) (inner := [.int .i64 9223372036854775807, .int .i64 1, .int .i64 (-1)]) (ok := fun _ => True) (okp := fun _ => True) ?hr ?hp (fun _ hk => hk) trivial (Below.refl _ _) (Nat.le_refl _) (by simp) ?_; (case hd => rfl); (case hg => rfl); (case hr => first | (go_simp; done) | (go_simp; rfl)); (case hp => exact (Reps.one (show Kd.M (Kd.int .i64) _ _ _ 9223372036854775807 [.int .i64 9223372036854775807] from rfl) (Reps.one (show Kd.M (Kd.int .i64) _ _ _ 1 [.int .i64 1] from rfl) (Reps.one (show Kd.M (Kd.int .i64) _ _ _ (-1) [.int .i64 (-1)] from rfl) (Reps.none _ _))))); intro v148 w10 ho11 hb hg_ hnew_; clear hg_ hnew_; (first | rw [← Ny147.out] at ho11 | (simp only [Int.reduceToNat] at ho11; rw [← Ny147.out] at ho11)); have n0_ := Aside0.mk (Kd.R_lower ho11 (below_size (by repeat (first | (with_reducible first | exact HB.out | apply below_alloc | apply pw_below_drewN | apply below_drew1) | exact HB.out)))); have n1_ := Aside0.mk (below_step (by repeat (first | (with_reducible first | exact HB.out | apply below_alloc | apply pw_below_drewN | apply below_drew1) | exact HB.out)) hb); clear HB; have HO149 := n0_; have HB := n1_; clear n0_ n1_; clear hb ho11; obtain ⟨Ao12, co12, eo12⟩ := Kd.R_slice HO149.out; subst eo12) | ((with_reducible refine gate_callee (f := 12) rfl ?_); refine goesL_ (some 23) rfl rfl Try.func12 (by kernel_rfl) rfl #[.slice Ao12 y147.length co12] rfl (by (try simp only [List.map_toArray, List.map_cons, List.map_nil]); first | done | rfl | (simp only [List.length_drop, List.length_take]; rfl)) ?_; (with_reducible refine (interval_Sum.calls k _ _ y147 t150 t151 _ ?side1 ?side2 A3.out).mono ?_); (case side1 => repeat (first | exact (Kd.R_reads' HO149.out).2.2 | (with_reducible refine Kd.C_alloc ?_ _) | (with_reducible refine Kd.C_drewN ?_ _) | (with_reducible refine Kd.C_drew ?_))); (case side2 => exact (Kd.R_reads' HO149.out).2.1); rintro e w13 ⟨rfl, hb⟩; refine ⟨_, rfl, ?_⟩; have n0_ := Aside0.mk (Kd.R_below (by (with_reducible repeat (first | apply Kd.R_alloc | apply Kd.R_drewN | apply Kd.R_drew)); exact HO149.out) hb); have n1_ := Aside0.mk (below_step (by repeat (first | (with_reducible first | exact HB.out | apply below_alloc | apply pw_below_drewN | apply below_drew1) | exact HB.out)) hb); clear HO149; clear HB; have HO149 := n0_; have HB := n1_; clear n0_ n1_; (try clear hb); (try clear hb2); (try clear hk); (try clear hi)) | ((with_reducible refine gate_dst (N := 27) rfl ?_); refine Kd.R_lit (Kd.int .i64) _ 2 ?hg (N := 27) ?hd (xs := ([3, (-2)] : List Int)) (inner := [.int .i64 3, .int .i64 (-2)]) (ok := fun _ => True) (okp := fun _ => True) ?hr ?hp (fun _ hk => hk) trivial (Below.refl _ _) (Nat.le_refl _) (by simp) ?_; (case hd => rfl); (case hg => rfl); (case hr => first | (go_simp; done) | (go_simp; rfl)); (case hp => exact (Reps.one (show Kd.M (Kd.int .i64) _ _ _ 3 [.int .i64 3] from rfl) (Reps.one (show Kd.M (Kd.int .i64) _ _ _ (-2) [.int .i64 (-2)] from rfl) (Reps.none _ _)))); intro v153 w14 ho15 hb hg_ hnew_; clear hg_ hnew_; (first | rw [← Ny152.out] at ho15 | (simp only [Int.reduceToNat] at ho15; rw [← Ny152.out] at ho15)); have n0_ := Aside0.mk (Kd.R_elder' (by (with_reducible repeat (first | apply Kd.R_alloc | apply Kd.R_drewN | apply Kd.R_drew)); exact HO149.out) (Kd.R_base ho15) hb); have n1_ := Aside0.mk (Kd.R_lower (Kd.R_new' ho15 (Kd.R_lt (by (with_reducible repeat (first | apply Kd.R_alloc | apply Kd.R_drewN | apply Kd.R_drew)); exact HO149.out))) (below_size (by repeat (first | (with_reducible first | exact HB.out | apply below_alloc | apply pw_below_drewN | apply below_drew1) | exact HB.out)))); have n2_ := Aside0.mk (below_step (by repeat (first | (with_reducible first | exact HB.out | apply below_alloc | apply pw_below_drewN | apply below_drew1) | exact HB.out)) hb); clear HO149; clear HB; have HO149 := n0_; have HO154 := n1_; have HB := n2_; clear n0_ n1_ n2_; clear hb ho15; obtain ⟨Ao16, co16, eo16⟩ := Kd.R_slice HO154.out; subst eo16) | ((with_reducible refine gate_callee (f := 18) rfl ?_); refine goesL_ (some 28) rfl rfl Try.func18 (by kernel_rfl) rfl #[.int .i64 5, .slice Ao16 y152.length co16] rfl (by (try simp only [List.map_toArray, List.map_cons, List.map_nil]); first | done | rfl | (simp only [List.length_drop, List.length_take]; rfl)) ?_; (with_reducible refine (interval_Worst.calls k 5 _ _ y152 t155 t156 t157 _ ?side1 ?side2 A4.out).mono ?_); (case side1 => repeat (first | exact (Kd.R_reads' HO154.out).2.2 | (with_reducible refine Kd.C_alloc ?_ _) | (with_reducible refine Kd.C_drewN ?_ _) | (with_reducible refine Kd.C_drew ?_))); (case side2 => exact (Kd.R_reads' HO154.out).2.1); rintro e w17 ⟨rfl, hb⟩; refine ⟨_, rfl, ?_⟩; have n0_ := Aside0.mk (Kd.R_below (by (with_reducible repeat (first | apply Kd.R_alloc | apply Kd.R_drewN | apply Kd.R_drew)); exact HO149.out) hb); have n1_ := Aside0.mk (Kd.R_below (by (with_reducible repeat (first | apply Kd.R_alloc | apply Kd.R_drewN | apply Kd.R_drew)); exact HO154.out) hb); have n2_ := Aside0.mk (below_step (by repeat (first | (with_reducible first | exact HB.out | apply below_alloc | apply pw_below_drewN | apply below_drew1) | exact HB.out)) hb); clear HO149; clear HO154; clear HB; have HO149 := n0_; have HO154 := n1_; have HB := n2_; clear n0_ n1_ n2_; (try clear hb); (try clear hb2); (try clear hk); (try clear hi)) | ((with_reducible refine gate_dst (N := 7) rfl ?_); refine box_event ?hg (N := 7) ?hd (cs := #[.int .i64 0, .int .i64 0]) (t := 26) ?hr ?_; (case hd => rfl); (case hg => rfl); (case hr => first | (go_simp; done) | (go_simp; rfl)); intro gb158 hg w18 hbox hb; have n0_ := Aside0.mk (Kd.R_below (by (with_reducible repeat (first | apply Kd.R_alloc | apply Kd.R_drewN | apply Kd.R_drew)); exact HO149.out) hb); have n1_ := Aside0.mk (Kd.R_below (by (with_reducible repeat (first | apply Kd.R_alloc | apply Kd.R_drewN | apply Kd.R_drew)); exact HO154.out) hb); have n2_ := Aside0.mk (below_step (by repeat (first | (with_reducible first | exact HB.out | apply below_alloc | apply pw_below_drewN | apply below_drew1) | exact HB.out)) hb); have n3_ := Aside0.mk (hbox); have n4_ := Aside0.mk ((by rw [hg]; exact (below_size (by repeat (first | (with_reducible first | exact HB.out | apply below_alloc | apply pw_below_drewN | apply below_drew1) | exact HB.out))) : w.heap.size ≤ gb158)); have n5_ := Aside0.mk ((by rw [hg]; exact (below_size (by repeat (first | (with_reducible first | exact HB.out | apply below_alloc | apply pw_below_drewN | apply below_drew1) | exact HB.out))) : w.heap.size ≤ gb158)); clear HO149; clear HO154; clear HB; have HO149 := n0_; have HO154 := n1_; have HB := n2_; have BK158 := n3_; have GW158 := n4_; have GE158 := n5_; clear n0_ n1_ n2_ n3_ n4_ n5_; clear hb hbox hg; have hcz19_0 : w18.cell? ⟨gb158, 0, none⟩ = some (.int .i64 0) := (blk_cell BK158.out 0).trans rfl; have hcz19_1 : w18.cell? ⟨gb158, 1, none⟩ = some (.int .i64 0) := (blk_cell BK158.out 1).trans rfl; have hfz19_0 := blk_frozen BK158.out 0; have hfz19_1 := blk_frozen BK158.out 1) | ((with_reducible refine gate_callee (f := 22) rfl ?_); refine goesL_ (some 32) rfl rfl Try.func22 (by kernel_rfl) rfl #[.int .i64 (-1), .int .i64 (-9223372036854775808)] rfl (by (try simp only [List.map_toArray, List.map_cons, List.map_nil]); first | done | rfl | (simp only [List.length_drop, List.length_take]; rfl)) ?_; (with_reducible refine (interval_Sub.calls (-1) (-9223372036854775808) t159 t160 _ A5.out).mono ?_); rintro e w20 ⟨rfl, hb⟩; refine ⟨_, rfl, ?_⟩; have n0_ := Aside0.mk (Kd.R_below (by (with_reducible repeat (first | apply Kd.R_alloc | apply Kd.R_drewN | apply Kd.R_drew)); exact (Kd.R_mono (Kd.R_far (p := ⟨gb158, 1, none⟩) (Kd.R_far (p := ⟨gb158, 0, none⟩) (Kd.R_types HO149.out BK158.out (by decide)) (fun _ hk => hk.2) (.int .i64 t155)) (fun _ hk => hk.2) (.int .i64 t156)) (fun _ h_ => h_.1))) hb); have n1_ := Aside0.mk (Kd.R_below (by (with_reducible repeat (first | apply Kd.R_alloc | apply Kd.R_drewN | apply Kd.R_drew)); exact (Kd.R_mono (Kd.R_far (p := ⟨gb158, 1, none⟩) (Kd.R_far (p := ⟨gb158, 0, none⟩) (Kd.R_types HO154.out BK158.out (by decide)) (fun _ hk => hk.2) (.int .i64 t155)) (fun _ hk => hk.2) (.int .i64 t156)) (fun _ h_ => h_.1))) hb); have n2_ := Aside0.mk (blk_below (g := gb158) (o := .cells #[.int .i64 t155, .int .i64 t156] 26 (0, 0)) (by (with_reducible repeat (first | refine blk_drewN ?_ _ | refine blk_drew ?_ | refine blk_alloc ?_ _)); refine blk_put (cs := #[.int .i64 t155, .int .i64 0]) ?_ 1 _ rfl; (with_reducible repeat (first | refine blk_drewN ?_ _ | refine blk_drew ?_ | refine blk_alloc ?_ _)); refine blk_put (cs := #[.int .i64 0, .int .i64 0]) ?_ 0 _ rfl; (with_reducible repeat (first | refine blk_drewN ?_ _ | refine blk_drew ?_ | refine blk_alloc ?_ _)); exact BK158.out) hb); have n3_ := Aside0.mk (below_step (by repeat (first | (with_reducible first | exact HB.out | apply below_alloc | apply pw_below_drewN | apply below_drew1 | refine below_set ?_ GE158.out) | exact HB.out)) hb); clear HO149; clear HO154; clear BK158; clear HB; have HO149 := n0_; have HO154 := n1_; have BK158 := n2_; have HB := n3_; clear n0_ n1_ n2_ n3_; (try clear hb); (try clear hb2); (try clear hk); (try clear hi)) | ((with_reducible refine gate_callee (f := 17) rfl ?_); refine goesL_ (some 36) rfl rfl Try.func17 (by kernel_rfl) rfl #[.int .i64 (-9223372036854775808)] rfl (by (try simp only [List.map_toArray, List.map_cons, List.map_nil]); first | done | rfl | (simp only [List.length_drop, List.length_take]; rfl)) ?_; (with_reducible refine (interval_Neg.calls (-9223372036854775808) t161 t162 _ A6.out).mono ?_); rintro e w21 ⟨rfl, hb⟩; refine ⟨_, rfl, ?_⟩; have n0_ := Aside0.mk (Kd.R_below (by (with_reducible repeat (first | apply Kd.R_alloc | apply Kd.R_drewN | apply Kd.R_drew)); exact HO149.out) hb); have n1_ := Aside0.mk (Kd.R_below (by (with_reducible repeat (first | apply Kd.R_alloc | apply Kd.R_drewN | apply Kd.R_drew)); exact HO154.out) hb); have n2_ := Aside0.mk (blk_below (g := gb158) (o := .cells #[.int .i64 t155, .int .i64 t156] 26 (0, 0)) (by (with_reducible repeat (first | refine blk_drewN ?_ _ | refine blk_drew ?_ | refine blk_alloc ?_ _)); exact BK158.out) hb); have n3_ := Aside0.mk (below_step (by repeat (first | (with_reducible first | exact HB.out | apply below_alloc | apply pw_below_drewN | apply below_drew1 | refine below_set ?_ GE158.out) | exact HB.out)) hb); clear HO149; clear HO154; clear BK158; clear HB; have HO149 := n0_; have HO154 := n1_; have BK158 := n2_; have HB := n3_; clear n0_ n1_ n2_ n3_; (try clear hb); (try clear hb2); (try clear hk); (try clear hi)))
  (try simp only [Act.put, List.setIfInBounds_toArray, List.set_cons_zero, List.set_cons_succ])
  go_cut [66] (fun v66 wc => ∃ (kq : Nat) (x66_6 : Bool), v66 = .bool x66_6 ∧ Aside0 (quotalaw01_awake.j0 kq t143 t150 t159 x66_6 t155 t156 = some r) ∧ Aside0 (kq ≤ k) ∧ Aside0 (wc.heap[gb158]? = some (.cells #[.int .i64 t155, .int .i64 t156] 26 (0, 0))) ∧ Aside0 (Below w.heap.size w wc))
  case first =>
    have H := HC7.out
    clear HC7
    replace H := Option.bind_eq_some_iff.mp H
    obtain ⟨t163, A220, H⟩ := H
    replace H : (if t163 = 0 then ((quotalaw01_num.f t146).bind fun t164 => (if t164 = 10 then ((quotalaw01_num.f t151).bind fun t165 => (if t165 = 0 then ((quotalaw01_num.f t157).bind fun t166 => (if t166 = 0 then ((quotalaw01_num.f t160).bind fun t167 => (if t167 = 0 then ((quotalaw01_num.f t162).bind fun t168 => (quotalaw01_awake.j0 k t143 t150 t159 (t168 != 10) t155 t156)) else (quotalaw01_awake.j0 k t143 t150 t159 true t155 t156))) else (quotalaw01_awake.j0 k t143 t150 t159 true t155 t156))) else (quotalaw01_awake.j0 k t143 t150 t159 true t155 t156))) else (quotalaw01_awake.j0 k t143 t150 t159 true t155 t156))) else (quotalaw01_awake.j0 k t143 t150 t159 true t155 t156)) = some r := H
    have A22 := Aside0.mk A220
    clear A220
    by_cases c23 : t163 = 0
    · rw [if_pos c23] at H
      have c23b0 : (t163 == 0) = true := beq_iff_eq.mpr c23
      have c23b1 : (t163 != 0) = false := bne_eq_false_iff_eq.mpr c23
      clear c23
      (first | rw [c23b0] | (simp only [i64_w, i32_w]; rw [c23b0]) | skip)
      replace H := Option.bind_eq_some_iff.mp H
      obtain ⟨t164, A240, H⟩ := H
      replace H : (if t164 = 10 then ((quotalaw01_num.f t151).bind fun t165 => (if t165 = 0 then ((quotalaw01_num.f t157).bind fun t166 => (if t166 = 0 then ((quotalaw01_num.f t160).bind fun t167 => (if t167 = 0 then ((quotalaw01_num.f t162).bind fun t168 => (quotalaw01_awake.j0 k t143 t150 t159 (t168 != 10) t155 t156)) else (quotalaw01_awake.j0 k t143 t150 t159 true t155 t156))) else (quotalaw01_awake.j0 k t143 t150 t159 true t155 t156))) else (quotalaw01_awake.j0 k t143 t150 t159 true t155 t156))) else (quotalaw01_awake.j0 k t143 t150 t159 true t155 t156)) = some r := H
      have A24 := Aside0.mk A240
      clear A240
      by_cases c25 : t164 = 10
      · rw [if_pos c25] at H
        have c25b0 : (t164 == 10) = true := beq_iff_eq.mpr c25
        have c25b1 : (t164 != 10) = false := bne_eq_false_iff_eq.mpr c25
        clear c25
        replace H := Option.bind_eq_some_iff.mp H
        obtain ⟨t165, A260, H⟩ := H
        replace H : (if t165 = 0 then ((quotalaw01_num.f t157).bind fun t166 => (if t166 = 0 then ((quotalaw01_num.f t160).bind fun t167 => (if t167 = 0 then ((quotalaw01_num.f t162).bind fun t168 => (quotalaw01_awake.j0 k t143 t150 t159 (t168 != 10) t155 t156)) else (quotalaw01_awake.j0 k t143 t150 t159 true t155 t156))) else (quotalaw01_awake.j0 k t143 t150 t159 true t155 t156))) else (quotalaw01_awake.j0 k t143 t150 t159 true t155 t156)) = some r := H
        have A26 := Aside0.mk A260
        clear A260
        by_cases c27 : t165 = 0
        · rw [if_pos c27] at H
          have c27b0 : (t165 == 0) = true := beq_iff_eq.mpr c27
          have c27b1 : (t165 != 0) = false := bne_eq_false_iff_eq.mpr c27
          clear c27
          replace H := Option.bind_eq_some_iff.mp H
          obtain ⟨t166, A280, H⟩ := H
          replace H : (if t166 = 0 then ((quotalaw01_num.f t160).bind fun t167 => (if t167 = 0 then ((quotalaw01_num.f t162).bind fun t168 => (quotalaw01_awake.j0 k t143 t150 t159 (t168 != 10) t155 t156)) else (quotalaw01_awake.j0 k t143 t150 t159 true t155 t156))) else (quotalaw01_awake.j0 k t143 t150 t159 true t155 t156)) = some r := H
          have A28 := Aside0.mk A280
          clear A280
          by_cases c29 : t166 = 0
          · rw [if_pos c29] at H
            have c29b0 : (t166 == 0) = true := beq_iff_eq.mpr c29
            have c29b1 : (t166 != 0) = false := bne_eq_false_iff_eq.mpr c29
            clear c29
            replace H := Option.bind_eq_some_iff.mp H
            obtain ⟨t167, A300, H⟩ := H
            replace H : (if t167 = 0 then ((quotalaw01_num.f t162).bind fun t168 => (quotalaw01_awake.j0 k t143 t150 t159 (t168 != 10) t155 t156)) else (quotalaw01_awake.j0 k t143 t150 t159 true t155 t156)) = some r := H
            have A30 := Aside0.mk A300
            clear A300
            by_cases c31 : t167 = 0
            · rw [if_pos c31] at H
              have c31b0 : (t167 == 0) = true := beq_iff_eq.mpr c31
              have c31b1 : (t167 != 0) = false := bne_eq_false_iff_eq.mpr c31
              clear c31
              replace H := Option.bind_eq_some_iff.mp H
              obtain ⟨t168, A320, H⟩ := H
              replace H : (quotalaw01_awake.j0 k t143 t150 t159 (t168 != 10) t155 t156) = some r := H
              have A32 := Aside0.mk A320
              clear A320
              have H' := Aside0.mk H
              clear H
              go_wp2_with (first | ((with_reducible refine gate_callee (f := 14) rfl ?_); refine goesL_ (some 40) rfl rfl Try.func14 (by kernel_rfl) rfl #[.int .i64 t144] rfl (by (try simp only [List.map_toArray, List.map_cons, List.map_nil]); first | done | rfl | (simp only [List.length_drop, List.length_take]; rfl)) ?_; (with_reducible refine (quotalaw01_num.calls t144 t163 _ A22.out).mono ?_); rintro e w' ⟨rfl, ⟨nd, rfl⟩⟩; refine ⟨_, rfl, ?_⟩) | (go_at_call 14; (with_reducible refine (quotalaw01_num.calls t146 t164 _ A24.out).mono ?_); rintro e w' ⟨rfl, ⟨nd, rfl⟩⟩) | (go_at_call 14; (with_reducible refine (quotalaw01_num.calls t151 t165 _ A26.out).mono ?_); rintro e w' ⟨rfl, ⟨nd, rfl⟩⟩) | (go_at_call 14; (with_reducible refine (quotalaw01_num.calls t157 t166 _ A28.out).mono ?_); rintro e w' ⟨rfl, ⟨nd, rfl⟩⟩) | (go_at_call 14; (with_reducible refine (quotalaw01_num.calls t160 t167 _ A30.out).mono ?_); rintro e w' ⟨rfl, ⟨nd, rfl⟩⟩) | (go_at_call 14; (with_reducible refine (quotalaw01_num.calls t162 t168 _ A32.out).mono ?_); rintro e w' ⟨rfl, ⟨nd, rfl⟩⟩))
              go_meet
              case rel => exact ⟨_, ((t168 != 10)), (by first | rfl | (simp; done) | (simp [*]; done)), H', ⟨by first | omega | exact Nat.le_refl _⟩, ⟨by (with_reducible repeat (first | refine blk_drewN ?_ _ | refine blk_drew ?_ | refine blk_alloc ?_ _)); exact BK158.out⟩, ⟨by repeat (first | (with_reducible first | exact HB.out | apply below_alloc | apply pw_below_drewN | apply below_drew1 | refine below_set ?_ GE158.out) | exact HB.out)⟩⟩
            · rw [if_neg c31] at H
              have c31b0 : (t167 == 0) = false := beq_eq_false_iff_ne.mpr c31
              have c31b1 : (t167 != 0) = true := bne_iff_ne.mpr c31
              have H' := Aside0.mk H
              clear H
              go_wp2_with (first | ((with_reducible refine gate_callee (f := 14) rfl ?_); refine goesL_ (some 40) rfl rfl Try.func14 (by kernel_rfl) rfl #[.int .i64 t144] rfl (by (try simp only [List.map_toArray, List.map_cons, List.map_nil]); first | done | rfl | (simp only [List.length_drop, List.length_take]; rfl)) ?_; (with_reducible refine (quotalaw01_num.calls t144 t163 _ A22.out).mono ?_); rintro e w' ⟨rfl, ⟨nd, rfl⟩⟩; refine ⟨_, rfl, ?_⟩) | (go_at_call 14; (with_reducible refine (quotalaw01_num.calls t146 t164 _ A24.out).mono ?_); rintro e w' ⟨rfl, ⟨nd, rfl⟩⟩) | (go_at_call 14; (with_reducible refine (quotalaw01_num.calls t151 t165 _ A26.out).mono ?_); rintro e w' ⟨rfl, ⟨nd, rfl⟩⟩) | (go_at_call 14; (with_reducible refine (quotalaw01_num.calls t157 t166 _ A28.out).mono ?_); rintro e w' ⟨rfl, ⟨nd, rfl⟩⟩) | (go_at_call 14; (with_reducible refine (quotalaw01_num.calls t160 t167 _ A30.out).mono ?_); rintro e w' ⟨rfl, ⟨nd, rfl⟩⟩))
              go_meet
              case rel => exact ⟨_, (true), (by first | rfl | (simp; done) | (simp [*]; done)), H', ⟨by first | omega | exact Nat.le_refl _⟩, ⟨by (with_reducible repeat (first | refine blk_drewN ?_ _ | refine blk_drew ?_ | refine blk_alloc ?_ _)); exact BK158.out⟩, ⟨by repeat (first | (with_reducible first | exact HB.out | apply below_alloc | apply pw_below_drewN | apply below_drew1 | refine below_set ?_ GE158.out) | exact HB.out)⟩⟩
          · rw [if_neg c29] at H
            have c29b0 : (t166 == 0) = false := beq_eq_false_iff_ne.mpr c29
            have c29b1 : (t166 != 0) = true := bne_iff_ne.mpr c29
            have H' := Aside0.mk H
            clear H
            go_wp2_with (first | ((with_reducible refine gate_callee (f := 14) rfl ?_); refine goesL_ (some 40) rfl rfl Try.func14 (by kernel_rfl) rfl #[.int .i64 t144] rfl (by (try simp only [List.map_toArray, List.map_cons, List.map_nil]); first | done | rfl | (simp only [List.length_drop, List.length_take]; rfl)) ?_; (with_reducible refine (quotalaw01_num.calls t144 t163 _ A22.out).mono ?_); rintro e w' ⟨rfl, ⟨nd, rfl⟩⟩; refine ⟨_, rfl, ?_⟩) | (go_at_call 14; (with_reducible refine (quotalaw01_num.calls t146 t164 _ A24.out).mono ?_); rintro e w' ⟨rfl, ⟨nd, rfl⟩⟩) | (go_at_call 14; (with_reducible refine (quotalaw01_num.calls t151 t165 _ A26.out).mono ?_); rintro e w' ⟨rfl, ⟨nd, rfl⟩⟩) | (go_at_call 14; (with_reducible refine (quotalaw01_num.calls t157 t166 _ A28.out).mono ?_); rintro e w' ⟨rfl, ⟨nd, rfl⟩⟩))
            go_meet
            case rel => exact ⟨_, (true), (by first | rfl | (simp; done) | (simp [*]; done)), H', ⟨by first | omega | exact Nat.le_refl _⟩, ⟨by (with_reducible repeat (first | refine blk_drewN ?_ _ | refine blk_drew ?_ | refine blk_alloc ?_ _)); exact BK158.out⟩, ⟨by repeat (first | (with_reducible first | exact HB.out | apply below_alloc | apply pw_below_drewN | apply below_drew1 | refine below_set ?_ GE158.out) | exact HB.out)⟩⟩
        · rw [if_neg c27] at H
          have c27b0 : (t165 == 0) = false := beq_eq_false_iff_ne.mpr c27
          have c27b1 : (t165 != 0) = true := bne_iff_ne.mpr c27
          have H' := Aside0.mk H
          clear H
          go_wp2_with (first | ((with_reducible refine gate_callee (f := 14) rfl ?_); refine goesL_ (some 40) rfl rfl Try.func14 (by kernel_rfl) rfl #[.int .i64 t144] rfl (by (try simp only [List.map_toArray, List.map_cons, List.map_nil]); first | done | rfl | (simp only [List.length_drop, List.length_take]; rfl)) ?_; (with_reducible refine (quotalaw01_num.calls t144 t163 _ A22.out).mono ?_); rintro e w' ⟨rfl, ⟨nd, rfl⟩⟩; refine ⟨_, rfl, ?_⟩) | (go_at_call 14; (with_reducible refine (quotalaw01_num.calls t146 t164 _ A24.out).mono ?_); rintro e w' ⟨rfl, ⟨nd, rfl⟩⟩) | (go_at_call 14; (with_reducible refine (quotalaw01_num.calls t151 t165 _ A26.out).mono ?_); rintro e w' ⟨rfl, ⟨nd, rfl⟩⟩))
          go_meet
          case rel => exact ⟨_, (true), (by first | rfl | (simp; done) | (simp [*]; done)), H', ⟨by first | omega | exact Nat.le_refl _⟩, ⟨by (with_reducible repeat (first | refine blk_drewN ?_ _ | refine blk_drew ?_ | refine blk_alloc ?_ _)); exact BK158.out⟩, ⟨by repeat (first | (with_reducible first | exact HB.out | apply below_alloc | apply pw_below_drewN | apply below_drew1 | refine below_set ?_ GE158.out) | exact HB.out)⟩⟩
      · rw [if_neg c25] at H
        have c25b0 : (t164 == 10) = false := beq_eq_false_iff_ne.mpr c25
        have c25b1 : (t164 != 10) = true := bne_iff_ne.mpr c25
        have H' := Aside0.mk H
        clear H
        go_wp2_with (first | ((with_reducible refine gate_callee (f := 14) rfl ?_); refine goesL_ (some 40) rfl rfl Try.func14 (by kernel_rfl) rfl #[.int .i64 t144] rfl (by (try simp only [List.map_toArray, List.map_cons, List.map_nil]); first | done | rfl | (simp only [List.length_drop, List.length_take]; rfl)) ?_; (with_reducible refine (quotalaw01_num.calls t144 t163 _ A22.out).mono ?_); rintro e w' ⟨rfl, ⟨nd, rfl⟩⟩; refine ⟨_, rfl, ?_⟩) | (go_at_call 14; (with_reducible refine (quotalaw01_num.calls t146 t164 _ A24.out).mono ?_); rintro e w' ⟨rfl, ⟨nd, rfl⟩⟩))
        go_meet
        case rel => exact ⟨_, (true), (by first | rfl | (simp; done) | (simp [*]; done)), H', ⟨by first | omega | exact Nat.le_refl _⟩, ⟨by (with_reducible repeat (first | refine blk_drewN ?_ _ | refine blk_drew ?_ | refine blk_alloc ?_ _)); exact BK158.out⟩, ⟨by repeat (first | (with_reducible first | exact HB.out | apply below_alloc | apply pw_below_drewN | apply below_drew1 | refine below_set ?_ GE158.out) | exact HB.out)⟩⟩
    · rw [if_neg c23] at H
      have c23b0 : (t163 == 0) = false := beq_eq_false_iff_ne.mpr c23
      have c23b1 : (t163 != 0) = true := bne_iff_ne.mpr c23
      (first | rw [c23b0] | (simp only [i64_w, i32_w]; rw [c23b0]) | skip)
      have H' := Aside0.mk H
      clear H
      go_wp2_with (first | ((with_reducible refine gate_callee (f := 14) rfl ?_); refine goesL_ (some 40) rfl rfl Try.func14 (by kernel_rfl) rfl #[.int .i64 t144] rfl (by (try simp only [List.map_toArray, List.map_cons, List.map_nil]); first | done | rfl | (simp only [List.length_drop, List.length_take]; rfl)) ?_; (with_reducible refine (quotalaw01_num.calls t144 t163 _ A22.out).mono ?_); rintro e w' ⟨rfl, ⟨nd, rfl⟩⟩; refine ⟨_, rfl, ?_⟩))
      go_meet
      case rel => exact ⟨_, (true), (by first | rfl | (simp; done) | (simp [*]; done)), H', ⟨by first | omega | exact Nat.le_refl _⟩, ⟨by (with_reducible repeat (first | refine blk_drewN ?_ _ | refine blk_drew ?_ | refine blk_alloc ?_ _)); exact BK158.out⟩, ⟨by repeat (first | (with_reducible first | exact HB.out | apply below_alloc | apply pw_below_drewN | apply below_drew1 | refine below_set ?_ GE158.out) | exact HB.out)⟩⟩
  case rest =>
    clear HC7
    try clear c1
    try clear c2
    try clear p2
    try clear c3
    try clear c9
    try clear c12
    try clear c14
    try clear c16
    try clear c17
    try clear c18
    try clear c22
    try clear c23
    try clear c23b0
    try clear c23b1
    try clear c25
    try clear c25b0
    try clear c25b1
    try clear c27
    try clear c27b0
    try clear c27b1
    try clear c29
    try clear c29b0
    try clear c29b1
    try clear c31
    try clear c31b0
    try clear c31b1
    try clear hcz19_0
    try clear hcz19_1
    try clear hfz19_0
    try clear hfz19_1
    obtain ⟨kq, x66_6, rfl, HA, HJ6, BK158, HB⟩ := hcut
    cases kq with
    | zero => exact absurd HA.out (by simp [quotalaw01_awake.j0])
    | succ kj6 =>
      have H := HA.out
      clear HA
      simp only [quotalaw01_awake.j0] at H
      by_cases c33 : x66_6 = true
      · subst c33
        have H1 : (some false) = some r := by rw [if_pos rfl] at H; exact H
        clear H
        have H := H1
        clear H1
        obtain rfl := Option.some.inj H
        go_wp2
        go_ret
        exact ⟨by first | rfl | (simp [errW_none, errW_some] <;> rfl) | (simp [*, errW_none, errW_some] <;> rfl), by repeat (first | (with_reducible first | exact HB.out | apply below_alloc | apply pw_below_drewN | apply below_drew1 | refine below_set ?_ GE158.out) | exact HB.out)⟩
      · replace c33 := Bool.eq_false_iff.mpr c33
        subst c33
        have H1 : ((interval_Check.f 1 0).bind fun t169 => ((quotalaw01_num.f t169).bind fun t170 => (if t170 = 11 then ((interval_Has.f t155 t156 3).bind fun t171 => (if t171 = true then ((interval_Within.f t155 t156 3 7).bind fun t172 => (if t172 = true then (some false) else (if t143 = 5 then (if t150 = 9223372036854775807 then (if (t155 == 3 && (t156 == 8)) = true then (some (t159 == 9223372036854775807)) else (some false)) else (some false)) else (some false)))) else (some false))) else (some false)))) = some r := by rw [if_neg (show ¬ (false = true) by decide)] at H; exact H
        clear H
        have H := H1
        clear H1
        replace H := Option.bind_eq_some_iff.mp H
        obtain ⟨t169, A340, H⟩ := H
        replace H : ((quotalaw01_num.f t169).bind fun t170 => (if t170 = 11 then ((interval_Has.f t155 t156 3).bind fun t171 => (if t171 = true then ((interval_Within.f t155 t156 3 7).bind fun t172 => (if t172 = true then (some false) else (if t143 = 5 then (if t150 = 9223372036854775807 then (if (t155 == 3 && (t156 == 8)) = true then (some (t159 == 9223372036854775807)) else (some false)) else (some false)) else (some false)))) else (some false))) else (some false))) = some r := H
        have A34 := Aside0.mk A340
        clear A340
        replace H := Option.bind_eq_some_iff.mp H
        obtain ⟨t170, A350, H⟩ := H
        replace H : (if t170 = 11 then ((interval_Has.f t155 t156 3).bind fun t171 => (if t171 = true then ((interval_Within.f t155 t156 3 7).bind fun t172 => (if t172 = true then (some false) else (if t143 = 5 then (if t150 = 9223372036854775807 then (if (t155 == 3 && (t156 == 8)) = true then (some (t159 == 9223372036854775807)) else (some false)) else (some false)) else (some false)))) else (some false))) else (some false)) = some r := H
        have A35 := Aside0.mk A350
        clear A350
        by_cases c36 : t170 = 11
        · rw [if_pos c36] at H
          have c36b0 : (t170 == 11) = true := beq_iff_eq.mpr c36
          have c36b1 : (t170 != 11) = false := bne_eq_false_iff_eq.mpr c36
          clear c36
          replace H := Option.bind_eq_some_iff.mp H
          obtain ⟨t171, A370, H⟩ := H
          replace H : (if t171 = true then ((interval_Within.f t155 t156 3 7).bind fun t172 => (if t172 = true then (some false) else (if t143 = 5 then (if t150 = 9223372036854775807 then (if (t155 == 3 && (t156 == 8)) = true then (some (t159 == 9223372036854775807)) else (some false)) else (some false)) else (some false)))) else (some false)) = some r := H
          have A37 := Aside0.mk A370
          clear A370
          by_cases c38 : t171 = true
          · subst c38
            have H1 : ((interval_Within.f t155 t156 3 7).bind fun t172 => (if t172 = true then (some false) else (if t143 = 5 then (if t150 = 9223372036854775807 then (if (t155 == 3 && (t156 == 8)) = true then (some (t159 == 9223372036854775807)) else (some false)) else (some false)) else (some false)))) = some r := by rw [if_pos rfl] at H; exact H
            clear H
            have H := H1
            clear H1
            replace H := Option.bind_eq_some_iff.mp H
            obtain ⟨t172, A390, H⟩ := H
            replace H : (if t172 = true then (some false) else (if t143 = 5 then (if t150 = 9223372036854775807 then (if (t155 == 3 && (t156 == 8)) = true then (some (t159 == 9223372036854775807)) else (some false)) else (some false)) else (some false))) = some r := H
            have A39 := Aside0.mk A390
            clear A390
            by_cases c40 : t172 = true
            · subst c40
              have H1 : (some false) = some r := by rw [if_pos rfl] at H; exact H
              clear H
              have H := H1
              clear H1
              obtain rfl := Option.some.inj H
              go_wp2_with (first | ((with_reducible refine gate_callee (f := 19) rfl ?_); refine goesL_ (some 68) rfl rfl Try.func19 (by kernel_rfl) rfl #[.agg #[.int .i64 1, .int .i64 0]] rfl (by (try simp only [List.map_toArray, List.map_cons, List.map_nil]); first | done | rfl | (simp only [List.length_drop, List.length_take]; rfl)) ?_; (with_reducible refine (interval_Check.calls 1 0 t169 _ A34.out).mono ?_); rintro e w41 ⟨rfl, hb⟩; refine ⟨_, rfl, ?_⟩; have n0_ := Aside0.mk (blk_below (g := gb158) (o := .cells #[.int .i64 t155, .int .i64 t156] 26 (0, 0)) (by (with_reducible repeat (first | refine blk_drewN ?_ _ | refine blk_drew ?_ | refine blk_alloc ?_ _)); exact BK158.out) hb); have n1_ := Aside0.mk (below_step (by repeat (first | (with_reducible first | exact HB.out | apply below_alloc | apply pw_below_drewN | apply below_drew1 | refine below_set ?_ GE158.out) | exact HB.out)) hb); clear BK158; clear HB; have BK158 := n0_; have HB := n1_; clear n0_ n1_; (try clear hb); (try clear hb2); (try clear hk); (try clear hi)) | ((with_reducible refine gate_callee (f := 14) rfl ?_); refine goesL_ (some 69) rfl rfl Try.func14 (by kernel_rfl) rfl #[.int .i64 t169] rfl (by (try simp only [List.map_toArray, List.map_cons, List.map_nil]); first | done | rfl | (simp only [List.length_drop, List.length_take]; rfl)) ?_; (with_reducible refine (quotalaw01_num.calls t169 t170 _ A35.out).mono ?_); rintro e w' ⟨rfl, ⟨nd, rfl⟩⟩; refine ⟨_, rfl, ?_⟩; have hcz42_0 : w41.cell? ⟨gb158, 0, none⟩ = some (.int .i64 t155) := (blk_cell BK158.out 0).trans rfl; have hcz42_1 : w41.cell? ⟨gb158, 1, none⟩ = some (.int .i64 t156) := (blk_cell BK158.out 1).trans rfl; have hfz42_0 := blk_frozen BK158.out 0; have hfz42_1 := blk_frozen BK158.out 1) | (go_at_call 20; (with_reducible refine (interval_Has.calls t155 t156 3 true _ A37.out).mono ?_); rintro e w43 ⟨rfl, hb⟩; have n0_ := Aside0.mk (blk_below (g := gb158) (o := .cells #[.int .i64 t155, .int .i64 t156] 26 (0, 0)) (by (with_reducible repeat (first | refine blk_drewN ?_ _ | refine blk_drew ?_ | refine blk_alloc ?_ _)); exact BK158.out) hb); have n1_ := Aside0.mk (below_step (by repeat (first | (with_reducible first | exact HB.out | apply below_alloc | apply pw_below_drewN | apply below_drew1 | refine below_set ?_ GE158.out) | exact HB.out)) hb); clear BK158; clear HB; have BK158 := n0_; have HB := n1_; clear n0_ n1_; (try clear hb); (try clear hb2); (try clear hk); (try clear hi); have hcz44_0 : w43.cell? ⟨gb158, 0, none⟩ = some (.int .i64 t155) := (blk_cell BK158.out 0).trans rfl; have hcz44_1 : w43.cell? ⟨gb158, 1, none⟩ = some (.int .i64 t156) := (blk_cell BK158.out 1).trans rfl; have hfz44_0 := blk_frozen BK158.out 0; have hfz44_1 := blk_frozen BK158.out 1) | (go_at_call 21; (with_reducible refine (interval_Within.calls t155 t156 3 7 true _ A39.out).mono ?_); rintro e w45 ⟨rfl, hb⟩; have n0_ := Aside0.mk (blk_below (g := gb158) (o := .cells #[.int .i64 t155, .int .i64 t156] 26 (0, 0)) (by (with_reducible repeat (first | refine blk_drewN ?_ _ | refine blk_drew ?_ | refine blk_alloc ?_ _)); exact BK158.out) hb); have n1_ := Aside0.mk (below_step (by repeat (first | (with_reducible first | exact HB.out | apply below_alloc | apply pw_below_drewN | apply below_drew1 | refine below_set ?_ GE158.out) | exact HB.out)) hb); clear BK158; clear HB; have BK158 := n0_; have HB := n1_; clear n0_ n1_; (try clear hb); (try clear hb2); (try clear hk); (try clear hi)))
              go_ret
              exact ⟨by first | rfl | (simp [errW_none, errW_some] <;> rfl) | (simp [*, errW_none, errW_some] <;> rfl), by repeat (first | (with_reducible first | exact HB.out | apply below_alloc | apply pw_below_drewN | apply below_drew1 | refine below_set ?_ GE158.out) | exact HB.out)⟩
            · replace c40 := Bool.eq_false_iff.mpr c40
              subst c40
              have H1 : (if t143 = 5 then (if t150 = 9223372036854775807 then (if (t155 == 3 && (t156 == 8)) = true then (some (t159 == 9223372036854775807)) else (some false)) else (some false)) else (some false)) = some r := by rw [if_neg (show ¬ (false = true) by decide)] at H; exact H
              clear H
              have H := H1
              clear H1
              by_cases c46 : t143 = 5
              · rw [if_pos c46] at H
                have c46b0 : (t143 == 5) = true := beq_iff_eq.mpr c46
                have c46b1 : (t143 != 5) = false := bne_eq_false_iff_eq.mpr c46
                clear c46
                by_cases c47 : t150 = 9223372036854775807
                · rw [if_pos c47] at H
                  have c47b0 : (t150 == 9223372036854775807) = true := beq_iff_eq.mpr c47
                  have c47b1 : (t150 != 9223372036854775807) = false := bne_eq_false_iff_eq.mpr c47
                  clear c47
                  by_cases c48 : (t155 == 3 && (t156 == 8)) = true
                  · rw [if_pos c48] at H
                    have c48b0 : (t155 == 3 && (t156 == 8)) = true := c48
                    (try (have c48b1 : decide (t155 = 3 && (t156 == 8)) = true := by simpa using c48))
                    (try (have c48b2 : (t155 == 3 && (t156 == 8)) = true := by simpa using c48))
                    clear c48
                    obtain rfl := Option.some.inj H
                    go_wp2_with (first | ((with_reducible refine gate_callee (f := 19) rfl ?_); refine goesL_ (some 68) rfl rfl Try.func19 (by kernel_rfl) rfl #[.agg #[.int .i64 1, .int .i64 0]] rfl (by (try simp only [List.map_toArray, List.map_cons, List.map_nil]); first | done | rfl | (simp only [List.length_drop, List.length_take]; rfl)) ?_; (with_reducible refine (interval_Check.calls 1 0 t169 _ A34.out).mono ?_); rintro e w49 ⟨rfl, hb⟩; refine ⟨_, rfl, ?_⟩; have n0_ := Aside0.mk (blk_below (g := gb158) (o := .cells #[.int .i64 t155, .int .i64 t156] 26 (0, 0)) (by (with_reducible repeat (first | refine blk_drewN ?_ _ | refine blk_drew ?_ | refine blk_alloc ?_ _)); exact BK158.out) hb); have n1_ := Aside0.mk (below_step (by repeat (first | (with_reducible first | exact HB.out | apply below_alloc | apply pw_below_drewN | apply below_drew1 | refine below_set ?_ GE158.out) | exact HB.out)) hb); clear BK158; clear HB; have BK158 := n0_; have HB := n1_; clear n0_ n1_; (try clear hb); (try clear hb2); (try clear hk); (try clear hi)) | ((with_reducible refine gate_callee (f := 14) rfl ?_); refine goesL_ (some 69) rfl rfl Try.func14 (by kernel_rfl) rfl #[.int .i64 t169] rfl (by (try simp only [List.map_toArray, List.map_cons, List.map_nil]); first | done | rfl | (simp only [List.length_drop, List.length_take]; rfl)) ?_; (with_reducible refine (quotalaw01_num.calls t169 t170 _ A35.out).mono ?_); rintro e w' ⟨rfl, ⟨nd, rfl⟩⟩; refine ⟨_, rfl, ?_⟩; have hcz50_0 : w49.cell? ⟨gb158, 0, none⟩ = some (.int .i64 t155) := (blk_cell BK158.out 0).trans rfl; have hcz50_1 : w49.cell? ⟨gb158, 1, none⟩ = some (.int .i64 t156) := (blk_cell BK158.out 1).trans rfl; have hfz50_0 := blk_frozen BK158.out 0; have hfz50_1 := blk_frozen BK158.out 1) | (go_at_call 20; (with_reducible refine (interval_Has.calls t155 t156 3 true _ A37.out).mono ?_); rintro e w51 ⟨rfl, hb⟩; have n0_ := Aside0.mk (blk_below (g := gb158) (o := .cells #[.int .i64 t155, .int .i64 t156] 26 (0, 0)) (by (with_reducible repeat (first | refine blk_drewN ?_ _ | refine blk_drew ?_ | refine blk_alloc ?_ _)); exact BK158.out) hb); have n1_ := Aside0.mk (below_step (by repeat (first | (with_reducible first | exact HB.out | apply below_alloc | apply pw_below_drewN | apply below_drew1 | refine below_set ?_ GE158.out) | exact HB.out)) hb); clear BK158; clear HB; have BK158 := n0_; have HB := n1_; clear n0_ n1_; (try clear hb); (try clear hb2); (try clear hk); (try clear hi); have hcz52_0 : w51.cell? ⟨gb158, 0, none⟩ = some (.int .i64 t155) := (blk_cell BK158.out 0).trans rfl; have hcz52_1 : w51.cell? ⟨gb158, 1, none⟩ = some (.int .i64 t156) := (blk_cell BK158.out 1).trans rfl; have hfz52_0 := blk_frozen BK158.out 0; have hfz52_1 := blk_frozen BK158.out 1) | (go_at_call 21; (with_reducible refine (interval_Within.calls t155 t156 3 7 false _ A39.out).mono ?_); rintro e w53 ⟨rfl, hb⟩; have n0_ := Aside0.mk (blk_below (g := gb158) (o := .cells #[.int .i64 t155, .int .i64 t156] 26 (0, 0)) (by (with_reducible repeat (first | refine blk_drewN ?_ _ | refine blk_drew ?_ | refine blk_alloc ?_ _)); exact BK158.out) hb); have n1_ := Aside0.mk (below_step (by repeat (first | (with_reducible first | exact HB.out | apply below_alloc | apply pw_below_drewN | apply below_drew1 | refine below_set ?_ GE158.out) | exact HB.out)) hb); clear BK158; clear HB; have BK158 := n0_; have HB := n1_; clear n0_ n1_; (try clear hb); (try clear hb2); (try clear hk); (try clear hi); have hcz54_0 : w53.cell? ⟨gb158, 0, none⟩ = some (.int .i64 t155) := (blk_cell BK158.out 0).trans rfl; have hcz54_1 : w53.cell? ⟨gb158, 1, none⟩ = some (.int .i64 t156) := (blk_cell BK158.out 1).trans rfl; have hfz54_0 := blk_frozen BK158.out 0; have hfz54_1 := blk_frozen BK158.out 1))
                    go_ret
                    exact ⟨by first | rfl | (simp [errW_none, errW_some] <;> rfl) | (simp [*, errW_none, errW_some] <;> rfl), by repeat (first | (with_reducible first | exact HB.out | apply below_alloc | apply pw_below_drewN | apply below_drew1 | refine below_set ?_ GE158.out) | exact HB.out)⟩
                  · rw [if_neg c48] at H
                    have c48b0 : (t155 == 3 && (t156 == 8)) = false := by simpa using c48
                    (try (have c48b1 : decide (t155 = 3 && (t156 == 8)) = false := by simpa using c48))
                    (try (have c48b2 : (t155 == 3 && (t156 == 8)) = false := by simpa using c48))
                    (try (have c48b3 : ¬ (t155 = 3 && (t156 == 8)) := by simpa using c48))
                    clear c48
                    obtain rfl := Option.some.inj H
                    go_wp2_with (first | ((with_reducible refine gate_callee (f := 19) rfl ?_); refine goesL_ (some 68) rfl rfl Try.func19 (by kernel_rfl) rfl #[.agg #[.int .i64 1, .int .i64 0]] rfl (by (try simp only [List.map_toArray, List.map_cons, List.map_nil]); first | done | rfl | (simp only [List.length_drop, List.length_take]; rfl)) ?_; (with_reducible refine (interval_Check.calls 1 0 t169 _ A34.out).mono ?_); rintro e w55 ⟨rfl, hb⟩; refine ⟨_, rfl, ?_⟩; have n0_ := Aside0.mk (blk_below (g := gb158) (o := .cells #[.int .i64 t155, .int .i64 t156] 26 (0, 0)) (by (with_reducible repeat (first | refine blk_drewN ?_ _ | refine blk_drew ?_ | refine blk_alloc ?_ _)); exact BK158.out) hb); have n1_ := Aside0.mk (below_step (by repeat (first | (with_reducible first | exact HB.out | apply below_alloc | apply pw_below_drewN | apply below_drew1 | refine below_set ?_ GE158.out) | exact HB.out)) hb); clear BK158; clear HB; have BK158 := n0_; have HB := n1_; clear n0_ n1_; (try clear hb); (try clear hb2); (try clear hk); (try clear hi)) | ((with_reducible refine gate_callee (f := 14) rfl ?_); refine goesL_ (some 69) rfl rfl Try.func14 (by kernel_rfl) rfl #[.int .i64 t169] rfl (by (try simp only [List.map_toArray, List.map_cons, List.map_nil]); first | done | rfl | (simp only [List.length_drop, List.length_take]; rfl)) ?_; (with_reducible refine (quotalaw01_num.calls t169 t170 _ A35.out).mono ?_); rintro e w' ⟨rfl, ⟨nd, rfl⟩⟩; refine ⟨_, rfl, ?_⟩; have hcz56_0 : w55.cell? ⟨gb158, 0, none⟩ = some (.int .i64 t155) := (blk_cell BK158.out 0).trans rfl; have hcz56_1 : w55.cell? ⟨gb158, 1, none⟩ = some (.int .i64 t156) := (blk_cell BK158.out 1).trans rfl; have hfz56_0 := blk_frozen BK158.out 0; have hfz56_1 := blk_frozen BK158.out 1) | (go_at_call 20; (with_reducible refine (interval_Has.calls t155 t156 3 true _ A37.out).mono ?_); rintro e w57 ⟨rfl, hb⟩; have n0_ := Aside0.mk (blk_below (g := gb158) (o := .cells #[.int .i64 t155, .int .i64 t156] 26 (0, 0)) (by (with_reducible repeat (first | refine blk_drewN ?_ _ | refine blk_drew ?_ | refine blk_alloc ?_ _)); exact BK158.out) hb); have n1_ := Aside0.mk (below_step (by repeat (first | (with_reducible first | exact HB.out | apply below_alloc | apply pw_below_drewN | apply below_drew1 | refine below_set ?_ GE158.out) | exact HB.out)) hb); clear BK158; clear HB; have BK158 := n0_; have HB := n1_; clear n0_ n1_; (try clear hb); (try clear hb2); (try clear hk); (try clear hi); have hcz58_0 : w57.cell? ⟨gb158, 0, none⟩ = some (.int .i64 t155) := (blk_cell BK158.out 0).trans rfl; have hcz58_1 : w57.cell? ⟨gb158, 1, none⟩ = some (.int .i64 t156) := (blk_cell BK158.out 1).trans rfl; have hfz58_0 := blk_frozen BK158.out 0; have hfz58_1 := blk_frozen BK158.out 1) | (go_at_call 21; (with_reducible refine (interval_Within.calls t155 t156 3 7 false _ A39.out).mono ?_); rintro e w59 ⟨rfl, hb⟩; have n0_ := Aside0.mk (blk_below (g := gb158) (o := .cells #[.int .i64 t155, .int .i64 t156] 26 (0, 0)) (by (with_reducible repeat (first | refine blk_drewN ?_ _ | refine blk_drew ?_ | refine blk_alloc ?_ _)); exact BK158.out) hb); have n1_ := Aside0.mk (below_step (by repeat (first | (with_reducible first | exact HB.out | apply below_alloc | apply pw_below_drewN | apply below_drew1 | refine below_set ?_ GE158.out) | exact HB.out)) hb); clear BK158; clear HB; have BK158 := n0_; have HB := n1_; clear n0_ n1_; (try clear hb); (try clear hb2); (try clear hk); (try clear hi); have hcz60_0 : w59.cell? ⟨gb158, 0, none⟩ = some (.int .i64 t155) := (blk_cell BK158.out 0).trans rfl; have hcz60_1 : w59.cell? ⟨gb158, 1, none⟩ = some (.int .i64 t156) := (blk_cell BK158.out 1).trans rfl; have hfz60_0 := blk_frozen BK158.out 0; have hfz60_1 := blk_frozen BK158.out 1))
                    go_ret
                    exact ⟨by first | rfl | (simp [errW_none, errW_some] <;> rfl) | (simp [*, errW_none, errW_some] <;> rfl), by repeat (first | (with_reducible first | exact HB.out | apply below_alloc | apply pw_below_drewN | apply below_drew1 | refine below_set ?_ GE158.out) | exact HB.out)⟩
                · rw [if_neg c47] at H
                  have c47b0 : (t150 == 9223372036854775807) = false := beq_eq_false_iff_ne.mpr c47
                  have c47b1 : (t150 != 9223372036854775807) = true := bne_iff_ne.mpr c47
                  obtain rfl := Option.some.inj H
                  go_wp2_with (first | ((with_reducible refine gate_callee (f := 19) rfl ?_); refine goesL_ (some 68) rfl rfl Try.func19 (by kernel_rfl) rfl #[.agg #[.int .i64 1, .int .i64 0]] rfl (by (try simp only [List.map_toArray, List.map_cons, List.map_nil]); first | done | rfl | (simp only [List.length_drop, List.length_take]; rfl)) ?_; (with_reducible refine (interval_Check.calls 1 0 t169 _ A34.out).mono ?_); rintro e w61 ⟨rfl, hb⟩; refine ⟨_, rfl, ?_⟩; have n0_ := Aside0.mk (blk_below (g := gb158) (o := .cells #[.int .i64 t155, .int .i64 t156] 26 (0, 0)) (by (with_reducible repeat (first | refine blk_drewN ?_ _ | refine blk_drew ?_ | refine blk_alloc ?_ _)); exact BK158.out) hb); have n1_ := Aside0.mk (below_step (by repeat (first | (with_reducible first | exact HB.out | apply below_alloc | apply pw_below_drewN | apply below_drew1 | refine below_set ?_ GE158.out) | exact HB.out)) hb); clear BK158; clear HB; have BK158 := n0_; have HB := n1_; clear n0_ n1_; (try clear hb); (try clear hb2); (try clear hk); (try clear hi)) | ((with_reducible refine gate_callee (f := 14) rfl ?_); refine goesL_ (some 69) rfl rfl Try.func14 (by kernel_rfl) rfl #[.int .i64 t169] rfl (by (try simp only [List.map_toArray, List.map_cons, List.map_nil]); first | done | rfl | (simp only [List.length_drop, List.length_take]; rfl)) ?_; (with_reducible refine (quotalaw01_num.calls t169 t170 _ A35.out).mono ?_); rintro e w' ⟨rfl, ⟨nd, rfl⟩⟩; refine ⟨_, rfl, ?_⟩; have hcz62_0 : w61.cell? ⟨gb158, 0, none⟩ = some (.int .i64 t155) := (blk_cell BK158.out 0).trans rfl; have hcz62_1 : w61.cell? ⟨gb158, 1, none⟩ = some (.int .i64 t156) := (blk_cell BK158.out 1).trans rfl; have hfz62_0 := blk_frozen BK158.out 0; have hfz62_1 := blk_frozen BK158.out 1) | (go_at_call 20; (with_reducible refine (interval_Has.calls t155 t156 3 true _ A37.out).mono ?_); rintro e w63 ⟨rfl, hb⟩; have n0_ := Aside0.mk (blk_below (g := gb158) (o := .cells #[.int .i64 t155, .int .i64 t156] 26 (0, 0)) (by (with_reducible repeat (first | refine blk_drewN ?_ _ | refine blk_drew ?_ | refine blk_alloc ?_ _)); exact BK158.out) hb); have n1_ := Aside0.mk (below_step (by repeat (first | (with_reducible first | exact HB.out | apply below_alloc | apply pw_below_drewN | apply below_drew1 | refine below_set ?_ GE158.out) | exact HB.out)) hb); clear BK158; clear HB; have BK158 := n0_; have HB := n1_; clear n0_ n1_; (try clear hb); (try clear hb2); (try clear hk); (try clear hi); have hcz64_0 : w63.cell? ⟨gb158, 0, none⟩ = some (.int .i64 t155) := (blk_cell BK158.out 0).trans rfl; have hcz64_1 : w63.cell? ⟨gb158, 1, none⟩ = some (.int .i64 t156) := (blk_cell BK158.out 1).trans rfl; have hfz64_0 := blk_frozen BK158.out 0; have hfz64_1 := blk_frozen BK158.out 1) | (go_at_call 21; (with_reducible refine (interval_Within.calls t155 t156 3 7 false _ A39.out).mono ?_); rintro e w65 ⟨rfl, hb⟩; have n0_ := Aside0.mk (blk_below (g := gb158) (o := .cells #[.int .i64 t155, .int .i64 t156] 26 (0, 0)) (by (with_reducible repeat (first | refine blk_drewN ?_ _ | refine blk_drew ?_ | refine blk_alloc ?_ _)); exact BK158.out) hb); have n1_ := Aside0.mk (below_step (by repeat (first | (with_reducible first | exact HB.out | apply below_alloc | apply pw_below_drewN | apply below_drew1 | refine below_set ?_ GE158.out) | exact HB.out)) hb); clear BK158; clear HB; have BK158 := n0_; have HB := n1_; clear n0_ n1_; (try clear hb); (try clear hb2); (try clear hk); (try clear hi)))
                  go_ret
                  exact ⟨by first | rfl | (simp [errW_none, errW_some] <;> rfl) | (simp [*, errW_none, errW_some] <;> rfl), by repeat (first | (with_reducible first | exact HB.out | apply below_alloc | apply pw_below_drewN | apply below_drew1 | refine below_set ?_ GE158.out) | exact HB.out)⟩
              · rw [if_neg c46] at H
                have c46b0 : (t143 == 5) = false := beq_eq_false_iff_ne.mpr c46
                have c46b1 : (t143 != 5) = true := bne_iff_ne.mpr c46
                obtain rfl := Option.some.inj H
                go_wp2_with (first | ((with_reducible refine gate_callee (f := 19) rfl ?_); refine goesL_ (some 68) rfl rfl Try.func19 (by kernel_rfl) rfl #[.agg #[.int .i64 1, .int .i64 0]] rfl (by (try simp only [List.map_toArray, List.map_cons, List.map_nil]); first | done | rfl | (simp only [List.length_drop, List.length_take]; rfl)) ?_; (with_reducible refine (interval_Check.calls 1 0 t169 _ A34.out).mono ?_); rintro e w66 ⟨rfl, hb⟩; refine ⟨_, rfl, ?_⟩; have n0_ := Aside0.mk (blk_below (g := gb158) (o := .cells #[.int .i64 t155, .int .i64 t156] 26 (0, 0)) (by (with_reducible repeat (first | refine blk_drewN ?_ _ | refine blk_drew ?_ | refine blk_alloc ?_ _)); exact BK158.out) hb); have n1_ := Aside0.mk (below_step (by repeat (first | (with_reducible first | exact HB.out | apply below_alloc | apply pw_below_drewN | apply below_drew1 | refine below_set ?_ GE158.out) | exact HB.out)) hb); clear BK158; clear HB; have BK158 := n0_; have HB := n1_; clear n0_ n1_; (try clear hb); (try clear hb2); (try clear hk); (try clear hi)) | ((with_reducible refine gate_callee (f := 14) rfl ?_); refine goesL_ (some 69) rfl rfl Try.func14 (by kernel_rfl) rfl #[.int .i64 t169] rfl (by (try simp only [List.map_toArray, List.map_cons, List.map_nil]); first | done | rfl | (simp only [List.length_drop, List.length_take]; rfl)) ?_; (with_reducible refine (quotalaw01_num.calls t169 t170 _ A35.out).mono ?_); rintro e w' ⟨rfl, ⟨nd, rfl⟩⟩; refine ⟨_, rfl, ?_⟩; have hcz67_0 : w66.cell? ⟨gb158, 0, none⟩ = some (.int .i64 t155) := (blk_cell BK158.out 0).trans rfl; have hcz67_1 : w66.cell? ⟨gb158, 1, none⟩ = some (.int .i64 t156) := (blk_cell BK158.out 1).trans rfl; have hfz67_0 := blk_frozen BK158.out 0; have hfz67_1 := blk_frozen BK158.out 1) | (go_at_call 20; (with_reducible refine (interval_Has.calls t155 t156 3 true _ A37.out).mono ?_); rintro e w68 ⟨rfl, hb⟩; have n0_ := Aside0.mk (blk_below (g := gb158) (o := .cells #[.int .i64 t155, .int .i64 t156] 26 (0, 0)) (by (with_reducible repeat (first | refine blk_drewN ?_ _ | refine blk_drew ?_ | refine blk_alloc ?_ _)); exact BK158.out) hb); have n1_ := Aside0.mk (below_step (by repeat (first | (with_reducible first | exact HB.out | apply below_alloc | apply pw_below_drewN | apply below_drew1 | refine below_set ?_ GE158.out) | exact HB.out)) hb); clear BK158; clear HB; have BK158 := n0_; have HB := n1_; clear n0_ n1_; (try clear hb); (try clear hb2); (try clear hk); (try clear hi); have hcz69_0 : w68.cell? ⟨gb158, 0, none⟩ = some (.int .i64 t155) := (blk_cell BK158.out 0).trans rfl; have hcz69_1 : w68.cell? ⟨gb158, 1, none⟩ = some (.int .i64 t156) := (blk_cell BK158.out 1).trans rfl; have hfz69_0 := blk_frozen BK158.out 0; have hfz69_1 := blk_frozen BK158.out 1) | (go_at_call 21; (with_reducible refine (interval_Within.calls t155 t156 3 7 false _ A39.out).mono ?_); rintro e w70 ⟨rfl, hb⟩; have n0_ := Aside0.mk (blk_below (g := gb158) (o := .cells #[.int .i64 t155, .int .i64 t156] 26 (0, 0)) (by (with_reducible repeat (first | refine blk_drewN ?_ _ | refine blk_drew ?_ | refine blk_alloc ?_ _)); exact BK158.out) hb); have n1_ := Aside0.mk (below_step (by repeat (first | (with_reducible first | exact HB.out | apply below_alloc | apply pw_below_drewN | apply below_drew1 | refine below_set ?_ GE158.out) | exact HB.out)) hb); clear BK158; clear HB; have BK158 := n0_; have HB := n1_; clear n0_ n1_; (try clear hb); (try clear hb2); (try clear hk); (try clear hi)))
                go_ret
                exact ⟨by first | rfl | (simp [errW_none, errW_some] <;> rfl) | (simp [*, errW_none, errW_some] <;> rfl), by repeat (first | (with_reducible first | exact HB.out | apply below_alloc | apply pw_below_drewN | apply below_drew1 | refine below_set ?_ GE158.out) | exact HB.out)⟩
          · replace c38 := Bool.eq_false_iff.mpr c38
            subst c38
            have H1 : (some false) = some r := by rw [if_neg (show ¬ (false = true) by decide)] at H; exact H
            clear H
            have H := H1
            clear H1
            obtain rfl := Option.some.inj H
            go_wp2_with (first | ((with_reducible refine gate_callee (f := 19) rfl ?_); refine goesL_ (some 68) rfl rfl Try.func19 (by kernel_rfl) rfl #[.agg #[.int .i64 1, .int .i64 0]] rfl (by (try simp only [List.map_toArray, List.map_cons, List.map_nil]); first | done | rfl | (simp only [List.length_drop, List.length_take]; rfl)) ?_; (with_reducible refine (interval_Check.calls 1 0 t169 _ A34.out).mono ?_); rintro e w71 ⟨rfl, hb⟩; refine ⟨_, rfl, ?_⟩; have n0_ := Aside0.mk (blk_below (g := gb158) (o := .cells #[.int .i64 t155, .int .i64 t156] 26 (0, 0)) (by (with_reducible repeat (first | refine blk_drewN ?_ _ | refine blk_drew ?_ | refine blk_alloc ?_ _)); exact BK158.out) hb); have n1_ := Aside0.mk (below_step (by repeat (first | (with_reducible first | exact HB.out | apply below_alloc | apply pw_below_drewN | apply below_drew1 | refine below_set ?_ GE158.out) | exact HB.out)) hb); clear BK158; clear HB; have BK158 := n0_; have HB := n1_; clear n0_ n1_; (try clear hb); (try clear hb2); (try clear hk); (try clear hi)) | ((with_reducible refine gate_callee (f := 14) rfl ?_); refine goesL_ (some 69) rfl rfl Try.func14 (by kernel_rfl) rfl #[.int .i64 t169] rfl (by (try simp only [List.map_toArray, List.map_cons, List.map_nil]); first | done | rfl | (simp only [List.length_drop, List.length_take]; rfl)) ?_; (with_reducible refine (quotalaw01_num.calls t169 t170 _ A35.out).mono ?_); rintro e w' ⟨rfl, ⟨nd, rfl⟩⟩; refine ⟨_, rfl, ?_⟩; have hcz72_0 : w71.cell? ⟨gb158, 0, none⟩ = some (.int .i64 t155) := (blk_cell BK158.out 0).trans rfl; have hcz72_1 : w71.cell? ⟨gb158, 1, none⟩ = some (.int .i64 t156) := (blk_cell BK158.out 1).trans rfl; have hfz72_0 := blk_frozen BK158.out 0; have hfz72_1 := blk_frozen BK158.out 1) | (go_at_call 20; (with_reducible refine (interval_Has.calls t155 t156 3 false _ A37.out).mono ?_); rintro e w73 ⟨rfl, hb⟩; have n0_ := Aside0.mk (blk_below (g := gb158) (o := .cells #[.int .i64 t155, .int .i64 t156] 26 (0, 0)) (by (with_reducible repeat (first | refine blk_drewN ?_ _ | refine blk_drew ?_ | refine blk_alloc ?_ _)); exact BK158.out) hb); have n1_ := Aside0.mk (below_step (by repeat (first | (with_reducible first | exact HB.out | apply below_alloc | apply pw_below_drewN | apply below_drew1 | refine below_set ?_ GE158.out) | exact HB.out)) hb); clear BK158; clear HB; have BK158 := n0_; have HB := n1_; clear n0_ n1_; (try clear hb); (try clear hb2); (try clear hk); (try clear hi)))
            go_ret
            exact ⟨by first | rfl | (simp [errW_none, errW_some] <;> rfl) | (simp [*, errW_none, errW_some] <;> rfl), by repeat (first | (with_reducible first | exact HB.out | apply below_alloc | apply pw_below_drewN | apply below_drew1 | refine below_set ?_ GE158.out) | exact HB.out)⟩
        · rw [if_neg c36] at H
          have c36b0 : (t170 == 11) = false := beq_eq_false_iff_ne.mpr c36
          have c36b1 : (t170 != 11) = true := bne_iff_ne.mpr c36
          obtain rfl := Option.some.inj H
          go_wp2_with (first | ((with_reducible refine gate_callee (f := 19) rfl ?_); refine goesL_ (some 68) rfl rfl Try.func19 (by kernel_rfl) rfl #[.agg #[.int .i64 1, .int .i64 0]] rfl (by (try simp only [List.map_toArray, List.map_cons, List.map_nil]); first | done | rfl | (simp only [List.length_drop, List.length_take]; rfl)) ?_; (with_reducible refine (interval_Check.calls 1 0 t169 _ A34.out).mono ?_); rintro e w74 ⟨rfl, hb⟩; refine ⟨_, rfl, ?_⟩; have n0_ := Aside0.mk (blk_below (g := gb158) (o := .cells #[.int .i64 t155, .int .i64 t156] 26 (0, 0)) (by (with_reducible repeat (first | refine blk_drewN ?_ _ | refine blk_drew ?_ | refine blk_alloc ?_ _)); exact BK158.out) hb); have n1_ := Aside0.mk (below_step (by repeat (first | (with_reducible first | exact HB.out | apply below_alloc | apply pw_below_drewN | apply below_drew1 | refine below_set ?_ GE158.out) | exact HB.out)) hb); clear BK158; clear HB; have BK158 := n0_; have HB := n1_; clear n0_ n1_; (try clear hb); (try clear hb2); (try clear hk); (try clear hi)) | ((with_reducible refine gate_callee (f := 14) rfl ?_); refine goesL_ (some 69) rfl rfl Try.func14 (by kernel_rfl) rfl #[.int .i64 t169] rfl (by (try simp only [List.map_toArray, List.map_cons, List.map_nil]); first | done | rfl | (simp only [List.length_drop, List.length_take]; rfl)) ?_; (with_reducible refine (quotalaw01_num.calls t169 t170 _ A35.out).mono ?_); rintro e w' ⟨rfl, ⟨nd, rfl⟩⟩; refine ⟨_, rfl, ?_⟩))
          go_ret
          exact ⟨by first | rfl | (simp [errW_none, errW_some] <;> rfl) | (simp [*, errW_none, errW_some] <;> rfl), by repeat (first | (with_reducible first | exact HB.out | apply below_alloc | apply pw_below_drewN | apply below_drew1 | refine below_set ?_ GE158.out) | exact HB.out)⟩

/-! ### quotalaw01_IntervalNames: function 3 -/
def quotalaw01_IntervalNames.f (k : Nat)  : Option (Bool) := (quotalaw01_awake.f k).bind fun t173 => (if t173 = true then (some true) else (some false))
theorem quotalaw01_IntervalNames.mono : ∀ k, LeO (quotalaw01_IntervalNames.f k ) (quotalaw01_IntervalNames.f (k + 1) ) := by
  intro  k
  unfold quotalaw01_IntervalNames.f
  repeat' first
      | (with_reducible exact quotalaw01_awake.mono _)
      | (with_reducible exact LeO.refl _)
      | (with_reducible exact LeO.none _)
      | (with_reducible refine LeO.ite ?_ ?_)
      | (with_reducible refine LeO.bind ?_ (fun _ => ?_))
      | exact quotalaw01_awake.mono _
      | exact LeO.none _
      | refine LeO.ite ?_ ?_
      | refine LeO.bind ?_ (fun _ => ?_)
set_option maxHeartbeats 8000000 in
set_option maxRecDepth 100000 in
theorem quotalaw01_IntervalNames.calls (k : Nat)  (r : Bool) (w : World) (h : quotalaw01_IntervalNames.f k  = some r) :
    Calls Try.prog 3 #[] w fun e w' => e = .returned (.bool r) ∧ Below w.heap.size w w' := by
  have HB := Aside0.mk (Below.refl w.heap.size w)
  have H : ((quotalaw01_awake.f k).bind fun t173 => (if t173 = true then (some true) else (some false))) = some r := h
  clear h
  replace H := Option.bind_eq_some_iff.mp H
  obtain ⟨t173, A10, H⟩ := H
  replace H : (if t173 = true then (some true) else (some false)) = some r := H
  have A1 := Aside0.mk A10
  clear A10
  by_cases c2 : t173 = true
  · subst c2
    have H1 : (some true) = some r := by rw [if_pos rfl] at H; exact H
    clear H
    have H := H1
    clear H1
    obtain rfl := Option.some.inj H
    go_enter Try.func3, Try.ntmps3
    go_wp2_with (first | ((with_reducible refine gate_callee (f := 9) rfl ?_); refine goesL_ (some 1) rfl rfl Try.func9 (by kernel_rfl) rfl #[] rfl (by (try simp only [List.map_toArray, List.map_cons, List.map_nil]); first | done | rfl | (simp only [List.length_drop, List.length_take]; rfl)) ?_; (with_reducible refine (quotalaw01_awake.calls k  true _ A1.out).mono ?_); rintro e w3 ⟨rfl, hb⟩; refine ⟨_, rfl, ?_⟩; have n0_ := Aside0.mk (below_step (by repeat (first | (with_reducible first | exact HB.out | apply below_alloc | apply pw_below_drewN | apply below_drew1) | exact HB.out)) hb); clear HB; have HB := n0_; clear n0_; (try clear hb); (try clear hb2); (try clear hk); (try clear hi)))
    go_ret
    exact ⟨by first | rfl | (simp [errW_none, errW_some] <;> rfl) | (simp [*, errW_none, errW_some] <;> rfl), by repeat (first | (with_reducible first | exact HB.out | apply below_alloc | apply pw_below_drewN | apply below_drew1) | exact HB.out)⟩
  · replace c2 := Bool.eq_false_iff.mpr c2
    subst c2
    have H1 : (some false) = some r := by rw [if_neg (show ¬ (false = true) by decide)] at H; exact H
    clear H
    have H := H1
    clear H1
    obtain rfl := Option.some.inj H
    go_enter Try.func3, Try.ntmps3
    go_wp2_with (first | ((with_reducible refine gate_callee (f := 9) rfl ?_); refine goesL_ (some 1) rfl rfl Try.func9 (by kernel_rfl) rfl #[] rfl (by (try simp only [List.map_toArray, List.map_cons, List.map_nil]); first | done | rfl | (simp only [List.length_drop, List.length_take]; rfl)) ?_; (with_reducible refine (quotalaw01_awake.calls k  false _ A1.out).mono ?_); rintro e w4 ⟨rfl, hb⟩; refine ⟨_, rfl, ?_⟩; have n0_ := Aside0.mk (below_step (by repeat (first | (with_reducible first | exact HB.out | apply below_alloc | apply pw_below_drewN | apply below_drew1) | exact HB.out)) hb); clear HB; have HB := n0_; clear n0_; (try clear hb); (try clear hb2); (try clear hk); (try clear hi)))
    go_ret
    exact ⟨by first | rfl | (simp [errW_none, errW_some] <;> rfl) | (simp [*, errW_none, errW_some] <;> rfl), by repeat (first | (with_reducible first | exact HB.out | apply below_alloc | apply pw_below_drewN | apply below_drew1) | exact HB.out)⟩

/-- THE ONE PURE STATEMENT of quotalaw01_IntervalNames: yours. -/
def quotalaw01_IntervalNames.Pure : Prop := ∃ k, quotalaw01_IntervalNames.f k  = some true
theorem quotalaw01_IntervalNames.walk (P : quotalaw01_IntervalNames.Pure)  (w : World)  :
    Calls Try.prog 3 #[] w fun e w' => e = .returned (.bool true) ∧ Below w.heap.size w w' := by
  obtain ⟨k, h⟩ := P  
  refine (quotalaw01_IntervalNames.calls k  true w h).mono ?_
  rintro e w' ⟨rfl, hd⟩
  exact ⟨rfl, hd⟩

end Go.Proofs.Ytfeanjnjcdmhcaa.Q
