/- The registry's functions answer as is said. Plain lemmas; no conditions but those that the specifications name. -/
import Derived.Test.YtkhcphdnppdfjaaRg
import Derived.Test.YtkhcphdnppdfjaaSo
import Derived.KernelRfl
set_option linter.unusedVariables false
namespace Go.Proofs.Ytkhcphdnppdfjaa.VC
open Go
set_option maxRecDepth 100000

abbrev Sps (l : List (FuncId × Option Spc)) : Prop := ∀ f s, look none l f = some s → FnOk Try.prog f s
theorem sps_nil : Sps [] := fun f s h => by cases h
theorem sps_cons {f : FuncId} {s : Spc} {l : List (FuncId × Option Spc)} (h : FnOk Try.prog f s) (t : Sps l) : Sps ((f, some s) :: l) := fun g u hu => by
  simp only [look] at hu
  cases hb : Nat.beq f g with
  | true =>
    rw [hb] at hu
    simp only [cond_true, Option.some.injEq] at hu
    rw [← Nat.eq_of_beq_eq_true hb, ← hu]
    exact h
  | false =>
    rw [hb] at hu
    exact t g u hu
/-- What is shown of a function is so. -/
theorem fn_of {f : FuncId} {fn : Func} {l : List (FuncId × Option Spc)} {s : Spc} {A : s.G → Ann} (S : Sps l) (hf : Try.prog.funcs[f]? = some fn) (hb : fn.body.isSome = true) (hc : ∀ args w, (callFunc f args).run Try.prog w = .ok (.enter f args) w) (hst : s.still = false)
    (h : vc fn.body fn.results fn.ntmps l s A) : FnOk Try.prog f s := by
  obtain ⟨code, hcode⟩ := Option.isSome_iff_exists.1 hb
  refine fn_ok (C := ⟨TT, EQ, look none l, fn.ntmps⟩) tabOk S mixed hf hcode rfl hc hst ?_ (A := A)
  unfold vc at h
  rw [hcode] at h
  exact h
theorem fn15 : FnOk Try.prog 15 sp15 := by
  have h := ok15
  unfold vc15 at h
  exact fn_of sps_nil Try.func15 (by kernel_rfl) Try.call15 (by kernel_rfl) h
theorem fn29 : FnOk Try.prog 29 sp29 := by
  have h := ok29
  unfold vc29 at h
  exact fn_of sps_nil Try.func29 (by kernel_rfl) Try.call29 (by kernel_rfl) h
theorem fn30 : FnOk Try.prog 30 sp30 := by
  have h := ok30
  unfold vc30 at h
  exact fn_of sps_nil Try.func30 (by kernel_rfl) Try.call30 (by kernel_rfl) h
theorem fn32 : FnOk Try.prog 32 sp32 := by
  have h := ok32
  unfold vc32 at h
  exact fn_of sps_nil Try.func32 (by kernel_rfl) Try.call32 (by kernel_rfl) h
theorem fn18 : FnOk Try.prog 18 sp18 := by
  have h := ok18
  unfold vc18 at h
  exact fn_of sps_nil Try.func18 (by kernel_rfl) Try.call18 (by kernel_rfl) h
theorem fn20 : FnOk Try.prog 20 sp20 := by
  have h := ok20
  unfold vc20 at h
  exact fn_of (sps_cons fn29 (sps_cons fn30 (sps_cons fn32 sps_nil))) Try.func20 (by kernel_rfl) Try.call20 (by kernel_rfl) h
theorem fn14 : FnOk Try.prog 14 sp14 := by
  have h := ok14
  unfold vc14 at h
  exact fn_of (sps_cons fn30 sps_nil) Try.func14 (by kernel_rfl) Try.call14 (by kernel_rfl) h
theorem fn13 : FnOk Try.prog 13 sp13 := by
  have h := ok13
  unfold vc13 at h
  exact fn_of (sps_cons fn29 (sps_cons fn30 sps_nil)) Try.func13 (by kernel_rfl) Try.call13 (by kernel_rfl) h
theorem fn19 : FnOk Try.prog 19 sp19 := by
  refine fn_of (f := 19) (fn := Try.f19) (l := [(20, some sp20)]) (s := sp19) (A := fun _ => noAnn) ?_ ?_ ?_ ?_ ?_ ?_
  · exact sps_cons fn20 sps_nil
  · exact Try.func19
  · kernel_rfl
  · exact Try.call19
  · kernel_rfl
  · exact (@ok19 : vc19)
theorem fn16 : FnOk Try.prog 16 sp16 := by
  have h := ok16
  unfold vc16 at h
  exact fn_of (sps_cons fn31 sps_nil) Try.func16 (by kernel_rfl) Try.call16 (by kernel_rfl) h
theorem fn17 : FnOk Try.prog 17 sp17 := by
  have h := ok17
  unfold vc17 at h
  exact fn_of (sps_cons fn31 sps_nil) Try.func17 (by kernel_rfl) Try.call17 (by kernel_rfl) h
theorem fn21 : FnOk Try.prog 21 sp21 := by
  have h := ok21
  unfold vc21 at h
  exact fn_of sps_nil Try.func21 (by kernel_rfl) Try.call21 (by kernel_rfl) h
theorem fn11 : FnOk Try.prog 11 sp11 := by
  have h := ok11
  unfold vc11 at h
  exact fn_of sps_nil Try.func11 (by kernel_rfl) Try.call11 (by kernel_rfl) h
theorem fn7 : FnOk Try.prog 7 sp7 := by
  have h := ok7
  unfold vc7 at h
  exact fn_of (sps_cons fn18 (sps_cons fn15 (sps_cons fn20 (sps_cons fn19 (sps_cons fn13 (sps_cons fn14 (sps_cons fn16 (sps_cons fn17 (sps_cons fn21 sps_nil))))))))) Try.func7 (by kernel_rfl) Try.call7 (by kernel_rfl) h
theorem fn6 : FnOk Try.prog 6 sp6 := by
  have h := ok6
  unfold vc6 at h
  exact fn_of (sps_cons fn7 (sps_cons fn11 (sps_cons fn18 (sps_cons fn15 (sps_cons fn20 (sps_cons fn19 (sps_cons fn16 sps_nil))))))) Try.func6 (by kernel_rfl) Try.call6 (by kernel_rfl) h
end Go.Proofs.Ytkhcphdnppdfjaa.VC
