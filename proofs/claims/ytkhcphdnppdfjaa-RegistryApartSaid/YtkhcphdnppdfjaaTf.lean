/- The registry's longer functions answer as is said. Plain lemmas; no conditions but those that the specifications name. -/
import Derived.Test.YtkhcphdnppdfjaaTp
import Derived.KernelRfl
set_option linter.unusedVariables false
namespace Go.Proofs.Ytkhcphdnppdfjaa.VC
open Go
set_option maxRecDepth 100000
theorem fn19n : FnOk Try.prog 19 sp19n :=
  FnOk.weak fn19 _ (fun g h => h) (fun g => rfl) (fun g val upd new _ h => by
    obtain ⟨h1, h2, h3⟩ := h
    exact ⟨_, rfl, h1, h2, h3⟩)
theorem fn12 : FnOk Try.prog 12 sp12 :=
  fn_of (f := 12) (fn := Try.f12) (l := [(18, some sp18), (15, some sp15), (11, some sp11), (20, some sp20), (19, some sp19)]) (s := sp12) (A := ann12) (sps_cons fn18 (sps_cons fn15 (sps_cons fn11 (sps_cons fn20 (sps_cons fn19 sps_nil))))) Try.func12 (by kernel_rfl) Try.call12 (by kernel_rfl) (@ok12 : vc12)
theorem fn4 : FnOk Try.prog 4 sp4 :=
  fn_of (f := 4) (fn := Try.f4) (l := [(7, some sp7), (11, some sp11), (12, some sp12), (13, some sp13), (14, some sp14), (15, some sp15), (16, some sp16), (17, some sp17)]) (s := sp4) (A := ann4) (sps_cons fn7 (sps_cons fn11 (sps_cons fn12 (sps_cons fn13 (sps_cons fn14 (sps_cons fn15 (sps_cons fn16 (sps_cons fn17 sps_nil)))))))) Try.func4 (by kernel_rfl) Try.call4 (by kernel_rfl) (@ok4 : vc4)
theorem fn5 : FnOk Try.prog 5 sp5 :=
  fn_of (f := 5) (fn := Try.f5) (l := [(7, some sp7), (11, some sp11), (12, some sp12), (18, some sp18), (15, some sp15), (19, some sp19n), (20, some sp20), (13, some sp13), (16, some sp16), (17, some sp17), (21, some sp21)]) (s := sp5) (A := ann5) (sps_cons fn7 (sps_cons fn11 (sps_cons fn12 (sps_cons fn18 (sps_cons fn15 (sps_cons fn19n (sps_cons fn20 (sps_cons fn13 (sps_cons fn16 (sps_cons fn17 (sps_cons fn21 sps_nil))))))))))) Try.func5 (by kernel_rfl) Try.call5 (by kernel_rfl) (@ok5 : vc5)
end Go.Proofs.Ytkhcphdnppdfjaa.VC
