/- TxnsLife's function answers true. Plain lemmas; no conditions. -/
import Derived.Test.YtgoikphefcgleaaTf
import Derived.Test.YtgoikphefcgleaaLp
import Derived.KernelRfl
set_option linter.unusedVariables false
namespace Go.Proofs.Ytgoikphefcgleaa.VC
open Go
set_option maxRecDepth 100000
theorem fn4 : FnOk Try.prog 4 sp4 :=
  fn_of (f := 4) (fn := Try.f4) (l := [(7, some sp7), (12, some sp12), (6, some sp6), (13, some sp13), (14, some sp14), (15, some sp15), (16, some sp16), (17, some sp17), (18, some sp18)]) (s := sp4) (A := ann4) (sps_cons fn7 (sps_cons fn12 (sps_cons fn6 (sps_cons fn13 (sps_cons fn14 (sps_cons fn15 (sps_cons fn16 (sps_cons fn17 (sps_cons fn18 sps_nil))))))))) Try.func4 (by kernel_rfl) Try.call4 (by kernel_rfl) (@ok4 : vc4)
end Go.Proofs.Ytgoikphefcgleaa.VC
