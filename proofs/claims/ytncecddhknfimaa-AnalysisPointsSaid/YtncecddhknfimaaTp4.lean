/- The functions answer as is said. Plain lemmas; no conditions but those that the specifications name. -/
import Derived.Test.YtncecddhknfimaaTf
import Derived.Test.YtncecddhknfimaaLd
import Derived.KernelRfl
set_option linter.unusedVariables false
namespace Go.Proofs.Ytncecddhknfimaa.VC
open Go
set_option maxRecDepth 100000
theorem fn4 : FnOk Try.prog 4 sp4 :=
  fn_of (f := 4) (fn := Try.f4) (l := [(6, some sp6), (16, some sp16), (9, some sp9), (11, some sp11), (17, some sp17), (18, some sp18)]) (s := sp4) (A := ann4) (sps_cons fn6 (sps_cons fn16 (sps_cons fn9 (sps_cons fn11 (sps_cons fn17 (sps_cons fn18 sps_nil)))))) Try.func4 (by kernel_rfl) Try.call4 (by kernel_rfl) (@ok4 : vc4)
end Go.Proofs.Ytncecddhknfimaa.VC
