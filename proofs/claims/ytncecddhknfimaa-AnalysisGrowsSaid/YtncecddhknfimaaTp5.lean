/- The functions answer as is said. Plain lemmas; no conditions but those that the specifications name. -/
import Derived.Test.YtncecddhknfimaaTf
import Derived.Test.YtncecddhknfimaaLc
import Derived.KernelRfl
set_option linter.unusedVariables false
namespace Go.Proofs.Ytncecddhknfimaa.VC
open Go
set_option maxRecDepth 100000
theorem fn5 : FnOk Try.prog 5 sp5 :=
  fn_of (f := 5) (fn := Try.f5) (l := [(6, some sp6), (16, some sp16), (19, some sp19), (9, some sp9), (11, some sp11)]) (s := sp5) (A := ann5) (sps_cons fn6 (sps_cons fn16 (sps_cons fn19 (sps_cons fn9 (sps_cons fn11 sps_nil))))) Try.func5 (by kernel_rfl) Try.call5 (by kernel_rfl) (@ok5 : vc5)
end Go.Proofs.Ytncecddhknfimaa.VC
