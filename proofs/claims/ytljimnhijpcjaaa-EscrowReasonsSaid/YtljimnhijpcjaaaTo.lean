/- The functions answer as is said. Plain lemmas; no conditions but those that the specifications name. -/
import Derived.Test.YtljimnhijpcjaaaTf
import Derived.Test.YtljimnhijpcjaaaLp
import Derived.KernelRfl
set_option linter.unusedVariables false
namespace Go.Proofs.Ytljimnhijpcjaaa.VC
open Go
set_option maxRecDepth 100000
theorem fn5 : FnOk Try.prog 5 sp5 :=
  fn_of (f := 5) (fn := Try.f5) (l := [(9, some sp9), (14, some sp14), (15, some sp15), (16, some sp16), (17, some sp17), (18, some sp18), (20, some sp20), (19, some sp19), (21, some sp21), (22, some sp22), (23, some sp23)]) (s := sp5) (A := ann5) (sps_cons fn9 (sps_cons fn14 (sps_cons fn15 (sps_cons fn16 (sps_cons fn17 (sps_cons fn18 (sps_cons fn20 (sps_cons fn19 (sps_cons fn21 (sps_cons fn22 (sps_cons fn23 sps_nil))))))))))) Try.func5 (by kernel_rfl) Try.call5 (by kernel_rfl) (@ok5 : vc5)
end Go.Proofs.Ytljimnhijpcjaaa.VC
