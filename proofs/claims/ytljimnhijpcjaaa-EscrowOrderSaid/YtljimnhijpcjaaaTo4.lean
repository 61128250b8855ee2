/- The functions answer as is said. Plain lemmas; no conditions but those that the specifications name. -/
import Derived.Test.YtljimnhijpcjaaaTf
import Derived.Test.YtljimnhijpcjaaaOq
import Derived.KernelRfl
set_option linter.unusedVariables false
namespace Go.Proofs.Ytljimnhijpcjaaa.VC
open Go
set_option maxRecDepth 100000
theorem fn7 : FnOk Try.prog 7 sp7 :=
  fn_of (f := 7) (fn := Try.f7) (l := [(9, some sp9), (14, some sp14), (29, some sp29), (17, some sp17), (27, some sp27), (20, some sp20), (15, some sp15), (25, some sp25), (30, some sp30), (31, some sp31), (23, some sp23), (21, some sp21), (22, some sp22), (16, some sp16)]) (s := sp7) (A := ann7) (sps_cons fn9 (sps_cons fn14 (sps_cons fn29 (sps_cons fn17 (sps_cons fn27 (sps_cons fn20 (sps_cons fn15 (sps_cons fn25 (sps_cons fn30 (sps_cons fn31 (sps_cons fn23 (sps_cons fn21 (sps_cons fn22 (sps_cons fn16 sps_nil)))))))))))))) Try.func7 (by kernel_rfl) Try.call7 (by kernel_rfl) (@ok7 : vc7)
end Go.Proofs.Ytljimnhijpcjaaa.VC
