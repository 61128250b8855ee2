/- The functions answer as is said. Plain lemmas; no conditions but those that the specifications name. -/
import Derived.Test.YtljimnhijpcjaaaTo
import Derived.Test.YtljimnhijpcjaaaRq
import Derived.KernelRfl
set_option linter.unusedVariables false
namespace Go.Proofs.Ytljimnhijpcjaaa.VC
open Go
set_option maxRecDepth 100000
theorem fn28 : FnOk Try.prog 28 sp28 :=
  fn_of (f := 28) (fn := Try.f28) (l := []) (s := sp28) (A := (fun _ => noAnn)) sps_nil Try.func28 (by kernel_rfl) Try.call28 (by kernel_rfl) (@ok28 : vc28)
theorem fn6 : FnOk Try.prog 6 sp6 :=
  fn_of (f := 6) (fn := Try.f6) (l := [(9, some sp9), (14, some sp14), (24, some sp24), (15, some sp15), (18, some sp18), (20, some sp20), (19, some sp19), (25, some sp25), (21, some sp21), (22, some sp22), (26, some sp26), (27, some sp27), (28, some sp28)]) (s := sp6) (A := ann6) (sps_cons fn9 (sps_cons fn14 (sps_cons fn24 (sps_cons fn15 (sps_cons fn18 (sps_cons fn20 (sps_cons fn19 (sps_cons fn25 (sps_cons fn21 (sps_cons fn22 (sps_cons fn26 (sps_cons fn27 (sps_cons fn28 sps_nil))))))))))))) Try.func6 (by kernel_rfl) Try.call6 (by kernel_rfl) (@ok6 : vc6)
end Go.Proofs.Ytljimnhijpcjaaa.VC
