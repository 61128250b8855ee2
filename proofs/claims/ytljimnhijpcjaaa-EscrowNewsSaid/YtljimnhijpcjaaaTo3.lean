/- The functions answer as is said. Plain lemmas; no conditions but those that the specifications name. -/
import Derived.Test.YtljimnhijpcjaaaTf
import Derived.Test.YtljimnhijpcjaaaNq
import Derived.KernelRfl
set_option linter.unusedVariables false
namespace Go.Proofs.Ytljimnhijpcjaaa.VC
open Go
set_option maxRecDepth 100000
theorem fn66 : FnOk Try.prog 66 sp66 :=
  fn_of (f := 66) (fn := Try.f66) (l := []) (s := sp66) (A := (fun _ => noAnn)) sps_nil Try.func66 (by kernel_rfl) Try.call66 (by kernel_rfl) (@ok66 : vc66)
theorem fn56 : FnOk Try.prog 56 sp56 :=
  fn_of (f := 56) (fn := Try.f56) (l := []) (s := sp56) (A := (fun _ => noAnn)) sps_nil Try.func56 (by kernel_rfl) Try.call56 (by kernel_rfl) (@ok56 : vc56)
theorem fn55 : FnOk Try.prog 55 sp55 :=
  fn_of (f := 55) (fn := Try.f55) (l := [(66, some sp66)]) (s := sp55) (A := annRWorst) (sps_cons fn66 sps_nil) Try.func55 (by kernel_rfl) Try.call55 (by kernel_rfl) (@ok55 : vc55)
theorem fn11 : FnOk Try.prog 11 sp11 :=
  fn_of (f := 11) (fn := Try.f11) (l := []) (s := sp11) (A := (fun _ => noAnn)) sps_nil Try.func11 (by kernel_rfl) Try.call11 (by kernel_rfl) (@ok11 : vc11)
theorem fn38 : FnOk Try.prog 38 sp38 :=
  fn_of (f := 38) (fn := Try.f38) (l := []) (s := sp38) (A := annRNet) sps_nil Try.func38 (by kernel_rfl) Try.call38 (by kernel_rfl) (@ok38 : vc38)
theorem fn39 : FnOk Try.prog 39 sp39 :=
  fn_of (f := 39) (fn := Try.f39) (l := [(27, some sp27), (55, some sp55), (56, some sp56)]) (s := sp39) (A := annRInt) (sps_cons fn27 (sps_cons fn55 (sps_cons fn56 sps_nil))) Try.func39 (by kernel_rfl) Try.call39 (by kernel_rfl) (@ok39 : vc39)
theorem fn40 : FnOk Try.prog 40 sp40 :=
  fn_of (f := 40) (fn := Try.f40) (l := [(27, some sp27), (25, some sp25), (56, some sp56)]) (s := sp40) (A := annRVal) (sps_cons fn27 (sps_cons fn25 (sps_cons fn56 sps_nil))) Try.func40 (by kernel_rfl) Try.call40 (by kernel_rfl) (@ok40 : vc40)
theorem fn41 : FnOk Try.prog 41 sp41 :=
  fn_of (f := 41) (fn := Try.f41) (l := []) (s := sp41) (A := annRHold) sps_nil Try.func41 (by kernel_rfl) Try.call41 (by kernel_rfl) (@ok41 : vc41)
theorem fn33 : FnOk Try.prog 33 sp33 :=
  fn_of (f := 33) (fn := Try.f33) (l := []) (s := sp33) (A := annSame) sps_nil Try.func33 (by kernel_rfl) Try.call33 (by kernel_rfl) (@ok33 : vc33)
theorem fn12 : FnOk Try.prog 12 sp12 :=
  fn_of (f := 12) (fn := Try.f12) (l := [(35, some sp35), (38, some sp38), (18, some sp18), (20, some sp20), (17, some sp17), (39, some sp39), (23, some sp23), (40, some sp40), (16, some sp16), (41, some sp41), (33, some sp33)]) (s := sp12) (A := (fun _ => noAnn)) (sps_cons fn35 (sps_cons fn38 (sps_cons fn18 (sps_cons fn20 (sps_cons fn17 (sps_cons fn39 (sps_cons fn23 (sps_cons fn40 (sps_cons fn16 (sps_cons fn41 (sps_cons fn33 sps_nil))))))))))) Try.func12 (by kernel_rfl) Try.call12 (by kernel_rfl) (@ok12 : vc12)
theorem fn3 : FnOk Try.prog 3 sp3 :=
  fn_of (f := 3) (fn := Try.f3) (l := [(9, some sp9), (10, some sp10), (11, some sp11), (12, some sp12)]) (s := sp3) (A := (fun _ => noAnn)) (sps_cons fn9 (sps_cons fn10 (sps_cons fn11 (sps_cons fn12 sps_nil)))) Try.func3 (by kernel_rfl) Try.call3 (by kernel_rfl) (@ok3 : vc3)
end Go.Proofs.Ytljimnhijpcjaaa.VC
