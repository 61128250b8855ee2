/- The transactions' functions answer as is said. Plain lemmas; no conditions but those that the specifications name. -/
import Derived.Test.YtgoikphefcgleaaEx
import Derived.Test.YtgoikphefcgleaaBp
import Derived.Test.YtgoikphefcgleaaKs
import Derived.KernelRfl
set_option linter.unusedVariables false
namespace Go.Proofs.Ytgoikphefcgleaa.VC
open Go
set_option maxRecDepth 100000
theorem fn32 : FnOk Try.prog 32 sp32 := ⟨(sorted_fn kL).enter, (sorted_fn kL).calls⟩
theorem fn12 : FnOk Try.prog 12 sp12 :=
  fn_of (f := 12) (fn := Try.f12) (l := []) (s := sp12) (A := (fun _ => noAnn)) sps_nil Try.func12 (by kernel_rfl) Try.call12 (by kernel_rfl) (@ok12 : vc12)
theorem fn24 : FnOk Try.prog 24 sp24 :=
  fn_of (f := 24) (fn := Try.f24) (l := []) (s := sp24) (A := (fun _ => noAnn)) sps_nil Try.func24 (by kernel_rfl) Try.call24 (by kernel_rfl) (@ok24 : vc24)
theorem fn7 : FnOk Try.prog 7 sp7 :=
  fn_of (f := 7) (fn := Try.f7) (l := [(24, some sp24)]) (s := sp7) (A := (fun _ => noAnn)) (sps_cons fn24 sps_nil) Try.func7 (by kernel_rfl) Try.call7 (by kernel_rfl) (@ok7 : vc7)
theorem fn14 : FnOk Try.prog 14 sp14 :=
  fn_of (f := 14) (fn := Try.f14) (l := [(24, some sp24)]) (s := sp14) (A := (fun _ => noAnn)) (sps_cons fn24 sps_nil) Try.func14 (by kernel_rfl) Try.call14 (by kernel_rfl) (@ok14 : vc14)
theorem fn42 : FnOk Try.prog 42 sp42 :=
  fn_of (f := 42) (fn := Try.f42) (l := []) (s := sp42) (A := (fun _ => noAnn)) sps_nil Try.func42 (by kernel_rfl) Try.call42 (by kernel_rfl) (@ok42 : vc42)
theorem fn44 : FnOk Try.prog 44 sp44 :=
  fn_of (f := 44) (fn := Try.f44) (l := []) (s := sp44) (A := (fun _ => noAnn)) sps_nil Try.func44 (by kernel_rfl) Try.call44 (by kernel_rfl) (@ok44 : vc44)
theorem fn47 : FnOk Try.prog 47 sp47 :=
  fn_of (f := 47) (fn := Try.f47) (l := [(42, some sp42)]) (s := sp47) (A := (fun _ => noAnn)) (sps_cons fn42 sps_nil) Try.func47 (by kernel_rfl) Try.call47 (by kernel_rfl) (@ok47 : vc47)
theorem fn43 : FnOk Try.prog 43 sp43 :=
  fn_of (f := 43) (fn := Try.f43) (l := []) (s := sp43) (A := (fun _ => noAnn)) sps_nil Try.func43 (by kernel_rfl) Try.call43 (by kernel_rfl) (@ok43 : vc43)
theorem fn45 : FnOk Try.prog 45 sp45 :=
  fn_of (f := 45) (fn := Try.f45) (l := []) (s := sp45) (A := (fun _ => noAnn)) sps_nil Try.func45 (by kernel_rfl) Try.call45 (by kernel_rfl) (@ok45 : vc45)
theorem fn46 : FnOk Try.prog 46 sp46 :=
  fn_of (f := 46) (fn := Try.f46) (l := []) (s := sp46) (A := (fun _ => noAnn)) sps_nil Try.func46 (by kernel_rfl) Try.call46 (by kernel_rfl) (@ok46 : vc46)
theorem fn30 : FnOk Try.prog 30 sp30 :=
  fn_of (f := 30) (fn := Try.f30) (l := []) (s := sp30) (A := (fun _ => noAnn)) sps_nil Try.func30 (by kernel_rfl) Try.call30 (by kernel_rfl) (@ok30 : vc30)
theorem fn15 : FnOk Try.prog 15 sp15 :=
  fn_of (f := 15) (fn := Try.f15) (l := [(24, some sp24), (14, some sp14), (30, some sp30), (42, some sp42), (43, some sp43), (44, some sp44), (45, some sp45), (46, some sp46), (47, some sp47)]) (s := sp15) (A := (fun _ => noAnn)) (sps_cons fn24 (sps_cons fn14 (sps_cons fn30 (sps_cons fn42 (sps_cons fn43 (sps_cons fn44 (sps_cons fn45 (sps_cons fn46 (sps_cons fn47 sps_nil))))))))) Try.func15 (by kernel_rfl) Try.call15 (by kernel_rfl) (@ok15 : vc15)
theorem fn20 : FnOk Try.prog 20 sp20 :=
  fn_of (f := 20) (fn := Try.f20) (l := []) (s := sp20) (A := (fun _ => noAnn)) sps_nil Try.func20 (by kernel_rfl) Try.call20 (by kernel_rfl) (@ok20 : vc20)
theorem fn23 : FnOk Try.prog 23 sp23 :=
  fn_of (f := 23) (fn := Try.f23) (l := []) (s := sp23) (A := (fun _ => noAnn)) sps_nil Try.func23 (by kernel_rfl) Try.call23 (by kernel_rfl) (@ok23 : vc23)
theorem fn33 : FnOk Try.prog 33 sp33 :=
  fn_of (f := 33) (fn := Try.f33) (l := []) (s := sp33) (A := (fun _ => noAnn)) sps_nil Try.func33 (by kernel_rfl) Try.call33 (by kernel_rfl) (@ok33 : vc33)
theorem fn19 : FnOk Try.prog 19 sp19 :=
  fn_of (f := 19) (fn := Try.f19) (l := [(33, some sp33), (32, some sp32)]) (s := sp19) (A := ann19) (sps_cons fn33 (sps_cons fn32 sps_nil)) Try.func19 (by kernel_rfl) Try.call19 (by kernel_rfl) (@ok19 : vc19)
theorem fn22 : FnOk Try.prog 22 sp22 :=
  fn_of (f := 22) (fn := Try.f22) (l := []) (s := sp22) (A := ann22) sps_nil Try.func22 (by kernel_rfl) Try.call22 (by kernel_rfl) (@ok22 : vc22)
theorem fn13 : FnOk Try.prog 13 sp13 :=
  fn_of (f := 13) (fn := Try.f13) (l := []) (s := sp13) (A := (fun _ => noAnn)) sps_nil Try.func13 (by kernel_rfl) Try.call13 (by kernel_rfl) (@ok13 : vc13)
theorem fn31 : FnOk Try.prog 31 sp31 :=
  fn_of (f := 31) (fn := Try.f31) (l := []) (s := sp31) (A := (fun _ => noAnn)) sps_nil Try.func31 (by kernel_rfl) Try.call31 (by kernel_rfl) (@ok31 : vc31)
theorem fn16 : FnOk Try.prog 16 sp16 :=
  fn_of (f := 16) (fn := Try.f16) (l := [(13, some sp13)]) (s := sp16) (A := (fun _ => noAnn)) (sps_cons fn13 sps_nil) Try.func16 (by kernel_rfl) Try.call16 (by kernel_rfl) (@ok16 : vc16)
theorem fn17 : FnOk Try.prog 17 sp17 :=
  fn_of (f := 17) (fn := Try.f17) (l := [(13, some sp13)]) (s := sp17) (A := (fun _ => noAnn)) (sps_cons fn13 sps_nil) Try.func17 (by kernel_rfl) Try.call17 (by kernel_rfl) (@ok17 : vc17)
theorem fn18 : FnOk Try.prog 18 sp18 :=
  fn_of (f := 18) (fn := Try.f18) (l := [(19, some sp19), (20, some sp20), (23, some sp23), (31, some sp31), (12, some sp12)]) (s := sp18) (A := ann18) (sps_cons fn19 (sps_cons fn20 (sps_cons fn23 (sps_cons fn31 (sps_cons fn12 sps_nil))))) Try.func18 (by kernel_rfl) Try.call18 (by kernel_rfl) (@ok18 : vc18)
theorem fn21 : FnOk Try.prog 21 sp21 :=
  fn_of (f := 21) (fn := Try.f21) (l := [(7, some sp7), (24, some sp24)]) (s := sp21) (A := ann21) (sps_cons fn7 (sps_cons fn24 sps_nil)) Try.func21 (by kernel_rfl) Try.call21 (by kernel_rfl) (@ok21 : vc21)
theorem fn6 : FnOk Try.prog 6 sp6 :=
  fn_of (f := 6) (fn := Try.f6) (l := [(7, some sp7), (12, some sp12), (14, some sp14), (15, some sp15), (23, some sp23), (20, some sp20), (19, some sp19), (22, some sp22), (21, some sp21)]) (s := sp6) (A := (fun _ => noAnn)) (sps_cons fn7 (sps_cons fn12 (sps_cons fn14 (sps_cons fn15 (sps_cons fn23 (sps_cons fn20 (sps_cons fn19 (sps_cons fn22 (sps_cons fn21 sps_nil))))))))) Try.func6 (by kernel_rfl) Try.call6 (by kernel_rfl) (@ok6 : vc6)
theorem fn5 : FnOk Try.prog 5 sp5 :=
  fn_of (f := 5) (fn := Try.f5) (l := [(7, some sp7), (12, some sp12), (6, some sp6), (19, some sp19), (14, some sp14), (13, some sp13), (15, some sp15), (20, some sp20), (21, some sp21), (22, some sp22)]) (s := sp5) (A := ann5) (sps_cons fn7 (sps_cons fn12 (sps_cons fn6 (sps_cons fn19 (sps_cons fn14 (sps_cons fn13 (sps_cons fn15 (sps_cons fn20 (sps_cons fn21 (sps_cons fn22 sps_nil)))))))))) Try.func5 (by kernel_rfl) Try.call5 (by kernel_rfl) (@ok5 : vc5)
end Go.Proofs.Ytgoikphefcgleaa.VC
