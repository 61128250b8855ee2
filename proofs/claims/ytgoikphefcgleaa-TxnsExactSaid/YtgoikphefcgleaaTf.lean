/- The functions answer as is said. Plain lemmas; no conditions but those that the specifications name. -/
import Derived.Test.YtgoikphefcgleaaLw
import Derived.Test.YtgoikphefcgleaaKs
import Derived.KernelRfl
set_option linter.unusedVariables false
namespace Go.Proofs.Ytgoikphefcgleaa.VC
open Go
set_option maxRecDepth 100000
theorem fn32 : FnOk Try.prog 32 sp32 := ⟨(sorted_fn kL).enter, (sorted_fn kL).calls⟩
theorem fn24 : FnOk Try.prog 24 sp24 :=
  fn_of (f := 24) (fn := Try.f24) (l := []) (s := sp24) (A := (fun _ => noAnn)) sps_nil Try.func24 (by kernel_rfl) Try.call24 (by kernel_rfl) (@ok24 : vc24)
theorem fn7 : FnOk Try.prog 7 sp7 :=
  fn_of (f := 7) (fn := Try.f7) (l := [(24, some sp24)]) (s := sp7) (A := (fun _ => noAnn)) (sps_cons fn24 sps_nil) Try.func7 (by kernel_rfl) Try.call7 (by kernel_rfl) (@ok7 : vc7)
theorem fn14 : FnOk Try.prog 14 sp14 :=
  fn_of (f := 14) (fn := Try.f14) (l := [(24, some sp24)]) (s := sp14) (A := (fun _ => noAnn)) (sps_cons fn24 sps_nil) Try.func14 (by kernel_rfl) Try.call14 (by kernel_rfl) (@ok14 : vc14)
theorem fn42 : FnOk Try.prog 42 sp42 :=
  fn_of (f := 42) (fn := Try.f42) (l := []) (s := sp42) (A := (fun _ => noAnn)) sps_nil Try.func42 (by kernel_rfl) Try.call42 (by kernel_rfl) (@ok42 : vc42)
theorem fn44 : FnOk Try.prog 44 sp44 :=
  fn_of (f := 44) (fn := Try.f44) (l := []) (s := sp44) (A := (fun _ => noAnn)) sps_nil Try.func44 (by kernel_rfl) Try.call44 (by kernel_rfl) (@ok44 : vc44)
theorem fn47 : FnOk Try.prog 47 sp47 :=
  fn_of (f := 47) (fn := Try.f47) (l := [(42, some sp42)]) (s := sp47) (A := (fun _ => noAnn)) (sps_cons fn42 sps_nil) Try.func47 (by kernel_rfl) Try.call47 (by kernel_rfl) (@ok47 : vc47)
theorem fn43 : FnOk Try.prog 43 sp43 :=
  fn_of (f := 43) (fn := Try.f43) (l := []) (s := sp43) (A := (fun _ => noAnn)) sps_nil Try.func43 (by kernel_rfl) Try.call43 (by kernel_rfl) (@ok43 : vc43)
theorem fn45 : FnOk Try.prog 45 sp45 :=
  fn_of (f := 45) (fn := Try.f45) (l := []) (s := sp45) (A := (fun _ => noAnn)) sps_nil Try.func45 (by kernel_rfl) Try.call45 (by kernel_rfl) (@ok45 : vc45)
theorem fn46 : FnOk Try.prog 46 sp46 :=
  fn_of (f := 46) (fn := Try.f46) (l := []) (s := sp46) (A := (fun _ => noAnn)) sps_nil Try.func46 (by kernel_rfl) Try.call46 (by kernel_rfl) (@ok46 : vc46)
theorem fn30 : FnOk Try.prog 30 sp30 :=
  fn_of (f := 30) (fn := Try.f30) (l := []) (s := sp30) (A := (fun _ => noAnn)) sps_nil Try.func30 (by kernel_rfl) Try.call30 (by kernel_rfl) (@ok30 : vc30)
theorem fn15 : FnOk Try.prog 15 sp15 :=
  fn_of (f := 15) (fn := Try.f15) (l := [(24, some sp24), (14, some sp14), (30, some sp30), (42, some sp42), (43, some sp43), (44, some sp44), (45, some sp45), (46, some sp46), (47, some sp47)]) (s := sp15) (A := (fun _ => noAnn)) (sps_cons fn24 (sps_cons fn14 (sps_cons fn30 (sps_cons fn42 (sps_cons fn43 (sps_cons fn44 (sps_cons fn45 (sps_cons fn46 (sps_cons fn47 sps_nil))))))))) Try.func15 (by kernel_rfl) Try.call15 (by kernel_rfl) (@ok15 : vc15)
theorem fn20 : FnOk Try.prog 20 sp20 :=
  fn_of (f := 20) (fn := Try.f20) (l := []) (s := sp20) (A := (fun _ => noAnn)) sps_nil Try.func20 (by kernel_rfl) Try.call20 (by kernel_rfl) (@ok20 : vc20)
theorem fn33 : FnOk Try.prog 33 sp33 :=
  fn_of (f := 33) (fn := Try.f33) (l := []) (s := sp33) (A := (fun _ => noAnn)) sps_nil Try.func33 (by kernel_rfl) Try.call33 (by kernel_rfl) (@ok33 : vc33)
theorem fn19 : FnOk Try.prog 19 sp19 :=
  fn_of (f := 19) (fn := Try.f19) (l := [(33, some sp33), (32, some sp32)]) (s := sp19) (A := ann19) (sps_cons fn33 (sps_cons fn32 sps_nil)) Try.func19 (by kernel_rfl) Try.call19 (by kernel_rfl) (@ok19 : vc19)
theorem fn21 : FnOk Try.prog 21 sp21 :=
  fn_of (f := 21) (fn := Try.f21) (l := [(7, some sp7), (24, some sp24)]) (s := sp21) (A := ann21) (sps_cons fn7 (sps_cons fn24 sps_nil)) Try.func21 (by kernel_rfl) Try.call21 (by kernel_rfl) (@ok21 : vc21)
theorem fn23 : FnOk Try.prog 23 sp23 :=
  fn_of (f := 23) (fn := Try.f23) (l := []) (s := sp23) (A := (fun _ => noAnn)) sps_nil Try.func23 (by kernel_rfl) Try.call23 (by kernel_rfl) (@ok23 : vc23)
theorem fn12 : FnOk Try.prog 12 sp12 :=
  fn_of (f := 12) (fn := Try.f12) (l := []) (s := sp12) (A := (fun _ => noAnn)) sps_nil Try.func12 (by kernel_rfl) Try.call12 (by kernel_rfl) (@ok12 : vc12)
theorem fn22 : FnOk Try.prog 22 sp22 :=
  fn_of (f := 22) (fn := Try.f22) (l := []) (s := sp22) (A := ann22) sps_nil Try.func22 (by kernel_rfl) Try.call22 (by kernel_rfl) (@ok22 : vc22)
theorem fn6 : FnOk Try.prog 6 sp6 :=
  fn_of (f := 6) (fn := Try.f6) (l := [(7, some sp7), (12, some sp12), (14, some sp14), (15, some sp15), (23, some sp23), (20, some sp20), (19, some sp19), (22, some sp22), (21, some sp21)]) (s := sp6) (A := (fun _ => noAnn)) (sps_cons fn7 (sps_cons fn12 (sps_cons fn14 (sps_cons fn15 (sps_cons fn23 (sps_cons fn20 (sps_cons fn19 (sps_cons fn22 (sps_cons fn21 sps_nil))))))))) Try.func6 (by kernel_rfl) Try.call6 (by kernel_rfl) (@ok6 : vc6)
theorem fn56 : FnOk Try.prog 56 sp56 :=
  fn_of (f := 56) (fn := Try.f56) (l := []) (s := sp56) (A := (fun _ => noAnn)) sps_nil Try.func56 (by kernel_rfl) Try.call56 (by kernel_rfl) (@ok56 : vc56)
theorem fn51 : FnOk Try.prog 51 sp51 :=
  fn_of (f := 51) (fn := Try.f51) (l := [(56, some sp56)]) (s := sp51) (A := ann51) (sps_cons fn56 sps_nil) Try.func51 (by kernel_rfl) Try.call51 (by kernel_rfl) (@ok51 : vc51)
theorem fn8 : FnOk Try.prog 8 sp8 :=
  fn_of (f := 8) (fn := Try.f8) (l := []) (s := sp8) (A := ann8) sps_nil Try.func8 (by kernel_rfl) Try.call8 (by kernel_rfl) (@ok8 : vc8)
theorem fn35 : FnOk Try.prog 35 sp35 :=
  fn_of (f := 35) (fn := Try.f35) (l := [(51, some sp51)]) (s := sp35) (A := (fun _ => noAnn)) (sps_cons fn51 sps_nil) Try.func35 (by kernel_rfl) Try.call35 (by kernel_rfl) (@ok35 : vc35)
theorem fn38 : FnOk Try.prog 38 sp38 :=
  fn_of (f := 38) (fn := Try.f38) (l := []) (s := sp38) (A := (fun _ => noAnn)) sps_nil Try.func38 (by kernel_rfl) Try.call38 (by kernel_rfl) (@ok38 : vc38)
theorem fn37 : FnOk Try.prog 37 sp37 :=
  fn_of (f := 37) (fn := Try.f37) (l := []) (s := sp37) (A := (fun _ => noAnn)) sps_nil Try.func37 (by kernel_rfl) Try.call37 (by kernel_rfl) (@ok37 : vc37)
theorem fn40 : FnOk Try.prog 40 sp40 :=
  fn_of (f := 40) (fn := Try.f40) (l := []) (s := sp40) (A := ann40) sps_nil Try.func40 (by kernel_rfl) Try.call40 (by kernel_rfl) (@ok40 : vc40)
theorem fn28 : FnOk Try.prog 28 sp28 :=
  fn_of (f := 28) (fn := Try.f28) (l := [(40, some sp40)]) (s := sp28) (A := (fun _ => noAnn)) (sps_cons fn40 sps_nil) Try.func28 (by kernel_rfl) Try.call28 (by kernel_rfl) (@ok28 : vc28)
theorem fn27 : FnOk Try.prog 27 sp27 :=
  fn_of (f := 27) (fn := Try.f27) (l := []) (s := sp27) (A := ann27) sps_nil Try.func27 (by kernel_rfl) Try.call27 (by kernel_rfl) (@ok27 : vc27)
theorem fn52 : FnOk Try.prog 52 sp52 :=
  fn_of (f := 52) (fn := Try.f52) (l := [(40, some sp40)]) (s := sp52) (A := ann52) (sps_cons fn40 sps_nil) Try.func52 (by kernel_rfl) Try.call52 (by kernel_rfl) (@ok52 : vc52)
theorem fn41 : FnOk Try.prog 41 sp41 :=
  fn_of (f := 41) (fn := Try.f41) (l := [(27, some sp27), (52, some sp52)]) (s := sp41) (A := (fun _ => noAnn)) (sps_cons fn27 (sps_cons fn52 sps_nil)) Try.func41 (by kernel_rfl) Try.call41 (by kernel_rfl) (@ok41 : vc41)
theorem fn9 : FnOk Try.prog 9 sp9 :=
  fn_of (f := 9) (fn := Try.f9) (l := [(12, some sp12)]) (s := sp9) (A := ann9) (sps_cons fn12 sps_nil) Try.func9 (by kernel_rfl) Try.call9 (by kernel_rfl) (@ok9 : vc9)
theorem fn34 : FnOk Try.prog 34 sp34 :=
  fn_of (f := 34) (fn := Try.f34) (l := []) (s := sp34) (A := ann34) sps_nil Try.func34 (by kernel_rfl) Try.call34 (by kernel_rfl) (@ok34 : vc34)
theorem fn36 : FnOk Try.prog 36 sp36 :=
  fn_of (f := 36) (fn := Try.f36) (l := [(22, some sp22)]) (s := sp36) (A := ann36) (sps_cons fn22 sps_nil) Try.func36 (by kernel_rfl) Try.call36 (by kernel_rfl) (@ok36 : vc36)
theorem fn25 : FnOk Try.prog 25 sp25 :=
  fn_of (f := 25) (fn := Try.f25) (l := [(34, some sp34), (21, some sp21), (35, some sp35), (36, some sp36), (9, some sp9)]) (s := sp25) (A := ann25) (sps_cons fn34 (sps_cons fn21 (sps_cons fn35 (sps_cons fn36 (sps_cons fn9 sps_nil))))) Try.func25 (by kernel_rfl) Try.call25 (by kernel_rfl) (@ok25 : vc25)
theorem fn39 : FnOk Try.prog 39 sp39 :=
  fn_of (f := 39) (fn := Try.f39) (l := []) (s := sp39) (A := ann39) sps_nil Try.func39 (by kernel_rfl) Try.call39 (by kernel_rfl) (@ok39 : vc39)
theorem fn11 : FnOk Try.prog 11 sp11 :=
  fn_of (f := 11) (fn := Try.f11) (l := []) (s := sp11) (A := ann11) sps_nil Try.func11 (by kernel_rfl) Try.call11 (by kernel_rfl) (@ok11 : vc11)
theorem fn26 : FnOk Try.prog 26 sp26 :=
  fn_of (f := 26) (fn := Try.f26) (l := [(19, some sp19), (37, some sp37), (22, some sp22), (20, some sp20), (38, some sp38), (39, some sp39)]) (s := sp26) (A := ann26) (sps_cons fn19 (sps_cons fn37 (sps_cons fn22 (sps_cons fn20 (sps_cons fn38 (sps_cons fn39 sps_nil)))))) Try.func26 (by kernel_rfl) Try.call26 (by kernel_rfl) (@ok26 : vc26)
theorem fn29 : FnOk Try.prog 29 sp29 :=
  fn_of (f := 29) (fn := Try.f29) (l := [(34, some sp34), (15, some sp15), (12, some sp12), (41, some sp41), (36, some sp36)]) (s := sp29) (A := ann29) (sps_cons fn34 (sps_cons fn15 (sps_cons fn12 (sps_cons fn41 (sps_cons fn36 sps_nil))))) Try.func29 (by kernel_rfl) Try.call29 (by kernel_rfl) (@ok29 : vc29)
theorem fn10 : FnOk Try.prog 10 sp10 :=
  fn_of (f := 10) (fn := Try.f10) (l := [(7, some sp7), (8, some sp8), (9, some sp9), (25, some sp25), (26, some sp26), (14, some sp14), (27, some sp27), (12, some sp12), (23, some sp23), (28, some sp28), (29, some sp29)]) (s := sp10) (A := ann10) (sps_cons fn7 (sps_cons fn8 (sps_cons fn9 (sps_cons fn25 (sps_cons fn26 (sps_cons fn14 (sps_cons fn27 (sps_cons fn12 (sps_cons fn23 (sps_cons fn28 (sps_cons fn29 sps_nil))))))))))) Try.func10 (by kernel_rfl) Try.call10 (by kernel_rfl) (@ok10 : vc10)
theorem fn3 : FnOk Try.prog 3 sp3 :=
  fn_of (f := 3) (fn := Try.f3) (l := [(6, some sp6), (7, some sp7), (8, some sp8), (9, some sp9), (10, some sp10), (11, some sp11)]) (s := sp3) (A := ann3) (sps_cons fn6 (sps_cons fn7 (sps_cons fn8 (sps_cons fn9 (sps_cons fn10 (sps_cons fn11 sps_nil)))))) Try.func3 (by kernel_rfl) Try.call3 (by kernel_rfl) (@ok3 : vc3)
end Go.Proofs.Ytgoikphefcgleaa.VC
