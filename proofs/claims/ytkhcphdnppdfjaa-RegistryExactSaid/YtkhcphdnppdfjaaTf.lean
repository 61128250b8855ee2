/- The functions answer as is said. Plain lemmas; no conditions but those that the specifications name. -/
import Derived.Test.YtkhcphdnppdfjaaLw
import Derived.Test.YtkhcphdnppdfjaaSo
import Derived.KernelRfl
set_option linter.unusedVariables false
namespace Go.Proofs.Ytkhcphdnppdfjaa.VC
open Go
set_option maxRecDepth 100000
theorem fn15 : FnOk Try.prog 15 sp15 :=
  fn_of (f := 15) (fn := Try.f15) (l := []) (s := sp15) (A := (fun _ => noAnn)) sps_nil Try.func15 (by kernel_rfl) Try.call15 (by kernel_rfl) (@ok15 : vc15)
theorem fn29 : FnOk Try.prog 29 sp29 :=
  fn_of (f := 29) (fn := Try.f29) (l := []) (s := sp29) (A := (fun _ => noAnn)) sps_nil Try.func29 (by kernel_rfl) Try.call29 (by kernel_rfl) (@ok29 : vc29)
theorem fn18 : FnOk Try.prog 18 sp18 :=
  fn_of (f := 18) (fn := Try.f18) (l := []) (s := sp18) (A := (fun _ => noAnn)) sps_nil Try.func18 (by kernel_rfl) Try.call18 (by kernel_rfl) (@ok18 : vc18)
theorem fn32 : FnOk Try.prog 32 sp32 :=
  fn_of (f := 32) (fn := Try.f32) (l := []) (s := sp32) (A := (fun _ => noAnn)) sps_nil Try.func32 (by kernel_rfl) Try.call32 (by kernel_rfl) (@ok32 : vc32)
theorem fn30 : FnOk Try.prog 30 sp30 :=
  fn_of (f := 30) (fn := Try.f30) (l := []) (s := sp30) (A := (fun _ => noAnn)) sps_nil Try.func30 (by kernel_rfl) Try.call30 (by kernel_rfl) (@ok30 : vc30)
theorem fn13 : FnOk Try.prog 13 sp13 :=
  fn_of (f := 13) (fn := Try.f13) (l := [(29, some sp29), (30, some sp30)]) (s := sp13) (A := (fun _ => noAnn)) (sps_cons fn29 (sps_cons fn30 sps_nil)) Try.func13 (by kernel_rfl) Try.call13 (by kernel_rfl) (@ok13 : vc13)
theorem fn14 : FnOk Try.prog 14 sp14 :=
  fn_of (f := 14) (fn := Try.f14) (l := [(30, some sp30)]) (s := sp14) (A := (fun _ => noAnn)) (sps_cons fn30 sps_nil) Try.func14 (by kernel_rfl) Try.call14 (by kernel_rfl) (@ok14 : vc14)
theorem fn20 : FnOk Try.prog 20 sp20 :=
  fn_of (f := 20) (fn := Try.f20) (l := [(32, some sp32), (29, some sp29), (30, some sp30)]) (s := sp20) (A := (fun _ => noAnn)) (sps_cons fn32 (sps_cons fn29 (sps_cons fn30 sps_nil))) Try.func20 (by kernel_rfl) Try.call20 (by kernel_rfl) (@ok20 : vc20)
theorem fn19 : FnOk Try.prog 19 sp19 :=
  fn_of (f := 19) (fn := Try.f19) (l := [(20, some sp20)]) (s := sp19) (A := (fun _ => noAnn)) (sps_cons fn20 sps_nil) Try.func19 (by kernel_rfl) Try.call19 (by kernel_rfl) (@ok19 : vc19)
theorem fn16 : FnOk Try.prog 16 sp16 :=
  fn_of (f := 16) (fn := Try.f16) (l := [(31, some sp31)]) (s := sp16) (A := ann16) (sps_cons fn31 sps_nil) Try.func16 (by kernel_rfl) Try.call16 (by kernel_rfl) (@ok16 : vc16)
theorem fn17 : FnOk Try.prog 17 sp17 :=
  fn_of (f := 17) (fn := Try.f17) (l := [(31, some sp31)]) (s := sp17) (A := ann17) (sps_cons fn31 sps_nil) Try.func17 (by kernel_rfl) Try.call17 (by kernel_rfl) (@ok17 : vc17)
theorem fn21 : FnOk Try.prog 21 sp21 :=
  fn_of (f := 21) (fn := Try.f21) (l := []) (s := sp21) (A := ann21) sps_nil Try.func21 (by kernel_rfl) Try.call21 (by kernel_rfl) (@ok21 : vc21)
theorem fn7 : FnOk Try.prog 7 sp7 :=
  fn_of (f := 7) (fn := Try.f7) (l := [(18, some sp18), (15, some sp15), (20, some sp20), (19, some sp19), (13, some sp13), (14, some sp14), (16, some sp16), (17, some sp17), (21, some sp21)]) (s := sp7) (A := (fun _ => noAnn)) (sps_cons fn18 (sps_cons fn15 (sps_cons fn20 (sps_cons fn19 (sps_cons fn13 (sps_cons fn14 (sps_cons fn16 (sps_cons fn17 (sps_cons fn21 sps_nil))))))))) Try.func7 (by kernel_rfl) Try.call7 (by kernel_rfl) (@ok7 : vc7)
theorem fn22 : FnOk Try.prog 22 sp22 :=
  fn_of (f := 22) (fn := Try.f22) (l := []) (s := sp22) (A := ann22) sps_nil Try.func22 (by kernel_rfl) Try.call22 (by kernel_rfl) (@ok22 : vc22)
theorem fn43 : FnOk Try.prog 43 sp43 :=
  fn_of (f := 43) (fn := Try.f43) (l := []) (s := sp43) (A := (fun _ => noAnn)) sps_nil Try.func43 (by kernel_rfl) Try.call43 (by kernel_rfl) (@ok43 : vc43)
theorem fn44 : FnOk Try.prog 44 sp44 :=
  fn_of (f := 44) (fn := Try.f44) (l := []) (s := sp44) (A := (fun _ => noAnn)) sps_nil Try.func44 (by kernel_rfl) Try.call44 (by kernel_rfl) (@ok44 : vc44)
theorem fn45 : FnOk Try.prog 45 sp45 :=
  fn_of (f := 45) (fn := Try.f45) (l := []) (s := sp45) (A := (fun _ => noAnn)) sps_nil Try.func45 (by kernel_rfl) Try.call45 (by kernel_rfl) (@ok45 : vc45)
theorem fn42 : FnOk Try.prog 42 sp42 :=
  fn_of (f := 42) (fn := Try.f42) (l := []) (s := sp42) (A := ann42) sps_nil Try.func42 (by kernel_rfl) Try.call42 (by kernel_rfl) (@ok42 : vc42)
theorem fn34 : FnOk Try.prog 34 sp34 :=
  fn_of (f := 34) (fn := Try.f34) (l := []) (s := sp34) (A := ann34) sps_nil Try.func34 (by kernel_rfl) Try.call34 (by kernel_rfl) (@ok34 : vc34)
theorem fn33 : FnOk Try.prog 33 sp33 :=
  fn_of (f := 33) (fn := Try.f33) (l := [(42, some sp42), (34, some sp34), (43, some sp43), (44, some sp44), (45, some sp45)]) (s := sp33) (A := (fun _ => noAnn)) (sps_cons fn42 (sps_cons fn34 (sps_cons fn43 (sps_cons fn44 (sps_cons fn45 sps_nil))))) Try.func33 (by kernel_rfl) Try.call33 (by kernel_rfl) (@ok33 : vc33)
theorem fn24 : FnOk Try.prog 24 sp24 :=
  fn_of (f := 24) (fn := Try.f24) (l := [(33, some sp33), (34, some sp34)]) (s := sp24) (A := (fun _ => noAnn)) (sps_cons fn33 (sps_cons fn34 sps_nil)) Try.func24 (by kernel_rfl) Try.call24 (by kernel_rfl) (@ok24 : vc24)
theorem fn35 : FnOk Try.prog 35 sp35 :=
  fn_of (f := 35) (fn := Try.f35) (l := [(42, some sp42), (44, some sp44), (34, some sp34), (45, some sp45)]) (s := sp35) (A := (fun _ => noAnn)) (sps_cons fn42 (sps_cons fn44 (sps_cons fn34 (sps_cons fn45 sps_nil)))) Try.func35 (by kernel_rfl) Try.call35 (by kernel_rfl) (@ok35 : vc35)
theorem fn36 : FnOk Try.prog 36 sp36 :=
  fn_of (f := 36) (fn := Try.f36) (l := [(34, some sp34), (45, some sp45)]) (s := sp36) (A := (fun _ => noAnn)) (sps_cons fn34 (sps_cons fn45 sps_nil)) Try.func36 (by kernel_rfl) Try.call36 (by kernel_rfl) (@ok36 : vc36)
theorem fn46 : FnOk Try.prog 46 sp46 :=
  fn_of (f := 46) (fn := Try.f46) (l := []) (s := sp46) (A := ann46) sps_nil Try.func46 (by kernel_rfl) Try.call46 (by kernel_rfl) (@ok46 : vc46)
theorem fn37 : FnOk Try.prog 37 sp37 :=
  fn_of (f := 37) (fn := Try.f37) (l := [(46, some sp46)]) (s := sp37) (A := ann37) (sps_cons fn46 sps_nil) Try.func37 (by kernel_rfl) Try.call37 (by kernel_rfl) (@ok37 : vc37)
theorem fn38 : FnOk Try.prog 38 sp38 :=
  fn_of (f := 38) (fn := Try.f38) (l := [(46, some sp46)]) (s := sp38) (A := (fun _ => noAnn)) (sps_cons fn46 sps_nil) Try.func38 (by kernel_rfl) Try.call38 (by kernel_rfl) (@ok38 : vc38)
theorem fn8 : FnOk Try.prog 8 sp8 :=
  fn_of (f := 8) (fn := Try.f8) (l := [(18, some sp18), (22, some sp22), (15, some sp15)]) (s := sp8) (A := ann8) (sps_cons fn18 (sps_cons fn22 (sps_cons fn15 sps_nil))) Try.func8 (by kernel_rfl) Try.call8 (by kernel_rfl) (@ok8 : vc8)
theorem fn23 : FnOk Try.prog 23 sp23 :=
  fn_of (f := 23) (fn := Try.f23) (l := [(20, some sp20), (33, some sp33), (15, some sp15)]) (s := sp23) (A := ann23) (sps_cons fn20 (sps_cons fn33 (sps_cons fn15 sps_nil))) Try.func23 (by kernel_rfl) Try.call23 (by kernel_rfl) (@ok23 : vc23)
theorem fn25 : FnOk Try.prog 25 sp25 :=
  fn_of (f := 25) (fn := Try.f25) (l := [(33, some sp33), (23, some sp23), (19, some sp19), (15, some sp15), (24, some sp24)]) (s := sp25) (A := ann25) (sps_cons fn33 (sps_cons fn23 (sps_cons fn19 (sps_cons fn15 (sps_cons fn24 sps_nil))))) Try.func25 (by kernel_rfl) Try.call25 (by kernel_rfl) (@ok25 : vc25)
theorem fn26 : FnOk Try.prog 26 sp26 :=
  fn_of (f := 26) (fn := Try.f26) (l := [(13, some sp13), (35, some sp35), (14, some sp14), (36, some sp36), (15, some sp15)]) (s := sp26) (A := ann26) (sps_cons fn13 (sps_cons fn35 (sps_cons fn14 (sps_cons fn36 (sps_cons fn15 sps_nil))))) Try.func26 (by kernel_rfl) Try.call26 (by kernel_rfl) (@ok26 : vc26)
theorem fn39 : FnOk Try.prog 39 sp39 :=
  fn_of (f := 39) (fn := Try.f39) (l := []) (s := sp39) (A := ann39) sps_nil Try.func39 (by kernel_rfl) Try.call39 (by kernel_rfl) (@ok39 : vc39)
theorem fn10 : FnOk Try.prog 10 sp10 :=
  fn_of (f := 10) (fn := Try.f10) (l := []) (s := sp10) (A := ann10) sps_nil Try.func10 (by kernel_rfl) Try.call10 (by kernel_rfl) (@ok10 : vc10)
theorem fn27 : FnOk Try.prog 27 sp27 :=
  fn_of (f := 27) (fn := Try.f27) (l := [(16, some sp16), (17, some sp17), (37, some sp37), (38, some sp38), (21, some sp21), (39, some sp39)]) (s := sp27) (A := ann27) (sps_cons fn16 (sps_cons fn17 (sps_cons fn37 (sps_cons fn38 (sps_cons fn21 (sps_cons fn39 sps_nil)))))) Try.func27 (by kernel_rfl) Try.call27 (by kernel_rfl) (@ok27 : vc27)
theorem fn28 : FnOk Try.prog 28 sp28 :=
  fn_of (f := 28) (fn := Try.f28) (l := [(25, some sp25)]) (s := sp28) (A := ann28) (sps_cons fn25 sps_nil) Try.func28 (by kernel_rfl) Try.call28 (by kernel_rfl) (@ok28 : vc28)
theorem fn9 : FnOk Try.prog 9 sp9 :=
  fn_of (f := 9) (fn := Try.f9) (l := [(8, some sp8), (23, some sp23), (19, some sp19), (24, some sp24), (15, some sp15), (25, some sp25), (26, some sp26), (27, some sp27), (28, some sp28)]) (s := sp9) (A := ann9) (sps_cons fn8 (sps_cons fn23 (sps_cons fn19 (sps_cons fn24 (sps_cons fn15 (sps_cons fn25 (sps_cons fn26 (sps_cons fn27 (sps_cons fn28 sps_nil))))))))) Try.func9 (by kernel_rfl) Try.call9 (by kernel_rfl) (@ok9 : vc9)
theorem fn3 : FnOk Try.prog 3 sp3 :=
  fn_of (f := 3) (fn := Try.f3) (l := [(7, some sp7), (8, some sp8), (9, some sp9), (10, some sp10)]) (s := sp3) (A := ann3) (sps_cons fn7 (sps_cons fn8 (sps_cons fn9 (sps_cons fn10 sps_nil)))) Try.func3 (by kernel_rfl) Try.call3 (by kernel_rfl) (@ok3 : vc3)
end Go.Proofs.Ytkhcphdnppdfjaa.VC
