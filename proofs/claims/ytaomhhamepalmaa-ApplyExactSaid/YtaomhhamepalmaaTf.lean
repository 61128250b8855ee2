/- The functions answer as is said. Plain lemmas; no conditions but those that the specifications name. -/
import Derived.Test.YtaomhhamepalmaaAp
import Derived.Test.YtaomhhamepalmaaAw
import Derived.Test.YtaomhhamepalmaaEx1
import Derived.Test.YtaomhhamepalmaaKp1
import Derived.Test.YtaomhhamepalmaaDs1
import Derived.Test.YtaomhhamepalmaaWg
import Derived.KernelRfl
set_option linter.unusedVariables false
namespace Go.Proofs.Ytaomhhamepalmaa.VC
open Go
set_option maxRecDepth 100000
theorem fn39 : FnOk Try.prog 39 sp39 :=
  fn_of (f := 39) (fn := Try.f39) (l := []) (s := sp39) (A := (fun _ => noAnn)) sps_nil Try.func39 (by kernel_rfl) Try.call39 (by kernel_rfl) (@ok39 : vc39)
theorem fn41 : FnOk Try.prog 41 sp41 :=
  fn_of (f := 41) (fn := Try.f41) (l := []) (s := sp41) (A := (fun _ => noAnn)) sps_nil Try.func41 (by kernel_rfl) Try.call41 (by kernel_rfl) (@ok41 : vc41)
theorem fn29 : FnOk Try.prog 29 sp29 :=
  fn_of (f := 29) (fn := Try.f29) (l := [(39, some sp39), (40, some sp40), (41, some sp41)]) (s := sp29) (A := (fun _ => noAnn)) (sps_cons fn39 (sps_cons fn40 (sps_cons fn41 sps_nil))) Try.func29 (by kernel_rfl) Try.call29 (by kernel_rfl) (@ok29 : vc29)
theorem fn30 : FnOk Try.prog 30 sp30 :=
  fn_of (f := 30) (fn := Try.f30) (l := [(39, some sp39), (42, some sp42), (41, some sp41)]) (s := sp30) (A := (fun _ => noAnn)) (sps_cons fn39 (sps_cons fn42 (sps_cons fn41 sps_nil))) Try.func30 (by kernel_rfl) Try.call30 (by kernel_rfl) (@ok30 : vc30)
theorem fn31a : FnOk Try.prog 31 sp31a :=
  fn_of (f := 31) (fn := Try.f31) (l := [(29, some sp29)]) (s := sp31a) (A := (fun _ => noAnn)) (sps_cons fn29 sps_nil) Try.func31 (by kernel_rfl) Try.call31 (by kernel_rfl) (@ok31a : vc31a)
theorem fn31b : FnOk Try.prog 31 sp31b :=
  fn_of (f := 31) (fn := Try.f31) (l := [(30, some sp30)]) (s := sp31b) (A := (fun _ => noAnn)) (sps_cons fn30 sps_nil) Try.func31 (by kernel_rfl) Try.call31 (by kernel_rfl) (@ok31b : vc31b)
theorem fn43 : FnOk Try.prog 43 sp43 :=
  fn_of (f := 43) (fn := Try.f43) (l := [(29, some sp29)]) (s := sp43) (A := (fun _ => noAnn)) (sps_cons fn29 sps_nil) Try.func43 (by kernel_rfl) Try.call43 (by kernel_rfl) (@ok43 : vc43)
theorem fn37 : FnOk Try.prog 37 sp37 :=
  fn_of (f := 37) (fn := Try.f37) (l := []) (s := sp37) (A := ann37) sps_nil Try.func37 (by kernel_rfl) Try.call37 (by kernel_rfl) (@ok37 : vc37)
theorem fn38 : FnOk Try.prog 38 sp38 :=
  fn_of (f := 38) (fn := Try.f38) (l := []) (s := sp38) (A := ann38) sps_nil Try.func38 (by kernel_rfl) Try.call38 (by kernel_rfl) (@ok38 : vc38)
theorem fn28 : FnOk Try.prog 28 sp28 :=
  fn_of (f := 28) (fn := Try.f28) (l := [(37, some sp37), (38, some sp38)]) (s := sp28) (A := ann28) (sps_cons fn37 (sps_cons fn38 sps_nil)) Try.func28 (by kernel_rfl) Try.call28 (by kernel_rfl) (@ok28 : vc28)
theorem fn27 : FnOk Try.prog 27 sp27 :=
  fn_of (f := 27) (fn := Try.f27) (l := []) (s := sp27) (A := (fun _ => noAnn)) sps_nil Try.func27 (by kernel_rfl) Try.call27 (by kernel_rfl) (@ok27 : vc27)
theorem fn32a : FnOk Try.prog 32 sp32a :=
  fn_of (f := 32) (fn := Try.f32) (l := [(31, some sp31a)]) (s := sp32a) (A := ann32) (sps_cons fn31a sps_nil) Try.func32 (by kernel_rfl) Try.call32 (by kernel_rfl) (@ok32a : vc32a)
theorem fn32b : FnOk Try.prog 32 sp32b :=
  fn_of (f := 32) (fn := Try.f32) (l := [(31, some sp31b)]) (s := sp32b) (A := ann32) (sps_cons fn31b sps_nil) Try.func32 (by kernel_rfl) Try.call32 (by kernel_rfl) (@ok32b : vc32b)
theorem fn33a : FnOk Try.prog 33 sp33a :=
  fn_of (f := 33) (fn := Try.f33) (l := [(31, some sp31a), (43, some sp43)]) (s := sp33a) (A := ann33) (sps_cons fn31a (sps_cons fn43 sps_nil)) Try.func33 (by kernel_rfl) Try.call33 (by kernel_rfl) (@ok33a : vc33a)
theorem fn33b : FnOk Try.prog 33 sp33b :=
  fn_of (f := 33) (fn := Try.f33) (l := [(31, some sp31b), (43, some sp43)]) (s := sp33b) (A := ann33) (sps_cons fn31b (sps_cons fn43 sps_nil)) Try.func33 (by kernel_rfl) Try.call33 (by kernel_rfl) (@ok33b : vc33b)
theorem fn32 : FnOk Try.prog 32 sp32 := fn_both fn32a fn32b rfl rfl
theorem fn33 : FnOk Try.prog 33 sp33 := fn_both fn33a fn33b rfl rfl
theorem fn18 : FnOk Try.prog 18 sp18 :=
  fn_of (f := 18) (fn := Try.f18) (l := []) (s := sp18) (A := (fun _ => noAnn)) sps_nil Try.func18 (by kernel_rfl) Try.call18 (by kernel_rfl) (@ok18 : vc18)
theorem fn20 : FnOk Try.prog 20 sp20 :=
  fn_of (f := 20) (fn := Try.f20) (l := []) (s := sp20) (A := ann20) sps_nil Try.func20 (by kernel_rfl) Try.call20 (by kernel_rfl) (@ok20 : vc20)
theorem fn15 : FnOk Try.prog 15 sp15 :=
  fn_of (f := 15) (fn := Try.f15) (l := []) (s := sp15) (A := ann15) sps_nil Try.func15 (by kernel_rfl) Try.call15 (by kernel_rfl) (@ok15 : vc15)
theorem fn10 : FnOk Try.prog 10 sp10 :=
  fn_of (f := 10) (fn := Try.f10) (l := []) (s := sp10) (A := (fun _ => noAnn)) sps_nil Try.func10 (by kernel_rfl) Try.call10 (by kernel_rfl) (@ok10 : vc10)
theorem fn14 : FnOk Try.prog 14 sp14 :=
  fn_of (f := 14) (fn := Try.f14) (l := []) (s := sp14) (A := (fun _ => noAnn)) sps_nil Try.func14 (by kernel_rfl) Try.call14 (by kernel_rfl) (@ok14 : vc14)
theorem fn16a : FnOk Try.prog 16 sp16a :=
  fn_of (f := 16) (fn := Try.f16) (l := []) (s := sp16a) (A := (fun _ => noAnn)) sps_nil Try.func16 (by kernel_rfl) Try.call16 (by kernel_rfl) (@ok16a : vc16a)
theorem fn16b : FnOk Try.prog 16 sp16b :=
  fn_of (f := 16) (fn := Try.f16) (l := []) (s := sp16b) (A := (fun _ => noAnn)) sps_nil Try.func16 (by kernel_rfl) Try.call16 (by kernel_rfl) (@ok16b : vc16b)
theorem fn16 : FnOk Try.prog 16 sp16 := fn_both fn16a fn16b rfl rfl
theorem fn21 : FnOk Try.prog 21 sp21 :=
  fn_of (f := 21) (fn := Try.f21) (l := [(27, some sp27)]) (s := sp21) (A := (fun _ => noAnn)) (sps_cons fn27 sps_nil) Try.func21 (by kernel_rfl) Try.call21 (by kernel_rfl) (@ok21 : vc21)
theorem fn17 : FnOk Try.prog 17 sp17 :=
  fn_of (f := 17) (fn := Try.f17) (l := [(27, some sp27), (28, some sp28), (32, some sp32), (33, some sp33)]) (s := sp17) (A := (fun _ => noAnn)) (sps_cons fn27 (sps_cons fn28 (sps_cons fn32 (sps_cons fn33 sps_nil)))) Try.func17 (by kernel_rfl) Try.call17 (by kernel_rfl) (@ok17 : vc17)
theorem fn8 : FnOk Try.prog 8 sp8 :=
  fn_of (f := 8) (fn := Try.f8) (l := [(17, some sp17), (18, some sp18), (16, some sp16), (15, some sp15), (21, some sp21), (20, some sp20)]) (s := sp8) (A := (fun _ => noAnn)) (sps_cons fn17 (sps_cons fn18 (sps_cons fn16 (sps_cons fn15 (sps_cons fn21 (sps_cons fn20 sps_nil)))))) Try.func8 (by kernel_rfl) Try.call8 (by kernel_rfl) (@ok8 : vc8)
theorem fn48 : FnOk Try.prog 48 sp48 :=
  fn_of (f := 48) (fn := Try.f48) (l := []) (s := sp48) (A := (fun _ => noAnn)) sps_nil Try.func48 (by kernel_rfl) Try.call48 (by kernel_rfl) (@ok48 : vc48)
theorem fn47 : FnOk Try.prog 47 sp47 :=
  fn_of (f := 47) (fn := Try.f47) (l := [(48, some sp48)]) (s := sp47) (A := (fun _ => noAnn)) (sps_cons fn48 sps_nil) Try.func47 (by kernel_rfl) Try.call47 (by kernel_rfl) (@ok47 : vc47)
theorem fn44 : FnOk Try.prog 44 sp44 :=
  fn_of (f := 44) (fn := Try.f44) (l := [(47, some sp47), (48, some sp48)]) (s := sp44) (A := (fun _ => noAnn)) (sps_cons fn47 (sps_cons fn48 sps_nil)) Try.func44 (by kernel_rfl) Try.call44 (by kernel_rfl) (@ok44 : vc44)
theorem fn34 : FnOk Try.prog 34 sp34 :=
  fn_of (f := 34) (fn := Try.f34) (l := []) (s := sp34) (A := (fun _ => noAnn)) sps_nil Try.func34 (by kernel_rfl) Try.call34 (by kernel_rfl) (@ok34 : vc34)
theorem fn9 : FnOk Try.prog 9 sp9 :=
  fn_of (f := 9) (fn := Try.f9) (l := []) (s := sp9) (A := (fun _ => noAnn)) sps_nil Try.func9 (by kernel_rfl) Try.call9 (by kernel_rfl) (@ok9 : vc9)
theorem fn35 : FnOk Try.prog 35 sp35 :=
  fn_of (f := 35) (fn := Try.f35) (l := [(44, some sp44)]) (s := sp35) (A := ann35) (sps_cons fn44 sps_nil) Try.func35 (by kernel_rfl) Try.call35 (by kernel_rfl) (@ok35 : vc35)
theorem fn36 : FnOk Try.prog 36 sp36 :=
  fn_of (f := 36) (fn := Try.f36) (l := [(44, some sp44)]) (s := sp36) (A := ann36) (sps_cons fn44 sps_nil) Try.func36 (by kernel_rfl) Try.call36 (by kernel_rfl) (@ok36 : vc36)
theorem fn22 : FnOk Try.prog 22 sp22 :=
  fn_of (f := 22) (fn := Try.f22) (l := [(34, some sp34), (9, some sp9), (35, some sp35), (36, some sp36)]) (s := sp22) (A := ann22) (sps_cons fn34 (sps_cons fn9 (sps_cons fn35 (sps_cons fn36 sps_nil)))) Try.func22 (by kernel_rfl) Try.call22 (by kernel_rfl) (@ok22 : vc22)
theorem fn23 : FnOk Try.prog 23 sp23 :=
  fn_of (f := 23) (fn := Try.f23) (l := [(34, some sp34)]) (s := sp23) (A := (fun _ => noAnn)) (sps_cons fn34 sps_nil) Try.func23 (by kernel_rfl) Try.call23 (by kernel_rfl) (@ok23 : vc23)
theorem fn16c : FnOk Try.prog 16 sp16c :=
  fn_of (f := 16) (fn := Try.f16) (l := []) (s := sp16c) (A := (fun _ => noAnn)) sps_nil Try.func16 (by kernel_rfl) Try.call16 (by kernel_rfl) (@ok16c : vc16c)
theorem fn16d : FnOk Try.prog 16 sp16d :=
  fn_of (f := 16) (fn := Try.f16) (l := []) (s := sp16d) (A := (fun _ => noAnn)) sps_nil Try.func16 (by kernel_rfl) Try.call16 (by kernel_rfl) (@ok16d : vc16d)
theorem fn16p : FnOk Try.prog 16 sp16p := fn_both fn16c fn16d rfl rfl
theorem fn24 : FnOk Try.prog 24 sp24 :=
  fn_of (f := 24) (fn := Try.f24) (l := [(16, some sp16p), (15, some sp15)]) (s := sp24) (A := (fun _ => noAnn)) (sps_cons fn16p (sps_cons fn15 sps_nil)) Try.func24 (by kernel_rfl) Try.call24 (by kernel_rfl) (@ok24 : vc24)
theorem fn25 : FnOk Try.prog 25 sp25 :=
  fn_of (f := 25) (fn := Try.f25) (l := []) (s := sp25) (A := ann25) sps_nil Try.func25 (by kernel_rfl) Try.call25 (by kernel_rfl) (@ok25 : vc25)
theorem fn26 : FnOk Try.prog 26 sp26 :=
  fn_of (f := 26) (fn := Try.f26) (l := []) (s := sp26) (A := ann26) sps_nil Try.func26 (by kernel_rfl) Try.call26 (by kernel_rfl) (@ok26 : vc26)
theorem fn12 : FnOk Try.prog 12 sp12 :=
  fn_of (f := 12) (fn := Try.f12) (l := [(26, some sp26)]) (s := sp12) (A := ann12) (sps_cons fn26 sps_nil) Try.func12 (by kernel_rfl) Try.call12 (by kernel_rfl) (@ok12 : vc12)
theorem fn11 : FnOk Try.prog 11 sp11 :=
  fn_of (f := 11) (fn := Try.f11) (l := [(14, some sp14), (17, some sp17), (22, some sp22), (21, some sp21), (23, some sp23), (18, some sp18), (16, some sp16p), (15, some sp15), (24, some sp24), (20, some sp20), (25, some sp25)]) (s := sp11) (A := ann11) (sps_cons fn14 (sps_cons fn17 (sps_cons fn22 (sps_cons fn21 (sps_cons fn23 (sps_cons fn18 (sps_cons fn16p (sps_cons fn15 (sps_cons fn24 (sps_cons fn20 (sps_cons fn25 sps_nil))))))))))) Try.func11 (by kernel_rfl) Try.call11 (by kernel_rfl) (@ok11 : vc11)
theorem fn3 : FnOk Try.prog 3 sp3 :=
  fn_of (f := 3) (fn := Try.f3) (l := [(8, some sp8), (10, some sp10), (9, some sp9), (11, some sp11), (12, some sp12)]) (s := sp3) (A := ann3) (sps_cons fn8 (sps_cons fn10 (sps_cons fn9 (sps_cons fn11 (sps_cons fn12 sps_nil))))) Try.func3 (by kernel_rfl) Try.call3 (by kernel_rfl) (@ok3 : vc3)
end Go.Proofs.Ytaomhhamepalmaa.VC
