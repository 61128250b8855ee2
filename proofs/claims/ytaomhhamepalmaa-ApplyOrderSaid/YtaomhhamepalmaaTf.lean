/- The functions of apply, and of its laws, answer as is said. Plain lemmas; no conditions but those that the specifications name. -/
import Derived.Test.YtaomhhamepalmaaAp
import Derived.Test.YtaomhhamepalmaaAw
import Derived.Test.YtaomhhamepalmaaLw
import Derived.Test.YtaomhhamepalmaaWg
import Derived.KernelRfl
set_option linter.unusedVariables false
namespace Go.Proofs.Ytaomhhamepalmaa.VC
open Go
set_option maxRecDepth 100000
theorem fn39 : FnOk Try.prog 39 sp39 :=
  fn_of (f := 39) (fn := Try.f39) (l := []) (s := sp39) (A := (fun _ => noAnn)) sps_nil Try.func39 (by kernel_rfl) Try.call39 (by kernel_rfl) (@ok39 : vc39)
theorem fn41 : FnOk Try.prog 41 sp41 :=
  fn_of (f := 41) (fn := Try.f41) (l := []) (s := sp41) (A := (fun _ => noAnn)) sps_nil Try.func41 (by kernel_rfl) Try.call41 (by kernel_rfl) (@ok41 : vc41)
theorem fn29 : FnOk Try.prog 29 sp29 :=
  fn_of (f := 29) (fn := Try.f29) (l := [(39, some sp39), (40, some sp40), (41, some sp41)]) (s := sp29) (A := (fun _ => noAnn)) (sps_cons fn39 (sps_cons fn40 (sps_cons fn41 sps_nil))) Try.func29 (by kernel_rfl) Try.call29 (by kernel_rfl) (@ok29 : vc29)
theorem fn30 : FnOk Try.prog 30 sp30 :=
  fn_of (f := 30) (fn := Try.f30) (l := [(39, some sp39), (42, some sp42), (41, some sp41)]) (s := sp30) (A := (fun _ => noAnn)) (sps_cons fn39 (sps_cons fn42 (sps_cons fn41 sps_nil))) Try.func30 (by kernel_rfl) Try.call30 (by kernel_rfl) (@ok30 : vc30)
theorem fn31a : FnOk Try.prog 31 sp31a :=
  fn_of (f := 31) (fn := Try.f31) (l := [(29, some sp29)]) (s := sp31a) (A := (fun _ => noAnn)) (sps_cons fn29 sps_nil) Try.func31 (by kernel_rfl) Try.call31 (by kernel_rfl) (@ok31a : vc31a)
theorem fn31b : FnOk Try.prog 31 sp31b :=
  fn_of (f := 31) (fn := Try.f31) (l := [(30, some sp30)]) (s := sp31b) (A := (fun _ => noAnn)) (sps_cons fn30 sps_nil) Try.func31 (by kernel_rfl) Try.call31 (by kernel_rfl) (@ok31b : vc31b)
theorem fn43 : FnOk Try.prog 43 sp43 :=
  fn_of (f := 43) (fn := Try.f43) (l := [(29, some sp29)]) (s := sp43) (A := (fun _ => noAnn)) (sps_cons fn29 sps_nil) Try.func43 (by kernel_rfl) Try.call43 (by kernel_rfl) (@ok43 : vc43)
theorem fn37 : FnOk Try.prog 37 sp37 :=
  fn_of (f := 37) (fn := Try.f37) (l := []) (s := sp37) (A := ann37) sps_nil Try.func37 (by kernel_rfl) Try.call37 (by kernel_rfl) (@ok37 : vc37)
theorem fn38 : FnOk Try.prog 38 sp38 :=
  fn_of (f := 38) (fn := Try.f38) (l := []) (s := sp38) (A := ann38) sps_nil Try.func38 (by kernel_rfl) Try.call38 (by kernel_rfl) (@ok38 : vc38)
theorem fn28 : FnOk Try.prog 28 sp28 :=
  fn_of (f := 28) (fn := Try.f28) (l := [(37, some sp37), (38, some sp38)]) (s := sp28) (A := ann28) (sps_cons fn37 (sps_cons fn38 sps_nil)) Try.func28 (by kernel_rfl) Try.call28 (by kernel_rfl) (@ok28 : vc28)
theorem fn27 : FnOk Try.prog 27 sp27 :=
  fn_of (f := 27) (fn := Try.f27) (l := []) (s := sp27) (A := (fun _ => noAnn)) sps_nil Try.func27 (by kernel_rfl) Try.call27 (by kernel_rfl) (@ok27 : vc27)
theorem fn32a : FnOk Try.prog 32 sp32a :=
  fn_of (f := 32) (fn := Try.f32) (l := [(31, some sp31a)]) (s := sp32a) (A := ann32) (sps_cons fn31a sps_nil) Try.func32 (by kernel_rfl) Try.call32 (by kernel_rfl) (@ok32a : vc32a)
theorem fn32b : FnOk Try.prog 32 sp32b :=
  fn_of (f := 32) (fn := Try.f32) (l := [(31, some sp31b)]) (s := sp32b) (A := ann32) (sps_cons fn31b sps_nil) Try.func32 (by kernel_rfl) Try.call32 (by kernel_rfl) (@ok32b : vc32b)
theorem fn33a : FnOk Try.prog 33 sp33a :=
  fn_of (f := 33) (fn := Try.f33) (l := [(31, some sp31a), (43, some sp43)]) (s := sp33a) (A := ann33) (sps_cons fn31a (sps_cons fn43 sps_nil)) Try.func33 (by kernel_rfl) Try.call33 (by kernel_rfl) (@ok33a : vc33a)
theorem fn33b : FnOk Try.prog 33 sp33b :=
  fn_of (f := 33) (fn := Try.f33) (l := [(31, some sp31b), (43, some sp43)]) (s := sp33b) (A := ann33) (sps_cons fn31b (sps_cons fn43 sps_nil)) Try.func33 (by kernel_rfl) Try.call33 (by kernel_rfl) (@ok33b : vc33b)
theorem fn32 : FnOk Try.prog 32 sp32 := fn_both fn32a fn32b rfl rfl
theorem fn33 : FnOk Try.prog 33 sp33 := fn_both fn33a fn33b rfl rfl
theorem fn18 : FnOk Try.prog 18 sp18 :=
  fn_of (f := 18) (fn := Try.f18) (l := []) (s := sp18) (A := (fun _ => noAnn)) sps_nil Try.func18 (by kernel_rfl) Try.call18 (by kernel_rfl) (@ok18 : vc18)
theorem fn20 : FnOk Try.prog 20 sp20 :=
  fn_of (f := 20) (fn := Try.f20) (l := []) (s := sp20) (A := ann20) sps_nil Try.func20 (by kernel_rfl) Try.call20 (by kernel_rfl) (@ok20 : vc20)
theorem fn15 : FnOk Try.prog 15 sp15 :=
  fn_of (f := 15) (fn := Try.f15) (l := []) (s := sp15) (A := ann15) sps_nil Try.func15 (by kernel_rfl) Try.call15 (by kernel_rfl) (@ok15 : vc15)
theorem fn10 : FnOk Try.prog 10 sp10 :=
  fn_of (f := 10) (fn := Try.f10) (l := []) (s := sp10) (A := (fun _ => noAnn)) sps_nil Try.func10 (by kernel_rfl) Try.call10 (by kernel_rfl) (@ok10 : vc10)
theorem fn14 : FnOk Try.prog 14 sp14 :=
  fn_of (f := 14) (fn := Try.f14) (l := []) (s := sp14) (A := (fun _ => noAnn)) sps_nil Try.func14 (by kernel_rfl) Try.call14 (by kernel_rfl) (@ok14 : vc14)
theorem fn14f : FnOk Try.prog 14 sp14f :=
  fn_of (f := 14) (fn := Try.f14) (l := []) (s := sp14f) (A := ann14f) sps_nil Try.func14 (by kernel_rfl) Try.call14 (by kernel_rfl) (@ok14f : vc14f)
theorem fn16a : FnOk Try.prog 16 sp16a :=
  fn_of (f := 16) (fn := Try.f16) (l := []) (s := sp16a) (A := (fun _ => noAnn)) sps_nil Try.func16 (by kernel_rfl) Try.call16 (by kernel_rfl) (@ok16a : vc16a)
theorem fn16b : FnOk Try.prog 16 sp16b :=
  fn_of (f := 16) (fn := Try.f16) (l := []) (s := sp16b) (A := (fun _ => noAnn)) sps_nil Try.func16 (by kernel_rfl) Try.call16 (by kernel_rfl) (@ok16b : vc16b)
theorem fn16 : FnOk Try.prog 16 sp16 := fn_both fn16a fn16b rfl rfl
theorem fn21 : FnOk Try.prog 21 sp21 :=
  fn_of (f := 21) (fn := Try.f21) (l := [(27, some sp27)]) (s := sp21) (A := (fun _ => noAnn)) (sps_cons fn27 sps_nil) Try.func21 (by kernel_rfl) Try.call21 (by kernel_rfl) (@ok21 : vc21)
theorem fn17 : FnOk Try.prog 17 sp17 :=
  fn_of (f := 17) (fn := Try.f17) (l := [(27, some sp27), (28, some sp28), (32, some sp32), (33, some sp33)]) (s := sp17) (A := (fun _ => noAnn)) (sps_cons fn27 (sps_cons fn28 (sps_cons fn32 (sps_cons fn33 sps_nil)))) Try.func17 (by kernel_rfl) Try.call17 (by kernel_rfl) (@ok17 : vc17)
theorem fn13 : FnOk Try.prog 13 sp13 :=
  fn_of (f := 13) (fn := Try.f13) (l := [(17, some sp17), (18, some sp18)]) (s := sp13) (A := (fun _ => noAnn)) (sps_cons fn17 (sps_cons fn18 sps_nil)) Try.func13 (by kernel_rfl) Try.call13 (by kernel_rfl) (@ok13 : vc13)
theorem fn19 : FnOk Try.prog 19 sp19 :=
  fn_of (f := 19) (fn := Try.f19) (l := [(13, some sp13)]) (s := sp19) (A := ann19) (sps_cons fn13 sps_nil) Try.func19 (by kernel_rfl) Try.call19 (by kernel_rfl) (@ok19 : vc19)
theorem fn8 : FnOk Try.prog 8 sp8 :=
  fn_of (f := 8) (fn := Try.f8) (l := [(17, some sp17), (18, some sp18), (16, some sp16), (15, some sp15), (21, some sp21), (20, some sp20)]) (s := sp8) (A := (fun _ => noAnn)) (sps_cons fn17 (sps_cons fn18 (sps_cons fn16 (sps_cons fn15 (sps_cons fn21 (sps_cons fn20 sps_nil)))))) Try.func8 (by kernel_rfl) Try.call8 (by kernel_rfl) (@ok8 : vc8)
theorem fn4 : FnOk Try.prog 4 sp4 :=
  fn_of (f := 4) (fn := Try.f4) (l := [(8, some sp8), (10, some sp10), (14, some sp14), (13, some sp13), (16, some sp16), (15, some sp15), (17, some sp17), (18, some sp18)]) (s := sp4) (A := (fun _ => noAnn)) (sps_cons fn8 (sps_cons fn10 (sps_cons fn14 (sps_cons fn13 (sps_cons fn16 (sps_cons fn15 (sps_cons fn17 (sps_cons fn18 sps_nil)))))))) Try.func4 (by kernel_rfl) Try.call4 (by kernel_rfl) (@ok4 : vc4)
theorem fn5 : FnOk Try.prog 5 sp5 :=
  fn_of (f := 5) (fn := Try.f5) (l := [(8, some sp8), (10, some sp10), (14, some sp14), (13, some sp13), (16, some sp16), (15, some sp15)]) (s := sp5) (A := (fun _ => noAnn)) (sps_cons fn8 (sps_cons fn10 (sps_cons fn14 (sps_cons fn13 (sps_cons fn16 (sps_cons fn15 sps_nil)))))) Try.func5 (by kernel_rfl) Try.call5 (by kernel_rfl) (@ok5 : vc5)
theorem fn6 : FnOk Try.prog 6 sp6 :=
  fn_of (f := 6) (fn := Try.f6) (l := [(8, some sp8), (10, some sp10), (14, some sp14), (13, some sp13), (16, some sp16), (15, some sp15)]) (s := sp6) (A := (fun _ => noAnn)) (sps_cons fn8 (sps_cons fn10 (sps_cons fn14 (sps_cons fn13 (sps_cons fn16 (sps_cons fn15 sps_nil)))))) Try.func6 (by kernel_rfl) Try.call6 (by kernel_rfl) (@ok6 : vc6)
theorem fn7 : FnOk Try.prog 7 sp7 :=
  fn_of (f := 7) (fn := Try.f7) (l := [(8, some sp8), (10, some sp10), (14, some sp14f), (19, some sp19), (16, some sp16), (15, some sp15)]) (s := sp7) (A := ann7) (sps_cons fn8 (sps_cons fn10 (sps_cons fn14f (sps_cons fn19 (sps_cons fn16 (sps_cons fn15 sps_nil)))))) Try.func7 (by kernel_rfl) Try.call7 (by kernel_rfl) (@ok7 : vc7)
end Go.Proofs.Ytaomhhamepalmaa.VC
