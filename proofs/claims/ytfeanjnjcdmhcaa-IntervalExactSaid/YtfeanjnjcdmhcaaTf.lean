/- The functions answer as is said. Plain lemmas; no conditions but those that the specifications name. -/
import Derived.Test.YtfeanjnjcdmhcaaEp
import Derived.Test.YtfeanjnjcdmhcaaWg
import Derived.KernelRfl
set_option linter.unusedVariables false
namespace Go.Proofs.Ytfeanjnjcdmhcaa.VC
open Go
set_option maxRecDepth 100000
theorem fn33 : FnOk Try.prog 33 sp33 :=
  fn_of (f := 33) (fn := Try.f33) (l := []) (s := sp33) (A := (fun _ => noAnn)) sps_nil Try.func33 (by kernel_rfl) Try.call33 (by kernel_rfl) (@ok33 : vc33)
theorem fn32 : FnOk Try.prog 32 sp32 :=
  fn_of (f := 32) (fn := Try.f32) (l := []) (s := sp32) (A := (fun _ => noAnn)) sps_nil Try.func32 (by kernel_rfl) Try.call32 (by kernel_rfl) (@ok32 : vc32)
theorem fn16 : FnOk Try.prog 16 sp16 :=
  fn_of (f := 16) (fn := Try.f16) (l := [(33, some sp33), (31, some sp31), (32, some sp32)]) (s := sp16) (A := (fun _ => noAnn)) (sps_cons fn33 (sps_cons fn31 (sps_cons fn32 sps_nil))) Try.func16 (by kernel_rfl) Try.call16 (by kernel_rfl) (@ok16 : vc16)
theorem fn22 : FnOk Try.prog 22 sp22 :=
  fn_of (f := 22) (fn := Try.f22) (l := [(33, some sp33), (34, some sp34), (32, some sp32)]) (s := sp22) (A := (fun _ => noAnn)) (sps_cons fn33 (sps_cons fn34 (sps_cons fn32 sps_nil))) Try.func22 (by kernel_rfl) Try.call22 (by kernel_rfl) (@ok22 : vc22)
theorem fn17 : FnOk Try.prog 17 sp17 :=
  fn_of (f := 17) (fn := Try.f17) (l := [(22, some sp22)]) (s := sp17) (A := (fun _ => noAnn)) (sps_cons fn22 sps_nil) Try.func17 (by kernel_rfl) Try.call17 (by kernel_rfl) (@ok17 : vc17)
theorem fn12 : FnOk Try.prog 12 sp12 :=
  fn_of (f := 12) (fn := Try.f12) (l := [(31, some sp31), (32, some sp32)]) (s := sp12) (A := annSum) (sps_cons fn31 (sps_cons fn32 sps_nil)) Try.func12 (by kernel_rfl) Try.call12 (by kernel_rfl) (@ok12 : vc12)
theorem fn18 : FnOk Try.prog 18 sp18 :=
  fn_of (f := 18) (fn := Try.f18) (l := [(33, some sp33), (31, some sp31), (32, some sp32)]) (s := sp18) (A := annWorst) (sps_cons fn33 (sps_cons fn31 (sps_cons fn32 sps_nil))) Try.func18 (by kernel_rfl) Try.call18 (by kernel_rfl) (@ok18 : vc18)
theorem fn19 : FnOk Try.prog 19 sp19 :=
  fn_of (f := 19) (fn := Try.f19) (l := []) (s := sp19) (A := (fun _ => noAnn)) sps_nil Try.func19 (by kernel_rfl) Try.call19 (by kernel_rfl) (@ok19 : vc19)
theorem fn20 : FnOk Try.prog 20 sp20 :=
  fn_of (f := 20) (fn := Try.f20) (l := []) (s := sp20) (A := (fun _ => noAnn)) sps_nil Try.func20 (by kernel_rfl) Try.call20 (by kernel_rfl) (@ok20 : vc20)
theorem fn21 : FnOk Try.prog 21 sp21 :=
  fn_of (f := 21) (fn := Try.f21) (l := []) (s := sp21) (A := (fun _ => noAnn)) sps_nil Try.func21 (by kernel_rfl) Try.call21 (by kernel_rfl) (@ok21 : vc21)
theorem fn14 : FnOk Try.prog 14 sp14 :=
  fn_of (f := 14) (fn := Try.f14) (l := []) (s := sp14) (A := (fun _ => noAnn)) sps_nil Try.func14 (by kernel_rfl) Try.call14 (by kernel_rfl) (@ok14 : vc14)
theorem fn23 : FnOk Try.prog 23 sp23 :=
  fn_of (f := 23) (fn := Try.f23) (l := []) (s := sp23) (A := (fun _ => noAnn)) sps_nil Try.func23 (by kernel_rfl) Try.call23 (by kernel_rfl) (@ok23 : vc23)
theorem fn24 : FnOk Try.prog 24 sp24 :=
  fn_of (f := 24) (fn := Try.f24) (l := [(23, some sp23)]) (s := sp24) (A := (fun _ => noAnn)) (sps_cons fn23 sps_nil) Try.func24 (by kernel_rfl) Try.call24 (by kernel_rfl) (@ok24 : vc24)
theorem fn25 : FnOk Try.prog 25 sp25 :=
  fn_of (f := 25) (fn := Try.f25) (l := [(24, some sp24)]) (s := sp25) (A := (fun _ => noAnn)) (sps_cons fn24 sps_nil) Try.func25 (by kernel_rfl) Try.call25 (by kernel_rfl) (@ok25 : vc25)
theorem fn28 : FnOk Try.prog 28 sp28 :=
  fn_of (f := 28) (fn := Try.f28) (l := []) (s := sp28) (A := (fun _ => noAnn)) sps_nil Try.func28 (by kernel_rfl) Try.call28 (by kernel_rfl) (@ok28 : vc28)
theorem fn29 : FnOk Try.prog 29 sp29 :=
  fn_of (f := 29) (fn := Try.f29) (l := []) (s := sp29) (A := (fun _ => noAnn)) sps_nil Try.func29 (by kernel_rfl) Try.call29 (by kernel_rfl) (@ok29 : vc29)
theorem fn30 : FnOk Try.prog 30 sp30 :=
  fn_of (f := 30) (fn := Try.f30) (l := []) (s := sp30) (A := (fun _ => noAnn)) sps_nil Try.func30 (by kernel_rfl) Try.call30 (by kernel_rfl) (@ok30 : vc30)
theorem fn40 : FnOk Try.prog 40 sp40 :=
  fn_of (f := 40) (fn := Try.f40) (l := []) (s := sp40) (A := ann40) sps_nil Try.func40 (by kernel_rfl) Try.call40 (by kernel_rfl) (@ok40 : vc40)
theorem fn35 : FnOk Try.prog 35 sp35 :=
  fn_of (f := 35) (fn := Try.f35) (l := [(40, some sp40), (23, some sp23)]) (s := sp35) (A := ann35) (sps_cons fn40 (sps_cons fn23 sps_nil)) Try.func35 (by kernel_rfl) Try.call35 (by kernel_rfl) (@ok35 : vc35)
theorem fn37 : FnOk Try.prog 37 sp37 :=
  fn_of (f := 37) (fn := Try.f37) (l := [(40, some sp40), (35, some sp35)]) (s := sp37) (A := (fun _ => noAnn)) (sps_cons fn40 (sps_cons fn35 sps_nil)) Try.func37 (by kernel_rfl) Try.call37 (by kernel_rfl) (@ok37 : vc37)
theorem fn26 : FnOk Try.prog 26 sp26 :=
  fn_of (f := 26) (fn := Try.f26) (l := []) (s := sp26) (A := (fun _ => noAnn)) sps_nil Try.func26 (by kernel_rfl) Try.call26 (by kernel_rfl) (@ok26 : vc26)
theorem fn10 : FnOk Try.prog 10 sp10 :=
  fn_of (f := 10) (fn := Try.f10) (l := []) (s := sp10) (A := (fun _ => noAnn)) sps_nil Try.func10 (by kernel_rfl) Try.call10 (by kernel_rfl) (@ok10 : vc10)
theorem fn36 : FnOk Try.prog 36 sp36 :=
  fn_of (f := 36) (fn := Try.f36) (l := []) (s := sp36) (A := ann36) sps_nil Try.func36 (by kernel_rfl) Try.call36 (by kernel_rfl) (@ok36 : vc36)
theorem fn27 : FnOk Try.prog 27 sp27 :=
  fn_of (f := 27) (fn := Try.f27) (l := [(12, some sp12), (18, some sp18), (35, some sp35), (37, some sp37), (14, some sp14), (36, some sp36)]) (s := sp27) (A := (fun _ => noAnn)) (sps_cons fn12 (sps_cons fn18 (sps_cons fn35 (sps_cons fn37 (sps_cons fn14 (sps_cons fn36 sps_nil)))))) Try.func27 (by kernel_rfl) Try.call27 (by kernel_rfl) (@ok27 : vc27)
theorem fn11 : FnOk Try.prog 11 sp11 :=
  fn_of (f := 11) (fn := Try.f11) (l := [(16, some sp16), (23, some sp23), (14, some sp14), (22, some sp22), (24, some sp24), (17, some sp17), (25, some sp25), (26, some sp26), (27, some sp27), (19, some sp19), (28, some sp28), (20, some sp20), (29, some sp29), (21, some sp21), (30, some sp30)]) (s := sp11) (A := ann11) (sps_cons fn16 (sps_cons fn23 (sps_cons fn14 (sps_cons fn22 (sps_cons fn24 (sps_cons fn17 (sps_cons fn25 (sps_cons fn26 (sps_cons fn27 (sps_cons fn19 (sps_cons fn28 (sps_cons fn20 (sps_cons fn29 (sps_cons fn21 (sps_cons fn30 sps_nil))))))))))))))) Try.func11 (by kernel_rfl) Try.call11 (by kernel_rfl) (@ok11 : vc11)
theorem fn9 : FnOk Try.prog 9 sp9 :=
  fn_of (f := 9) (fn := Try.f9) (l := [(16, some sp16), (12, some sp12), (18, some sp18), (22, some sp22), (17, some sp17), (14, some sp14), (19, some sp19), (20, some sp20), (21, some sp21)]) (s := sp9) (A := (fun _ => noAnn)) (sps_cons fn16 (sps_cons fn12 (sps_cons fn18 (sps_cons fn22 (sps_cons fn17 (sps_cons fn14 (sps_cons fn19 (sps_cons fn20 (sps_cons fn21 sps_nil))))))))) Try.func9 (by kernel_rfl) Try.call9 (by kernel_rfl) (@ok9 : vc9)
theorem fn4 : FnOk Try.prog 4 sp4 :=
  fn_of (f := 4) (fn := Try.f4) (l := [(9, some sp9), (10, some sp10), (11, some sp11)]) (s := sp4) (A := ann4) (sps_cons fn9 (sps_cons fn10 (sps_cons fn11 sps_nil))) Try.func4 (by kernel_rfl) Try.call4 (by kernel_rfl) (@ok4 : vc4)
end Go.Proofs.Ytfeanjnjcdmhcaa.VC
