/- The functions answer as is said. Plain lemmas; no conditions but those that the specifications name. -/
import Derived.Test.YtljimnhijpcjaaaEq
import Derived.Test.YtljimnhijpcjaaaKs
import Derived.Test.YtljimnhijpcjaaaWg
import Derived.Test.YtljimnhijpcjaaaWm
import Derived.KernelRfl
set_option linter.unusedVariables false
namespace Go.Proofs.Ytljimnhijpcjaaa.VC
open Go
set_option maxRecDepth 100000
theorem fn62 : FnOk Try.prog 62 sp62 :=
  fn_of (f := 62) (fn := Try.f62) (l := []) (s := sp62) (A := (fun _ => noAnn)) sps_nil Try.func62 (by kernel_rfl) Try.call62 (by kernel_rfl) (@ok62 : vc62)
theorem fn64 : FnOk Try.prog 64 sp64 :=
  fn_of (f := 64) (fn := Try.f64) (l := []) (s := sp64) (A := (fun _ => noAnn)) sps_nil Try.func64 (by kernel_rfl) Try.call64 (by kernel_rfl) (@ok64 : vc64)
theorem fn52 : FnOk Try.prog 52 sp52 :=
  fn_of (f := 52) (fn := Try.f52) (l := [(62, some sp62), (63, some sp63), (64, some sp64)]) (s := sp52) (A := (fun _ => noAnn)) (sps_cons fn62 (sps_cons fn63 (sps_cons fn64 sps_nil))) Try.func52 (by kernel_rfl) Try.call52 (by kernel_rfl) (@ok52 : vc52)
theorem fn51 : FnOk Try.prog 51 sp51 :=
  fn_of (f := 51) (fn := Try.f51) (l := [(63, some sp63), (64, some sp64)]) (s := sp51) (A := annSum) (sps_cons fn63 (sps_cons fn64 sps_nil)) Try.func51 (by kernel_rfl) Try.call51 (by kernel_rfl) (@ok51 : vc51)
theorem fn49 : FnOk Try.prog 49 sp49 :=
  fn_of (f := 49) (fn := Try.f49) (l := [(62, some sp62), (63, some sp63), (64, some sp64)]) (s := sp49) (A := annWorst) (sps_cons fn62 (sps_cons fn63 (sps_cons fn64 sps_nil))) Try.func49 (by kernel_rfl) Try.call49 (by kernel_rfl) (@ok49 : vc49)
theorem fn36 : FnOk Try.prog 36 sp36 :=
  fn_of (f := 36) (fn := Try.f36) (l := []) (s := sp36) (A := (fun _ => noAnn)) sps_nil Try.func36 (by kernel_rfl) Try.call36 (by kernel_rfl) (@ok36 : vc36)
theorem fn37 : FnOk Try.prog 37 sp37 :=
  fn_of (f := 37) (fn := Try.f37) (l := []) (s := sp37) (A := (fun _ => noAnn)) sps_nil Try.func37 (by kernel_rfl) Try.call37 (by kernel_rfl) (@ok37 : vc37)
theorem fn10 : FnOk Try.prog 10 sp10 :=
  fn_of (f := 10) (fn := Try.f10) (l := [(36, some sp36), (37, some sp37)]) (s := sp10) (A := (fun _ => noAnn)) (sps_cons fn36 (sps_cons fn37 sps_nil)) Try.func10 (by kernel_rfl) Try.call10 (by kernel_rfl) (@ok10 : vc10)
theorem fn50 : FnOk Try.prog 50 sp50 :=
  fn_of (f := 50) (fn := Try.f50) (l := []) (s := sp50) (A := ann50) sps_nil Try.func50 (by kernel_rfl) Try.call50 (by kernel_rfl) (@ok50 : vc50)
theorem fn53 : FnOk Try.prog 53 sp53 :=
  fn_of (f := 53) (fn := Try.f53) (l := [(51, some sp51), (37, some sp37)]) (s := sp53) (A := ann53) (sps_cons fn51 (sps_cons fn37 sps_nil)) Try.func53 (by kernel_rfl) Try.call53 (by kernel_rfl) (@ok53 : vc53)
theorem fn26 : FnOk Try.prog 26 sp26 :=
  fn_of (f := 26) (fn := Try.f26) (l := [(52, some sp52), (50, some sp50), (53, some sp53)]) (s := sp26) (A := (fun _ => noAnn)) (sps_cons fn52 (sps_cons fn50 (sps_cons fn53 sps_nil))) Try.func26 (by kernel_rfl) Try.call26 (by kernel_rfl) (@ok26 : vc26)
theorem fn32 : FnOk Try.prog 32 sp32 :=
  fn_of (f := 32) (fn := Try.f32) (l := [(26, some sp26)]) (s := sp32) (A := (fun _ => noAnn)) (sps_cons fn26 sps_nil) Try.func32 (by kernel_rfl) Try.call32 (by kernel_rfl) (@ok32 : vc32)
theorem fn35 : FnOk Try.prog 35 sp35 :=
  fn_of (f := 35) (fn := Try.f35) (l := []) (s := sp35) (A := (fun _ => noAnn)) sps_nil Try.func35 (by kernel_rfl) Try.call35 (by kernel_rfl) (@ok35 : vc35)
theorem fn30 : FnOk Try.prog 30 sp30 :=
  fn_of (f := 30) (fn := Try.f30) (l := []) (s := sp30) (A := (fun _ => noAnn)) sps_nil Try.func30 (by kernel_rfl) Try.call30 (by kernel_rfl) (@ok30 : vc30)
theorem fn31 : FnOk Try.prog 31 sp31 :=
  fn_of (f := 31) (fn := Try.f31) (l := []) (s := sp31) (A := (fun _ => noAnn)) sps_nil Try.func31 (by kernel_rfl) Try.call31 (by kernel_rfl) (@ok31 : vc31)
theorem fn17 : FnOk Try.prog 17 sp17 :=
  fn_of (f := 17) (fn := Try.f17) (l := [(50, some sp50), (49, some sp49)]) (s := sp17) (A := (fun _ => noAnn)) (sps_cons fn50 (sps_cons fn49 sps_nil)) Try.func17 (by kernel_rfl) Try.call17 (by kernel_rfl) (@ok17 : vc17)
theorem fn20 : FnOk Try.prog 20 sp20 :=
  fn_of (f := 20) (fn := Try.f20) (l := []) (s := sp20) (A := (fun _ => noAnn)) sps_nil Try.func20 (by kernel_rfl) Try.call20 (by kernel_rfl) (@ok20 : vc20)
theorem fn23 : FnOk Try.prog 23 sp23 :=
  fn_of (f := 23) (fn := Try.f23) (l := [(50, some sp50), (51, some sp51)]) (s := sp23) (A := (fun _ => noAnn)) (sps_cons fn50 (sps_cons fn51 sps_nil)) Try.func23 (by kernel_rfl) Try.call23 (by kernel_rfl) (@ok23 : vc23)
theorem fn18 : FnOk Try.prog 18 sp18 :=
  fn_of (f := 18) (fn := Try.f18) (l := []) (s := sp18) (A := (fun _ => noAnn)) sps_nil Try.func18 (by kernel_rfl) Try.call18 (by kernel_rfl) (@ok18 : vc18)
theorem fn48 : FnOk Try.prog 48 sp48 :=
  fn_of (f := 48) (fn := Try.f48) (l := []) (s := sp48) (A := (fun _ => noAnn)) sps_nil Try.func48 (by kernel_rfl) Try.call48 (by kernel_rfl) (@ok48 : vc48)
theorem fn47 : FnOk Try.prog 47 sp47 := ⟨(sorted_fn kI).enter, (sorted_fn kI).calls⟩
theorem fn16 : FnOk Try.prog 16 sp16 :=
  fn_of (f := 16) (fn := Try.f16) (l := [(48, some sp48), (47, some sp47)]) (s := sp16) (A := (fun _ => noAnn)) (sps_cons fn48 (sps_cons fn47 sps_nil)) Try.func16 (by kernel_rfl) Try.call16 (by kernel_rfl) (@ok16 : vc16)
theorem fn29 : FnOk Try.prog 29 sp29 :=
  fn_of (f := 29) (fn := Try.f29) (l := [(54, some sp54)]) (s := sp29) (A := (fun _ => noAnn)) (sps_cons fn54 sps_nil) Try.func29 (by kernel_rfl) Try.call29 (by kernel_rfl) (@ok29 : vc29)
theorem fn27 : FnOk Try.prog 27 sp27 :=
  fn_of (f := 27) (fn := Try.f27) (l := []) (s := sp27) (A := (fun _ => noAnn)) sps_nil Try.func27 (by kernel_rfl) Try.call27 (by kernel_rfl) (@ok27 : vc27)
theorem fn25 : FnOk Try.prog 25 sp25 :=
  fn_of (f := 25) (fn := Try.f25) (l := []) (s := sp25) (A := (fun _ => noAnn)) sps_nil Try.func25 (by kernel_rfl) Try.call25 (by kernel_rfl) (@ok25 : vc25)
theorem fn21 : FnOk Try.prog 21 sp21 :=
  fn_of (f := 21) (fn := Try.f21) (l := [(27, some sp27)]) (s := sp21) (A := (fun _ => noAnn)) (sps_cons fn27 sps_nil) Try.func21 (by kernel_rfl) Try.call21 (by kernel_rfl) (@ok21 : vc21)
theorem fn22 : FnOk Try.prog 22 sp22 :=
  fn_of (f := 22) (fn := Try.f22) (l := [(27, some sp27)]) (s := sp22) (A := (fun _ => noAnn)) (sps_cons fn27 sps_nil) Try.func22 (by kernel_rfl) Try.call22 (by kernel_rfl) (@ok22 : vc22)
theorem fn24 : FnOk Try.prog 24 sp24 :=
  fn_of (f := 24) (fn := Try.f24) (l := []) (s := sp24) (A := (fun _ => noAnn)) sps_nil Try.func24 (by kernel_rfl) Try.call24 (by kernel_rfl) (@ok24 : vc24)
theorem fn14 : FnOk Try.prog 14 sp14 :=
  fn_of (f := 14) (fn := Try.f14) (l := [(10, some sp10), (24, some sp24), (26, some sp26), (32, some sp32)]) (s := sp14) (A := ann14) (sps_cons fn10 (sps_cons fn24 (sps_cons fn26 (sps_cons fn32 sps_nil)))) Try.func14 (by kernel_rfl) Try.call14 (by kernel_rfl) (@ok14 : vc14)
theorem fn15 : FnOk Try.prog 15 sp15 :=
  fn_of (f := 15) (fn := Try.f15) (l := [(35, some sp35)]) (s := sp15) (A := ann15) (sps_cons fn35 sps_nil) Try.func15 (by kernel_rfl) Try.call15 (by kernel_rfl) (@ok15 : vc15)
theorem fn19 : FnOk Try.prog 19 sp19 :=
  fn_of (f := 19) (fn := Try.f19) (l := [(27, some sp27), (25, some sp25)]) (s := sp19) (A := ann19) (sps_cons fn27 (sps_cons fn25 sps_nil)) Try.func19 (by kernel_rfl) Try.call19 (by kernel_rfl) (@ok19 : vc19)
theorem fn9 : FnOk Try.prog 9 sp9 :=
  fn_of (f := 9) (fn := Try.f9) (l := [(10, some sp10), (32, some sp32), (26, some sp26), (35, some sp35), (29, some sp29), (17, some sp17), (16, some sp16), (23, some sp23), (30, some sp30), (20, some sp20), (31, some sp31), (18, some sp18)]) (s := sp9) (A := (fun _ => noAnn)) (sps_cons fn10 (sps_cons fn32 (sps_cons fn26 (sps_cons fn35 (sps_cons fn29 (sps_cons fn17 (sps_cons fn16 (sps_cons fn23 (sps_cons fn30 (sps_cons fn20 (sps_cons fn31 (sps_cons fn18 sps_nil)))))))))))) Try.func9 (by kernel_rfl) Try.call9 (by kernel_rfl) (@ok9 : vc9)
theorem fn33 : FnOk Try.prog 33 sp33 :=
  fn_of (f := 33) (fn := Try.f33) (l := []) (s := sp33) (A := annSame10) sps_nil Try.func33 (by kernel_rfl) Try.call33 (by kernel_rfl) (@ok33 : vc33)
theorem fn34 : FnOk Try.prog 34 sp34 :=
  fn_of (f := 34) (fn := Try.f34) (l := [(16, some sp16)]) (s := sp34) (A := (fun _ => noAnn)) (sps_cons fn16 sps_nil) Try.func34 (by kernel_rfl) Try.call34 (by kernel_rfl) (@ok34 : vc34)
theorem fn8 : FnOk Try.prog 8 sp8 :=
  fn_of (f := 8) (fn := Try.f8) (l := [(9, some sp9), (14, some sp14), (24, some sp24), (32, some sp32), (30, some sp30), (16, some sp16), (29, some sp29), (33, some sp33), (23, some sp23), (15, some sp15), (31, some sp31), (20, some sp20), (34, some sp34)]) (s := sp8) (A := ann8) (sps_cons fn9 (sps_cons fn14 (sps_cons fn24 (sps_cons fn32 (sps_cons fn30 (sps_cons fn16 (sps_cons fn29 (sps_cons fn33 (sps_cons fn23 (sps_cons fn15 (sps_cons fn31 (sps_cons fn20 (sps_cons fn34 sps_nil))))))))))))) Try.func8 (by kernel_rfl) Try.call8 (by kernel_rfl) (@ok8 : vc8)
end Go.Proofs.Ytljimnhijpcjaaa.VC
