/- The functions answer as is said. Plain lemmas; no conditions but those that the specifications name. -/
import Derived.Test.YtncecddhknfimaaLb
import Derived.Test.YtncecddhknfimaaKs
import Derived.KernelRfl
set_option linter.unusedVariables false
namespace Go.Proofs.Ytncecddhknfimaa.VC
open Go
set_option maxRecDepth 100000
theorem fn47 : FnOk Try.prog 47 sp47 :=
  fn_of (f := 47) (fn := Try.f47) (l := []) (s := sp47) (A := (fun _ => noAnn)) sps_nil Try.func47 (by kernel_rfl) Try.call47 (by kernel_rfl) (@ok47 : vc47)
theorem fn48 : FnOk Try.prog 48 sp48 :=
  fn_of (f := 48) (fn := Try.f48) (l := [(47, some sp47)]) (s := sp48) (A := (fun _ => noAnn)) (sps_cons fn47 sps_nil) Try.func48 (by kernel_rfl) Try.call48 (by kernel_rfl) (@ok48 : vc48)
theorem fn50 : FnOk Try.prog 50 sp50 :=
  fn_of (f := 50) (fn := Try.f50) (l := []) (s := sp50) (A := (fun _ => noAnn)) sps_nil Try.func50 (by kernel_rfl) Try.call50 (by kernel_rfl) (@ok50 : vc50)
theorem fn51 : FnOk Try.prog 51 sp51 :=
  fn_of (f := 51) (fn := Try.f51) (l := []) (s := sp51) (A := (fun _ => noAnn)) sps_nil Try.func51 (by kernel_rfl) Try.call51 (by kernel_rfl) (@ok51 : vc51)
theorem fn49 : FnOk Try.prog 49 sp49 :=
  fn_of (f := 49) (fn := Try.f49) (l := [(47, some sp47), (50, some sp50)]) (s := sp49) (A := ann49) (sps_cons fn47 (sps_cons fn50 sps_nil)) Try.func49 (by kernel_rfl) Try.call49 (by kernel_rfl) (@ok49 : vc49)
theorem fn36 : FnOk Try.prog 36 sp36 :=
  fn_of (f := 36) (fn := Try.f36) (l := [(47, some sp47), (48, some sp48), (50, some sp50), (51, some sp51), (49, some sp49)]) (s := sp36) (A := (fun _ => noAnn)) (sps_cons fn47 (sps_cons fn48 (sps_cons fn50 (sps_cons fn51 (sps_cons fn49 sps_nil))))) Try.func36 (by kernel_rfl) Try.call36 (by kernel_rfl) (@ok36 : vc36)
theorem fn37 : FnOk Try.prog 37 sp37 :=
  fn_of (f := 37) (fn := Try.f37) (l := []) (s := sp37) (A := (fun _ => noAnn)) sps_nil Try.func37 (by kernel_rfl) Try.call37 (by kernel_rfl) (@ok37 : vc37)
theorem fn38 : FnOk Try.prog 38 sp38 :=
  fn_of (f := 38) (fn := Try.f38) (l := [(37, some sp37)]) (s := sp38) (A := (fun _ => noAnn)) (sps_cons fn37 sps_nil) Try.func38 (by kernel_rfl) Try.call38 (by kernel_rfl) (@ok38 : vc38)
theorem fn52 : FnOk Try.prog 52 sp52 :=
  fn_of (f := 52) (fn := Try.f52) (l := []) (s := sp52) (A := (fun _ => noAnn)) sps_nil Try.func52 (by kernel_rfl) Try.call52 (by kernel_rfl) (@ok52 : vc52)
theorem fn54 : FnOk Try.prog 54 sp54 :=
  fn_of (f := 54) (fn := Try.f54) (l := []) (s := sp54) (A := (fun _ => noAnn)) sps_nil Try.func54 (by kernel_rfl) Try.call54 (by kernel_rfl) (@ok54 : vc54)
theorem fn57 : FnOk Try.prog 57 sp57 :=
  fn_of (f := 57) (fn := Try.f57) (l := [(52, some sp52)]) (s := sp57) (A := (fun _ => noAnn)) (sps_cons fn52 sps_nil) Try.func57 (by kernel_rfl) Try.call57 (by kernel_rfl) (@ok57 : vc57)
theorem fn53 : FnOk Try.prog 53 sp53 :=
  fn_of (f := 53) (fn := Try.f53) (l := []) (s := sp53) (A := (fun _ => noAnn)) sps_nil Try.func53 (by kernel_rfl) Try.call53 (by kernel_rfl) (@ok53 : vc53)
theorem fn55 : FnOk Try.prog 55 sp55 :=
  fn_of (f := 55) (fn := Try.f55) (l := []) (s := sp55) (A := (fun _ => noAnn)) sps_nil Try.func55 (by kernel_rfl) Try.call55 (by kernel_rfl) (@ok55 : vc55)
theorem fn56 : FnOk Try.prog 56 sp56 :=
  fn_of (f := 56) (fn := Try.f56) (l := []) (s := sp56) (A := (fun _ => noAnn)) sps_nil Try.func56 (by kernel_rfl) Try.call56 (by kernel_rfl) (@ok56 : vc56)
theorem fn39 : FnOk Try.prog 39 sp39 :=
  fn_of (f := 39) (fn := Try.f39) (l := []) (s := sp39) (A := (fun _ => noAnn)) sps_nil Try.func39 (by kernel_rfl) Try.call39 (by kernel_rfl) (@ok39 : vc39)
theorem fn24 : FnOk Try.prog 24 sp24 :=
  fn_of (f := 24) (fn := Try.f24) (l := [(37, some sp37), (38, some sp38), (39, some sp39), (52, some sp52), (53, some sp53), (54, some sp54), (55, some sp55), (56, some sp56), (57, some sp57)]) (s := sp24) (A := (fun _ => noAnn)) (sps_cons fn37 (sps_cons fn38 (sps_cons fn39 (sps_cons fn52 (sps_cons fn53 (sps_cons fn54 (sps_cons fn55 (sps_cons fn56 (sps_cons fn57 sps_nil))))))))) Try.func24 (by kernel_rfl) Try.call24 (by kernel_rfl) (@ok24 : vc24)
theorem fn26 : FnOk Try.prog 26 sp26 :=
  fn_of (f := 26) (fn := Try.f26) (l := []) (s := sp26) (A := (fun _ => noAnn)) sps_nil Try.func26 (by kernel_rfl) Try.call26 (by kernel_rfl) (@ok26 : vc26)
theorem fn41 : FnOk Try.prog 41 sp41 :=
  fn_of (f := 41) (fn := Try.f41) (l := []) (s := sp41) (A := (fun _ => noAnn)) sps_nil Try.func41 (by kernel_rfl) Try.call41 (by kernel_rfl) (@ok41 : vc41)
theorem fn40 : FnOk Try.prog 40 sp40 := ⟨(sorted_fn kL).enter, (sorted_fn kL).calls⟩
theorem fn25 : FnOk Try.prog 25 sp25 :=
  fn_of (f := 25) (fn := Try.f25) (l := [(41, some sp41), (40, some sp40)]) (s := sp25) (A := ann25) (sps_cons fn41 (sps_cons fn40 sps_nil)) Try.func25 (by kernel_rfl) Try.call25 (by kernel_rfl) (@ok25 : vc25)
theorem fn22b : FnOk Try.prog 22 sp22b :=
  fn_of (f := 22) (fn := Try.f22) (l := [(37, some sp37)]) (s := sp22b) (A := (fun _ => noAnn)) (sps_cons fn37 sps_nil) Try.func22 (by kernel_rfl) Try.call22 (by kernel_rfl) (@ok22b : vc22b)
theorem fn23b : FnOk Try.prog 23 sp23b :=
  fn_of (f := 23) (fn := Try.f23) (l := [(22, some sp22b), (37, some sp37)]) (s := sp23b) (A := ann23) (sps_cons fn22b (sps_cons fn37 sps_nil)) Try.func23 (by kernel_rfl) Try.call23 (by kernel_rfl) (@ok23b : vc23b)
theorem fn21 : FnOk Try.prog 21 sp21 :=
  fn_of (f := 21) (fn := Try.f21) (l := [(36, some sp36)]) (s := sp21) (A := ann21) (sps_cons fn36 sps_nil) Try.func21 (by kernel_rfl) Try.call21 (by kernel_rfl) (@ok21 : vc21)
theorem fn9 : FnOk Try.prog 9 sp9 :=
  fn_of (f := 9) (fn := Try.f9) (l := [(21, some sp21), (22, some sp22b), (23, some sp23b), (24, some sp24), (25, some sp25), (26, some sp26)]) (s := sp9) (A := ann9) (sps_cons fn21 (sps_cons fn22b (sps_cons fn23b (sps_cons fn24 (sps_cons fn25 (sps_cons fn26 sps_nil)))))) Try.func9 (by kernel_rfl) Try.call9 (by kernel_rfl) (@ok9 : vc9)
theorem fn19 : FnOk Try.prog 19 sp19 :=
  fn_of (f := 19) (fn := Try.f19) (l := []) (s := sp19) (A := (fun _ => noAnn)) sps_nil Try.func19 (by kernel_rfl) Try.call19 (by kernel_rfl) (@ok19 : vc19)
theorem fn11 : FnOk Try.prog 11 sp11 :=
  fn_of (f := 11) (fn := Try.f11) (l := []) (s := sp11) (A := (fun _ => noAnn)) sps_nil Try.func11 (by kernel_rfl) Try.call11 (by kernel_rfl) (@ok11 : vc11)
theorem fn17 : FnOk Try.prog 17 sp17 :=
  fn_of (f := 17) (fn := Try.f17) (l := []) (s := sp17) (A := ann17) sps_nil Try.func17 (by kernel_rfl) Try.call17 (by kernel_rfl) (@ok17 : vc17)
theorem fn18 : FnOk Try.prog 18 sp18 :=
  fn_of (f := 18) (fn := Try.f18) (l := []) (s := sp18) (A := ann18) sps_nil Try.func18 (by kernel_rfl) Try.call18 (by kernel_rfl) (@ok18 : vc18)
theorem fn12 : FnOk Try.prog 12 sp12 :=
  fn_of (f := 12) (fn := Try.f12) (l := []) (s := sp12) (A := ann12) sps_nil Try.func12 (by kernel_rfl) Try.call12 (by kernel_rfl) (@ok12 : vc12)
theorem fn35 : FnOk Try.prog 35 sp35 :=
  fn_of (f := 35) (fn := Try.f35) (l := [(19, some sp19)]) (s := sp35) (A := ann35) (sps_cons fn19 sps_nil) Try.func35 (by kernel_rfl) Try.call35 (by kernel_rfl) (@ok35 : vc35)
theorem fn16 : FnOk Try.prog 16 sp16 :=
  fn_of (f := 16) (fn := Try.f16) (l := [(9, some sp9), (11, some sp11), (35, some sp35)]) (s := sp16) (A := ann16) (sps_cons fn9 (sps_cons fn11 (sps_cons fn35 sps_nil))) Try.func16 (by kernel_rfl) Try.call16 (by kernel_rfl) (@ok16 : vc16)
theorem fn6 : FnOk Try.prog 6 sp6 :=
  fn_of (f := 6) (fn := Try.f6) (l := [(9, some sp9), (11, some sp11), (12, some sp12)]) (s := sp6) (A := ann6) (sps_cons fn9 (sps_cons fn11 (sps_cons fn12 sps_nil))) Try.func6 (by kernel_rfl) Try.call6 (by kernel_rfl) (@ok6 : vc6)
end Go.Proofs.Ytncecddhknfimaa.VC
