/- What is said of the laws of Apply. Definitions alone; no conditions. -/
import Derived.Test.YtaomhhamepalmaaSp
set_option linter.unusedVariables false
namespace Go.Proofs.Ytaomhhamepalmaa.VC
open Go
structure OnceArg where
  p : (((Int)) × ((Int)) × (List ((((Int)) × ((Int)) × (((Int)) × ((Int))) × ((Int))))) × (List ((((Int)) × ((Int))))))
  r : (((Int)) × ((Int)) × ((Int)) × ((Int)) × ((((Int)) × ((Int)))) × ((((Int)) × ((Int)))) × ((Int)) × ((((Int)) × ((Int)) × (((Int)) × ((Int))) × ((Int)))) × (((List ((((Int)) × ((Int)) × (Bool) × (Bool)))) × (List ((((Int)) × ((Int))))) × ((Int)))))
  o : (((Int)) × ((Int)) × ((Int)) × ((Int)) × ((((Int)) × ((Int)))) × ((((Int)) × ((Int)))) × ((Int)) × ((((Int)) × ((Int)) × (((Int)) × ((Int))) × ((Int)))) × (((List ((((Int)) × ((Int)) × (Bool) × (Bool)))) × (List ((((Int)) × ((Int))))) × ((Int)))))
def sp4 : Spc := spcOf [.v kPG, .v kR, .v kR] [] (G := OnceArg) (fun d => ⟨d.1.1, d.1.2.1, d.1.2.2.1⟩) (fun g => ((g.p, g.r, g.o, ()), ())) (fun _ => rfl) (fun x => .det [] [] (.bool true) [] []) (own := false) (still := false)
structure BackArg where
  p : (((Int)) × ((Int)) × (List ((((Int)) × ((Int)) × (((Int)) × ((Int))) × ((Int))))) × (List ((((Int)) × ((Int))))))
  r : (((Int)) × ((Int)) × ((Int)) × ((Int)) × ((((Int)) × ((Int)))) × ((((Int)) × ((Int)))) × ((Int)) × ((((Int)) × ((Int)) × (((Int)) × ((Int))) × ((Int)))) × (((List ((((Int)) × ((Int)) × (Bool) × (Bool)))) × (List ((((Int)) × ((Int))))) × ((Int)))))
  m : (Int)
def sp5 : Spc := spcOf [.v kPG, .v kR, .v kI] [] (G := BackArg) (fun d => ⟨d.1.1, d.1.2.1, d.1.2.2.1⟩) (fun g => ((g.p, g.r, g.m, ()), ())) (fun _ => rfl) (fun x => .det [] [] (.bool true) [] []) (own := false) (still := false)
structure OrdArg where
  p : (((Int)) × ((Int)) × (List ((((Int)) × ((Int)) × (((Int)) × ((Int))) × ((Int))))) × (List ((((Int)) × ((Int))))))
  a : (((Int)) × ((Int)) × ((Int)) × ((Int)) × ((((Int)) × ((Int)))) × ((((Int)) × ((Int)))) × ((Int)) × ((((Int)) × ((Int)) × (((Int)) × ((Int))) × ((Int)))) × (((List ((((Int)) × ((Int)) × (Bool) × (Bool)))) × (List ((((Int)) × ((Int))))) × ((Int)))))
  b : (((Int)) × ((Int)) × ((Int)) × ((Int)) × ((((Int)) × ((Int)))) × ((((Int)) × ((Int)))) × ((Int)) × ((((Int)) × ((Int)) × (((Int)) × ((Int))) × ((Int)))) × (((List ((((Int)) × ((Int)) × (Bool) × (Bool)))) × (List ((((Int)) × ((Int))))) × ((Int)))))
def sp6 : Spc := spcOf [.v kPG, .v kR, .v kR] [] (G := OrdArg) (fun d => ⟨d.1.1, d.1.2.1, d.1.2.2.1⟩) (fun g => ((g.p, g.a, g.b, ()), ())) (fun _ => rfl) (fun x => .det [] [] (.bool true) [] []) (own := false) (still := false)
structure ChainArg where
  p : (((Int)) × ((Int)) × (List ((((Int)) × ((Int)) × (((Int)) × ((Int))) × ((Int))))) × (List ((((Int)) × ((Int))))))
  l : List ((((Int)) × ((Int)) × ((Int)) × ((Int)) × ((((Int)) × ((Int)))) × ((((Int)) × ((Int)))) × ((Int)) × ((((Int)) × ((Int)) × (((Int)) × ((Int))) × ((Int)))) × (((List ((((Int)) × ((Int)) × (Bool) × (Bool)))) × (List ((((Int)) × ((Int))))) × ((Int))))))
  k : (Int)
def sp7 : Spc := spcOf [.v kPG, .v (.slice kR), .v kI] [] (G := ChainArg) (fun d => ⟨d.1.1, d.1.2.1, d.1.2.2.1⟩) (fun g => ((g.p, g.l, g.k, ()), ())) (fun _ => rfl) (fun x => .det [] [] (.bool true) [] []) (own := false) (still := false)
def zR : Rc := (0, 0, 0, 0, (0, 0), (0, 0), 0, (0, 0, (0, 0), 0), [], [], 0)
def ownTo (l : List Rc) (n : Nat) : List Rc := (List.range n).map fun (i : Nat) => (3 * (i : Int) + 1, (l.getD i zR).2)
structure LsAt where
  xs : List Rc
structure KAt where
  k : Int
def ann7 (x : ChainArg) : Ann where
  loop id := match id with
    | 8 => inv0 { T := At, ok := fun y => y.i ≤ (x.l.take 100).length, ms := fun y => (x.l.take 100).length - y.i, tk := [8, 7], tm := fun y => [i64 y.i, .sl 900], hk := [900], hp := fun y => [.arr 46 kR (ownTo (x.l.take 100) y.i)], mat := [(7, 900, 46, kR)] }
    | _ => none
  cut id := match id with
    | 6 => inv0 { T := LsAt, ok := fun y => y.xs = x.l.take 100, ms := fun _ => 0, tk := [1], tm := fun y => [.lst kR y.xs], hk := [], hp := fun _ => [], mat := [] }
    | 16 => inv0 { T := KAt, ok := fun y => 0 ≤ y.k ∧ y.k ≤ (x.l.take 100).length, ms := fun _ => 0, tk := [2], tm := fun y => [i64 y.k], hk := [], hp := fun _ => [], mat := [] }
    | _ => none
  loose _ := []
  ghost id := match id with
    | 16 => [.fz 900 [7]]
    | _ => []
end Go.Proofs.Ytaomhhamepalmaa.VC

