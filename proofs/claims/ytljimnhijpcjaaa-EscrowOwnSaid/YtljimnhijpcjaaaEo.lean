/- What is said of EscrowOwn's function. Definitions alone; no conditions. -/
import Derived.Test.YtljimnhijpcjaaaWp
import Derived.Test.YtljimnhijpcjaaaBy
set_option linter.unusedVariables false
namespace Go.Proofs.Ytljimnhijpcjaaa.VC
open Go
abbrev kHN : Ty := .hdr 3 (.int .i64)
abbrev NsP : Type := List (Nat × Nat × List ((Int)))
structure SameInts where
  a : List ((Int))
  b : List ((Int))
def sp33 : Spc := spcOf [.v (.slice kI), .v (.slice kI)] [] (G := SameInts) (fun d => ⟨d.1.1, d.1.2.1⟩) (fun g => ((g.a, g.b, ()), ())) (fun _ => rfl) (fun x => .det [] [] (.bool (decide (x.a = x.b))) [] []) (lends := true) (lendsOk := by intro _ g; simp only [Con.ownedAll]; (repeat' apply And.intro) <;> first | rfl | (intro _; rfl)) (own := false) (still := false)
structure LastArg where
  l : List Lh
  e : Esc
def sp34 : Spc := spcOf [.s 0, .p 1] [.arr 48 kHN, .cells [.v kI, .v kI, .v kI, .m 2], .mapo kI kI] (G := LastArg) (fun d => ⟨d.2.1, ⟨d.2.2.1.1, d.2.2.1.2.1, d.2.2.1.2.2.1, d.2.2.2.1⟩⟩) (fun g => (((), (), ()), (g.l, (g.e.lo, g.e.hi, g.e.st, (), ()), g.e.nets, ()))) (fun _ => rfl) (fun x => .or
  (.any [x.e.nets.length ≤ 1000000] [] Unit (fun _ => x.l ≠ []) (fun _ => .hd 3 kI (x.l.getD (x.l.length - 1) Lh.nil)) (fun _ => []) (fun _ => []))
  (.any [x.e.nets.length ≤ 1000000] [] (List Int) (fun o => x.l = [] ∧ o = rising (keysOf x.e.nets)) (fun _ => .sl 3) (fun _ => []) (fun o => [.arr 3 kI o]))) (own := true)
structure EoArg where
  b : (((Int)) × ((Int)))
  v : (Int)
  d : List ((((Int)) × ((Int))))
def sp8 : Spc := spcOf [.v kRG, .v kI, .v (.slice kN)] [] (G := EoArg) (fun d => ⟨d.1.1, d.1.2.1, d.1.2.2.1⟩) (fun g => ((g.b, g.v, g.d, ()), ())) (fun _ => rfl) (fun x => .det [] [] (.bool true) [] []) (own := false) (still := false)
abbrev poN (ns : NsP) : Itm := .apool 3 3 kI ns
abbrev eC (e : Esc) (q : Nat) : Itm := .cells [i64 e.lo, i64 e.hi, i64 e.st, .map q]
structure OaAt where
  i : Nat
  e : Esc
  G : List Lh
  W : List Lh
  P : NsP
structure OePt where
  e : Esc
structure OkAt where
  k : Nat
  G : List Lh
  W : List Lh
  P : NsP
structure OpAt where
  i : Nat
  P : NsP
structure OmAt where
  i : Nat
  M : List Lh
  P : NsP
structure OxAt where
  i : Nat
  X : List (Int × Int)
def eoEsc (st : St) (t : Nat) (f : Esc → Inv) : Inv := match st.tmp t with
  | .ptr p _ => match st.at p with
    | .cells [.int _ a, .int _ b, .int _ s, .map q] => match st.at q with
      | .mapo (.int .i64) (.int .i64) E => f ⟨a, b, s, E⟩
      | _ => f ⟨0, 0, 0, []⟩
    | _ => f ⟨0, 0, 0, []⟩
  | _ => f ⟨0, 0, 0, []⟩
def hdsIn (st : St) (p : Nat) (f : List Lh → Inv) : Inv := match st.at p with
  | .arr _ (.hdr 3 (.int .i64)) l => f l
  | _ => f []
def netsIn (st : St) (t : Nat) (f : List (Int × Int) → Inv) : Inv := match st.tmp t with
  | .sl p => match st.at p with
    | .arr _ (.pair (.int .i64) (.int .i64)) l => f l
    | _ => f []
  | _ => f []
def annSame10 (x : SameInts) : Ann where
  loop id := match id with
    | 4 => inv0 { T := At, ok := fun y => y.i ≤ x.a.length ∧ x.a.take y.i = x.b.take y.i, ms := fun y => x.a.length - y.i, tk := [5], tm := fun y => [i64 y.i], hk := [], hp := fun _ => [], mat := [] }
    | _ => none
  cut _ := none
  loose _ := []
def ann8 (x : EoArg) : Ann where
  loop id := match id with
    | 8 => inv0 { T := OaAt, ok := fun y => y.i ≤ 40 ∧ y.i ≤ x.d.length ∧ y.e.Good ∧ Twn y.P y.G y.W ∧ Lst y.P y.W (rising (keysOf y.e.nets)) ∧ y.G.length = 2 * y.i, ms := fun y => x.d.length - y.i, tk := [11, 9, 10], tm := fun y => [i64 y.i, .sl 901, .sl 902], hk := [pl 32 0, pl 32 1, 901, 902, 903], hp := fun y => [eC y.e (pl 32 1), .mapo kI kI y.e.nets, .arr 48 kHN y.G, .arr 48 kHN y.W, poN y.P], mat := [] }
    | 14 => some ([13, 9, 10], fun st => eoEsc st 7 fun e => byInt st 11 fun i => { T := OkAt, ok := fun y => y.k ≤ 2 ∧ Twn y.P y.G y.W ∧ (0 < y.k → Lst y.P y.W (rising (keysOf e.nets))) ∧ (y.G.length : Int) = 2 * i + y.k, ms := fun y => 2 - y.k, tk := [13, 9, 10], tm := fun y => [i64 y.k, .sl 901, .sl 902], hk := [901, 902, 903], hp := fun y => [.arr 48 kHN y.G, .arr 48 kHN y.W, poN y.P], mat := [] })
    | 24 => some ([17], fun st => hdsIn st 901 fun G => { T := At, ok := fun y => y.i ≤ G.length, ms := fun y => G.length - y.i, tk := [17], tm := fun y => [i64 y.i], hk := [], hp := fun _ => [], mat := [] })
    | 30 => some ([19], fun st => hdsIn st 901 fun G => hdsIn st 902 fun W => eoEsc st 7 fun e => { T := OpAt, ok := fun y => y.i ≤ G.length ∧ OwC y.P G W (rising (keysOf e.nets)) y.i 0, ms := fun y => G.length - y.i, tk := [19], tm := fun y => [i64 y.i], hk := [903], hp := fun y => [poN y.P], mat := [] })
    | 33 => some ([20], fun st => byInt st 19 fun i => hdsIn st 901 fun G => hdsIn st 902 fun W => eoEsc st 7 fun e => { T := OpAt, ok := fun y => y.i ≤ (G.getD i.toNat Lh.nil).n ∧ OwC y.P G W (rising (keysOf e.nets)) i.toNat y.i, ms := fun y => (G.getD i.toNat Lh.nil).n - y.i, tk := [20], tm := fun y => [i64 y.i], hk := [903], hp := fun y => [poN y.P], mat := [] })
    | 37 => some ([21, 18], fun st => hdsIn st 901 fun G => hdsIn st 902 fun W => eoEsc st 7 fun e => { T := OmAt, ok := fun y => y.i ≤ G.length ∧ OwD y.P G W y.M (rising (keysOf e.nets)) y.i, ms := fun y => G.length - y.i, tk := [21, 18], tm := fun y => [i64 y.i, .sl 904], hk := [903, 904], hp := fun y => [poN y.P, .arr 48 kHN y.M], mat := [] })
    | 41 => some ([22], fun st => hdsIn st 904 fun M => { T := At, ok := fun y => y.i ≤ M.length, ms := fun y => M.length - y.i, tk := [22], tm := fun y => [i64 y.i], hk := [], hp := fun _ => [], mat := [] })
    | 44 => some ([23], fun st => byInt st 22 fun i => hdsIn st 904 fun M => { T := At, ok := fun y => y.i ≤ (M.getD i.toNat Lh.nil).n, ms := fun y => (M.getD i.toNat Lh.nil).n - y.i, tk := [23], tm := fun y => [i64 y.i], hk := [], hp := fun _ => [], mat := [] })
    | 51 => some ([26], fun st => netsIn st 25 fun L => { T := OxAt, ok := fun y => y.i ≤ L.length ∧ y.X.Perm (L.drop y.i), ms := fun y => L.length - y.i, tk := [26], tm := fun y => [i64 y.i], hk := [pl 92 1], hp := fun y => [.mapo kI kI y.X], mat := [] })
    | _ => none
  cut id := match id with
    | 13 => inv0 { T := OePt, ok := fun y => y.e.Good, ms := fun _ => 0, tk := [], tm := fun _ => [], hk := [pl 32 0, pl 32 1], hp := fun y => [eC y.e (pl 32 1), .mapo kI kI y.e.nets], mat := [] }
    | _ => none
  loose id := match id with
    | 10 => [pl 32 0, pl 32 1]
    | _ => []
  ghost id := match id with
    | 6 => [.na 903 3 3 kI]
    | 7 => [.nw 9 901 48 kHN, .nw 10 902 48 kHN]
    | 36 => [.nw 18 904 48 kHN]
    | _ => []
  og id i := match id, i with
    | 18, 2 => [.pl (pl 80 0) 3 [82, 14]]
    | 19, 4 => [.pl (pl 88 0) 3 [88]]
    | _, _ => []
end Go.Proofs.Ytljimnhijpcjaaa.VC

