/- What is said of ApplyExact's functions. Definitions alone; no conditions. -/
import Derived.Test.YtaomhhamepalmaaSp
import Derived.Test.YtaomhhamepalmaaPp
set_option linter.unusedVariables false
namespace Go.Proofs.Ytaomhhamepalmaa.VC
open Go
abbrev kHC : Ty := .hdr 3 (.pair (.int .i64) (.pair (.int .i64) (.pair (.pair (.int .i64) (.int .i64)) (.int .i64))))
abbrev kHG : Ty := .hdr 4 (.pair (.int .i64) (.int .i64))
abbrev kHN : Ty := .hdr 5 (.int .i64)
abbrev kPH : Ty := (.pair kI (.pair kI (.pair kHC kHG)))
abbrev kOp : Ty := (.pair kR (.pair .bool kPG))
abbrev CsP : Type := List (Nat × Nat × List ((((Int)) × ((Int)) × (((Int)) × ((Int))) × ((Int)))))
abbrev GsP : Type := List (Nat × Nat × List ((((Int)) × ((Int)))))
abbrev NsP : Type := List (Nat × Nat × List ((Int)))
def sp48 : Spc := spcOf [.v kI, .v kI] [] (G := Two) (fun d => ⟨d.1.1, d.1.2.1⟩) (fun g => ((g.a, g.b, ()), ())) (fun _ => rfl) (fun x => .any [] [] (Int × Int) (fun o => o = ans (x.a + x.b)) ansA (fun _ => []) (fun _ => [])) (own := false) (still := false)
def sp47 : Spc := spcOf [.v kI, .v kI] [] (G := Two) (fun d => ⟨d.1.1, d.1.2.1⟩) (fun g => ((g.a, g.b, ()), ())) (fun _ => rfl) (fun x => .any [] [] (Int × Int) (fun o => o = ans (x.a - x.b)) ansA (fun _ => []) (fun _ => [])) (own := false) (still := false)
def movF (v : Int) (r : Rc) : Int × Int := if r.2.1 = 4 then ans (v - r.2.2.2.2.2.2.1) else if r.2.1 = 2 then ans (v + r.2.2.2.2.2.2.2.1.2.2.2) else ans (v + r.2.2.2.2.2.2.1)
structure MvArg where
  v : (Int)
  r : (((Int)) × ((Int)) × ((Int)) × ((Int)) × ((((Int)) × ((Int)))) × ((((Int)) × ((Int)))) × ((Int)) × ((((Int)) × ((Int)) × (((Int)) × ((Int))) × ((Int)))) × (((List ((((Int)) × ((Int)) × (Bool) × (Bool)))) × (List ((((Int)) × ((Int))))) × ((Int)))))
def sp44 : Spc := spcOf [.v kI, .v kR] [] (G := MvArg) (fun d => ⟨d.1.1, d.1.2.1⟩) (fun g => ((g.v, g.r, ()), ())) (fun _ => rfl) (fun x => .any [] [] (Int × Int) (fun o => o = movF x.v x.r) ansA (fun _ => []) (fun _ => [])) (own := false) (still := false)
def sp34 : Spc := spcOf [.v kR] [] (G := RcA) (fun d => ⟨d.1.1⟩) (fun g => ((g.r, ()), ())) (fun _ => rfl) (fun x => .det [] [] (.bool (changesB x.r.2.1)) [] []) (own := false) (still := false)
def sp9 : Spc := spcOf [.v kPG] [] (G := PA) (fun d => ⟨d.1.1⟩) (fun g => ((g.p, ()), ())) (fun _ => rfl) (fun x => .det [Fit x.p] [] (pgS 0 x.p) [] (pgN x.p)) (own := false) (still := false)
def rF (r : Rc) : Int := if r.2.1 = 4 then 30 else 29
def cntF (p : Pg) (r : Rc) : Int × List Cn := counterF (rF r) r.2.2.2.2.2.2.1 p r
def summF (p : Pg) (r : Rc) : Int × List Gr := sumF (rF r) r.2.2.2.2.2.2.1 p r
def ownSpc (con : PgR → Con) : Spc := spcOf [.g [.v kI, .v kI, .s 0, .s 1], .v kR] [.arr 40 kC, .arr 69 kG] (G := PgR) (fun d => ⟨(d.1.1.1, d.1.1.2.1, d.2.1, d.2.2.1), d.1.2.1⟩) (fun g => (((g.p.1, g.p.2.1, (), (), ()), g.r, ()), (g.p.2.2.1, g.p.2.2.2, ()))) (fun _ => rfl) con (own := true)
def sp35 : Spc := ownSpc fun x => .any [Fit x.p] [0] (Int × List Cn) (fun o => o.1 = (cntF x.p x.r).1 ∧ (o.1 = 0 → o.2 = (cntF x.p x.r).2)) (fun o => .tup [pgS 0 x.p, i64 o.1]) (fun o => [.arr 40 kC o.2]) (fun _ => [])
def sp36 : Spc := ownSpc fun x => .any [Fit x.p] [1] (Int × List Gr) (fun o => o.1 = (summF x.p x.r).1 ∧ (o.1 = 0 → o.2 = (summF x.p x.r).2)) (fun o => .tup [pgS 0 x.p, i64 o.1]) (fun o => [.arr 69 kG o.2]) (fun _ => [])
def ann35 (x : PgR) : Ann where
  loop _ := none
  cut _ := none
  loose _ := []
def ann36 (x : PgR) : Ann where
  loop _ := none
  cut _ := none
  loose _ := []
def sp22 : Spc := spcOf [.v kPG, .v kR] [] (G := PgRc) (fun d => ⟨d.1.1, d.1.2.1⟩) (fun g => ((g.p, g.r, ()), ())) (fun _ => rfl) (fun x => .or
  (.any [Fit x.p] [] Int (fun e => e ≠ 0 ∧ (doF x.p x.r).1 = e) (fun e => .tup [pz, .ff, i64 e]) (fun _ => []) (fun _ => []))
  (.any [Fit x.p] [] (Bool × Pg) (fun o => doF x.p x.r = (0, o.1, o.2)) (fun o => .tup [pgD o.2, .bool o.1, i64 0]) (fun _ => []) (fun _ => []))) (own := false) (still := false)
def ann22 (x : PgRc) : Ann where
  loop _ := none
  cut _ := none
  loose _ := []
  ghost id := match id with
    | 10 => [.fz (pl 48 0) [], .fz (pl 48 1) []]
    | 18 => [.fz (pl 48 0) [], .fz (pl 48 1) []]
    | _ => []
def sp23 : Spc := spcOf [.v kR] [] (G := RcA) (fun d => ⟨d.1.1⟩) (fun g => ((g.r, ()), ())) (fun _ => rfl) (fun x => .or (.any [] [] Unit (fun _ => pagesF x.r = []) (fun _ => .nsl) (fun _ => []) (fun _ => [])) (.any [] [] (List Int) (fun o => o = pagesF x.r) (fun _ => .sl 0) (fun _ => []) (fun o => [.arr 3 kI o]))) (lends := true) (lendsOk := by intro _ g; simp only [Con.ownedAll]; (repeat' apply And.intro) <;> first | rfl | (intro _; rfl)) (own := false) (still := false)
/-- A page with fronts of lists; with lists of a pool. -/
structure PxArg where
  a : Int
  b : Int
  n : Nat
  m : Nat
  xs : List Cn
  ys : List Gr
def sp16c : Spc := spcOf [.g [.v kI, .v kI, .px 0, .px 1]] [.arr 40 kC, .arr 69 kG] (G := PxArg) (fun d => ⟨d.1.1.1, d.1.1.2.1, d.1.1.2.2.1, d.1.1.2.2.2.1, d.2.1, d.2.2.1⟩) (fun g => (((g.a, g.b, g.n, g.m, ()), ()), (g.xs, g.ys, ()))) (fun _ => rfl) (fun x => .det [] [] (.agg [i64 x.a, i64 x.b, .pfx 0 x.n, .pfx 1 x.m]) [] []) (own := true)
def sp16d : Spc := spcOf [.v kPH] [] (G := Int × Int × Lh × Lh) (fun d => d.1.1) (fun g => ((g, ()), ())) (fun _ => rfl) (fun x => .det [] [] (.agg [i64 x.1, i64 x.2.1, .hd 3 kC x.2.2.1, .hd 4 kG x.2.2.2]) [] []) (own := true)
def sp16p : Spc := sp16c.both sp16d rfl rfl
structure KptArg where
  q : PxArg
  p : Pg
def sp24 : Spc := spcOf [.g [.v kI, .v kI, .px 0, .px 1], .v kPG] [.arr 40 kC, .arr 69 kG] (G := KptArg) (fun d => ⟨⟨d.1.1.1, d.1.1.2.1, d.1.1.2.2.1, d.1.1.2.2.2.1, d.2.1, d.2.2.1⟩, d.1.2.1⟩) (fun g => (((g.q.a, g.q.b, g.q.n, g.q.m, ()), g.p, ()), (g.q.xs, g.q.ys, ()))) (fun _ => rfl) (fun x => .det [x.q = ⟨x.p.1, x.p.2.1, x.p.2.2.1.length, x.p.2.2.2.length, x.p.2.2.1 ++ [mkC], x.p.2.2.2 ++ [mkG]⟩ ∧ x.p.2.2.1.length ≤ 200 ∧ x.p.2.2.2.length ≤ 200] [] .tt [] []) (own := true)
structure Bk where
  C : List ((Lh))
  CM : List ((Lh))
  G : List ((Lh))
  GM : List ((Lh))
  N : List ((Lh))
  NM : List ((Lh))
abbrev Bk.at (r : Bk) (n : Nat) : List Itm := [.cells ([.sl (n + 1)] ++ [.sl (n + 2)] ++ [.sl (n + 3)] ++ [.sl (n + 4)] ++ [.sl (n + 5)] ++ [.sl (n + 6)]), .arr 30 kHC r.C, .arr 30 kHC r.CM, .arr 31 kHG r.G, .arr 31 kHG r.GM, .arr 71 kHN r.N, .arr 71 kHN r.NM]
abbrev mC (k : Nat) : Cn := (1000000 + (k : Int), 0, (0, 0), 0)
abbrev mG (k : Nat) : Gr := (1000000 + (k : Int), 0)
abbrev mN (k : Nat) : Int := 1000000 + (k : Int)
abbrev bkC : Itm := .cells [.sl 1, .sl 2, .sl 3, .sl 4, .sl 5, .sl 6]
abbrev poC (cs : CsP) : Itm := .apool 3 40 kC cs
abbrev poG (gs : GsP) : Itm := .apool 4 69 kG gs
abbrev poN (ns : NsP) : Itm := .apool 5 3 kI ns
structure KpOut where
  c : KeepO Cn
  g : KeepO Gr
  n : KeepO Int
structure KpPre (b : Bk) (cs : CsP) (gs : GsP) (ns : NsP) (h : Lh) (i : Lh) (j : Lh) : Prop where
  c : KeepPreG mC b.C b.CM cs h
  g : KeepPreG mG b.G b.GM gs i
  n : KeepPreG mN b.N b.NM ns j
  e1 : b.G.length = b.C.length
  e2 : b.N.length = b.C.length
structure KpPost (b : Bk) (cs : CsP) (gs : GsP) (ns : NsP) (h : Lh) (i : Lh) (j : Lh) (o : KpOut) : Prop where
  c : KeepPostG mC b.C b.CM cs h o.c
  g : KeepPostG mG b.G b.GM gs i o.g
  n : KeepPostG mN b.N b.NM ns j o.n
abbrev bkI (c : KeepO Cn) (g : KeepO Gr) (n : KeepO Int) : List Itm := [bkC, .arr 30 kHC c.L, .arr 30 kHC c.M, .arr 31 kHG g.L, .arr 31 kHG g.M, .arr 71 kHN n.L, .arr 71 kHN n.M, poC c.ls, poG g.ls, poN n.ls]
structure KpArg where
  b : Bk
  p : (((Int)) × ((Int)) × ((Lh)) × ((Lh)))
  n : (Lh)
  cs : CsP
  gs : GsP
  ns : NsP
def sp25 : Spc := spcOfP [.p 0, .v kPH, .v kHN] [.cells [.s 1, .s 2, .s 3, .s 4, .s 5, .s 6], .arr 30 kHC, .arr 30 kHC, .arr 31 kHG, .arr 31 kHG, .arr 71 kHN, .arr 71 kHN] [.apool 3 40 kC, .apool 4 69 kG, .apool 5 3 kI] (G := KpArg) (fun d => ⟨⟨d.2.1.2.1, d.2.1.2.2.1, d.2.1.2.2.2.1, d.2.1.2.2.2.2.1, d.2.1.2.2.2.2.2.1, d.2.1.2.2.2.2.2.2.1⟩, d.1.2.1, d.1.2.2.1, d.2.2.1, d.2.2.2.1, d.2.2.2.2.1⟩) (fun g => (((), g.p, g.n, ()), (((), (), (), (), (), (), ()), g.b.C, g.b.CM, g.b.G, g.b.GM, g.b.N, g.b.NM, ()), (g.cs, g.gs, g.ns, ()))) (fun _ => rfl) (fun x => .any [KpPre x.b x.cs x.gs x.ns x.p.2.2.1 x.p.2.2.2 x.n] [0, 1, 2, 3, 4, 5, 6, 7, 8, 9] KpOut (KpPost x.b x.cs x.gs x.ns x.p.2.2.1 x.p.2.2.2 x.n) (fun _ => .tup []) (fun o => bkI o.c o.g o.n) (fun _ => [])) (own := true) (still := false) (raw := false)
structure WrAt (α : Type) where
  i : Nat
  ls : LPool α
def WrOk {α : Type} (mk : Nat → α) (L M : List Lh) (ls : LPool α) (l : Lh) (y : WrAt α) : Prop := y.i ≤ l.n ∧ BookOk mk y.ls L M ∧ Wr y.ls l (mk L.length) y.i ∧ ∀ b, b ≠ l.b → SameAt ls y.ls b
structure LAt where
  L : List Lh
def ann25 (x : KpArg) : Ann where
  loop id := match id with
    | 3 => inv0 { T := WrAt Cn, ok := WrOk mC x.b.C x.b.CM x.cs x.p.2.2.1, ms := fun y => x.p.2.2.1.n - y.i, tk := [7], tm := fun y => [i64 y.i], hk := [7], hp := fun y => [poC y.ls], mat := [] }
    | 7 => inv0 { T := WrAt Gr, ok := WrOk mG x.b.G x.b.GM x.gs x.p.2.2.2, ms := fun y => x.p.2.2.2.n - y.i, tk := [8], tm := fun y => [i64 y.i], hk := [8], hp := fun y => [poG y.ls], mat := [] }
    | 11 => inv0 { T := WrAt Int, ok := WrOk mN x.b.N x.b.NM x.ns x.n, ms := fun y => x.n.n - y.i, tk := [9], tm := fun y => [i64 y.i], hk := [9], hp := fun y => [poN y.ls], mat := [] }
    | _ => none
  cut id := match id with
    | 15 => inv0 { T := LAt, ok := fun y => y.L = x.b.C ++ [x.p.2.2.1], ms := fun _ => 0, tk := [], tm := fun _ => [], hk := [0, 1], hp := fun y => [bkC, .arr 30 kHC y.L], mat := [] }
    | 16 => inv0 { T := LAt, ok := fun y => y.L = x.b.G ++ [x.p.2.2.2], ms := fun _ => 0, tk := [], tm := fun _ => [], hk := [0, 3], hp := fun y => [bkC, .arr 31 kHG y.L], mat := [] }
    | 17 => inv0 { T := LAt, ok := fun y => y.L = x.b.N ++ [x.n], ms := fun _ => 0, tk := [], tm := fun _ => [], hk := [0, 5], hp := fun y => [bkC, .arr 71 kHN y.L], mat := [] }
    | 18 => inv0 { T := KeepO Cn, ok := fun y => KeepPostG mC x.b.C x.b.CM x.cs x.p.2.2.1 y ∧ y.L = x.b.C ++ [x.p.2.2.1], ms := fun _ => 0, tk := [], tm := fun _ => [], hk := [0, 2, 7], hp := fun y => [bkC, .arr 30 kHC y.M, poC y.ls], mat := [] }
    | 19 => inv0 { T := KeepO Gr, ok := fun y => KeepPostG mG x.b.G x.b.GM x.gs x.p.2.2.2 y ∧ y.L = x.b.G ++ [x.p.2.2.2], ms := fun _ => 0, tk := [], tm := fun _ => [], hk := [0, 4, 8], hp := fun y => [bkC, .arr 31 kHG y.M, poG y.ls], mat := [] }
    | _ => none
  loose id := match id with
    | 14 => [0, 1]
    | 15 => [0, 3]
    | 17 => [0, 2, 7]
    | 18 => [0, 4, 8]
    | 19 => [0, 6, 9]
    | _ => []
structure Bks (b : Bk) (cs : CsP) (gs : GsP) (ns : NsP) : Prop where
  c : BookOk mC cs b.C b.CM
  g : BookOk mG gs b.G b.GM
  n : BookOk mN ns b.N b.NM
  e1 : b.G.length = b.C.length
  e2 : b.N.length = b.C.length
structure BrArg where
  b : Bk
  k : (Int)
  cs : CsP
  gs : GsP
  ns : NsP
def sp26 : Spc := spcOfP [.p 0, .v kI] [.cells [.s 1, .s 2, .s 3, .s 4, .s 5, .s 6], .arr 30 kHC, .arr 30 kHC, .arr 31 kHG, .arr 31 kHG, .arr 71 kHN, .arr 71 kHN] [.apool 3 40 kC, .apool 4 69 kG, .apool 5 3 kI] (G := BrArg) (fun d => ⟨⟨d.2.1.2.1, d.2.1.2.2.1, d.2.1.2.2.2.1, d.2.1.2.2.2.2.1, d.2.1.2.2.2.2.2.1, d.2.1.2.2.2.2.2.2.1⟩, d.1.2.1, d.2.2.1, d.2.2.2.1, d.2.2.2.2.1⟩) (fun g => (((), g.k, ()), (((), (), (), (), (), (), ()), g.b.C, g.b.CM, g.b.G, g.b.GM, g.b.N, g.b.NM, ()), (g.cs, g.gs, g.ns, ()))) (fun _ => rfl) (fun x => .det [Bks x.b x.cs x.gs x.ns, 0 ≤ x.k ∧ x.k < (x.b.C.length : Int) ∧ x.b.C.length ≤ 1000] [] .tt [] []) (own := false) (still := false) (raw := false)
def ann26 (x : BrArg) : Ann where
  loop id := match id with
    | 3 => inv0 { T := At, ok := fun y => y.i ≤ (x.b.CM.getD x.k.toNat Lh.nil).n, ms := fun y => (x.b.CM.getD x.k.toNat Lh.nil).n - y.i, tk := [6], tm := fun y => [i64 y.i], hk := [], hp := fun _ => [], mat := [] }
    | 8 => inv0 { T := At, ok := fun y => y.i ≤ (x.b.GM.getD x.k.toNat Lh.nil).n, ms := fun y => (x.b.GM.getD x.k.toNat Lh.nil).n - y.i, tk := [7], tm := fun y => [i64 y.i], hk := [], hp := fun _ => [], mat := [] }
    | 13 => inv0 { T := At, ok := fun y => y.i ≤ (x.b.NM.getD x.k.toNat Lh.nil).n, ms := fun y => (x.b.NM.getD x.k.toNat Lh.nil).n - y.i, tk := [8], tm := fun y => [i64 y.i], hk := [], hp := fun _ => [], mat := [] }
    | _ => none
  cut _ := none
  loose _ := []
structure HlArg where
  b : Bk
  cs : CsP
  gs : GsP
  ns : NsP
def sp12 : Spc := spcOfP [.p 0] [.cells [.s 1, .s 2, .s 3, .s 4, .s 5, .s 6], .arr 30 kHC, .arr 30 kHC, .arr 31 kHG, .arr 31 kHG, .arr 71 kHN, .arr 71 kHN] [.apool 3 40 kC, .apool 4 69 kG, .apool 5 3 kI] (G := HlArg) (fun d => ⟨⟨d.2.1.2.1, d.2.1.2.2.1, d.2.1.2.2.2.1, d.2.1.2.2.2.2.1, d.2.1.2.2.2.2.2.1, d.2.1.2.2.2.2.2.2.1⟩, d.2.2.1, d.2.2.2.1, d.2.2.2.2.1⟩) (fun g => (((), ()), (((), (), (), (), (), (), ()), g.b.C, g.b.CM, g.b.G, g.b.GM, g.b.N, g.b.NM, ()), (g.cs, g.gs, g.ns, ()))) (fun _ => rfl) (fun x => .det [Bks x.b x.cs x.gs x.ns, x.b.C.length ≤ 1000] [] .tt [] []) (own := false) (still := false) (raw := false)
def ann12 (x : HlArg) : Ann where
  loop id := match id with
    | 2 => inv0 { T := At, ok := fun y => y.i ≤ x.b.C.length, ms := fun y => x.b.C.length - y.i, tk := [3], tm := fun y => [i64 y.i], hk := [], hp := fun _ => [], mat := [] }
    | _ => none
  cut _ := none
  loose _ := []
structure DsOut where
  c : KeepO Cn
  g : KeepO Gr
  n : KeepO Int
  e : Int
  w : Pg
def Sm (p : Pg) : Prop := p.2.2.1.length ≤ 200 ∧ p.2.2.2.length ≤ 200
abbrev bkO (c : KeepO Cn) (g : KeepO Gr) (n : KeepO Int) : Bk := ⟨c.L, c.M, g.L, g.M, n.L, n.M⟩
structure DsPost (b : Bk) (p : Pg) (r : Rc) (o : DsOut) : Prop where
  bk : Bks (bkO o.c o.g o.n) o.c.ls o.g.ls o.n.ls
  l : o.c.L.length = b.C.length + 2
  e : o.e = (doF p r).1
  w : o.w = (doF p r).2.2
structure DsArg where
  b : Bk
  p : (((Int)) × ((Int)) × (List ((((Int)) × ((Int)) × (((Int)) × ((Int))) × ((Int))))) × (List ((((Int)) × ((Int))))))
  r : (((Int)) × ((Int)) × ((Int)) × ((Int)) × ((((Int)) × ((Int)))) × ((((Int)) × ((Int)))) × ((Int)) × ((((Int)) × ((Int)) × (((Int)) × ((Int))) × ((Int)))) × (((List ((((Int)) × ((Int)) × (Bool) × (Bool)))) × (List ((((Int)) × ((Int))))) × ((Int)))))
  cs : CsP
  gs : GsP
  ns : NsP
def sp11 : Spc := spcOfP [.p 0, .v kPG, .v kR] [.cells [.s 1, .s 2, .s 3, .s 4, .s 5, .s 6], .arr 30 kHC, .arr 30 kHC, .arr 31 kHG, .arr 31 kHG, .arr 71 kHN, .arr 71 kHN] [.apool 3 40 kC, .apool 4 69 kG, .apool 5 3 kI] (G := DsArg) (fun d => ⟨⟨d.2.1.2.1, d.2.1.2.2.1, d.2.1.2.2.2.1, d.2.1.2.2.2.2.1, d.2.1.2.2.2.2.2.1, d.2.1.2.2.2.2.2.2.1⟩, d.1.2.1, d.1.2.2.1, d.2.2.1, d.2.2.2.1, d.2.2.2.2.1⟩) (fun g => (((), g.p, g.r, ()), (((), (), (), (), (), (), ()), g.b.C, g.b.CM, g.b.G, g.b.GM, g.b.N, g.b.NM, ()), (g.cs, g.gs, g.ns, ()))) (fun _ => rfl) (fun x => .any [Bks x.b x.cs x.gs x.ns, x.b.C.length ≤ 500, Sm x.p] [0, 1, 2, 3, 4, 5, 6, 7, 8, 9] DsOut (DsPost x.b x.p x.r) (fun o => .tup [pgD o.w, i64 o.e, .tt]) (fun o => bkI o.c o.g o.n) (fun _ => [])) (own := false) (still := false) (raw := false)
structure XpAt where
  a : Int
  b : Int
  h : Lh
  i : Lh
  cs : CsP
  gs : GsP
  d : Bool
  e : Int
structure WpAt where
  w : Pg
  d : Bool
  e : Int
structure NpAt where
  h : Lh
  ns : NsP
structure XpOk (p : Pg) (r : Rc) (cs : CsP) (gs : GsP) (y : XpAt) : Prop where
  e : y.e = (doF p r).1
  d : y.d = (doF p r).2.1
  a : y.a = (doF p r).2.2.1
  b : y.b = (doF p r).2.2.2.1
  c : PackL cs (doF p r).2.2.2.2.1 y.h y.cs
  g : PackL gs (doF p r).2.2.2.2.2 y.i y.gs
def stC (st : St) : CsP := match PT.rd (.apool 3 40 kC) (st.at 7) with
  | some l => l
  | none => []
def stG (st : St) : GsP := match PT.rd (.apool 4 69 kG) (st.at 8) with
  | some l => l
  | none => []
def stN (st : St) : NsP := match PT.rd (.apool 5 3 kI) (st.at 9) with
  | some l => l
  | none => []
def xpW (x : DsArg) (st : St) (c d e : Nat) : Inv := { T := XpAt, ok := XpOk x.p x.r (stC st) (stG st), ms := fun _ => 0, tk := [c, d, e], tm := fun y => [.ptr (pl c 0) 0, .bool y.d, i64 y.e], hk := [pl c 0, 7, 8], hp := fun y => [.cells [i64 y.a, i64 y.b, .hd 3 kC y.h, .hd 4 kG y.i], poC y.cs, poG y.gs], mat := [] }
def npW (x : DsArg) (st : St) (t : Nat) : Inv := { T := NpAt, ok := fun y => PackL (stN st) (pagesF x.r) y.h y.ns, ms := fun _ => 0, tk := [t], tm := fun y => [.hd 5 kI y.h], hk := [9], hp := fun y => [poN y.ns], mat := [] }
structure XcAt where
  i : Nat
  xs : List Cn
structure XgAt where
  i : Nat
  ys : List Gr
def ann11 (x : DsArg) : Ann where
  loop id := match id with
    | 12 => inv0 { T := XcAt, ok := fun y => y.i ≤ x.p.2.2.1.length ∧ y.xs.length = x.p.2.2.1.length + 1, ms := fun y => x.p.2.2.1.length - y.i, tk := [23], tm := fun y => [i64 y.i], hk := [pl 26 0], hp := fun y => [.arr 40 kC y.xs], mat := [] }
    | 16 => inv0 { T := XgAt, ok := fun y => y.i ≤ x.p.2.2.2.length ∧ y.ys.length = x.p.2.2.2.length + 1, ms := fun y => x.p.2.2.2.length - y.i, tk := [24], tm := fun y => [i64 y.i], hk := [pl 26 1], hp := fun y => [.arr 69 kG y.ys], mat := [] }
    | _ => none
  cut id := match id with
    | 3 => some ([10, 11, 12], fun st => xpW x st 10 11 12)
    | 4 => some ([13, 14, 15], fun st => xpW x st 13 14 15)
    | 5 => inv0 { T := WpAt, ok := fun y => y.e = (doF x.p x.r).1 ∧ y.d = (doF x.p x.r).2.1 ∧ y.w = (doF x.p x.r).2.2, ms := fun _ => 0, tk := [16, 17, 18], tm := fun y => [.ptr (pl 16 0) 0, .bool y.d, i64 y.e], hk := [pl 16 0], hp := fun y => [.cells [i64 y.w.1, i64 y.w.2.1, .lst kC y.w.2.2.1, .lst kG y.w.2.2.2]], mat := [] }
    | 6 => some ([19], fun st => npW x st 19)
    | 7 => some ([20], fun st => npW x st 20)
    | 8 => some ([21], fun st => npW x st 21)
    | 9 => inv0 { T := At, ok := fun y => y.i = 0, ms := fun _ => 0, tk := [22], tm := fun _ => [.tt], hk := [], hp := fun _ => [], mat := [] }
    | _ => none
  loose _ := []
  og id i := match id, i with
    | 2, 9 => [.pl (pl 30 0) 3 [], .pl (pl 30 1) 4 []]
    | 3, 9 => [.pl (pl 37 0) 3 [], .pl (pl 37 1) 4 []]
    | 5, 2 => [.pl (pl 49 0) 5 [49]]
    | 6, 2 => [.pl (pl 51 0) 5 [51]]
    | 7, 2 => [.pl (pl 53 0) 5 [53]]
    | _, _ => []
structure ExArg where
  s : List ((((((Int)) × ((Int)) × ((Int)) × ((Int)) × ((((Int)) × ((Int)))) × ((((Int)) × ((Int)))) × ((Int)) × ((((Int)) × ((Int)) × (((Int)) × ((Int))) × ((Int)))) × (((List ((((Int)) × ((Int)) × (Bool) × (Bool)))) × (List ((((Int)) × ((Int))))) × ((Int)))))) × (Bool) × ((((Int)) × ((Int)) × (List ((((Int)) × ((Int)) × (((Int)) × ((Int))) × ((Int))))) × (List ((((Int)) × ((Int)))))))))
def sp3 : Spc := spcOf [.v (.slice kOp)] [] (G := ExArg) (fun d => ⟨d.1.1⟩) (fun g => ((g.s, ()), ())) (fun _ => rfl) (fun x => .det [] [] (.bool true) [] []) (own := false) (still := false)
structure ExAt where
  i : Nat
  p : Pg
  c : KeepO Cn
  g : KeepO Gr
  n : KeepO Int
structure PgAt where
  p : Pg
def ann3 (x : ExArg) : Ann where
  loop id := match id with
    | 6 => inv0 { T := ExAt, ok := fun y => y.i ≤ 60 ∧ y.i ≤ x.s.length ∧ Sm y.p ∧ Bks (bkO y.c y.g y.n) y.c.ls y.g.ls y.n.ls ∧ y.c.L.length ≤ 2 * y.i, ms := fun y => x.s.length - y.i, tk := [5], tm := fun y => [i64 y.i], hk := [pl 4 0, pl 13 0, 911, 912, 913, 914, 915, 916, 917, 918, 919], hp := fun y => [.cells [i64 y.p.1, i64 y.p.2.1, .lst kC y.p.2.2.1, .lst kG y.p.2.2.2], .cells [.sl 911, .sl 912, .sl 913, .sl 914, .sl 915, .sl 916], .arr 30 kHC y.c.L, .arr 30 kHC y.c.M, .arr 31 kHG y.g.L, .arr 31 kHG y.g.M, .arr 71 kHN y.n.L, .arr 71 kHN y.n.M, poC y.c.ls, poG y.g.ls, poN y.n.ls], mat := [] }
    | _ => none
  cut id := match id with
    | 11 => inv0 { T := PgAt, ok := fun y => Sm y.p, ms := fun _ => 0, tk := [], tm := fun _ => [], hk := [pl 4 0], hp := fun y => [.cells [i64 y.p.1, i64 y.p.2.1, .lst kC y.p.2.2.1, .lst kG y.p.2.2.2]], mat := [] }
    | _ => none
  loose _ := []
  ghost id := match id with
    | 5 => [.na 917 3 40 kC, .na 918 4 69 kG, .na 919 5 3 kI, .nc (pl 13 0) 0 911 30 kHC, .nc (pl 13 0) 1 912 30 kHC, .nc (pl 13 0) 2 913 31 kHG, .nc (pl 13 0) 3 914 31 kHG, .nc (pl 13 0) 4 915 71 kHN, .nc (pl 13 0) 5 916 71 kHN]
    | _ => []
  og id i := match id, i with
    | 10, 4 => [.fz (pl 33 0) [33], .fz (pl 33 1) [33]]
    | _, _ => []
end Go.Proofs.Ytaomhhamepalmaa.VC

