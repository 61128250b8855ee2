/- A machine on abstract values: what it comes to, step by step, as one proposition. Definitions alone; no conditions. -/
import Derived.OrdersHeld
import Derived.Below
import Derived.KernelRfl
import Derived.Laws.AppendOwn
set_option linter.unusedVariables false
namespace Go.Proofs.Ytljimnhijpcjaaa.VC
open Go

/-! ### Plain data -/

/-- A list's head: its block's number and one (none: 0), its length, its room. -/
structure Lh where
  b : Nat
  n : Nat
  c : Nat
  deriving DecidableEq
def Lh.nil : Lh := ⟨0, 0, 0⟩
def Lh.ok (h : Lh) : Prop := h.n ≤ h.c ∧ h.c ≤ maxLen ∧ (h.b = 0 → h.c = 0)
def Lh.val (h : Lh) : Value := match h.b with
  | 0 => .slice none h.n h.c
  | b + 1 => .slice (some ⟨b, 0, none⟩) h.n h.c
/-- A pointer to an object: its block's number and one (none: 0). -/
def refVal : Nat → Value
  | 0 => .pointer none
  | b + 1 => .pointer (some ⟨b, 0, none⟩)

/-- ref q: a pointer to an object of pool q; hdr q e: a list that pool q holds. -/
inductive Ty where
  | int (k : IntKind) | bool | unit | pair (a b : Ty) | slice (e : Ty) | ref (q : Nat) | hdr (q : Nat) (e : Ty)
  deriving DecidableEq

@[reducible] def Ty.den : Ty → Type
  | .int _ => Int
  | .bool => Bool
  | .unit => Unit
  | .pair a b => a.den × b.den
  | .slice e => List e.den
  | .ref _ => Nat
  | .hdr _ _ => Lh

def Ty.sz : Ty → Nat
  | .int _ => 1
  | .bool => 1
  | .unit => 0
  | .pair a b => a.sz + b.sz
  | .slice _ => 1
  | .ref _ => 1
  | .hdr _ _ => 1

def Ty.dflt : (t : Ty) → t.den
  | .int _ => (0 : Int)
  | .bool => false
  | .unit => ()
  | .pair a b => (a.dflt, b.dflt)
  | .slice _ => []
  | .ref _ => (0 : Nat)
  | .hdr _ _ => Lh.nil

/-- Is it a struct? (A struct of one field alone is not spoken of.) -/
def Ty.agg : Ty → Bool
  | .unit => true
  | .pair _ _ => true
  | _ => false

def Ty.beq : (t : Ty) → t.den → t.den → Bool
  | .int _, (a : Int), (b : Int) => a == b
  | .bool, (a : Bool), (b : Bool) => a == b
  | .unit, _, _ => true
  | .pair s t, a, b => s.beq a.1 b.1 && t.beq a.2 b.2
  | .slice _, _, _ => false
  | .ref _, (a : Nat), (b : Nat) => Nat.beq a b
  | .hdr _ _, _, _ => false

/-! ### Abstract values -/

inductive AV where
  | undef
  | skip
  | tt | ff
  | bool (b : Bool)
  | int (k : IntKind) (n : Int)
  | nptr
  | ptr (p off : Nat)
  | eptr (p i sz off : Nat)
  | iptr (e : Ty) (xs : List e.den) (i off : Nat)
  | nsl
  | sl (p : Nat)
  | pfx (p n : Nat)
  | sub (p lo n sz : Nat)
  | lst (e : Ty) (xs : List e.den)
  | nmap
  | map (p : Nat)
  | stamp (p : Nat) (k : Ty) (key : k.den)
  | nfn
  | fn (f : Nat) (caps : List AV)
  | agg (cs : List AV)
  | tup (vs : List AV)
  | vec (k : IntKind) (xs : List Int)
  | ref (q n : Nat)
  | rp (q n off : Nat)
  | hd (q : Nat) (e : Ty) (h : Lh)
  | hp (q b i sz off : Nat)

/-- A type's data as cells. -/
def Ty.enc : (t : Ty) → t.den → List AV
  | .int k, (n : Int) => [.int k n]
  | .bool, (b : Bool) => [.bool b]
  | .unit, _ => []
  | .pair a b, d => a.enc d.1 ++ b.enc d.2
  | .slice e, xs => [.lst e xs]
  | .ref q, (n : Nat) => [.ref q n]
  | .hdr q e, (h : Lh) => [.hd q e h]

/-- A type's data as a value. -/
def Ty.av (t : Ty) (d : t.den) : AV :=
  match t, d with
  | .int k, (n : Int) => .int k n
  | .bool, (b : Bool) => .bool b
  | .unit, _ => .agg []
  | .pair a b, d => .agg ((Ty.pair a b).enc d)
  | .slice e, xs => .lst e xs
  | .ref q, (n : Nat) => .ref q n
  | .hdr q e, (h : Lh) => .hd q e h

def AV.toBool? : AV → Option Bool
  | .tt => some true
  | .ff => some false
  | .bool b => some b
  | _ => none

/-- Cells as a type's data. -/
def decI (k : IntKind) : List AV → Option Int
  | [.int j n] => if j = k then some n else none
  | _ => none
def decB : List AV → Option Bool
  | [.tt] => some true
  | [.ff] => some false
  | [.bool b] => some b
  | _ => none
def decU : List AV → Option Unit
  | [] => some ()
  | _ => none
def decS (e : Ty) : List AV → Option (List e.den)
  | [.nsl] => some []
  | [.lst e' xs] => if h : e' = e then some (h ▸ xs) else none
  | _ => none
def decR (q : Nat) : List AV → Option Nat
  | [.nptr] => some 0
  | [.ref q' n] => bif Nat.beq q' q then some n else none
  | _ => none
def decH (q : Nat) (e : Ty) : List AV → Option Lh
  | [.nsl] => some Lh.nil
  | [.hd q' e' h] => bif Nat.beq q' q && decide (e' = e) then some h else none
  | _ => none
def Ty.dec : (t : Ty) → List AV → Option t.den
  | .int k, cs => decI k cs
  | .bool, cs => decB cs
  | .unit, cs => decU cs
  | .pair a b, cs => match a.dec (cs.take a.sz), b.dec (cs.drop a.sz) with
    | some x, some y => some (x, y)
    | _, _ => none
  | .slice e, cs => decS e cs
  | .ref q, cs => decR q cs
  | .hdr q e, cs => decH q e cs

def AV.known : AV → Bool
  | .undef => false
  | _ => true
/-- One cell, known. -/
def AV.one : AV → Bool
  | .undef => false
  | .agg _ => false
  | .tup _ => false
  | .vec _ _ => false
  | .skip => false
  | _ => true

def AV.ofMap : AV → Bool
  | .nmap => true
  | .map _ => true
  | _ => false

def AV.cells : AV → List AV
  | .agg cs => cs
  | .vec k xs => xs.map (.int k)
  | v => [v]

/-- A value as a type's data. -/
def Ty.ofAV (t : Ty) (v : AV) : Option t.den :=
  match v with
  | .agg cs => if t.agg then t.dec cs else none
  | v => if t.agg then none else t.dec [v]

/-- Some cells of a type's data are written. -/
def Ty.putAt : (t : Ty) → t.den → Nat → List AV → Option t.den
  | .pair a b, d, off, vs =>
    if vs.length = (Ty.pair a b).sz ∧ off = 0 then (Ty.pair a b).dec vs
    else if off + vs.length ≤ a.sz then (a.putAt d.1 off vs).map fun x => (x, d.2)
    else if a.sz ≤ off then (b.putAt d.2 (off - a.sz) vs).map fun y => (d.1, y)
    else none
  | t, _, off, vs => if off = 0 then t.dec vs else none

/-- A map's entries, as a list: what is there of a key, put in, taken out. -/
def mget {k v : Ty} (E : List (k.den × v.den)) (key : k.den) : Option v.den := (E.find? fun e => k.beq e.1 key).map (·.2)
def mset {k v : Ty} : List (k.den × v.den) → k.den → v.den → List (k.den × v.den)
  | [], key, x => [(key, x)]
  | e :: E, key, x => if k.beq e.1 key then (e.1, x) :: E else e :: mset E key x
def mdel {k v : Ty} : List (k.den × v.den) → k.den → List (k.den × v.den)
  | [], _ => []
  | e :: E, key => if k.beq e.1 key then E else e :: mdel E key

abbrev nilT (α : Type) : List α := []
abbrev mgetT (k v : Ty) (E : List (k.den × v.den)) (key : k.den) : Option v.den := mget E key
abbrev msetT (k v : Ty) (E : List (k.den × v.den)) (key : k.den) (x : v.den) : List (k.den × v.den) := mset E key x
abbrev mdelT (k v : Ty) (E : List (k.den × v.den)) (key : k.den) : List (k.den × v.den) := mdel E key

/-! ### Kinds of arguments, and of places -/

/-- An argument, or a cell: data; a pointer to a place; a list of one's own; a front of one; a map; nil. -/
inductive AT where
  | v (t : Ty) | p (i : Nat) | s (i : Nat) | m (i : Nat) | nil | lit (k : IntKind) (n : Nat) | fn0 (f : FuncId) | px (i : Nat) | po (i off : Nat)
  deriving DecidableEq
@[reducible] def AT.den : AT → Type
  | .v t => t.den
  | .px _ => Nat
  | _ => Unit
def AT.sz : AT → Nat
  | .v t => t.sz
  | _ => 1
def AT.dflt : (a : AT) → a.den
  | .v t => t.dflt
  | .px _ => (0 : Nat)
  | .p _ => ()
  | .s _ => ()
  | .m _ => ()
  | .nil => ()
  | .lit _ _ => ()
  | .fn0 _ => ()
  | .po _ _ => ()
def AT.enc : (a : AT) → a.den → List AV
  | .v t, d => t.enc d
  | .p i, _ => [.ptr i 0]
  | .s i, _ => [.sl i]
  | .m i, _ => [.map i]
  | .nil, _ => [.nptr]
  | .lit k n, _ => [.int k n]
  | .fn0 f, _ => [.fn f []]
  | .px i, (n : Nat) => [.pfx i n]
  | .po i o, _ => [.ptr i o]
@[reducible] def ATden : List AT → Type
  | [] => Unit
  | a :: l => a.den × ATden l
def ATdflt : (l : List AT) → ATden l
  | [] => ()
  | a :: l => (a.dflt, ATdflt l)
def ATenc : (l : List AT) → ATden l → List AV
  | [], _ => []
  | a :: l, d => a.enc d.1 ++ ATenc l d.2
/-- A place: a struct's cells; a list; a map. -/
inductive HT where
  | cells (l : List AT) | arr (t : TypeId) (e : Ty) | mapo (k v : Ty)
  deriving DecidableEq
@[reducible] def HT.den : HT → Type
  | .cells l => ATden l
  | .arr _ e => List e.den
  | .mapo k v => List (k.den × v.den)
def HT.dflt : (h : HT) → h.den
  | .cells l => ATdflt l
  | .arr _ _ => []
  | .mapo _ _ => []
@[reducible] def HTden : List HT → Type
  | [] => Unit
  | a :: l => a.den × HTden l
def HTdflt : (l : List HT) → HTden l
  | [] => ()
  | a :: l => (a.dflt, HTdflt l)

/-- What is there of a number; put in its place. -/
def pget {α : Type} : List (Nat × α) → Nat → Option α
  | [], _ => none
  | (q, x) :: l, n => bif Nat.beq q n then some x else pget l n
def pset {α : Type} : List (Nat × α) → Nat → α → List (Nat × α)
  | [], _, _ => []
  | (q, y) :: l, n, x => bif Nat.beq q n then (q, x) :: l else (q, y) :: pset l n x
/-- A list of a pool, as far as it is known. -/
def pget2 {α : Type} (P : List (Nat × Nat × List α)) (b : Nat) : List α := ((pget P b).map (·.2)).getD []

/-! ### Memory -/

/-- pool q H P hs: the objects of pool q, which lie as H says (those of hs are out); apool q t e P: its lists: number, room, what is known of it. -/
inductive Itm where
  | gone
  | cells (vs : List AV)
  | arr (t : TypeId) (e : Ty) (xs : List e.den)
  | mapo (k v : Ty) (E : List (k.den × v.den))
  | iter (m : Nat) (k v : Ty) (left : List (k.den × v.den)) (now : Option (k.den × v.den))
  | pool (q : Nat) (H : List HT) (P : List (Nat × HTden H)) (hs : List Nat)
  | apool (q : Nat) (t : TypeId) (e : Ty) (P : List (Nat × Nat × List e.den))

def HT.itm : (h : HT) → h.den → Itm
  | .cells l, d => .cells (ATenc l d)
  | .arr t e, xs => .arr t e xs
  | .mapo k v, E => .mapo k v E
def HTitms : (l : List HT) → HTden l → List Itm
  | [], _ => []
  | a :: l, d => a.itm d.1 :: HTitms l d.2

structure St where
  tmps : List (Nat × AV)
  heap : List (Nat × Itm)
  next : Nat
  lock : List Nat

def look.{u} {α : Type u} (d : α) : List (Nat × α) → Nat → α
  | [], _ => d
  | (q, x) :: l, p => bif Nat.beq q p then x else look d l p

def St.tmp (st : St) (t : Nat) : AV := look .undef st.tmps t
def St.at (st : St) (p : Nat) : Itm := look .gone st.heap p

mutual
def AV.has (p : Nat) : AV → Bool
  | .eptr q _ _ _ => Nat.beq q p
  | .sl q => Nat.beq q p
  | .pfx q _ => Nat.beq q p
  | .sub q _ _ _ => Nat.beq q p
  | .fn _ cs => AV.hasL p cs
  | .agg cs => AV.hasL p cs
  | .tup cs => AV.hasL p cs
  | _ => false
def AV.hasL (p : Nat) : List AV → Bool
  | [] => false
  | v :: l => v.has p || AV.hasL p l
end

mutual
def AV.hasSt (p : Nat) : AV → Bool
  | .stamp q _ _ => Nat.beq q p
  | .fn _ cs => AV.hasStL p cs
  | .agg cs => AV.hasStL p cs
  | .tup cs => AV.hasStL p cs
  | _ => false
def AV.hasStL (p : Nat) : List AV → Bool
  | [] => false
  | v :: l => v.hasSt p || AV.hasStL p l
end

mutual
def AV.ren (s : Nat → Nat) : AV → AV
  | .ptr q o => .ptr (s q) o
  | .eptr q i z o => .eptr (s q) i z o
  | .sl q => .sl (s q)
  | .pfx q n => .pfx (s q) n
  | .sub q l n z => .sub (s q) l n z
  | .map q => .map (s q)
  | .stamp q k x => .stamp (s q) k x
  | .fn f cs => .fn f (AV.renL s cs)
  | .agg cs => .agg (AV.renL s cs)
  | .tup cs => .tup (AV.renL s cs)
  | v => v
def AV.renL (s : Nat → Nat) : List AV → List AV
  | [] => []
  | v :: l => v.ren s :: AV.renL s l
end

mutual
/-- The places that a value names, in their order. -/
def AV.pos : AV → List Nat
  | .ptr q _ => [q]
  | .eptr q _ _ _ => [q]
  | .sl q => [q]
  | .pfx q _ => [q]
  | .sub q _ _ _ => [q]
  | .map q => [q]
  | .stamp q _ _ => [q]
  | .fn _ cs => AV.posL cs
  | .agg cs => AV.posL cs
  | .tup cs => AV.posL cs
  | _ => []
def AV.posL : List AV → List Nat
  | [] => []
  | v :: l => v.pos ++ AV.posL l
end

def Ty.flat : Ty → Bool
  | .pair a b => a.flat && b.flat
  | .slice _ => false
  | _ => true

def AT.flat : AT → Bool
  | .v t => t.flat
  | _ => true
def HT.flat : HT → Bool
  | .cells l => l.all AT.flat
  | .arr _ e => e.flat
  | .mapo k v => k.flat && v.flat
mutual
/-- No list that lies in memory which nobody owns. -/
def AV.own : AV → Bool
  | .lst _ _ => false
  | .iptr _ _ _ _ => false
  | .stamp _ k _ => k.flat
  | .fn _ cs => AV.ownL cs
  | .agg cs => AV.ownL cs
  | .tup cs => AV.ownL cs
  | _ => true
def AV.ownL : List AV → Bool
  | [] => true
  | v :: l => v.own && AV.ownL l
end

def Itm.ren (s : Nat → Nat) : Itm → Itm
  | .cells vs => .cells (AV.renL s vs)
  | .iter m k v l x => .iter (s m) k v l x
  | it => it
def Itm.pos : Itm → List Nat
  | .cells vs => AV.posL vs
  | .iter m _ _ _ _ => [m]
  | _ => []
def Itm.own : Itm → Bool
  | .cells vs => AV.ownL vs
  | .arr _ e _ => e.flat
  | .mapo k v _ => k.flat && v.flat
  | .iter _ k v _ _ => k.flat && v.flat
  | .gone => true
  | .pool _ H _ _ => H.all HT.flat
  | .apool _ _ e _ => e.flat
def Itm.has (p : Nat) : Itm → Bool
  | .cells vs => AV.hasL p vs
  | .iter m _ _ _ _ => Nat.beq m p
  | _ => false
end Go.Proofs.Ytljimnhijpcjaaa.VC
