/- A machine on abstract values: the operations, the regions, the code. Definitions alone; no conditions. -/
import Derived.Test.YtljimnhijpcjaaaVa
set_option linter.unusedVariables false
namespace Go.Proofs.Ytljimnhijpcjaaa.VC
open Go

/-! ### Types, as a table -/

inductive Kn where
  | int (k : IntKind) | bool | ptr (e : TypeId) | slice (e : TypeId) | map (k v : TypeId) | struct (fs : List (TypeId × Nat)) | array (n : Nat) (e : TypeId) | func | tuple | other
  deriving DecidableEq

def Kn.agg : Kn → Bool
  | .struct _ => true
  | .array _ _ => true
  | _ => false

def Kn.of : TypeDesc → Kn
  | .int k => .int k
  | .bool => .bool
  | .pointer e => .ptr e
  | .slice e => .slice e
  | .map k v => .map k v
  | .struct fs => .struct (fs.toList.map fun f => (f.type, f.offset))
  | .array n e => .array n e
  | .func .. => .func
  | .tuple _ => .tuple
  | _ => .other

/-- A field of a struct that is compared: a number; a bool; a struct of its own, of so many cells. -/
inductive EF where
  | int (k : IntKind) | bool | sub (t : TypeId) (n : Nat)
def EF.sz : EF → Nat
  | .sub _ n => n
  | _ => 1

structure TI where
  kn : Kn
  size : Nat
  bytes : Nat
  zero : Value
  ty : Option Ty

/-- A value that stands in the program, as an abstract one. -/
def avOfN : Nat → Value → AV
  | 0, _ => .undef
  | _ + 1, .bool true => .tt
  | _ + 1, .bool false => .ff
  | _ + 1, .int k n => bif decide (k.min ≤ n) && decide (n ≤ k.max) then .int k n else .undef
  | _ + 1, .pointer none => .nptr
  | _ + 1, .slice none 0 0 => .nsl
  | _ + 1, .map none => .nmap
  | _ + 1, .nilFunc => .nfn
  | n + 1, .agg cs => .agg (cs.toList.map (avOfN n))
  | _ + 1, _ => .undef
def avOf (v : Value) : AV := avOfN 3 v

/-- The cells of the zero of a type's data. -/
def Ty.zcells : Ty → List Value
  | .int k => [.int k 0]
  | .bool => [.bool false]
  | .unit => []
  | .pair a b => a.zcells ++ b.zcells
  | .slice _ => [.slice none 0 0]
  | .ref _ => [.pointer none]
  | .hdr _ _ => [.slice none 0 0]

/-! ### What an operation comes to -/

inductive Alt : Type 1 where
  | det (v : AV) (upd : List (Nat × Itm)) (new : List Itm)
  | any (T : Type) (post : T → Prop) (v : T → AV) (upd : T → List (Nat × Itm)) (new : T → List Itm)

structure Res : Type 1 where
  pre : List Prop
  /-- Places whose list may lie elsewhere afterwards. -/
  rel : List Nat
  alts : List Alt

/-- What a function comes to: the places 0, 1, .. are those that its arguments reach, in their order; those behind them are new. 'mods': the places that may be written; 'upd': what they then hold. -/
inductive Con : Type 1 where
  | det (pre : List Prop) (mods : List Nat) (val : AV) (upd : List Itm) (new : List Itm)
  | any (pre : List Prop) (mods : List Nat) (T : Type) (post : T → Prop) (val : T → AV) (upd : T → List Itm) (new : T → List Itm)
  | or (a b : Con)

def Con.pre : Con → List Prop
  | .det p _ _ _ _ => p
  | .any p _ _ _ _ _ _ => p
  | .or a _ => a.pre
def Con.mods : Con → List Nat
  | .det _ m _ _ _ => m
  | .any _ m _ _ _ _ _ => m
  | .or a _ => a.mods
def natsEq : List Nat → List Nat → Bool
  | [], [] => true
  | a :: l, b :: m => Nat.beq a b && natsEq l m
  | _, _ => false
/-- No outcome holds a list that nobody owns. -/
def Con.ownedAll : Con → Prop
  | .det _ _ v u n => (v.own && u.all Itm.own && n.all Itm.own) = true
  | .any _ _ T _ v u n => ∀ r : T, ((v r).own && (u r).all Itm.own && (n r).all Itm.own) = true
  | .or a b => a.ownedAll ∧ b.ownedAll
/-- All outcomes write the same places. -/
def Con.fair : Con → Bool
  | .or a b => a.fair && b.fair && natsEq a.mods b.mods
  | _ => true

mutual
/-- The one value is the other, of which less is said. -/
inductive AV.Le : AV → AV → Prop
  | rfl (v : AV) : AV.Le v v
  | tt : AV.Le .tt (.bool true)
  | ff : AV.Le .ff (.bool false)
  | nsl (e : Ty) : AV.Le .nsl (.lst e [])
  | nref (q : Nat) : AV.Le .nptr (.ref q 0)
  | nhd (q : Nat) (e : Ty) : AV.Le .nsl (.hd q e Lh.nil)
  | agg {a b : List AV} : AV.LeL a b → AV.Le (.agg a) (.agg b)
inductive AV.LeL : List AV → List AV → Prop
  | nil : AV.LeL [] []
  | cons {a b : AV} {l m : List AV} : AV.Le a b → AV.LeL l m → AV.LeL (a :: l) (b :: m)
end
inductive Itm.Le : Itm → Itm → Prop
  | rfl (i : Itm) : Itm.Le i i
  | cells {a b : List AV} : AV.LeL a b → Itm.Le (.cells a) (.cells b)
inductive Itm.LeL : List Itm → List Itm → Prop
  | nil : Itm.LeL [] []
  | cons {a b : Itm} {l m : List Itm} : Itm.Le a b → Itm.LeL l m → Itm.LeL (a :: l) (b :: m)
theorem AV.LeL.refl : ∀ (l : List AV), AV.LeL l l
  | [] => .nil
  | v :: l => .cons (.rfl v) (AV.LeL.refl l)
theorem Itm.LeL.refl : ∀ (l : List Itm), Itm.LeL l l
  | [] => .nil
  | v :: l => .cons (.rfl v) (Itm.LeL.refl l)
theorem AV.LeL.of_eq {l m : List AV} (h : l = m) : AV.LeL l m := h ▸ AV.LeL.refl l

/-- What is said of a function, for all data g of which its arguments are made. -/
structure Spc : Type 1 where
  G : Type
  args : G → List AV
  heap : G → List Itm
  find : List AV → List Itm → Option G
  ok : ∀ a h g, find a h = some g → AV.LeL a (args g) ∧ Itm.LeL h (heap g)
  con : G → Con
  /-- The argument slices are handed over, not lent. -/
  own : Bool
  /-- No slice that is written moves. -/
  still : Bool := false
  /-- What comes out holds nothing that was lent. -/
  lends : Bool := false
  /-- The pools that it works on: their places come behind those that the arguments reach. -/
  pools : List Nat := []
  /-- Objects of pools are handed over as they are (else their places are opened for the call). -/
  raw : Bool := false
  lendsOk : lends = true → ∀ g, (con g).ownedAll := by intro h; cases h

/-! ### Cells and places, read as what they are kinds of -/

def rdP (i : Nat) : AV → Option Unit
  | .ptr j 0 => bif Nat.beq j i then some () else none
  | _ => none
def rdS (i : Nat) : AV → Option Unit
  | .sl j => bif Nat.beq j i then some () else none
  | _ => none
def rdM (i : Nat) : AV → Option Unit
  | .map j => bif Nat.beq j i then some () else none
  | _ => none
def rdN : AV → Option Unit
  | .nptr => some ()
  | _ => none
def rdL (k : IntKind) (n : Nat) : AV → Option Unit
  | .int j (.ofNat m) => bif Nat.beq m n && decide (j = k) then some () else none
  | _ => none
def rdF (f : FuncId) : AV → Option Unit
  | .fn g [] => bif Nat.beq g f then some () else none
  | _ => none
def rdX (i : Nat) : AV → Option Nat
  | .pfx j n => bif Nat.beq j i then some n else none
  | _ => none
def rdPO (i o : Nat) : AV → Option Unit
  | .ptr j u => bif Nat.beq j i && Nat.beq u o then some () else none
  | _ => none
def hd1 {α : Type} (f : AV → Option α) : List AV → Option α
  | [x] => f x
  | _ => none
def AT.dec : (a : AT) → List AV → Option a.den
  | .v t, x => t.dec x
  | .p i, x => hd1 (rdP i) x
  | .s i, x => hd1 (rdS i) x
  | .m i, x => hd1 (rdM i) x
  | .nil, x => hd1 rdN x
  | .lit k n, x => hd1 (rdL k n) x
  | .fn0 f, x => hd1 (rdF f) x
  | .px i, x => hd1 (rdX i) x
  | .po i o, x => hd1 (rdPO i o) x

def ATdec : (l : List AT) → List AV → Option (ATden l)
  | [], [] => some ()
  | [], _ :: _ => none
  | a :: l, xs => match a.dec (xs.take a.sz), ATdec l (xs.drop a.sz) with
    | some d, some e => some (d, e)
    | _, _ => none

def HT.rd : (h : HT) → Itm → Option h.den
  | .cells l, .cells vs => ATdec l vs
  | .arr t e, .arr u e' xs => if h : e' = e then (bif Nat.beq u t then some (h ▸ xs) else none) else none
  | .mapo k v, .mapo k' v' E => if h : k' = k ∧ v' = v then some (h.1 ▸ h.2 ▸ E) else none
  | _, _ => none
def HTrds : (l : List HT) → List Itm → Option (HTden l)
  | [], [] => some ()
  | a :: l, x :: xs => match a.rd x, HTrds l xs with
    | some d, some e => some (d, e)
    | _, _ => none
  | _, _ => none

def qv (v : AV) : Option Res := some ⟨[], [], [.det v [] []]⟩
def qp (p : List Prop) (v : AV) : Option Res := some ⟨p, [], [.det v [] []]⟩

section
variable (tt : TypeId → Option TI) (eqt : TypeId → Option (List EF)) (sp : FuncId → Option Spc)

def evalA (st : St) : Operand → AV
  | .tmp t => st.tmp t
  | .const v => avOf v
  | .func f => .fn f []
  | .global _ => .undef

def Itm.poolIs (q : Nat) : Itm → Bool
  | .pool r _ _ _ => Nat.beq r q
  | .apool r _ _ _ => Nat.beq r q
  | _ => false
def poolIn (q : Nat) : List (Nat × Itm) → Option Nat
  | [] => none
  | x :: l => bif x.2.poolIs q then some x.1 else poolIn q l
/-- The place of a pool. -/
def poolAt (st : St) (q : Nat) : Option Nat := poolIn q st.heap
/-- The place that an address lies in; the place of a map. -/
def AV.inAt (st : St) : AV → Nat → Prop
  | .ptr q _, p => p = q
  | .eptr q _ _ _, p => p = q
  | .map q, p => p = q
  | .rp q _ _, p => poolAt st q = some p
  | .hp q _ _ _ _, p => poolAt st q = some p
  | _, _ => False
def pset2 {α : Type} (P : List (Nat × Nat × List α)) (b : Nat) (xs : List α) : List (Nat × Nat × List α) := pset P b (((pget P b).map (·.1)).getD 0, xs)
/-- A list's head of a pool is right. -/
def LhOk {α : Type} (P : List (Nat × Nat × List α)) (h : Lh) : Prop := h.b = 0 ∨ ∃ xs, pget P h.b = some (h.c, xs) ∧ h.n ≤ xs.length
/-- A list grows: where it lies, or elsewhere. -/
def AppO {α : Type} (P : List (Nat × Nat × List α)) (h : Lh) (ys : List α) (h' : Lh) (P' : List (Nat × Nat × List α)) : Prop :=
  (ys = [] ∧ h' = h ∧ P' = P) ∨
  (ys ≠ [] ∧ h.n + ys.length ≤ h.c ∧ h' = ⟨h.b, h.n + ys.length, h.c⟩ ∧ P' = pset2 P h.b ((pget2 P h.b).take h.n ++ ys ++ (pget2 P h.b).drop (h.n + ys.length))) ∨
  (ys ≠ [] ∧ h.c < h.n + ys.length ∧ 0 < h'.b ∧ pget P h'.b = none ∧ h'.n = h.n + ys.length ∧ h.n + ys.length ≤ h'.c ∧ P' = P ++ [(h'.b, h'.c, (pget2 P h.b).take h.n ++ ys)])

/-- A part of cells, as a value of a type. -/
def partA (ti : TI) (cs : List AV) (off : Nat) : Option AV :=
  bif ti.kn.agg then (bif Nat.ble (off + ti.size) cs.length then some (.agg ((cs.drop off).take ti.size)) else none)
  else cs[off]?

def fillA (place : Nat → Option (Nat × Nat)) : List AV → List (Nat × AV) → Option (List AV)
  | cs, [] => some cs
  | cs, (i, v) :: rest =>
    match place i with
    | none => none
    | some (off, size) =>
      bif v.known && Nat.beq v.cells.length size && Nat.ble (off + size) cs.length then fillA place (cs.take off ++ v.cells ++ cs.drop (off + size)) rest else none

/-- One field: the first cells of these. -/
def eqOne (rec : List EF → List AV → List AV → Option Bool) : EF → List AV → List AV → Option Bool
  | .int k, .int q a :: _, .int r b :: _ => bif decide (q = k) && decide (r = k) then some (a == b) else none
  | .bool, x :: _, y :: _ => match x.toBool?, y.toBool? with
    | some a, some b => some (a == b)
    | _, _ => none
  | .sub t n, xs, ys => bif Nat.ble 1 n && Nat.ble n xs.length && Nat.ble n ys.length then (match eqt t with
    | some fs => rec fs (xs.take n) (ys.take n)
    | none => none) else none
  | _, _, _ => none
def eqList (one : EF → List AV → List AV → Option Bool) : List EF → List AV → List AV → Option Bool
  | [], _, _ => none
  | [f], xs, ys => one f xs ys
  | f :: g :: fs, xs, ys => match one f xs ys, eqList one (g :: fs) (xs.drop f.sz) (ys.drop f.sz) with
    | some a, some b => some (a && b)
    | _, _ => none
def eqcA : Nat → List EF → List AV → List AV → Option Bool
  | 0, _, _, _ => none
  | n + 1, fs, xs, ys => eqList (eqOne eqt (eqcA n)) fs xs ys

def bitAnd (k : IntKind) (a b : Int) : Int := k.wrap (BitVec.ofInt k.bits a &&& BitVec.ofInt k.bits b).toNat
def bitOr (k : IntKind) (a b : Int) : Int := k.wrap (BitVec.ofInt k.bits a ||| BitVec.ofInt k.bits b).toNat
def shlI (k : IntKind) (a b : Int) : Int := k.wrap (a * 2 ^ min b.toNat k.bits)
def shrI (k : IntKind) (a b : Int) : Int := a.fdiv (2 ^ min b.toNat k.bits)
def isShift : BinOp → Bool
  | .shl => true
  | .shr => true
  | _ => false
def shiftA (op : BinOp) (k : IntKind) (a b : Int) : Option Res :=
  match op with
  | .shl => qp [0 ≤ b] (.int k (shlI k a b))
  | .shr => qp [0 ≤ b] (.int k (shrI k a b))
  | _ => none

def intA (op : BinOp) (k : IntKind) (a b : Int) : Option Res :=
  match op with
  | .add => qv (.int k (k.wrap (a + b)))
  | .sub => qv (.int k (k.wrap (a - b)))
  | .mul => qv (.int k (k.wrap (a * b)))
  | .quo => qp [b ≠ 0] (.int k (k.wrap (a.tdiv b)))
  | .rem => qp [b ≠ 0] (.int k (a.tmod b))
  | .xor => qv (.int k (k.wrap (BitVec.ofInt k.bits a ^^^ BitVec.ofInt k.bits b).toNat))
  | .and => qv (.int k (bitAnd k a b))
  | .or => qv (.int k (bitOr k a b))
  | .eql => qv (.bool (a == b))
  | .neq => qv (.bool (a != b))
  | .lss => qv (.bool (decide (a < b)))
  | .leq => qv (.bool (decide (a ≤ b)))
  | .gtr => qv (.bool (decide (a > b)))
  | .geq => qv (.bool (decide (a ≥ b)))
  | _ => none

/-- Are these alike? (Not of numbers.) -/
def eqA (t : TypeId) (x y : AV) : Option AV :=
  match Option.map TI.kn (tt t), x, y with
  | some (.struct _), .agg xs, .agg ys => match eqt t with
    | some ks => (eqcA eqt 4 ks xs ys).map .bool
    | none => none
  | some (.ptr _), .nptr, .nptr => some .tt
  | some (.ptr _), .ptr _ _, .nptr => some .ff
  | some (.ptr _), .nptr, .ptr _ _ => some .ff
  | some (.ptr _), .ref _ n, .nptr => some (.bool (decide (n = 0)))
  | some (.ptr _), .nptr, .ref _ n => some (.bool (decide (n = 0)))
  | some .bool, x, y => match x.toBool?, y.toBool? with
    | some a, some b => some (.bool (a == b))
    | _, _ => none
  | _, _, _ => none

def notA : AV → Option AV
  | .tt => some .ff
  | .ff => some .tt
  | .bool b => some (.bool (!b))
  | _ => none

def binA (op : BinOp) (t : TypeId) (x y : AV) : Option Res :=
  match x, y with
  | .int k a, .int j b => bif isShift op then shiftA op k a b else bif decide (k = j) then intA op k a b else none
  | x, y => match op with
    | .eql => match eqA tt eqt t x y with
      | some v => qv v
      | none => none
    | .neq => match (eqA tt eqt t x y).bind notA with
      | some v => qv v
      | none => none
    | _ => none

def unA (op : UnOp) (x : AV) : Option Res :=
  match op, x with
  | .neg, .int k n => qv (.int k (k.wrap (0 - n)))
  | .not, x => match notA x with
    | some v => qv v
    | none => none
  | _, _ => none

/-- All of an array of numbers. -/
def wholeA (ti : TI) (i off : Nat) (e : Ty) (xs : List e.den) : Option Res :=
  match ti.kn, e, xs with
  | .array n _, .int k, xs => bif Nat.beq i 0 && Nat.beq off 0 && Nat.beq ti.size n && Nat.ble 1 n then qp [List.length (α := Int) xs = n] (.vec k xs) else none
  | _, _, _ => none
def loadA (st : St) (ti : TI) (a : AV) : Option Res :=
  match a with
  | .ptr p off => match st.at p with
    | .cells vs => match partA ti vs off with
      | some v => qv v
      | none => none
    | _ => none
  | .eptr p i sz off => match st.at p with
    | .arr _ e xs => bif Nat.beq sz e.sz then (match partA ti (e.enc (xs.getD i e.dflt)) off with
      | some v => qp [i < xs.length] v
      | none => wholeA ti i off e xs) else none
    | _ => none
  | .iptr e xs i off => match partA ti (e.enc (xs.getD i e.dflt)) off with
    | some v => qp [i < xs.length] v
    | none => none
  | .rp q n off => match poolAt st q with
    | some p => match st.at p with
      | .pool _ (.cells l :: H) P [] => match partA ti (ATenc l ((pget P n).getD (HTdflt (.cells l :: H))).1) off with
        | some v => bif v.pos.isEmpty then qp [(pget P n).isSome = true] v else none
        | none => none
      | _ => none
    | none => none
  | .hp q b i sz off => match poolAt st q with
    | some p => match st.at p with
      | .apool _ _ e P => bif Nat.beq sz e.sz then (match partA ti (e.enc ((pget2 P b).getD i e.dflt)) off with
        | some v => qp [i < (pget2 P b).length] v
        | none => none) else none
      | _ => none
    | none => none
  | _ => none

def storeA (st : St) (ti : TI) (a v : AV) : Option Res :=
  bif v.known && v.cells.all AV.one && Nat.beq v.cells.length ti.size then
  match a with
  | .ptr p off => match st.at p with
    | .cells vs => bif Nat.ble (off + ti.size) vs.length then
        some ⟨[], [], [.det .undef [(p, .cells (vs.take off ++ v.cells ++ vs.drop (off + ti.size)))] []]⟩ else none
    | _ => none
  | .eptr p i sz off => match st.at p with
    | .arr t e xs => bif Nat.beq sz e.sz then (match e.putAt (xs.getD i e.dflt) off v.cells with
      | some x => some ⟨[i < xs.length], [], [.det .undef [(p, .arr t e (xs.set i x))] []]⟩
      | none => none) else none
    | _ => none
  | .hp q b i sz off => match poolAt st q with
    | some p => match st.at p with
      | .apool r t e P => bif Nat.beq sz e.sz then (match e.putAt ((pget2 P b).getD i e.dflt) off v.cells with
        | some x => some ⟨[i < (pget2 P b).length], [], [.det .undef [(p, .apool r t e (pset2 P b ((pget2 P b).set i x)))] []]⟩
        | none => none) else none
      | _ => none
    | none => none
  | _ => none
  else none

def lenA (st : St) (x : AV) : Option Res :=
  match x with
  | .nsl => qv (.int .i64 0)
  | .nmap => qv (.int .i64 0)
  | .lst e xs => qv (.int .i64 (xs.length : Int))
  | .sl p => match st.at p with
    | .arr _ e xs => qv (.int .i64 (xs.length : Int))
    | _ => none
  | .pfx p n => match st.at p with
    | .arr _ e xs => qv (.int .i64 (n : Int))
    | _ => none
  | .map p => match st.at p with
    | .mapo k v E => qv (.int .i64 (E.length : Int))
    | _ => none
  | .hd _ _ h => qv (.int .i64 (h.n : Int))
  | _ => none

/-- What must be right of a list's head, if it is to be read. -/
def preA (st : St) : AV → List Prop
  | .hd q _ h => match poolAt st q with
    | some p => match st.at p with
      | .apool _ _ _ P => [h.n ≤ (pget2 P h.b).length]
      | _ => [False]
    | none => [False]
  | _ => []
/-- A slice as data, for reading. -/
def dataA (st : St) (e : Ty) (x : AV) : Option (List e.den) :=
  match x with
  | .nsl => some []
  | .lst e' xs => if h : e' = e then some (h ▸ xs) else none
  | .sl p => match st.at p with
    | .arr _ e' xs => if h : e' = e then some (h ▸ xs) else none
    | _ => none
  | .pfx p n => match st.at p with
    | .arr _ e' xs => if h : e' = e then some (h ▸ xs.take n) else none
    | _ => none
  | .sub p lo n z => match st.at p with
    | .arr _ e' xs => if h : e' = e then (bif Nat.beq z e'.sz then some (h ▸ (xs.drop lo).take n) else none) else none
    | _ => none
  | .hd q e'' h => match poolAt st q with
    | some p => match st.at p with
      | .apool _ _ e' P => if he : e' = e then (bif decide (e'' = e') then some (he ▸ (pget2 P h.b).take h.n) else none) else none
      | _ => none
    | none => none
  | _ => none

/-- append(s, x): to a list of one's own, or to none. -/
def appendA (st : St) (te : TI) (t : TypeId) (s x : AV) : Option Res :=
  match te.ty with
  | none => none
  | some e =>
    bif !(Nat.ble 1 te.size && Nat.ble 1 te.bytes) then none else
    match dataA st e x with
    | none => none
    | some ys =>
      match s with
      | .nsl => some ⟨preA st x ++ [ys.length * te.bytes ≤ 140737488355328], [], [.det (.sl st.next) [] [.arr t e ys]]⟩
      | .sl p => match st.at p with
        | .arr t' e' xs => bif Nat.beq t' t then (if h : e' = e then
            some ⟨preA st x ++ [(xs.length + ys.length) * te.bytes ≤ 140737488355328], [p], [.det (.sl p) [(p, .arr t e ((h ▸ xs) ++ ys))] []]⟩ else none) else none
        | _ => none
      | .hd q e'' h => match poolAt st q with
        | some p => match st.at p with
          | .apool r t' e' P => bif Nat.beq t' t && Nat.beq r q then (if he : e' = e then
              some ⟨preA st x ++ [LhOk P h, (h.n + ys.length) * te.bytes ≤ 140737488355328], [], [.any (Lh × List (Nat × Nat × List e'.den)) (fun y => AppO P h (he ▸ ys) y.1 y.2) (fun y => .hd q e' y.1) (fun y => [(p, .apool r t' e' y.2)]) (fun _ => [])]⟩ else none) else none
          | _ => none
        | none => none
      | _ => none

def listOf (e : Ty) : Nat → List (Nat × AV) → Option (List e.den)
  | _, [] => some []
  | n, (i, v) :: l => bif Nat.beq i n then (match e.ofAV v, listOf e (n + 1) l with
    | some x, some xs => some (x :: xs)
    | _, _ => none) else none

def indexA (st : St) (ti : TI) (te : TI) (x : AV) (i : Int) : Option Res :=
  match ti.kn, x with
  | .slice _, .lst e xs => bif Nat.beq te.size e.sz then qp [0 ≤ i, i < (xs.length : Int)] (.iptr e xs i.toNat 0) else none
  | .slice _, .sl p => match st.at p with
    | .arr _ e xs => qp [0 ≤ i, i < (xs.length : Int)] (.eptr p i.toNat te.size 0)
    | _ => none
  | .slice _, .pfx p n => match st.at p with
    | .arr _ e xs => qp [0 ≤ i, i < (n : Int)] (.eptr p i.toNat te.size 0)
    | _ => none
  | .slice _, .hd q e h => bif Nat.beq te.size e.sz then qp [0 ≤ i, i < (h.n : Int)] (.hp q h.b i.toNat te.size 0) else none
  | .array n _, .ptr p off => qp [0 ≤ i, i < (n : Int)] (.ptr p (off + i.toNat * te.size))
  | .array n _, .eptr p j sz off => bif Nat.beq j 0 && Nat.beq off 0 && Nat.beq te.size sz then qp [0 ≤ i, i < (n : Int)] (.eptr p i.toNat sz 0) else none
  | _, _ => none

/-- An element of an array's value. -/
def elemA (ti te : TI) (x : AV) (i : Int) : Option Res :=
  match ti.kn, x with
  | .array n _, .vec k xs => bif Nat.beq te.size 1 && !te.kn.agg then qp [0 ≤ i, i < (n : Int), xs.length = n] (.int k (xs.getD i.toNat 0)) else none
  | _, _ => none

def zeroIs (k : IntKind) : Value → Bool
  | .int j n => decide (j = k) && decide (n = 0)
  | _ => false
def zeros (n : Nat) : List Int := List.replicate n 0
/-- Is it an array of numbers (more than one)? How many, which? -/
def vecTy (tt : TypeId → Option TI) (ti : TI) : Option (Nat × IntKind) :=
  match ti.kn with
  | .array n te => (tt te).bind fun ei => match ei.ty with
    | some (.int k) => bif Nat.beq ti.zero.cells.size n && ti.zero.cells.toList.all (zeroIs k) && Nat.ble 2 n && Nat.ble n 1000 then some (n, k) else none
    | _ => none
  | _ => none

def sliceA (st : St) (te : TI) (x : AV) (lo hi : Option AV) : Option Res :=
  match x, lo, hi with
  | .lst e xs, none, some (.int _ h) => qp [0 ≤ h, h ≤ (xs.length : Int)] (.lst e (xs.take h.toNat))
  | .lst e xs, some (.int _ l), none => bif Nat.beq te.size e.sz then qp [0 ≤ l, l ≤ (xs.length : Int)] (.lst e (xs.drop l.toNat)) else none
  | .lst e xs, some (.int _ l), some (.int _ h) => bif Nat.beq te.size e.sz then qp [0 ≤ l, l ≤ h, h ≤ (xs.length : Int)] (.lst e ((xs.take h.toNat).drop l.toNat)) else none
  | .sl p, none, some (.int _ h) => match st.at p with
    | .arr _ e xs => qp [0 ≤ h, h ≤ (xs.length : Int)] (.pfx p h.toNat)
    | _ => none
  | .pfx p n, none, some (.int _ h) => match st.at p with
    | .arr _ e xs => qp [0 ≤ h, h ≤ (xs.length : Int)] (.pfx p h.toNat)
    | _ => none
  | .sl p, some (.int _ l), none => match st.at p with
    | .arr _ e xs => bif Nat.beq te.size e.sz then qp [0 ≤ l, l ≤ (xs.length : Int)] (.sub p l.toNat (xs.length - l.toNat) e.sz) else none
    | _ => none
  | .hd q e h, none, some (.int _ k) => qp [0 ≤ k, k ≤ (h.c : Int)] (.hd q e ⟨h.b, k.toNat, h.c⟩)
  | _, _, _ => none

/-- Types whose data may be keys. -/
def Ty.keyed : Ty → Bool
  | .int _ => true
  | _ => false

/-- A look into a map. -/
def lookupA (st : St) (tk tv : TI) (m key : AV) (ok : Bool) : Option Res :=
  match tk.ty, tv.ty with
  | some k, some v =>
    bif !k.keyed then none else
    match k.ofAV key with
    | none => none
    | some key =>
      match m with
      | .nmap => qv (bif ok then .tup [v.av v.dflt, .ff] else v.av v.dflt)
      | .map p => match st.at p with
        | .mapo k' v' E => if h : k' = k ∧ v' = v then
            qv (bif ok then .tup [v'.av ((mget E (h.1 ▸ key)).getD v'.dflt), .bool (mget E (h.1 ▸ key)).isSome] else v'.av ((mget E (h.1 ▸ key)).getD v'.dflt)) else none
        | _ => none
      | _ => none
  | _, _ => none

/-- The key's type is that of the map's places. -/
def keyIs (tk : TI) (k : Ty) : Bool := k.keyed && decide (tk.ty = some k)

def updateA (st : St) (tk : TI) (m key x : AV) : Option Res :=
  match m with
  | .map p => match st.at p with
    | .mapo k v E => bif !keyIs tk k then none else match k.ofAV key, v.ofAV x with
      | some key, some x => some ⟨[E.length < maxLen], [], [.det .undef [(p, .mapo k v (mset E key x))] []]⟩
      | _, _ => none
    | _ => none
  | _ => none

def entryA (st : St) (tk tv : TI) (m key : AV) : Option Res :=
  match m with
  | .map p => match st.at p with
    | .mapo k v E => bif !keyIs tk k || !decide (tv.ty = some v) then none else match k.ofAV key with
      | some key => some ⟨[E.length < maxLen], [], [.det (.tup [v.av ((mget E key).getD v.dflt), .stamp p k key]) [(p, .mapo k v (mset E key ((mget E key).getD v.dflt)))] []]⟩
      | none => none
    | _ => none
  | _ => none

def stampA (st : St) (m s x : AV) : Option Res :=
  match m, s with
  | .map p, .stamp q k' key => bif Nat.beq p q then (match st.at p with
    | .mapo k v E => if h : k' = k then (bif !k.keyed then none else match v.ofAV x with
      | some x => some ⟨[], [], [.det .undef [(p, .mapo k v (mset E (h ▸ key) x))] []]⟩
      | none => none) else none
    | _ => none) else none
  | _, _ => none

def deleteA (st : St) (tk : TI) (m key : AV) : Option Res :=
  match m with
  | .map p => match st.at p with
    | .mapo k v E => bif !keyIs tk k then none else match k.ofAV key with
      | some key => some ⟨[], [], [.det (.tup []) [(p, .mapo k v (mdel E key))] []]⟩
      | none => none
    | _ => none
  | _ => none

def nextA (st : St) (it : AV) : Option Res :=
  match it with
  | .ptr p 0 => match st.at p with
    | .iter m k v left _ => some ⟨[], [], [
        .any Unit (fun _ => left = []) (fun _ => .tup [.ff]) (fun _ => []) (fun _ => []),
        .any (List (k.den × v.den) × (k.den × v.den) × List (k.den × v.den)) (fun x => left = x.1 ++ x.2.1 :: x.2.2) (fun x => .tup [.tt, k.av x.2.1.1, v.av x.2.1.2])
          (fun x => [(p, .iter m k v (x.1 ++ x.2.2) (some x.2.1))]) (fun _ => [])]⟩
    | _ => none
  | _ => none

/-- The entry that the iterator gave last. -/
def nowA (st : St) (it : AV) : Option Res :=
  match it with
  | .ptr p 0 => match st.at p with
    | .iter _ k v _ (some e) => qv (.tup [k.av e.1, v.av e.2])
    | _ => none
  | _ => none

/-! ### A call -/

def hasKey {α : Type} (l : List (Nat × α)) (p : Nat) : Bool := l.any fun x => Nat.beq x.1 p
def isIn (l : List Nat) (p : Nat) : Bool := l.any (Nat.beq p)
def nodupB : List Nat → Bool
  | [] => true
  | p :: l => !isIn l p && nodupB l

/-- Owned lists among the arguments are lent. -/
def lend1 (st : St) : AV → AV
  | .hd q _ h => match poolAt st q with
    | some p => match st.at p with
      | .apool _ _ e P => .lst e ((pget2 P h.b).take h.n)
      | _ => .undef
    | none => .undef
  | .sl p => match st.at p with
    | .arr _ e xs => .lst e xs
    | _ => .undef
  | .pfx p n => match st.at p with
    | .arr _ e xs => .lst e (xs.take n)
    | _ => .undef
  | v => v
def lendA (st : St) : AV → AV
  | .agg cs => .agg (cs.map (lend1 st))
  | v => lend1 st v
def lent1 (st : St) : AV → List Nat
  | .sl p => [p]
  | .pfx p _ => [p]
  | .hd q _ _ => match poolAt st q with
    | some p => [p]
    | none => []
  | _ => []
def lentBy (st : St) : AV → List Nat
  | .agg cs => cs.flatMap (lent1 st)
  | v => lent1 st v
def preBy (st : St) : AV → List Prop
  | .agg cs => cs.flatMap (preA st)
  | v => preA st v
/-- The places of these pools. -/
def poolsAt (st : St) : List Nat → Option (List Nat)
  | [] => some []
  | q :: l => match poolAt st q, poolsAt st l with
    | some p, some ps => some (p :: ps)
    | _, _ => none

def addAll : List Nat → List Nat → List Nat
  | s, [] => s
  | s, p :: l => addAll (bif s.any (Nat.beq p) then s else s ++ [p]) l

/-- The places that the arguments reach, in their order. -/
def reach (st : St) : Nat → List Nat → Nat → List Nat
  | 0, s, _ => s
  | n + 1, s, i => match s[i]? with
    | none => s
    | some p => reach st n (addAll s (st.at p).pos) (i + 1)

def indexIn (s : List Nat) (p : Nat) : Nat := match s.findIdx? (Nat.beq p) with
  | some i => i
  | none => 1000000 + p

/-- The place that a callee's place stands for: one of those that its arguments reach, or a new one. -/
def outOf (sg : List Nat) (nx i : Nat) : Nat := bif Nat.blt i sg.length then sg.getD i 0 else nx + (i - sg.length)

def Alt.ofCon (sg : List Nat) (nx : Nat) : Con → List Alt
  | .det _ m v u n => [.det (v.ren (outOf sg nx)) ((m.map (outOf sg nx)).zip (u.map (·.ren (outOf sg nx)))) (n.map (·.ren (outOf sg nx)))]
  | .any _ m T post v u n => [.any T post (fun r => (v r).ren (outOf sg nx)) (fun r => (m.map (outOf sg nx)).zip ((u r).map (·.ren (outOf sg nx)))) (fun r => (n r).map (·.ren (outOf sg nx)))]
  | .or a b => Alt.ofCon sg nx a ++ Alt.ofCon sg nx b

def Itm.isArr : Itm → Bool
  | .arr _ _ _ => true
  | _ => false

/-- Does what comes out hold no list that was lent? -/
def Con.owned : Con → Bool
  | .det _ _ v u n => v.own && u.all Itm.own && n.all Itm.own
  | .any .. => false
  | .or a b => a.owned && b.owned

def callA (st : St) (f : FuncId) (args : List AV) : Option Res :=
  match sp f with
  | none => none
  | some s =>
    match poolsAt st s.pools with
    | none => none
    | some pls =>
    let as := bif s.own then args else args.map (lendA st)
    let lent := bif s.own then [] else args.flatMap (lentBy st)
    let sg := reach st 12 (addAll [] (AV.posL as)) 0 ++ pls
    let inn := indexIn sg
    match s.find (AV.renL inn as) (sg.map fun p => (st.at p).ren inn) with
    | none => none
    | some g =>
      let c := s.con g
      bif lent.all (fun p => !sg.any (Nat.beq p)) && c.fair && (lent.isEmpty || c.owned || s.lends) && (AV.posL as).all (fun q => sg.any (Nat.beq q)) && sg.all (fun p => (st.at p).pos.all (fun q => sg.any (Nat.beq q))) && sg.all (hasKey st.heap) && nodupB sg && c.mods.all (fun i => Nat.blt i sg.length) && nodupB c.mods then
        some ⟨(bif s.own then [] else args.flatMap (preBy st)) ++ c.pre, bif s.still then [] else (c.mods.map (outOf sg st.next)).filter (fun p => (st.at p).isArr), Alt.ofCon sg st.next c⟩ else none

def minA : List AV → Option Res
  | [.int k a, .int j b] => bif decide (k = j) then qv (.int k (if b < a then b else a)) else none
  | _ => none
def maxA : List AV → Option Res
  | [.int k a, .int j b] => bif decide (k = j) then qv (.int k (if b > a then b else a)) else none
  | _ => none

/-- Go's own functions. -/
def builtA (st : St) (b : Builtin) (ts : List TypeId) (args : List AV) : Option Res :=
  match b with
  | .min => minA args
  | .max => maxA args
  | .len => match ts, args with
    | [t], [x] => (tt t).bind fun ti => match ti.kn, x.ofMap with
      | .slice _, false => lenA st x
      | .map _ _, true => lenA st x
      | _, _ => none
    | _, _ => none
  | .append => match ts, args with
    | [t, t'], [s, x] => bif Nat.beq t t' then ((tt t).bind fun ti => match ti.kn with
        | .slice te => (tt te).bind fun ei => appendA st ei te s x
        | _ => none) else none
    | _, _ => none
  | .delete => match ts, args with
    | t :: _, [m, k] => (tt t).bind fun ti => match ti.kn with
      | .map kt _ => (tt kt).bind fun tk => deleteA st tk m k
      | _ => none
    | _, _ => none
  | _ => none

/-- A list, and nil: alike? -/
def nilSl (o : Oper) : Bool :=
  match o.op with
  | .binOp .eql _ _ (.const (.slice none 0 0)) _ => true
  | .binOp .neq _ _ (.const (.slice none 0 0)) _ => true
  | _ => false
def isEql : BinOp → Bool
  | .eql => true
  | _ => false
def nilAlts (b : Bool) (p : Prop) : Option Res := some ⟨[], [], [.any Unit (fun _ => p) (fun _ => bif b then .tt else .ff) (fun _ => []) (fun _ => []), .det (bif b then .ff else .tt) [] []]⟩
def nilSlA (st : St) (b : Bool) (t : TypeId) (x : AV) : Option Res :=
  match Option.map TI.kn (tt t), x with
  | some (.slice _), .nsl => qv (bif b then .tt else .ff)
  | some (.slice _), .hd _ _ h => qv (.bool (bif b then decide (h.b = 0) else !decide (h.b = 0)))
  | some (.slice _), .lst _ xs => nilAlts b (xs.length = 0)
  | some (.slice _), .sl p => match st.at p with
    | .arr _ _ xs => nilAlts b (xs.length = 0)
    | _ => none
  | _, _ => none

/-- What an operation comes to. -/
def opA (st : St) (o : Oper) : Option Res :=
  let ev := evalA st
  match o.op with
  | .move x => qv (ev x)
  | .assign x => qv (ev x)
  | .pick c a b => match ev c with
    | .tt => qv (ev a)
    | .ff => qv (ev b)
    | _ => none
  | .alloc t => (tt t).bind fun ti => match vecTy tt ti with
    | some (n, k) => some ⟨[], [], [.det (.eptr st.next 0 1 0) [] [.arr t (.int k) (zeros n)]]⟩
    | none => some ⟨[], [], [.det (.ptr st.next 0) [] [.cells (avOf ti.zero).cells]]⟩
  | .box _ x => bif (ev x).known then some ⟨[], [], [.det (.ptr st.next 0) [] [.cells (ev x).cells]]⟩ else none
  | .build t ps => (tt t).bind fun ti => match ti.kn with
    | .struct fs => bif !fs.all (fun f => (tt f.1).isSome) then none else match fillA (fun i => (fs[i]?).bind fun f => (tt f.1).map fun fi => (f.2, fi.size)) (avOf ti.zero).cells (ps.toList.map fun x => (x.1, ev x.2)) with
      | some cs => qv (.agg cs)
      | none => none
    | _ => none
  | .buildSlice t n ps => (tt t).bind fun ti => match ti.kn with
    | .slice te => (tt te).bind fun ei => match ei.ty with
      | some e => match listOf e 0 (ps.toList.map fun x => (x.1, ev x.2)) with
        | some xs => bif Nat.beq xs.length n && Nat.ble (n * ei.size) 1000 && Nat.ble 1 ei.size then some ⟨[], [], [.det (.sl st.next) [] [.arr te e xs]]⟩ else none
        | none => none
      | none => none
    | _ => none
  | .load t a => (tt t).bind fun ti => loadA st ti (ev a)
  | .store t a x => (tt t).bind fun ti => storeA st ti (ev a) (ev x)
  | .nilCheck x => match ev x with
    | .ptr p o => qv (.ptr p o)
    | .eptr p i z o => qv (.eptr p i z o)
    | .iptr e xs i o => qv (.iptr e xs i o)
    | .fn f cs => qv (.fn f cs)
    | .ref q n => qp [n ≠ 0] (.ref q n)
    | .rp q n o => qv (.rp q n o)
    | .hp q b i z o => qv (.hp q b i z o)
    | _ => none
  | .binOp op t x y _ => bif nilSl o then nilSlA tt st (isEql op) t (ev x) else binA tt eqt op t (ev x) (ev y)
  | .unOp op _ x => unA op (ev x)
  | .convert s t x => (tt s).bind fun _ => (tt t).bind fun ti => match ti.kn, ev x with
    | .int k, .int j n => qv (.int k (bif decide (j = k) then n else k.wrap n))
    | _, _ => none
  | .makeFunc fn fs cs => match fn, fs.toList with
    | .func f, [] => qv (.fn f (cs.toList.map ev))
    | _, _ => none
  | .makeMap t none => (tt t).bind fun ti => match ti.kn with
    | .map tk tv => (tt tk).bind fun k => (tt tv).bind fun v => match k.ty, v.ty with
      | some k, some v => some ⟨[], [], [.det (.map st.next) [] [.mapo k v []]]⟩
      | _, _ => none
    | _ => none
  | .slice t x lo hi none => (tt t).bind fun ti => match ti.kn with
    | .slice te => (tt te).bind fun ei => sliceA st ei (ev x) (lo.map ev) (hi.map ev)
    | _ => none
  | .fieldAddr t x f => (tt t).bind fun ti => match ti.kn with
    | .struct fs => (fs[f]?).bind fun fl => (tt fl.1).bind fun fi => bif Nat.ble 1 fi.size then (match ev x with
      | .ptr p o => qv (.ptr p (o + fl.2))
      | .eptr p i z o => qv (.eptr p i z (o + fl.2))
      | .iptr e xs i o => qv (.iptr e xs i (o + fl.2))
      | .ref q n => qp [n ≠ 0] (.rp q n fl.2)
      | .rp q n o => qv (.rp q n (o + fl.2))
      | .hp q b i z o => qv (.hp q b i z (o + fl.2))
      | _ => none) else none
    | _ => none
  | .field t x f => (tt t).bind fun ti => match ti.kn, ev x with
    | .struct fs, .agg cs => (fs[f]?).bind fun fl => (tt fl.1).bind fun fi => match partA fi cs fl.2 with
      | some v => qv v
      | none => none
    | _, _ => none
  | .indexAddr t x i => (tt t).bind fun ti => match ev i with
    | .int _ n => match ti.kn with
      | .slice te => (tt te).bind fun ei => indexA st ti ei (ev x) n
      | .array _ te => (tt te).bind fun ei => indexA st ti ei (ev x) n
      | _ => none
    | _ => none
  | .index t x i => (tt t).bind fun ti => match ev i with
    | .int _ n => match ti.kn with
      | .array _ te => (tt te).bind fun ei => elemA ti ei (ev x) n
      | _ => none
    | _ => none
  | .lookup t x i ok => (tt t).bind fun ti => match ti.kn with
    | .map tk tv => (tt tk).bind fun k => (tt tv).bind fun v => lookupA st k v (ev x) (ev i) ok
    | _ => none
  | .mapUpdate t m k x => (tt t).bind fun ti => match ti.kn with
    | .map kt _ => (tt kt).bind fun tk => updateA st tk (ev m) (ev k) (ev x)
    | _ => none
  | .range t x => (tt t).bind fun ti => match ti.kn with
    | .map _ _ => match ev x with
      | .map p => match st.at p with
        | .mapo k v E => some ⟨[], [], [.det (.ptr st.next 0) [] [.iter p k v E none]]⟩
        | _ => none
      | _ => none
    | _ => none
  | .next it false => nextA st (ev it)
  | .entry it => nowA st (ev it)
  | .extract x i => match ev x with
    | .tup vs => match vs[i]? with
      | some v => qv v
      | none => none
    | _ => none
  | .call c => match c.callee with
    | .builtin bi => builtA tt st bi c.argTypes.toList (c.args.toList.map ev)
    | .value f => match ev f with
      | .fn g cs => callA sp st g (c.args.toList.map ev ++ cs)
      | _ => none
    | _ => none
  | _ => none

end
end Go.Proofs.Ytljimnhijpcjaaa.VC
