/- A machine on abstract values: regions, code, functions; what is to be shown of a function, as one proposition. Definitions alone; no conditions. -/
import Derived.Test.YtljimnhijpcjaaaVb
set_option linter.unusedVariables false
namespace Go.Proofs.Ytljimnhijpcjaaa.VC
open Go

/-! ### Words that stand in what is to be shown -/

/-- A proposition, kept as it is. -/
structure Holds (p : Prop) : Prop where mk :: (out : p)
/-- Both ways of a test. -/
structure SplitB (b : Bool) (A B : Prop) : Prop where mk :: (t : b = true → A) (f : b = false → B)

/-- A number of its kind. -/
def InR (k : IntKind) (n : Int) : Prop := k.min ≤ n ∧ n ≤ k.max

/-- Data of its type: numbers of their kinds, lists no longer than may be. -/
def Ty.ok : (t : Ty) → t.den → Prop
  | .int k, (n : Int) => InR k n
  | .bool, _ => True
  | .unit, _ => True
  | .pair a b, d => a.ok d.1 ∧ b.ok d.2
  | .slice e, (xs : List e.den) => xs.length ≤ maxLen ∧ ∀ x ∈ xs, e.ok x
  | .ref _, _ => True
  | .hdr _ _, (h : Lh) => h.ok

/-- A map's entries: no key twice. -/
def MOk (k v : Ty) (E : List (k.den × v.den)) : Prop := E.length ≤ maxLen ∧ E.Pairwise (fun a b => k.beq a.1 b.1 = false) ∧ ∀ e ∈ E, k.ok e.1 ∧ v.ok e.2

/-- The objects of a pool, its lists: no number twice. -/
def PoolOk {α : Type} (P : List (Nat × α)) : Prop := (P.map (·.1)).Nodup ∧ ∀ x ∈ P, 0 < x.1
def APoolOk (e : Ty) (P : List (Nat × Nat × List e.den)) : Prop := PoolOk P ∧ ∀ x ∈ P, x.2.2.length ≤ x.2.1 ∧ x.2.1 ≤ maxLen ∧ ∀ y ∈ x.2.2, e.ok y
/-- A list of one's own becomes one of a pool. -/
def PackL {α : Type} (P : List (Nat × Nat × List α)) (xs : List α) (h : Lh) (P' : List (Nat × Nat × List α)) : Prop :=
  (xs = [] ∧ h = Lh.nil ∧ P' = P) ∨ (0 < h.b ∧ pget P h.b = none ∧ h.n = xs.length ∧ xs.length ≤ h.c ∧ h.c ≤ maxLen ∧ P' = P ++ [(h.b, h.c, xs)])

def preAll : List Prop → Prop → Prop
  | [], X => X
  | p :: ps, X => Holds p ∧ preAll ps X
def hypAll : List Prop → Prop → Prop
  | [], X => X
  | p :: ps, X => Holds p → hypAll ps X

def numFrom {α : Type} : Nat → List α → List (Nat × α)
  | _, [] => []
  | n, x :: l => (n, x) :: numFrom (n + 1) l

/-- What is said anew, with no step of the program: the list of one's own at place a is to be at place b, where one was that is given up; these slots follow it. -/
inductive Gh where
  | mv (a b : Nat) (ts : List Nat)
  /-- The list of one's own at this place is written no more: it becomes data (in these slots, and in cells). -/
  | fz (p : Nat) (ts : List Nat)
  /-- Where this slot is a nil list, it becomes one of one's own, at this place. -/
  | nw (t q : Nat) (te : TypeId) (e : Ty)
  /-- Where this cell of a place is a nil list, it becomes one of one's own, at that place. -/
  | nc (p i q : Nat) (te : TypeId) (e : Ty)
  /-- Pools without objects, without lists, at a place. -/
  | np (p q : Nat) (H : List HT)
  | na (p q : Nat) (te : TypeId) (e : Ty)
  /-- The object whose first place is p (it has places ps) becomes one of pool q; these slots name it. -/
  | pk (p q : Nat) (ps : List Nat) (ts : List Nat)
  /-- The list of one's own at place p becomes one of pool q; these slots name it. -/
  | pl (p q : Nat) (ts : List Nat)
  /-- The number in this slot is one of these. -/
  | cs (t : Nat) (ns : List Nat)

/-! ### Steps -/

def AV.drop (p : Nat) (v : AV) : AV := bif v.has p then .undef else v
def Itm.drop (p : Nat) : Itm → Itm
  | .cells vs => .cells (vs.map (AV.drop p))
  | it => it
def AV.unst (p : Nat) (v : AV) : AV := bif v.hasSt p then .undef else v
def Itm.stop (p : Nat) : Itm → Itm
  | .cells vs => .cells (vs.map (AV.unst p))
  | .iter m k v l x => bif Nat.beq m p then .gone else .iter m k v l x
  | it => it

def St.put (st : St) (d : Option Nat) (v : AV) : St :=
  match d with
  | none => st
  | some d => { st with tmps := (d, v) :: st.tmps }
def St.kill (st : St) : List Nat → St
  | [] => st
  | p :: ps => St.kill { st with tmps := st.tmps.map (fun x => (x.1, x.2.drop p)), heap := st.heap.map (fun x => (x.1, x.2.drop p)) } ps
def St.upds (st : St) : List (Nat × Itm) → St
  | [] => st
  | (p, it) :: l => St.upds { st with tmps := st.tmps.map (fun x => (x.1, x.2.unst p)), heap := (p, it) :: st.heap.map (fun x => (x.1, x.2.stop p)) } l
def St.news (st : St) : List Itm → St
  | [] => st
  | it :: l => St.news { st with heap := (st.next, it) :: st.heap, next := st.next + 1 } l


/-- May these places be written, and are the new ones new? -/
def St.lets (st : St) (hold rel : List Nat) (upd : List (Nat × Itm)) (n : Nat) : Bool :=
  upd.all (fun x => !isIn st.lock x.1 && !isIn hold x.1 && hasKey st.heap x.1) && nodupB (upd.map (·.1)) &&
  rel.all (fun p => hasKey upd p) &&
  st.lock.all (fun q => rel.all (fun p => !(st.at q).has p) && upd.all (fun x => match (st.at q) with
    | .iter m _ _ _ _ => !Nat.beq m x.1
    | .cells vs => !AV.hasStL x.1 vs
    | _ => true)) &&
  (List.range n).all (fun i => !hasKey st.heap (st.next + i))

def dstOk (nt : Nat) : Option Nat → Bool
  | none => true
  | some d => Nat.blt d nt

def stepK (nt : Nat) (st : St) (hold rel : List Nat) (dst : Option Nat) (v : AV) (upd : List (Nat × Itm)) (new : List Itm) (K : St → Prop) : Prop :=
  bif st.lets hold rel upd new.length && dstOk nt dst then K ((((st.kill rel).upds upd).news new).put dst v) else False

def goAlt (nt : Nat) (st : St) (hold rel : List Nat) (dst : Option Nat) (K : St → Prop) : Alt → Prop
  | .det v u n => stepK nt st hold rel dst v u n K
  | .any T post v u n => ∀ r : T, Holds (post r) → stepK nt st hold rel dst (v r) (u r) (n r) K

def goAlts (nt : Nat) (st : St) (hold rel : List Nat) (dst : Option Nat) (K : St → Prop) : List Alt → Prop
  | [] => False
  | [a] => goAlt nt st hold rel dst K a
  | a :: l => goAlt nt st hold rel dst K a ∧ goAlts nt st hold rel dst K l

def goRes (nt : Nat) (st : St) (hold : List Nat) (dst : Option Nat) (K : St → Prop) (r : Res) : Prop :=
  preAll r.pre (goAlts nt st hold r.rel dst K r.alts)

/-- What a tmp says of a test; where that isn't known yet, both ways. -/
def splitT (st : St) (t : Nat) (yes no : St → Prop) (skip : St → Prop) : Prop :=
  match st.tmp t with
  | .tt => yes st
  | .ff => no st
  | .bool b => SplitB b (yes (st.put (some t) .tt)) (no (st.put (some t) .ff))
  | .skip => skip st
  | _ => False

structure Cx : Type 1 where
  tt : TypeId → Option TI
  eqt : TypeId → Option (List EF)
  sp : FuncId → Option Spc
  nt : Nat

section
variable (C : Cx)

/-- New places bear the number of the slot that they are made for. -/
def St.seat (st : St) (o : Oper) : St :=
  match o.dst with
  | some d => { st with next := 1000 + 16 * d }
  | none => st

def runOp0 (hold : List Nat) (o : Oper) (st : St) (K : St → Prop) : Prop :=
  match opA C.tt C.eqt C.sp (st.seat o) o with
  | some r => goRes C.nt (st.seat o) hold o.dst K r
  | none => False

/-! ### Objects of pools, opened for a call -/

mutual
/-- A pointer to the first of these places becomes r; else nothing of them is known any more. -/
def AV.cl (p0 : Nat) (ps : List Nat) (r : AV) : AV → AV
  | .ptr p o => bif Nat.beq p p0 && Nat.beq o 0 then r else bif isIn ps p then .undef else .ptr p o
  | .agg cs => .agg (AV.clL p0 ps r cs)
  | .tup cs => .tup (AV.clL p0 ps r cs)
  | .fn f cs => .fn f (AV.clL p0 ps r cs)
  | v => bif v.pos.any (isIn ps) then .undef else v
def AV.clL (p0 : Nat) (ps : List Nat) (r : AV) : List AV → List AV
  | [] => []
  | v :: l => AV.cl p0 ps r v :: AV.clL p0 ps r l
end
def Itm.cl (p0 : Nat) (ps : List Nat) (r : AV) : Itm → Itm
  | .cells vs => .cells (AV.clL p0 ps r vs)
  | .iter m k v l x => bif isIn ps m then .gone else .iter m k v l x
  | it => it
/-- An object that is open: the slot that names it, its first place, how many; the pool's place, its number, the object's. -/
structure Opn where
  t : Nat
  base : Nat
  k : Nat
  pq : Nat
  q : Nat
  n : Nat
def fits1 (H : List HT) : Bool := match H with
  | .cells _ :: _ => Nat.ble H.length 100
  | _ => false
def openB (j pq : Nat) : Nat := 1000000 + 10000 * pq + 100 * j
def inRange (base k p : Nat) : Bool := Nat.ble base p && Nat.blt p (base + k)
def farFrom (base k pq : Nat) (ps : List Nat) : Bool := ps.all fun p => !inRange base k p && !Nat.beq p pq
def St.mayOpen (st : St) (hold : List Nat) (j pq : Nat) (H : List HT) : Bool :=
  Nat.blt pq 1000000 && Nat.blt j 100 && !isIn hold pq && !isIn st.lock pq &&
  st.heap.all (fun x => !inRange (openB j pq) H.length x.1) &&
  st.tmps.all (fun x => farFrom (openB j pq) H.length pq x.2.pos) &&
  st.heap.all (fun x => farFrom (openB j pq) H.length pq x.2.pos)
def St.open (st : St) (t base pq : Nat) (it : Itm) (items : List Itm) : St :=
  { st with tmps := (t, .ptr base 0) :: st.tmps, heap := (pq, it) :: (numFrom base (items.map (·.ren (base + ·))) ++ st.heap) }
def openA (hold : List Nat) : Nat → List Nat → St → (List Opn → St → Prop) → Prop
  | _, [], st, K => K [] st
  | j, t :: l, st, K => match st.tmp t with
    | .ref q n => match poolAt st q with
      | none => False
      | some pq => match st.at pq with
        | .pool q' H P hs => bif st.mayOpen hold j pq H then
            Holds ((pget P n).isSome = true ∧ n ∉ hs) ∧ openA hold (j + 1) l (st.open t (openB j pq) pq (.pool q' H P (n :: hs)) (HTitms H ((pget P n).getD (HTdflt H)))) (fun os s => K (⟨t, openB j pq, H.length, pq, q, n⟩ :: os) s) else False
        | _ => False
    | _ => openA hold (j + 1) l st K
def St.close (st : St) (base k pq : Nat) (it : Itm) (r : AV) : St :=
  { st with
    tmps := st.tmps.map (fun x => (x.1, AV.cl base (pq :: (List.range k).map (base + ·)) r x.2))
    heap := (pq, it) :: (st.heap.filter fun x => !inRange base k x.1).map (fun x => (x.1, x.2.cl base (pq :: (List.range k).map (base + ·)) r)) }
def close1 (o : Opn) (st : St) (K : St → Prop) : Prop :=
  match st.at o.pq with
  | .pool q' H P (m :: hs) => match HTrds H ((List.range o.k).map fun i => (st.at (o.base + i)).ren (· - o.base)) with
    | some d => Holds (m = o.n ∧ m ∉ hs) ∧ bif Nat.beq H.length o.k && (List.range o.k).all (fun i => hasKey st.heap (o.base + i) && (st.at (o.base + i)).pos.all (inRange o.base o.k)) && st.lock.all (fun p => !inRange o.base o.k p && !Nat.beq p o.pq && farFrom o.base o.k o.pq (st.at p).pos) then
        K (st.close o.base o.k o.pq (.pool q' H (pset P o.n d) hs) (.ref o.q o.n)) else False
    | none => False
  | _ => False
def closeA : List Opn → St → (St → Prop) → Prop
  | [], st, K => K st
  | o :: os, st, K => closeA os st fun st => close1 o st K
/-- The slots of a call's arguments that name objects. -/
def refSlots (st : St) (o : Oper) : List Nat :=
  match o.op with
  | .call c => match c.callee with
    | .value f => match evalA st f with
      | .fn g _ => match C.sp g with
        | some s => bif s.raw then [] else c.args.toList.filterMap fun x => match x with
          | .tmp t => match st.tmp t with
            | .ref _ _ => some t
            | _ => none
          | _ => none
        | none => []
      | _ => []
    | _ => []
  | _ => []
def runOp (hold : List Nat) (o : Oper) (st : St) (K : St → Prop) : Prop :=
  match refSlots C st o with
  | [] => runOp0 C hold o st K
  | ts => bif dstOk 1000000000 o.dst then openA hold 0 ts st fun os st => runOp0 C hold o st fun st => closeA os st K else False

/-- An operation; a choice whose test isn't known goes both ways. -/
def execA (hold : List Nat) (o : Oper) (st : St) (K : St → Prop) : Prop :=
  match o.op with
  | .pick (.tmp c) _ _ => splitT st c (fun s => runOp C hold o s K) (fun s => runOp C hold o s K) (fun _ => False)
  | _ => runOp C hold o st K

def skipA (o : Oper) (st : St) (K : St → Prop) : Prop := bif dstOk C.nt o.dst then K (st.put o.dst .skip) else False

def guardT (ops : List Oper) (o : Oper) : Option (Option Nat × Bool) :=
  match o.guard with
  | none => none
  | some (j, want) => some ((ops[j]?).bind (·.dst), want)

def stepA (hold : List Nat) (ops : List Oper) (o : Oper) (st : St) (K : St → Prop) : Prop :=
  match guardT ops o with
  | none => execA C hold o st K
  | some (none, _) => skipA C o st K
  | some (some t, true) => splitT st t (fun s => execA C hold o s K) (fun s => skipA C o s K) (fun s => skipA C o s K)
  | some (some t, false) => splitT st t (fun s => skipA C o s K) (fun s => execA C hold o s K) (fun s => skipA C o s K)

def seqA (ghA : List Gh → St → (St → Prop) → Prop) (og : Nat → List Gh) (ops : List Oper) : Nat → List Oper → St → (St → Prop) → Prop
  | _, [], st, K => K st
  | i, o :: l, st, K => ghA (og i) st fun st => stepA C [] ops o st (fun s => seqA ghA og ops (i + 1) l s K)

/-- Operations that read nothing but their operands. -/
def pureOp (o : Oper) : Bool :=
  match o.op with
  | .binOp _ _ _ _ _ => !nilSl o
  | .move _ | .assign _ | .pick _ _ _ | .build _ _ | .nilCheck _ | .unOp _ _ _ | .convert _ _ _ | .makeFunc _ _ _ | .slice _ _ _ _ _ | .fieldAddr _ _ _ | .field _ _ _ | .indexAddr _ _ _ | .index _ _ _ | .extract _ _ => true
  | .call c => match c.callee with
    | .builtin .min | .builtin .max => true
    | _ => false
  | _ => false

/-- Operations that read memory and do nothing else, and the place that they read. -/
def readsOf (st : St) (o : Oper) : Option (Option Nat) :=
  match o.op with
  | .load _ a => match evalA st a with
    | .ptr p _ => some (some p)
    | .eptr p _ _ _ => some (some p)
    | .iptr _ _ _ _ => some none
    | .rp q _ _ => (poolAt st q).map some
    | .hp q _ _ _ _ => (poolAt st q).map some
    | _ => none
  | .lookup _ x _ _ => match evalA st x with
    | .map p => some (some p)
    | .nmap => some none
    | _ => none
  | .call c => match c.callee, c.args.toList.map (evalA st) with
    | .builtin .len, [.map p] => some (some p)
    | .builtin .len, [.nmap] => some none
    | .builtin .len, [.sl _] => some none
    | .builtin .len, [.pfx _ _] => some none
    | .builtin .len, [.nsl] => some none
    | .builtin .len, [.lst _ _] => some none
    | .builtin .len, [.hd _ _ _] => some none
    | _, _ => none
  | _ => none

def mayRead (o : Oper) : Bool :=
  match o.op with
  | .load _ _ | .lookup _ _ _ _ => true
  | .call c => match c.callee with
    | .builtin .len => true
    | _ => false
  | _ => false

/-- Does it stand behind all that reads? -/
def tailOp (ops : List Oper) (j : Nat) : Bool :=
  match ops[j]? with
  | none => false
  | some oj => (List.range ops.length).all fun k => Nat.beq k j || (match ops[k]? with
    | some ok => !mayRead ok
    | none => true) || oj.after.any (fun e => Region.binds .any e && e.on == k)

/-- Is it left out, as its guard says? -/
def skipped (ops : List Oper) (o : Oper) (st : St) : Bool :=
  match guardT ops o with
  | none => false
  | some (none, _) => true
  | some (some t, want) => match st.tmp t, want with
    | .tt, false => true
    | .ff, true => true
    | .skip, _ => true
    | _, _ => false

def isQuiet (held : List Nat) (ops : List Oper) (st : St) (i : Nat) : Bool :=
  match ops[i]? with
  | none => false
  | some o => skipped ops o st || pureOp o || (match readsOf st o with
    | some none => true
    | some (some p) => isIn held p
    | none => false)

def allOf (K : Nat → Prop) : List Nat → Prop
  | [] => True
  | [i] => K i
  | i :: l => K i ∧ allOf K l

def St.relock (st : St) (lk : List Nat) : St := { st with lock := lk }
def drawA (ghA : List Gh → St → (St → Prop) → Prop) (og : Nat → List Gh) (held : List Nat) (ops : List Oper) : Nat → Array Bool → St → (St → Prop) → Prop
  | 0, listed, st, K => bif (Region.ready .any ops.toArray listed).isEmpty then K st else False
  | n + 1, listed, st, K =>
    match Region.ready .any ops.toArray listed with
    | [] => K st
    | rs => match rs.find? fun i => (og i).isEmpty && isQuiet held ops st i && Region.free .any ops.toArray listed i with
      | some i => match ops[i]? with
        | none => False
        | some o => stepA C [] ops o st (fun s => drawA ghA og held ops n (listed.setIfInBounds i true) s K)
      | none => allOf (fun i => match ops[i]? with
        | none => False
        | some o => bif held.all (hasKey st.heap) then ghA (og i) (st.relock (st.lock ++ held)) fun s => stepA C (bif tailOp ops i then [] else held) ops o (s.relock st.lock) (fun s => drawA ghA og held ops n (listed.setIfInBounds i true) s K) else False) rs

/-! ### Code -/

inductive AExit where
  | normal | exit (id : Nat) | ret

/-- What holds at a loop's head, or where ways meet: places in the frame and in memory, said of data x. -/
structure Inv : Type 1 where
  T : Type
  ok : T → Prop
  ms : T → Nat
  tk : List Nat
  tm : T → List AV
  hk : List Nat
  hp : T → List Itm
  /-- Slices that are nil so far, to be lists of one's own: slot, place, element's type. -/
  mat : List (Nat × Nat × TypeId × Ty)

/-- Words by the first region's number; they may look at the state that is there; ahead of them the slots that they name. -/
structure Ann : Type 1 where
  loop : Nat → Option (List Nat × (St → Inv))
  cut : Nat → Option (List Nat × (St → Inv))
  loose : Nat → List Nat
  ghost : Nat → List Gh := fun _ => []
  /-- What is said anew ahead of an operation of a region. -/
  og : Nat → Nat → List Gh := fun _ _ => []
  /-- What is said anew ahead of the return. -/
  fin : List Gh := []

def Inv.slots (I : Inv) : List Nat := I.tk ++ I.mat.map (·.1)
/-- Words that don't look at the state. -/
def inv0 (I : Inv) : Option (List Nat × (St → Inv)) := some (I.slots, fun _ => I)

def codeKey : Code → Option Nat
  | .region id _ _ => some id
  | .seq a b => match codeKey a with
    | some i => some i
    | none => codeKey b
  | .cond _ a b => match codeKey a with
    | some i => some i
    | none => codeKey b
  | .block _ c => codeKey c
  | .loop c => codeKey c
  | _ => none

/-- The slots that a step may write. -/
def stepTs (ops : List Oper) (o : Oper) : List Nat :=
  o.dst.toList ++ (match guardT ops o with | some (some t, _) => [t] | _ => []) ++ (match o.op with | .pick (.tmp t) _ _ => [t] | _ => [])
def opsTs (ops : List Oper) : List Nat := ops.flatMap (stepTs ops)
def noSel (ops : List Oper) : Bool := ops.all fun o => match o.op with
  | .select .. => false
  | _ => true
/-- A place that may go, among the numbers of slots. -/
def pkNo (p : Nat) : Nat := 1000000000 + p
def ghTs : List Gh → List Nat
  | [] => []
  | .np _ _ _ :: l => ghTs l
  | .na _ _ _ _ :: l => ghTs l
  | .pk _ _ ps ts :: l => ts ++ ps.map pkNo ++ ghTs l
  | .pl p _ ts :: l => pkNo p :: ts ++ ghTs l
  | .mv _ _ ts :: l => ts ++ ghTs l
  | .fz _ ts :: l => ts ++ ghTs l
  | .nw t _ _ _ :: l => t :: ghTs l
  | .nc _ _ _ _ _ :: l => ghTs l
  | .cs t _ :: l => t :: ghTs l
def ogTs (og : Nat → List Gh) (n : Nat) : List Nat := (List.range n).flatMap fun i => ghTs (og i)
def regTs (og : Nat → List Gh) (ops : List Oper) : List Nat := opsTs ops ++ ogTs og ops.length
def codeTs (A : Ann) : Code → List Nat
  | .region id ops _ => regTs (A.og id) ops.toList ++ ghTs (A.ghost id)
  | .seq a b => codeTs A a ++ codeTs A b ++ (match (codeKey b).bind A.cut with
    | some J => J.1
    | none => [])
  | .cond (.tmp c) a b => c :: (codeTs A a ++ codeTs A b)
  | .cond _ a b => codeTs A a ++ codeTs A b
  | .block _ c => codeTs A c
  | .loop c => codeTs A c ++ (match (codeKey c).bind A.loop with
    | some J => J.1
    | none => [])
  | _ => []

mutual
/-- The one value is the other, said of what they hold; none: they are not alike. -/
def eqv : AV → AV → Option (List Prop)
  | _, .undef => some []
  | .int k a, .int j b => bif decide (k = j) then some [a = b] else none
  | .bool a, .bool b => some [a = b]
  | .tt, .bool b => some [true = b]
  | .ff, .bool b => some [false = b]
  | .bool a, .tt => some [a = true]
  | .bool a, .ff => some [a = false]
  | .tt, .tt => some []
  | .ff, .ff => some []
  | .skip, .skip => some []
  | .nptr, .nptr => some []
  | .ptr p o, .ptr q u => bif Nat.beq p q && Nat.beq o u then some [] else none
  | .eptr p i z o, .eptr q j y u => bif Nat.beq p q && Nat.beq z y && Nat.beq o u then some [i = j] else none
  | .nsl, .nsl => some []
  | .nsl, .lst e ys => some [[] = ys]
  | .sl p, .sl q => bif Nat.beq p q then some [] else none
  | .pfx p n, .pfx q m => bif Nat.beq p q then some [n = m] else none
  | .sub p l n z, .sub q l' m z' => bif Nat.beq p q && Nat.beq z z' then some [l = l', n = m] else none
  | .lst e xs, .lst e' ys => if h : e = e' then some [h ▸ xs = ys] else none
  | .nmap, .nmap => some []
  | .map p, .map q => bif Nat.beq p q then some [] else none
  | .nfn, .nfn => some []
  | .fn f cs, .fn g ds => bif Nat.beq f g then eqvL cs ds else none
  | .agg cs, .agg ds => eqvL cs ds
  | .tup cs, .tup ds => eqvL cs ds
  | .ref q n, .ref r m => bif Nat.beq q r then some [n = m] else none
  | .nptr, .ref _ m => some [0 = m]
  | .ref _ n, .nptr => some [n = 0]
  | .rp q n o, .rp r m u => bif Nat.beq q r && Nat.beq o u then some [n = m] else none
  | .hd q e h, .hd r f g => bif Nat.beq q r && decide (e = f) then some [h = g] else none
  | .nsl, .hd _ _ g => some [Lh.nil = g]
  | _, _ => none
def eqvL : List AV → List AV → Option (List Prop)
  | [], [] => some []
  | a :: l, b :: m => match eqv a b, eqvL l m with
    | some p, some q => some (p ++ q)
    | _, _ => none
  | _, _ => none
end

def eqi : Itm → Itm → Option (List Prop)
  | _, .gone => some []
  | .cells vs, .cells us => eqvL vs us
  | .arr t e xs, .arr u e' ys => bif Nat.beq t u then (if h : e = e' then some [h ▸ xs = ys] else none) else none
  | .mapo k v E, .mapo k' v' E' => if h : k = k' ∧ v = v' then some [h.1 ▸ h.2 ▸ E = E'] else none
  | .pool q H P hs, .pool r J Q gs => bif Nat.beq q r && hs.isEmpty && gs.isEmpty then (if h : H = J then some [h ▸ P = Q] else none) else none
  | .apool q t e P, .apool r u f Q => bif Nat.beq q r && Nat.beq t u then (if h : e = f then some [h ▸ P = Q] else none) else none
  | .iter m k v l _, .iter n k' v' l' none => bif Nat.beq m n then (if h : k = k' ∧ v = v' then some [h.1 ▸ h.2 ▸ l = l'] else none) else none
  | _, _ => none
def eqiL : List Itm → List Itm → Option (List Prop)
  | [], [] => some []
  | a :: l, b :: m => match eqi a b, eqiL l m with
    | some p, some q => some (p ++ q)
    | _, _ => none
  | _, _ => none

def conj : List Prop → Prop
  | [] => True
  | [p] => p
  | p :: l => p ∧ conj l
def conjO : Option (List Prop) → Prop
  | none => False
  | some l => conj l

/-- The state says what the words say of x. -/
def Inv.met (I : Inv) (st : St) (x : I.T) : Prop :=
  conjO (match eqvL (I.tk.map st.tmp) (I.tm x), eqiL (I.hk.map st.at) (I.hp x), I.hk.all (hasKey st.heap) with
    | some p, some q, true => some (p ++ q)
    | _, _, _ => none)

/-- A value that names nothing that may move or go stale. -/
def AV.loose (hk ts : List Nat) (v : AV) : AV := bif hk.any (fun p => v.has p || v.hasSt p || (isIn ts (pkNo p) && isIn v.pos p)) then .undef else v

/-- A number above these. -/
def nextOf (n : Nat) : List Nat → Nat
  | [] => n
  | p :: l => nextOf (bif Nat.blt p n then n else p + 1) l

/-- The state of which no more is known than what the words say of x, and what the code before didn't touch. -/
def Inv.head (I : Inv) (st : St) (ts : List Nat) (x : I.T) : St :=
  { tmps := I.tk.zip (I.tm x) ++ (st.tmps.filter (fun y => !isIn ts y.1)).map (fun y => (y.1, y.2.loose I.hk ts)), heap := I.hk.zip (I.hp x) ++ st.heap, next := nextOf st.next I.hk,
    lock := (st.heap.map (·.1)).filter (fun p => !isIn I.hk p) }

/-- May these words be said here? -/
def Inv.may (I : Inv) (st : St) : Bool := I.hk.all (fun p => !isIn st.lock p)
def Inv.fit (I : Inv) (st : St) (x : I.T) : Bool := (AV.posL (I.tm x)).all (fun q => hasKey st.heap q || isIn I.hk q) && (I.hp x).all (fun it => it.pos.all (fun q => hasKey st.heap q || isIn I.hk q))

def matA (nt : Nat) : List (Nat × Nat × TypeId × Ty) → St → (St → Prop) → Prop
  | [], st, K => K st
  | (t, q, te, e) :: l, st, K => match st.tmp t with
    | .nsl => bif hasKey st.heap q || !Nat.blt t nt then False else matA nt l { st with tmps := (t, .sl q) :: st.tmps, heap := (q, .arr te e []) :: st.heap } K
    | _ => False

/-- The places that a region writes, as far as can be seen at its start. -/
def storesA (st : St) (ops : List Oper) : List Nat := ops.filterMap fun o => match o.op with
  | .store _ a _ => match evalA st a with
    | .ptr p _ => some p
    | _ => none
  | .mapUpdate _ m _ _ => match evalA st m with
    | .map p => some p
    | _ => none
  | _ => none

/-- A loop: at its head the words hold, and a round keeps them. -/
def loopA (nt : Nat) (ts : List Nat) (I : Inv) (body : St → (AExit → St → Prop) → Prop) (st : St) (K : AExit → St → Prop) : Prop :=
  matA nt I.mat st fun st => bif I.may st then
    (∃ x : I.T, Holds (I.ok x) ∧ I.met st x) ∧
    ∀ x : I.T, Holds (I.ok x) → bif I.fit st x then body (I.head st ts x) (fun e s => match e with
      | .normal => ∃ y : I.T, Holds (I.ok y) ∧ Holds (I.ms y < I.ms x) ∧ I.met s y
      | e => K e { s with lock := st.lock }) else False
  else False

def mvs (a b q : Nat) : Nat := bif Nat.beq q a then b else q
def St.mv (st : St) (a b : Nat) (ts : List Nat) : St :=
  { st with
    tmps := st.tmps.map (fun x => (x.1, bif isIn ts x.1 then (x.2.drop b).ren (mvs a b) else (x.2.drop a).drop b))
    heap := (b, st.at a) :: (a, .gone) :: st.heap.map (fun x => (x.1, (x.2.drop b).ren (mvs a b))) }
def St.mayMv (st : St) (a b : Nat) : Bool :=
  (match st.at a with | .arr _ _ _ => true | _ => false) && (match st.at b with | .arr _ _ _ => true | _ => false) && !Nat.beq a b && (Nat.ble 900 a && Nat.blt a 1000000) && hasKey st.heap a && hasKey st.heap b && !isIn st.lock a && !isIn st.lock b && st.lock.all (fun q => !isIn (st.at q).pos a && !isIn (st.at q).pos b)
mutual
/-- A list at a place, said as data. -/
def AV.frz (p : Nat) (e : Ty) (xs : List e.den) : AV → AV
  | .sl q => bif Nat.beq q p then .lst e xs else .sl q
  | .pfx q n => bif Nat.beq q p then .lst e (xs.take n) else .pfx q n
  | .sub q l n z => bif Nat.beq q p then .undef else .sub q l n z
  | .eptr q i z o => bif Nat.beq q p then (bif Nat.beq z e.sz then .iptr e xs i o else .undef) else .eptr q i z o
  | .fn f cs => .fn f (AV.frzL p e xs cs)
  | .agg cs => .agg (AV.frzL p e xs cs)
  | .tup cs => .tup (AV.frzL p e xs cs)
  | v => v
def AV.frzL (p : Nat) (e : Ty) (xs : List e.den) : List AV → List AV
  | [] => []
  | v :: l => v.frz p e xs :: AV.frzL p e xs l
end
def Itm.frz (p : Nat) (e : Ty) (xs : List e.den) : Itm → Itm
  | .cells vs => .cells (AV.frzL p e xs vs)
  | it => it
def St.mayFz (st : St) (p : Nat) : Bool :=
  (Nat.ble 900 p && Nat.blt p 1000000) && hasKey st.heap p && !isIn st.lock p && st.lock.all (fun q => !isIn (st.at q).pos p)
def St.fz (st : St) (p : Nat) (ts : List Nat) (e : Ty) (xs : List e.den) : St :=
  { st with
    tmps := st.tmps.map (fun x => (x.1, bif isIn ts x.1 then x.2.frz p e xs else x.2.drop p))
    heap := (p, .gone) :: st.heap.map (fun x => (x.1, x.2.frz p e xs)) }
mutual
/-- A list of one's own becomes h; else nothing of it is known any more. -/
def AV.ch (p pq : Nat) (q : Nat) (e : Ty) (h : Lh) : AV → AV
  | .sl x => bif Nat.beq x p then .hd q e h else bif Nat.beq x pq then .undef else .sl x
  | .pfx x n => bif Nat.beq x p then .hd q e ⟨h.b, n, h.c⟩ else bif Nat.beq x pq then .undef else .pfx x n
  | .agg cs => .agg (AV.chL p pq q e h cs)
  | .tup cs => .tup (AV.chL p pq q e h cs)
  | .fn f cs => .fn f (AV.chL p pq q e h cs)
  | v => bif v.pos.any (isIn [pq, p]) then .undef else v
def AV.chL (p pq : Nat) (q : Nat) (e : Ty) (h : Lh) : List AV → List AV
  | [] => []
  | v :: l => AV.ch p pq q e h v :: AV.chL p pq q e h l
end
def Itm.ch (p pq : Nat) (q : Nat) (e : Ty) (h : Lh) : Itm → Itm
  | .cells vs => .cells (AV.chL p pq q e h vs)
  | .iter m k v l x => bif isIn [pq, p] m then .gone else .iter m k v l x
  | it => it
def Itm.isHere : Itm → Bool
  | .gone => false
  | _ => true
/-- Places whose blocks are all new, and which nothing that is locked names; nothing names the pool's. -/
def St.mayPk (st : St) (ps : List Nat) (pq : Nat) : Bool :=
  nodupB ps && ps.all (fun p => Nat.ble 900 p && Nat.blt p 1000000 && hasKey st.heap p && !isIn st.lock p && !Nat.beq p pq) && Nat.blt pq 1000000 && !isIn st.lock pq && hasKey st.heap pq &&
  st.lock.all (fun q => (st.at q).pos.all fun p => !isIn (pq :: ps) p) && st.tmps.all (fun x => !isIn x.2.pos pq)
def St.pk (st : St) (ts : List Nat) (p0 : Nat) (ps : List Nat) (pq : Nat) (it : Itm) (r : AV) : St :=
  { st with
    tmps := st.tmps.map (fun x => (x.1, bif isIn ts x.1 then AV.cl p0 (pq :: ps) r x.2 else bif x.2.pos.any (isIn (pq :: ps)) then .undef else x.2))
    heap := (pq, it) :: (ps.map (·, Itm.gone) ++ st.heap.map (fun x => (x.1, x.2.cl p0 (pq :: ps) r))) }
def St.pl (st : St) (ts : List Nat) (p pq q : Nat) (it : Itm) (e : Ty) (h : Lh) : St :=
  { st with
    tmps := st.tmps.map (fun x => (x.1, bif isIn ts x.1 then AV.ch p pq q e h x.2 else bif x.2.pos.any (isIn [pq, p]) then .undef else x.2))
    heap := (pq, it) :: ([p].map (·, Itm.gone) ++ st.heap.map (fun x => (x.1, x.2.ch p pq q e h))) }
/-- A number is one of these: each by itself. -/
def csA (n : Int) (go : Int → Prop) : List Nat → Prop
  | [] => False
  | [c] => Holds (n = (c : Int)) ∧ go (c : Int)
  | c :: l => SplitB (n == (c : Int)) (go (c : Int)) (csA n go l)
def ghostA : List Gh → St → (St → Prop) → Prop
  | [], st, K => K st
  | .np p q H :: l, st, K => bif hasKey st.heap p || !fits1 H then False else ghostA l { st with heap := (p, .pool q H [] []) :: st.heap } K
  | .na p q te e :: l, st, K => bif hasKey st.heap p || !Nat.ble 1 e.sz then False else ghostA l { st with heap := (p, .apool q te e []) :: st.heap } K
  | .pk p q ps ts :: l, st, K => bif (st.at p).isHere then (match poolAt st q with
    | none => False
    | some pq => match st.at pq with
      | .pool q' H P [] => match HTrds H (ps.map fun x => (st.at x).ren (indexIn ps)) with
        | some d => bif st.mayPk ps pq && isIn ps p && Nat.beq (indexIn ps p) 0 && ps.all (fun x => (st.at x).pos.all (isIn ps)) then
            ∀ n : Nat, Holds (0 < n ∧ pget P n = none) → ghostA l (st.pk ts p ps pq (.pool q' H (P ++ [(n, d)]) []) (.ref q n)) K else False
        | none => False
      | _ => False) else ghostA l st K
  | .pl p q ts :: l, st, K => match st.at p with
    | .arr t e xs => match poolAt st q with
      | none => False
      | some pq => match st.at pq with
        | .apool q' t' e' P => bif st.mayPk [p] pq && Nat.beq t t' then (if h : e = e' then
            ∀ (g : Lh) (P' : List (Nat × Nat × List e'.den)), Holds (PackL P (h ▸ xs) g P') → ghostA l (st.pl ts p pq q (.apool q' t' e' P') e' g) K else False) else False
        | _ => False
    | _ => ghostA l st K
  | .mv a b ts :: l, st, K => bif st.mayMv a b then ghostA l (st.mv a b ts) K else False
  | .fz p ts :: l, st, K => match st.at p with
    | .arr _ e xs => bif st.mayFz p then ghostA l (st.fz p ts e xs) K else False
    | _ => False
  | .nw t q te e :: l, st, K => match st.tmp t with
    | .nsl => bif hasKey st.heap q then False else ghostA l { st with tmps := (t, .sl q) :: st.tmps, heap := (q, .arr te e []) :: st.heap } K
    | _ => ghostA l st K
  | .nc p i q te e :: l, st, K => match st.at p with
    | .cells vs => match vs[i]? with
      | some .nsl => bif hasKey st.heap q || !hasKey st.heap p || isIn st.lock p then False else ghostA l { st with heap := (p, .cells (vs.set i (.sl q))) :: (q, .arr te e []) :: st.heap } K
      | _ => ghostA l st K
    | _ => ghostA l st K
  | .cs t ns :: l, st, K => match st.tmp t with
    | .int k n => csA n (fun c => ghostA l { st with tmps := (t, .int k c) :: st.tmps } K) ns
    | _ => ghostA l st K

/-! ### A state, written out (the same state; it is reckoned once) -/

def forceN (n : Nat) (k : Nat → Prop) : Prop :=
  match n with
  | 0 => k 0
  | m + 1 => k (Nat.succ m)
def forceL {α : Type} (f : α → (α → Prop) → Prop) : List α → (List α → Prop) → Prop
  | [], k => k []
  | v :: l, k => f v fun v => forceL f l fun l => k (v :: l)
def forceV : Nat → AV → (AV → Prop) → Prop
  | 0, v, k => k v
  | n + 1, v, k => match v with
    | .undef => k .undef
    | .skip => k .skip
    | .tt => k .tt
    | .ff => k .ff
    | .bool b => k (.bool b)
    | .int q i => k (.int q i)
    | .nptr => k .nptr
    | .nsl => k .nsl
    | .lst e xs => k (.lst e xs)
    | .nmap => k .nmap
    | .nfn => k .nfn
    | .vec q xs => k (.vec q xs)
    | .iptr e xs i o => k (.iptr e xs i o)
    | .ptr p o => forceN p fun p => forceN o fun o => k (.ptr p o)
    | .eptr p i z o => forceN p fun p => k (.eptr p i z o)
    | .sl p => forceN p fun p => k (.sl p)
    | .pfx p n => forceN p fun p => k (.pfx p n)
    | .sub p l n z => forceN p fun p => k (.sub p l n z)
    | .map p => forceN p fun p => k (.map p)
    | .stamp p q x => forceN p fun p => k (.stamp p q x)
    | .fn f cs => forceL (forceV n) cs fun cs => k (.fn f cs)
    | .agg cs => forceL (forceV n) cs fun cs => k (.agg cs)
    | .tup cs => forceL (forceV n) cs fun cs => k (.tup cs)
    | .ref q n => k (.ref q n)
    | .rp q n o => k (.rp q n o)
    | .hd q e h => k (.hd q e h)
    | .hp q b i z o => k (.hp q b i z o)
def forceI (it : Itm) (k : Itm → Prop) : Prop :=
  match it with
  | .gone => k .gone
  | .cells vs => forceL (forceV 4) vs fun vs => k (.cells vs)
  | .arr t e xs => k (.arr t e xs)
  | .mapo a b E => k (.mapo a b E)
  | .iter m a b l x => forceN m fun m => k (.iter m a b l x)
  | .pool q H P hs => k (.pool q H P hs)
  | .apool q t e P => k (.apool q t e P)
def forceP {α : Type} (f : α → (α → Prop) → Prop) (x : Nat × α) (k : Nat × α → Prop) : Prop :=
  match x with
  | (t, v) => forceN t fun t => f v fun v => k (t, v)
def forceS (st : St) (k : St → Prop) : Prop :=
  match st with
  | ⟨tmps, heap, next, lock⟩ => forceL (forceP (forceV 4)) tmps fun tmps => forceL (forceP forceI) heap fun heap => forceN next fun next => forceL forceN lock fun lock => k ⟨tmps, heap, next, lock⟩

theorem forceN_eq (n : Nat) (k : Nat → Prop) : forceN n k = k n := by cases n <;> rfl
theorem forceL_eq {α : Type} {f : α → (α → Prop) → Prop} (hf : ∀ v k, f v k = k v) : ∀ (l : List α) (k : List α → Prop), forceL f l k = k l
  | [], k => rfl
  | v :: l, k => by simp only [forceL]; rw [hf, forceL_eq hf l]
theorem forceV_eq : ∀ (n : Nat) (v : AV) (k : AV → Prop), forceV n v k = k v
  | 0, _, _ => rfl
  | n + 1, v, k => by
    have hl := forceL_eq (forceV_eq n)
    cases v <;> simp only [forceV, forceN_eq, hl]
theorem forceI_eq (it : Itm) (k : Itm → Prop) : forceI it k = k it := by
  cases it <;> simp only [forceI, forceN_eq, forceL_eq (forceV_eq 4)]
theorem forceP_eq {α : Type} {f : α → (α → Prop) → Prop} (hf : ∀ v k, f v k = k v) (x : Nat × α) (k : Nat × α → Prop) : forceP f x k = k x := by
  obtain ⟨t, v⟩ := x
  simp only [forceP, forceN_eq, hf]
theorem forceS_eq (st : St) (k : St → Prop) : forceS st k = k st := by
  obtain ⟨tmps, heap, next, lock⟩ := st
  simp only [forceS]
  rw [forceL_eq (forceP_eq (forceV_eq 4)), forceL_eq (forceP_eq forceI_eq), forceN_eq, forceL_eq forceN_eq]

/-- Words, written out. -/
def withInv (I : Inv) (f : Inv → Prop) : Prop :=
  match I with
  | ⟨T, ok, ms, tk, tm, hk, hp, mat⟩ => f ⟨T, ok, ms, tk, tm, hk, hp, mat⟩
theorem withInv_eq (I : Inv) (f : Inv → Prop) : withInv I f = f I := by cases I; rfl

variable (A : Ann)

def codeA : Code → St → (AExit → St → Prop) → Prop
  | .skip, st, K => K .normal st
  | .region id ops draw, st, K => forceS st fun st => ghostA (A.ghost id) st fun st =>
    bif draw then (bif noSel ops.toList then drawA C ghostA (A.og id) ((st.heap.map (·.1)).filter (fun p => !isIn (A.loose id) p && !isIn (storesA st ops.toList) p)) ops.toList ops.size (Array.replicate ops.size false) st (K .normal) else False)
    else seqA C ghostA (A.og id) ops.toList 0 ops.toList st (K .normal)
  | .seq a b, st, K => match (codeKey b).bind A.cut with
    | none => codeA a st fun e s => match e with
      | .normal => codeA b s K
      | e => K e s
    | some J => withInv (J.2 st) fun I => bif natsEq I.slots J.1 && I.may st then
        (codeA a { st with lock := st.lock ++ (st.heap.map (·.1)).filter (fun p => !isIn I.hk p) } (fun e s => match e with
          | .normal => ∃ x : I.T, Holds (I.ok x) ∧ I.met s x
          | e => K e { s with lock := st.lock })) ∧
        ∀ x : I.T, Holds (I.ok x) → bif I.fit st x then codeA b { I.head st (codeTs A a) x with lock := st.lock } K else False
      else False
  | .cond (.tmp c) a b, st, K => splitT st c (fun s => codeA a s K) (fun s => codeA b s K) (fun _ => False)
  | .cond (.const v) a b, st, K => match avOf v with
    | .tt => codeA a st K
    | .ff => codeA b st K
    | _ => False
  | .block id c, st, K => codeA c st fun e s => match e with
    | .exit j => bif Nat.beq j id then K .normal s else K (.exit j) s
    | e => K e s
  | .loop c, st, K => match (codeKey c).bind A.loop with
    | none => False
    | some J => withInv (J.2 st) fun I => bif natsEq I.slots J.1 then loopA C.nt (codeTs A c) I (codeA c) st K else False
  | .exit id, st, K => K (.exit id) st
  | .ret, st, K => K .ret st
  | _, _, _ => False

/-! ### Functions -/

def resA (st : St) : List ResultVar → Option (List AV)
  | [] => some []
  | .tmp t :: l => (resA st l).map (st.tmp t :: ·)
  | .cell a t :: l => match C.tt t, st.tmp a, resA st l with
    | some ti, .ptr p off, some vs => match st.at p with
      | .cells cs => match partA ti cs off with
        | some v => some (v :: vs)
        | none => none
      | _ => none
    | _, _, _ => none

def oneOrTup : List AV → AV
  | [v] => v
  | vs => .tup vs

/-- The new places that what comes out names, in their order. -/
def newOf (st : St) (n : Nat) (v : AV) (mods : List Nat) : List Nat :=
  (reach st 12 (addAll (addAll [] v.pos) (mods.flatMap fun m => (st.at m).pos)) 0).filter fun q => !Nat.blt q n

def metCon (st : St) (sg : List Nat) (v : AV) (nw mods : List Nat) (val : AV) (upd new : List Itm) : Prop :=
  conjO (match eqv (v.ren (indexIn sg)) val, eqiL (mods.map fun m => (st.at m).ren (indexIn sg)) upd, eqiL (nw.map fun q => (st.at q).ren (indexIn sg)) new with
    | some p, some q, some r => some (p ++ q ++ r)
    | _, _, _ => none)

def postC (st : St) (sg : List Nat) (v : AV) (nw : List Nat) : Con → Prop
  | .det _ mods val upd new => metCon st sg v nw mods val upd new
  | .any _ mods T post val upd new => ∃ r : T, Holds (post r) ∧ metCon st sg v nw mods (val r) (upd r) (new r)
  | .or a b => postC st sg v nw a ∨ postC st sg v nw b

def postA (rs : List ResultVar) (n : Nat) (c : Con) (st : St) : Prop :=
  match resA C st rs with
  | none => False
  | some vs =>
    let v := oneOrTup vs
    let nw := newOf st n v c.mods
    let sg := List.range n ++ nw
    bif nw.all (hasKey st.heap) && nw.all (fun q => Nat.blt q 1000000) && nodupB sg && v.pos.all (isIn sg) && (c.mods ++ nw).all (fun m => (st.at m).pos.all (isIn sg)) then postC st sg v nw c else False

def Itm.isGone : Itm → Bool
  | .gone => true
  | _ => false

mutual
def AV.facts : AV → List Prop
  | .int k n => [InR k n]
  | .lst e xs => [(Ty.slice e).ok xs]
  | .hd _ _ h => [h.ok]
  | .agg cs => AV.factsL cs
  | .tup cs => AV.factsL cs
  | _ => []
def AV.factsL : List AV → List Prop
  | [] => []
  | v :: l => v.facts ++ AV.factsL l
end
def Itm.facts : Itm → List Prop
  | .cells vs => AV.factsL vs
  | .arr _ e xs => [(Ty.slice e).ok xs]
  | .mapo k v E => [MOk k v E]
  | .pool _ _ P _ => [PoolOk P]
  | .apool _ _ e P => [APoolOk e P]
  | _ => []

def startSt (args : List AV) (heap : List Itm) (mods : List Nat) : St :=
  { tmps := numFrom 0 args, heap := numFrom 0 heap, next := 100000, lock := (List.range heap.length).filter fun p => !isIn mods p }

end
/-- What is to be shown of a function. -/
def vcF (C : Cx) (body : Code) (rs : List ResultVar) (s : Spc) (A : s.G → Ann) : Prop :=
  ∀ g : s.G, bif !(s.con g).mods.all (fun m => Nat.blt m (s.heap g).length && !(((s.heap g)[m]?).getD .gone).isGone) || !nodupB (s.con g).mods || !(s.con g).fair || !Nat.ble (s.heap g).length 900 then False else hypAll (AV.factsL (s.args g) ++ (s.heap g).flatMap Itm.facts) (hypAll (s.con g).pre
    (codeA C (A g) body (startSt (s.args g) (s.heap g) (s.con g).mods) fun e st => match e with
      | .normal => ghostA (A g).fin st fun st => postA C rs (s.heap g).length (s.con g) st
      | .ret => ghostA (A g).fin st fun st => postA C rs (s.heap g).length (s.con g) st
      | .exit _ => False))

end Go.Proofs.Ytljimnhijpcjaaa.VC
