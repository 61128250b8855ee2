/- A machine on abstract values: regions, code, functions; what is to be shown of a function, as one proposition. Definitions alone; no conditions. -/
import Derived.Test.YtncecddhknfimaaVb
set_option linter.unusedVariables false
namespace Go.Proofs.Ytncecddhknfimaa.VC
open Go

/-! ### Words that stand in what is to be shown -/

/-- A proposition, kept as it is. -/
structure Holds (p : Prop) : Prop where mk :: (out : p)
/-- Both ways of a test. -/
structure SplitB (b : Bool) (A B : Prop) : Prop where mk :: (t : b = true → A) (f : b = false → B)

/-- A number of its kind. -/
def InR (k : IntKind) (n : Int) : Prop := k.min ≤ n ∧ n ≤ k.max

/-- Data of its type: numbers of their kinds, lists no longer than may be. -/
def Ty.ok : (t : Ty) → t.den → Prop
  | .int k, (n : Int) => InR k n
  | .bool, _ => True
  | .unit, _ => True
  | .pair a b, d => a.ok d.1 ∧ b.ok d.2
  | .slice e, (xs : List e.den) => xs.length ≤ maxLen ∧ ∀ x ∈ xs, e.ok x

/-- A map's entries: no key twice. -/
def MOk (k v : Ty) (E : List (k.den × v.den)) : Prop := E.length ≤ maxLen ∧ E.Pairwise (fun a b => k.beq a.1 b.1 = false) ∧ ∀ e ∈ E, k.ok e.1 ∧ v.ok e.2

def preAll : List Prop → Prop → Prop
  | [], X => X
  | p :: ps, X => Holds p ∧ preAll ps X
def hypAll : List Prop → Prop → Prop
  | [], X => X
  | p :: ps, X => Holds p → hypAll ps X

/-! ### Steps -/

def AV.drop (p : Nat) (v : AV) : AV := bif v.has p then .undef else v
def Itm.drop (p : Nat) : Itm → Itm
  | .cells vs => .cells (vs.map (AV.drop p))
  | it => it
def AV.unst (p : Nat) (v : AV) : AV := bif v.hasSt p then .undef else v
def Itm.stop (p : Nat) : Itm → Itm
  | .cells vs => .cells (vs.map (AV.unst p))
  | .iter m k v l x => bif Nat.beq m p then .gone else .iter m k v l x
  | it => it

def St.put (st : St) (d : Option Nat) (v : AV) : St :=
  match d with
  | none => st
  | some d => { st with tmps := (d, v) :: st.tmps }
def St.kill (st : St) : List Nat → St
  | [] => st
  | p :: ps => St.kill { st with tmps := st.tmps.map (fun x => (x.1, x.2.drop p)), heap := st.heap.map (fun x => (x.1, x.2.drop p)) } ps
def St.upds (st : St) : List (Nat × Itm) → St
  | [] => st
  | (p, it) :: l => St.upds { st with tmps := st.tmps.map (fun x => (x.1, x.2.unst p)), heap := (p, it) :: st.heap.map (fun x => (x.1, x.2.stop p)) } l
def St.news (st : St) : List Itm → St
  | [] => st
  | it :: l => St.news { st with heap := (st.next, it) :: st.heap, next := st.next + 1 } l


/-- May these places be written, and are the new ones new? -/
def St.lets (st : St) (hold rel : List Nat) (upd : List (Nat × Itm)) (n : Nat) : Bool :=
  upd.all (fun x => !isIn st.lock x.1 && !isIn hold x.1 && hasKey st.heap x.1) && nodupB (upd.map (·.1)) &&
  rel.all (fun p => hasKey upd p) &&
  st.lock.all (fun q => rel.all (fun p => !(st.at q).has p) && upd.all (fun x => match (st.at q) with
    | .iter m _ _ _ _ => !Nat.beq m x.1
    | .cells vs => !AV.hasStL x.1 vs
    | _ => true)) &&
  (List.range n).all (fun i => !hasKey st.heap (st.next + i))

def dstOk (nt : Nat) : Option Nat → Bool
  | none => true
  | some d => Nat.blt d nt

def stepK (nt : Nat) (st : St) (hold rel : List Nat) (dst : Option Nat) (v : AV) (upd : List (Nat × Itm)) (new : List Itm) (K : St → Prop) : Prop :=
  bif st.lets hold rel upd new.length && dstOk nt dst then K ((((st.kill rel).upds upd).news new).put dst v) else False

def goAlt (nt : Nat) (st : St) (hold rel : List Nat) (dst : Option Nat) (K : St → Prop) : Alt → Prop
  | .det v u n => stepK nt st hold rel dst v u n K
  | .any T post v u n => ∀ r : T, Holds (post r) → stepK nt st hold rel dst (v r) (u r) (n r) K

def goAlts (nt : Nat) (st : St) (hold rel : List Nat) (dst : Option Nat) (K : St → Prop) : List Alt → Prop
  | [] => False
  | [a] => goAlt nt st hold rel dst K a
  | a :: l => goAlt nt st hold rel dst K a ∧ goAlts nt st hold rel dst K l

def goRes (nt : Nat) (st : St) (hold : List Nat) (dst : Option Nat) (K : St → Prop) (r : Res) : Prop :=
  preAll r.pre (goAlts nt st hold r.rel dst K r.alts)

/-- What a tmp says of a test; where that isn't known yet, both ways. -/
def splitT (st : St) (t : Nat) (yes no : St → Prop) (skip : St → Prop) : Prop :=
  match st.tmp t with
  | .tt => yes st
  | .ff => no st
  | .bool b => SplitB b (yes (st.put (some t) .tt)) (no (st.put (some t) .ff))
  | .skip => skip st
  | _ => False

structure Cx : Type 1 where
  tt : TypeId → Option TI
  eqt : TypeId → Option (List EF)
  sp : FuncId → Option Spc
  nt : Nat

section
variable (C : Cx)

/-- New places bear the number of the slot that they are made for. -/
def St.seat (st : St) (o : Oper) : St :=
  match o.dst with
  | some d => { st with next := 1000 + 16 * d }
  | none => st

def runOp (hold : List Nat) (o : Oper) (st : St) (K : St → Prop) : Prop :=
  match opA C.tt C.eqt C.sp (st.seat o) o with
  | some r => goRes C.nt (st.seat o) hold o.dst K r
  | none => False

/-- An operation; a choice whose test isn't known goes both ways. -/
def execA (hold : List Nat) (o : Oper) (st : St) (K : St → Prop) : Prop :=
  match o.op with
  | .pick (.tmp c) _ _ => splitT st c (fun s => runOp C hold o s K) (fun s => runOp C hold o s K) (fun _ => False)
  | _ => runOp C hold o st K

def skipA (o : Oper) (st : St) (K : St → Prop) : Prop := bif dstOk C.nt o.dst then K (st.put o.dst .skip) else False

def guardT (ops : List Oper) (o : Oper) : Option (Option Nat × Bool) :=
  match o.guard with
  | none => none
  | some (j, want) => some ((ops[j]?).bind (·.dst), want)

def stepA (hold : List Nat) (ops : List Oper) (o : Oper) (st : St) (K : St → Prop) : Prop :=
  match guardT ops o with
  | none => execA C hold o st K
  | some (none, _) => skipA C o st K
  | some (some t, true) => splitT st t (fun s => execA C hold o s K) (fun s => skipA C o s K) (fun s => skipA C o s K)
  | some (some t, false) => splitT st t (fun s => skipA C o s K) (fun s => execA C hold o s K) (fun s => skipA C o s K)

def seqA (ops : List Oper) : List Oper → St → (St → Prop) → Prop
  | [], st, K => K st
  | o :: l, st, K => stepA C [] ops o st (fun s => seqA ops l s K)

/-- Operations that read nothing but their operands. -/
def pureOp (o : Oper) : Bool :=
  match o.op with
  | .binOp _ _ _ _ _ => !nilSl o
  | .move _ | .assign _ | .pick _ _ _ | .build _ _ | .nilCheck _ | .unOp _ _ _ | .convert _ _ _ | .makeFunc _ _ _ | .slice _ _ _ _ _ | .fieldAddr _ _ _ | .field _ _ _ | .indexAddr _ _ _ | .index _ _ _ | .extract _ _ => true
  | .call c => match c.callee with
    | .builtin .min | .builtin .max => true
    | _ => false
  | _ => false

/-- Operations that read memory and do nothing else, and the place that they read. -/
def readsOf (st : St) (o : Oper) : Option (Option Nat) :=
  match o.op with
  | .load _ a => match evalA st a with
    | .ptr p _ => some (some p)
    | .eptr p _ _ _ => some (some p)
    | .iptr _ _ _ _ => some none
    | _ => none
  | .lookup _ x _ _ => match evalA st x with
    | .map p => some (some p)
    | .nmap => some none
    | _ => none
  | .call c => match c.callee, c.args.toList.map (evalA st) with
    | .builtin .len, [.map p] => some (some p)
    | .builtin .len, [.nmap] => some none
    | .builtin .len, [.sl _] => some none
    | .builtin .len, [.pfx _ _] => some none
    | .builtin .len, [.nsl] => some none
    | .builtin .len, [.lst _ _] => some none
    | _, _ => none
  | _ => none

def mayRead (o : Oper) : Bool :=
  match o.op with
  | .load _ _ | .lookup _ _ _ _ => true
  | .call c => match c.callee with
    | .builtin .len => true
    | _ => false
  | _ => false

/-- Does it stand behind all that reads? -/
def tailOp (ops : List Oper) (j : Nat) : Bool :=
  match ops[j]? with
  | none => false
  | some oj => (List.range ops.length).all fun k => Nat.beq k j || (match ops[k]? with
    | some ok => !mayRead ok
    | none => true) || oj.after.any (fun e => Region.binds .any e && e.on == k)

/-- Is it left out, as its guard says? -/
def skipped (ops : List Oper) (o : Oper) (st : St) : Bool :=
  match guardT ops o with
  | none => false
  | some (none, _) => true
  | some (some t, want) => match st.tmp t, want with
    | .tt, false => true
    | .ff, true => true
    | .skip, _ => true
    | _, _ => false

def isQuiet (held : List Nat) (ops : List Oper) (st : St) (i : Nat) : Bool :=
  match ops[i]? with
  | none => false
  | some o => skipped ops o st || pureOp o || (match readsOf st o with
    | some none => true
    | some (some p) => isIn held p
    | none => false)

def allOf (K : Nat → Prop) : List Nat → Prop
  | [] => True
  | [i] => K i
  | i :: l => K i ∧ allOf K l

def drawA (held : List Nat) (ops : List Oper) : Nat → Array Bool → St → (St → Prop) → Prop
  | 0, listed, st, K => bif (Region.ready .any ops.toArray listed).isEmpty then K st else False
  | n + 1, listed, st, K =>
    match Region.ready .any ops.toArray listed with
    | [] => K st
    | rs => match rs.find? fun i => isQuiet held ops st i && Region.free .any ops.toArray listed i with
      | some i => match ops[i]? with
        | none => False
        | some o => stepA C [] ops o st (fun s => drawA held ops n (listed.setIfInBounds i true) s K)
      | none => allOf (fun i => match ops[i]? with
        | none => False
        | some o => stepA C (bif tailOp ops i then [] else held) ops o st (fun s => drawA held ops n (listed.setIfInBounds i true) s K)) rs

/-! ### Code -/

inductive AExit where
  | normal | exit (id : Nat) | ret

/-- What holds at a loop's head, or where ways meet: places in the frame and in memory, said of data x. -/
structure Inv : Type 1 where
  T : Type
  ok : T → Prop
  ms : T → Nat
  tk : List Nat
  tm : T → List AV
  hk : List Nat
  hp : T → List Itm
  /-- Slices that are nil so far, to be lists of one's own: slot, place, element's type. -/
  mat : List (Nat × Nat × TypeId × Ty)

/-- What is said anew, with no step of the program: the list of one's own at place a is to be at place b, where one was that is given up; these slots follow it. -/
inductive Gh where
  | mv (a b : Nat) (ts : List Nat)
  /-- The list of one's own at this place is written no more: it becomes data (in these slots, and in cells). -/
  | fz (p : Nat) (ts : List Nat)
  /-- Where this slot is a nil list, it becomes one of one's own, at this place. -/
  | nw (t q : Nat) (te : TypeId) (e : Ty)
  /-- Where this cell of a place is a nil list, it becomes one of one's own, at that place. -/
  | nc (p i q : Nat) (te : TypeId) (e : Ty)

/-- Words by the first region's number; they may look at the state that is there; ahead of them the slots that they name. -/
structure Ann : Type 1 where
  loop : Nat → Option (List Nat × (St → Inv))
  cut : Nat → Option (List Nat × (St → Inv))
  loose : Nat → List Nat
  ghost : Nat → List Gh := fun _ => []
  /-- What is said anew ahead of the return. -/
  fin : List Gh := []

def Inv.slots (I : Inv) : List Nat := I.tk ++ I.mat.map (·.1)
/-- Words that don't look at the state. -/
def inv0 (I : Inv) : Option (List Nat × (St → Inv)) := some (I.slots, fun _ => I)

def codeKey : Code → Option Nat
  | .region id _ _ => some id
  | .seq a b => match codeKey a with
    | some i => some i
    | none => codeKey b
  | .cond _ a b => match codeKey a with
    | some i => some i
    | none => codeKey b
  | .block _ c => codeKey c
  | .loop c => codeKey c
  | _ => none

/-- The slots that a step may write. -/
def stepTs (ops : List Oper) (o : Oper) : List Nat :=
  o.dst.toList ++ (match guardT ops o with | some (some t, _) => [t] | _ => []) ++ (match o.op with | .pick (.tmp t) _ _ => [t] | _ => [])
def opsTs (ops : List Oper) : List Nat := ops.flatMap (stepTs ops)
def noSel (ops : List Oper) : Bool := ops.all fun o => match o.op with
  | .select .. => false
  | _ => true
/-- The slots that code may write, or that its words name. -/
def ghTs : List Gh → List Nat
  | [] => []
  | .mv _ _ ts :: l => ts ++ ghTs l
  | .fz _ ts :: l => ts ++ ghTs l
  | .nw t _ _ _ :: l => t :: ghTs l
  | .nc _ _ _ _ _ :: l => ghTs l
def codeTs (A : Ann) : Code → List Nat
  | .region id ops _ => opsTs ops.toList ++ ghTs (A.ghost id)
  | .seq a b => codeTs A a ++ codeTs A b ++ (match (codeKey b).bind A.cut with
    | some J => J.1
    | none => [])
  | .cond (.tmp c) a b => c :: (codeTs A a ++ codeTs A b)
  | .cond _ a b => codeTs A a ++ codeTs A b
  | .block _ c => codeTs A c
  | .loop c => codeTs A c ++ (match (codeKey c).bind A.loop with
    | some J => J.1
    | none => [])
  | _ => []

mutual
/-- The one value is the other, said of what they hold; none: they are not alike. -/
def eqv : AV → AV → Option (List Prop)
  | _, .undef => some []
  | .int k a, .int j b => bif decide (k = j) then some [a = b] else none
  | .bool a, .bool b => some [a = b]
  | .tt, .bool b => some [true = b]
  | .ff, .bool b => some [false = b]
  | .bool a, .tt => some [a = true]
  | .bool a, .ff => some [a = false]
  | .tt, .tt => some []
  | .ff, .ff => some []
  | .skip, .skip => some []
  | .nptr, .nptr => some []
  | .ptr p o, .ptr q u => bif Nat.beq p q && Nat.beq o u then some [] else none
  | .eptr p i z o, .eptr q j y u => bif Nat.beq p q && Nat.beq z y && Nat.beq o u then some [i = j] else none
  | .nsl, .nsl => some []
  | .nsl, .lst e ys => some [[] = ys]
  | .sl p, .sl q => bif Nat.beq p q then some [] else none
  | .pfx p n, .pfx q m => bif Nat.beq p q then some [n = m] else none
  | .sub p l n z, .sub q l' m z' => bif Nat.beq p q && Nat.beq z z' then some [l = l', n = m] else none
  | .lst e xs, .lst e' ys => if h : e = e' then some [h ▸ xs = ys] else none
  | .nmap, .nmap => some []
  | .map p, .map q => bif Nat.beq p q then some [] else none
  | .nfn, .nfn => some []
  | .fn f cs, .fn g ds => bif Nat.beq f g then eqvL cs ds else none
  | .agg cs, .agg ds => eqvL cs ds
  | .tup cs, .tup ds => eqvL cs ds
  | _, _ => none
def eqvL : List AV → List AV → Option (List Prop)
  | [], [] => some []
  | a :: l, b :: m => match eqv a b, eqvL l m with
    | some p, some q => some (p ++ q)
    | _, _ => none
  | _, _ => none
end

def eqi : Itm → Itm → Option (List Prop)
  | _, .gone => some []
  | .cells vs, .cells us => eqvL vs us
  | .arr t e xs, .arr u e' ys => bif Nat.beq t u then (if h : e = e' then some [h ▸ xs = ys] else none) else none
  | .mapo k v E, .mapo k' v' E' => if h : k = k' ∧ v = v' then some [h.1 ▸ h.2 ▸ E = E'] else none
  | .iter m k v l _, .iter n k' v' l' none => bif Nat.beq m n then (if h : k = k' ∧ v = v' then some [h.1 ▸ h.2 ▸ l = l'] else none) else none
  | _, _ => none
def eqiL : List Itm → List Itm → Option (List Prop)
  | [], [] => some []
  | a :: l, b :: m => match eqi a b, eqiL l m with
    | some p, some q => some (p ++ q)
    | _, _ => none
  | _, _ => none

def conj : List Prop → Prop
  | [] => True
  | [p] => p
  | p :: l => p ∧ conj l
def conjO : Option (List Prop) → Prop
  | none => False
  | some l => conj l

/-- The state says what the words say of x. -/
def Inv.met (I : Inv) (st : St) (x : I.T) : Prop :=
  conjO (match eqvL (I.tk.map st.tmp) (I.tm x), eqiL (I.hk.map st.at) (I.hp x), I.hk.all (hasKey st.heap) with
    | some p, some q, true => some (p ++ q)
    | _, _, _ => none)

/-- A value that names nothing that may move or go stale. -/
def AV.loose (hk : List Nat) (v : AV) : AV := bif hk.any (fun p => v.has p || v.hasSt p) then .undef else v

/-- A number above these. -/
def nextOf (n : Nat) : List Nat → Nat
  | [] => n
  | p :: l => nextOf (bif Nat.blt p n then n else p + 1) l

/-- The state of which no more is known than what the words say of x, and what the code before didn't touch. -/
def Inv.head (I : Inv) (st : St) (ts : List Nat) (x : I.T) : St :=
  { tmps := I.tk.zip (I.tm x) ++ (st.tmps.filter (fun y => !isIn ts y.1)).map (fun y => (y.1, y.2.loose I.hk)), heap := I.hk.zip (I.hp x) ++ st.heap, next := nextOf st.next I.hk,
    lock := (st.heap.map (·.1)).filter (fun p => !isIn I.hk p) }

/-- May these words be said here? -/
def Inv.may (I : Inv) (st : St) : Bool := I.hk.all (fun p => !isIn st.lock p)
def Inv.fit (I : Inv) (st : St) (x : I.T) : Bool := (AV.posL (I.tm x)).all (fun q => hasKey st.heap q || isIn I.hk q) && (I.hp x).all (fun it => it.pos.all (fun q => hasKey st.heap q || isIn I.hk q))

def matA (nt : Nat) : List (Nat × Nat × TypeId × Ty) → St → (St → Prop) → Prop
  | [], st, K => K st
  | (t, q, te, e) :: l, st, K => match st.tmp t with
    | .nsl => bif hasKey st.heap q || !Nat.blt t nt then False else matA nt l { st with tmps := (t, .sl q) :: st.tmps, heap := (q, .arr te e []) :: st.heap } K
    | _ => False

/-- The places that a region writes, as far as can be seen at its start. -/
def storesA (st : St) (ops : List Oper) : List Nat := ops.filterMap fun o => match o.op with
  | .store _ a _ => match evalA st a with
    | .ptr p _ => some p
    | _ => none
  | .mapUpdate _ m _ _ => match evalA st m with
    | .map p => some p
    | _ => none
  | _ => none

/-- A loop: at its head the words hold, and a round keeps them. -/
def loopA (nt : Nat) (ts : List Nat) (I : Inv) (body : St → (AExit → St → Prop) → Prop) (st : St) (K : AExit → St → Prop) : Prop :=
  matA nt I.mat st fun st => bif I.may st then
    (∃ x : I.T, Holds (I.ok x) ∧ I.met st x) ∧
    ∀ x : I.T, Holds (I.ok x) → bif I.fit st x then body (I.head st ts x) (fun e s => match e with
      | .normal => ∃ y : I.T, Holds (I.ok y) ∧ Holds (I.ms y < I.ms x) ∧ I.met s y
      | e => K e { s with lock := st.lock }) else False
  else False

def mvs (a b q : Nat) : Nat := bif Nat.beq q a then b else q
def St.mv (st : St) (a b : Nat) (ts : List Nat) : St :=
  { st with
    tmps := st.tmps.map (fun x => (x.1, bif isIn ts x.1 then (x.2.drop b).ren (mvs a b) else (x.2.drop a).drop b))
    heap := (b, st.at a) :: (a, .gone) :: st.heap.map (fun x => (x.1, (x.2.drop b).ren (mvs a b))) }
def St.mayMv (st : St) (a b : Nat) : Bool :=
  (match st.at a with | .arr _ _ _ => true | _ => false) && (match st.at b with | .arr _ _ _ => true | _ => false) && !Nat.beq a b && Nat.ble 900 a && hasKey st.heap a && hasKey st.heap b && !isIn st.lock a && !isIn st.lock b && st.lock.all (fun q => !isIn (st.at q).pos a && !isIn (st.at q).pos b)
mutual
/-- A list at a place, said as data. -/
def AV.frz (p : Nat) (e : Ty) (xs : List e.den) : AV → AV
  | .sl q => bif Nat.beq q p then .lst e xs else .sl q
  | .pfx q n => bif Nat.beq q p then .lst e (xs.take n) else .pfx q n
  | .sub q l n z => bif Nat.beq q p then .undef else .sub q l n z
  | .eptr q i z o => bif Nat.beq q p then (bif Nat.beq z e.sz then .iptr e xs i o else .undef) else .eptr q i z o
  | .fn f cs => .fn f (AV.frzL p e xs cs)
  | .agg cs => .agg (AV.frzL p e xs cs)
  | .tup cs => .tup (AV.frzL p e xs cs)
  | v => v
def AV.frzL (p : Nat) (e : Ty) (xs : List e.den) : List AV → List AV
  | [] => []
  | v :: l => v.frz p e xs :: AV.frzL p e xs l
end
def Itm.frz (p : Nat) (e : Ty) (xs : List e.den) : Itm → Itm
  | .cells vs => .cells (AV.frzL p e xs vs)
  | it => it
def St.mayFz (st : St) (p : Nat) : Bool :=
  Nat.ble 900 p && hasKey st.heap p && !isIn st.lock p && st.lock.all (fun q => !isIn (st.at q).pos p)
def St.fz (st : St) (p : Nat) (ts : List Nat) (e : Ty) (xs : List e.den) : St :=
  { st with
    tmps := st.tmps.map (fun x => (x.1, bif isIn ts x.1 then x.2.frz p e xs else x.2.drop p))
    heap := (p, .gone) :: st.heap.map (fun x => (x.1, x.2.frz p e xs)) }
def ghostA : List Gh → St → (St → Prop) → Prop
  | [], st, K => K st
  | .mv a b ts :: l, st, K => bif st.mayMv a b then ghostA l (st.mv a b ts) K else False
  | .fz p ts :: l, st, K => match st.at p with
    | .arr _ e xs => bif st.mayFz p then ghostA l (st.fz p ts e xs) K else False
    | _ => False
  | .nw t q te e :: l, st, K => match st.tmp t with
    | .nsl => bif hasKey st.heap q then False else ghostA l { st with tmps := (t, .sl q) :: st.tmps, heap := (q, .arr te e []) :: st.heap } K
    | _ => ghostA l st K
  | .nc p i q te e :: l, st, K => match st.at p with
    | .cells vs => match vs[i]? with
      | some .nsl => bif hasKey st.heap q || !hasKey st.heap p || isIn st.lock p then False else ghostA l { st with heap := (p, .cells (vs.set i (.sl q))) :: (q, .arr te e []) :: st.heap } K
      | _ => ghostA l st K
    | _ => ghostA l st K

/-! ### A state, written out (the same state; it is reckoned once) -/

def forceN (n : Nat) (k : Nat → Prop) : Prop :=
  match n with
  | 0 => k 0
  | m + 1 => k (Nat.succ m)
def forceL {α : Type} (f : α → (α → Prop) → Prop) : List α → (List α → Prop) → Prop
  | [], k => k []
  | v :: l, k => f v fun v => forceL f l fun l => k (v :: l)
def forceV : Nat → AV → (AV → Prop) → Prop
  | 0, v, k => k v
  | n + 1, v, k => match v with
    | .undef => k .undef
    | .skip => k .skip
    | .tt => k .tt
    | .ff => k .ff
    | .bool b => k (.bool b)
    | .int q i => k (.int q i)
    | .nptr => k .nptr
    | .nsl => k .nsl
    | .lst e xs => k (.lst e xs)
    | .nmap => k .nmap
    | .nfn => k .nfn
    | .vec q xs => k (.vec q xs)
    | .iptr e xs i o => k (.iptr e xs i o)
    | .ptr p o => forceN p fun p => forceN o fun o => k (.ptr p o)
    | .eptr p i z o => forceN p fun p => k (.eptr p i z o)
    | .sl p => forceN p fun p => k (.sl p)
    | .pfx p n => forceN p fun p => k (.pfx p n)
    | .sub p l n z => forceN p fun p => k (.sub p l n z)
    | .map p => forceN p fun p => k (.map p)
    | .stamp p q x => forceN p fun p => k (.stamp p q x)
    | .fn f cs => forceL (forceV n) cs fun cs => k (.fn f cs)
    | .agg cs => forceL (forceV n) cs fun cs => k (.agg cs)
    | .tup cs => forceL (forceV n) cs fun cs => k (.tup cs)
def forceI (it : Itm) (k : Itm → Prop) : Prop :=
  match it with
  | .gone => k .gone
  | .cells vs => forceL (forceV 4) vs fun vs => k (.cells vs)
  | .arr t e xs => k (.arr t e xs)
  | .mapo a b E => k (.mapo a b E)
  | .iter m a b l x => forceN m fun m => k (.iter m a b l x)
def forceP {α : Type} (f : α → (α → Prop) → Prop) (x : Nat × α) (k : Nat × α → Prop) : Prop :=
  match x with
  | (t, v) => forceN t fun t => f v fun v => k (t, v)
def forceS (st : St) (k : St → Prop) : Prop :=
  match st with
  | ⟨tmps, heap, next, lock⟩ => forceL (forceP (forceV 4)) tmps fun tmps => forceL (forceP forceI) heap fun heap => forceN next fun next => forceL forceN lock fun lock => k ⟨tmps, heap, next, lock⟩

theorem forceN_eq (n : Nat) (k : Nat → Prop) : forceN n k = k n := by cases n <;> rfl
theorem forceL_eq {α : Type} {f : α → (α → Prop) → Prop} (hf : ∀ v k, f v k = k v) : ∀ (l : List α) (k : List α → Prop), forceL f l k = k l
  | [], k => rfl
  | v :: l, k => by simp only [forceL]; rw [hf, forceL_eq hf l]
theorem forceV_eq : ∀ (n : Nat) (v : AV) (k : AV → Prop), forceV n v k = k v
  | 0, _, _ => rfl
  | n + 1, v, k => by
    have hl := forceL_eq (forceV_eq n)
    cases v <;> simp only [forceV, forceN_eq, hl]
theorem forceI_eq (it : Itm) (k : Itm → Prop) : forceI it k = k it := by
  cases it <;> simp only [forceI, forceN_eq, forceL_eq (forceV_eq 4)]
theorem forceP_eq {α : Type} {f : α → (α → Prop) → Prop} (hf : ∀ v k, f v k = k v) (x : Nat × α) (k : Nat × α → Prop) : forceP f x k = k x := by
  obtain ⟨t, v⟩ := x
  simp only [forceP, forceN_eq, hf]
theorem forceS_eq (st : St) (k : St → Prop) : forceS st k = k st := by
  obtain ⟨tmps, heap, next, lock⟩ := st
  simp only [forceS]
  rw [forceL_eq (forceP_eq (forceV_eq 4)), forceL_eq (forceP_eq forceI_eq), forceN_eq, forceL_eq forceN_eq]

/-- Words, written out. -/
def withInv (I : Inv) (f : Inv → Prop) : Prop :=
  match I with
  | ⟨T, ok, ms, tk, tm, hk, hp, mat⟩ => f ⟨T, ok, ms, tk, tm, hk, hp, mat⟩
theorem withInv_eq (I : Inv) (f : Inv → Prop) : withInv I f = f I := by cases I; rfl

variable (A : Ann)

def codeA : Code → St → (AExit → St → Prop) → Prop
  | .skip, st, K => K .normal st
  | .region id ops draw, st, K => forceS st fun st => ghostA (A.ghost id) st fun st =>
    bif draw then (bif noSel ops.toList then drawA C ((st.heap.map (·.1)).filter (fun p => !isIn (A.loose id) p && !isIn (storesA st ops.toList) p)) ops.toList ops.size (Array.replicate ops.size false) st (K .normal) else False)
    else seqA C ops.toList ops.toList st (K .normal)
  | .seq a b, st, K => match (codeKey b).bind A.cut with
    | none => codeA a st fun e s => match e with
      | .normal => codeA b s K
      | e => K e s
    | some J => withInv (J.2 st) fun I => bif natsEq I.slots J.1 && I.may st then
        (codeA a { st with lock := st.lock ++ (st.heap.map (·.1)).filter (fun p => !isIn I.hk p) } (fun e s => match e with
          | .normal => ∃ x : I.T, Holds (I.ok x) ∧ I.met s x
          | e => K e { s with lock := st.lock })) ∧
        ∀ x : I.T, Holds (I.ok x) → bif I.fit st x then codeA b { I.head st (codeTs A a) x with lock := st.lock } K else False
      else False
  | .cond (.tmp c) a b, st, K => splitT st c (fun s => codeA a s K) (fun s => codeA b s K) (fun _ => False)
  | .cond (.const v) a b, st, K => match avOf v with
    | .tt => codeA a st K
    | .ff => codeA b st K
    | _ => False
  | .block id c, st, K => codeA c st fun e s => match e with
    | .exit j => bif Nat.beq j id then K .normal s else K (.exit j) s
    | e => K e s
  | .loop c, st, K => match (codeKey c).bind A.loop with
    | none => False
    | some J => withInv (J.2 st) fun I => bif natsEq I.slots J.1 then loopA C.nt (codeTs A c) I (codeA c) st K else False
  | .exit id, st, K => K (.exit id) st
  | .ret, st, K => K .ret st
  | _, _, _ => False

/-! ### Functions -/

def resA (st : St) : List ResultVar → Option (List AV)
  | [] => some []
  | .tmp t :: l => (resA st l).map (st.tmp t :: ·)
  | .cell a t :: l => match C.tt t, st.tmp a, resA st l with
    | some ti, .ptr p off, some vs => match st.at p with
      | .cells cs => match partA ti cs off with
        | some v => some (v :: vs)
        | none => none
      | _ => none
    | _, _, _ => none

def oneOrTup : List AV → AV
  | [v] => v
  | vs => .tup vs

/-- The new places that what comes out names, in their order. -/
def newOf (st : St) (n : Nat) (v : AV) (mods : List Nat) : List Nat :=
  (reach st 12 (addAll (addAll [] v.pos) (mods.flatMap fun m => (st.at m).pos)) 0).filter fun q => !Nat.blt q n

def metCon (st : St) (sg : List Nat) (v : AV) (nw mods : List Nat) (val : AV) (upd new : List Itm) : Prop :=
  conjO (match eqv (v.ren (indexIn sg)) val, eqiL (mods.map fun m => (st.at m).ren (indexIn sg)) upd, eqiL (nw.map fun q => (st.at q).ren (indexIn sg)) new with
    | some p, some q, some r => some (p ++ q ++ r)
    | _, _, _ => none)

def postC (st : St) (sg : List Nat) (v : AV) (nw : List Nat) : Con → Prop
  | .det _ mods val upd new => metCon st sg v nw mods val upd new
  | .any _ mods T post val upd new => ∃ r : T, Holds (post r) ∧ metCon st sg v nw mods (val r) (upd r) (new r)
  | .or a b => postC st sg v nw a ∨ postC st sg v nw b

def postA (rs : List ResultVar) (n : Nat) (c : Con) (st : St) : Prop :=
  match resA C st rs with
  | none => False
  | some vs =>
    let v := oneOrTup vs
    let nw := newOf st n v c.mods
    let sg := List.range n ++ nw
    bif nw.all (hasKey st.heap) && nodupB sg && v.pos.all (isIn sg) && (c.mods ++ nw).all (fun m => (st.at m).pos.all (isIn sg)) then postC st sg v nw c else False

def Itm.isGone : Itm → Bool
  | .gone => true
  | _ => false

mutual
def AV.facts : AV → List Prop
  | .int k n => [InR k n]
  | .lst e xs => [(Ty.slice e).ok xs]
  | .agg cs => AV.factsL cs
  | .tup cs => AV.factsL cs
  | _ => []
def AV.factsL : List AV → List Prop
  | [] => []
  | v :: l => v.facts ++ AV.factsL l
end
def Itm.facts : Itm → List Prop
  | .cells vs => AV.factsL vs
  | .arr _ e xs => [(Ty.slice e).ok xs]
  | .mapo k v E => [MOk k v E]
  | _ => []

def numFrom {α : Type} : Nat → List α → List (Nat × α)
  | _, [] => []
  | n, x :: l => (n, x) :: numFrom (n + 1) l

def startSt (args : List AV) (heap : List Itm) (mods : List Nat) : St :=
  { tmps := numFrom 0 args, heap := numFrom 0 heap, next := 100000, lock := (List.range heap.length).filter fun p => !isIn mods p }

end
/-- What is to be shown of a function. -/
def vcF (C : Cx) (body : Code) (rs : List ResultVar) (s : Spc) (A : s.G → Ann) : Prop :=
  ∀ g : s.G, bif !(s.con g).mods.all (fun m => Nat.blt m (s.heap g).length && !(((s.heap g)[m]?).getD .gone).isGone) || !nodupB (s.con g).mods || !(s.con g).fair || !Nat.ble (s.heap g).length 900 then False else hypAll (AV.factsL (s.args g) ++ (s.heap g).flatMap Itm.facts) (hypAll (s.con g).pre
    (codeA C (A g) body (startSt (s.args g) (s.heap g) (s.con g).mods) fun e st => match e with
      | .normal => ghostA (A g).fin st fun st => postA C rs (s.heap g).length (s.con g) st
      | .ret => ghostA (A g).fin st fun st => postA C rs (s.heap g).length (s.con g) st
      | .exit _ => False))

end Go.Proofs.Ytncecddhknfimaa.VC
