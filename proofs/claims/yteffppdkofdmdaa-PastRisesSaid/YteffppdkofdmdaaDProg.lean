/- Functions of the abstract machine: their code, and how it is made of the model's. Plain definitions. -/
import Derived.Test.YteffppdkofdmdaaDCode
namespace Go.Proofs.Yteffppdkofdmdaa.D

/-- An operation in its place: where its value goes, and under which test it is carried out. -/
structure PO where
  dst : Option Nat
  op : POp
  guard : Option (Nat × Bool)

/-- What is looked at behind a region whose order is open: at which operation, and ahead of which great ones it may come. -/
structure Look where
  at_ : Nat
  cs : List Nat

inductive PC where
  | skip
  | region (ops : List PO)
  | drawn (ops : List PO) (looks : List Look)
  | seq (a b : PC)
  | cond (c : X) (a b : PC)
  | block (id : Nat) (a : PC)
  | loop (a : PC)
  | rangeF (f : X) (params : List Nat) (assign body : PC)
  | exit (id : Nat)
  | ret

/-- How a piece of code is left. -/
inductive AExit where
  | normal
  | exit (id : Nat)
  | ret

inductive PRes where
  | tmp (t : Nat)
  | cell1 (t : Nat)
  | cellN (n t : Nat)

structure FD where
  ntmps : Nat
  results : List PRes
  body : PC

def xuse : X → List Nat
  | .t n => [n]
  | .c _ => []
def ouse : Option X → List Nat
  | some x => xuse x
  | none => []

/-- The operands of an operation. -/
def POp.xs : POp → List X
  | .move x | .box x | .load1 x | .loadN _ x | .nilCheck x | .un _ x | .convInt _ x | .convSame x | .convStr _ x | .convBytes x
  | .mkIface _ x | .fieldAddr _ x | .field _ _ x | .range x | .next x | .entry x | .extract x _ | .len _ x | .cap x | .clear _ x | .clearMap x => [x]
  | .pick c a b => [c, a, b]
  | .alloc _ | .mkMap | .lenArr _ | .fail => []
  | .build _ ps => ps.map (·.2.2)
  | .buildSlice _ _ ps _ => ps.map (·.2.2)
  | .store _ a v => [a, v]
  | .bin _ _ x y => [x, y]
  | .mkFunc _ a c => a ++ c
  | .mkSlice _ _ _ l c => [l, c]
  | .sliceSl _ x lo hi mx => x :: (lo.toList ++ hi.toList ++ mx.toList)
  | .sliceStr x lo hi => x :: (lo.toList ++ hi.toList)
  | .sliceArr _ _ x lo hi mx => x :: (lo.toList ++ hi.toList ++ mx.toList)
  | .idxArr _ _ x i | .idxSl _ x i | .idxAgg _ _ _ x i | .idxStr x i => [x, i]
  | .lookup _ m k _ => [m, k]
  | .mapUpd m k v => [m, k, v]
  | .call f args => f :: args
  | .append _ _ _ s x | .appendN _ _ _ s x => [s, x]
  | .copy _ d s => [d, s]
  | .minmax _ l => l
  | .delete m k => [m, k]

def POp.uses (p : POp) : List Nat := p.xs.flatMap xuse

/-- 0: neither looks at memory nor turns it; 1: looks at it; 2: may turn it; 3: lays a block and asks nothing of memory. -/
def POp.cls : POp → Nat
  | .move _ | .pick .. | .build .. | .nilCheck _ | .bin .. | .un .. | .convInt .. | .convSame _ | .mkIface .. | .mkFunc .. | .sliceSl .. | .sliceStr .. | .sliceArr ..
  | .fieldAddr .. | .field .. | .idxArr .. | .idxSl .. | .idxAgg .. | .idxStr .. | .extract .. | .lenArr _ | .cap _ | .minmax .. => 0
  | .load1 _ | .loadN .. | .lookup .. | .convBytes _ | .len .. | .entry _ => 1
  | .alloc _ | .box _ | .buildSlice .. => 3
  | _ => 2

/-- Which operations come before one, by the edges that bind: a set as a number. -/
def befores (ops : List Oper) : List Nat :=
  ops.foldl (fun acc o => acc ++ [o.after.toList.foldl (fun s e => if Region.binds .any e then s ||| 2 ^ e.on ||| acc.getD e.on 0 else s) 0]) []

def edgesOk (ops : List Oper) : Bool :=
  ops.zipIdx.all fun (o, i) => o.after.toList.all fun e => !Region.binds .any e || Nat.blt e.on i

/-- Is an operation ahead of another one, whatever the order? -/
def ahead (bs : List Nat) (i j : Nat) : Bool := (bs.getD j 0).testBit i

def tmpsOk (ps : List PO) (bs : List Nat) : Bool :=
  ps.zipIdx.all fun (p, i) => (p.op.uses ++ (p.guard.map (·.1)).toList).all fun t =>
    ps.zipIdx.all fun (q, j) => q.dst != some t || i == j || ahead bs i j || ahead bs j i

def dstsOk (ps : List PO) : Bool :=
  ps.zipIdx.all fun (p, i) => ps.zipIdx.all fun (q, j) => i == j || p.dst.isNone || p.dst != q.dst

/-- Does it turn memory? -/
def PO.big (p : PO) : Bool := Nat.ble 2 p.op.cls

/-- What turns memory comes in its order; what only lays a block may come sooner. -/
def bigsOk (ps : List PO) (bs : List Nat) : Bool :=
  ps.zipIdx.all fun (p, i) => !p.big || ps.zipIdx.all fun (q, j) => !q.big || !Nat.blt i j || ahead bs i j || q.op.cls == 3

/-- Ahead of which great ones a look may come. -/
def spots (ps : List PO) (bs : List Nat) (i : Nat) : List Nat :=
  (List.range (ps.length + 1)).filter fun c => (match ps[c]? with | some q => q.big | none => true) &&
    ps.zipIdx.all fun (q, j) => !q.big || ((!ahead bs j i || Nat.blt j c) && (!ahead bs i j || Nat.ble c j))

/-- Is it settled which of the great ones come ahead of one? -/
def settled (ps : List PO) (bs : List Nat) (i : Nat) : Bool :=
  ps.zipIdx.all fun (q, j) => !q.big || ahead bs j i || ahead bs i j

/-- The looks that are wanted: at what reads memory, where the order leaves it open at which moment. -/
def looksOf (ps : List PO) (bs : List Nat) : List Look :=
  ps.zipIdx.filterMap fun (p, i) => if p.op.cls == 1 && !settled ps bs i then some { at_ := i, cs := spots ps bs i } else none

/-- The great ones ahead of a look are the first ones; and where its moment is open, its operands, and the test, come of what is ahead of it, and nothing behind it turns them. -/
def readsOk (ps : List PO) (bs : List Nat) : Bool :=
  ps.zipIdx.all fun (p, i) => p.op.cls != 1 ||
    ((ps.zipIdx.all fun (q, j) => !q.big || !ahead bs j i || ps.zipIdx.all fun (r, c) => !r.big || !Nat.blt c j || ahead bs c i) &&
    (settled ps bs i ||
    (p.op.uses ++ (p.guard.map (·.1)).toList).all fun t => ps.zipIdx.all fun (q, j) => q.dst != some t || ahead bs j i))

/-- All that is written lies among the temporaries. -/
def okPOs (n : Nat) : List PO → Bool
  | [] => true
  | p :: r => (match p.dst with | some d => Nat.blt d n | none => true) && okPOs n r

def okNats (n : Nat) : List Nat → Bool
  | [] => true
  | p :: r => Nat.blt p n && okNats n r

def okPC (n : Nat) : PC → Bool
  | .region ops => okPOs n ops
  | .drawn ops _ => okPOs n ops
  | .seq a b => okPC n a && okPC n b
  | .cond _ a b => okPC n a && okPC n b
  | .block _ a => okPC n a
  | .loop a => okPC n a
  | .rangeF _ params a b => okNats n params && okPC n a && okPC n b
  | _ => true

section
variable (P : Program)
def prepPO (ops : List Oper) (o : Oper) : Option PO :=
  match o.guard with
  | none => some { dst := o.dst, op := (prepOp P o).getD .fail, guard := none }
  | some (j, want) => match (ops[j]?).bind (·.dst) with
    | some t => some { dst := o.dst, op := (prepOp P o).getD .fail, guard := some (t, want) }
    | none => none

def prepPOs (ops : List Oper) : List Oper → Option (List PO)
  | [] => some []
  | o :: r => match prepPO P ops o with
    | some p => match prepPOs ops r with
      | some l => some (p :: l)
      | none => none
    | none => none

def prepC : Code → Option PC
  | .skip => some .skip
  | .region _ ops draw => match prepPOs P ops.toList ops.toList with
    | none => none
    | some ps => if draw then
        let bs := befores ops.toList
        if edgesOk ops.toList && tmpsOk ps bs && dstsOk ps && bigsOk ps bs && readsOk ps bs then some (.drawn ps (looksOf ps bs)) else none
      else some (.region ps)
  | .seq a b => match prepC a with
    | none => none
    | some x => match prepC b with
      | none => none
      | some y => some (.seq x y)
  | .cond c a b => match prepX c with
    | none => none
    | some z => match prepC a with
      | none => none
      | some x => match prepC b with
        | none => none
        | some y => some (.cond z x y)
  | .block id a => match prepC a with
    | none => none
    | some x => some (.block id x)
  | .loop a => match prepC a with
    | none => none
    | some x => some (.loop x)
  | .rangeFunc f params assign body => match prepX f with
    | none => none
    | some z => match prepC assign with
      | none => none
      | some x => match prepC body with
        | none => none
        | some y => some (.rangeF z params.toList x y)
  | .exit id => some (.exit id)
  | .ret => some .ret
  | _ => none

def prepRes : ResultVar → Option PRes
  | .tmp t => some (.tmp t)
  | .cell a t => match isAggB P t, sizeB P t with
    | some true, some n => some (.cellN n a)
    | some false, _ => some (.cell1 a)
    | _, _ => none

def prepRess : List ResultVar → Option (List PRes)
  | [] => some []
  | r :: l => match prepRes P r with
    | some x => match prepRess l with
      | some y => some (x :: y)
      | none => none
    | none => none

def prepF (f : Func) : Option FD :=
  match f.body with
  | none => none
  | some c => match prepC P c with
    | none => none
    | some b => match prepRess P f.results.toList with
      | none => none
      | some r => if f.name == "runtime.NumGoroutine" || !okPC f.ntmps b then none else some { ntmps := f.ntmps, results := r, body := b }
end
end Go.Proofs.Yteffppdkofdmdaa.D
