/- What an operation of the abstract machine does. Plain definitions. -/
import Derived.Test.YteffppdkofdmdaaDHeap
namespace Go.Proofs.Yteffppdkofdmdaa.D
noncomputable section

abbrev Ev := X → Option AV

def evO (ev : Ev) : Option X → Option (Option AV)
  | none => some none
  | some x => match ev x with
    | some v => some (some v)
    | none => none

def evs (ev : Ev) : List X → Option (List AV)
  | [] => some []
  | x :: r => match ev x with
    | some v => match evs ev r with
      | some l => some (v :: l)
      | none => none
    | none => none

/-- Some places of a list are other ones. -/
def splice (l : List AV) (off : Nat) (vs : List AV) : List AV := l.take off ++ vs ++ l.drop (off + vs.length)

def fillA (ev : Ev) (z : List AV) : List (Nat × Nat × X) → Option (List AV)
  | [] => some z
  | (off, size, x) :: r => match ev x with
    | some v => if v.cells.length = size ∧ off + size ≤ z.length then fillA ev (splice z off v.cells) r else none
    | none => none

/-- The cells of a row from a place on. -/
def loadA (s : St) (b o n : Nat) : Option (List AV) :=
  match s.get b with
  | some (.cells vs _ _ _) => if o + n ≤ vs.length then some ((vs.drop o).take n) else none
  | _ => none

def allCell : List AV → Bool
  | [] => true
  | v :: r => v.cell && allCell r

def storeA (s : St) (b o : Nat) (l : List AV) : Option St :=
  match s.get b with
  | some (.cells vs lo false z) => if o + l.length ≤ vs.length ∧ allCell l = true then some (s.put b (.cells (splice vs o l) lo false z)) else none
  | _ => none

/-- Two cells of a kind: bools 0, numbers 1, texts 2. -/
def leafEq : Nat → AV → AV → Option Bool
  | 0, .bool a, .bool b => some (a == b)
  | 1, .int k a, .int k' b => if k = k' then some (a == b) else none
  | 2, .str a, .str b => some (a == b)
  | _, _, _ => none

def cellsEq : List Nat → List AV → List AV → Option Bool
  | [], [], [] => some true
  | k :: ks, x :: l, y :: m => match leafEq k x y with
    | some true => cellsEq ks l m
    | some false => if l.length = ks.length ∧ m.length = ks.length then some false else none
    | none => none
  | _, _, _ => none

/-- Is a value of a kind nil? -/
def nilOf : EqK → AV → Option Bool
  | .ptr, .nilPtr => some true
  | .ptr, .ptr _ _ => some false
  | .slice, .nilSlice => some true
  | .slice, .slice .. => some false
  | .slice, .tail .. => some false
  | .map, .nilMap => some true
  | .map, .map _ => some false
  | .func, .nilFn => some true
  | .func, .fn .. => some false
  | .iface, .nilIface => some true
  | .iface, .iface .. => some false
  | _, _ => none

def boolEq : AV → AV → Option Bool
  | .bool a, .bool b => some (a == b)
  | _, _ => none

def aggEq (ks : List Nat) : AV → AV → Option Bool
  | .agg l, .agg m => cellsEq ks l m
  | _, _ => none

def nilEq (k : EqK) (a b : AV) : Option Bool :=
  match nilOf k a with
  | none => none
  | some x => match nilOf k b with
    | none => none
    | some y => if x then some y else if y then some x else none

def eqA (k : EqK) (a b : AV) : Option Bool :=
  match k with
  | .no => none
  | .leaf => boolEq a b
  | .cells ks => aggEq ks a b
  | .ptr => nilEq .ptr a b
  | .slice => nilEq .slice a b
  | .map => nilEq .map a b
  | .func => nilEq .func a b
  | .iface => nilEq .iface a b

def intBin (op : BinOp) (k : IntKind) (a b : Int) : Option AV :=
  match op with
  | .add => some (.int k (k.wrap (a + b)))
  | .sub => some (.int k (k.wrap (a - b)))
  | .mul => some (.int k (k.wrap (a * b)))
  | .quo => if b = 0 then none else some (.int k (k.wrap (a.tdiv b)))
  | .rem => if b = 0 then none else some (.int k (a.tmod b))
  | .and => some (.int k (k.wrap ((BitVec.ofInt k.bits a &&& BitVec.ofInt k.bits b).toNat)))
  | .or => some (.int k (k.wrap ((BitVec.ofInt k.bits a ||| BitVec.ofInt k.bits b).toNat)))
  | .xor => some (.int k (k.wrap ((BitVec.ofInt k.bits a ^^^ BitVec.ofInt k.bits b).toNat)))
  | .andNot => some (.int k (k.wrap ((BitVec.ofInt k.bits a &&& ~~~(BitVec.ofInt k.bits b)).toNat)))
  | .eql => some (.bool (a == b))
  | .neq => some (.bool (a != b))
  | .lss => some (.bool (decide (a < b)))
  | .leq => some (.bool (decide (a ≤ b)))
  | .gtr => some (.bool (decide (a > b)))
  | .geq => some (.bool (decide (a ≥ b)))
  | _ => none

def strBin (op : BinOp) (a b : ByteArray) : Option AV :=
  match op with
  | .add => if ((a.size + b.size : Nat) : Int) > IntKind.i64.max then none else some (.str (a ++ b))
  | .eql => some (.bool (a.toList == b.toList))
  | .neq => some (.bool !(a.toList == b.toList))
  | .lss => some (.bool (Op.bytesLess a.toList b.toList))
  | _ => none

def binA (op : BinOp) (e : EqK) (x y : AV) : Option AV :=
  match op, x, y with
  | .shl, .int k a, .int _ b => if b < 0 then none else some (.int k (k.wrap (a * 2 ^ (min b.toNat k.bits))))
  | .shr, .int k a, .int _ b => if b < 0 then none else some (.int k (a.fdiv (2 ^ (min b.toNat k.bits))))
  | _, .int k a, .int k' b => if k = k' then intBin op k a b else none
  | _, .str a, .str b => strBin op a b
  | .eql, x, y => match eqA e x y with
    | some b => some (.bool b)
    | none => none
  | .neq, x, y => match eqA e x y with
    | some b => some (.bool (!b))
    | none => none
  | _, _, _ => none

def unA (op : UnOp) (x : AV) : Option AV :=
  match op, x with
  | .neg, .int k n => some (.int k (k.wrap (0 - n)))
  | .xor, .int k n => some (.int k (k.wrap ((BitVec.ofInt k.bits (if k.signed then -1 else k.max) ^^^ BitVec.ofInt k.bits n).toNat)))
  | .not, .bool b => some (.bool !b)
  | _, _ => none

/-- A bound of a slice expression: from 0 to another one. -/
def boundA (v : AV) (y : Nat) : Option Nat :=
  match v with
  | .int _ n => if 0 ≤ n ∧ n ≤ y then some n.toNat else none
  | _ => none

/-- The three bounds. -/
def boundsA (len cap : Nat) (lo hi mx : Option AV) : Option (Nat × Nat × Nat) :=
  match (match mx with | some v => boundA v cap | none => some cap) with
  | none => none
  | some m => match (match hi, mx with
      | some v, _ => boundA v m
      | none, none => if len ≤ m then some len else none
      | none, some _ => none) with
    | none => none
    | some h => match (match lo with | some v => boundA v h | none => some 0) with
      | none => none
      | some l => some (l, h, m)

def isZero : Option AV → Bool
  | none => true
  | some (.int _ n) => n == 0
  | _ => false

def sliceA (esz : Nat) (x : AV) (lo hi mx : Option AV) : Option AV :=
  match x with
  | .nilSlice => match boundsA 0 0 lo hi mx with
    | some _ => some .nilSlice
    | none => none
  | .tail b o adv => if mx.isNone && isZero lo && isZero hi then some (.tail b o adv) else none
  | .slice b o len cap loose => match boundsA len cap lo hi mx with
    | none => none
    | some (l, h, m) =>
      if loose && mx.isNone then
        if m = l then some (.tail b o (l * esz)) else some (.slice b (o + l * esz) (h - l) (m - l) true)
      else some (.slice b (if m = l then o else o + l * esz) (h - l) (m - l) false)
  | _ => none

def indexA (v : AV) (len : Nat) : Option Nat :=
  match v with
  | .int _ n => if 0 ≤ n ∧ n < len then some n.toNat else none
  | _ => none

def partA (n : Option Nat) (cs : List AV) (off : Nat) : Option AV :=
  match n with
  | some k => some (.agg ((cs.drop off).take k))
  | none => cs[off]?

/-- Where a key is among entries. -/
def findA (k : IntKind) (a : Int) : List (AV × AV × Nat) → Nat → Option (Option (Nat × AV))
  | [], _ => some none
  | (.int k' b, v, _) :: r, i => if k = k' then (if a == b then some (some (i, v)) else findA k a r (i + 1)) else none
  | _ :: _, _ => none

def bytesA : List AV → Option (List UInt8)
  | [] => some []
  | .int .u8 n :: r => match bytesA r with
    | some l => some (UInt8.ofNat n.toNat :: l)
    | none => none
  | _ :: _ => none

def foldMM (mx : Bool) : AV → List AV → Option AV
  | v, [] => some v
  | .int k x, .int _ y :: r => foldMM mx (.int k (if mx then (if y > x then y else x) else (if y < x then y else x))) r
  | _, _ => none

/-- The cells that append, or copy, takes from its second operand. -/
def srcA (s : St) (esz : Nat) : AV → Option (Nat × List AV)
  | .nilSlice => some (0, [])
  | .tail .. => some (0, [])
  | .raw (.slice _ 0 _) => some (0, [])
  | .slice b o len _ _ => match loadA s b o (len * esz) with
    | some l => some (len, l)
    | none => none
  | .str x => if esz = 1 then some (x.size, x.data.toList.map fun c => .int .u8 c.toNat) else none
  | _ => none

def newA (s : St) (o : AObj) (v : AV) : Option (AV × St) := some (v, s.new o)

def appendA (esz ebytes : Nat) (s : St) (x : AV) (n : Nat) (new : List AV) : Option (AV × St) :=
  match x with
  | .nilSlice => if n = 0 then some (.nilSlice, s) else if n * ebytes ≤ 2 ^ 46 then newA s (.cells new true false esz) (.slice s.next 0 n n true) else none
  | .slice b o len cap loose =>
    if len + n ≤ cap then
      if n = 0 then some (.slice b o len cap loose, s) else
      match storeA s b (o + len * esz) new with
      | some s' => some (.slice b o (len + n) cap loose, s')
      | none => none
    else if (len + n) * ebytes ≤ 2 ^ 46 then
      match loadA s b o (len * esz) with
      | none => none
      | some old =>
        if loose then
          if o = 0 then
            match s.get b with
            | some (.cells vs true false z) => if z = esz ∧ vs.length = cap * esz ∧ allCell new = true then
                some (.slice s.next 0 (len + n) (len + n) true, (s.drop b).new (.cells (old ++ new) true false esz)) else none
            | _ => none
          else none
        else newA s (.cells (old ++ new) true false esz) (.slice s.next 0 (len + n) (len + n) true)
    else none
  | _ => none

def undefA : AV := .tup []

def xop (p : POp) (ev : Ev) (s : St) : Option (AV × St) :=
  let pure' (v : Option AV) : Option (AV × St) := match v with
    | some v => some (v, s)
    | none => none
  match p with
  | .move x => pure' (ev x)
  | .pick c a b => match ev c with
    | some (.bool true) => pure' (ev a)
    | some (.bool false) => pure' (ev b)
    | _ => none
  | .alloc z => newA s (.cells z false false 0) (.ptr s.next 0)
  | .box x => match ev x with
    | some v => newA s (.cells v.cells false false 0) (.ptr s.next 0)
    | none => none
  | .build z parts => match fillA ev z parts with
    | some l => some (.agg l, s)
    | none => none
  | .buildSlice z n parts _ => match fillA ev z parts with
    | some l => newA s (.cells l false false 0) (.slice s.next 0 n n false)
    | none => none
  | .load1 a => match ev a with
    | some (.ptr b o) => match s.get b with
      | some (.cells vs _ _ _) => pure' vs[o]?
      | _ => none
    | _ => none
  | .loadN n a => match ev a with
    | some (.ptr b o) => match loadA s b o n with
      | some l => some (.agg l, s)
      | none => none
    | _ => none
  | .store n a v => match ev a, ev v with
    | some (.ptr b o), some v => if v.cells.length = n then match storeA s b o v.cells with
        | some s' => some (undefA, s')
        | none => none
      else none
    | _, _ => none
  | .nilCheck x => match ev x with
    | some (.ptr b o) => some (.ptr b o, s)
    | some (.fn (.func f) a c) => some (.fn (.func f) a c, s)
    | some (.yld r) => some (.yld r, s)
    | _ => none
  | .bin op e x y => match ev x, ev y with
    | some a, some b => pure' (binA op e a b)
    | _, _ => none
  | .un op x => match ev x with
    | some a => pure' (unA op a)
    | none => none
  | .convInt k x => match ev x with
    | some (.int _ n) => some (.int k (k.wrap n), s)
    | _ => none
  | .convSame x => match ev x with
    | some (.str v) => some (.str v, s)
    | _ => none
  | .convStr _ x => match ev x with
    | some (.str v) => newA s (.cells (v.data.toList.map fun c => .int .u8 c.toNat) true false 1) (.slice s.next 0 v.size v.size true)
    | _ => none
  | .convBytes x => match ev x with
    | some .nilSlice => some (.str .empty, s)
    | some (.tail ..) => some (.str .empty, s)
    | some (.slice b o len _ _) => match loadA s b o len with
      | some l => match bytesA l with
        | some bs => some (.str ⟨bs.toArray⟩, s)
        | none => none
      | none => none
    | _ => none
  | .mkIface t x => match ev x with
    | some v => some (.iface t v, s)
    | none => none
  | .mkFunc f a c => match evs ev a, evs ev c with
    | some a, some c => some (.fn f a c, s)
    | _, _ => none
  | .mkMap => newA s (.map [] 0) (.map s.next)
  | .mkSlice _ eb z l c => match ev l, ev c with
    | some (.int _ l), some (.int _ c) => if 0 ≤ l ∧ l ≤ c ∧ c < 2 ^ 40 ∧ (eb : Int) * c ≤ 2 ^ 46 then
        newA s (.cells (List.replicate c.toNat z).flatten false false 0) (.slice s.next 0 l.toNat c.toNat false) else none
    | _, _ => none
  | .sliceSl e x lo hi mx => match ev x, evO ev lo, evO ev hi, evO ev mx with
    | some x, some lo, some hi, some mx => pure' (sliceA e x lo hi mx)
    | _, _, _, _ => none
  | .sliceStr x lo hi => match ev x, evO ev lo, evO ev hi with
    | some (.str v), some lo, some hi => match boundsA v.size v.size lo hi none with
      | some (l, h, _) => some (.str (v.extract l h), s)
      | none => none
    | _, _, _ => none
  | .sliceArr n e x lo hi mx => match ev x, evO ev lo, evO ev hi, evO ev mx with
    | some (.ptr b o), some lo, some hi, some mx => match boundsA n n lo hi mx with
      | some (l, h, m) => some (.slice b (if m = l then o else o + l * e) (h - l) (m - l) false, s)
      | none => none
    | _, _, _, _ => none
  | .fieldAddr off x => match ev x with
    | some (.ptr b o) => some (.ptr b (o + off), s)
    | _ => none
  | .field off n x => match ev x with
    | some (.agg l) => pure' (partA n l off)
    | _ => none
  | .idxArr len e x i => match ev x, ev i with
    | some (.ptr b o), some i => match indexA i len with
      | some k => some (.ptr b (o + k * e), s)
      | none => none
    | _, _ => none
  | .idxSl e x i => match ev x, ev i with
    | some (.slice b o len _ _), some i => match indexA i len with
      | some k => some (.ptr b (o + k * e), s)
      | none => none
    | _, _ => none
  | .idxAgg len e g x i => match ev x, ev i with
    | some (.agg l), some i => match indexA i len with
      | some k => pure' (partA (if g then some e else none) l (k * e))
      | none => none
    | _, _ => none
  | .idxStr x i => match ev x, ev i with
    | some (.str v), some i => match indexA i v.size with
      | some k => match v[k]? with
        | some c => some (.int .u8 c.toNat, s)
        | none => none
      | none => none
    | _, _ => none
  | .lookup z m k ok => match ev m, ev k with
    | some .nilMap, some (.int _ _) => some (if ok then .tup [z, .bool false] else z, s)
    | some (.map r), some (.int kk a) => match s.get r with
      | some (.map es _) => match findA kk a es 0 with
        | some (some (_, v)) => some (if ok then .tup [v, .bool true] else v, s)
        | some none => some (if ok then .tup [z, .bool false] else z, s)
        | none => none
      | _ => none
    | _, _ => none
  | .mapUpd m k v => match ev m, ev k, ev v with
    | some (.map r), some (.int kk a), some v => match s.get r with
      | some (.map es cl) => match findA kk a es 0 with
        | some (some (i, _)) => some (undefA, s.put r (.map (es.modify i fun e => (.int kk a, v, e.2.2)) cl))
        | some none => some (undefA, s.put r (.map (es ++ [(.int kk a, v, cl)]) (cl + 1)))
        | none => none
      | _ => none
    | _, _, _ => none
  | .extract x i => match ev x with
    | some (.tup l) => pure' l[i]?
    | _ => none
  | .append esz eb _ x y => match ev x, ev y with
    | some x, some y => match srcA s esz y with
      | some (n, l) => if l.length = n * esz then appendA esz eb s x n l else none
      | none => none
    | _, _ => none
  | .appendN esz eb z x y => match ev x, ev y with
    | some x, some (.int _ k) => if 0 ≤ k ∧ k < 2 ^ 40 ∧ k.toNat * eb ≤ 2 ^ 46 then appendA esz eb s x k.toNat (List.replicate k.toNat z).flatten else none
    | _, _ => none
  | .copy esz d x => match ev d, ev x with
    | some d, some x => match srcA s esz x with
      | none => none
      | some (n, l) => match d with
        | .nilSlice => some (.int .i64 0, s)
        | .tail .. => some (.int .i64 0, s)
        | .slice b o len _ _ => if min n len = 0 then some (.int .i64 0, s) else match storeA s b o (l.take (min n len * esz)) with
          | some s' => some (.int .i64 (min n len : Nat), s')
          | none => none
        | _ => none
    | _, _ => none
  | .len 0 x => match ev x with
    | some (.str v) => some (.int .i64 v.size, s)
    | _ => none
  | .len 1 x => match ev x with
    | some .nilSlice => some (.int .i64 0, s)
    | some (.tail ..) => some (.int .i64 0, s)
    | some (.slice _ _ n _ _) => some (.int .i64 n, s)
    | some (.raw (.slice _ n _)) => some (.int .i64 n, s)
    | _ => none
  | .len _ x => match ev x with
    | some .nilMap => some (.int .i64 0, s)
    | some (.map r) => match s.get r with
      | some (.map es _) => some (.int .i64 es.length, s)
      | _ => none
    | _ => none
  | .lenArr n => some (.int .i64 n, s)
  | .cap x => match ev x with
    | some .nilSlice => some (.int .i64 0, s)
    | some (.slice _ _ _ c false) => some (.int .i64 c, s)
    | _ => none
  | .minmax mx l => match evs ev l with
    | some (v :: r) => pure' (foldMM mx v r)
    | _ => none
  | .clearMap x => match ev x with
    | some .nilMap => some (undefA, s)
    | some (.map r) => match s.get r with
      | some (.map _ cl) => some (undefA, s.put r (.map [] cl))
      | _ => none
    | _ => none
  | .clear z x => match ev x with
    | some .nilSlice => some (undefA, s)
    | some (.tail ..) => some (undefA, s)
    | some (.slice b o n _ _) => if n = 0 then some (undefA, s) else match storeA s b o (List.replicate n z).flatten with
      | some s' => some (undefA, s')
      | none => none
    | _ => none
  | .delete m k => match ev m, ev k with
    | some .nilMap, some (.int _ _) => some (undefA, s)
    | some (.map r), some (.int kk a) => match s.get r with
      | some (.map es cl) => match findA kk a es 0 with
        | some (some (i, _)) => some (undefA, s.put r (.map (es.eraseIdx i) cl))
        | some none => some (undefA, s)
        | none => none
      | _ => none
    | _, _ => none
  | .call .. => none
  | .range _ => none
  | .next _ => none
  | .entry _ => none
  | .fail => none
end
end Go.Proofs.Yteffppdkofdmdaa.D
