/- The abstract machine. Plain definitions. -/
import Derived.Test.YteffppdkofdmdaaDOp
namespace Go.Proofs.Yteffppdkofdmdaa.D
noncomputable section

mutual
/-- Are two values the same? -/
def same : AV → AV → Bool
  | .bool a, .bool b => a == b
  | .int k a, .int l b => decide (k = l) && decide (a = b)
  | .str a, .str b => decide (a.data.toList = b.data.toList)
  | .ptr a b, .ptr c d => Nat.beq a c && Nat.beq b d
  | .nilPtr, .nilPtr => true
  | .slice a b c d e, .slice a' b' c' d' e' => Nat.beq a a' && Nat.beq b b' && Nat.beq c c' && Nat.beq d d' && (e == e')
  | .nilSlice, .nilSlice => true
  | .tail a b c, .tail a' b' c' => Nat.beq a a' && Nat.beq b b' && Nat.beq c c'
  | .map a, .map b => Nat.beq a b
  | .nilMap, .nilMap => true
  | .nilFn, .nilFn => true
  | .nilIface, .nilIface => true
  | .iface t v, .iface u w => Nat.beq t u && same v w
  | .agg l, .agg m => sames l m
  | .tup l, .tup m => sames l m
  | _, _ => false
def sames : List AV → List AV → Bool
  | [], [] => true
  | x :: l, y :: m => same x y && sames l m
  | _, _ => false
end

def evOf (ts : Tr AV) : Ev
  | .t n => ts.get n
  | .c v => some v

def putT (d : Option Nat) (v : AV) (ts : Tr AV) : Tr AV :=
  match d with
  | some t => ts.set t v
  | none => ts

abbrev Res := Option (AExit × Tr AV × List Nat × St)

structure Eng where
  call : Nat → List AV → St → Option (AV × St)
  ex : Option Nat → PC → Tr AV → List Nat → St → Res

def setTs : List Nat → List AV → Tr AV → Tr AV
  | p :: ps, a :: as, ts => setTs ps as (ts.set p a)
  | _, _, ts => ts

def initT : Nat → List AV → Tr AV → Tr AV
  | i, a :: as, ts => initT (i + 1) as (ts.set i a)
  | _, [], ts => ts

/-- A call of yield: a round of a loop over a function. -/
def roundA (e : Eng) (r : Nat) (args : List AV) (s : St) : Option (AV × St) :=
  match s.get r with
  | some (.loop .ready _ ts params assign body _) =>
    if args.length = params.length then
      match e.ex (some r) assign (setTs params args ts) [] s with
      | some (.normal, ts1, [], s1) => match s1.get r with
        | some (.loop .ready pe ts2 ps2 a2 b2 d2) =>
          match e.ex (some r) body ts1 [] (s1.put r (.loop .busy pe ts2 ps2 a2 b2 d2)) with
          | some (x, _, [], s3) => match s3.get r with
            | some (.loop _ _ ts3 ps3 a3 b3 d3) =>
              match x with
              | .normal => some (.bool true, s3.put r (.loop .ready .normal ts3 ps3 a3 b3 d3))
              | x => some (.bool false, s3.put r (.loop .done x ts3 ps3 a3 b3 d3))
            | _ => none
          | _ => none
        | _ => none
      | _ => none
    else none
  | _ => none

def callV (e : Eng) (f : AV) (args : List AV) (s : St) : Option (AV × St) :=
  match f with
  | .fn (.func f) first captured => e.call f (first ++ args ++ captured) s
  | .yld r => roundA e r args s
  | _ => none

/-- Is an operation carried out, by its test? -/
def wantedA (g : Option (Nat × Bool)) (ts : Tr AV) : Option Bool :=
  match g with
  | none => some true
  | some (t, b) => match ts.get t with
    | some (.bool x) => some (x == b)
    | some (.tup []) => some false
    | _ => none

def opVal (e : Eng) (p : POp) (ev : Ev) (s : St) : Option (AV × St) :=
  match p with
  | .call f args => match ev f with
    | none => none
    | some fv => match evs ev args with
      | none => none
      | some l => callV e fv l s
  | p => xop p ev s

def opStep (e : Eng) (p : PO) (ts : Tr AV) (s : St) : Option (Tr AV × St) :=
  match wantedA p.guard ts with
  | none => none
  | some false => some (putT p.dst undefA ts, s)
  | some true => match opVal e p.op (evOf ts) s with
    | none => none
    | some (v, s') => some (putT p.dst v ts, s')

def runOps (e : Eng) : List PO → Tr AV → St → Option (Tr AV × St)
  | [], ts, s => some (ts, s)
  | p :: r, ts, s => match opStep e p ts s with
    | none => none
    | some (ts', s') => runOps e r ts' s'

/-- The same, and what the memory was ahead of each of them, the last one first. -/
def runSnaps (e : Eng) : List PO → Tr AV → St → List St → Option (Tr AV × St × List St)
  | [], ts, s, acc => some (ts, s, s :: acc)
  | p :: r, ts, s, acc => match opStep e p ts s with
    | none => none
    | some (ts', s') => runSnaps e r ts' s' (s :: acc)

/-- What is looked at is the same at each of these moments. -/
def lookAll (p : PO) (ts : Tr AV) (snaps : List St) (v : AV) : List Nat → Bool
  | [] => true
  | c :: r => (match snaps[c]? with
      | some s => match xop p.op (evOf ts) s with
        | some (u, _) => same u v
        | none => false
      | none => false) && lookAll p ts snaps v r

def lookOk (ops : List PO) (ts : Tr AV) (snaps : List St) (l : Look) : Bool :=
  match ops[l.at_]? with
  | none => false
  | some p => match wantedA p.guard ts with
    | some false => true
    | some true => match p.dst with
      | none => false
      | some d => match ts.get d with
        | none => false
        | some v => lookAll p ts snaps v l.cs
    | none => false

def looksOk (ops : List PO) (ts : Tr AV) (snaps : List St) : List Look → Bool
  | [] => true
  | l :: r => lookOk ops ts snaps l && looksOk ops ts snaps r

def rangeA (e : Eng) (ro : Option Nat) (f : AV) (params : List Nat) (assign body : PC) (ts : Tr AV) (ds : List Nat) (s : St) : Res :=
  match f with
  | .fn (.func g) first captured =>
    match (match ro with
      | none => some ((s.new .defd).next, s.next :: ds, (s.new .defd).new (.loop .ready .normal ts params assign body s.next))
      | some l0 => match s.get l0 with
        | some (.loop _ _ _ _ _ _ d0) => some (s.next, ds, s.new (.loop .ready .normal ts params assign body d0))
        | _ => none) with
    | none => none
    | some (l, ds', s2) => match e.call g (first ++ [.yld l] ++ captured) s2 with
      | none => none
      | some (_, s3) => match s3.get l with
        | some (.loop .busy _ _ _ _ _ _) => none
        | some (.loop _ pend ts2 ps2 a2 b2 d2) => some (pend, ts, ds', s3.put l (.loop .exhausted pend ts2 ps2 a2 b2 d2))
        | _ => none
  | _ => none

def exStep (e : Eng) (ro : Option Nat) (c : PC) (ts : Tr AV) (ds : List Nat) (s : St) : Res :=
  match c with
  | .skip => some (.normal, ts, ds, s)
  | .region ops => match runOps e ops ts s with
    | some (ts', s') => some (.normal, ts', ds, s')
    | none => none
  | .drawn ops looks => match runSnaps e ops ts s [] with
    | some (ts', s', snaps) => if looksOk ops ts' snaps.reverse looks then some (.normal, ts', ds, s') else none
    | none => none
  | .seq a b => match e.ex ro a ts ds s with
    | some (.normal, ts', ds', s') => e.ex ro b ts' ds' s'
    | r => r
  | .cond x a b => match evOf ts x with
    | some (.bool true) => e.ex ro a ts ds s
    | some (.bool false) => e.ex ro b ts ds s
    | _ => none
  | .block id a => match e.ex ro a ts ds s with
    | some (.exit id', ts', ds', s') => some (if id' = id then .normal else .exit id', ts', ds', s')
    | r => r
  | .loop a => match e.ex ro a ts ds s with
    | some (.normal, ts', ds', s') => e.ex ro (.loop a) ts' ds' s'
    | r => r
  | .rangeF f params assign body => match evOf ts f with
    | some fv => rangeA e ro fv params assign body ts ds s
    | none => none
  | .exit id => some (.exit id, ts, ds, s)
  | .ret => some (.ret, ts, ds, s)

def takeAll : List Nat → St → Option St
  | [], s => some s
  | d :: r, s => match s.get d with
    | some .defd => takeAll r (s.drop d)
    | _ => none

def resA (ts : Tr AV) (s : St) : PRes → Option AV
  | .tmp t => ts.get t
  | .cell1 t => match ts.get t with
    | some (.ptr b o) => match s.get b with
      | some (.cells vs _ _ _) => vs[o]?
      | _ => none
    | _ => none
  | .cellN n t => match ts.get t with
    | some (.ptr b o) => match loadA s b o n with
      | some l => some (.agg l)
      | none => none
    | _ => none

def ressA (ts : Tr AV) (s : St) : List PRes → Option (List AV)
  | [] => some []
  | r :: l => match resA ts s r with
    | none => none
    | some v => match ressA ts s l with
      | none => none
      | some vs => some (v :: vs)

def oneA : List AV → AV
  | [v] => v
  | l => .tup l

abbrev Fns := Nat → Option FD
/-- What is known of functions by their contracts. -/
abbrev Sums := Nat → Option (List AV → St → Option (AV × St))

def finish (fd : FD) (r : Res) : Option (AV × St) :=
  match r with
  | some (.exit _, _, _, _) => none
  | some (_, ts, ds, s) => match takeAll ds s with
    | none => none
    | some s' => match ressA ts s' fd.results with
      | none => none
      | some l => some (oneA l, s')
  | none => none

def callStep (FT : Fns) (SM : Sums) (e : Eng) (f : Nat) (args : List AV) (s : St) : Option (AV × St) :=
  match SM f with
  | some g => g args s
  | none => match FT f with
    | none => none
    | some fd => if Nat.ble args.length fd.ntmps then finish fd (e.ex none fd.body (initT 0 args .lf) [] s) else none

/-- The machine, with so much at hand. -/
def eng (FT : Fns) (SM : Sums) : Nat → Eng
  | 0 => ⟨fun _ _ _ => none, fun _ _ _ _ _ => none⟩
  | n + 1 => ⟨callStep FT SM (eng FT SM n), exStep (eng FT SM n)⟩
end
end Go.Proofs.Yteffppdkofdmdaa.D
