/- The abstract machine once more, in a form that the kernel carries out with less work; and that it is the same. -/
import Derived.Test.YteiiblpnegjjlaaGreatZa
namespace Go.Proofs.YteiiblpnegjjlaaGreat.D
noncomputable section
set_option linter.unusedSimpArgs false
set_option linter.unusedVariables false

def pureA (s : St) (v : Option AV) : Option (AV × St) := match v with
  | some v => some (v, s)
  | none => none

def x_move (x : X) (ev : Ev) (s : St) : Option (AV × St) :=
  pureA s (ev x)

def x_pick (c : X) (a : X) (b : X) (ev : Ev) (s : St) : Option (AV × St) :=
  match ev c with
    | some (.bool true) => pureA s (ev a)
    | some (.bool false) => pureA s (ev b)
    | _ => none

def x_alloc (z : List AV) (_ : Ev) (s : St) : Option (AV × St) :=
  newA s (.cells z false false 0) (.ptr s.next 0)

def x_box (x : X) (ev : Ev) (s : St) : Option (AV × St) :=
  match ev x with
    | some v => newA s (.cells v.cells false false 0) (.ptr s.next 0)
    | none => none

def x_build (z : List AV) (parts : List (Nat × Nat × X)) (ev : Ev) (s : St) : Option (AV × St) :=
  match fillA ev z parts with
    | some l => some (.agg l, s)
    | none => none

def x_buildSlice (z : List AV) (n : Nat) (parts : List (Nat × Nat × X)) (_u3 : Nat) (ev : Ev) (s : St) : Option (AV × St) :=
  match fillA ev z parts with
    | some l => newA s (.cells l false false 0) (.slice s.next 0 n n false)
    | none => none

def x_load1 (a : X) (ev : Ev) (s : St) : Option (AV × St) :=
  match ev a with
    | some (.ptr b o) => match s.get b with
      | some (.cells vs _ _ _) => pureA s vs[o]?
      | _ => none
    | _ => none

def x_loadN (n : Nat) (a : X) (ev : Ev) (s : St) : Option (AV × St) :=
  match ev a with
    | some (.ptr b o) => match loadA s b o n with
      | some l => some (.agg l, s)
      | none => none
    | _ => none

def x_store (n : Nat) (a : X) (v : X) (ev : Ev) (s : St) : Option (AV × St) :=
  match ev a, ev v with
    | some (.ptr b o), some v => if v.cells.length = n then match storeA s b o v.cells with
        | some s' => some (undefA, s')
        | none => none
      else none
    | _, _ => none

def x_nilCheck (x : X) (ev : Ev) (s : St) : Option (AV × St) :=
  match ev x with
    | some (.ptr b o) => some (.ptr b o, s)
    | some (.fn (.func f) a c) => some (.fn (.func f) a c, s)
    | some (.yld r) => some (.yld r, s)
    | _ => none

def x_bin (op : BinOp) (e : EqK) (x : X) (y : X) (ev : Ev) (s : St) : Option (AV × St) :=
  match ev x, ev y with
    | some a, some b => pureA s (binA op e a b)
    | _, _ => none

def x_un (op : UnOp) (x : X) (ev : Ev) (s : St) : Option (AV × St) :=
  match ev x with
    | some a => pureA s (unA op a)
    | none => none

def x_convInt (k : IntKind) (x : X) (ev : Ev) (s : St) : Option (AV × St) :=
  match ev x with
    | some (.int _ n) => some (.int k (k.wrap n), s)
    | _ => none

def x_convSame (x : X) (ev : Ev) (s : St) : Option (AV × St) :=
  match ev x with
    | some (.str v) => some (.str v, s)
    | _ => none

def x_convStr (_u0 : Nat) (x : X) (ev : Ev) (s : St) : Option (AV × St) :=
  match ev x with
    | some (.str v) => newA s (.cells (v.data.toList.map fun c => .int .u8 c.toNat) true false 1) (.slice s.next 0 v.size v.size true)
    | _ => none

def x_convBytes (x : X) (ev : Ev) (s : St) : Option (AV × St) :=
  match ev x with
    | some .nilSlice => some (.str .empty, s)
    | some (.tail ..) => some (.str .empty, s)
    | some (.raw (.slice _ 0 _)) => some (.str .empty, s)
    | some (.slice _ _ 0 _ _) => some (.str .empty, s)
    | some (.slice b o len _ _) => match loadA s b o len with
      | some l => match bytesA l with
        | some bs => some (.str ⟨bs.toArray⟩, s)
        | none => none
      | none => none
    | _ => none

def x_mkIface (t : TypeId) (x : X) (ev : Ev) (s : St) : Option (AV × St) :=
  match ev x with
    | some v => some (.iface t v, s)
    | none => none

def x_mkFunc (f : Fn) (a : List X) (c : List X) (ev : Ev) (s : St) : Option (AV × St) :=
  match evs ev a, evs ev c with
    | some a, some c => some (.fn f a c, s)
    | _, _ => none

def x_mkMap  (_ : Ev) (s : St) : Option (AV × St) :=
  newA s (.map [] 0) (.map s.next)

def x_mkSlice (_u0 : Nat) (eb : Nat) (z : List AV) (l : X) (c : X) (ev : Ev) (s : St) : Option (AV × St) :=
  match ev l, ev c with
    | some (.int _ l), some (.int _ c) => if 0 ≤ l ∧ l ≤ c ∧ c < 2 ^ 40 ∧ (eb : Int) * c ≤ 2 ^ 46 then
        newA s (.cells (List.replicate c.toNat z).flatten false false 0) (.slice s.next 0 l.toNat c.toNat false) else none
    | _, _ => none

def x_sliceSl (e : Nat) (x : X) (lo : Option X) (hi : Option X) (mx : Option X) (ev : Ev) (s : St) : Option (AV × St) :=
  match ev x, evO ev lo, evO ev hi, evO ev mx with
    | some x, some lo, some hi, some mx => pureA s (sliceA e x lo hi mx)
    | _, _, _, _ => none

def x_sliceStr (x : X) (lo : Option X) (hi : Option X) (ev : Ev) (s : St) : Option (AV × St) :=
  match ev x, evO ev lo, evO ev hi with
    | some (.str v), some lo, some hi => match boundsA v.size v.size lo hi none with
      | some (l, h, _) => some (.str (v.extract l h), s)
      | none => none
    | _, _, _ => none

def x_sliceArr (n : Nat) (e : Nat) (x : X) (lo : Option X) (hi : Option X) (mx : Option X) (ev : Ev) (s : St) : Option (AV × St) :=
  match ev x, evO ev lo, evO ev hi, evO ev mx with
    | some (.ptr b o), some lo, some hi, some mx => match boundsA n n lo hi mx with
      | some (l, h, m) => some (.slice b (if m = l then o else o + l * e) (h - l) (m - l) false, s)
      | none => none
    | _, _, _, _ => none

def x_fieldAddr (off : Nat) (x : X) (ev : Ev) (s : St) : Option (AV × St) :=
  match ev x with
    | some (.ptr b o) => some (.ptr b (o + off), s)
    | _ => none

def x_field (off : Nat) (n : Option Nat) (x : X) (ev : Ev) (s : St) : Option (AV × St) :=
  match ev x with
    | some (.agg l) => pureA s (partA n l off)
    | _ => none

def x_idxArr (len : Nat) (e : Nat) (x : X) (i : X) (ev : Ev) (s : St) : Option (AV × St) :=
  match ev x, ev i with
    | some (.ptr b o), some i => match indexA i len with
      | some k => some (.ptr b (o + k * e), s)
      | none => none
    | _, _ => none

def x_idxSl (e : Nat) (x : X) (i : X) (ev : Ev) (s : St) : Option (AV × St) :=
  match ev x, ev i with
    | some (.slice b o len _ _), some i => match indexA i len with
      | some k => some (.ptr b (o + k * e), s)
      | none => none
    | _, _ => none

def x_idxAgg (len : Nat) (e : Nat) (g : Bool) (x : X) (i : X) (ev : Ev) (s : St) : Option (AV × St) :=
  match ev x, ev i with
    | some (.agg l), some i => match indexA i len with
      | some k => pureA s (partA (if g then some e else none) l (k * e))
      | none => none
    | _, _ => none

def x_idxStr (x : X) (i : X) (ev : Ev) (s : St) : Option (AV × St) :=
  match ev x, ev i with
    | some (.str v), some i => match indexA i v.size with
      | some k => match v[k]? with
        | some c => some (.int .u8 c.toNat, s)
        | none => none
      | none => none
    | _, _ => none

def x_lookup (z : AV) (m : X) (k : X) (ok : Bool) (ev : Ev) (s : St) : Option (AV × St) :=
  match ev m, ev k with
    | some .nilMap, some (.int _ _) => some (if ok then .tup [z, .bool false] else z, s)
    | some (.map r), some (.int kk a) => match s.get r with
      | some (.map es _) => match findA kk a es 0 with
        | some (some (_, v)) => some (if ok then .tup [v, .bool true] else v, s)
        | some none => some (if ok then .tup [z, .bool false] else z, s)
        | none => none
      | _ => none
    | _, _ => none

def x_mapUpd (m : X) (k : X) (v : X) (ev : Ev) (s : St) : Option (AV × St) :=
  match ev m, ev k, ev v with
    | some (.map r), some (.int kk a), some v => match s.get r with
      | some (.map es cl) => match findA kk a es 0 with
        | some (some (i, _)) => some (undefA, s.put r (.map (es.modify i fun e => (.int kk a, v, e.2.2)) cl))
        | some none => some (undefA, s.put r (.map (es ++ [(.int kk a, v, cl)]) (cl + 1)))
        | none => none
      | _ => none
    | _, _, _ => none

def x_extract (x : X) (i : Nat) (ev : Ev) (s : St) : Option (AV × St) :=
  match ev x with
    | some (.tup l) => pureA s l[i]?
    | _ => none

def x_append (esz : Nat) (eb : Nat) (_u2 : List AV) (x : X) (y : X) (ev : Ev) (s : St) : Option (AV × St) :=
  match ev x, ev y with
    | some x, some y => match srcA s esz y with
      | some (n, l) => if l.length = n * esz then appendA esz eb s x n l else none
      | none => none
    | _, _ => none

def x_appendN (esz : Nat) (eb : Nat) (z : List AV) (x : X) (y : X) (ev : Ev) (s : St) : Option (AV × St) :=
  match ev x, ev y with
    | some x, some (.int _ k) => if 0 ≤ k ∧ k < 2 ^ 40 ∧ k.toNat * eb ≤ 2 ^ 46 then appendA esz eb s x k.toNat (List.replicate k.toNat z).flatten else none
    | _, _ => none

def x_copy (esz : Nat) (d : X) (x : X) (ev : Ev) (s : St) : Option (AV × St) :=
  match ev d, ev x with
    | some d, some x => match srcA s esz x with
      | none => none
      | some (n, l) => match d with
        | .nilSlice => some (.int .i64 0, s)
        | .tail .. => some (.int .i64 0, s)
        | .slice b o len _ _ => if min n len = 0 then some (.int .i64 0, s) else match storeA s b o (l.take (min n len * esz)) with
          | some s' => some (.int .i64 (min n len : Nat), s')
          | none => none
        | _ => none
    | _, _ => none

def x_lenArr (n : Nat) (_ : Ev) (s : St) : Option (AV × St) :=
  some (.int .i64 n, s)

def x_cap (x : X) (ev : Ev) (s : St) : Option (AV × St) :=
  match ev x with
    | some .nilSlice => some (.int .i64 0, s)
    | some (.slice _ _ _ c false) => some (.int .i64 c, s)
    | _ => none

def x_minmax (mx : Bool) (l : List X) (ev : Ev) (s : St) : Option (AV × St) :=
  match evs ev l with
    | some (v :: r) => pureA s (foldMM mx v r)
    | _ => none

def x_clearMap (x : X) (ev : Ev) (s : St) : Option (AV × St) :=
  match ev x with
    | some .nilMap => some (undefA, s)
    | some (.map r) => match s.get r with
      | some (.map _ cl) => some (undefA, s.put r (.map [] cl))
      | _ => none
    | _ => none

def x_clear (z : List AV) (x : X) (ev : Ev) (s : St) : Option (AV × St) :=
  match ev x with
    | some .nilSlice => some (undefA, s)
    | some (.tail ..) => some (undefA, s)
    | some (.slice b o n _ _) => if n = 0 then some (undefA, s) else match storeA s b o (List.replicate n z).flatten with
      | some s' => some (undefA, s')
      | none => none
    | _ => none

def x_delete (m : X) (k : X) (ev : Ev) (s : St) : Option (AV × St) :=
  match ev m, ev k with
    | some .nilMap, some (.int _ _) => some (undefA, s)
    | some (.map r), some (.int kk a) => match s.get r with
      | some (.map es cl) => match findA kk a es 0 with
        | some (some (i, _)) => some (undefA, s.put r (.map (es.eraseIdx i) cl))
        | some none => some (undefA, s)
        | none => none
      | _ => none
    | _, _ => none

def x_call (_a0 : X) (_a1 : List X) (_ : Ev) (_ : St) : Option (AV × St) :=
  none

def x_range (x : X) (ev : Ev) (s : St) : Option (AV × St) :=
  match ev x with
    | some .nilMap => newA s (.miter none 0 [] 0) (.ptr s.next 0)
    | some (.map r) => match s.get r with
      | some (.map _ clock) => newA s (.miter (some r) clock [] clock) (.ptr s.next 0)
      | _ => none
    | _ => none

def x_next (x : X) (ev : Ev) (s : St) : Option (AV × St) :=
  match ev x with
    | some (.ptr b 0) => match s.get b with
      | some (.miter (some r) since seen last) => match s.get r with
        | some (.map es _) => match es.all (fun e => Nat.blt e.2.2 since && seen.contains e.2.2) && Nat.ble since last with
          | true => some (.tup [.bool false], s)
          | false => none
        | _ => none
      | _ => none
    | _ => none

def x_entry (x : X) (ev : Ev) (s : St) : Option (AV × St) :=
  match ev x with
    | some (.ptr b 0) => match s.get b with
      | some (.miter (some r) _ seen last) => match s.get r with
        | some (.map es clock) => if clock = last then match seen.getLast? with
            | some k => match es.find? (fun e => e.2.2 == k) with
              | some e => some (.tup [e.1, e.2.1], s)
              | none => none
            | none => none
          else none
        | _ => none
      | _ => none
    | _ => none

def x_fail  (_ : Ev) (_ : St) : Option (AV × St) :=
  none

def x_len0 (x : X) (ev : Ev) (s : St) : Option (AV × St) :=
  match ev x with
    | some (.str v) => some (.int .i64 v.size, s)
    | _ => none

def x_len1 (x : X) (ev : Ev) (s : St) : Option (AV × St) :=
  match ev x with
    | some .nilSlice => some (.int .i64 0, s)
    | some (.tail ..) => some (.int .i64 0, s)
    | some (.slice _ _ n _ _) => some (.int .i64 n, s)
    | some (.raw (.slice _ n _)) => some (.int .i64 n, s)
    | _ => none

def x_len2 (x : X) (ev : Ev) (s : St) : Option (AV × St) :=
  match ev x with
    | some .nilMap => some (.int .i64 0, s)
    | some (.map r) => match s.get r with
      | some (.map es _) => some (.int .i64 es.length, s)
      | _ => none
    | _ => none

def x_len (k : Nat) : X → Ev → St → Option (AV × St) :=
  match Nat.beq k 0 with
  | true => x_len0
  | false => match Nat.beq k 1 with
    | true => x_len1
    | false => x_len2

/-- What an operation does: no operand is looked at ahead of the operation's name. -/
def xopF (p : POp) : Ev → St → Option (AV × St) :=
  match p with
  | .move a0 => x_move a0
  | .pick a0 a1 a2 => x_pick a0 a1 a2
  | .alloc a0 => x_alloc a0
  | .box a0 => x_box a0
  | .build a0 a1 => x_build a0 a1
  | .buildSlice a0 a1 a2 a3 => x_buildSlice a0 a1 a2 a3
  | .load1 a0 => x_load1 a0
  | .loadN a0 a1 => x_loadN a0 a1
  | .store a0 a1 a2 => x_store a0 a1 a2
  | .nilCheck a0 => x_nilCheck a0
  | .bin a0 a1 a2 a3 => x_bin a0 a1 a2 a3
  | .un a0 a1 => x_un a0 a1
  | .convInt a0 a1 => x_convInt a0 a1
  | .convSame a0 => x_convSame a0
  | .convStr a0 a1 => x_convStr a0 a1
  | .convBytes a0 => x_convBytes a0
  | .mkIface a0 a1 => x_mkIface a0 a1
  | .mkFunc a0 a1 a2 => x_mkFunc a0 a1 a2
  | .mkMap => x_mkMap
  | .mkSlice a0 a1 a2 a3 a4 => x_mkSlice a0 a1 a2 a3 a4
  | .sliceSl a0 a1 a2 a3 a4 => x_sliceSl a0 a1 a2 a3 a4
  | .sliceStr a0 a1 a2 => x_sliceStr a0 a1 a2
  | .sliceArr a0 a1 a2 a3 a4 a5 => x_sliceArr a0 a1 a2 a3 a4 a5
  | .fieldAddr a0 a1 => x_fieldAddr a0 a1
  | .field a0 a1 a2 => x_field a0 a1 a2
  | .idxArr a0 a1 a2 a3 => x_idxArr a0 a1 a2 a3
  | .idxSl a0 a1 a2 => x_idxSl a0 a1 a2
  | .idxAgg a0 a1 a2 a3 a4 => x_idxAgg a0 a1 a2 a3 a4
  | .idxStr a0 a1 => x_idxStr a0 a1
  | .lookup a0 a1 a2 a3 => x_lookup a0 a1 a2 a3
  | .mapUpd a0 a1 a2 => x_mapUpd a0 a1 a2
  | .extract a0 a1 => x_extract a0 a1
  | .append a0 a1 a2 a3 a4 => x_append a0 a1 a2 a3 a4
  | .appendN a0 a1 a2 a3 a4 => x_appendN a0 a1 a2 a3 a4
  | .copy a0 a1 a2 => x_copy a0 a1 a2
  | .lenArr a0 => x_lenArr a0
  | .cap a0 => x_cap a0
  | .minmax a0 a1 => x_minmax a0 a1
  | .clearMap a0 => x_clearMap a0
  | .clear a0 a1 => x_clear a0 a1
  | .delete a0 a1 => x_delete a0 a1
  | .call a0 a1 => x_call a0 a1
  | .range a0 => x_range a0
  | .next a0 => x_next a0
  | .entry a0 => x_entry a0
  | .fail => x_fail
  | .len a0 a1 => x_len a0 a1

theorem xopF_eq (p : POp) (ev : Ev) (s : St) : xopF p ev s = xop p ev s := by
  cases p
  case len k x =>
    show x_len k x ev s = _
    unfold x_len
    cases k with
    | zero => rfl
    | succ k => cases k with
      | zero => rfl
      | succ k => rfl
  all_goals rfl

def evsF (ev : Ev) (l : List X) : Option (List AV) :=
  List.rec (motive := fun _ => Option (List AV)) (some []) (fun x _ ih => match ev x with
    | some v => match ih with
      | some l => some (v :: l)
      | none => none
    | none => none) l
theorem evsF_eq (ev : Ev) : ∀ l, evsF ev l = evs ev l
  | [] => rfl
  | x :: r => by
    show (match ev x with | some v => (match evsF ev r with | some l => some (v :: l) | none => none) | none => none) = _
    rw [evsF_eq ev r]; rfl

def initTF (l : List AV) : Nat → Tr AV → Tr AV :=
  List.rec (motive := fun _ => Nat → Tr AV → Tr AV) (fun _ ts => ts) (fun a _ ih i ts => ih (i + 1) (ts.set i a)) l
theorem initTF_eq : ∀ (l : List AV) (i : Nat) (ts : Tr AV), initTF l i ts = initT i l ts
  | [], _, _ => rfl
  | a :: l, i, ts => initTF_eq l (i + 1) (ts.set i a)

def takeAllF (l : List Nat) : St → Option St :=
  List.rec (motive := fun _ => St → Option St) (fun s => some s) (fun d _ ih s => match s.get d with
    | some .defd => ih (s.drop d)
    | _ => none) l
theorem takeAllF_eq : ∀ (l : List Nat) (s : St), takeAllF l s = takeAll l s
  | [], _ => rfl
  | d :: l, s => by
    show (match s.get d with | some .defd => takeAllF l (s.drop d) | _ => none) = _
    rw [takeAllF_eq l]; rfl

def ressAF (ts : Tr AV) (s : St) (l : List PRes) : Option (List AV) :=
  List.rec (motive := fun _ => Option (List AV)) (some []) (fun r _ ih => match resA ts s r with
    | none => none
    | some v => match ih with
      | none => none
      | some vs => some (v :: vs)) l
theorem ressAF_eq (ts : Tr AV) (s : St) : ∀ l, ressAF ts s l = ressA ts s l
  | [] => rfl
  | r :: l => by
    show (match resA ts s r with | none => none | some v => (match ressAF ts s l with | none => none | some vs => some (v :: vs))) = _
    rw [ressAF_eq ts s l]; rfl

def x_callE (e : Eng) (f : X) (args : List X) (ev : Ev) (s : St) : Option (AV × St) :=
  match ev f with
  | none => none
  | some fv => match evsF ev args with
    | none => none
    | some l => callV e fv l s

/-- An operation, its name looked at: what it does. -/
inductive Did where
  | mk (f : Ev → St → Option (AV × St))
  | call (f : X) (args : List X)

/-- Two numbers. -/
def two (x y : X) (f : IntKind → Int → Int → Option AV) (g : AV → AV → Option AV) (ev : Ev) (s : St) : Option (AV × St) :=
  match ev x with
  | none => none
  | some a => match ev y with
    | none => none
    | some b => match a with
      | .int k m => match b with
        | .int k' n => if k = k' then pureA s (f k m n) else none
        | _ => pureA s (g a b)
      | _ => pureA s (g a b)

def fAdd (k : IntKind) (a b : Int) : Option AV := some (.int k (wrapF k (a + b)))
def fSub (k : IntKind) (a b : Int) : Option AV := some (.int k (wrapF k (a - b)))
def fMul (k : IntKind) (a b : Int) : Option AV := some (.int k (wrapF k (a * b)))
theorem fAdd_eq : fAdd = intBin .add := by funext k a b; simp only [fAdd, intBin, wrapF_eq]
theorem fSub_eq : fSub = intBin .sub := by funext k a b; simp only [fSub, intBin, wrapF_eq]
theorem fMul_eq : fMul = intBin .mul := by funext k a b; simp only [fMul, intBin, wrapF_eq]
def fLss (_ : IntKind) (a b : Int) : Option AV := some (.bool (ltF a b))
def fGtr (_ : IntKind) (a b : Int) : Option AV := some (.bool (ltF b a))
def fLeq (_ : IntKind) (a b : Int) : Option AV := some (.bool (!ltF b a))
def fGeq (_ : IntKind) (a b : Int) : Option AV := some (.bool (!ltF a b))
def fEql (_ : IntKind) (a b : Int) : Option AV := some (.bool (eqF a b))
def fNeq (_ : IntKind) (a b : Int) : Option AV := some (.bool (!eqF a b))
theorem not_lt_le (a b : Int) : (!decide (b < a)) = decide (a ≤ b) := by
  apply Bool.eq_iff_iff.2
  simp
theorem fLss_eq : fLss = intBin .lss := by funext k a b; simp only [fLss, intBin, ltF_eq]
theorem fGtr_eq : fGtr = intBin .gtr := by funext k a b; simp only [fGtr, intBin, ltF_eq, gt_iff_lt]
theorem fLeq_eq : fLeq = intBin .leq := by funext k a b; simp only [fLeq, intBin, ltF_eq, not_lt_le]
theorem fGeq_eq : fGeq = intBin .geq := by funext k a b; simp only [fGeq, intBin, ltF_eq, not_lt_le, ge_iff_le]
theorem fEql_eq : fEql = intBin .eql := by funext k a b; simp only [fEql, intBin, eqF_eq]
theorem fNeq_eq : fNeq = intBin .neq := by funext k a b; simp only [fNeq, intBin, eqF_eq, bne]
def x_convIntF (k : IntKind) (x : X) (ev : Ev) (s : St) : Option (AV × St) :=
  match ev x with
  | some (.int _ n) => some (.int k (wrapF k n), s)
  | _ => none
theorem x_convIntF_eq (k : IntKind) (x : X) (ev : Ev) (s : St) : x_convIntF k x ev s = x_convInt k x ev s := by
  unfold x_convIntF x_convInt
  simp only [wrapF_eq]

def binF (op : BinOp) (e : EqK) (x y : X) : Ev → St → Option (AV × St) :=
  match op with
  | .shl => x_bin .shl e x y
  | .shr => x_bin .shr e x y
  | .add => two x y fAdd (binA .add e)
  | .sub => two x y fSub (binA .sub e)
  | .mul => two x y fMul (binA .mul e)
  | .quo => two x y (intBin .quo) (binA .quo e)
  | .rem => two x y (intBin .rem) (binA .rem e)
  | .and => two x y (intBin .and) (binA .and e)
  | .or => two x y (intBin .or) (binA .or e)
  | .xor => two x y (intBin .xor) (binA .xor e)
  | .andNot => two x y (intBin .andNot) (binA .andNot e)
  | .eql => two x y fEql (binA .eql e)
  | .neq => two x y fNeq (binA .neq e)
  | .lss => two x y fLss (binA .lss e)
  | .leq => two x y fLeq (binA .leq e)
  | .gtr => two x y fGtr (binA .gtr e)
  | .geq => two x y fGeq (binA .geq e)

theorem two_eq {op : BinOp} {e : EqK} (h1 : op ≠ .shl) (h2 : op ≠ .shr) (x y : X) (ev : Ev) (s : St) : two x y (intBin op) (binA op e) ev s = x_bin op e x y ev s := by
  unfold two x_bin
  cases ev x with
  | none => rfl
  | some a => cases ev y with
    | none => rfl
    | some b =>
      simp only []
      cases a with
      | int k m => cases b with
        | int k' n =>
          simp only []
          by_cases hk : k = k'
          · rw [if_pos hk]
            cases op <;> first | exact absurd rfl h1 | exact absurd rfl h2 | (simp only [binA, hk, if_true])
          · rw [if_neg hk]
            cases op <;> first | exact absurd rfl h1 | exact absurd rfl h2 | (simp only [binA, hk, if_false]; rfl)
        | _ => rfl
      | _ => rfl

theorem binF_eq (op : BinOp) (e : EqK) (x y : X) (ev : Ev) (s : St) : binF op e x y ev s = x_bin op e x y ev s := by
  cases op
  case shl => rfl
  case shr => rfl
  case add => show two x y fAdd _ ev s = _; rw [fAdd_eq]; exact two_eq (by simp) (by simp) x y ev s
  case sub => show two x y fSub _ ev s = _; rw [fSub_eq]; exact two_eq (by simp) (by simp) x y ev s
  case lss => show two x y fLss _ ev s = _; rw [fLss_eq]; exact two_eq (by simp) (by simp) x y ev s
  case gtr => show two x y fGtr _ ev s = _; rw [fGtr_eq]; exact two_eq (by simp) (by simp) x y ev s
  case leq => show two x y fLeq _ ev s = _; rw [fLeq_eq]; exact two_eq (by simp) (by simp) x y ev s
  case geq => show two x y fGeq _ ev s = _; rw [fGeq_eq]; exact two_eq (by simp) (by simp) x y ev s
  case eql => show two x y fEql _ ev s = _; rw [fEql_eq]; exact two_eq (by simp) (by simp) x y ev s
  case neq => show two x y fNeq _ ev s = _; rw [fNeq_eq]; exact two_eq (by simp) (by simp) x y ev s
  case mul => show two x y fMul _ ev s = _; rw [fMul_eq]; exact two_eq (by simp) (by simp) x y ev s
  all_goals exact two_eq (by simp) (by simp) x y ev s

/- Rows of cells: walked no further than needed. -/
def getF (l : List AV) : Nat → Option AV :=
  List.rec (motive := fun _ => Nat → Option AV) (fun _ => none) (fun a _ ih k => Nat.rec (motive := fun _ => Option AV) (some a) (fun k _ => ih k) k) l
theorem getF_eq : ∀ (l : List AV) (k : Nat), getF l k = l[k]?
  | [], _ => rfl
  | _ :: _, 0 => rfl
  | a :: l, k + 1 => by
    show getF l k = _
    rw [getF_eq l k, List.getElem?_cons_succ]
def dropF (l : List AV) : Nat → List AV :=
  List.rec (motive := fun _ => Nat → List AV) (fun _ => []) (fun a r ih k => Nat.rec (motive := fun _ => List AV) (a :: r) (fun k _ => ih k) k) l
theorem dropF_eq : ∀ (l : List AV) (k : Nat), dropF l k = l.drop k
  | [], k => by show [] = _; simp
  | _ :: _, 0 => rfl
  | a :: l, k + 1 => by
    show dropF l k = _
    rw [dropF_eq l k, List.drop_succ_cons]
def takeL (l : List AV) : Nat → List AV :=
  List.rec (motive := fun _ => Nat → List AV) (fun _ => []) (fun a _ ih k => Nat.rec (motive := fun _ => List AV) [] (fun k _ => a :: ih k) k) l
theorem takeL_eq : ∀ (l : List AV) (k : Nat), takeL l k = l.take k
  | [], k => by show [] = _; simp
  | _ :: _, 0 => rfl
  | a :: l, k + 1 => by
    show a :: takeL l k = _
    rw [takeL_eq l k, List.take_succ_cons]
def hasF (l : List AV) : Nat → Bool :=
  List.rec (motive := fun _ => Nat → Bool) (fun k => Nat.rec (motive := fun _ => Bool) true (fun _ _ => false) k) (fun _ _ ih k => Nat.rec (motive := fun _ => Bool) true (fun k _ => ih k) k) l
theorem hasF_eq : ∀ (l : List AV) (k : Nat), hasF l k = decide (k ≤ l.length)
  | [], 0 => rfl
  | [], k + 1 => by
    show false = _
    simp
  | _ :: _, 0 => by
    show true = _
    simp
  | a :: l, k + 1 => by
    show hasF l k = _
    rw [hasF_eq l k]
    simp
def lenF (l : List AV) : Nat → Bool :=
  List.rec (motive := fun _ => Nat → Bool) (fun k => Nat.rec (motive := fun _ => Bool) true (fun _ _ => false) k) (fun _ _ ih k => Nat.rec (motive := fun _ => Bool) false (fun k _ => ih k) k) l
theorem lenF_eq : ∀ (l : List AV) (k : Nat), lenF l k = decide (l.length = k)
  | [], 0 => rfl
  | [], k + 1 => by
    show false = _
    simp
  | _ :: _, 0 => by
    show false = _
    simp
  | a :: l, k + 1 => by
    show lenF l k = _
    rw [lenF_eq l k]
    simp
def chk (l : List AV) : List AV → Bool :=
  List.rec (motive := fun _ => List AV → Bool) (fun _ => true) (fun x _ ih ys => Bool.rec (motive := fun _ => Bool) false (List.rec (motive := fun _ => Bool) false (fun _ r _ => ih r) ys) x.cell) l
theorem chk_eq : ∀ (l ys : List AV), chk l ys = (allCell l && decide (l.length ≤ ys.length))
  | [], ys => by
    show true = _
    simp [allCell]
  | x :: l, ys => by
    show Bool.rec (motive := fun _ => Bool) false (List.rec (motive := fun _ => Bool) false (fun _ r _ => chk l r) ys) x.cell = _
    cases hx : x.cell with
    | false => simp [allCell, hx]
    | true => cases ys with
      | nil => simp
      | cons y r =>
        show chk l r = _
        rw [chk_eq l r]
        simp [allCell, hx]
/-- 0: no; 1: there is more behind; 2: just as many. -/
def chk2 (l : List AV) : List AV → Nat :=
  List.rec (motive := fun _ => List AV → Nat) (fun ys => List.rec (motive := fun _ => Nat) 2 (fun _ _ _ => 1) ys) (fun x _ ih ys => Bool.rec (motive := fun _ => Nat) 0 (List.rec (motive := fun _ => Nat) 0 (fun _ r _ => ih r) ys) x.cell) l
theorem chk2_eq : ∀ (l ys : List AV), chk2 l ys = if (allCell l && decide (l.length ≤ ys.length)) = true then (if l.length = ys.length then 2 else 1) else 0
  | [], [] => rfl
  | [], y :: r => by
    show 1 = _
    simp [allCell]
  | x :: l, ys => by
    show Bool.rec (motive := fun _ => Nat) 0 (List.rec (motive := fun _ => Nat) 0 (fun _ r _ => chk2 l r) ys) x.cell = _
    cases hx : x.cell with
    | false => simp [allCell, hx]
    | true => cases ys with
      | nil => simp
      | cons y r =>
        show chk2 l r = _
        rw [chk2_eq l r]
        simp [allCell, hx]
def overF (l : List AV) : List AV → List AV :=
  List.rec (motive := fun _ => List AV → List AV) (fun ys => ys) (fun x _ ih ys => x :: ih (List.rec (motive := fun _ => List AV) [] (fun _ r _ => r) ys)) l
theorem overF_eq : ∀ (l ys : List AV), overF l ys = l ++ ys.drop l.length
  | [], ys => rfl
  | x :: l, ys => by
    show x :: overF l _ = _
    rw [overF_eq l]
    cases ys <;> simp
def spliceF (l : List AV) (vs : List AV) : Nat → List AV :=
  List.rec (motive := fun _ => Nat → List AV) (fun _ => overF l []) (fun y r ih k => Nat.rec (motive := fun _ => List AV) (overF l (y :: r)) (fun k _ => y :: ih k) k) vs
theorem spliceF_eq (l : List AV) : ∀ (vs : List AV) (k : Nat), spliceF l vs k = splice vs k l
  | [], k => by
    show overF l [] = _
    rw [overF_eq]
    simp [splice]
  | y :: r, 0 => by
    show overF l (y :: r) = _
    rw [overF_eq]
    simp [splice]
  | y :: r, k + 1 => by
    show y :: spliceF l r k = _
    rw [spliceF_eq l r k]
    simp [splice, Nat.add_right_comm]
def appF (l : List AV) (m : List AV) : List AV :=
  List.rec (motive := fun _ => List AV) m (fun x _ ih => x :: ih) l
theorem appF_eq : ∀ (l m : List AV), appF l m = l ++ m
  | [], _ => rfl
  | x :: l, m => by
    show x :: appF l m = _
    rw [appF_eq l m]; rfl

def ldF (d : List AV) (n : Nat) : Option (List AV) := match lenF d n with
  | true => some d
  | false => match hasF d n with
    | true => some (takeL d n)
    | false => none
theorem ldF_eq (d : List AV) (n : Nat) : ldF d n = if n ≤ d.length then some (d.take n) else none := by
  unfold ldF
  rw [lenF_eq, hasF_eq, takeL_eq]
  by_cases h : d.length = n
  · rw [decide_eq_true h, if_pos (by omega), ← h, List.take_length]
  · rw [decide_eq_false h]
    by_cases h2 : n ≤ d.length
    · rw [decide_eq_true h2, if_pos h2]
    · rw [decide_eq_false h2, if_neg h2]
def loadAF (s : St) (b o n : Nat) : Option (List AV) := match s.get b with
  | some (.cells vs _ _ _) => match n with
    | 0 => if o ≤ vs.length then some [] else none
    | n + 1 => ldF (dropF vs o) (n + 1)
  | _ => none
theorem loadAF_eq (s : St) (b o n : Nat) : loadAF s b o n = loadA s b o n := by
  unfold loadAF loadA
  split
  · rename_i vs _ _ _ hg
    rw [hg]
    dsimp only
    cases n with
    | zero => simp
    | succ n =>
      dsimp only
      rw [ldF_eq, dropF_eq, List.length_drop]
      by_cases h : o + (n + 1) ≤ vs.length
      · rw [if_pos h, if_pos (by omega)]
      · rw [if_neg h, if_neg (by omega)]
  · rename_i hn
    split
    · rename_i hg; exact (hn _ _ _ _ hg).elim
    · rfl
def storeAF (s : St) (b o : Nat) (l : List AV) : Option St := match s.get b with
  | some (.cells vs lo false z) => match l with
    | [] => if o ≤ vs.length then some (s.put b (.cells (splice vs o []) lo false z)) else none
    | x :: r => match chk2 (x :: r) (dropF vs o) with
      | 0 => none
      | 1 => some (s.put b (.cells (spliceF (x :: r) vs o) lo false z))
      | _ => some (s.put b (.cells (appF (takeL vs o) (x :: r)) lo false z))
  | _ => none
theorem storeAF_eq (s : St) (b o : Nat) (l : List AV) : storeAF s b o l = storeA s b o l := by
  unfold storeAF storeA
  split
  · rename_i vs lo z hg
    rw [hg]
    dsimp only
    cases l with
    | nil => simp [allCell]
    | cons x r =>
      dsimp only
      rw [chk2_eq, dropF_eq, spliceF_eq, List.length_drop]
      by_cases h : o + (x :: r).length ≤ vs.length ∧ allCell (x :: r) = true
      · rw [if_pos h, h.2, show decide ((x :: r).length ≤ vs.length - o) = true by rw [decide_eq_true_eq]; omega]
        by_cases h2 : (x :: r).length = vs.length - o
        · rw [Bool.and_self, if_pos rfl, if_pos h2]
          show some (s.put b (.cells (appF (takeL vs o) (x :: r)) lo false z)) = _
          rw [appF_eq, takeL_eq]
          unfold splice
          rw [List.drop_eq_nil_of_le (by omega), List.append_nil]
        · rw [Bool.and_self, if_pos rfl, if_neg h2]
          rfl
      · rw [if_neg h]
        have : (allCell (x :: r) && decide ((x :: r).length ≤ vs.length - o)) = false := by
          rw [Bool.and_eq_false_iff, decide_eq_false_iff_not]
          by_cases hc : allCell (x :: r) = true
          · right
            have hl : 0 < (x :: r).length := Nat.succ_pos _
            intro h2
            exact h ⟨by omega, hc⟩
          · left; simpa using hc
        rw [this]
        rfl
  · rename_i hn
    split
    · rename_i hg; exact (hn _ _ _ hg).elim
    · rfl

def x_load1F (a : X) (ev : Ev) (s : St) : Option (AV × St) :=
  match ev a with
    | some (.ptr b o) => match s.get b with
      | some (.cells vs _ _ _) => pureA s (getF vs o)
      | _ => none
    | _ => none
theorem x_load1F_eq (a : X) (ev : Ev) (s : St) : x_load1F a ev s = x_load1 a ev s := by
  unfold x_load1F x_load1
  simp only [getF_eq]
def x_loadNF (n : Nat) (a : X) (ev : Ev) (s : St) : Option (AV × St) :=
  match ev a with
    | some (.ptr b o) => match loadAF s b o n with
      | some l => some (.agg l, s)
      | none => none
    | _ => none
theorem x_loadNF_eq (n : Nat) (a : X) (ev : Ev) (s : St) : x_loadNF n a ev s = x_loadN n a ev s := by
  unfold x_loadNF x_loadN
  simp only [loadAF_eq]
def x_storeF (n : Nat) (a : X) (v : X) (ev : Ev) (s : St) : Option (AV × St) :=
  match ev a, ev v with
    | some (.ptr b o), some v => match lenF v.cells n with
      | true => match storeAF s b o v.cells with
        | some s' => some (undefA, s')
        | none => none
      | false => none
    | _, _ => none
theorem x_storeF_eq (n : Nat) (a v : X) (ev : Ev) (s : St) : x_storeF n a v ev s = x_store n a v ev s := by
  unfold x_storeF x_store
  simp only [storeAF_eq, lenF_eq]
  split
  · rename_i v _ _
    by_cases h : v.cells.length = n
    · rw [if_pos h, decide_eq_true h]
    · rw [if_neg h, decide_eq_false h]
  · rfl
def srcAF (s : St) (esz : Nat) : AV → Option (Nat × List AV)
  | .slice b o len _ _ => match loadAF s b o (len * esz) with
    | some l => some (len, l)
    | none => none
  | v => srcA s esz v
theorem srcAF_eq (s : St) (esz : Nat) (v : AV) : srcAF s esz v = srcA s esz v := by
  unfold srcAF
  split
  · rw [loadAF_eq]; rfl
  · rfl
def x_copyF (esz : Nat) (d : X) (x : X) (ev : Ev) (s : St) : Option (AV × St) :=
  match ev d, ev x with
    | some d, some x => match srcAF s esz x with
      | none => none
      | some (n, l) => match d with
        | .nilSlice => some (.int .i64 0, s)
        | .tail .. => some (.int .i64 0, s)
        | .slice b o len _ _ => if min n len = 0 then some (.int .i64 0, s) else match storeAF s b o (takeL l (min n len * esz)) with
          | some s' => some (.int .i64 (min n len : Nat), s')
          | none => none
        | _ => none
    | _, _ => none
theorem x_copyF_eq (esz : Nat) (d x : X) (ev : Ev) (s : St) : x_copyF esz d x ev s = x_copy esz d x ev s := by
  unfold x_copyF x_copy
  simp only [srcAF_eq, storeAF_eq, takeL_eq]
def appendAF (esz ebytes : Nat) (s : St) (x : AV) (n : Nat) (new : List AV) : Option (AV × St) :=
  match x with
  | .nilSlice => if n = 0 then some (.nilSlice, s) else if n * ebytes ≤ 2 ^ 46 then newA s (.cells new true false esz) (.slice s.next 0 n n true) else none
  | .slice b o len cap loose =>
    if len + n ≤ cap then
      if n = 0 then some (.slice b o len cap loose, s) else
      match storeAF s b (o + len * esz) new with
      | some s' => some (.slice b o (len + n) cap loose, s')
      | none => none
    else if (len + n) * ebytes ≤ 2 ^ 46 then
      match loadAF s b o (len * esz) with
      | none => none
      | some old =>
        if loose then
          if o = 0 then
            match s.get b with
            | some (.cells vs true false z) => if z = esz ∧ lenF vs (cap * esz) = true ∧ allCell new = true then
                some (.slice s.next 0 (len + n) (len + n) true, (s.drop b).new (.cells (appF old new) true false esz)) else none
            | _ => none
          else none
        else newA s (.cells (appF old new) true false esz) (.slice s.next 0 (len + n) (len + n) true)
    else none
  | _ => none
theorem appendAF_eq (esz eb : Nat) (s : St) (x : AV) (n : Nat) (new : List AV) : appendAF esz eb s x n new = appendA esz eb s x n new := by
  unfold appendAF appendA
  simp only [storeAF_eq, loadAF_eq, appF_eq, lenF_eq]
  cases x with
  | slice b o len cap loose =>
    dsimp only
    refine ite_congr rfl (fun _ => rfl) fun _ => ite_congr rfl (fun _ => ?_) fun _ => rfl
    cases loadA s b o (len * esz) with
    | none => rfl
    | some old =>
      dsimp only
      refine ite_congr rfl (fun _ => ite_congr rfl (fun _ => ?_) fun _ => rfl) fun _ => rfl
      split
      · rename_i hg
        rw [hg]
        exact ite_congr (by simp only [decide_eq_true_eq]) (fun _ => rfl) fun _ => rfl
      · rename_i hn
        split
        · rename_i hg; exact (hn _ _ hg).elim
        · rfl
  | _ => rfl
def x_appendF (esz : Nat) (eb : Nat) (_u2 : List AV) (x : X) (y : X) (ev : Ev) (s : St) : Option (AV × St) :=
  match ev x, ev y with
    | some x, some y => match srcAF s esz y with
      | some (n, l) => match lenF l (n * esz) with
        | true => appendAF esz eb s x n l
        | false => none
      | none => none
    | _, _ => none
theorem x_appendF_eq (esz eb : Nat) (u : List AV) (x y : X) (ev : Ev) (s : St) : x_appendF esz eb u x y ev s = x_append esz eb u x y ev s := by
  unfold x_appendF x_append
  simp only [srcAF_eq, appendAF_eq, lenF_eq]
  split
  · split
    · rename_i n l _
      by_cases h : l.length = n * esz
      · rw [if_pos h, decide_eq_true h]
      · rw [if_neg h, decide_eq_false h]
    · rfl
  · rfl

/-- Looks at a value, made by the recursor itself with closed arms: the kernel keeps them. -/
noncomputable def toPtr (v : AV) : Option (Nat × Nat) :=
  AV.rec (motive_1 := fun _ => Option (Nat × Nat)) (motive_2 := fun _ => PUnit)
    (fun _ => none)
    (fun _ _ => none)
    (fun _ => none)
    (fun b o => some (b, o))
    (none)
    (fun _ _ _ _ _ => none)
    (none)
    (fun _ _ _ => none)
    (fun _ => none)
    (none)
    (fun _ _ _ _ _ => none)
    (fun _ => none)
    (none)
    (fun _ _ _ => none)
    (none)
    (fun _ _ => none)
    (fun _ _ => none)
    (fun _ => none)
    PUnit.unit (fun _ _ _ _ => PUnit.unit) v

/-- A number. -/
noncomputable def toInt (v : AV) : Option (IntKind × Int) :=
  AV.rec (motive_1 := fun _ => Option (IntKind × Int)) (motive_2 := fun _ => PUnit)
    (fun _ => none)
    (fun k n => some (k, n))
    (fun _ => none)
    (fun _ _ => none)
    (none)
    (fun _ _ _ _ _ => none)
    (none)
    (fun _ _ _ => none)
    (fun _ => none)
    (none)
    (fun _ _ _ _ _ => none)
    (fun _ => none)
    (none)
    (fun _ _ _ => none)
    (none)
    (fun _ _ => none)
    (fun _ _ => none)
    (fun _ => none)
    PUnit.unit (fun _ _ _ _ => PUnit.unit) v

/-- A bool. -/
noncomputable def toBool (v : AV) : Option Bool :=
  AV.rec (motive_1 := fun _ => Option Bool) (motive_2 := fun _ => PUnit)
    (fun b => some b)
    (fun _ _ => none)
    (fun _ => none)
    (fun _ _ => none)
    (none)
    (fun _ _ _ _ _ => none)
    (none)
    (fun _ _ _ => none)
    (fun _ => none)
    (none)
    (fun _ _ _ _ _ => none)
    (fun _ => none)
    (none)
    (fun _ _ _ => none)
    (none)
    (fun _ _ => none)
    (fun _ _ => none)
    (fun _ => none)
    PUnit.unit (fun _ _ _ _ => PUnit.unit) v

/-- Cells. -/
noncomputable def toAgg (v : AV) : Option (List AV) :=
  AV.rec (motive_1 := fun _ => Option (List AV)) (motive_2 := fun _ => PUnit)
    (fun _ => none)
    (fun _ _ => none)
    (fun _ => none)
    (fun _ _ => none)
    (none)
    (fun _ _ _ _ _ => none)
    (none)
    (fun _ _ _ => none)
    (fun _ => none)
    (none)
    (fun _ _ _ _ _ => none)
    (fun _ => none)
    (none)
    (fun _ _ _ => none)
    (none)
    (fun l _ => some l)
    (fun _ _ => none)
    (fun _ => none)
    PUnit.unit (fun _ _ _ _ => PUnit.unit) v

/-- Results. -/
noncomputable def toTup (v : AV) : Option (List AV) :=
  AV.rec (motive_1 := fun _ => Option (List AV)) (motive_2 := fun _ => PUnit)
    (fun _ => none)
    (fun _ _ => none)
    (fun _ => none)
    (fun _ _ => none)
    (none)
    (fun _ _ _ _ _ => none)
    (none)
    (fun _ _ _ => none)
    (fun _ => none)
    (none)
    (fun _ _ _ _ _ => none)
    (fun _ => none)
    (none)
    (fun _ _ _ => none)
    (none)
    (fun _ _ => none)
    (fun l _ => some l)
    (fun _ => none)
    PUnit.unit (fun _ _ _ _ => PUnit.unit) v

/-- A row. -/
noncomputable def toSl (v : AV) : Option (Nat × Nat × Nat) :=
  AV.rec (motive_1 := fun _ => Option (Nat × Nat × Nat)) (motive_2 := fun _ => PUnit)
    (fun _ => none)
    (fun _ _ => none)
    (fun _ => none)
    (fun _ _ => none)
    (none)
    (fun b o l _ _ => some (b, o, l))
    (none)
    (fun _ _ _ => none)
    (fun _ => none)
    (none)
    (fun _ _ _ _ _ => none)
    (fun _ => none)
    (none)
    (fun _ _ _ => none)
    (none)
    (fun _ _ => none)
    (fun _ _ => none)
    (fun _ => none)
    PUnit.unit (fun _ _ _ _ => PUnit.unit) v

/-- A function. -/
noncomputable def toFn (v : AV) : Option (Nat × List AV × List AV) :=
  AV.rec (motive_1 := fun _ => Option (Nat × List AV × List AV)) (motive_2 := fun _ => PUnit)
    (fun _ => none)
    (fun _ _ => none)
    (fun _ => none)
    (fun _ _ => none)
    (none)
    (fun _ _ _ _ _ => none)
    (none)
    (fun _ _ _ => none)
    (fun _ => none)
    (none)
    (fun f a c _ _ => Fn.rec (motive := fun _ => List AV → List AV → Option (Nat × List AV × List AV)) (fun k a c => some (k, a, c)) (fun _ _ _ => none) (fun _ _ _ _ => none) (fun _ _ _ _ _ _ => none) (fun _ _ _ => none) f a c)
    (fun _ => none)
    (none)
    (fun _ _ _ => none)
    (none)
    (fun _ _ => none)
    (fun _ _ => none)
    (fun _ => none)
    PUnit.unit (fun _ _ _ _ => PUnit.unit) v

/-- Its length. -/
noncomputable def toLen (v : AV) : Option Nat :=
  AV.rec (motive_1 := fun _ => Option Nat) (motive_2 := fun _ => PUnit)
    (fun _ => none)
    (fun _ _ => none)
    (fun _ => none)
    (fun _ _ => none)
    (none)
    (fun _ _ l _ _ => some l)
    (some 0)
    (fun _ _ _ => some 0)
    (fun _ => none)
    (none)
    (fun _ _ _ _ _ => none)
    (fun _ => none)
    (none)
    (fun _ _ _ => none)
    (none)
    (fun _ _ => none)
    (fun _ _ => none)
    (fun _ => none)
    PUnit.unit (fun _ _ _ _ => PUnit.unit) v

/-- One cell? -/
noncomputable def cellF (v : AV) : Bool :=
  AV.rec (motive_1 := fun _ => Bool) (motive_2 := fun _ => PUnit)
    (fun _ => true)
    (fun _ _ => true)
    (fun _ => true)
    (fun _ _ => true)
    (true)
    (fun _ _ _ _ _ => true)
    (true)
    (fun _ _ _ => true)
    (fun _ => true)
    (true)
    (fun _ _ _ _ _ => true)
    (fun _ => true)
    (true)
    (fun _ _ _ => true)
    (true)
    (fun _ _ => false)
    (fun _ _ => false)
    (fun v => rawOk v)
    PUnit.unit (fun _ _ _ _ => PUnit.unit) v

/-- Its cells. -/
noncomputable def cellsF (v : AV) : List AV :=
  AV.rec (motive_1 := fun _ => List AV) (motive_2 := fun _ => PUnit)
    (fun b => [(.bool b)])
    (fun k n => [(.int k n)])
    (fun s => [(.str s)])
    (fun b o => [(.ptr b o)])
    ([.nilPtr])
    (fun b o l c x => [(.slice b o l c x)])
    ([.nilSlice])
    (fun b o a => [(.tail b o a)])
    (fun r => [(.map r)])
    ([.nilMap])
    (fun f a c _ _ => [(.fn f a c)])
    (fun r => [(.yld r)])
    ([.nilFn])
    (fun t v _ => [(.iface t v)])
    ([.nilIface])
    (fun l _ => l)
    (fun l _ => [(.tup l)])
    (fun v => v.cells.toList.map .raw)
    PUnit.unit (fun _ _ _ _ => PUnit.unit) v

theorem toPtr_ptr (b o : Nat) : toPtr (.ptr b o) = some (b, o) := rfl
theorem cellF_eq (v : AV) : cellF v = v.cell := by cases v <;> rfl
theorem cellsF_eq (v : AV) : cellsF v = v.cells := by cases v <;> rfl
noncomputable def cellsOf (o : Option AObj) : Option (List AV) :=
  Option.rec (motive := fun _ => Option (List AV)) none (fun o => AObj.rec (motive := fun _ => Option (List AV)) (fun vs _ _ _ => some vs) (fun _ _ => none) (fun _ _ _ _ => none) (fun _ _ => none) (fun _ _ _ _ _ _ _ => none) none o) o
noncomputable def kEq (k k' : IntKind) : Bool :=
  IntKind.rec (motive := fun _ => IntKind → Bool)
    (fun k' => IntKind.rec (motive := fun _ => Bool) true false false false false false false false k')
    (fun k' => IntKind.rec (motive := fun _ => Bool) false true false false false false false false k')
    (fun k' => IntKind.rec (motive := fun _ => Bool) false false true false false false false false k')
    (fun k' => IntKind.rec (motive := fun _ => Bool) false false false true false false false false k')
    (fun k' => IntKind.rec (motive := fun _ => Bool) false false false false true false false false k')
    (fun k' => IntKind.rec (motive := fun _ => Bool) false false false false false true false false k')
    (fun k' => IntKind.rec (motive := fun _ => Bool) false false false false false false true false k')
    (fun k' => IntKind.rec (motive := fun _ => Bool) false false false false false false false true k')
    k k'
theorem kEq_eq (k k' : IntKind) : kEq k k' = decide (k = k') := by cases k <;> cases k' <;> rfl

def x_load1G (a : X) (ev : Ev) (s : St) : Option (AV × St) :=
  match ev a with
  | none => none
  | some v => match toPtr v with
    | none => none
    | some p => match cellsOf (s.get p.1) with
      | none => none
      | some vs => pureA s (getF vs p.2)
theorem x_load1G_eq (a : X) (ev : Ev) (s : St) : x_load1G a ev s = x_load1 a ev s := by
  unfold x_load1G x_load1
  cases ev a with
  | none => rfl
  | some v => cases v with
    | ptr b o =>
      show (match cellsOf (s.get b) with | none => none | some vs => pureA s (getF vs o)) = _
      dsimp only
      cases s.get b with
      | none => rfl
      | some ob => cases ob with
        | cells vs l r z => show pureA s (getF vs o) = _; rw [getF_eq]
        | _ => rfl
    | _ => rfl

def idxF (v : AV) (len : Nat) : Option Nat := match toInt v with
  | none => none
  | some q => match q.2 with
    | .ofNat m => match Nat.blt m len with
      | true => some m
      | false => none
    | .negSucc _ => none
theorem idxF_eq (v : AV) (len : Nat) : idxF v len = indexA v len := by
  unfold idxF indexA
  cases v with
  | int k n =>
    show (match n with | .ofNat m => (match Nat.blt m len with | true => some m | false => none) | .negSucc _ => none) = _
    cases n with
    | ofNat m =>
      dsimp only
      by_cases h : m < len
      · rw [if_pos (show 0 ≤ Int.ofNat m ∧ Int.ofNat m < (len : Int) from ⟨Int.natCast_nonneg m, Int.ofNat_lt.2 h⟩), show Nat.blt m len = true by rw [Nat.blt_eq]; exact h]
        rfl
      · rw [if_neg (fun hh : 0 ≤ Int.ofNat m ∧ Int.ofNat m < (len : Int) => h (Int.ofNat_lt.1 hh.2)), show Nat.blt m len = false by
          cases hb : Nat.blt m len with
          | false => rfl
          | true => rw [Nat.blt_eq] at hb; exact absurd hb h]
    | negSucc m =>
      dsimp only
      rw [if_neg (fun hh => absurd hh.1 (by simp [Int.negSucc_lt_zero]))]
  | _ => rfl

def x_idxSlG (e : Nat) (x : X) (i : X) (ev : Ev) (s : St) : Option (AV × St) :=
  match ev x with
  | none => none
  | some v => match ev i with
    | none => none
    | some i => match toSl v with
      | none => none
      | some q => match idxF i q.2.2 with
        | none => none
        | some k => some (.ptr q.1 (q.2.1 + k * e), s)
theorem x_idxSlG_eq (e : Nat) (x i : X) (ev : Ev) (s : St) : x_idxSlG e x i ev s = x_idxSl e x i ev s := by
  unfold x_idxSlG x_idxSl
  cases ev x with
  | none => rfl
  | some v => cases ev i with
    | none => cases v <;> rfl
    | some i => cases v with
      | slice b o l c z =>
        show (match idxF i l with | none => none | some k => some (AV.ptr b (o + k * e), s)) = _
        rw [idxF_eq]
        dsimp only
        cases indexA i l <;> rfl
      | _ => rfl
def x_idxArrG (len : Nat) (e : Nat) (x : X) (i : X) (ev : Ev) (s : St) : Option (AV × St) :=
  match ev x with
  | none => none
  | some v => match ev i with
    | none => none
    | some i => match toPtr v with
      | none => none
      | some q => match idxF i len with
        | none => none
        | some k => some (.ptr q.1 (q.2 + k * e), s)
theorem x_idxArrG_eq (len e : Nat) (x i : X) (ev : Ev) (s : St) : x_idxArrG len e x i ev s = x_idxArr len e x i ev s := by
  unfold x_idxArrG x_idxArr
  cases ev x with
  | none => rfl
  | some v => cases ev i with
    | none => cases v <;> rfl
    | some i => cases v with
      | ptr b o =>
        show (match idxF i len with | none => none | some k => some (AV.ptr b (o + k * e), s)) = _
        rw [idxF_eq]
        dsimp only
        cases indexA i len <;> rfl
      | _ => rfl
def x_fieldAddrG (off : Nat) (x : X) (ev : Ev) (s : St) : Option (AV × St) :=
  match ev x with
  | none => none
  | some v => match toPtr v with
    | none => none
    | some q => some (.ptr q.1 (q.2 + off), s)
theorem x_fieldAddrG_eq (off : Nat) (x : X) (ev : Ev) (s : St) : x_fieldAddrG off x ev s = x_fieldAddr off x ev s := by
  unfold x_fieldAddrG x_fieldAddr
  cases ev x with
  | none => rfl
  | some v => cases v <;> rfl
def partF (n : Option Nat) (cs : List AV) (off : Nat) : Option AV := match n with
  | some k => some (.agg (takeL (dropF cs off) k))
  | none => getF cs off
theorem partF_eq (n : Option Nat) (cs : List AV) (off : Nat) : partF n cs off = partA n cs off := by
  unfold partF partA
  cases n <;> simp only [takeL_eq, dropF_eq, getF_eq]
def x_fieldG (off : Nat) (n : Option Nat) (x : X) (ev : Ev) (s : St) : Option (AV × St) :=
  match ev x with
  | none => none
  | some v => match toAgg v with
    | none => none
    | some l => pureA s (partF n l off)
theorem x_fieldG_eq (off : Nat) (n : Option Nat) (x : X) (ev : Ev) (s : St) : x_fieldG off n x ev s = x_field off n x ev s := by
  unfold x_fieldG x_field
  simp only [partF_eq]
  cases ev x with
  | none => rfl
  | some v => cases v <;> rfl
def x_extractG (x : X) (i : Nat) (ev : Ev) (s : St) : Option (AV × St) :=
  match ev x with
  | none => none
  | some v => match toTup v with
    | none => none
    | some l => pureA s (getF l i)
theorem x_extractG_eq (x : X) (i : Nat) (ev : Ev) (s : St) : x_extractG x i ev s = x_extract x i ev s := by
  unfold x_extractG x_extract
  simp only [getF_eq]
  cases ev x with
  | none => rfl
  | some v => cases v <;> rfl
def x_convIntG (k : IntKind) (x : X) (ev : Ev) (s : St) : Option (AV × St) :=
  match ev x with
  | none => none
  | some v => match toInt v with
    | none => none
    | some q => some (.int k (wrapF k q.2), s)
theorem x_convIntG_eq (k : IntKind) (x : X) (ev : Ev) (s : St) : x_convIntG k x ev s = x_convInt k x ev s := by
  rw [← x_convIntF_eq]
  unfold x_convIntG x_convIntF
  cases ev x with
  | none => rfl
  | some v => cases v <;> rfl
def twoG (x y : X) (f : IntKind → Int → Int → Option AV) (g : AV → AV → Option AV) (ev : Ev) (s : St) : Option (AV × St) :=
  match ev x with
  | none => none
  | some a => match ev y with
    | none => none
    | some b => match toInt a with
      | none => pureA s (g a b)
      | some p => match toInt b with
        | none => pureA s (g a b)
        | some q => match kEq p.1 q.1 with
          | true => pureA s (f p.1 p.2 q.2)
          | false => none
theorem twoG_eq (x y : X) (f : IntKind → Int → Int → Option AV) (g : AV → AV → Option AV) (ev : Ev) (s : St) : twoG x y f g ev s = two x y f g ev s := by
  unfold twoG two
  cases ev x with
  | none => rfl
  | some a => cases ev y with
    | none => rfl
    | some b => cases a with
      | int k m => cases b with
        | int k' n =>
          show (match kEq k k' with | true => pureA s (f k m n) | false => none) = _
          rw [kEq_eq]
          dsimp only
          by_cases h : k = k'
          · rw [if_pos h, decide_eq_true h]
          · rw [if_neg h, decide_eq_false h]
        | _ => rfl
      | _ => rfl
def x_len1G (x : X) (ev : Ev) (s : St) : Option (AV × St) :=
  match ev x with
  | none => none
  | some v => match toLen v with
    | some n => some (.int .i64 (.ofNat n), s)
    | none => x_len1 x ev s
theorem x_len1G_eq (x : X) (ev : Ev) (s : St) : x_len1G x ev s = x_len1 x ev s := by
  unfold x_len1G
  cases h : ev x with
  | none => unfold x_len1; rw [h]
  | some v => cases v <;> first | rfl | (unfold x_len1; rw [h]; rfl)

noncomputable def cellsW (o : Option AObj) : Option (List AV × Bool × Nat) :=
  Option.rec (motive := fun _ => Option (List AV × Bool × Nat)) none (fun o => AObj.rec (motive := fun _ => Option (List AV × Bool × Nat)) (fun vs lo ro z => Bool.rec (motive := fun _ => Option (List AV × Bool × Nat)) (some (vs, lo, z)) none ro) (fun _ _ => none) (fun _ _ _ _ => none) (fun _ _ => none) (fun _ _ _ _ _ _ _ => none) none o) o
def loadAG (s : St) (b o n : Nat) : Option (List AV) := match cellsOf (s.get b) with
  | none => none
  | some vs => match n with
    | 0 => if o ≤ vs.length then some [] else none
    | n + 1 => ldF (dropF vs o) (n + 1)
theorem loadAG_eq (s : St) (b o n : Nat) : loadAG s b o n = loadA s b o n := by
  rw [← loadAF_eq]
  unfold loadAG loadAF
  cases s.get b with
  | none => rfl
  | some ob => cases ob with
    | cells vs l r z => cases n <;> rfl
    | _ => rfl
def storeAG (s : St) (b o : Nat) (l : List AV) : Option St := match cellsW (s.get b) with
  | none => none
  | some q => match l with
    | [] => if o ≤ q.1.length then some (s.put b (.cells (splice q.1 o []) q.2.1 false q.2.2)) else none
    | x :: r => match chk2 (x :: r) (dropF q.1 o) with
      | 0 => none
      | 1 => some (s.put b (.cells (spliceF (x :: r) q.1 o) q.2.1 false q.2.2))
      | _ => some (s.put b (.cells (appF (takeL q.1 o) (x :: r)) q.2.1 false q.2.2))
theorem storeAG_eq (s : St) (b o : Nat) (l : List AV) : storeAG s b o l = storeA s b o l := by
  rw [← storeAF_eq]
  unfold storeAG storeAF
  cases s.get b with
  | none => rfl
  | some ob => cases ob with
    | cells vs lo ro z => cases ro <;> cases l <;> rfl
    | _ => rfl
def x_loadNG (n : Nat) (a : X) (ev : Ev) (s : St) : Option (AV × St) :=
  match ev a with
  | none => none
  | some v => match toPtr v with
    | none => none
    | some p => match loadAG s p.1 p.2 n with
      | none => none
      | some l => some (.agg l, s)
theorem x_loadNG_eq (n : Nat) (a : X) (ev : Ev) (s : St) : x_loadNG n a ev s = x_loadN n a ev s := by
  unfold x_loadNG x_loadN
  simp only [loadAG_eq]
  cases ev a with
  | none => rfl
  | some v => cases v with
    | ptr b o =>
      show (match loadA s b o n with | none => none | some l => some (AV.agg l, s)) = _
      dsimp only
      cases loadA s b o n <;> rfl
    | _ => rfl
def x_storeG (n : Nat) (a : X) (v : X) (ev : Ev) (s : St) : Option (AV × St) :=
  match ev a with
  | none => none
  | some w => match ev v with
    | none => none
    | some v => match toPtr w with
      | none => none
      | some p => match lenF (cellsF v) n with
        | false => none
        | true => match storeAG s p.1 p.2 (cellsF v) with
          | none => none
          | some s' => some (undefA, s')
theorem x_storeG_eq (n : Nat) (a v : X) (ev : Ev) (s : St) : x_storeG n a v ev s = x_store n a v ev s := by
  rw [← x_storeF_eq]
  unfold x_storeG x_storeF
  simp only [storeAG_eq, storeAF_eq, cellsF_eq]
  cases ev a with
  | none => rfl
  | some w => cases ev v with
    | none => cases w <;> rfl
    | some v => cases w with
      | ptr b o =>
        show (match lenF v.cells n with | false => none | true => (match storeA s b o v.cells with | none => none | some s' => some (undefA, s'))) = _
        dsimp only
        cases lenF v.cells n with
        | false => rfl
        | true =>
          dsimp only
          cases storeA s b o v.cells <;> rfl
      | _ => rfl
def callVG (e : Eng) (f : AV) (args : List AV) (s : St) : Option (AV × St) := match toFn f with
  | none => callV e f args s
  | some q => e.call q.1 (appF (appF q.2.1 args) q.2.2) s
theorem callVG_eq (e : Eng) (f : AV) (args : List AV) (s : St) : callVG e f args s = callV e f args s := by
  unfold callVG
  simp only [appF_eq]
  cases f with
  | fn f a c => cases f <;> rfl
  | _ => rfl
def x_callG (e : Eng) (f : X) (args : List X) (ev : Ev) (s : St) : Option (AV × St) :=
  match ev f with
  | none => none
  | some fv => match evsF ev args with
    | none => none
    | some l => callVG e fv l s
theorem x_callG_eq (e : Eng) (f : X) (args : List X) (ev : Ev) (s : St) : x_callG e f args ev s = x_callE e f args ev s := by
  unfold x_callG x_callE
  simp only [callVG_eq]
def condG (x : X) (a b : PC) (e : Eng) (ro : Option Nat) (ts : Tr AV) (ds : List Nat) (s : St) : Res :=
  match evOf ts x with
  | none => none
  | some v => match toBool v with
    | none => none
    | some t => match t with
      | true => e.ex ro a ts ds s
      | false => e.ex ro b ts ds s

def binG (op : BinOp) (e : EqK) (x y : X) : Ev → St → Option (AV × St) :=
  match op with
  | .shl => x_bin .shl e x y
  | .shr => x_bin .shr e x y
  | .add => twoG x y fAdd (binA .add e)
  | .sub => twoG x y fSub (binA .sub e)
  | .mul => twoG x y fMul (binA .mul e)
  | .quo => twoG x y (intBin .quo) (binA .quo e)
  | .rem => twoG x y (intBin .rem) (binA .rem e)
  | .and => twoG x y (intBin .and) (binA .and e)
  | .or => twoG x y (intBin .or) (binA .or e)
  | .xor => twoG x y (intBin .xor) (binA .xor e)
  | .andNot => twoG x y (intBin .andNot) (binA .andNot e)
  | .eql => twoG x y fEql (binA .eql e)
  | .neq => twoG x y fNeq (binA .neq e)
  | .lss => twoG x y fLss (binA .lss e)
  | .leq => twoG x y fLeq (binA .leq e)
  | .gtr => twoG x y fGtr (binA .gtr e)
  | .geq => twoG x y fGeq (binA .geq e)

theorem binG_eq (op : BinOp) (e : EqK) (x y : X) (ev : Ev) (s : St) : binG op e x y ev s = binF op e x y ev s := by
  unfold binG binF
  cases op <;> first | rfl | exact twoG_eq _ _ _ _ _ _

def x_lenG (k : Nat) (x : X) (ev : Ev) (s : St) : Option (AV × St) := match k with
  | 1 => x_len1G x ev s
  | k => x_len k x ev s
theorem x_lenG_eq (k : Nat) (x : X) (ev : Ev) (s : St) : x_lenG k x ev s = x_len k x ev s := by
  unfold x_lenG
  split
  · rw [x_len1G_eq]; rfl
  · rfl

def comp (p : POp) : Did :=
  match p with
  | .move a0 => .mk (x_move a0)
  | .pick a0 a1 a2 => .mk (x_pick a0 a1 a2)
  | .alloc a0 => .mk (x_alloc a0)
  | .box a0 => .mk (x_box a0)
  | .build a0 a1 => .mk (x_build a0 a1)
  | .buildSlice a0 a1 a2 a3 => .mk (x_buildSlice a0 a1 a2 a3)
  | .load1 a0 => .mk (x_load1G a0)
  | .loadN a0 a1 => .mk (x_loadNG a0 a1)
  | .store a0 a1 a2 => .mk (x_storeG a0 a1 a2)
  | .nilCheck a0 => .mk (x_nilCheck a0)
  | .bin a0 a1 a2 a3 => .mk (binG a0 a1 a2 a3)
  | .un a0 a1 => .mk (x_un a0 a1)
  | .convInt a0 a1 => .mk (x_convIntG a0 a1)
  | .convSame a0 => .mk (x_convSame a0)
  | .convStr a0 a1 => .mk (x_convStr a0 a1)
  | .convBytes a0 => .mk (x_convBytes a0)
  | .mkIface a0 a1 => .mk (x_mkIface a0 a1)
  | .mkFunc a0 a1 a2 => .mk (x_mkFunc a0 a1 a2)
  | .mkMap => .mk (x_mkMap)
  | .mkSlice a0 a1 a2 a3 a4 => .mk (x_mkSlice a0 a1 a2 a3 a4)
  | .sliceSl a0 a1 a2 a3 a4 => .mk (x_sliceSl a0 a1 a2 a3 a4)
  | .sliceStr a0 a1 a2 => .mk (x_sliceStr a0 a1 a2)
  | .sliceArr a0 a1 a2 a3 a4 a5 => .mk (x_sliceArr a0 a1 a2 a3 a4 a5)
  | .fieldAddr a0 a1 => .mk (x_fieldAddrG a0 a1)
  | .field a0 a1 a2 => .mk (x_fieldG a0 a1 a2)
  | .idxArr a0 a1 a2 a3 => .mk (x_idxArrG a0 a1 a2 a3)
  | .idxSl a0 a1 a2 => .mk (x_idxSlG a0 a1 a2)
  | .idxAgg a0 a1 a2 a3 a4 => .mk (x_idxAgg a0 a1 a2 a3 a4)
  | .idxStr a0 a1 => .mk (x_idxStr a0 a1)
  | .lookup a0 a1 a2 a3 => .mk (x_lookup a0 a1 a2 a3)
  | .mapUpd a0 a1 a2 => .mk (x_mapUpd a0 a1 a2)
  | .extract a0 a1 => .mk (x_extractG a0 a1)
  | .append a0 a1 a2 a3 a4 => .mk (x_appendF a0 a1 a2 a3 a4)
  | .appendN a0 a1 a2 a3 a4 => .mk (x_appendN a0 a1 a2 a3 a4)
  | .copy a0 a1 a2 => .mk (x_copyF a0 a1 a2)
  | .lenArr a0 => .mk (x_lenArr a0)
  | .cap a0 => .mk (x_cap a0)
  | .minmax a0 a1 => .mk (x_minmax a0 a1)
  | .clearMap a0 => .mk (x_clearMap a0)
  | .clear a0 a1 => .mk (x_clear a0 a1)
  | .delete a0 a1 => .mk (x_delete a0 a1)
  | .call a0 a1 => .call a0 a1
  | .range a0 => .mk (x_range a0)
  | .next a0 => .mk (x_next a0)
  | .entry a0 => .mk (x_entry a0)
  | .fail => .mk (x_fail)
  | .len a0 a1 => .mk (x_lenG a0 a1)

def opValF (e : Eng) (p : POp) (ev : Ev) (s : St) : Option (AV × St) :=
  match comp p with
  | .mk f => f ev s
  | .call f args => x_callG e f args ev s

theorem opValF_eq (e : Eng) (p : POp) (ev : Ev) (s : St) : opValF e p ev s = opVal e p ev s := by
  cases p
  case call f args => show x_callG e f args ev s = _; rw [x_callG_eq]; unfold x_callE; rw [evsF_eq]; rfl
  case len k x => exact (x_lenG_eq k x ev s).trans (xopF_eq (.len k x) ev s)
  case bin op k x y => exact (binG_eq op k x y ev s).trans (binF_eq op k x y ev s)
  case convInt k x => exact x_convIntG_eq k x ev s
  case fieldAddr o x => exact x_fieldAddrG_eq o x ev s
  case field o n x => exact x_fieldG_eq o n x ev s
  case idxArr l e x i => exact x_idxArrG_eq l e x i ev s
  case idxSl e x i => exact x_idxSlG_eq e x i ev s
  case extract x i => exact x_extractG_eq x i ev s
  case load1 a => exact x_load1G_eq a ev s
  case loadN n a => exact x_loadNG_eq n a ev s
  case store n a v => exact x_storeG_eq n a v ev s
  case append a b c d e => exact x_appendF_eq a b c d e ev s
  case copy a b c => exact x_copyF_eq a b c ev s
  all_goals rfl

def opStepF (e : Eng) (p : PO) (ts : Tr AV) (s : St) : Option (Tr AV × St) :=
  match wantedA p.guard ts with
  | none => none
  | some false => some (putT p.dst undefA ts, s)
  | some true => match opValF e p.op (evOf ts) s with
    | none => none
    | some (v, s') => some (putT p.dst v ts, s')

theorem opStepF_eq (e : Eng) (p : PO) (ts : Tr AV) (s : St) : opStepF e p ts s = opStep e p ts s := by
  unfold opStepF opStep
  simp only [opValF_eq]
  rfl

noncomputable def runOpsF (e : Eng) (l : List PO) : Tr AV → St → Option (Tr AV × St) :=
  List.rec (motive := fun _ => Tr AV → St → Option (Tr AV × St)) (fun ts s => some (ts, s)) (fun p _ ih ts s => match opStepF e p ts s with
    | none => none
    | some (ts', s') => ih ts' s') l

theorem runOpsF_eq (e : Eng) : ∀ (l : List PO) (ts : Tr AV) (s : St), runOpsF e l ts s = runOps e l ts s
  | [], _, _ => rfl
  | p :: r, ts, s => by
    show (match opStepF e p ts s with | none => none | some (ts', s') => runOpsF e r ts' s') = _
    rw [opStepF_eq, runOps]
    split
    · rename_i h; rw [h]
    · rename_i ts' s' h; rw [h]; exact runOpsF_eq e r ts' s'

noncomputable def runSnapsF (e : Eng) (l : List PO) : Tr AV → St → List St → Option (Tr AV × St × List St) :=
  List.rec (motive := fun _ => Tr AV → St → List St → Option (Tr AV × St × List St)) (fun ts s acc => some (ts, s, s :: acc)) (fun p _ ih ts s acc => match opStepF e p ts s with
    | none => none
    | some (ts', s') => ih ts' s' (s :: acc)) l

theorem runSnapsF_eq (e : Eng) : ∀ (l : List PO) (ts : Tr AV) (s : St) (acc : List St), runSnapsF e l ts s acc = runSnaps e l ts s acc
  | [], _, _, _ => rfl
  | p :: r, ts, s, acc => by
    show (match opStepF e p ts s with | none => none | some (ts', s') => runSnapsF e r ts' s' (s :: acc)) = _
    rw [opStepF_eq, runSnaps]
    split
    · rename_i h; rw [h]
    · rename_i ts' s' h; rw [h]; exact runSnapsF_eq e r ts' s' _

def e_skip (_ : Eng) (_ : Option Nat) (ts : Tr AV) (ds : List Nat) (s : St) : Res := some (.normal, ts, ds, s)
noncomputable def e_region (ops : List PO) (e : Eng) (_ : Option Nat) (ts : Tr AV) (ds : List Nat) (s : St) : Res :=
  match runOpsF e ops ts s with
  | some (ts', s') => some (.normal, ts', ds, s')
  | none => none
noncomputable def e_drawn (ops : List PO) (looks : List Look) (e : Eng) (_ : Option Nat) (ts : Tr AV) (ds : List Nat) (s : St) : Res :=
  match runSnapsF e ops ts s [] with
  | some (ts', s', snaps) => if looksOk ops ts' snaps.reverse looks then some (.normal, ts', ds, s') else none
  | none => none
def e_seq (a b : PC) (e : Eng) (ro : Option Nat) (ts : Tr AV) (ds : List Nat) (s : St) : Res :=
  match e.ex ro a ts ds s with
  | some (.normal, ts', ds', s') => e.ex ro b ts' ds' s'
  | r => r
def e_cond (x : X) (a b : PC) (e : Eng) (ro : Option Nat) (ts : Tr AV) (ds : List Nat) (s : St) : Res :=
  match evOf ts x with
  | some (.bool true) => e.ex ro a ts ds s
  | some (.bool false) => e.ex ro b ts ds s
  | _ => none
def e_block (id : Nat) (a : PC) (e : Eng) (ro : Option Nat) (ts : Tr AV) (ds : List Nat) (s : St) : Res :=
  match e.ex ro a ts ds s with
  | some (.exit id', ts', ds', s') => some (if id' = id then .normal else .exit id', ts', ds', s')
  | r => r
def e_loop (a : PC) (e : Eng) (ro : Option Nat) (ts : Tr AV) (ds : List Nat) (s : St) : Res :=
  match e.ex ro a ts ds s with
  | some (.normal, ts', ds', s') => e.ex ro (.loop a) ts' ds' s'
  | r => r
def e_rangeF (f : X) (params : List Nat) (assign body : PC) (e : Eng) (ro : Option Nat) (ts : Tr AV) (ds : List Nat) (s : St) : Res :=
  match evOf ts f with
  | some fv => rangeA e ro fv params assign body ts ds s
  | none => none
def e_exit (id : Nat) (_ : Eng) (_ : Option Nat) (ts : Tr AV) (ds : List Nat) (s : St) : Res := some (.exit id, ts, ds, s)
def e_ret (_ : Eng) (_ : Option Nat) (ts : Tr AV) (ds : List Nat) (s : St) : Res := some (.ret, ts, ds, s)

noncomputable def exStepF (c : PC) : Eng → Option Nat → Tr AV → List Nat → St → Res :=
  match c with
  | .skip => e_skip
  | .region ops => e_region ops
  | .drawn ops looks => e_drawn ops looks
  | .seq a b => e_seq a b
  | .cond x a b => condG x a b
  | .block id a => e_block id a
  | .loop a => e_loop a
  | .rangeF f params assign body => e_rangeF f params assign body
  | .exit id => e_exit id
  | .ret => e_ret

theorem exStepF_eq (e : Eng) (ro : Option Nat) (c : PC) (ts : Tr AV) (ds : List Nat) (s : St) : exStepF c e ro ts ds s = exStep e ro c ts ds s := by
  cases c with
  | region ops => show e_region ops e ro ts ds s = _; unfold e_region; rw [runOpsF_eq]; rfl
  | drawn ops looks => show e_drawn ops looks e ro ts ds s = _; unfold e_drawn; rw [runSnapsF_eq]; rfl
  | cond x a b =>
    show condG x a b e ro ts ds s = e_cond x a b e ro ts ds s
    unfold condG e_cond
    cases evOf ts x with
    | none => rfl
    | some v => cases v with
      | bool t => cases t <;> rfl
      | _ => rfl
  | _ => rfl

def finishF (fd : FD) (r : Res) : Option (AV × St) :=
  match r with
  | some (.exit _, _, _, _) => none
  | some (_, ts, ds, s) => match takeAllF ds s with
    | none => none
    | some s' => match ressAF ts s' fd.results with
      | none => none
      | some l => some (oneA l, s')
  | none => none
theorem finishF_eq (fd : FD) (r : Res) : finishF fd r = finish fd r := by
  unfold finishF finish
  simp only [takeAllF_eq, ressAF_eq]
  rfl

def callStepF (FT : Fns) (SM : Sums) (e : Eng) (f : Nat) (args : List AV) (s : St) : Option (AV × St) :=
  match SM f with
  | some g => g args s
  | none => match FT f with
    | none => none
    | some fd => match Nat.ble args.length fd.ntmps with
      | true => finishF fd (e.ex none fd.body (initTF args 0 .lf) [] s)
      | false => none
theorem callStepF_eq (FT : Fns) (SM : Sums) (e : Eng) (f : Nat) (args : List AV) (s : St) : callStepF FT SM e f args s = callStep FT SM e f args s := by
  unfold callStepF callStep
  cases SM f with
  | some g => rfl
  | none => cases FT f with
    | none => rfl
    | some fd =>
      simp only [finishF_eq, initTF_eq]
      cases Nat.ble args.length fd.ntmps <;> rfl

noncomputable def engF (FT : Fns) (SM : Sums) (n : Nat) : Eng :=
  Nat.rec (motive := fun _ => Eng) ⟨fun _ _ _ => none, fun _ _ _ _ _ => none⟩ (fun _ e => ⟨callStepF FT SM e, fun ro c ts ds s => exStepF c e ro ts ds s⟩) n

theorem engF_eq (FT : Fns) (SM : Sums) : ∀ n, engF FT SM n = eng FT SM n
  | 0 => rfl
  | n + 1 => by
    show (⟨callStepF FT SM (engF FT SM n), fun ro c ts ds s => exStepF c (engF FT SM n) ro ts ds s⟩ : Eng) = ⟨callStep FT SM (eng FT SM n), exStep (eng FT SM n)⟩
    rw [engF_eq FT SM n]
    congr 1
    · funext f args s; exact callStepF_eq _ _ _ f args s
    · funext ro c ts ds s; exact exStepF_eq _ ro c ts ds s
end
end Go.Proofs.YteiiblpnegjjlaaGreat.D
