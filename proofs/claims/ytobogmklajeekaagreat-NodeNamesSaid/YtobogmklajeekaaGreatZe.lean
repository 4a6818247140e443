/- The abstract machine once more, in a form that the kernel carries out with less work; and that it is the same.
What is known of a few functions of the program: the sum behind a byte.
Code that may be left in several ways: what holds of all of them; loops over maps. Plain laws; no program.
slices.Sorted(maps.Keys(m)) at keys that are ints, taken as known out of the kit's own proof of it. Plain laws; no program. -/
import Derived.Test.YtobogmklajeekaaGreatZd
import Derived.Maps.RangeRun
import Derived.Lib.SlKeysI
import Derived.Maps.Own
import Derived.Laws.AppendOwn
namespace Go.Proofs.YtobogmklajeekaaGreat.D
noncomputable section

def pureA (s : St) (v : Option AV) : Option (AV × St) := match v with
  | some v => some (v, s)
  | none => none

def x_move (x : X) (ev : Ev) (s : St) : Option (AV × St) :=
  pureA s (ev x)

def x_pick (c : X) (a : X) (b : X) (ev : Ev) (s : St) : Option (AV × St) :=
  match ev c with
    | some (.bool true) => pureA s (ev a)
    | some (.bool false) => pureA s (ev b)
    | _ => none

def x_alloc (z : List AV) (_ : Ev) (s : St) : Option (AV × St) :=
  newA s (.cells z false false 0) (.ptr s.next 0)

def x_box (x : X) (ev : Ev) (s : St) : Option (AV × St) :=
  match ev x with
    | some v => newA s (.cells v.cells false false 0) (.ptr s.next 0)
    | none => none

def x_build (z : List AV) (parts : List (Nat × Nat × X)) (ev : Ev) (s : St) : Option (AV × St) :=
  match fillA ev z parts with
    | some l => some (.agg l, s)
    | none => none

def x_buildSlice (z : List AV) (n : Nat) (parts : List (Nat × Nat × X)) (_u3 : Nat) (ev : Ev) (s : St) : Option (AV × St) :=
  match fillA ev z parts with
    | some l => newA s (.cells l false false 0) (.slice s.next 0 n n false)
    | none => none

def x_load1 (a : X) (ev : Ev) (s : St) : Option (AV × St) :=
  match ev a with
    | some (.ptr b o) => match s.get b with
      | some (.cells vs _ _ _) => pureA s vs[o]?
      | _ => none
    | _ => none

def x_loadN (n : Nat) (a : X) (ev : Ev) (s : St) : Option (AV × St) :=
  match ev a with
    | some (.ptr b o) => match loadA s b o n with
      | some l => some (.agg l, s)
      | none => none
    | _ => none

def x_store (n : Nat) (a : X) (v : X) (ev : Ev) (s : St) : Option (AV × St) :=
  match ev a, ev v with
    | some (.ptr b o), some v => if v.cells.length = n then match storeA s b o v.cells with
        | some s' => some (undefA, s')
        | none => none
      else none
    | _, _ => none

def x_nilCheck (x : X) (ev : Ev) (s : St) : Option (AV × St) :=
  match ev x with
    | some (.ptr b o) => some (.ptr b o, s)
    | some (.fn (.func f) a c) => some (.fn (.func f) a c, s)
    | some (.yld r) => some (.yld r, s)
    | _ => none

def x_bin (op : BinOp) (e : EqK) (x : X) (y : X) (ev : Ev) (s : St) : Option (AV × St) :=
  match ev x, ev y with
    | some a, some b => pureA s (binA op e a b)
    | _, _ => none

def x_un (op : UnOp) (x : X) (ev : Ev) (s : St) : Option (AV × St) :=
  match ev x with
    | some a => pureA s (unA op a)
    | none => none

def x_convInt (k : IntKind) (x : X) (ev : Ev) (s : St) : Option (AV × St) :=
  match ev x with
    | some (.int _ n) => some (.int k (k.wrap n), s)
    | _ => none

def x_convSame (x : X) (ev : Ev) (s : St) : Option (AV × St) :=
  match ev x with
    | some (.str v) => some (.str v, s)
    | _ => none

def x_convStr (_u0 : Nat) (x : X) (ev : Ev) (s : St) : Option (AV × St) :=
  match ev x with
    | some (.str v) => newA s (.cells (v.data.toList.map fun c => .int .u8 c.toNat) true false 1) (.slice s.next 0 v.size v.size true)
    | _ => none

def x_convBytes (x : X) (ev : Ev) (s : St) : Option (AV × St) :=
  match ev x with
    | some .nilSlice => some (.str .empty, s)
    | some (.tail ..) => some (.str .empty, s)
    | some (.slice b o len _ _) => match loadA s b o len with
      | some l => match bytesA l with
        | some bs => some (.str ⟨bs.toArray⟩, s)
        | none => none
      | none => none
    | _ => none

def x_mkIface (t : TypeId) (x : X) (ev : Ev) (s : St) : Option (AV × St) :=
  match ev x with
    | some v => some (.iface t v, s)
    | none => none

def x_mkFunc (f : Fn) (a : List X) (c : List X) (ev : Ev) (s : St) : Option (AV × St) :=
  match evs ev a, evs ev c with
    | some a, some c => some (.fn f a c, s)
    | _, _ => none

def x_mkMap  (_ : Ev) (s : St) : Option (AV × St) :=
  newA s (.map [] 0) (.map s.next)

def x_mkSlice (_u0 : Nat) (eb : Nat) (z : List AV) (l : X) (c : X) (ev : Ev) (s : St) : Option (AV × St) :=
  match ev l, ev c with
    | some (.int _ l), some (.int _ c) => if 0 ≤ l ∧ l ≤ c ∧ c < 2 ^ 40 ∧ (eb : Int) * c ≤ 2 ^ 46 then
        newA s (.cells (List.replicate c.toNat z).flatten false false 0) (.slice s.next 0 l.toNat c.toNat false) else none
    | _, _ => none

def x_sliceSl (e : Nat) (x : X) (lo : Option X) (hi : Option X) (mx : Option X) (ev : Ev) (s : St) : Option (AV × St) :=
  match ev x, evO ev lo, evO ev hi, evO ev mx with
    | some x, some lo, some hi, some mx => pureA s (sliceA e x lo hi mx)
    | _, _, _, _ => none

def x_sliceStr (x : X) (lo : Option X) (hi : Option X) (ev : Ev) (s : St) : Option (AV × St) :=
  match ev x, evO ev lo, evO ev hi with
    | some (.str v), some lo, some hi => match boundsA v.size v.size lo hi none with
      | some (l, h, _) => some (.str (v.extract l h), s)
      | none => none
    | _, _, _ => none

def x_sliceArr (n : Nat) (e : Nat) (x : X) (lo : Option X) (hi : Option X) (mx : Option X) (ev : Ev) (s : St) : Option (AV × St) :=
  match ev x, evO ev lo, evO ev hi, evO ev mx with
    | some (.ptr b o), some lo, some hi, some mx => match boundsA n n lo hi mx with
      | some (l, h, m) => some (.slice b (if m = l then o else o + l * e) (h - l) (m - l) false, s)
      | none => none
    | _, _, _, _ => none

def x_fieldAddr (off : Nat) (x : X) (ev : Ev) (s : St) : Option (AV × St) :=
  match ev x with
    | some (.ptr b o) => some (.ptr b (o + off), s)
    | _ => none

def x_field (off : Nat) (n : Option Nat) (x : X) (ev : Ev) (s : St) : Option (AV × St) :=
  match ev x with
    | some (.agg l) => pureA s (partA n l off)
    | _ => none

def x_idxArr (len : Nat) (e : Nat) (x : X) (i : X) (ev : Ev) (s : St) : Option (AV × St) :=
  match ev x, ev i with
    | some (.ptr b o), some i => match indexA i len with
      | some k => some (.ptr b (o + k * e), s)
      | none => none
    | _, _ => none

def x_idxSl (e : Nat) (x : X) (i : X) (ev : Ev) (s : St) : Option (AV × St) :=
  match ev x, ev i with
    | some (.slice b o len _ _), some i => match indexA i len with
      | some k => some (.ptr b (o + k * e), s)
      | none => none
    | _, _ => none

def x_idxAgg (len : Nat) (e : Nat) (g : Bool) (x : X) (i : X) (ev : Ev) (s : St) : Option (AV × St) :=
  match ev x, ev i with
    | some (.agg l), some i => match indexA i len with
      | some k => pureA s (partA (if g then some e else none) l (k * e))
      | none => none
    | _, _ => none

def x_idxStr (x : X) (i : X) (ev : Ev) (s : St) : Option (AV × St) :=
  match ev x, ev i with
    | some (.str v), some i => match indexA i v.size with
      | some k => match v[k]? with
        | some c => some (.int .u8 c.toNat, s)
        | none => none
      | none => none
    | _, _ => none

def x_lookup (z : AV) (m : X) (k : X) (ok : Bool) (ev : Ev) (s : St) : Option (AV × St) :=
  match ev m, ev k with
    | some .nilMap, some (.int _ _) => some (if ok then .tup [z, .bool false] else z, s)
    | some (.map r), some (.int kk a) => match s.get r with
      | some (.map es _) => match findA kk a es 0 with
        | some (some (_, v)) => some (if ok then .tup [v, .bool true] else v, s)
        | some none => some (if ok then .tup [z, .bool false] else z, s)
        | none => none
      | _ => none
    | _, _ => none

def x_mapUpd (m : X) (k : X) (v : X) (ev : Ev) (s : St) : Option (AV × St) :=
  match ev m, ev k, ev v with
    | some (.map r), some (.int kk a), some v => match s.get r with
      | some (.map es cl) => match findA kk a es 0 with
        | some (some (i, _)) => some (undefA, s.put r (.map (es.modify i fun e => (.int kk a, v, e.2.2)) cl))
        | some none => some (undefA, s.put r (.map (es ++ [(.int kk a, v, cl)]) (cl + 1)))
        | none => none
      | _ => none
    | _, _, _ => none

def x_extract (x : X) (i : Nat) (ev : Ev) (s : St) : Option (AV × St) :=
  match ev x with
    | some (.tup l) => pureA s l[i]?
    | _ => none

def x_append (esz : Nat) (eb : Nat) (_u2 : List AV) (x : X) (y : X) (ev : Ev) (s : St) : Option (AV × St) :=
  match ev x, ev y with
    | some x, some y => match srcA s esz y with
      | some (n, l) => if l.length = n * esz then appendA esz eb s x n l else none
      | none => none
    | _, _ => none

def x_appendN (esz : Nat) (eb : Nat) (z : List AV) (x : X) (y : X) (ev : Ev) (s : St) : Option (AV × St) :=
  match ev x, ev y with
    | some x, some (.int _ k) => if 0 ≤ k ∧ k < 2 ^ 40 ∧ k.toNat * eb ≤ 2 ^ 46 then appendA esz eb s x k.toNat (List.replicate k.toNat z).flatten else none
    | _, _ => none

def x_copy (esz : Nat) (d : X) (x : X) (ev : Ev) (s : St) : Option (AV × St) :=
  match ev d, ev x with
    | some d, some x => match srcA s esz x with
      | none => none
      | some (n, l) => match d with
        | .nilSlice => some (.int .i64 0, s)
        | .tail .. => some (.int .i64 0, s)
        | .slice b o len _ _ => if min n len = 0 then some (.int .i64 0, s) else match storeA s b o (l.take (min n len * esz)) with
          | some s' => some (.int .i64 (min n len : Nat), s')
          | none => none
        | _ => none
    | _, _ => none

def x_lenArr (n : Nat) (_ : Ev) (s : St) : Option (AV × St) :=
  some (.int .i64 n, s)

def x_cap (x : X) (ev : Ev) (s : St) : Option (AV × St) :=
  match ev x with
    | some .nilSlice => some (.int .i64 0, s)
    | some (.slice _ _ _ c false) => some (.int .i64 c, s)
    | _ => none

def x_minmax (mx : Bool) (l : List X) (ev : Ev) (s : St) : Option (AV × St) :=
  match evs ev l with
    | some (v :: r) => pureA s (foldMM mx v r)
    | _ => none

def x_clearMap (x : X) (ev : Ev) (s : St) : Option (AV × St) :=
  match ev x with
    | some .nilMap => some (undefA, s)
    | some (.map r) => match s.get r with
      | some (.map _ cl) => some (undefA, s.put r (.map [] cl))
      | _ => none
    | _ => none

def x_clear (z : List AV) (x : X) (ev : Ev) (s : St) : Option (AV × St) :=
  match ev x with
    | some .nilSlice => some (undefA, s)
    | some (.tail ..) => some (undefA, s)
    | some (.slice b o n _ _) => if n = 0 then some (undefA, s) else match storeA s b o (List.replicate n z).flatten with
      | some s' => some (undefA, s')
      | none => none
    | _ => none

def x_delete (m : X) (k : X) (ev : Ev) (s : St) : Option (AV × St) :=
  match ev m, ev k with
    | some .nilMap, some (.int _ _) => some (undefA, s)
    | some (.map r), some (.int kk a) => match s.get r with
      | some (.map es cl) => match findA kk a es 0 with
        | some (some (i, _)) => some (undefA, s.put r (.map (es.eraseIdx i) cl))
        | some none => some (undefA, s)
        | none => none
      | _ => none
    | _, _ => none

def x_call (_a0 : X) (_a1 : List X) (_ : Ev) (_ : St) : Option (AV × St) :=
  none

def x_range (x : X) (ev : Ev) (s : St) : Option (AV × St) :=
  match ev x with
    | some .nilMap => newA s (.miter none 0 [] 0) (.ptr s.next 0)
    | some (.map r) => match s.get r with
      | some (.map _ clock) => newA s (.miter (some r) clock [] clock) (.ptr s.next 0)
      | _ => none
    | _ => none

def x_next (x : X) (ev : Ev) (s : St) : Option (AV × St) :=
  match ev x with
    | some (.ptr b 0) => match s.get b with
      | some (.miter (some r) since seen last) => match s.get r with
        | some (.map es _) => match es.all (fun e => Nat.blt e.2.2 since && seen.contains e.2.2) && Nat.ble since last with
          | true => some (.tup [.bool false], s)
          | false => none
        | _ => none
      | _ => none
    | _ => none

def x_entry (x : X) (ev : Ev) (s : St) : Option (AV × St) :=
  match ev x with
    | some (.ptr b 0) => match s.get b with
      | some (.miter (some r) _ seen last) => match s.get r with
        | some (.map es clock) => if clock = last then match seen.getLast? with
            | some k => match es.find? (fun e => e.2.2 == k) with
              | some e => some (.tup [e.1, e.2.1], s)
              | none => none
            | none => none
          else none
        | _ => none
      | _ => none
    | _ => none

def x_fail  (_ : Ev) (_ : St) : Option (AV × St) :=
  none

def x_len0 (x : X) (ev : Ev) (s : St) : Option (AV × St) :=
  match ev x with
    | some (.str v) => some (.int .i64 v.size, s)
    | _ => none

def x_len1 (x : X) (ev : Ev) (s : St) : Option (AV × St) :=
  match ev x with
    | some .nilSlice => some (.int .i64 0, s)
    | some (.tail ..) => some (.int .i64 0, s)
    | some (.slice _ _ n _ _) => some (.int .i64 n, s)
    | some (.raw (.slice _ n _)) => some (.int .i64 n, s)
    | _ => none

def x_len2 (x : X) (ev : Ev) (s : St) : Option (AV × St) :=
  match ev x with
    | some .nilMap => some (.int .i64 0, s)
    | some (.map r) => match s.get r with
      | some (.map es _) => some (.int .i64 es.length, s)
      | _ => none
    | _ => none

def x_len (k : Nat) : X → Ev → St → Option (AV × St) :=
  match Nat.beq k 0 with
  | true => x_len0
  | false => match Nat.beq k 1 with
    | true => x_len1
    | false => x_len2

/-- What an operation does: no operand is looked at ahead of the operation's name. -/
def xopF (p : POp) : Ev → St → Option (AV × St) :=
  match p with
  | .move a0 => x_move a0
  | .pick a0 a1 a2 => x_pick a0 a1 a2
  | .alloc a0 => x_alloc a0
  | .box a0 => x_box a0
  | .build a0 a1 => x_build a0 a1
  | .buildSlice a0 a1 a2 a3 => x_buildSlice a0 a1 a2 a3
  | .load1 a0 => x_load1 a0
  | .loadN a0 a1 => x_loadN a0 a1
  | .store a0 a1 a2 => x_store a0 a1 a2
  | .nilCheck a0 => x_nilCheck a0
  | .bin a0 a1 a2 a3 => x_bin a0 a1 a2 a3
  | .un a0 a1 => x_un a0 a1
  | .convInt a0 a1 => x_convInt a0 a1
  | .convSame a0 => x_convSame a0
  | .convStr a0 a1 => x_convStr a0 a1
  | .convBytes a0 => x_convBytes a0
  | .mkIface a0 a1 => x_mkIface a0 a1
  | .mkFunc a0 a1 a2 => x_mkFunc a0 a1 a2
  | .mkMap => x_mkMap
  | .mkSlice a0 a1 a2 a3 a4 => x_mkSlice a0 a1 a2 a3 a4
  | .sliceSl a0 a1 a2 a3 a4 => x_sliceSl a0 a1 a2 a3 a4
  | .sliceStr a0 a1 a2 => x_sliceStr a0 a1 a2
  | .sliceArr a0 a1 a2 a3 a4 a5 => x_sliceArr a0 a1 a2 a3 a4 a5
  | .fieldAddr a0 a1 => x_fieldAddr a0 a1
  | .field a0 a1 a2 => x_field a0 a1 a2
  | .idxArr a0 a1 a2 a3 => x_idxArr a0 a1 a2 a3
  | .idxSl a0 a1 a2 => x_idxSl a0 a1 a2
  | .idxAgg a0 a1 a2 a3 a4 => x_idxAgg a0 a1 a2 a3 a4
  | .idxStr a0 a1 => x_idxStr a0 a1
  | .lookup a0 a1 a2 a3 => x_lookup a0 a1 a2 a3
  | .mapUpd a0 a1 a2 => x_mapUpd a0 a1 a2
  | .extract a0 a1 => x_extract a0 a1
  | .append a0 a1 a2 a3 a4 => x_append a0 a1 a2 a3 a4
  | .appendN a0 a1 a2 a3 a4 => x_appendN a0 a1 a2 a3 a4
  | .copy a0 a1 a2 => x_copy a0 a1 a2
  | .lenArr a0 => x_lenArr a0
  | .cap a0 => x_cap a0
  | .minmax a0 a1 => x_minmax a0 a1
  | .clearMap a0 => x_clearMap a0
  | .clear a0 a1 => x_clear a0 a1
  | .delete a0 a1 => x_delete a0 a1
  | .call a0 a1 => x_call a0 a1
  | .range a0 => x_range a0
  | .next a0 => x_next a0
  | .entry a0 => x_entry a0
  | .fail => x_fail
  | .len a0 a1 => x_len a0 a1

theorem xopF_eq (p : POp) (ev : Ev) (s : St) : xopF p ev s = xop p ev s := by
  cases p
  case len k x =>
    show x_len k x ev s = _
    unfold x_len
    cases k with
    | zero => rfl
    | succ k => cases k with
      | zero => rfl
      | succ k => rfl
  all_goals rfl

def evsF (ev : Ev) (l : List X) : Option (List AV) :=
  List.rec (motive := fun _ => Option (List AV)) (some []) (fun x _ ih => match ev x with
    | some v => match ih with
      | some l => some (v :: l)
      | none => none
    | none => none) l
theorem evsF_eq (ev : Ev) : ∀ l, evsF ev l = evs ev l
  | [] => rfl
  | x :: r => by
    show (match ev x with | some v => (match evsF ev r with | some l => some (v :: l) | none => none) | none => none) = _
    rw [evsF_eq ev r]; rfl

def initTF (l : List AV) : Nat → Tr AV → Tr AV :=
  List.rec (motive := fun _ => Nat → Tr AV → Tr AV) (fun _ ts => ts) (fun a _ ih i ts => ih (i + 1) (ts.set i a)) l
theorem initTF_eq : ∀ (l : List AV) (i : Nat) (ts : Tr AV), initTF l i ts = initT i l ts
  | [], _, _ => rfl
  | a :: l, i, ts => initTF_eq l (i + 1) (ts.set i a)

def takeAllF (l : List Nat) : St → Option St :=
  List.rec (motive := fun _ => St → Option St) (fun s => some s) (fun d _ ih s => match s.get d with
    | some .defd => ih (s.drop d)
    | _ => none) l
theorem takeAllF_eq : ∀ (l : List Nat) (s : St), takeAllF l s = takeAll l s
  | [], _ => rfl
  | d :: l, s => by
    show (match s.get d with | some .defd => takeAllF l (s.drop d) | _ => none) = _
    rw [takeAllF_eq l]; rfl

def ressAF (ts : Tr AV) (s : St) (l : List PRes) : Option (List AV) :=
  List.rec (motive := fun _ => Option (List AV)) (some []) (fun r _ ih => match resA ts s r with
    | none => none
    | some v => match ih with
      | none => none
      | some vs => some (v :: vs)) l
theorem ressAF_eq (ts : Tr AV) (s : St) : ∀ l, ressAF ts s l = ressA ts s l
  | [] => rfl
  | r :: l => by
    show (match resA ts s r with | none => none | some v => (match ressAF ts s l with | none => none | some vs => some (v :: vs))) = _
    rw [ressAF_eq ts s l]; rfl

def x_callE (e : Eng) (f : X) (args : List X) (ev : Ev) (s : St) : Option (AV × St) :=
  match ev f with
  | none => none
  | some fv => match evsF ev args with
    | none => none
    | some l => callV e fv l s

/-- An operation, its name looked at: what it does. -/
inductive Did where
  | mk (f : Ev → St → Option (AV × St))
  | call (f : X) (args : List X)

/-- Two numbers. -/
def two (x y : X) (f : IntKind → Int → Int → Option AV) (g : AV → AV → Option AV) (ev : Ev) (s : St) : Option (AV × St) :=
  match ev x with
  | none => none
  | some a => match ev y with
    | none => none
    | some b => match a with
      | .int k m => match b with
        | .int k' n => if k = k' then pureA s (f k m n) else none
        | _ => pureA s (g a b)
      | _ => pureA s (g a b)

def fAdd (k : IntKind) (a b : Int) : Option AV := some (.int k (wrapF k (a + b)))
def fSub (k : IntKind) (a b : Int) : Option AV := some (.int k (wrapF k (a - b)))
def fMul (k : IntKind) (a b : Int) : Option AV := some (.int k (wrapF k (a * b)))
theorem fAdd_eq : fAdd = intBin .add := by funext k a b; simp only [fAdd, intBin, wrapF_eq]
theorem fSub_eq : fSub = intBin .sub := by funext k a b; simp only [fSub, intBin, wrapF_eq]
theorem fMul_eq : fMul = intBin .mul := by funext k a b; simp only [fMul, intBin, wrapF_eq]
def fLss (_ : IntKind) (a b : Int) : Option AV := some (.bool (ltF a b))
def fGtr (_ : IntKind) (a b : Int) : Option AV := some (.bool (ltF b a))
def fLeq (_ : IntKind) (a b : Int) : Option AV := some (.bool (!ltF b a))
def fGeq (_ : IntKind) (a b : Int) : Option AV := some (.bool (!ltF a b))
def fEql (_ : IntKind) (a b : Int) : Option AV := some (.bool (eqF a b))
def fNeq (_ : IntKind) (a b : Int) : Option AV := some (.bool (!eqF a b))
theorem not_lt_le (a b : Int) : (!decide (b < a)) = decide (a ≤ b) := by
  apply Bool.eq_iff_iff.2
  simp
theorem fLss_eq : fLss = intBin .lss := by funext k a b; simp only [fLss, intBin, ltF_eq]
theorem fGtr_eq : fGtr = intBin .gtr := by funext k a b; simp only [fGtr, intBin, ltF_eq, gt_iff_lt]
theorem fLeq_eq : fLeq = intBin .leq := by funext k a b; simp only [fLeq, intBin, ltF_eq, not_lt_le]
theorem fGeq_eq : fGeq = intBin .geq := by funext k a b; simp only [fGeq, intBin, ltF_eq, not_lt_le, ge_iff_le]
theorem fEql_eq : fEql = intBin .eql := by funext k a b; simp only [fEql, intBin, eqF_eq]
theorem fNeq_eq : fNeq = intBin .neq := by funext k a b; simp only [fNeq, intBin, eqF_eq, bne]
def x_convIntF (k : IntKind) (x : X) (ev : Ev) (s : St) : Option (AV × St) :=
  match ev x with
  | some (.int _ n) => some (.int k (wrapF k n), s)
  | _ => none
theorem x_convIntF_eq (k : IntKind) (x : X) (ev : Ev) (s : St) : x_convIntF k x ev s = x_convInt k x ev s := by
  unfold x_convIntF x_convInt
  simp only [wrapF_eq]

def binF (op : BinOp) (e : EqK) (x y : X) : Ev → St → Option (AV × St) :=
  match op with
  | .shl => x_bin .shl e x y
  | .shr => x_bin .shr e x y
  | .add => two x y fAdd (binA .add e)
  | .sub => two x y fSub (binA .sub e)
  | .mul => two x y fMul (binA .mul e)
  | .quo => two x y (intBin .quo) (binA .quo e)
  | .rem => two x y (intBin .rem) (binA .rem e)
  | .and => two x y (intBin .and) (binA .and e)
  | .or => two x y (intBin .or) (binA .or e)
  | .xor => two x y (intBin .xor) (binA .xor e)
  | .andNot => two x y (intBin .andNot) (binA .andNot e)
  | .eql => two x y fEql (binA .eql e)
  | .neq => two x y fNeq (binA .neq e)
  | .lss => two x y fLss (binA .lss e)
  | .leq => two x y fLeq (binA .leq e)
  | .gtr => two x y fGtr (binA .gtr e)
  | .geq => two x y fGeq (binA .geq e)

theorem two_eq {op : BinOp} {e : EqK} (h1 : op ≠ .shl) (h2 : op ≠ .shr) (x y : X) (ev : Ev) (s : St) : two x y (intBin op) (binA op e) ev s = x_bin op e x y ev s := by
  unfold two x_bin
  cases ev x with
  | none => rfl
  | some a => cases ev y with
    | none => rfl
    | some b =>
      simp only []
      cases a with
      | int k m => cases b with
        | int k' n =>
          simp only []
          by_cases hk : k = k'
          · rw [if_pos hk]
            cases op <;> first | exact absurd rfl h1 | exact absurd rfl h2 | (simp only [binA, hk, if_true])
          · rw [if_neg hk]
            cases op <;> first | exact absurd rfl h1 | exact absurd rfl h2 | (simp only [binA, hk, if_false]; rfl)
        | _ => rfl
      | _ => rfl

theorem binF_eq (op : BinOp) (e : EqK) (x y : X) (ev : Ev) (s : St) : binF op e x y ev s = x_bin op e x y ev s := by
  cases op
  case shl => rfl
  case shr => rfl
  case add => show two x y fAdd _ ev s = _; rw [fAdd_eq]; exact two_eq (by simp) (by simp) x y ev s
  case sub => show two x y fSub _ ev s = _; rw [fSub_eq]; exact two_eq (by simp) (by simp) x y ev s
  case lss => show two x y fLss _ ev s = _; rw [fLss_eq]; exact two_eq (by simp) (by simp) x y ev s
  case gtr => show two x y fGtr _ ev s = _; rw [fGtr_eq]; exact two_eq (by simp) (by simp) x y ev s
  case leq => show two x y fLeq _ ev s = _; rw [fLeq_eq]; exact two_eq (by simp) (by simp) x y ev s
  case geq => show two x y fGeq _ ev s = _; rw [fGeq_eq]; exact two_eq (by simp) (by simp) x y ev s
  case eql => show two x y fEql _ ev s = _; rw [fEql_eq]; exact two_eq (by simp) (by simp) x y ev s
  case neq => show two x y fNeq _ ev s = _; rw [fNeq_eq]; exact two_eq (by simp) (by simp) x y ev s
  case mul => show two x y fMul _ ev s = _; rw [fMul_eq]; exact two_eq (by simp) (by simp) x y ev s
  all_goals exact two_eq (by simp) (by simp) x y ev s

/- Rows of cells: walked no further than needed. -/
def getF (l : List AV) : Nat → Option AV :=
  List.rec (motive := fun _ => Nat → Option AV) (fun _ => none) (fun a _ ih k => Nat.rec (motive := fun _ => Option AV) (some a) (fun k _ => ih k) k) l
theorem getF_eq : ∀ (l : List AV) (k : Nat), getF l k = l[k]?
  | [], _ => rfl
  | _ :: _, 0 => rfl
  | a :: l, k + 1 => by
    show getF l k = _
    rw [getF_eq l k, List.getElem?_cons_succ]
def dropF (l : List AV) : Nat → List AV :=
  List.rec (motive := fun _ => Nat → List AV) (fun _ => []) (fun a r ih k => Nat.rec (motive := fun _ => List AV) (a :: r) (fun k _ => ih k) k) l
theorem dropF_eq : ∀ (l : List AV) (k : Nat), dropF l k = l.drop k
  | [], k => by show [] = _; simp
  | _ :: _, 0 => rfl
  | a :: l, k + 1 => by
    show dropF l k = _
    rw [dropF_eq l k, List.drop_succ_cons]
def takeL (l : List AV) : Nat → List AV :=
  List.rec (motive := fun _ => Nat → List AV) (fun _ => []) (fun a _ ih k => Nat.rec (motive := fun _ => List AV) [] (fun k _ => a :: ih k) k) l
theorem takeL_eq : ∀ (l : List AV) (k : Nat), takeL l k = l.take k
  | [], k => by show [] = _; simp
  | _ :: _, 0 => rfl
  | a :: l, k + 1 => by
    show a :: takeL l k = _
    rw [takeL_eq l k, List.take_succ_cons]
def hasF (l : List AV) : Nat → Bool :=
  List.rec (motive := fun _ => Nat → Bool) (fun k => Nat.rec (motive := fun _ => Bool) true (fun _ _ => false) k) (fun _ _ ih k => Nat.rec (motive := fun _ => Bool) true (fun k _ => ih k) k) l
theorem hasF_eq : ∀ (l : List AV) (k : Nat), hasF l k = decide (k ≤ l.length)
  | [], 0 => rfl
  | [], k + 1 => by
    show false = _
    simp
  | _ :: _, 0 => by
    show true = _
    simp
  | a :: l, k + 1 => by
    show hasF l k = _
    rw [hasF_eq l k]
    simp
def lenF (l : List AV) : Nat → Bool :=
  List.rec (motive := fun _ => Nat → Bool) (fun k => Nat.rec (motive := fun _ => Bool) true (fun _ _ => false) k) (fun _ _ ih k => Nat.rec (motive := fun _ => Bool) false (fun k _ => ih k) k) l
theorem lenF_eq : ∀ (l : List AV) (k : Nat), lenF l k = decide (l.length = k)
  | [], 0 => rfl
  | [], k + 1 => by
    show false = _
    simp
  | _ :: _, 0 => by
    show false = _
    simp
  | a :: l, k + 1 => by
    show lenF l k = _
    rw [lenF_eq l k]
    simp
def chk (l : List AV) : List AV → Bool :=
  List.rec (motive := fun _ => List AV → Bool) (fun _ => true) (fun x _ ih ys => Bool.rec (motive := fun _ => Bool) false (List.rec (motive := fun _ => Bool) false (fun _ r _ => ih r) ys) x.cell) l
theorem chk_eq : ∀ (l ys : List AV), chk l ys = (allCell l && decide (l.length ≤ ys.length))
  | [], ys => by
    show true = _
    simp [allCell]
  | x :: l, ys => by
    show Bool.rec (motive := fun _ => Bool) false (List.rec (motive := fun _ => Bool) false (fun _ r _ => chk l r) ys) x.cell = _
    cases hx : x.cell with
    | false => simp [allCell, hx]
    | true => cases ys with
      | nil => simp
      | cons y r =>
        show chk l r = _
        rw [chk_eq l r]
        simp [allCell, hx]
/-- 0: no; 1: there is more behind; 2: just as many. -/
def chk2 (l : List AV) : List AV → Nat :=
  List.rec (motive := fun _ => List AV → Nat) (fun ys => List.rec (motive := fun _ => Nat) 2 (fun _ _ _ => 1) ys) (fun x _ ih ys => Bool.rec (motive := fun _ => Nat) 0 (List.rec (motive := fun _ => Nat) 0 (fun _ r _ => ih r) ys) x.cell) l
theorem chk2_eq : ∀ (l ys : List AV), chk2 l ys = if (allCell l && decide (l.length ≤ ys.length)) = true then (if l.length = ys.length then 2 else 1) else 0
  | [], [] => rfl
  | [], y :: r => by
    show 1 = _
    simp [allCell]
  | x :: l, ys => by
    show Bool.rec (motive := fun _ => Nat) 0 (List.rec (motive := fun _ => Nat) 0 (fun _ r _ => chk2 l r) ys) x.cell = _
    cases hx : x.cell with
    | false => simp [allCell, hx]
    | true => cases ys with
      | nil => simp
      | cons y r =>
        show chk2 l r = _
        rw [chk2_eq l r]
        simp [allCell, hx]
def overF (l : List AV) : List AV → List AV :=
  List.rec (motive := fun _ => List AV → List AV) (fun ys => ys) (fun x _ ih ys => x :: ih (List.rec (motive := fun _ => List AV) [] (fun _ r _ => r) ys)) l
theorem overF_eq : ∀ (l ys : List AV), overF l ys = l ++ ys.drop l.length
  | [], ys => rfl
  | x :: l, ys => by
    show x :: overF l _ = _
    rw [overF_eq l]
    cases ys <;> simp
def spliceF (l : List AV) (vs : List AV) : Nat → List AV :=
  List.rec (motive := fun _ => Nat → List AV) (fun _ => overF l []) (fun y r ih k => Nat.rec (motive := fun _ => List AV) (overF l (y :: r)) (fun k _ => y :: ih k) k) vs
theorem spliceF_eq (l : List AV) : ∀ (vs : List AV) (k : Nat), spliceF l vs k = splice vs k l
  | [], k => by
    show overF l [] = _
    rw [overF_eq]
    simp [splice]
  | y :: r, 0 => by
    show overF l (y :: r) = _
    rw [overF_eq]
    simp [splice]
  | y :: r, k + 1 => by
    show y :: spliceF l r k = _
    rw [spliceF_eq l r k]
    simp [splice, Nat.add_right_comm]
def appF (l : List AV) (m : List AV) : List AV :=
  List.rec (motive := fun _ => List AV) m (fun x _ ih => x :: ih) l
theorem appF_eq : ∀ (l m : List AV), appF l m = l ++ m
  | [], _ => rfl
  | x :: l, m => by
    show x :: appF l m = _
    rw [appF_eq l m]; rfl

def ldF (d : List AV) (n : Nat) : Option (List AV) := match lenF d n with
  | true => some d
  | false => match hasF d n with
    | true => some (takeL d n)
    | false => none
theorem ldF_eq (d : List AV) (n : Nat) : ldF d n = if n ≤ d.length then some (d.take n) else none := by
  unfold ldF
  rw [lenF_eq, hasF_eq, takeL_eq]
  by_cases h : d.length = n
  · rw [decide_eq_true h, if_pos (by omega), ← h, List.take_length]
  · rw [decide_eq_false h]
    by_cases h2 : n ≤ d.length
    · rw [decide_eq_true h2, if_pos h2]
    · rw [decide_eq_false h2, if_neg h2]
def loadAF (s : St) (b o n : Nat) : Option (List AV) := match s.get b with
  | some (.cells vs _ _ _) => match n with
    | 0 => if o ≤ vs.length then some [] else none
    | n + 1 => ldF (dropF vs o) (n + 1)
  | _ => none
theorem loadAF_eq (s : St) (b o n : Nat) : loadAF s b o n = loadA s b o n := by
  unfold loadAF loadA
  split
  · rename_i vs _ _ _ hg
    rw [hg]
    dsimp only
    cases n with
    | zero => simp
    | succ n =>
      dsimp only
      rw [ldF_eq, dropF_eq, List.length_drop]
      by_cases h : o + (n + 1) ≤ vs.length
      · rw [if_pos h, if_pos (by omega)]
      · rw [if_neg h, if_neg (by omega)]
  · rename_i hn
    split
    · rename_i hg; exact (hn _ _ _ _ hg).elim
    · rfl
def storeAF (s : St) (b o : Nat) (l : List AV) : Option St := match s.get b with
  | some (.cells vs lo false z) => match l with
    | [] => if o ≤ vs.length then some (s.put b (.cells (splice vs o []) lo false z)) else none
    | x :: r => match chk2 (x :: r) (dropF vs o) with
      | 0 => none
      | 1 => some (s.put b (.cells (spliceF (x :: r) vs o) lo false z))
      | _ => some (s.put b (.cells (appF (takeL vs o) (x :: r)) lo false z))
  | _ => none
theorem storeAF_eq (s : St) (b o : Nat) (l : List AV) : storeAF s b o l = storeA s b o l := by
  unfold storeAF storeA
  split
  · rename_i vs lo z hg
    rw [hg]
    dsimp only
    cases l with
    | nil => simp [allCell]
    | cons x r =>
      dsimp only
      rw [chk2_eq, dropF_eq, spliceF_eq, List.length_drop]
      by_cases h : o + (x :: r).length ≤ vs.length ∧ allCell (x :: r) = true
      · rw [if_pos h, h.2, show decide ((x :: r).length ≤ vs.length - o) = true by rw [decide_eq_true_eq]; omega]
        by_cases h2 : (x :: r).length = vs.length - o
        · rw [Bool.and_self, if_pos rfl, if_pos h2]
          show some (s.put b (.cells (appF (takeL vs o) (x :: r)) lo false z)) = _
          rw [appF_eq, takeL_eq]
          unfold splice
          rw [List.drop_eq_nil_of_le (by omega), List.append_nil]
        · rw [Bool.and_self, if_pos rfl, if_neg h2]
          rfl
      · rw [if_neg h]
        have : (allCell (x :: r) && decide ((x :: r).length ≤ vs.length - o)) = false := by
          rw [Bool.and_eq_false_iff, decide_eq_false_iff_not]
          by_cases hc : allCell (x :: r) = true
          · right
            have hl : 0 < (x :: r).length := Nat.succ_pos _
            intro h2
            exact h ⟨by omega, hc⟩
          · left; simpa using hc
        rw [this]
        rfl
  · rename_i hn
    split
    · rename_i hg; exact (hn _ _ _ hg).elim
    · rfl

def x_load1F (a : X) (ev : Ev) (s : St) : Option (AV × St) :=
  match ev a with
    | some (.ptr b o) => match s.get b with
      | some (.cells vs _ _ _) => pureA s (getF vs o)
      | _ => none
    | _ => none
theorem x_load1F_eq (a : X) (ev : Ev) (s : St) : x_load1F a ev s = x_load1 a ev s := by
  unfold x_load1F x_load1
  simp only [getF_eq]
def x_loadNF (n : Nat) (a : X) (ev : Ev) (s : St) : Option (AV × St) :=
  match ev a with
    | some (.ptr b o) => match loadAF s b o n with
      | some l => some (.agg l, s)
      | none => none
    | _ => none
theorem x_loadNF_eq (n : Nat) (a : X) (ev : Ev) (s : St) : x_loadNF n a ev s = x_loadN n a ev s := by
  unfold x_loadNF x_loadN
  simp only [loadAF_eq]
def x_storeF (n : Nat) (a : X) (v : X) (ev : Ev) (s : St) : Option (AV × St) :=
  match ev a, ev v with
    | some (.ptr b o), some v => match lenF v.cells n with
      | true => match storeAF s b o v.cells with
        | some s' => some (undefA, s')
        | none => none
      | false => none
    | _, _ => none
theorem x_storeF_eq (n : Nat) (a v : X) (ev : Ev) (s : St) : x_storeF n a v ev s = x_store n a v ev s := by
  unfold x_storeF x_store
  simp only [storeAF_eq, lenF_eq]
  split
  · rename_i v _ _
    by_cases h : v.cells.length = n
    · rw [if_pos h, decide_eq_true h]
    · rw [if_neg h, decide_eq_false h]
  · rfl
def srcAF (s : St) (esz : Nat) : AV → Option (Nat × List AV)
  | .slice b o len _ _ => match loadAF s b o (len * esz) with
    | some l => some (len, l)
    | none => none
  | v => srcA s esz v
theorem srcAF_eq (s : St) (esz : Nat) (v : AV) : srcAF s esz v = srcA s esz v := by
  unfold srcAF
  split
  · rw [loadAF_eq]; rfl
  · rfl
def x_copyF (esz : Nat) (d : X) (x : X) (ev : Ev) (s : St) : Option (AV × St) :=
  match ev d, ev x with
    | some d, some x => match srcAF s esz x with
      | none => none
      | some (n, l) => match d with
        | .nilSlice => some (.int .i64 0, s)
        | .tail .. => some (.int .i64 0, s)
        | .slice b o len _ _ => if min n len = 0 then some (.int .i64 0, s) else match storeAF s b o (takeL l (min n len * esz)) with
          | some s' => some (.int .i64 (min n len : Nat), s')
          | none => none
        | _ => none
    | _, _ => none
theorem x_copyF_eq (esz : Nat) (d x : X) (ev : Ev) (s : St) : x_copyF esz d x ev s = x_copy esz d x ev s := by
  unfold x_copyF x_copy
  simp only [srcAF_eq, storeAF_eq, takeL_eq]
def appendAF (esz ebytes : Nat) (s : St) (x : AV) (n : Nat) (new : List AV) : Option (AV × St) :=
  match x with
  | .nilSlice => if n = 0 then some (.nilSlice, s) else if n * ebytes ≤ 2 ^ 46 then newA s (.cells new true false esz) (.slice s.next 0 n n true) else none
  | .slice b o len cap loose =>
    if len + n ≤ cap then
      if n = 0 then some (.slice b o len cap loose, s) else
      match storeAF s b (o + len * esz) new with
      | some s' => some (.slice b o (len + n) cap loose, s')
      | none => none
    else if (len + n) * ebytes ≤ 2 ^ 46 then
      match loadAF s b o (len * esz) with
      | none => none
      | some old =>
        if loose then
          if o = 0 then
            match s.get b with
            | some (.cells vs true false z) => if z = esz ∧ lenF vs (cap * esz) = true ∧ allCell new = true then
                some (.slice s.next 0 (len + n) (len + n) true, (s.drop b).new (.cells (appF old new) true false esz)) else none
            | _ => none
          else none
        else newA s (.cells (appF old new) true false esz) (.slice s.next 0 (len + n) (len + n) true)
    else none
  | _ => none
theorem appendAF_eq (esz eb : Nat) (s : St) (x : AV) (n : Nat) (new : List AV) : appendAF esz eb s x n new = appendA esz eb s x n new := by
  unfold appendAF appendA
  simp only [storeAF_eq, loadAF_eq, appF_eq, lenF_eq]
  cases x with
  | slice b o len cap loose =>
    dsimp only
    refine ite_congr rfl (fun _ => rfl) fun _ => ite_congr rfl (fun _ => ?_) fun _ => rfl
    cases loadA s b o (len * esz) with
    | none => rfl
    | some old =>
      dsimp only
      refine ite_congr rfl (fun _ => ite_congr rfl (fun _ => ?_) fun _ => rfl) fun _ => rfl
      split
      · rename_i hg
        rw [hg]
        exact ite_congr (by simp only [decide_eq_true_eq]) (fun _ => rfl) fun _ => rfl
      · rename_i hn
        split
        · rename_i hg; exact (hn _ _ hg).elim
        · rfl
  | _ => rfl
def x_appendF (esz : Nat) (eb : Nat) (_u2 : List AV) (x : X) (y : X) (ev : Ev) (s : St) : Option (AV × St) :=
  match ev x, ev y with
    | some x, some y => match srcAF s esz y with
      | some (n, l) => match lenF l (n * esz) with
        | true => appendAF esz eb s x n l
        | false => none
      | none => none
    | _, _ => none
theorem x_appendF_eq (esz eb : Nat) (u : List AV) (x y : X) (ev : Ev) (s : St) : x_appendF esz eb u x y ev s = x_append esz eb u x y ev s := by
  unfold x_appendF x_append
  simp only [srcAF_eq, appendAF_eq, lenF_eq]
  split
  · split
    · rename_i n l _
      by_cases h : l.length = n * esz
      · rw [if_pos h, decide_eq_true h]
      · rw [if_neg h, decide_eq_false h]
    · rfl
  · rfl

def comp (p : POp) : Did :=
  match p with
  | .move a0 => .mk (x_move a0)
  | .pick a0 a1 a2 => .mk (x_pick a0 a1 a2)
  | .alloc a0 => .mk (x_alloc a0)
  | .box a0 => .mk (x_box a0)
  | .build a0 a1 => .mk (x_build a0 a1)
  | .buildSlice a0 a1 a2 a3 => .mk (x_buildSlice a0 a1 a2 a3)
  | .load1 a0 => .mk (x_load1F a0)
  | .loadN a0 a1 => .mk (x_loadNF a0 a1)
  | .store a0 a1 a2 => .mk (x_storeF a0 a1 a2)
  | .nilCheck a0 => .mk (x_nilCheck a0)
  | .bin a0 a1 a2 a3 => .mk (binF a0 a1 a2 a3)
  | .un a0 a1 => .mk (x_un a0 a1)
  | .convInt a0 a1 => .mk (x_convIntF a0 a1)
  | .convSame a0 => .mk (x_convSame a0)
  | .convStr a0 a1 => .mk (x_convStr a0 a1)
  | .convBytes a0 => .mk (x_convBytes a0)
  | .mkIface a0 a1 => .mk (x_mkIface a0 a1)
  | .mkFunc a0 a1 a2 => .mk (x_mkFunc a0 a1 a2)
  | .mkMap => .mk (x_mkMap)
  | .mkSlice a0 a1 a2 a3 a4 => .mk (x_mkSlice a0 a1 a2 a3 a4)
  | .sliceSl a0 a1 a2 a3 a4 => .mk (x_sliceSl a0 a1 a2 a3 a4)
  | .sliceStr a0 a1 a2 => .mk (x_sliceStr a0 a1 a2)
  | .sliceArr a0 a1 a2 a3 a4 a5 => .mk (x_sliceArr a0 a1 a2 a3 a4 a5)
  | .fieldAddr a0 a1 => .mk (x_fieldAddr a0 a1)
  | .field a0 a1 a2 => .mk (x_field a0 a1 a2)
  | .idxArr a0 a1 a2 a3 => .mk (x_idxArr a0 a1 a2 a3)
  | .idxSl a0 a1 a2 => .mk (x_idxSl a0 a1 a2)
  | .idxAgg a0 a1 a2 a3 a4 => .mk (x_idxAgg a0 a1 a2 a3 a4)
  | .idxStr a0 a1 => .mk (x_idxStr a0 a1)
  | .lookup a0 a1 a2 a3 => .mk (x_lookup a0 a1 a2 a3)
  | .mapUpd a0 a1 a2 => .mk (x_mapUpd a0 a1 a2)
  | .extract a0 a1 => .mk (x_extract a0 a1)
  | .append a0 a1 a2 a3 a4 => .mk (x_appendF a0 a1 a2 a3 a4)
  | .appendN a0 a1 a2 a3 a4 => .mk (x_appendN a0 a1 a2 a3 a4)
  | .copy a0 a1 a2 => .mk (x_copyF a0 a1 a2)
  | .lenArr a0 => .mk (x_lenArr a0)
  | .cap a0 => .mk (x_cap a0)
  | .minmax a0 a1 => .mk (x_minmax a0 a1)
  | .clearMap a0 => .mk (x_clearMap a0)
  | .clear a0 a1 => .mk (x_clear a0 a1)
  | .delete a0 a1 => .mk (x_delete a0 a1)
  | .call a0 a1 => .call a0 a1
  | .range a0 => .mk (x_range a0)
  | .next a0 => .mk (x_next a0)
  | .entry a0 => .mk (x_entry a0)
  | .fail => .mk (x_fail)
  | .len a0 a1 => .mk (x_len a0 a1)

def opValF (e : Eng) (p : POp) (ev : Ev) (s : St) : Option (AV × St) :=
  match comp p with
  | .mk f => f ev s
  | .call f args => x_callE e f args ev s

theorem opValF_eq (e : Eng) (p : POp) (ev : Ev) (s : St) : opValF e p ev s = opVal e p ev s := by
  cases p
  case call f args => show x_callE e f args ev s = _; unfold x_callE; rw [evsF_eq]; rfl
  case len k x => exact xopF_eq (.len k x) ev s
  case bin op k x y => exact binF_eq op k x y ev s
  case convInt k x => exact x_convIntF_eq k x ev s
  case load1 a => exact x_load1F_eq a ev s
  case loadN n a => exact x_loadNF_eq n a ev s
  case store n a v => exact x_storeF_eq n a v ev s
  case append a b c d e => exact x_appendF_eq a b c d e ev s
  case copy a b c => exact x_copyF_eq a b c ev s
  all_goals rfl

def opStepF (e : Eng) (p : PO) (ts : Tr AV) (s : St) : Option (Tr AV × St) :=
  match wantedA p.guard ts with
  | none => none
  | some false => some (putT p.dst undefA ts, s)
  | some true => match opValF e p.op (evOf ts) s with
    | none => none
    | some (v, s') => some (putT p.dst v ts, s')

theorem opStepF_eq (e : Eng) (p : PO) (ts : Tr AV) (s : St) : opStepF e p ts s = opStep e p ts s := by
  unfold opStepF opStep
  simp only [opValF_eq]
  rfl

noncomputable def runOpsF (e : Eng) (l : List PO) : Tr AV → St → Option (Tr AV × St) :=
  List.rec (motive := fun _ => Tr AV → St → Option (Tr AV × St)) (fun ts s => some (ts, s)) (fun p _ ih ts s => match opStepF e p ts s with
    | none => none
    | some (ts', s') => ih ts' s') l

theorem runOpsF_eq (e : Eng) : ∀ (l : List PO) (ts : Tr AV) (s : St), runOpsF e l ts s = runOps e l ts s
  | [], _, _ => rfl
  | p :: r, ts, s => by
    show (match opStepF e p ts s with | none => none | some (ts', s') => runOpsF e r ts' s') = _
    rw [opStepF_eq, runOps]
    split
    · rename_i h; rw [h]
    · rename_i ts' s' h; rw [h]; exact runOpsF_eq e r ts' s'

noncomputable def runSnapsF (e : Eng) (l : List PO) : Tr AV → St → List St → Option (Tr AV × St × List St) :=
  List.rec (motive := fun _ => Tr AV → St → List St → Option (Tr AV × St × List St)) (fun ts s acc => some (ts, s, s :: acc)) (fun p _ ih ts s acc => match opStepF e p ts s with
    | none => none
    | some (ts', s') => ih ts' s' (s :: acc)) l

theorem runSnapsF_eq (e : Eng) : ∀ (l : List PO) (ts : Tr AV) (s : St) (acc : List St), runSnapsF e l ts s acc = runSnaps e l ts s acc
  | [], _, _, _ => rfl
  | p :: r, ts, s, acc => by
    show (match opStepF e p ts s with | none => none | some (ts', s') => runSnapsF e r ts' s' (s :: acc)) = _
    rw [opStepF_eq, runSnaps]
    split
    · rename_i h; rw [h]
    · rename_i ts' s' h; rw [h]; exact runSnapsF_eq e r ts' s' _

def e_skip (_ : Eng) (_ : Option Nat) (ts : Tr AV) (ds : List Nat) (s : St) : Res := some (.normal, ts, ds, s)
noncomputable def e_region (ops : List PO) (e : Eng) (_ : Option Nat) (ts : Tr AV) (ds : List Nat) (s : St) : Res :=
  match runOpsF e ops ts s with
  | some (ts', s') => some (.normal, ts', ds, s')
  | none => none
noncomputable def e_drawn (ops : List PO) (looks : List Look) (e : Eng) (_ : Option Nat) (ts : Tr AV) (ds : List Nat) (s : St) : Res :=
  match runSnapsF e ops ts s [] with
  | some (ts', s', snaps) => if looksOk ops ts' snaps.reverse looks then some (.normal, ts', ds, s') else none
  | none => none
def e_seq (a b : PC) (e : Eng) (ro : Option Nat) (ts : Tr AV) (ds : List Nat) (s : St) : Res :=
  match e.ex ro a ts ds s with
  | some (.normal, ts', ds', s') => e.ex ro b ts' ds' s'
  | r => r
def e_cond (x : X) (a b : PC) (e : Eng) (ro : Option Nat) (ts : Tr AV) (ds : List Nat) (s : St) : Res :=
  match evOf ts x with
  | some (.bool true) => e.ex ro a ts ds s
  | some (.bool false) => e.ex ro b ts ds s
  | _ => none
def e_block (id : Nat) (a : PC) (e : Eng) (ro : Option Nat) (ts : Tr AV) (ds : List Nat) (s : St) : Res :=
  match e.ex ro a ts ds s with
  | some (.exit id', ts', ds', s') => some (if id' = id then .normal else .exit id', ts', ds', s')
  | r => r
def e_loop (a : PC) (e : Eng) (ro : Option Nat) (ts : Tr AV) (ds : List Nat) (s : St) : Res :=
  match e.ex ro a ts ds s with
  | some (.normal, ts', ds', s') => e.ex ro (.loop a) ts' ds' s'
  | r => r
def e_rangeF (f : X) (params : List Nat) (assign body : PC) (e : Eng) (ro : Option Nat) (ts : Tr AV) (ds : List Nat) (s : St) : Res :=
  match evOf ts f with
  | some fv => rangeA e ro fv params assign body ts ds s
  | none => none
def e_exit (id : Nat) (_ : Eng) (_ : Option Nat) (ts : Tr AV) (ds : List Nat) (s : St) : Res := some (.exit id, ts, ds, s)
def e_ret (_ : Eng) (_ : Option Nat) (ts : Tr AV) (ds : List Nat) (s : St) : Res := some (.ret, ts, ds, s)

noncomputable def exStepF (c : PC) : Eng → Option Nat → Tr AV → List Nat → St → Res :=
  match c with
  | .skip => e_skip
  | .region ops => e_region ops
  | .drawn ops looks => e_drawn ops looks
  | .seq a b => e_seq a b
  | .cond x a b => e_cond x a b
  | .block id a => e_block id a
  | .loop a => e_loop a
  | .rangeF f params assign body => e_rangeF f params assign body
  | .exit id => e_exit id
  | .ret => e_ret

theorem exStepF_eq (e : Eng) (ro : Option Nat) (c : PC) (ts : Tr AV) (ds : List Nat) (s : St) : exStepF c e ro ts ds s = exStep e ro c ts ds s := by
  cases c with
  | region ops => show e_region ops e ro ts ds s = _; unfold e_region; rw [runOpsF_eq]; rfl
  | drawn ops looks => show e_drawn ops looks e ro ts ds s = _; unfold e_drawn; rw [runSnapsF_eq]; rfl
  | _ => rfl

def finishF (fd : FD) (r : Res) : Option (AV × St) :=
  match r with
  | some (.exit _, _, _, _) => none
  | some (_, ts, ds, s) => match takeAllF ds s with
    | none => none
    | some s' => match ressAF ts s' fd.results with
      | none => none
      | some l => some (oneA l, s')
  | none => none
theorem finishF_eq (fd : FD) (r : Res) : finishF fd r = finish fd r := by
  unfold finishF finish
  simp only [takeAllF_eq, ressAF_eq]
  rfl

def callStepF (FT : Fns) (SM : Sums) (e : Eng) (f : Nat) (args : List AV) (s : St) : Option (AV × St) :=
  match SM f with
  | some g => g args s
  | none => match FT f with
    | none => none
    | some fd => match Nat.ble args.length fd.ntmps with
      | true => finishF fd (e.ex none fd.body (initTF args 0 .lf) [] s)
      | false => none
theorem callStepF_eq (FT : Fns) (SM : Sums) (e : Eng) (f : Nat) (args : List AV) (s : St) : callStepF FT SM e f args s = callStep FT SM e f args s := by
  unfold callStepF callStep
  cases SM f with
  | some g => rfl
  | none => cases FT f with
    | none => rfl
    | some fd =>
      simp only [finishF_eq, initTF_eq]
      cases Nat.ble args.length fd.ntmps <;> rfl

noncomputable def engF (FT : Fns) (SM : Sums) (n : Nat) : Eng :=
  Nat.rec (motive := fun _ => Eng) ⟨fun _ _ _ => none, fun _ _ _ _ _ => none⟩ (fun _ e => ⟨callStepF FT SM e, fun ro c ts ds s => exStepF c e ro ts ds s⟩) n

theorem engF_eq (FT : Fns) (SM : Sums) : ∀ n, engF FT SM n = eng FT SM n
  | 0 => rfl
  | n + 1 => by
    show (⟨callStepF FT SM (engF FT SM n), fun ro c ts ds s => exStepF c (engF FT SM n) ro ts ds s⟩ : Eng) = ⟨callStep FT SM (eng FT SM n), exStep (eng FT SM n)⟩
    rw [engF_eq FT SM n]
    congr 1
    · funext f args s; exact callStepF_eq _ _ _ f args s
    · funext ro c ts ds s; exact exStepF_eq _ ro c ts ds s
end
end Go.Proofs.YtobogmklajeekaaGreat.D
namespace Go.Proofs.YtobogmklajeekaaGreat.D
variable {P : Program}

/-- What gives what the machine itself gives may be taken as known. -/
theorem sumsOk_of_eng {FT : Fns} {SM SM' : Sums} (hm : P.follows .mixedOrders = true) (hFT : FnsOk P FT) (hSM : SumsOk P SM) (hSN : SumsNext SM)
    (h : ∀ f g, SM' f = some g → ∀ args s v s', g args s = some (v, s') → ∃ n, (eng FT SM n).call f args s = some (v, s')) : SumsOk P SM' := by
  intro f g hg args s v s' R μ w cargs hx hR hr hc
  obtain ⟨n, hn⟩ := h f g hg args s v s' hx
  exact (eng_sound hm hFT hSM hSN n).call hn hR hr hc

theorem sumsNext_of_eng {FT : Fns} {SM SM' : Sums} (hSN : SumsNext SM)
    (h : ∀ f g, SM' f = some g → ∀ args s v s', g args s = some (v, s') → ∃ n, (eng FT SM n).call f args s = some (v, s')) : SumsNext SM' := by
  intro f g args s v s' hg hx
  obtain ⟨n, hn⟩ := h f g hg args s v s' hx
  exact (eng_next hSN n).call hn

/-! ### crc.step -/

def stp (n : Nat) : Nat :=
  match Nat.beq (n / 2147483648) 1 with
  | true => Nat.xor (n * 2 % 4294967296) 79764919
  | false => n * 2 % 4294967296

def stps : Nat → Nat → Nat
  | 0, n => n
  | k + 1, n => stps k (stp n)

def crcStep (s c : Nat) : Nat := stps 8 (Nat.xor s (c * 16777216))

def stepBody : PC := (.seq (.region [⟨some 12, (.bin .lss .no (.t 11) (.c (.int .i64 8))), none⟩]) (.seq (.cond (.t 12) .skip (.exit 0)) (.seq (.block 1 (.seq (.region [⟨some 13, (.move (.t 0)), none⟩, ⟨some 14, (.bin .shr .no (.t 13) (.c (.int .u64 31))), none⟩, ⟨some 5, (.move (.t 14)), none⟩]) (.seq (.region [⟨some 15, (.move (.t 0)), none⟩, ⟨some 16, (.bin .shl .no (.t 15) (.c (.int .u64 1))), none⟩, ⟨some 0, (.move (.t 16)), none⟩]) (.seq (.region [⟨some 17, (.move (.t 5)), none⟩, ⟨some 18, (.bin .eql .no (.t 17) (.c (.int .u32 1))), none⟩]) (.cond (.t 18) (.region [⟨some 19, (.move (.t 0)), none⟩, ⟨some 20, (.bin .xor .no (.t 19) (.c (.int .u32 79764919))), none⟩, ⟨some 0, (.move (.t 20)), none⟩]) .skip))))) (.region [⟨some 21, (.bin .add .no (.t 11) (.c (.int .i64 1))), none⟩, ⟨some 11, (.move (.t 21)), none⟩]))))

def fdStep : FD := ⟨23, [(.tmp 4)], (.seq (.region [⟨some 4, (.move (.c (.int .u32 0))), none⟩]) (.seq (.region [⟨some 6, (.move (.t 0)), none⟩, ⟨some 7, (.move (.t 1)), none⟩, ⟨some 8, (.convInt .u32 (.t 7)), none⟩, ⟨some 9, (.bin .shl .no (.t 8) (.c (.int .u64 24))), none⟩, ⟨some 10, (.bin .xor .no (.t 6) (.t 9)), none⟩, ⟨some 0, (.move (.t 10)), none⟩]) (.seq (.seq (.region [⟨some 11, (.move (.c (.int .i64 0))), none⟩]) (.block 0 (.loop stepBody))) (.seq (.region [⟨some 22, (.move (.t 0)), none⟩, ⟨some 4, (.move (.t 22)), none⟩]) .ret))))⟩

theorem eng_ex {FT : Fns} {SM : Sums} (n : Nat) (ro : Option Nat) (c : PC) (ts : Tr AV) (ds : List Nat) (s : St) : (eng FT SM (n + 1)).ex ro c ts ds s = exStep (eng FT SM n) ro c ts ds s := rfl
theorem eng_call {FT : Fns} {SM : Sums} (n : Nat) (f : Nat) (args : List AV) (s : St) : (eng FT SM (n + 1)).call f args s = callStep FT SM (eng FT SM n) f args s := rfl

/-- One layer more. -/
noncomputable def up (FT : Fns) (SM : Sums) (e : Eng) : Eng := ⟨callStep FT SM e, exStep e⟩
theorem up_ex {FT : Fns} {SM : Sums} (e : Eng) (ro : Option Nat) (c : PC) (ts : Tr AV) (ds : List Nat) (s : St) : (up FT SM e).ex ro c ts ds s = exStep e ro c ts ds s := rfl
theorem up_call {FT : Fns} {SM : Sums} (e : Eng) (f : Nat) (args : List AV) (s : St) : (up FT SM e).call f args s = callStep FT SM e f args s := rfl
theorem eng_up {FT : Fns} {SM : Sums} (n : Nat) : eng FT SM (n + 1) = up FT SM (eng FT SM n) := rfl

theorem u32_wrap {n : Nat} : IntKind.u32.wrap (n : Int) = ((n % 4294967296 : Nat) : Int) := by
  simp [IntKind.wrap, IntKind.signed, IntKind.bits]

theorem xor_u32 {a b : Nat} (ha : a < 4294967296) (hb : b < 4294967296) : IntKind.u32.wrap ((BitVec.ofInt IntKind.u32.bits (a : Int) ^^^ BitVec.ofInt IntKind.u32.bits (b : Int)).toNat : Nat) = ((Nat.xor a b : Nat) : Int) := by
  rw [u32_wrap]
  have h1 : (BitVec.ofInt IntKind.u32.bits (a : Int)).toNat = a := by
    simp [IntKind.bits]; omega
  have h2 : (BitVec.ofInt IntKind.u32.bits (b : Int)).toNat = b := by
    simp [IntKind.bits]; omega
  rw [BitVec.toNat_xor, h1, h2]
  have h3 : a ^^^ b < 2 ^ 32 := Nat.xor_lt_two_pow ha hb
  have : (a ^^^ b) % 4294967296 = a ^^^ b := Nat.mod_eq_of_lt h3
  rw [this]
  rfl

theorem stp_lt {n : Nat} : stp n < 4294967296 := by
  unfold stp
  split
  · exact Nat.xor_lt_two_pow (n := 32) (Nat.mod_lt _ (by omega)) (by omega)
  · exact Nat.mod_lt _ (by omega)

theorem stepBody_run {FT : Fns} {SM : Sums} (k : Nat) {ts : Tr AV} {s : St} {n j : Nat} (h0 : ts.get 0 = some (.int .u32 n)) (h11 : ts.get 11 = some (.int .i64 j)) (hj : j < 8) :
    ∃ ts', (eng FT SM (k + 10)).ex none stepBody ts [] s = some (.normal, ts', [], s) ∧ ts'.get 0 = some (.int .u32 (stp n : Nat)) ∧ ts'.get 11 = some (.int .i64 ((j + 1 : Nat) : Int)) := by
  have hlt : decide ((j : Int) < 8) = true := by simp; omega
  have hsh : ((n : Int).fdiv (2 ^ 31)) = ((n / 2147483648 : Nat) : Int) := by
    rw [Int.fdiv_eq_ediv_of_nonneg _ (by omega)]
    rfl
  have hadd : IntKind.i64.wrap ((j : Int) + 1) = ((j + 1 : Nat) : Int) := by
    simp [IntKind.wrap, IntKind.signed, IntKind.bits]; omega
  have hmul : IntKind.u32.wrap ((n : Int) * 2 ^ 1) = ((n * 2 % 4294967296 : Nat) : Int) := by
    rw [show (n : Int) * 2 ^ 1 = ((n * 2 : Nat) : Int) by omega, u32_wrap]
  have hm1 : min (1 : Int).toNat IntKind.u32.bits = 1 := by decide
  have hm31 : min (31 : Int).toNat IntKind.u32.bits = 31 := by decide
  have hx : IntKind.u32.wrap ((BitVec.ofInt IntKind.u32.bits ((n * 2 % 4294967296 : Nat) : Int) ^^^ BitVec.ofInt IntKind.u32.bits 79764919).toNat : Nat) = ((Nat.xor (n * 2 % 4294967296) 79764919 : Nat) : Int) :=
    xor_u32 (a := n * 2 % 4294967296) (b := 79764919) (Nat.mod_lt _ (by omega)) (by omega)
  by_cases ht : n / 2147483648 = 1
  · have hs : stp n = Nat.xor (n * 2 % 4294967296) 79764919 := by
      unfold stp; rw [ht]
    have hb : (((n / 2147483648 : Nat) : Int) == 1) = true := by rw [ht]; rfl
    simp only [eng_ex, exStep, stepBody, runOps, opStep, wantedA, opVal, xop, evOf, putT, Tr.get_set, h0, h11, binA, intBin, hlt, ↓reduceIte, reduceCtorEq, Nat.reduceEqDiff, hsh, hm1, hm31, hmul, hx, hadd, Int.reduceLT, hb, hs,
      Option.some.injEq, Prod.mk.injEq, true_and, and_true, exists_eq_left']
  · have hs : stp n = n * 2 % 4294967296 := by
      unfold stp
      have : Nat.beq (n / 2147483648) 1 = false := by
        cases hq : Nat.beq (n / 2147483648) 1 with
        | false => rfl
        | true => exact absurd (Nat.eq_of_beq_eq_true hq) ht
      rw [this]
    have hb : (((n / 2147483648 : Nat) : Int) == 1) = false := by simp; omega
    simp only [eng_ex, exStep, stepBody, runOps, opStep, wantedA, opVal, xop, evOf, putT, Tr.get_set, h0, h11, binA, intBin, hlt, ↓reduceIte, reduceCtorEq, Nat.reduceEqDiff, hsh, hm1, hm31, hmul, hadd, Int.reduceLT, hb, hs,
      Option.some.injEq, Prod.mk.injEq, true_and, and_true, exists_eq_left']

theorem stepLoop_run {FT : Fns} {SM : Sums} : ∀ (m k : Nat) {ts : Tr AV} {s : St} {n j : Nat}, ts.get 0 = some (.int .u32 n) → ts.get 11 = some (.int .i64 j) → j + m = 8 →
    ∃ ts', (eng FT SM (k + m + 11)).ex none (.loop stepBody) ts [] s = some (.exit 0, ts', [], s) ∧ ts'.get 0 = some (.int .u32 (stps m n : Nat)) := by
  intro m
  induction m with
  | zero =>
    intro k ts s n j h0 h11 hj
    have hj8 : j = 8 := by omega
    subst hj8
    have hlt : decide (((8 : Nat) : Int) < 8) = false := by decide
    refine ⟨ts.set 12 (.bool false), ?_, ?_⟩
    · simp only [eng_ex, exStep, stepBody, runOps, opStep, wantedA, opVal, xop, evOf, putT, Tr.get_set, h11, binA, intBin, hlt, ↓reduceIte, Nat.add_zero]
    · rw [Tr.get_set, if_neg (by decide), h0]; rfl
  | succ m ih =>
    intro k ts s n j h0 h11 hj
    obtain ⟨ts1, h1, h2, h3⟩ := stepBody_run (FT := FT) (SM := SM) (s := s) (k + m + 1) h0 h11 (by omega)
    obtain ⟨ts2, g1, g2⟩ := ih k (s := s) h2 h3 (by omega)
    refine ⟨ts2, ?_, g2⟩
    rw [show k + (m + 1) + 11 = (k + m + 11) + 1 by omega, eng_ex]
    simp only [exStep]
    rw [show k + m + 11 = k + m + 1 + 10 by omega, h1]
    exact g1

noncomputable def sumStep (args : List AV) (s : St) : Option (AV × St) :=
  match args with
  | [.int .u32 n, .int .u8 c] => if n < 0 ∨ c < 0 ∨ 4294967296 ≤ n ∨ 256 ≤ c then none else some (.int .u32 (crcStep n.toNat c.toNat : Nat), s)
  | _ => none

theorem sumStep_run {FT : Fns} {SM : Sums} {f : Nat} (hf : FT f = some fdStep) (hs : SM f = none) {args : List AV} {s s' : St} {v : AV} (h : sumStep args s = some (v, s')) : (eng FT SM 41).call f args s = some (v, s') := by
  unfold sumStep at h
  split at h
  case h_2 => cases h
  rename_i ni ci
  split at h
  case isTrue => cases h
  rename_i hc
  cases h
  obtain ⟨n, rfl⟩ : ∃ n : Nat, ni = n := ⟨ni.toNat, by omega⟩
  obtain ⟨c, rfl⟩ : ∃ c : Nat, ci = c := ⟨ci.toNat, by omega⟩
  have hn : n < 4294967296 := by omega
  have hc' : c < 256 := by omega
  have w1 : IntKind.u32.wrap (c : Int) = (c : Int) := by
    rw [u32_wrap, Nat.mod_eq_of_lt (by omega)]
  obtain ⟨m, hmd⟩ : ∃ m, m = c * 16777216 := ⟨_, rfl⟩
  have w2 : IntKind.u32.wrap ((c : Int) * 2 ^ 24) = (m : Int) := by
    rw [show (c : Int) * 2 ^ 24 = ((c * 16777216 : Nat) : Int) by omega, ← hmd, u32_wrap, Nat.mod_eq_of_lt (by omega)]
  have hm : min (24 : Int).toNat IntKind.u32.bits = 24 := by decide
  have hx := xor_u32 (a := n) (b := m) hn (by omega)
  have hle : Nat.ble 2 23 = true := by decide
  have e1 : crcStep (n : Int).toNat (c : Int).toNat = stps 8 (Nat.xor n m) := by
    rw [hmd]; rfl
  rw [e1]
  clear hmd
  obtain ⟨T, hT⟩ : ∃ T, initT 0 [AV.int .u32 (n : Int), AV.int .u8 (c : Int)] .lf = T := ⟨_, rfl⟩
  have t0 : T.get 0 = some (.int .u32 n) := by rw [← hT, initT_get]; rfl
  have t1 : T.get 1 = some (.int .u8 c) := by rw [← hT, initT_get]; rfl
  obtain ⟨ts1, l1, l2⟩ := stepLoop_run (FT := FT) (SM := SM) 8 16 (s := s) (n := Nat.xor n m) (j := 0)
    (ts := ((((((((T.set 4 (.int .u32 0)).set 6 (.int .u32 n)).set 7 (.int .u8 c)).set 8 (.int .u32 c)).set 9 (.int .u32 (m : Nat))).set 10 (.int .u32 ((Nat.xor n m : Nat) : Int))).set 0 (.int .u32 ((Nat.xor n m : Nat) : Int))).set 11 (.int .i64 0)))
    (by simp [Tr.get_set]) (by simp [Tr.get_set]) rfl
  rw [show (41 : Nat) = 16 + 8 + 11 + 1 + 1 + 1 + 1 + 1 + 1 by rfl]
  simp only [eng_up (16 + 8 + 11 + 1 + 1 + 1 + 1 + 1), eng_up (16 + 8 + 11 + 1 + 1 + 1 + 1), eng_up (16 + 8 + 11 + 1 + 1 + 1), eng_up (16 + 8 + 11 + 1 + 1), eng_up (16 + 8 + 11 + 1), eng_up (16 + 8 + 11)]
  generalize eng FT SM (16 + 8 + 11) = E at l1 ⊢
  generalize stps 8 (Nat.xor n m) = V at l2 ⊢
  clear e1
  have hle : Nat.ble ([AV.int .u32 (n : Int), AV.int .u8 (c : Int)]).length fdStep.ntmps = true := rfl
  simp only [up_call, callStep, hs, hf, hle, if_true, hT]
  clear hT
  unfold fdStep
  generalize PC.loop stepBody = L at l1 ⊢
  simp only [up_ex, exStep, runOps, opStep, wantedA, opVal, xop, evOf, putT, Tr.get_set, t0, t1, reduceCtorEq, Nat.reduceEqDiff, binA, intBin, ↓reduceIte,
    Int.reduceLT, w1, w2, hm, hx, l1, l2, finish, takeAll, ressA, resA, oneA]
end Go.Proofs.YtobogmklajeekaaGreat.D
namespace Go.Proofs.YtobogmklajeekaaGreat.D
noncomputable section
variable {P : Program} {R : Nat}

abbrev NPost := AExit → Tr AV → List Nat → St → Prop

def NLeft (P : Program) (R : Nat) (μ : Place) (s : St) (w : World) (N : Nat) (Q : NPost) : Exit → Act → World → Prop :=
  fun e a' w' => ∃ x ts' ds' s', Q x ts' ds' s' ∧ Left P R μ s w N x ts' ds' s' e a' w'

theorem NLeft.trans {μ ν : Place} {s s1 : St} {w w1 : World} {N : Nat} {Q : NPost} {e : Exit} {a : Act} {w' : World} (m : Mv μ s w ν s1 w1) (h : NLeft P R ν s1 w1 N Q e a w') : NLeft P R μ s w N Q e a w' := by
  obtain ⟨x, ts', ds', s', h1, h2⟩ := h
  exact ⟨x, ts', ds', s', h1, h2.trans m⟩
theorem NLeft.mono {μ : Place} {s : St} {w : World} {N : Nat} {Q Q' : NPost} {e : Exit} {a : Act} {w' : World} (h : NLeft P R μ s w N Q e a w') (hq : ∀ x ts ds s, Q x ts ds s → Q' x ts ds s) : NLeft P R μ s w N Q' e a w' := by
  obtain ⟨x, ts', ds', s', h1, h2⟩ := h
  exact ⟨x, ts', ds', s', hq _ _ _ _ h1, h2⟩

/-- However a piece of code is left, it is as told. -/
def Nk (P : Program) (R : Nat) (pc : PC) (ts : Tr AV) (ds : List Nat) (s : St) (Q : NPost) : Prop :=
  ∀ (c : Code) (N : Nat) (a : Act) (μ : Place) (w : World) (n : Nat), prepC P c = some pc → okPC N pc = true → HR P R μ s w → TR μ ts a.tmps → a.tmps.size = N → DR μ ds a.defers → c.wpIn Fence.wide n P (NLeft P R μ s w N Q) a w
/-- The same, of a loop with that body. -/
def Nl (P : Program) (R : Nat) (pc : PC) (ts : Tr AV) (ds : List Nat) (s : St) (Q : NPost) : Prop :=
  ∀ (c : Code) (N : Nat) (a : Act) (μ : Place) (w : World) (n : Nat), prepC P c = some pc → okPC N pc = true → HR P R μ s w → TR μ ts a.tmps → a.tmps.size = N → DR μ ds a.defers → LoopIn Fence.wide n P c (NLeft P R μ s w N Q) a w

variable {ts : Tr AV} {ds : List Nat} {s : St} {Q : NPost}

theorem Nk.mono {pc : PC} {Q' : NPost} (h : Nk P R pc ts ds s Q) (hq : ∀ x ts ds s, Q x ts ds s → Q' x ts ds s) : Nk P R pc ts ds s Q' :=
  fun c N a μ w n hp hok h0 ht hN hd => wpIn_mono (h c N a μ w n hp hok h0 ht hN hd) fun _ _ _ hl => hl.mono hq

theorem Nk.of_Wk {M : Mach} (hm : P.follows .mixedOrders = true) (hFT : FnsOk P M.FT) (hSM : SumsOk P M.SM) (hSN : SumsNext M.SM) {pc : PC} (h : Wk M none [] pc ts ds s fun x ts' ds' s' => s'.next ≤ R ∧ Q x ts' ds' s') : Nk P R pc ts ds s Q := by
  obtain ⟨x, ts', ds', s', h1, h2⟩ := h
  rw [Wr_nil] at h2
  intro c N a μ w n hp hok h0 ht hN hd
  obtain ⟨k, hk⟩ := (sup_lim M.FT M.SM).ex _ _ _ _ _ _ h1
  exact wpIn_mono ((eng_sound hm hFT hSM hSN k).ex (ro := none) (F := Fence.wide) hk h2.1 h0 hp hok ht hN hd rfl n) fun e a' w' hl => ⟨x, ts', ds', s', h2.2, hl⟩

theorem prepC_reg {id : Nat} {ops : Array Oper} {draw : Bool} {pc : PC} (h : prepC P (.region id ops draw) = some pc) (h1 : ∀ l, pc ≠ .region l) (h2 : ∀ l k, pc ≠ .drawn l k) : False := by
  simp only [prepC] at h
  split at h
  · cases h
  · split at h
    · split at h
      · simp only [Option.some.injEq] at h; exact h2 _ _ h.symm
      · cases h
    · simp only [Option.some.injEq] at h; exact h1 _ h.symm
theorem prepC_seq {c : Code} {a b : PC} (h : prepC P c = some (.seq a b)) : ∃ c1 c2, c = .seq c1 c2 ∧ prepC P c1 = some a ∧ prepC P c2 = some b := by
  cases c with
  | seq c1 c2 =>
    simp only [prepC] at h
    split at h
    case h_1 => cases h
    rename_i p1 hp1
    split at h
    case h_1 => cases h
    rename_i p2 hp2
    cases h
    exact ⟨_, _, rfl, hp1, hp2⟩
  | region id ops draw => exact (prepC_reg h (by simp) (by simp)).elim
  | _ => exfalso; (unfold prepC at h; (repeat' split at h) <;> cases h)
theorem prepC_block {c : Code} {id : Nat} {a : PC} (h : prepC P c = some (.block id a)) : ∃ c1, c = .block id c1 ∧ prepC P c1 = some a := by
  cases c with
  | block id' c1 =>
    simp only [prepC] at h
    split at h
    case h_1 => cases h
    rename_i p1 hp1
    cases h
    exact ⟨_, rfl, hp1⟩
  | region id ops draw => exact (prepC_reg h (by simp) (by simp)).elim
  | _ => exfalso; (unfold prepC at h; (repeat' split at h) <;> cases h)
theorem prepC_loop {c : Code} {a : PC} (h : prepC P c = some (.loop a)) : ∃ c1, c = .loop c1 ∧ prepC P c1 = some a := by
  cases c with
  | loop c1 =>
    simp only [prepC] at h
    split at h
    case h_1 => cases h
    rename_i p1 hp1
    cases h
    exact ⟨_, rfl, hp1⟩
  | region id ops draw => exact (prepC_reg h (by simp) (by simp)).elim
  | _ => exfalso; (unfold prepC at h; (repeat' split at h) <;> cases h)
theorem prepC_cond {c : Code} {x : X} {a b : PC} (h : prepC P c = some (.cond x a b)) : ∃ o c1 c2, c = .cond o c1 c2 ∧ prepX o = some x ∧ prepC P c1 = some a ∧ prepC P c2 = some b := by
  cases c with
  | cond o c1 c2 =>
    simp only [prepC] at h
    split at h
    case h_1 => cases h
    rename_i z hz
    split at h
    case h_1 => cases h
    rename_i p1 hp1
    split at h
    case h_1 => cases h
    rename_i p2 hp2
    cases h
    exact ⟨_, _, _, rfl, hz, hp1, hp2⟩
  | region id ops draw => exact (prepC_reg h (by simp) (by simp)).elim
  | _ => exfalso; (unfold prepC at h; (repeat' split at h) <;> cases h)
theorem prepC_region {c : Code} {ps : List PO} (h : prepC P c = some (.region ps)) : ∃ id ops, c = .region id ops false ∧ prepPOs P ops.toList ops.toList = some ps := by
  cases c with
  | region id ops draw =>
    simp only [prepC] at h
    split at h
    case h_1 => cases h
    rename_i ps hps
    split at h
    · split at h <;> cases h
    · rename_i hdr
      cases h
      have : draw = false := by simpa using hdr
      subst this
      exact ⟨_, _, rfl, hps⟩
  | _ => exfalso; (unfold prepC at h; (repeat' split at h) <;> cases h)

theorem Nk.seq {a b : PC} (h : Nk P R a ts ds s fun x ts' ds' s' => match x with | .normal => Nk P R b ts' ds' s' Q | x => Q x ts' ds' s') : Nk P R (.seq a b) ts ds s Q := by
  intro c N ac μ w n hp hok h0 ht hN hd
  obtain ⟨c1, c2, rfl, hp1, hp2⟩ := prepC_seq hp
  simp only [okPC, Bool.and_eq_true] at hok
  refine wpIn_seq (wpIn_mono (h c1 N ac μ w n hp1 hok.1 h0 ht hN hd) ?_)
  rintro e a1 w1 ⟨x, ts1, ds1, s1, hq, rfl, ν, g1, g2, g3, g4, g5⟩
  cases x with
  | normal => exact wpIn_mono (hq c2 N a1 ν w1 n hp2 hok.2 g4 g1 g2 g3) fun _ _ _ hl => hl.trans g5
  | exit id => exact ⟨_, _, _, _, hq, rfl, ν, g1, g2, g3, g4, g5⟩
  | ret => exact ⟨_, _, _, _, hq, rfl, ν, g1, g2, g3, g4, g5⟩

theorem Nk.block {id : Nat} {a : PC} (h : Nk P R a ts ds s fun x ts' ds' s' => Q (match x with | .exit id' => if id' = id then .normal else .exit id' | x => x) ts' ds' s') : Nk P R (.block id a) ts ds s Q := by
  intro c N ac μ w n hp hok h0 ht hN hd
  obtain ⟨c1, rfl, hp1⟩ := prepC_block hp
  refine wpIn_block (wpIn_mono (h c1 N ac μ w n hp1 hok h0 ht hN hd) ?_)
  rintro e a1 w1 ⟨x, ts1, ds1, s1, hq, rfl, hl⟩
  cases x with
  | normal => exact ⟨_, _, _, _, hq, rfl, hl⟩
  | ret => exact ⟨_, _, _, _, hq, rfl, hl⟩
  | exit id' =>
    simp only [exitOf, Exit.inBlock]
    by_cases hid : id' = id
    · rw [if_pos hid]
      simp only [if_pos hid] at hq
      exact ⟨_, _, _, _, hq, rfl, hl⟩
    · rw [if_neg hid]
      simp only [if_neg hid] at hq
      exact ⟨_, _, _, _, hq, rfl, hl⟩

theorem Nk.cond {x : X} {a b : PC} {v : Bool} (hv : evOf ts x = some (.bool v)) (h : Nk P R (if v then a else b) ts ds s Q) : Nk P R (.cond x a b) ts ds s Q := by
  intro c N ac μ w n hp hok h0 ht hN hd
  obtain ⟨o, c1, c2, rfl, hx, hp1, hp2⟩ := prepC_cond hp
  simp only [okPC, Bool.and_eq_true] at hok
  have := evR_of ht _ _ _ hx hv
  simp only [conc, Option.some.injEq] at this
  cases v with
  | true => exact wpIn_cond (t := true) this.symm (h c1 N ac μ w n hp1 hok.1 h0 ht hN hd)
  | false => exact wpIn_cond (t := false) this.symm (h c2 N ac μ w n hp2 hok.2 h0 ht hN hd)

theorem Nl.step {a : PC} (h : Nk P R a ts ds s fun x ts' ds' s' => match x with | .normal => Nl P R a ts' ds' s' Q | x => Q x ts' ds' s') : Nl P R a ts ds s Q := by
  intro c N ac μ w n hp hok h0 ht hN hd
  refine LoopIn.step (wpIn_mono (h c N ac μ w n hp hok h0 ht hN hd) ?_)
  rintro e a1 w1 ⟨x, ts1, ds1, s1, hq, rfl, ν, g1, g2, g3, g4, g5⟩
  cases x with
  | normal => exact (hq c N a1 ν w1 n hp hok g4 g1 g2 g3).mono fun _ _ _ hl => hl.trans g5
  | exit id => exact ⟨_, _, _, _, hq, rfl, ν, g1, g2, g3, g4, g5⟩
  | ret => exact ⟨_, _, _, _, hq, rfl, ν, g1, g2, g3, g4, g5⟩

theorem Nk.loop {a : PC} (h : Nl P R a ts ds s Q) : Nk P R (.loop a) ts ds s Q := by
  intro c N ac μ w n hp hok h0 ht hN hd
  obtain ⟨c1, rfl, hp1⟩ := prepC_loop hp
  exact LoopIn.wpIn (h c1 N ac μ w n hp1 hok h0 ht hN hd)

/-- A loop, by what holds at its head. -/
theorem Nl.ind {a : PC} (I : Nat → Tr AV → St → Prop) (step : ∀ n ts s, I n ts s → (∀ m ts' s', m < n → I m ts' s' → Nl P R a ts' ds s' Q) → Nk P R a ts ds s fun x ts' ds' s' => match x with | .normal => Nl P R a ts' ds' s' Q | x => Q x ts' ds' s') :
    ∀ {n ts s}, I n ts s → Nl P R a ts ds s Q := by
  intro n
  induction n using Nat.strongRecOn with
  | ind n ih =>
    intro ts s h
    exact Nl.step (step n ts s h fun m ts' s' hm h' => ih m hm h')

theorem entriesR_mem {μ : Place} : ∀ {es : List (AV × AV × Nat)} {ces : List MapEntry} {c : MapEntry}, entriesR μ es ces → c ∈ ces → ∃ e ∈ es, entryR μ e c
  | [], [], _, _, h => by cases h
  | x :: l, y :: m, c, he, h => by
    rcases List.mem_cons.1 h with rfl | h
    · exact ⟨x, List.mem_cons_self .., he.1⟩
    · obtain ⟨e, h1, h2⟩ := entriesR_mem he.2 h
      exact ⟨e, List.mem_cons_of_mem _ h1, h2⟩
  | [], _ :: _, _, he, _ => he.elim
  | _ :: _, [], _, he, _ => he.elim
theorem entriesR_mem' {μ : Place} : ∀ {es : List (AV × AV × Nat)} {ces : List MapEntry} {e : AV × AV × Nat}, entriesR μ es ces → e ∈ es → ∃ c ∈ ces, entryR μ e c
  | [], [], _, _, h => by cases h
  | x :: l, y :: m, c, he, h => by
    rcases List.mem_cons.1 h with rfl | h
    · exact ⟨y, List.mem_cons_self .., he.1⟩
    · obtain ⟨e, h1, h2⟩ := entriesR_mem' he.2 h
      exact ⟨e, List.mem_cons_of_mem _ h1, h2⟩
  | [], _ :: _, _, he, _ => he.elim
  | _ :: _, [], _, he, _ => he.elim

theorem heap_drew (w : World) : w.drew.heap = w.heap := rfl
theorem prepOp_next {o : Oper} {x : X} (h : (prepOp P o).getD .fail = .next x) : ∃ y, o.op = .next y false ∧ prepX y = some x := by
  cases hp : prepOp P o with
  | none => rw [hp] at h; cases h
  | some q =>
    rw [hp] at h
    simp only [Option.getD_some] at h
    subst h
    cases ho : o.op with
    | next y b =>
      simp only [prepOp, ho] at hp
      cases b with
      | true => cases hp
      | false =>
        simp only [Bool.false_eq_true, if_false, Option.map_eq_some_iff] at hp
        obtain ⟨z, hz, e⟩ := hp
        cases e
        exact ⟨y, rfl, hz⟩
    | call c =>
      exfalso
      simp only [prepOp, ho] at hp
      cases hc : c.callee with
      | value y =>
        rw [hc] at hp
        simp only at hp
        split at hp
        · simp only [Option.map_eq_some_iff] at hp; obtain ⟨_, _, e⟩ := hp; cases e
        · cases hp
      | builtin b =>
        rw [hc] at hp
        simp only at hp
        split at hp
        · unfold prepBuiltin prepAppend prepCopy prepLen prepCap prepClear prepDelete at hp
          repeat' split at hp
          all_goals (cases hp)
        · cases hp
      | invoke a b => rw [hc] at hp; cases hp
    | _ =>
      exfalso
      unfold prepOp at hp
      rw [ho] at hp
      (try dsimp only at hp)
      repeat' split at hp
      all_goals first
        | (cases hp; done)
        | (simp only [Option.map_eq_some_iff] at hp; obtain ⟨_, _, hp⟩ := hp; cases hp; done)
        | (simp_all; done)

/-- A step of a loop over a map, and what is done with it in the same region. -/
theorem Nk.next {M : Mach} (hm : P.follows .mixedOrders = true) (hFT : FnsOk P M.FT) (hSM : SumsOk P M.SM) (hSN : SumsNext M.SM) {d it b r since last clock : Nat} {seen : List Nat} {es : List (AV × AV × Nat)} {ps : List PO}
    (g : ts.get it = some (.ptr b 0)) (hb : s.get b = some (.miter (some r) since seen last)) (hr : s.get r = some (.map es clock)) (hold : ∀ e ∈ es, e.2.2 < since) (hsc : since ≤ last) (hR : s.next ≤ R)
    (h0 : (∀ e ∈ es, seen.contains e.2.2 = true) → Wo M none [] none ps (ts.set d (.tup [.bool false])) ds s fun x ts' ds' s' => s'.next ≤ R ∧ Q x ts' ds' s')
    (h1 : ∀ e ∈ es, seen.contains e.2.2 = false → Wo M none [] none ps (ts.set d (.tup [.bool true, e.1, e.2.1])) ds (s.put b (.miter (some r) since (seen ++ [e.2.2]) clock)) fun x ts' ds' s' => s'.next ≤ R ∧ Q x ts' ds' s') :
    Nk P R (.region (⟨some d, .next (.t it), none⟩ :: ps)) ts ds s Q := by
  intro c N ac μ w n hp hok h0' ht hN hd
  obtain ⟨id, ops, rfl, hps⟩ := prepC_region hp
  refine wpIn_region ?_
  have hlen : ∃ o rest, ops.toList = o :: rest := by
    cases hl : ops.toList with
    | nil => rw [hl] at hps; cases hps
    | cons o rest => exact ⟨o, rest, rfl⟩
  obtain ⟨o, rest, hl⟩ := hlen
  have hps' := hps
  rw [hl] at hps'
  simp only [prepPOs] at hps'
  split at hps'
  case h_2 => cases hps'
  rename_i p hp1
  split at hps'
  case h_2 => cases hps'
  rename_i l hp2
  cases hps'
  obtain ⟨e1, e2⟩ := prepPO_op hp1
  obtain ⟨y, hoy, hyx⟩ := prepOp_next e1
  have hy : y = .tmp it := by
    cases y with
    | tmp t => simp only [prepX, Option.some.injEq, X.t.injEq] at hyx; rw [hyx]
    | const v => simp [prepX] at hyx
    | func f => simp [prepX] at hyx
    | global gg => cases hyx
  subst hy
  have hgd : o.guard = none := by
    cases hg : o.guard with
    | none => rfl
    | some jw =>
      obtain ⟨j, want⟩ := jw
      unfold prepPO at hp1
      rw [hg] at hp1
      simp only at hp1
      split at hp1
      · simp only [Option.some.injEq, PO.mk.injEq] at hp1
        exact absurd hp1.2.2 (by simp)
      · cases hp1
  have hsz : ops.size = rest.length + 1 := by rw [← Array.length_toList, hl]; rfl
  have hi : ∀ i : Nat, (o :: rest)[i]? = ops[i]? := by intro i; rw [← hl]; simp
  have hk0 : ops[0]? = some o := by rw [← hi 0]; rfl
  rw [List.range_eq_range', hsz, List.range'_succ]
  simp only [wpOpsIn, hk0]
  have hw : Region.wanted o (yielded ops ac.tmps) = true := by unfold Region.wanted; rw [hgd]
  rw [hw]
  simp only [if_true]
  refine ⟨fun f _ => trivial, ?_⟩
  rw [Oper.semAt_eq _ _ _ (fun c e => by rw [hoy] at e; cases e)]
  obtain ⟨cv, hcv, hcc⟩ := ht it _ g
  obtain ⟨pb, hpb, rfl⟩ := isSome_of_conc_ptr hcc
  have hev : ac.eval (.tmp it) = .pointer (some ⟨pb.1, 0, none⟩) := by simp [Act.eval, hcv]
  obtain ⟨pb', hpb', m', ⟨qm, hqm, rfl⟩, hit⟩ := h0'.obj _ _ hb
  rw [hpb] at hpb'; cases hpb'
  obtain ⟨ces, hce, her⟩ := h0'.mapAt hr hqm
  have hold' : ∀ x ∈ ces.toList, x.born < since := fun x hx => by
    obtain ⟨e, he, h3⟩ := entriesR_mem her hx
    rw [← h3.2.2]; exact hold e he
  have hexec : execOp ac.eval o = (do pure (.value (← Instr.next (.pointer (some ⟨pb.1, 0, none⟩)) false o.type))) := by
    simp only [execOp, hoy, hev]
  have hops : ops = ops.toList.toArray := by simp
  have hi' : ∀ i : Nat, rest[i]? = ops[0 + 1 + i]? := by
    intro i
    have := hi (i + 1)
    rw [List.getElem?_cons_succ] at this
    rw [this]; congr 1; omega
  have hok1 : okPOs N ps = true := by
    have : okPOs N (⟨some d, .next (.t it), none⟩ :: ps) = true := hok
    simp only [okPOs, Bool.and_eq_true] at this
    exact this.2
  have hdN : d < ac.tmps.size := by
    have : okPOs N (⟨some d, .next (.t it), none⟩ :: ps) = true := hok
    simp only [okPOs, Bool.and_eq_true] at this
    rw [hN]
    simpa using this.1
  have fin : ∀ (v : AV) (cvv : Value) (s1 : St) (w1 : World), conc μ v = some cvv → HR P R μ s1 w1 → Mv μ s w μ s1 w1 →
      (Wo M none [] none ps (ts.set d v) ds s1 fun x ts' ds' s' => s'.next ≤ R ∧ Q x ts' ds' s') → wpOpsIn Fence.wide n P ops (NLeft P R μ s w N Q) (List.range' (0 + 1) rest.length) (ac.put o.dst cvv) w1 := by
    intro v cvv s1 w1 k1 k2 k3 k4
    obtain ⟨ts', s', k5, k6⟩ := k4
    rw [Wr_nil] at k6
    obtain ⟨j, hj⟩ := (cont_runOps ps (ts.set d v) s1).fin _ _ (sup_lim M.FT M.SM) _ k5
    have e2' : o.dst = some d := e2.symm
    refine ops_wpIn (eng_sound hm hFT hSM hSN j) (ro := none) (F := Fence.wide) rest ps (0 + 1) _ _ s1 w1 μ (by rw [hl]; exact hp2) hi' hj k6.1 k2 ?_ (by rw [put_size]; exact hN) hok1 (by rw [put_defers]; exact hd) rfl ?_
    · rw [e2']
      exact ht.putT (d := some d) (fun t e => by cases e; exact hdN) k1
    · intro ξ a' w' u1 u2 u3 u4 u5
      exact ⟨_, _, _, _, k6.2, rfl, ξ, u1, u2, u3, u4, k3.trans u5⟩
  rcases run_next_at (P := P) w o.type pb.1 qm.1 since last seen.toArray ces clock hit hce hold' hsc with ⟨hz, hrun⟩ | ⟨e, he, w1, hw1, hrun⟩
  · rw [hexec]
    simp only [Sem.run_bind, hrun, Result.andThen_ok, Sem.run_pure]
    rw [Oper.uponIn_value]
    refine fin (.tup [.bool false]) _ s w (by simp [conc, concs]) h0' (Mv.refl h0' hR) (h0 fun e he => ?_)
    obtain ⟨cc, hcc, h3⟩ := entriesR_mem' her he
    have hem : leftOf ces seen.toArray = #[] := Array.eq_empty_of_size_eq_zero hz
    unfold leftOf at hem
    rw [Array.filter_eq_empty_iff] at hem
    have := hem cc (by simpa using hcc)
    rw [h3.2.2]
    simpa using this
  · rw [hexec]
    simp only [Sem.run_bind, hrun, Result.andThen_ok, Sem.run_pure]
    rw [Oper.uponIn_value]
    unfold leftOf at he
    simp only [Array.toList_filter, List.mem_filter] at he
    obtain ⟨x, hx, h3⟩ := entriesR_mem her he.1
    have hns : seen.contains x.2.2 = false := by rw [h3.2.2]; simpa using he.2
    have hpl : pb.1 < w.heap.size := (h0'.lt _ _ hpb).1
    have hh1 : w1.heap = w.heap := by rcases hw1 with rfl | rfl <;> rfl
    obtain ⟨t1, t2⟩ := h0'.turn (o' := .miter (some r) since (seen ++ [x.2.2]) clock) (w' := ChangeMaps.setBlock w1 pb.1 (.mapIter (some qm.1) since (seen.toArray.push e.born) clock)) hR hb hpb (by simp)
      ⟨some qm.1, ⟨qm, hqm, rfl⟩, by simp only [ChangeMaps.setBlock, hh1]; rw [h3.2.2, Array.getElem?_setIfInBounds_self_of_lt hpl]; simp⟩
      (by rcases hw1 with rfl | rfl <;> rfl) (by rcases hw1 with rfl | rfl <;> rfl) (by rcases hw1 with rfl | rfl; exact ⟨rfl, fun _ => Nat.le_refl _⟩; exact ⟨rfl, fun _ => Nat.le_succ _⟩) (by simp [ChangeMaps.setBlock, hh1])
      (fun k hk => by simp only [ChangeMaps.setBlock, hh1]; rw [Array.getElem?_setIfInBounds_ne (fun e => hk e.symm)])
    exact fin (.tup [.bool true, x.1, x.2.1]) _ _ _ (by simp [conc, concs, h3.1, h3.2.1]) t1 t2 (h1 x hx hns)

theorem Wo_range {M : Mach} {ro : Option Nat} {k : List Fk} {dr : Dr} {ops : List PO} {Q : Post} {d : Option Nat} {x : X} : Wo M ro k dr (⟨d, .range x, none⟩ :: ops) ts ds s Q = Wx M ro (xop (.range x) (evOf ts) s) d k (dr.push s) ops ts ds Q := Wo_op rfl
theorem Wo_entry {M : Mach} {ro : Option Nat} {k : List Fk} {dr : Dr} {ops : List PO} {Q : Post} {d : Option Nat} {x : X} : Wo M ro k dr (⟨d, .entry x, none⟩ :: ops) ts ds s Q = Wx M ro (xop (.entry x) (evOf ts) s) d k (dr.push s) ops ts ds Q := Wo_op rfl
attribute [go_sem] Wo_range Wo_entry

/-- However a function is left, it is as told. -/
def Nf (P : Program) (R : Nat) (f : Nat) (args : List AV) (s : St) (Q : AV → St → Prop) : Prop :=
  ∀ (μ : Place) (w : World) (cargs : List Value), HR P R μ s w → concs μ args = some cargs → ∀ n, CallsIn Fence.wide n P f cargs.toArray w fun e w' => ∃ v s', Q v s' ∧ Rets P R μ s w v s' e w'

theorem Nf.enter {FT : Fns} (hFT : FnsOk P FT) {f : Nat} {fd : FD} (hf : FT f = some fd) {args : List AV} (hlen : Nat.ble args.length fd.ntmps = true) {Q : AV → St → Prop}
    (h : Nk P R fd.body (initT 0 args .lf) [] s fun x ts ds s1 => s1.next ≤ R ∧ Fin fd.results Q x ts ds s1) : Nf P R f args s Q := by
  intro μ w cargs h0 hc n
  obtain ⟨fn, hfn, hp⟩ := hFT _ _ hf
  obtain ⟨c, hb, hpc, hpr, hname, hok, hnp⟩ := prepF_spec hp
  have hcl := concs_length hc
  have hle := Nat.le_of_ble_eq_true hlen
  have hsz : (cargs.toArray ++ Array.replicate (fn.ntmps - cargs.toArray.size) undef).size = fn.ntmps := by
    simp; omega
  refine callsIn_of_wp_marks hfn hb trivial ?_
  refine wpIn_mono (h c fn.ntmps { tmps := _, defers := [] } μ w n hpc hok h0 (TR.init hc _) hsz (show DR μ [] ([] : List Deferred) from trivial)) ?_
  rintro ex a1 w1 ⟨x, ts, ds, s1, ⟨hR, hne, s2, htk, l, hl, hq⟩, rfl, ν, g1, g2, g3, g4, g5⟩
  have leave : LeavesInM Fence.wide n P fn a1.tmps (fun e w' => ∃ v s', Q v s' ∧ Rets P R μ s w v s' e w') a1.defers .returning w1 := by
    refine leaves_sound htk hR g4 g3 fun w' k1 k2 => ?_
    obtain ⟨cv, r1, r2⟩ := run_results k1 g1 hpr hl
    exact ⟨cv, r1, _, _, hq, ν, r2, k1, g5.trans k2⟩
  cases x with
  | normal => exact leave
  | ret => exact leave
  | exit id => exact (hne _ rfl).elim

/-- Numbers left out. -/
def St.skip (s : St) (k : Nat) : St := { s with next := s.next + k }
theorem St.get_skip (s : St) (k b : Nat) : (s.skip k).get b = s.get b := rfl
theorem St.next_skip (s : St) (k : Nat) : (s.skip k).next = s.next + k := rfl

/-- What a call came to, told without any new block. -/
theorem canon0 {μ : Place} {s s1 : St} {w w' : World} {v : AV} {c : Value} {K : Nat} {v2 : AV} (h0 : HR P R μ s w) (hr : Rets P R μ s w v s1 (.returned c) w') (hf : Fr s s1) (hK : s1.next ≤ s.next + K) (hR : s.next + K ≤ R)
    (hv : ∀ ν : Place, conc ν v = some c → conc ν v2 = some c) : Rets P R μ s w v2 (s.skip K) (.returned c) w' := by
  obtain ⟨ν, h1, h2, h3⟩ := hr
  have hget : ∀ b x, (s.skip K).get b = some x → b < s.next ∧ s1.get b = some x := by
    intro b x hb
    rw [St.get_skip] at hb
    have := h0.dom b x hb
    exact ⟨this, (hf.get b this).trans hb⟩
  refine ⟨ν, hv ν h1, ⟨?_, ?_, ?_, ?_⟩, ⟨h3.le, h3.os, h3.output, h3.tape, h3.size, by simp [St.next_skip], ?_, ?_, h3.frame, ?_⟩⟩
  · intro b x hb
    exact h2.obj b x (hget b x hb).2
  · intro b d x y pb pd hb hd hpb hpd e
    exact h2.inj b d _ _ pb pd (hget b x hb).2 (hget d y hd).2 hpb hpd e
  · intro b z hz
    have := h2.lt _ _ hz
    refine ⟨this.1, ?_⟩
    simp only [St.next_skip]
    omega
  · intro b x hb
    have := (hget b x hb).1
    simp only [St.next_skip]
    omega
  · intro b z hz
    have := (h0.lt _ _ hz).2
    simp only [St.next_skip]
    omega
  · intro b z hz
    rcases h3.fresh b z hz with h4 | ⟨h4, h5, h6⟩
    · exact .inl h4
    · exact .inr ⟨h4, by simp only [St.next_skip]; omega, h6⟩
  · intro b vs l z x hb hx
    obtain ⟨h4, h5⟩ := h3.ro b vs l z x hb hx
    exact ⟨hb, h5⟩

/-- What a call came to, told by one new block alone. -/
theorem canon {μ : Place} {s s1 : St} {w w' : World} {v : AV} {c : Value} {K p : Nat} {o : AObj} {v2 : AV} (h0 : HR P R μ s w) (hr : Rets P R μ s w v s1 (.returned c) w') (hf : Fr s s1) (hK : s1.next ≤ s.next + K) (hR : s.next + K + 1 ≤ R) (hp : s.next ≤ p) (ho : s1.get p = some o)
    (hv : ∀ ν ν' : Place, ν.le ν' → ν' (s.next + K) = ν p → conc ν v = some c → conc ν' v2 = some c) : Rets P R μ s w v2 ((s.skip K).new o) (.returned c) w' := by
  obtain ⟨ν, h1, h2, h3⟩ := hr
  obtain ⟨q, hq, hoq⟩ := h2.obj _ _ ho
  have hnone : ν (s.next + K) = none := by
    cases e : ν (s.next + K) with
    | none => rfl
    | some x => have := (h2.lt _ _ e).2; omega
  have hle : ν.le (ν.add (s.next + K) q) := by
    intro b x hb
    unfold Place.add
    rw [if_neg]
    · exact hb
    · intro e; subst e; rw [hnone] at hb; cases hb
  have hself : (ν.add (s.next + K) q) (s.next + K) = some q := by simp [Place.add]
  have hget : ∀ b x, ((s.skip K).new o).get b = some x → (b = s.next + K ∧ x = o) ∨ (b < s.next ∧ s1.get b = some x ∧ b ≠ s.next + K) := by
    intro b x hb
    rw [St.get_new] at hb
    by_cases e : b = (s.skip K).next
    · rw [if_pos e] at hb; cases hb; exact .inl ⟨e, rfl⟩
    · rw [if_neg e, St.get_skip] at hb
      have := h0.dom b x hb
      exact .inr ⟨this, (hf.get b this).trans hb, e⟩
  have hpn : p < s1.next := h2.dom _ _ ho
  refine ⟨ν.add (s.next + K) q, hv ν _ hle (by rw [hself, hq]) h1, ⟨?_, ?_, ?_, ?_⟩, ⟨Place.le_trans h3.le hle, h3.os, h3.output, h3.tape, h3.size, by simp [St.next_skip]; omega, ?_, ?_, h3.frame, ?_⟩⟩
  · intro b x hb
    rcases hget b x hb with ⟨rfl, rfl⟩ | ⟨_, hb1, _⟩
    · exact ⟨q, hself, hoq.mono hle rfl⟩
    · obtain ⟨y, hy, hyo⟩ := h2.obj b x hb1
      exact ⟨y, hle _ _ hy, hyo.mono hle rfl⟩
  · intro b d x y pb pd hb hd hpb hpd e
    have old : ∀ b x z, b < s.next → s1.get b = some x → b ≠ s.next + K → (ν.add (s.next + K) q) b = some z → ν b = some z := by
      intro b x z _ _ hne hz
      unfold Place.add at hz
      rwa [if_neg hne] at hz
    rcases hget b x hb with ⟨rfl, rfl⟩ | ⟨hbl, hb1, hbn⟩ <;> rcases hget d y hd with ⟨rfl, rfl⟩ | ⟨hdl, hd1, hdn⟩
    · rfl
    · rw [hself] at hpb; cases hpb
      have := h2.inj p d _ _ q pd ho hd1 hq (old _ _ _ hdl hd1 hdn hpd) e
      omega
    · rw [hself] at hpd; cases hpd
      have := h2.inj b p _ _ pb q hb1 ho (old _ _ _ hbl hb1 hbn hpb) hq e
      omega
    · exact h2.inj b d _ _ pb pd hb1 hd1 (old _ _ _ hbl hb1 hbn hpb) (old _ _ _ hdl hd1 hdn hpd) e
  · intro b z hz
    unfold Place.add at hz
    by_cases e : b = s.next + K
    · rw [if_pos e] at hz; cases hz
      refine ⟨(h2.lt _ _ hq).1, .inl ?_⟩
      simp [St.next_skip, e]
    · rw [if_neg e] at hz
      have := h2.lt _ _ hz
      refine ⟨this.1, ?_⟩
      simp [St.next_skip]
      omega
  · intro b x hb
    rcases hget b x hb with ⟨rfl, rfl⟩ | ⟨hbl, _, _⟩
    · simp [St.next_skip]
    · simp [St.next_skip]; omega
  · intro b z hz
    have := (h0.lt _ _ hz).2
    simp [St.next_skip]
    omega
  · intro b z hz
    unfold Place.add at hz
    by_cases e : b = s.next + K
    · rw [if_pos e] at hz; cases hz
      refine .inr ⟨by omega, by simp [St.next_skip, e], ?_⟩
      rcases h3.fresh p q hq with h4 | ⟨_, _, h4⟩
      · have := (h0.lt _ _ h4).2
        omega
      · exact h4
    · rw [if_neg e] at hz
      rcases h3.fresh b z hz with h4 | ⟨h4, h5, h6⟩
      · exact .inl h4
      · exact .inr ⟨h4, by simp [St.next_skip]; omega, h6⟩
  · intro b vs l z x hb hx
    obtain ⟨h4, h5⟩ := h3.ro b vs l z x hb hx
    refine ⟨?_, h5⟩
    have := h0.dom _ _ hb
    rw [St.get_new, if_neg (by simp [St.next_skip]; omega), St.get_skip]
    exact hb

theorem sumsOk_addI {SM : Sums} {f : Nat} {g : List AV → St → Option (AV × St)} (hfn : ∃ fn, P.funcs[f]? = some fn ∧ fn.body.isNone = false ∧ (fn.name == "runtime.NumGoroutine") = false)
    (hg : ∀ {args s v s' R μ w cargs}, g args s = some (v, s') → s'.next ≤ R → HR P R μ s w → concs μ args = some cargs → ∀ n, CallsIn Fence.wide n P f cargs.toArray w (Rets P R μ s w v s')) (h : SumsOk P SM) : SumsOk P (addSum SM f g) := by
  intro k g' hk args s v s' R μ w cargs hx hR hr hc
  unfold addSum at hk
  split at hk
  · rename_i e
    subst e
    cases hk
    exact ⟨hfn, hg hx hR hr hc⟩
  · exact h k g' hk hx hR hr hc
theorem sumsNext_addI {SM : Sums} {f : Nat} {g : List AV → St → Option (AV × St)} (hg : ∀ args s v s', g args s = some (v, s') → s.next ≤ s'.next) (h : SumsNext SM) : SumsNext (addSum SM f g) := by
  intro k g' args s v s' hk hx
  unfold addSum at hk
  split at hk
  · cases hk; exact hg args s v s' hx
  · exact h k g' args s v s' hk hx

/-- What a run came to, told with what is not asked for any more left out, and a new block under another number. -/
inductive Can (s : St) (v1 : AV) (s1 : St) (v : AV) (s' : St) : Prop
  | old (hv : v = v1) (hg : ∀ b o, s'.get b = some o → s1.get b = some o) (hn : s1.next ≤ s'.next) (hro : ∀ b vs l e, s.get b = some (.cells vs l true e) → s'.get b = some (.cells vs l true e))
  | new (t : St) (o : AObj) (p : Nat) (hs : s' = t.new o) (hg : ∀ b o, t.get b = some o → s1.get b = some o) (hn : s1.next ≤ t.next) (hro : ∀ b vs l e, s.get b = some (.cells vs l true e) → t.get b = some (.cells vs l true e))
      (hp : s1.get p = some o) (hpn : s.next ≤ p) (hpt : t.get p = none) (hv : ∀ (ν ν' : Place) (c : Value), ν.le ν' → ν' t.next = ν p → conc ν v1 = some c → conc ν' v = some c)

theorem Rets.can {μ : Place} {s s1 s' : St} {w w' : World} {v v1 : AV} {e : Ending} (h0 : HR P R μ s w) (hr : Rets P R μ s w v1 s1 e w') (hc : Can s v1 s1 v s') (hR : s'.next ≤ R) : Rets P R μ s w v s' e w' := by
  cases e with
  | panicked _ => exact hr.elim
  | outgrown => exact hr.elim
  | returned c =>
  obtain ⟨ν, h1, h2, h3⟩ := hr
  cases hc with
  | old hv hg hn hro =>
    subst hv
    refine ⟨ν, h1, ⟨fun b x hb => h2.obj b x (hg b x hb), fun b d x y pb pd hb hd => h2.inj b d _ _ pb pd (hg b x hb) (hg d y hd), fun b z hz => ?_, fun b x hb => Nat.lt_of_lt_of_le (h2.dom b x (hg b x hb)) hn⟩, ⟨h3.le, h3.os, h3.output, h3.tape, h3.size, Nat.le_trans h3.next hn, ?_, ?_, h3.frame, ?_⟩⟩
    · have := h2.lt _ _ hz; omega
    · intro b z hz
      have := (h0.lt _ _ hz).2; omega
    · intro b z hz
      rcases h3.fresh b z hz with h4 | ⟨h4, h5, h6⟩
      · exact .inl h4
      · exact .inr ⟨h4, by omega, h6⟩
    · intro b vs l z x hb hx
      exact ⟨hro b vs l z hb, (h3.ro b vs l z x hb hx).2⟩
  | new t o p hs hg hn hro hp hpn hpt hv =>
    subst hs
    simp only [St.next_new] at hR
    obtain ⟨q, hq, hoq⟩ := h2.obj _ _ hp
    have hpn1 : p < s1.next := h2.dom _ _ hp
    have hnx := h3.next
    have hnone : ν t.next = none := by
      cases e : ν t.next with
      | none => rfl
      | some x => have := (h2.lt _ _ e).2; omega
    have hle : ν.le (ν.add t.next q) := by
      intro b x hb
      unfold Place.add
      rw [if_neg]
      · exact hb
      · intro e; subst e; rw [hnone] at hb; cases hb
    have hself : (ν.add t.next q) t.next = some q := by simp [Place.add]
    have hget : ∀ b x, (t.new o).get b = some x → (b = t.next ∧ x = o) ∨ (s1.get b = some x ∧ b ≠ t.next ∧ b ≠ p) := by
      intro b x hb
      rw [St.get_new] at hb
      by_cases e : b = t.next
      · rw [if_pos e] at hb; cases hb; exact .inl ⟨e, rfl⟩
      · rw [if_neg e] at hb
        refine .inr ⟨hg b x hb, e, fun e' => ?_⟩
        subst e'; rw [hpt] at hb; cases hb
    have old : ∀ b z, b ≠ t.next → (ν.add t.next q) b = some z → ν b = some z := by
      intro b z hne hz
      unfold Place.add at hz
      rwa [if_neg hne] at hz
    refine ⟨ν.add t.next q, hv ν _ c hle (by rw [hself, hq]) h1, ⟨?_, ?_, ?_, ?_⟩, ⟨Place.le_trans h3.le hle, h3.os, h3.output, h3.tape, h3.size, by simp; omega, ?_, ?_, h3.frame, ?_⟩⟩
    · intro b x hb
      rcases hget b x hb with ⟨rfl, rfl⟩ | ⟨hb1, _, _⟩
      · exact ⟨q, hself, hoq.mono hle rfl⟩
      · obtain ⟨y, hy, hyo⟩ := h2.obj b x hb1
        exact ⟨y, hle _ _ hy, hyo.mono hle rfl⟩
    · intro b d x y pb pd hb hd hpb hpd e
      rcases hget b x hb with ⟨rfl, rfl⟩ | ⟨hb1, hbn, hbp⟩ <;> rcases hget d y hd with ⟨rfl, rfl⟩ | ⟨hd1, hdn, hdp⟩
      · rfl
      · rw [hself] at hpb; cases hpb
        exact absurd (h2.inj p d _ _ q pd hp hd1 hq (old _ _ hdn hpd) e).symm hdp
      · rw [hself] at hpd; cases hpd
        exact absurd (h2.inj b p _ _ pb q hb1 hp (old _ _ hbn hpb) hq e) hbp
      · exact h2.inj b d _ _ pb pd hb1 hd1 (old _ _ hbn hpb) (old _ _ hdn hpd) e
    · intro b z hz
      by_cases e : b = t.next
      · subst e; rw [hself] at hz; cases hz
        exact ⟨(h2.lt _ _ hq).1, .inl (by simp)⟩
      · have := h2.lt _ _ (old _ _ e hz)
        refine ⟨this.1, ?_⟩
        simp; omega
    · intro b x hb
      rcases hget b x hb with ⟨rfl, rfl⟩ | ⟨hb1, _, _⟩
      · simp
      · have := h2.dom _ _ hb1; simp; omega
    · intro b z hz
      have := (h0.lt _ _ hz).2
      simp; omega
    · intro b z hz
      by_cases e : b = t.next
      · subst e; rw [hself] at hz; cases hz
        refine .inr ⟨by omega, by simp, ?_⟩
        rcases h3.fresh p q hq with h4 | ⟨_, _, h4⟩
        · have := (h0.lt _ _ h4).2; omega
        · exact h4
      · rcases h3.fresh b z (old _ _ e hz) with h4 | ⟨h4, h5, h6⟩
        · exact .inl h4
        · exact .inr ⟨h4, by simp; omega, h6⟩
    · intro b vs l z x hb hx
      refine ⟨?_, (h3.ro b vs l z x hb hx).2⟩
      rw [St.get_new, if_neg (by have := h0.dom _ _ hb; omega)]
      exact hro b vs l z hb

/-- What is known of a function by its runs. -/
theorem sumsOk_addW {M : Mach} (hm : P.follows .mixedOrders = true) (hFT : FnsOk P M.FT) (hSM : SumsOk P M.SM) (hSN : SumsNext M.SM) {SM : Sums} {f : Nat} {g : List AV → St → Option (AV × St)}
    (hg : ∀ {args s v s'}, g args s = some (v, s') → (∀ b o, s.get b = some o → b < s.next) → Wf M f args s fun v1 s1 => Can s v1 s1 v s') (h : SumsOk P SM) : SumsOk P (addSum SM f g) := by
  intro k g' hk args s v s' R μ w cargs hx hR hr hc
  unfold addSum at hk
  split at hk
  · rename_i e
    subst e
    cases hk
    obtain ⟨v1, s1, hcall, hcan⟩ := hg hx hr.dom
    obtain ⟨j, hj⟩ := (sup_lim M.FT M.SM).call _ _ _ _ hcall
    have hn1 : s1.next ≤ R := by
      cases hcan with
      | old _ _ hn _ => omega
      | new t o p hs hgg hn _ _ _ _ _ => rw [hs] at hR; simp at hR; omega
    obtain ⟨q1, q2⟩ := (eng_sound hm hFT hSM hSN j).call hj hn1 hr hc
    exact ⟨q1, fun n => (q2 n).mono fun e w' hq => Rets.can hr hq hcan hR⟩
  · exact h k g' hk hx hR hr hc
end
end Go.Proofs.YtobogmklajeekaaGreat.D
namespace Go.Proofs.YtobogmklajeekaaGreat.D
set_option linter.unusedVariables false
noncomputable section
open Go.RowKit Go.Proofs Go.Maps Go.MapKept
variable {P : Program}

theorem tapeLe_loose {w w' : World} (h : w'.tape = w.tape) : TapeLe w w' := ⟨h, fun e => absurd e (by decide)⟩

def keyZ : AV → Option Int
  | .int .i64 a => if (Lit.int .i64 a).wf = true then some a else none
  | _ => none
theorem keyZ_some {v : AV} {a : Int} (h : keyZ v = some a) : v = .int .i64 a ∧ (Lit.int .i64 a).wf = true := by
  unfold keyZ at h
  split at h
  · split at h
    · rename_i hw; cases h; exact ⟨rfl, hw⟩
    · cases h
  · cases h
def keysZ : List (AV × AV × Nat) → Option (List Int)
  | [] => some []
  | e :: r => match keyZ e.1 with
    | none => none
    | some a => match keysZ r with
      | none => none
      | some l => some (a :: l)
def insZ (a : Int) : List Int → List Int
  | [] => [a]
  | b :: r => if a ≤ b then a :: b :: r else b :: insZ a r
def sortZ : List Int → List Int
  | [] => []
  | a :: r => insZ a (sortZ r)
theorem insZ_perm (a : Int) : ∀ l : List Int, (insZ a l).Perm (a :: l)
  | [] => List.Perm.refl _
  | b :: r => by
    unfold insZ
    split
    · exact List.Perm.refl _
    · exact ((insZ_perm a r).cons b).trans (List.Perm.swap a b r)
theorem sortZ_perm : ∀ l : List Int, (sortZ l).Perm l
  | [] => List.Perm.refl _
  | a :: r => (insZ_perm a _).trans ((sortZ_perm r).cons a)
theorem insZ_sorted {a : Int} : ∀ {l : List Int}, l.Pairwise (fun x y => leI x y = true) → (insZ a l).Pairwise (fun x y => leI x y = true)
  | [], _ => by simp [insZ]
  | b :: r, h => by
    rw [List.pairwise_cons] at h
    unfold insZ
    split
    · rename_i hab
      rw [List.pairwise_cons, List.pairwise_cons]
      refine ⟨fun x hx => ?_, h⟩
      rcases List.mem_cons.1 hx with rfl | hx
      · simpa [leI] using hab
      · have := h.1 x hx
        simp only [leI, decide_eq_true_eq] at *
        omega
    · rename_i hab
      rw [List.pairwise_cons]
      refine ⟨fun x hx => ?_, insZ_sorted h.2⟩
      rcases List.mem_cons.1 ((insZ_perm a r).mem_iff.1 hx) with rfl | hx
      · simp only [leI, decide_eq_true_eq]; omega
      · exact h.1 x hx
theorem sortZ_sorted : ∀ l : List Int, (sortZ l).Pairwise (fun x y => leI x y = true)
  | [] => List.Pairwise.nil
  | a :: r => insZ_sorted (sortZ_sorted r)
theorem mergeSort_sortZ {l l' : List Int} (h : l.Perm l') : l.mergeSort leI = sortZ l' := by
  have tr : ∀ a b c : Int, leI a b = true → leI b c = true → leI a c = true := fun a b c h1 h2 => by simp only [leI, decide_eq_true_eq] at *; omega
  have to : ∀ a b : Int, (leI a b || leI b a) = true := fun a b => by simp only [leI, Bool.or_eq_true, decide_eq_true_eq]; omega
  refine List.Perm.eq_of_pairwise (le := fun a b => leI a b = true) (fun a b _ _ h1 h2 => ?_) (List.pairwise_mergeSort tr to l) (sortZ_sorted l') (((List.mergeSort_perm l leI).trans h).trans (sortZ_perm l').symm)
  simp only [leI, decide_eq_true_eq] at h1 h2
  omega

/-- A map whose keys are ints, no key and no stamp twice. -/
def okEs (es : List (AV × AV × Nat)) (clock : Nat) (ks : List Int) : Bool :=
  es.all (fun e => Nat.blt e.2.2 clock) && decide ((es.map (·.2.2)).Nodup) && decide (ks.Nodup) && Nat.blt es.length 1000

/-- What is known of slices.Sorted, called with what maps.Keys gave back (function g). -/
def sumSorted (g : Nat) : List AV → St → Option (AV × St)
  | [.fn (.func f) [] [.ptr q 0]], s => if f = g then match s.get q with
      | some (.cells (.map r :: _) _ _ _) => match s.get r with
        | some (.map es clock) => match keysZ es with
          | some ks => match okEs es clock ks with
            | true => match ks with
              | [] => some (.nilSlice, s)
              | k :: l => some (.slice s.next 0 (k :: l).length (k :: l).length true, s.new (.cells ((sortZ (k :: l)).map (AV.int .i64)) true false 1))
            | false => none
          | none => none
        | _ => none
      | _ => none
    else none
  | _, _ => none

theorem entries_keys {μ : Place} : ∀ {es : List (AV × AV × Nat)} {ces : List MapEntry} {ks : List Int}, entriesR μ es ces → keysZ es = some ks → ces.map (·.key) = ks.map encZ ∧ ces.map (·.born) = es.map (·.2.2) ∧ (∀ a ∈ ks, (Lit.int .i64 a).wf = true) ∧ ces.length = es.length
  | [], [], ks, _, h => by cases h; exact ⟨rfl, rfl, by simp, rfl⟩
  | e :: es, c :: ces, ks, he, h => by
    unfold keysZ at h
    split at h
    · cases h
    · rename_i a ha
      split at h
      · cases h
      · rename_i l hl
        cases h
        obtain ⟨h1, h2, h3, h4⟩ := entries_keys he.2 hl
        obtain ⟨k1, k2⟩ := keyZ_some ha
        have hk := he.1.1
        rw [k1] at hk
        simp only [conc, Option.some.injEq] at hk
        refine ⟨by simp only [List.map_cons, h1, ← hk], by simp only [List.map_cons, h2, he.1.2.2], ?_, by simp [h4]⟩
        intro x hx
        rcases List.mem_cons.1 hx with rfl | hx
        · exact k2
        · exact h3 x hx
  | [], _ :: _, _, he, _ => he.elim
  | _ :: _, [], _, he, _ => he.elim

theorem insert_perm {H : Type} (x : Lit × DataW H) : ∀ l : List (Lit × DataW H), (DataW.insert x l).Perm (x :: l)
  | [] => List.Perm.refl _
  | y :: r => by
    unfold DataW.insert
    split
    · exact List.Perm.refl _
    · exact ((insert_perm x r).cons y).trans (List.Perm.swap x y r)
theorem foldr_insert_perm {H : Type} : ∀ l : List (Lit × DataW H), (l.foldr DataW.insert []).Perm l
  | [] => List.Perm.refl _
  | x :: r => (insert_perm x _).trans ((foldr_insert_perm r).cons x)

/-- What the kit proves of slices.Sorted and maps.Keys, the elements of the map left open. -/
def SortedLaw (P : Program) (kT eT : TypeId) (f g : Nat) : Prop :=
  ∀ (R : Value → Option (DataW Unit × List MemPlace)) (Bm b nn : Nat) (D0 : DataW Unit) (W : World), Bm < W.heap.size → W.cell? ⟨Bm, 0, none⟩ = some (.map (some b)) → W.ownsMap P kT R b nn D0 → Maps.size D0 ≤ 1000 →
    Calls P f #[.func (.func g) #[] #[.pointer (some ⟨Bm, 0, none⟩)]] W fun e w' => ∃ (v : Value) (ss : List Int), e = .returned v ∧ ss.Perm (intKeys D0) ∧
      w'.ownsRow W.heap.size eT 1 v ss.length ((ss.mergeSort leI).map encZ) ∧ (v = .slice none 0 0 ↔ ss = []) ∧ Below W.heap.size W w'

theorem concs_ints (μ : Place) : ∀ l : List Int, concs μ (l.map (AV.int .i64)) = some (l.map encZ)
  | [] => rfl
  | a :: l => by simp [concs, conc, concs_ints μ l]

theorem sumSorted_ok {kT eT : TypeId} {f g : Nat} (hkT : P.underlying kT = some (.int .i64)) (law : SortedLaw P kT eT f g)
    {args : List AV} {s s' : St} {v : AV} {R : Nat} {μ : Place} {w : World} {cargs : List Value} (hx : sumSorted g args s = some (v, s')) (hR : s'.next ≤ R) (h : HR P R μ s w) (hc : concs μ args = some cargs) (n : Nat) :
    CallsIn Fence.wide n P f cargs.toArray w (Rets P R μ s w v s') := by
  unfold sumSorted at hx
  split at hx
  case h_2 => cases hx
  rename_i f' q
  split at hx
  case isFalse => cases hx
  rename_i hfg
  subst hfg
  split at hx
  case h_2 => cases hx
  rename_i r vs lo ro z hq
  split at hx
  case h_2 => cases hx
  rename_i es clock hr
  split at hx
  case h_2 => cases hx
  rename_i ks hks
  split at hx
  case h_2 => cases hx
  rename_i hok
  simp only [okEs, Bool.and_eq_true, List.all_eq_true, decide_eq_true_eq, Nat.blt_eq] at hok
  obtain ⟨⟨⟨o1, o2⟩, o3⟩, o4⟩ := hok
  obtain ⟨pq, hpq, c, elem, fz, xs, rest, hh, hxs, hcl, _⟩ := h.obj _ _ hq
  obtain ⟨pr, hpr, ces, hce, her⟩ := h.obj _ _ hr
  have hca : cargs = [.func (.func f') #[] #[.pointer (some ⟨pq.1, 0, none⟩)]] := by
    simp [concs, conc, Fn.plain, hpq] at hc
    exact hc.symm
  subst hca
  have hx0 : ∃ ys, xs = .map (some pr.1) :: ys := by
    simp only [concs, conc, hpr, Option.map_some, Option.bind_some, Option.map_eq_some_iff] at hxs
    obtain ⟨ys, _, e⟩ := hxs
    exact ⟨ys, e.symm⟩
  obtain ⟨ys, rfl⟩ := hx0
  have hcell : w.cell? ⟨pq.1, 0, none⟩ = some (.map (some pr.1)) := by
    unfold World.cell?
    rw [hh]
    show c[0]? = _
    have : c.toList[0]? = some (.map (some pr.1)) := by rw [hcl]; rfl
    simpa using this
  obtain ⟨e1, e2, e3, e4⟩ := entries_keys her hks
  let RR : Value → Option (DataW Unit × List MemPlace) := fun _ => some (.nil, [])
  have hkey : ∀ x ∈ ces.toList, ∃ a, a ∈ ks ∧ x.key = encZ a := fun x hx => by
    have : x.key ∈ ces.toList.map (·.key) := List.mem_map_of_mem hx
    rw [e1] at this
    obtain ⟨a, ha, hh⟩ := List.mem_map.1 this
    exact ⟨a, ha, hh.symm⟩
  have hko : ∀ a ∈ ks, keyOf P kT (encZ a) = some (.int .i64 a) := fun a ha => by
    simp [keyOf, hkT, mapKey, e3 a ha]
  have hrg : ces.toList.map (WideElems.rg P kT RR) = ks.map fun a => (Lit.int .i64 a, DataW.nil) := by
    have : ces.toList.map (WideElems.rg P kT RR) = (ces.toList.map (·.key)).map fun k => (((keyOf P kT k).map fun l => (l, (DataW.nil : DataW Unit))).getD (.bool false, .nil)) := by
      rw [List.map_map]
      refine List.map_congr_left fun x _ => ?_
      unfold WideElems.rg WideElems.rd
      simp only [Function.comp]
      cases keyOf P kT x.key <;> rfl
    rw [this, e1, List.map_map]
    refine List.map_congr_left fun a ha => ?_
    simp only [Function.comp, hko a ha]
    rfl
  let D0 : DataW Unit := .map ((ces.toList.map (WideElems.rg P kT RR)).foldr DataW.insert [])
  have hperm : (intKeys D0).Perm ks := by
    have h1 := (foldr_insert_perm (ces.toList.map (WideElems.rg P kT RR))).map fun p => intOf p.1
    rw [hrg, List.map_map] at h1
    have h2 : ks.map ((fun p : Lit × DataW Unit => intOf p.1) ∘ fun a => (Lit.int .i64 a, DataW.nil)) = ks := by
      have : ((fun p : Lit × DataW Unit => intOf p.1) ∘ fun a => (Lit.int .i64 a, DataW.nil)) = id := rfl
      rw [this, List.map_id]
    rw [h2] at h1
    show (((ces.toList.map (WideElems.rg P kT RR)).foldr DataW.insert []).map fun p => intOf p.1).Perm ks
    rw [hrg]
    exact h1
  have hsz : Maps.size D0 ≤ 1000 := by
    have h1 := (foldr_insert_perm (ces.toList.map (WideElems.rg P kT RR))).length_eq
    show ((ces.toList.map (WideElems.rg P kT RR)).foldr DataW.insert []).length ≤ 1000
    rw [h1, List.length_map, e4]
    omega
  have hown : w.ownsMap P kT RR pr.1 ces.size D0 := by
    refine ⟨ces, clock, hce, ⟨?_, ⟨?_, ?_, ?_⟩, ?_⟩, Nat.le_refl _, rfl⟩
    · have : ces.size = es.length := by rw [← e4, Array.length_toList]
      rw [this]; unfold maxLen; omega
    · intro x hx
      have : x.born ∈ ces.toList.map (·.born) := List.mem_map_of_mem hx
      rw [e2] at this
      obtain ⟨e, he, hb⟩ := List.mem_map.1 this
      rw [← hb]
      exact o1 e he
    · rw [e2]; exact o2
    · rw [e1]
      exact List.pairwise_map.2 (o3.imp fun {a b} hne e => hne (encZ_inj e))
    · intro x hx
      obtain ⟨a, ha, hk⟩ := hkey x hx
      exact ⟨_, WideElems.rd_mk (by rw [hk]; exact hko a ha) (rfl : RR x.val = some (.nil, []))⟩
  have key := law RR pq.1 pr.1 ces.size D0 w (h.lt _ _ hpq).1 hcell hown hsz
  refine (callsIn_wide.2 key).mono ?_
  rintro e w' ⟨cv, ss, rfl, hp, hrow, hnil, hb⟩
  have hps := hp.trans hperm
  have hms : ss.mergeSort leI = sortZ ks := mergeSort_sortZ hps
  have hlen : ss.length = ks.length := hps.length_eq
  split at hx
  · cases hx
    have hs0 : ss = [] := List.eq_nil_of_length_eq_zero hlen
    have : cv = .slice none 0 0 := hnil.2 hs0
    subst this
    exact ⟨μ, rfl, h.below hb, Mv.of_below h hR hb (tapeLe_loose hb.tape)⟩
  · rename_i k l
    cases hx
    rw [hms] at hrow
    obtain ⟨r0, ⟨rfl, hz⟩ | ⟨gb, cap, cur, rfl, hbase, hgb, r1, r2, r3, r4⟩⟩ := hrow
    · rw [hlen] at hz
      cases hz
    have hle := h.le_add (by simpa using hR) (gb, cap - ss.length)
    have hself : (μ.add s.next (gb, cap - ss.length)) s.next = some (gb, cap - ss.length) := by simp [Place.add]
    have hgl : gb < w'.heap.size := (Array.getElem?_eq_some_iff.1 hgb).1
    refine ⟨μ.add s.next (gb, cap - ss.length), ?_, ?_, ?_⟩
    · simp only [conc, hself, Option.map_some, if_true]
      rw [← hlen, show ss.length + (cap - ss.length) = cap by omega]
    · refine h.take hle (fun b hb => by simp [Place.add, hb]) hself hgl (fun b o p hg hp => ?_) hb.size (fun b o p hg hp => hb.block _ (h.lt _ _ hp).1) _ ?_
      · have := (h.lt _ _ hp).1
        show p.1 ≠ gb
        omega
      · refine ⟨cur, eT, (0, 0), (sortZ (k :: l)).map encZ, cur.toList.drop (sortZ (k :: l)).length, hgb, concs_ints _ _, ?_, ?_, ?_, ?_⟩
        · have hl2 : (sortZ (k :: l)).length = ss.length := by rw [(sortZ_perm (k :: l)).length_eq, hlen]
          rw [Nat.mul_one] at r4
          rw [← r4, hl2, List.take_append_drop]
        · have hl2 : (sortZ (k :: l)).length = ss.length := by rw [(sortZ_perm (k :: l)).length_eq, hlen]
          rw [List.length_drop, hl2, Array.length_toList, r3]
          simp
        · intro hh; cases hh
        · intro _ i _ hi
          omega
    · refine ⟨hle, hb.os, hb.output, tapeLe_loose hb.tape, hb.size, by simp, ?_, ?_, ?_, ?_⟩
      · intro b p hp
        have := (h.lt _ _ hp).2
        simp only [St.next_new] at hR ⊢
        omega
      · intro b p hp
        unfold Place.add at hp
        split at hp
        · rename_i hb'
          cases hp
          exact .inr ⟨by omega, by simp [hb'], .inl hbase⟩
        · exact .inl hp
      · intro i hi _
        exact hb.block i hi
      · intro b vs l e p hg hp
        have := h.dom _ _ hg
        refine ⟨?_, hb.block _ (h.lt _ _ hp).1⟩
        rw [St.get_new, if_neg (by omega)]
        exact hg

theorem sumSorted_next {g : Nat} (args : List AV) (s : St) (v : AV) (s' : St) (hx : sumSorted g args s = some (v, s')) : s.next ≤ s'.next := by
  unfold sumSorted at hx
  split at hx
  case h_2 => cases hx
  split at hx
  case isFalse => cases hx
  split at hx
  case h_2 => cases hx
  split at hx
  case h_2 => cases hx
  split at hx
  case h_2 => cases hx
  split at hx
  case h_2 => cases hx
  split at hx
  · cases hx; exact Nat.le_refl _
  · cases hx; simp
end
end Go.Proofs.YtobogmklajeekaaGreat.D
