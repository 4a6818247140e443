/- The code of the abstract machine, and how it is made of the model's: each operation with the sizes that its types tell. Plain definitions. -/
import Derived.Test.YteffppdkofdmdaaDVal
import GoSem.Core.Code
import GoSem.Core.Region
import GoSem.Core.View
import GoSem.Core.Layout
import GoSem.Dispatch
namespace Go.Proofs.Yteffppdkofdmdaa.D

/-- An operand. -/
inductive X where
  | t (n : Nat)
  | c (v : AV)

def absL : Value → Option AV
  | .bool b => some (.bool b)
  | .int k n => some (.int k n)
  | .string s => some (.str s)
  | .pointer none => some .nilPtr
  | .slice none 0 0 => some .nilSlice
  | .map none => some .nilMap
  | .nilFunc => some .nilFn
  | .nilIface => some .nilIface
  | _ => none

def absLs : List Value → Option (List AV)
  | [] => some []
  | v :: r => match absL v with
    | some a => match absLs r with
      | some l => some (a :: l)
      | none => none
    | none => none

/-- The abstract value of a constant. -/
def absV : Value → Option AV
  | .agg cs => (absLs cs.toList).map .agg
  | .iface t v => (absL v).map (.iface t)
  | .func (.func f) a b => if a.isEmpty && b.isEmpty then some (.fn (.func f) [] []) else none
  | v => absL v

theorem absL_conc {v : Value} {a : AV} (h : absL v = some a) (μ : Place) : conc μ a = some v := by
  unfold absL at h
  split at h <;> first | (cases h; rfl) | cases h

theorem absLs_conc (μ : Place) : ∀ {l : List Value} {a : List AV}, absLs l = some a → concs μ a = some l
  | [], a, h => by simp only [absLs, Option.some.injEq] at h; subst h; rfl
  | v :: r, a, h => by
    unfold absLs at h
    split at h
    · rename_i x hx
      split at h
      · rename_i y hy
        cases h
        simp only [concs, absL_conc hx μ, absLs_conc μ hy, Option.bind_some, Option.map_some]
      · cases h
    · cases h

theorem absV_conc {v : Value} {a : AV} (h : absV v = some a) (μ : Place) : conc μ a = some v := by
  unfold absV at h
  split at h
  · rename_i cs
    simp only [Option.map_eq_some_iff] at h
    obtain ⟨l, hl, rfl⟩ := h
    simp only [conc, absLs_conc μ hl, Option.map_some]
  · simp only [Option.map_eq_some_iff] at h
    obtain ⟨l, hl, rfl⟩ := h
    simp only [conc, absL_conc hl μ, Option.map_some]
  · rename_i f x y
    split at h
    · rename_i e
      cases h
      have e1 : x = #[] := by simp at e; exact e.1
      have e2 : y = #[] := by simp at e; exact e.2
      subst e1; subst e2
      simp [conc, Fn.plain, concs]
    · cases h
  · exact absL_conc h μ

def prepX : Operand → Option X
  | .tmp t => some (.t t)
  | .const v => (absV v).map .c
  | .func f => some (.c (.fn (.func f) [] []))
  | .global _ => none

def prepXs : List Operand → Option (List X)
  | [] => some []
  | x :: r => match prepX x with
    | some a => match prepXs r with
      | some l => some (a :: l)
      | none => none
    | none => none

/-- How two values of a type are held against one another. -/
inductive EqK where
  | leaf
  | ptr
  | slice
  | map
  | func
  | iface
  | cells (ks : List Nat)
  | no

/-- A map's keys: whole numbers. -/
inductive POp where
  | move (x : X)
  | pick (c a b : X)
  | alloc (zero : List AV)
  | box (x : X)
  | build (zero : List AV) (parts : List (Nat × Nat × X))
  | buildSlice (cells : List AV) (len : Nat) (parts : List (Nat × Nat × X)) (esz : Nat)
  | load1 (a : X)
  | loadN (n : Nat) (a : X)
  | store (n : Nat) (a v : X)
  | nilCheck (x : X)
  | bin (op : BinOp) (e : EqK) (x y : X)
  | un (op : UnOp) (x : X)
  | convInt (k : IntKind) (x : X)
  | convSame (x : X)
  | convStr (esz : Nat) (x : X)
  | convBytes (x : X)
  | mkIface (t : TypeId) (x : X)
  | mkFunc (f : Fn) (first captured : List X)
  | mkMap
  | mkSlice (esz ebytes : Nat) (zero : List AV) (l c : X)
  | sliceSl (esz : Nat) (x : X) (lo hi mx : Option X)
  | sliceStr (x : X) (lo hi : Option X)
  | sliceArr (n esz : Nat) (x : X) (lo hi mx : Option X)
  | fieldAddr (off : Nat) (x : X)
  | field (off : Nat) (n : Option Nat) (x : X)
  | idxArr (len esz : Nat) (x i : X)
  | idxSl (esz : Nat) (x i : X)
  | idxAgg (len esz : Nat) (agg : Bool) (x i : X)
  | idxStr (x i : X)
  | lookup (zero : AV) (m k : X) (ok : Bool)
  | mapUpd (m k v : X)
  | range (x : X)
  | next (x : X)
  | entry (x : X)
  | extract (x : X) (i : Nat)
  | call (f : X) (args : List X)
  | append (esz ebytes : Nat) (zero : List AV) (s x : X)
  | appendN (esz ebytes : Nat) (zero : List AV) (s x : X)
  | copy (esz : Nat) (d s : X)
  | len (k : Nat) (x : X)
  | lenArr (n : Nat)
  | cap (x : X)
  | minmax (mx : Bool) (l : List X)
  | clear (zero : List AV) (x : X)
  | clearMap (x : X)
  | delete (m k : X)
  | fail

section
variable (P : Program)

def isAggB (t : TypeId) : Option Bool :=
  match P.underlying t with
  | some (.struct _) | some (.array _ _) => some true
  | some _ => some false
  | none => none

def sizeB (t : TypeId) : Option Nat := (P.info? t).map (·.size)
def bytesB (t : TypeId) : Option Nat := (P.info? t).map (·.bytes)
/-- The cells of a type's zero value. -/
def zeroB (t : TypeId) : Option (List AV) :=
  match (P.info? t).bind (·.zero) with
  | some v => absLs v.cells.toList
  | none => none
def zeroV (t : TypeId) : Option AV :=
  match (P.info? t).bind (·.zero) with
  | some v => absV v
  | none => none

def isIntKey (t : TypeId) : Bool := match P.underlying t with | some (.int _) => true | _ => false

/-- Is a type one whose values are held against one another cell by cell, each a number, a bool or a text? With its cells' kinds. -/
def flat : Nat → TypeId → Option (List Nat)
  | 0, _ => none
  | d + 1, t => match P.underlying t with
    | some .bool => some [0]
    | some (.int _) => some [1]
    | some .string => some [2]
    | some (.struct fs) =>
      if P.stoodInHeld t then none else
      fs.toList.foldl (fun acc f => match acc with
        | none => none
        | some l => if f.name ≠ "_" && f.offset == l.length then
            match flat d f.type, (P.info? f.type).map (·.size) with
            | some m, some s => if s == m.length then some (l ++ m) else none
            | _, _ => none
          else none) (some [])
    | some (.array n e) =>
      match flat d e, (P.info? e).map (·.size) with
      | some m, some s => if s == m.length then some ((List.replicate n m).flatten) else none
      | _, _ => none
    | _ => none

def isC : Operand → Bool
  | .const _ => true
  | _ => false

def eqK (t : TypeId) (x y : Operand) : EqK :=
  match P.underlying t with
  | some .bool => .leaf
  | some (.pointer _) => .ptr
  | some (.slice _) => .slice
  | some (.map _ _) => .map
  | some (.func _ _ _) => .func
  | some (.interface _) => if isC x || isC y then .iface else .no
  | some (.struct _) | some (.array _ _) =>
    if P.eqGuardType P.depth t then .no else
    match flat P 12 t with
    | some l => .cells l
    | none => .no
  | _ => .no

def fieldOf (t : TypeId) (i : Nat) : Option Field :=
  match P.underlying t with
  | some (.struct fs) => fs[i]?
  | _ => none

def prepParts (place : Nat → Option (Nat × Nat)) : List (Nat × Operand) → Option (List (Nat × Nat × X))
  | [] => some []
  | (i, o) :: r => match place i, prepX o, prepParts place r with
    | some (off, size), some x, some l => some ((off, size, x) :: l)
    | _, _, _ => none

def fieldPlaces (fs : Array Field) : Option (List (Nat × Nat)) :=
  fs.toList.foldr (fun f acc => match sizeB P f.type, acc with
    | some s, some l => some ((f.offset, s) :: l)
    | _, _ => none) (some [])

def optX : Option Operand → Option (Option X)
  | none => some none
  | some o => (prepX o).map some

def isIntD : TypeDesc → Bool
  | .int _ => true
  | _ => false

def prepAppend : List TypeId → List X → Option POp
  | [s, xt], [a, x] => match P.underlying s with
    | some (.slice e) => match P.underlying xt with
      | none => none
      | some d => match sizeB P e, bytesB P e, zeroB P e with
        | some sz, some by', some z => if 1 ≤ sz && z.length == sz && 1 ≤ by' then some (if isIntD d then .appendN sz by' z a x else .append sz by' z a x) else none
        | _, _, _ => none
    | _ => none
  | _, _ => none

def prepCopy : List TypeId → List X → Option POp
  | [d, _], [a, x] => match P.underlying d with
    | some (.slice e) => match sizeB P e with
      | some sz => some (.copy sz a x)
      | none => none
    | _ => none
  | _, _ => none

/-- 0: of a text; 1: of a slice; 2: of a map. -/
def prepLen : List TypeId → List X → Option POp
  | [t], [x] => match P.underlying t with
    | some (.array n _) => some (.lenArr n)
    | some (.pointer e) => match P.underlying e with
      | some (.array n _) => some (.lenArr n)
      | _ => none
    | some .string => some (.len 0 x)
    | some (.slice _) => some (.len 1 x)
    | some (.map _ _) => some (.len 2 x)
    | _ => none
  | _, _ => none

def prepCap : List TypeId → List X → Option POp
  | [t], [x] => match P.underlying t with
    | some (.slice _) => some (.cap x)
    | _ => none
  | _, _ => none

def prepClear : List TypeId → List X → Option POp
  | [t], [x] => match P.underlying t with
    | some (.slice e) => match zeroB P e with
      | some z => some (.clear z x)
      | none => none
    | some (.map _ _) => some (.clearMap x)
    | _ => none
  | _, _ => none

def prepDelete : List TypeId → List X → Option POp
  | [t, _], [m, k] => match P.underlying t with
    | some (.map kt _) => if isIntKey P kt then some (.delete m k) else none
    | _ => none
  | _, _ => none

def prepBuiltin (b : Builtin) (argTypes : List TypeId) (args : List X) : Option POp :=
  match b with
  | .append => prepAppend P argTypes args
  | .copy => prepCopy P argTypes args
  | .len => prepLen P argTypes args
  | .cap => prepCap P argTypes args
  | .min => some (.minmax false args)
  | .max => some (.minmax true args)
  | .clear => prepClear P argTypes args
  | .delete => prepDelete P argTypes args
  | _ => none

def prepOp (o : Oper) : Option POp :=
  match o.op with
  | .move x | .assign x => (prepX x).map .move
  | .pick c a b => match prepX c, prepX a, prepX b with
    | some c, some a, some b => some (.pick c a b)
    | _, _, _ => none
  | .alloc e => (zeroB P e).map .alloc
  | .box _ x => (prepX x).map .box
  | .build t parts => match P.underlying t, zeroB P t with
    | some (.struct fs), some z => match fieldPlaces P fs with
      | some pl => (prepParts (pl[·]?) parts.toList).map (.build z)
      | none => none
    | some (.array _ e), some z => match sizeB P e with
      | some s => (prepParts (fun i => some (i * s, s)) parts.toList).map (.build z)
      | none => none
    | _, _ => none
  | .buildSlice t n parts => match P.underlying t with
    | some (.slice e) => match sizeB P e, zeroB P e with
      | some s, some z => if s == z.length && n * s ≤ 2 ^ 24 then
          (prepParts (fun i => some (i * s, s)) parts.toList).map fun l => .buildSlice (List.replicate n z).flatten n l s
        else none
      | _, _ => none
    | _ => none
  | .load t a => match isAggB P t, sizeB P t, prepX a with
    | some true, some n, some a => some (.loadN n a)
    | some false, _, some a => some (.load1 a)
    | _, _, _ => none
  | .store t a v => match sizeB P t, prepX a, prepX v with
    | some n, some a, some v => some (.store n a v)
    | _, _, _ => none
  | .nilCheck x => (prepX x).map .nilCheck
  | .binOp op t x y _ => match prepX x, prepX y with
    | some a, some b => some (.bin op (eqK P t x y) a b)
    | _, _ => none
  | .unOp op _ x => (prepX x).map (.un op)
  | .convert s d x => match P.underlying s, P.underlying d, prepX x with
    | some (.int _), some (.int k), some x => some (.convInt k x)
    | some .string, some .string, some x => some (.convSame x)
    | some .string, some (.slice e), some x => match P.underlying e, sizeB P e with
      | some (.int .u8), some 1 => some (.convStr 1 x)
      | _, _ => none
    | some (.slice e), some .string, some x => match P.underlying e with
      | some (.int .u8) => some (.convBytes x)
      | _ => none
    | _, _, _ => none
  | .makeInterface t x => match P.underlying t, prepX x with
    | some (.interface _), _ => none
    | some _, some x => some (.mkIface t x)
    | _, _ => none
  | .makeFunc f a c => if Fn.plain f then match prepXs a.toList, prepXs c.toList with
      | some a, some c => some (.mkFunc f a c)
      | _, _ => none
    else none
  | .makeMap _ none => some .mkMap
  | .makeSlice t l c => match P.underlying t with
    | some (.slice e) => match sizeB P e, bytesB P e, zeroB P e, prepX l, prepX c with
      | some s, some b, some z, some l, some c => if s == z.length then some (.mkSlice s b z l c) else none
      | _, _, _, _, _ => none
    | _ => none
  | .slice t x lo hi mx => match P.underlying t, prepX x, optX lo, optX hi, optX mx with
    | some .string, some x, some lo, some hi, some none => some (.sliceStr x lo hi)
    | some (.slice e), some x, some lo, some hi, some mx => (sizeB P e).map fun s => .sliceSl s x lo hi mx
    | some (.pointer a), some x, some lo, some hi, some mx => match P.underlying a with
      | some (.array n e) => (sizeB P e).map fun s => .sliceArr n s x lo hi mx
      | _ => none
    | some (.array n e), some x, some lo, some hi, some mx => (sizeB P e).map fun s => .sliceArr n s x lo hi mx
    | _, _, _, _, _ => none
  | .fieldAddr s x i => match fieldOf P s i, prepX x with
    | some f, some x => match sizeB P f.type with
      | some n => if n = 0 then none else some (.fieldAddr f.offset x)
      | none => none
    | _, _ => none
  | .field s x i => match fieldOf P s i, prepX x with
    | some f, some x => match isAggB P f.type, sizeB P f.type with
      | some true, some n => some (.field f.offset (some n) x)
      | some false, _ => some (.field f.offset none x)
      | _, _ => none
    | _, _ => none
  | .indexAddr t x i => match P.underlying t, prepX x, prepX i with
    | some (.array n e), some x, some i => (sizeB P e).map fun s => .idxArr n s x i
    | some (.slice e), some x, some i => (sizeB P e).map fun s => .idxSl s x i
    | _, _, _ => none
  | .index t x i => match P.underlying t, prepX x, prepX i with
    | some (.array n e), some x, some i => match isAggB P e, sizeB P e with
      | some b, some s => some (.idxAgg n s b x i)
      | _, _ => none
    | some .string, some x, some i => some (.idxStr x i)
    | _, _, _ => none
  | .lookup t m k ok => match P.underlying t with
    | some (.map kt e) => if isIntKey P kt then match zeroV P e, prepX m, prepX k with
        | some z, some m, some k => some (.lookup z m k ok)
        | _, _, _ => none
      else none
    | _ => none
  | .mapUpdate t m k v => match P.underlying t with
    | some (.map kt _) => if isIntKey P kt then match prepX m, prepX k, prepX v with
        | some m, some k, some v => some (.mapUpd m k v)
        | _, _, _ => none
      else none
    | _ => none
  | .extract x i => (prepX x).map fun x => .extract x i
  | .call c => match c.callee with
    | .value f => match prepXs c.args.toList with
      | some args => (prepX f).map fun f => .call f args
      | none => none
    | .builtin b => match prepXs c.args.toList with
      | some args => prepBuiltin P b c.argTypes.toList args
      | none => none
    | _ => none
  | _ => none
end
end Go.Proofs.Yteffppdkofdmdaa.D
