/- What is known of a few functions of the lowest layers: the plain definitions that the machine's run needs.
What the base machine of this seat knows. Printed by a program.
The machine of this seat: its functions that are run, and what it takes as known. Plain definitions, printed by a program. -/
import Derived.Test.YtcaofhdlekjooaaGreatZg
namespace Go.Proofs.YtcaofhdlekjooaaGreat.Base
open D
set_option linter.unusedSimpArgs false
set_option linter.unusedVariables false
set_option maxRecDepth 10000
noncomputable section
def okW (w : Int) : Bool := match w with
  | .ofNat n => Nat.beq n 1 || Nat.beq n 2 || Nat.beq n 4 || Nat.beq n 8
  | .negSucc _ => false
def sumRight : List AV → St → Option (AV × St)
  | [.int .i64 w], s => some (.bool (okW w), s)
  | _, _ => none
def u8 (c : Nat) : AV := .int .u8 (c : Int)
def decU : List AV → Option (List Nat)
  | [] => some []
  | .int .u8 (.ofNat n) :: r => if Nat.blt n 256 then match decU r with
      | some l => some (n :: l)
      | none => none
    else none
  | _ :: _ => none
/-- The bytes of a slice. -/
noncomputable def readU (s : St) : AV → Option (List Nat)
  | .nilSlice => some []
  | .tail _ _ _ => some []
  | .slice b o n _ _ => match loadA s b o n with
    | some l => decU l
    | none => none
  | _ => none
def crcB (n : Nat) (L : List Nat) : Nat := L.foldl crcStep n
def crcP (n : Nat) (Ps : List (List Nat)) : Nat := Ps.foldl crcB n
noncomputable def readPs (s : St) : List AV → Option (List (List Nat))
  | [] => some []
  | w :: r => match readU s w with
    | some L => match readPs s r with
      | some l => some (L :: l)
      | none => none
    | none => none
def small (Ps : List (List Nat)) : Bool := Ps.all fun L => Nat.blt L.length 1000000000
noncomputable def sumOf : List AV → St → Option (AV × St)
  | [.slice b o n _ _], s => match loadA s b o n with
    | some l => match readPs s l with
      | some Ps => if Nat.blt Ps.length 1000000000 && small Ps then some (.int .u32 ((crcP 4294967295 Ps : Nat) : Int), s) else none
      | none => none
    | none => none
  | _, _ => none
def trn (f t : Int) (x : Nat) : AV := match ((x : Int) == f) with
  | true => .int .u8 t
  | false => u8 x
noncomputable def sumTurn : List AV → St → Option (AV × St)
  | [.ptr p 0, .int .u8 f, .int .u8 t], s => match s.get p with
    | some (.cells vs lo false z) => match decU ((vs.drop 241).take 240) with
      | some L => if Nat.beq L.length 240 then some (.tup [], s.put p (.cells (splice vs 241 (L.map (trn f t))) lo false z)) else none
      | none => none
    | _ => none
  | _, _ => none
/-- The number of some bytes, the lowest first. -/
def leN : List Nat → Nat
  | [] => 0
  | c :: r => c + 256 * leN r
def capOk : AV → Bool
  | .slice _ _ n c _ => Nat.ble n c
  | _ => true
noncomputable def sumNum : List AV → St → Option (AV × St)
  | [.ptr q 0, .int .i64 (.ofNat w)], s => if okW (.ofNat w) then match s.get q with
      | some (.cells [rest, .bool fl] lo false z) => match readU s rest with
        | some L => if Nat.blt L.length 1000000000 && capOk rest then
            (if fl || Nat.blt L.length w then some (.int .u64 0, (s.put q (.cells [rest, .bool true] lo false z)).skip 10)
            else match sliceA 1 rest (some (.int .i64 (.ofNat w))) none none with
              | some rest' => some (.int .u64 (.ofNat (leN (L.take w))), (s.put q (.cells [rest', .bool false] lo false z)).skip 10)
              | none => none)
          else none
        | none => none
      | _ => none
    else none
  | _, _ => none
def tab8 : ByteArray := ⟨#[0, 1, 2, 2, 3, 3, 3, 3, 4, 4, 4, 4, 4, 4, 4, 4, 5, 5, 5, 5, 5, 5, 5, 5, 5, 5, 5, 5, 5, 5, 5, 5, 6, 6, 6, 6, 6, 6, 6, 6, 6, 6, 6, 6, 6, 6, 6, 6, 6, 6, 6, 6, 6, 6, 6, 6, 6, 6, 6, 6, 6, 6, 6, 6, 7, 7, 7, 7, 7, 7, 7, 7, 7, 7, 7, 7, 7, 7, 7, 7, 7, 7, 7, 7, 7, 7, 7, 7, 7, 7, 7, 7, 7, 7, 7, 7, 7, 7, 7, 7, 7, 7, 7, 7, 7, 7, 7, 7, 7, 7, 7, 7, 7, 7, 7, 7, 7, 7, 7, 7, 7, 7, 7, 7, 7, 7, 7, 7, 8, 8, 8, 8, 8, 8, 8, 8, 8, 8, 8, 8, 8, 8, 8, 8, 8, 8, 8, 8, 8, 8, 8, 8, 8, 8, 8, 8, 8, 8, 8, 8, 8, 8, 8, 8, 8, 8, 8, 8, 8, 8, 8, 8, 8, 8, 8, 8, 8, 8, 8, 8, 8, 8, 8, 8, 8, 8, 8, 8, 8, 8, 8, 8, 8, 8, 8, 8, 8, 8, 8, 8, 8, 8, 8, 8, 8, 8, 8, 8, 8, 8, 8, 8, 8, 8, 8, 8, 8, 8, 8, 8, 8, 8, 8, 8, 8, 8, 8, 8, 8, 8, 8, 8, 8, 8, 8, 8, 8, 8, 8, 8, 8, 8, 8, 8, 8, 8, 8, 8, 8, 8, 8, 8, 8, 8, 8, 8]⟩
def blen8 (n : Nat) : Nat := if n = 0 then 0 else if n < 2 then 1 else if n < 4 then 2 else if n < 8 then 3 else if n < 16 then 4 else if n < 32 then 5 else if n < 64 then 6 else if n < 128 then 7 else 8
def sh1 (n : Nat) : Nat := bif Nat.ble 4294967296 n then n / 4294967296 else n
def sh2 (n : Nat) : Nat := bif Nat.ble 65536 n then n / 65536 else n
def sh3 (n : Nat) : Nat := bif Nat.ble 256 n then n / 256 else n
def blen (n : Nat) : Nat := (bif Nat.ble 4294967296 n then 32 else 0) + (bif Nat.ble 65536 (sh1 n) then 16 else 0) + (bif Nat.ble 256 (sh2 (sh1 n)) then 8 else 0) + blen8 (sh3 (sh2 (sh1 n)))
def sumLen : List AV → St → Option (AV × St)
  | [.int .u64 (.ofNat n)], s => if Nat.blt n 18446744073709551616 then some (.int .i64 (.ofNat (blen n)), s) else none
  | _, _ => none
noncomputable def sumClone : List AV → St → Option (AV × St)
  | [.nilSlice], s => some (.nilSlice, s)
  | [.slice b o n _ _], s => if Nat.blt n 1000000000 then match loadA s b o n with
      | some l => some (match n with
        | 0 => (.slice s.next 0 0 0 false, s.new (.cells [] false false 0))
        | n + 1 => (.slice (s.next + 1) 0 (n + 1) (n + 1) true, (s.new (.cells [] false false 0)).new (.cells l true false 1)))
      | none => none
    else none
  | [.tail _ _ _], s => some (.slice s.next 0 0 0 false, s.new (.cells [] false false 0))
  | _, _ => none
/-- A number's bytes, the lowest first. -/
def leB : Nat → Nat → List AV
  | 0, _ => []
  | k + 1, n => .int .u8 ((n % 256 : Nat) : Int) :: leB k (n / 256)
def shf : Nat → Nat → Nat
  | 0, n => n
  | k + 1, n => shf k (n / 256)
def putL (w : Nat) (ns : List Nat) : List AV := ns.flatMap (leB w)
def decW : List AV → Option (List Nat)
  | [] => some []
  | .int .u64 (.ofNat n) :: r => if Nat.blt n 18446744073709551616 then match decW r with
      | some l => some (n :: l)
      | none => none
    else none
  | _ :: _ => none
/-- What is copied, and what it holds. -/
noncomputable def cloned (s : St) : AV → Option (List AV)
  | .nilSlice => some []
  | .tail _ _ _ => some []
  | .slice b o n _ _ => if Nat.blt n 100000000 then loadA s b o n else none
  | _ => none
noncomputable def sumPut : List AV → St → Option (AV × St)
  | [b, .int .i64 (.ofNat w), .slice lb lo n _ _], s => if okW (.ofNat w) && (Nat.blt 0 n && Nat.blt n 1000) then match cloned s b with
      | some l => match loadA s lb lo n with
        | some x => match decW x with
          | some ns => if ns.all (fun n => Nat.ble (blen n) (8 * w)) then match l ++ putL w ns with
              | [] => none
              | y :: r => some (.tup [.slice (s.next + (2 + 16 * n)) 0 (r.length + 1) (r.length + 1) true, .int .i64 0], (s.skip (2 + 16 * n)).new (.cells (y :: r) true false 1))
            else none
          | none => none
        | none => none
      | none => none
    else none
  | _, _ => none
end
end Go.Proofs.YtcaofhdlekjooaaGreat.Base
namespace Go.Proofs.YtcaofhdlekjooaaGreat.Base
open D
noncomputable def SM1 : Sums := addSum noSums 238 sumStep
end Go.Proofs.YtcaofhdlekjooaaGreat.Base
namespace Go.Proofs.YtcaofhdlekjooaaGreat
open D
noncomputable def SM2 : Sums := addSum (addSum (addSum (addSum (addSum (addSum (addSum (Base.SM1) 175 Base.sumRight) 194 Base.sumOf) 167 Base.sumTurn) 116 Base.sumNum) 259 Base.sumLen) 83 Base.sumClone) 221 Base.sumPut
structure FMach where
  FT : Fns
  SM : Sums
noncomputable def mm : FMach := ⟨tab.get, SM2⟩
end Go.Proofs.YtcaofhdlekjooaaGreat
