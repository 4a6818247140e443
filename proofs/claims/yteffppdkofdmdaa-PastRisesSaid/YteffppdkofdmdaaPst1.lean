/- Histories: what a moment holds; the loop that goes through one. -/
import Derived.Test.YteffppdkofdmdaaLab
import Derived.Test.YteffppdkofdmdaaDSl
import Derived.Test.YteffppdkofdmdaaDRng
namespace Go.Proofs.Yteffppdkofdmdaa
open D
set_option linter.unusedSimpArgs false
set_option linter.unusedVariables false
set_option maxRecDepth 10000

abbrev Lies (s : St) (b : Nat) (l : List AV) : Prop := s.get b = some (.cells l false false 0)

/-- What a node shows. -/
@[ext] structure Vw where
  up : Bool
  prim : Bool
  epoch : Int
  ex : Lb
  nw : Lb
def Vw.enc (v : Vw) : List AV := [.bool v.up, .bool v.prim, .int .u32 v.epoch, .int .u32 v.ex.e, .int .u32 v.ex.q, .int .u32 v.nw.e, .int .u32 v.nw.q]
def Vw.zero : Vw := ⟨false, false, 0, ⟨0, 0⟩, ⟨0, 0⟩⟩
/-- A moment. -/
structure Mo where
  cells : List AV
  kind : Int
  node : Int
  err : Int
  v0 : Vw
  v1 : Vw
structure MoOk (m : Mo) : Prop where
  len : m.cells.length = 58
  cell : allCell m.cells = true
  k : m.cells[0]? = some (.int .i64 m.kind)
  n : m.cells[1]? = some (.int .i64 m.node)
  e : m.cells[25]? = some (.int .i64 m.err)
  v : (m.cells.drop 44).take 14 = m.v0.enc ++ m.v1.enc
  p0 : 0 ≤ m.v0.ex.e ∧ 0 ≤ m.v0.ex.q ∧ 0 ≤ m.v0.epoch
  p1 : 0 ≤ m.v1.ex.e ∧ 0 ≤ m.v1.ex.q ∧ 0 ≤ m.v1.epoch

def tyB16 : Ty := .many [(.int .u8), (.int .u8), (.int .u8), (.int .u8), (.int .u8), (.int .u8), (.int .u8), (.int .u8), (.int .u8), (.int .u8), (.int .u8), (.int .u8), (.int .u8), (.int .u8), (.int .u8), (.int .u8)]
def tyLb : Ty := .many [.int .u32, .int .u32]
def tyOp : Ty := .many [.int .i64, .int .i64, .int .i64, .slice (.int .i64), tyB16, tyLb, .int .i64, .int .u8, .slice (.int .u8)]
def tyRes : Ty := .many [.int .i64, tyB16, tyLb]
def tyVw : Ty := .many [.bool, .bool, .int .u32, tyLb, tyLb]
def tyMo : Ty := .many [tyOp, tyRes, .many [tyVw, tyVw]]

theorem ok_lb {s : St} {x : List AV} (h : Ok s tyLb x) : ∃ a : Lb, x = [.int .u32 a.e, .int .u32 a.q] ∧ 0 ≤ a.e ∧ 0 ≤ a.q := by
  obtain ⟨_, _, rfl, ⟨e, rfl, he, _⟩, ⟨_, _, rfl, ⟨q, rfl, hq, _⟩, rfl⟩⟩ := h
  exact ⟨⟨e, q⟩, rfl, he, hq⟩
theorem ok_vw {s : St} {x : List AV} (h : Ok s tyVw x) : ∃ v : Vw, x = v.enc ∧ 0 ≤ v.ex.e ∧ 0 ≤ v.ex.q ∧ 0 ≤ v.epoch := by
  obtain ⟨_, _, rfl, ⟨u, rfl⟩, _, _, rfl, ⟨p, rfl⟩, _, _, rfl, ⟨e, rfl, he, _⟩, _, _, rfl, hx, _, _, rfl, hn, rfl⟩ := h
  obtain ⟨a, rfl, h1, h2⟩ := ok_lb hx
  obtain ⟨b, rfl, _⟩ := ok_lb hn
  exact ⟨⟨u, p, e, a, b⟩, rfl, h1, h2, he⟩

theorem ok_mo {s : St} {x : List AV} (h : Ok s tyMo x) : ∃ m : Mo, x = m.cells ∧ MoOk m := by
  have hl := ok_length h
  have hc := ok_cell h
  obtain ⟨o, _, rfl, ho, r, _, rfl, hr, vs, _, rfl, hv, rfl⟩ := h
  have lo := ok_length ho
  have lr := ok_length hr
  obtain ⟨a, _, rfl, ha, b, _, rfl, hb, rfl⟩ := hv
  obtain ⟨v0, rfl, p0⟩ := ok_vw ha
  obtain ⟨v1, rfl, p1⟩ := ok_vw hb
  obtain ⟨_, o', rfl, ⟨k, rfl, _⟩, _, o2, rfl, ⟨n, rfl, _⟩, _⟩ := ho
  obtain ⟨_, r', rfl, ⟨e, rfl, _⟩, _⟩ := hr
  refine ⟨⟨_, k, n, e, v0, v1⟩, rfl, hl, hc, rfl, rfl, ?_, ?_, p0, p1⟩
  · have : ([AV.int .i64 k] ++ ([AV.int .i64 n] ++ o2)).length = 25 := lo
    dsimp only
    rw [List.getElem?_append_right (by omega), this]
    rfl
  · have h1 : ([AV.int .i64 k] ++ ([AV.int .i64 n] ++ o2)).length = 25 := lo
    have h2 : ([AV.int .i64 e] ++ r').length = 19 := lr
    dsimp only
    rw [← List.append_assoc, List.drop_left' (by rw [List.length_append]; omega)]
    rfl

theorem mos_of {s : St} {v : AV} (h : ArgOk s (.slice tyMo) v) : ∃ (l : List Mo) (b o : Nat), Acc s v 58 (l.map Mo.cells) b o ∧ ∀ a ∈ l, MoOk a := by
  obtain ⟨xs, b, o, hA, hx⟩ := acc_of_ok h
  obtain ⟨hs, rfl, hq⟩ := list_read (f := Mo.cells) (Q := MoOk) fun x hm => ok_mo (hx x hm)
  exact ⟨hs, b, o, hA, hq⟩

/-- What both nodes showed last. -/
def lastV (l : List Mo) : Vw × Vw := l.foldl (fun a m => (if m.v0.up then m.v0 else a.1, if m.v1.up then m.v1 else a.2)) (.zero, .zero)
end Go.Proofs.Yteffppdkofdmdaa
