/- Acts that are done with a sender: how they lie, and what a sender is behind each; what never falls. -/
import Derived.Test.YtfboomidofnmfaaSnd4
namespace Go.Proofs.Ytfboomidofnmfaa
open D
set_option linter.unusedSimpArgs false
set_option linter.unusedVariables false
set_option maxRecDepth 10000

theorem less_run (a b : Lb) (s : St) : Wf mm 22 [.agg [.int .u32 a.e, .int .u32 a.q], .agg [.int .u32 b.e, .int .u32 b.q]] s fun v s' => v = .bool (decide (a.lt b)) ∧ Fr s s' := by
  refine Wf_enter ft22 (sm (by decide)) (by rfl) ?_
  simp -implicitDefEqProofs only [go_sem, Wk_block, reduceCtorEq, Nat.reduceEqDiff, Nat.reduceAdd, Nat.reduceLeDiff, Nat.reduceLT, Nat.reduceMul, Nat.reduceSub, ↓reduceIte, Int.reduceLT, Int.reduceLE, Int.reduceNeg, Int.reduceAdd, Int.reduceEq, Nat.reduceBneDiff, Nat.reduceBEq, Int.reduceToNat, Int.reduceMul, Int.reduceSub, Int.reduceBEq, Int.reduceBNe, Int.cast_ofNat_Int, Int.toNat_natCast_add_one, Nat.add_left_cancel_iff, Nat.left_eq_add, Nat.add_eq_left, Int.toNat_natCast, Nat.add_assoc, Int.ofNat_lt, Int.ofNat_le, Nat.lt_add_one_of_lt, Nat.lt_add_one, Nat.lt_add_right, Nat.lt_add_right_iff_pos, Nat.add_lt_add_iff_left, fd22]
  repeat' (first | (refine Wg_split (fun hg => ?_) (fun hg => ?_) <;> simp -implicitDefEqProofs only [go_sem, Wk_block, reduceCtorEq, Nat.reduceEqDiff, Nat.reduceAdd, Nat.reduceLeDiff, Nat.reduceLT, Nat.reduceMul, Nat.reduceSub, ↓reduceIte, Int.reduceLT, Int.reduceLE, Int.reduceNeg, Int.reduceAdd, Int.reduceEq, Nat.reduceBneDiff, Nat.reduceBEq, Int.reduceToNat, Int.reduceMul, Int.reduceSub, Int.reduceBEq, Int.reduceBNe, Int.cast_ofNat_Int, Int.toNat_natCast_add_one, Nat.add_left_cancel_iff, Nat.left_eq_add, Nat.add_eq_left, Int.toNat_natCast, Nat.add_assoc, Int.ofNat_lt, Int.ofNat_le, Nat.lt_add_one_of_lt, Nat.lt_add_one, Nat.lt_add_right, Nat.lt_add_right_iff_pos, Nat.add_lt_add_iff_left, Fr.refl, hg]) | (refine Wi_split (fun hg => ?_) (fun hg => ?_) <;> simp -implicitDefEqProofs only [go_sem, Wk_block, reduceCtorEq, Nat.reduceEqDiff, Nat.reduceAdd, Nat.reduceLeDiff, Nat.reduceLT, Nat.reduceMul, Nat.reduceSub, ↓reduceIte, Int.reduceLT, Int.reduceLE, Int.reduceNeg, Int.reduceAdd, Int.reduceEq, Nat.reduceBneDiff, Nat.reduceBEq, Int.reduceToNat, Int.reduceMul, Int.reduceSub, Int.reduceBEq, Int.reduceBNe, Int.cast_ofNat_Int, Int.toNat_natCast_add_one, Nat.add_left_cancel_iff, Nat.left_eq_add, Nat.add_eq_left, Int.toNat_natCast, Nat.add_assoc, Int.ofNat_lt, Int.ofNat_le, Nat.lt_add_one_of_lt, Nat.lt_add_one, Nat.lt_add_right, Nat.lt_add_right_iff_pos, Nat.add_lt_add_iff_left, Fr.refl, hg]))
  all_goals (refine ⟨?_, by (repeat (first | exact FrX.refl _ _ | exact Fr.refl _ | assumption | exact Fr.x (by assumption) _ | refine FrX.put ?_ (.inl rfl) _ | refine FrX.put ?_ (.inr (by first | omega | (simp; done) | (simp; omega))) _ | refine FrX.new ?_ _ | refine Fr.put ?_ (by first | omega | (simp; done) | (simp; omega)) _ | refine Fr.new ?_ _ | refine FrX.then ?_ (by assumption) | refine Fr.trans ?_ (by assumption)))⟩; simp [Lb.lt] at *; try omega)
  all_goals (congr 1; simp_all)

theorem ok_have {s : St} {x : List AV} (h : Ok s (.many [.many [.int .u32, .int .u32], .int .u32]) x) : ∃ a : Hv, x = a.enc ∧ (0 ≤ a.l.e ∧ 0 ≤ a.l.q) := by
  obtain ⟨_, _, rfl, ⟨_, _, rfl, ⟨e, rfl, he, _⟩, ⟨_, _, rfl, ⟨q, rfl, hq, _⟩, rfl⟩⟩, ⟨_, _, rfl, ⟨u, rfl, _⟩, rfl⟩⟩ := h
  exact ⟨⟨⟨e, q⟩, u⟩, rfl, he, hq⟩

theorem haves_of {s : St} {v : AV} (h : ArgOk s (.slice (.many [.many [.int .u32, .int .u32], .int .u32])) v) : ∃ (hs : List Hv) (b o : Nat), Acc s v 3 (hs.map Hv.enc) b o := by
  obtain ⟨xs, b, o, hA, hx⟩ := acc_of_ok h
  obtain ⟨hs, rfl, _⟩ := list_read (f := Hv.enc) (Q := fun a => 0 ≤ a.l.e ∧ 0 ≤ a.l.q) fun x hm => ok_have (hx x hm)
  exact ⟨hs, b, o, hA⟩

/-- Something done with a sender. -/
structure Act where
  kind : Int
  n : Int
  label : Lb
  msg : Mg
  own : AV
  hs : List Hv
  ow : List Hv
  bh : Nat
  oh : Nat
  bo : Nat
  oo : Nat
def Act.enc (a : Act) : List AV := [.int .i64 a.kind, .int .i64 a.n, .int .u32 a.label.e, .int .u32 a.label.q, .int .i64 a.msg.kind, .int .u32 a.msg.epoch, .int .u64 a.msg.sess, .int .u32 a.msg.target.e, .int .u32 a.msg.target.q, .int .u32 a.msg.base.e, .int .u32 a.msg.base.q,
  .int .i64 a.msg.index, .int .i64 a.msg.total, .int .u32 a.msg.tick, a.msg.items, a.msg.haves, a.own]
/-- What an act that came in holds. -/
structure ActOk (s : St) (a : Act) : Prop where
  h : Acc s a.msg.haves 3 (a.hs.map Hv.enc) a.bh a.oh
  o : Acc s a.own 3 (a.ow.map Hv.enc) a.bo a.oo
  ic : a.msg.items.cell = true
  ics : a.msg.items.cells = [a.msg.items]
  le : 0 ≤ a.label.e
  lq : 0 ≤ a.label.q

theorem ActOk.mono {s s' : St} {a : Act} (h : ActOk s a) (f : Fr s s') : ActOk s' a := ⟨h.h.mono f, h.o.mono f, h.ic, h.ics, h.le, h.lq⟩
theorem ActOk.monoX {s s' : St} {a : Act} (h : ActOk s a) {x : Nat} (f : FrX x s s') {l : List AV} {lo : Bool} {z : Nat} (hx : s.get x = some (.cells l lo false z)) : ActOk s' a := ⟨h.h.monoX f hx, h.o.monoX f hx, h.ic, h.ics, h.le, h.lq⟩

def tyMsg : Ty := .many [(.int .i64), (.int .u32), (.int .u64), (.many [(.int .u32), (.int .u32)]), (.many [(.int .u32), (.int .u32)]), (.int .i64), (.int .i64), (.int .u32), (.slice (.many [(.int .i64), .bool, (.many [(.int .u8), (.int .u8), (.int .u8), (.int .u8), (.int .u8), (.int .u8), (.int .u8), (.int .u8), (.int .u8), (.int .u8), (.int .u8), (.int .u8), (.int .u8), (.int .u8), (.int .u8), (.int .u8)])])), (.slice (.many [(.many [(.int .u32), (.int .u32)]), (.int .u32)]))]
def tyAct : Ty := .many [(.int .i64), (.int .i64), (.many [(.int .u32), (.int .u32)]), tyMsg, (.slice (.many [(.many [(.int .u32), (.int .u32)]), (.int .u32)]))]

theorem ok_act {s : St} {x : List AV} (h : Ok s tyAct x) : ∃ a : Act, x = a.enc ∧ ActOk s a := by
  obtain ⟨_, _, rfl, ⟨k, rfl, _⟩, _, _, rfl, ⟨n, rfl, _⟩, _, _, rfl, ⟨_, _, rfl, ⟨le, rfl, hle, _⟩, _, _, rfl, ⟨lq, rfl, hlq, _⟩, rfl⟩, _, _, rfl, hm, _, _, rfl, ho, rfl⟩ := h
  obtain ⟨_, _, rfl, ⟨mk, rfl, _⟩, _, _, rfl, ⟨me, rfl, _⟩, _, _, rfl, ⟨ms, rfl, _⟩, _, _, rfl, ⟨_, _, rfl, ⟨te, rfl, _⟩, _, _, rfl, ⟨tq, rfl, _⟩, rfl⟩, _, _, rfl, ⟨_, _, rfl, ⟨be, rfl, _⟩, _, _, rfl, ⟨bq, rfl, _⟩, rfl⟩,
    _, _, rfl, ⟨ix, rfl, _⟩, _, _, rfl, ⟨tt, rfl, _⟩, _, _, rfl, ⟨tk, rfl, _⟩, _, _, rfl, hi, _, _, rfl, hh, rfl⟩ := hm
  obtain ⟨iv, rfl, hi⟩ := ok_slice1 hi
  obtain ⟨hv, rfl, hh⟩ := ok_slice1 hh
  obtain ⟨ov, rfl, ho⟩ := ok_slice1 ho
  obtain ⟨_, _, _, hI, _⟩ := acc_of_ok hi
  obtain ⟨hs, bh, oh, hH⟩ := haves_of hh
  obtain ⟨ow, bo, oo, hO⟩ := haves_of ho
  exact ⟨⟨k, n, ⟨le, lq⟩, ⟨mk, me, ms, ⟨te, tq⟩, ⟨be, bq⟩, ix, tt, tk, iv, hv⟩, ov, hs, ow, bh, oh, bo, oo⟩, rfl, hH, hO, hI.cell, hI.cells, hle, hlq⟩

theorem acts_of {s : St} {v : AV} (h : ArgOk s (.slice tyAct) v) : ∃ (l : List Act) (b o : Nat), Acc s v 17 (l.map Act.enc) b o ∧ ∀ a ∈ l, ActOk s a := by
  obtain ⟨xs, b, o, hA, hx⟩ := acc_of_ok h
  obtain ⟨hs, rfl, hq⟩ := list_read (f := Act.enc) (Q := ActOk s) fun x hm => ok_act (hx x hm)
  exact ⟨hs, b, o, hA, hq⟩

/-- A sender behind an act. -/
def Snd.step (S : Snd) (a : Act) : Snd :=
  if a.kind = 0 then (S.start a.label).1 else
  if a.kind = 1 then (if (S.hear a.msg a.hs a.ow).2 = true then (S.hear a.msg a.hs a.ow).1.plan a.msg a.n else (S.hear a.msg a.hs a.ow).1) else
  if a.kind = 3 then (S.ack a.msg).1 else
  if a.kind = 4 then (S.nack a.msg).1 else
  if a.kind = 5 then S.tick.1 else
  if a.kind = 6 then S.stop else S
end Go.Proofs.Ytfboomidofnmfaa
