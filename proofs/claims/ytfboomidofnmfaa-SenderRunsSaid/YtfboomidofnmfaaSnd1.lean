/- A sender's small steps: what they come to. -/
import Derived.Test.YtfboomidofnmfaaLab
namespace Go.Proofs.Ytfboomidofnmfaa
open D
set_option linter.unusedSimpArgs false
set_option linter.unusedVariables false
set_option maxRecDepth 10000
/-- A sender. -/
structure Snd where
  sess : Int
  target : Lb
  base : Lb
  index : Int
  total : Int
  waits : Int
  boot : Int
  retry : Int
  began : Int
  phase : Int
  done : Lb
def Snd.enc (S : Snd) : List AV := [.int .u64 S.sess, .int .u32 S.target.e, .int .u32 S.target.q, .int .u32 S.base.e, .int .u32 S.base.q, .int .i64 S.index, .int .i64 S.total, .int .i64 S.waits, .int .u64 S.boot, .int .i64 S.retry, .int .u64 S.began, .int .i64 S.phase, .int .u32 S.done.e, .int .u32 S.done.q]
/-- A message. -/
structure Mg where
  kind : Int
  epoch : Int
  sess : Int
  target : Lb
  base : Lb
  index : Int
  total : Int
  tick : Int
  items : AV
  haves : AV
def Mg.enc (m : Mg) : List AV := [.int .i64 m.kind, .int .u32 m.epoch, .int .u64 m.sess, .int .u32 m.target.e, .int .u32 m.target.q, .int .u32 m.base.e, .int .u32 m.base.q, .int .i64 m.index, .int .i64 m.total, .int .u32 m.tick, m.items, m.haves]
def Mg.none : Mg := ⟨0, 0, 0, ⟨0, 0⟩, ⟨0, 0⟩, 0, 0, 0, .nilSlice, .nilSlice⟩

abbrev Lies (s : St) (b : Nat) (l : List AV) : Prop := s.get b = some (.cells l false false 0)

/-- What a sender's numbers are. -/
structure Snd.Wf (S : Snd) : Prop where
  boot : 0 ≤ S.boot ∧ S.boot ≤ 4294967295
  retry : 1 ≤ S.retry ∧ S.retry ≤ 1000
  began : 0 ≤ S.began ∧ S.began ≤ 1048575
  waits : 0 ≤ S.waits ∧ S.waits < S.retry

def Snd.its (S : Snd) (m : Mg) (kind : Int) : Bool := S.phase != 0 && m.kind == kind && m.sess == S.sess && (m.target.e == S.target.e && m.target.q == S.target.q)

theorem its_run (S : Snd) (m : Mg) (kind : Int) {s : St} {b : Nat} (hb : Lies s b S.enc) (hlt : b < s.next) : Wf mm 34 [.ptr b 0, .agg m.enc, .int .i64 kind] s fun v s' => v = .bool (S.its m kind) ∧ Fr s s' := by
  refine Wf_enter ft34 (sm (by decide)) (by rfl) ?_
  unfold Snd.enc Lies at hb
  simp only [fd34, Mg.enc, go_sem, Wk_block, reduceCtorEq, Nat.reduceEqDiff, Nat.reduceAdd, Nat.reduceLeDiff, Nat.reduceLT, Nat.reduceMul, Nat.reduceSub, ↓reduceIte, Int.reduceLT, Int.reduceLE, Int.reduceNeg, Int.reduceAdd, Int.reduceEq, Nat.reduceBneDiff, Nat.reduceBEq, Int.reduceToNat, Int.reduceMul, Int.reduceSub, Int.reduceBEq, Int.reduceBNe, Int.cast_ofNat_Int, Int.toNat_natCast_add_one, Nat.add_left_cancel_iff, Nat.left_eq_add, Nat.add_eq_left, Int.toNat_natCast, Nat.add_assoc, Int.ofNat_lt, Int.ofNat_le, hb, eq_next_f hlt]
  repeat' (first | (refine Wg_split (fun hg => ?_) (fun hg => ?_) <;> simp only [go_sem, Wk_block, reduceCtorEq, Nat.reduceEqDiff, Nat.reduceAdd, Nat.reduceLeDiff, Nat.reduceLT, Nat.reduceMul, Nat.reduceSub, ↓reduceIte, Int.reduceLT, Int.reduceLE, Int.reduceNeg, Int.reduceAdd, Int.reduceEq, Nat.reduceBneDiff, Nat.reduceBEq, Int.reduceToNat, Int.reduceMul, Int.reduceSub, Int.reduceBEq, Int.reduceBNe, Int.cast_ofNat_Int, Int.toNat_natCast_add_one, Nat.add_left_cancel_iff, Nat.left_eq_add, Nat.add_eq_left, Int.toNat_natCast, Nat.add_assoc, Int.ofNat_lt, Int.ofNat_le, hb, eq_next_f hlt, hg]) | (refine Wi_split (fun hg => ?_) (fun hg => ?_) <;> simp only [go_sem, Wk_block, reduceCtorEq, Nat.reduceEqDiff, Nat.reduceAdd, Nat.reduceLeDiff, Nat.reduceLT, Nat.reduceMul, Nat.reduceSub, ↓reduceIte, Int.reduceLT, Int.reduceLE, Int.reduceNeg, Int.reduceAdd, Int.reduceEq, Nat.reduceBneDiff, Nat.reduceBEq, Int.reduceToNat, Int.reduceMul, Int.reduceSub, Int.reduceBEq, Int.reduceBNe, Int.cast_ofNat_Int, Int.toNat_natCast_add_one, Nat.add_left_cancel_iff, Nat.left_eq_add, Nat.add_eq_left, Int.toNat_natCast, Nat.add_assoc, Int.ofNat_lt, Int.ofNat_le, hb, eq_next_f hlt, hg]))
  all_goals (refine ⟨?_, (Fr.refl s).new _⟩; simp_all [Snd.its])

def clamp (n : Int) : Int := if 1 < (if 1000 < n then 1000 else n) then (if 1000 < n then 1000 else n) else 1
def Snd.new (boot retry : Int) : Snd := ⟨0, ⟨0, 0⟩, ⟨0, 0⟩, 0, 0, 0, boot, clamp retry, 0, 0, ⟨0, 0⟩⟩
theorem new_run (boot retry : Int) (h0 : 0 ≤ boot) (h1 : boot ≤ 4294967295) (s : St) : Wf mm 8 [.int .u32 boot, .int .i64 retry] s fun v s' => v = .ptr s.next 0 ∧ Lies s' s.next (Snd.new boot retry).enc ∧ Fr s s' ∧ s.next < s'.next := by
  refine Wf_enter ft8 (sm (by decide)) (by rfl) ?_
  simp only [fd8, go_sem, Wk_block, reduceCtorEq, Nat.reduceEqDiff, Nat.reduceAdd, Nat.reduceLeDiff, Nat.reduceLT, Nat.reduceMul, Nat.reduceSub, ↓reduceIte, Int.reduceLT, Int.reduceLE, Int.reduceNeg, Int.reduceAdd, Int.reduceEq, Nat.reduceBneDiff, Nat.reduceBEq, Int.reduceToNat, Int.reduceMul, Int.reduceSub, Int.reduceBEq, Int.reduceBNe, Int.cast_ofNat_Int, Int.toNat_natCast_add_one, Nat.add_left_cancel_iff, Nat.left_eq_add, Nat.add_eq_left, Int.toNat_natCast, Nat.add_assoc, Int.ofNat_lt, Int.ofNat_le, u64_in h0 (by omega : boot ≤ 18446744073709551615)]
  refine ⟨?_, (Fr.refl s).new _, Nat.lt_succ_self _⟩
  simp only [Lies, St.get_new, if_true, Snd.enc, Snd.new, clamp, gt_iff_lt]

theorem Phase_run (S : Snd) {s : St} {b : Nat} (hb : Lies s b S.enc) : mm.L.call 13 [.ptr b 0] s = some (.int .i64 S.phase, s) := by
  refine of_Wf (Wf_enter ft13 (sm (by decide)) (by rfl) ?_)
  unfold Snd.enc Lies at hb
  simp only [fd13, go_sem, Wk_block, reduceCtorEq, Nat.reduceEqDiff, Nat.reduceAdd, Nat.reduceLeDiff, Nat.reduceLT, Nat.reduceMul, Nat.reduceSub, ↓reduceIte, Int.reduceLT, Int.reduceLE, Int.reduceNeg, Int.reduceAdd, Int.reduceEq, Nat.reduceBneDiff, Nat.reduceBEq, Int.reduceToNat, Int.reduceMul, Int.reduceSub, Int.reduceBEq, Int.reduceBNe, Int.cast_ofNat_Int, Int.toNat_natCast_add_one, Nat.add_left_cancel_iff, Nat.left_eq_add, Nat.add_eq_left, Int.toNat_natCast, Nat.add_assoc, Int.ofNat_lt, Int.ofNat_le, hb]

theorem Done_run (S : Snd) {s : St} {b : Nat} (hb : Lies s b S.enc) (hlt : b < s.next) : Wf mm 18 [.ptr b 0] s fun v s' => v = .agg S.done.enc ∧ Fr s s' := by
  refine Wf_enter ft18 (sm (by decide)) (by rfl) ?_
  unfold Snd.enc Lies at hb
  simp only [fd18, go_sem, Wk_block, reduceCtorEq, Nat.reduceEqDiff, Nat.reduceAdd, Nat.reduceLeDiff, Nat.reduceLT, Nat.reduceMul, Nat.reduceSub, ↓reduceIte, Int.reduceLT, Int.reduceLE, Int.reduceNeg, Int.reduceAdd, Int.reduceEq, Nat.reduceBneDiff, Nat.reduceBEq, Int.reduceToNat, Int.reduceMul, Int.reduceSub, Int.reduceBEq, Int.reduceBNe, Int.cast_ofNat_Int, Int.toNat_natCast_add_one, Nat.add_left_cancel_iff, Nat.left_eq_add, Nat.add_eq_left, Int.toNat_natCast, Nat.add_assoc, Int.ofNat_lt, Int.ofNat_le, hb, eq_next_f hlt]
  exact ⟨rfl, by (repeat (first | exact FrX.refl _ _ | exact Fr.refl _ | assumption | exact Fr.x (by assumption) _ | refine FrX.put ?_ (.inl rfl) _ | refine FrX.put ?_ (.inr (by first | omega | (simp; done) | (simp; omega))) _ | refine FrX.new ?_ _ | refine Fr.put ?_ (by first | omega | (simp; done) | (simp; omega)) _ | refine Fr.new ?_ _ | refine FrX.then ?_ (by assumption) | refine Fr.trans ?_ (by assumption)))⟩
theorem Target_run (S : Snd) {s : St} {b : Nat} (hb : Lies s b S.enc) (hlt : b < s.next) : Wf mm 41 [.ptr b 0] s fun v s' => v = .agg S.target.enc ∧ Fr s s' := by
  refine Wf_enter ft41 (sm (by decide)) (by rfl) ?_
  unfold Snd.enc Lies at hb
  simp only [fd41, go_sem, Wk_block, reduceCtorEq, Nat.reduceEqDiff, Nat.reduceAdd, Nat.reduceLeDiff, Nat.reduceLT, Nat.reduceMul, Nat.reduceSub, ↓reduceIte, Int.reduceLT, Int.reduceLE, Int.reduceNeg, Int.reduceAdd, Int.reduceEq, Nat.reduceBneDiff, Nat.reduceBEq, Int.reduceToNat, Int.reduceMul, Int.reduceSub, Int.reduceBEq, Int.reduceBNe, Int.cast_ofNat_Int, Int.toNat_natCast_add_one, Nat.add_left_cancel_iff, Nat.left_eq_add, Nat.add_eq_left, Int.toNat_natCast, Nat.add_assoc, Int.ofNat_lt, Int.ofNat_le, hb, eq_next_f hlt]
  exact ⟨rfl, by (repeat (first | exact FrX.refl _ _ | exact Fr.refl _ | assumption | exact Fr.x (by assumption) _ | refine FrX.put ?_ (.inl rfl) _ | refine FrX.put ?_ (.inr (by first | omega | (simp; done) | (simp; omega))) _ | refine FrX.new ?_ _ | refine Fr.put ?_ (by first | omega | (simp; done) | (simp; omega)) _ | refine Fr.new ?_ _ | refine FrX.then ?_ (by assumption) | refine Fr.trans ?_ (by assumption)))⟩
theorem Base_run (S : Snd) {s : St} {b : Nat} (hb : Lies s b S.enc) (hlt : b < s.next) : Wf mm 42 [.ptr b 0] s fun v s' => v = .agg S.base.enc ∧ Fr s s' := by
  refine Wf_enter ft42 (sm (by decide)) (by rfl) ?_
  unfold Snd.enc Lies at hb
  simp only [fd42, go_sem, Wk_block, reduceCtorEq, Nat.reduceEqDiff, Nat.reduceAdd, Nat.reduceLeDiff, Nat.reduceLT, Nat.reduceMul, Nat.reduceSub, ↓reduceIte, Int.reduceLT, Int.reduceLE, Int.reduceNeg, Int.reduceAdd, Int.reduceEq, Nat.reduceBneDiff, Nat.reduceBEq, Int.reduceToNat, Int.reduceMul, Int.reduceSub, Int.reduceBEq, Int.reduceBNe, Int.cast_ofNat_Int, Int.toNat_natCast_add_one, Nat.add_left_cancel_iff, Nat.left_eq_add, Nat.add_eq_left, Int.toNat_natCast, Nat.add_assoc, Int.ofNat_lt, Int.ofNat_le, hb, eq_next_f hlt]
  exact ⟨rfl, by (repeat (first | exact FrX.refl _ _ | exact Fr.refl _ | assumption | exact Fr.x (by assumption) _ | refine FrX.put ?_ (.inl rfl) _ | refine FrX.put ?_ (.inr (by first | omega | (simp; done) | (simp; omega))) _ | refine FrX.new ?_ _ | refine Fr.put ?_ (by first | omega | (simp; done) | (simp; omega)) _ | refine Fr.new ?_ _ | refine FrX.then ?_ (by assumption) | refine Fr.trans ?_ (by assumption)))⟩

def Snd.stop (S : Snd) : Snd := { S with phase := 0, sess := 0, target := ⟨0, 0⟩, base := ⟨0, 0⟩, index := 0, total := 0, waits := 0 }
theorem Stop_run (S : Snd) {s : St} {b : Nat} (hb : Lies s b S.enc) : Wf mm 21 [.ptr b 0] s fun _ s' => Lies s' b S.stop.enc ∧ FrX b s s' := by
  refine Wf_enter ft21 (sm (by decide)) (by rfl) ?_
  unfold Snd.enc Lies at hb
  simp only [fd21, go_sem, Wk_block, reduceCtorEq, Nat.reduceEqDiff, Nat.reduceAdd, Nat.reduceLeDiff, Nat.reduceLT, Nat.reduceMul, Nat.reduceSub, ↓reduceIte, Int.reduceLT, Int.reduceLE, Int.reduceNeg, Int.reduceAdd, Int.reduceEq, Nat.reduceBneDiff, Nat.reduceBEq, Int.reduceToNat, Int.reduceMul, Int.reduceSub, Int.reduceBEq, Int.reduceBNe, Int.cast_ofNat_Int, Int.toNat_natCast_add_one, Nat.add_left_cancel_iff, Nat.left_eq_add, Nat.add_eq_left, Int.toNat_natCast, Nat.add_assoc, Int.ofNat_lt, Int.ofNat_le, hb]
  exact ⟨by simp only [Lies, St.get_put, if_true, Snd.enc, Snd.stop], by (repeat (first | exact FrX.refl _ _ | exact Fr.refl _ | assumption | exact Fr.x (by assumption) _ | refine FrX.put ?_ (.inl rfl) _ | refine FrX.put ?_ (.inr (by first | omega | (simp; done) | (simp; omega))) _ | refine FrX.new ?_ _ | refine Fr.put ?_ (by first | omega | (simp; done) | (simp; omega)) _ | refine Fr.new ?_ _ | refine FrX.then ?_ (by assumption) | refine Fr.trans ?_ (by assumption)))⟩

def Snd.tick (S : Snd) : Snd × Bool :=
  if S.phase = 0 then (S, false) else if S.waits + 1 < S.retry then ({ S with waits := S.waits + 1 }, false) else ({ S with waits := 0 }, true)
theorem Tick_run (S : Snd) (hS : S.Wf) {s : St} {b : Nat} (hb : Lies s b S.enc) : Wf mm 11 [.ptr b 0] s fun v s' => v = .bool S.tick.2 ∧ Lies s' b S.tick.1.enc ∧ FrX b s s' := by
  refine Wf_enter ft11 (sm (by decide)) (by rfl) ?_
  unfold Snd.enc Lies at hb
  have hw : IntKind.i64.wrap (S.waits + 1) = S.waits + 1 := by have := hS.waits; have := hS.retry; exact i64_in (by omega) (by omega)
  simp only [fd11, go_sem, Wk_block, reduceCtorEq, Nat.reduceEqDiff, Nat.reduceAdd, Nat.reduceLeDiff, Nat.reduceLT, Nat.reduceMul, Nat.reduceSub, ↓reduceIte, Int.reduceLT, Int.reduceLE, Int.reduceNeg, Int.reduceAdd, Int.reduceEq, Nat.reduceBneDiff, Nat.reduceBEq, Int.reduceToNat, Int.reduceMul, Int.reduceSub, Int.reduceBEq, Int.reduceBNe, Int.cast_ofNat_Int, Int.toNat_natCast_add_one, Nat.add_left_cancel_iff, Nat.left_eq_add, Nat.add_eq_left, Int.toNat_natCast, Nat.add_assoc, Int.ofNat_lt, Int.ofNat_le, hb]
  repeat' (first | (refine Wg_split (fun hg => ?_) (fun hg => ?_) <;> simp only [go_sem, Wk_block, reduceCtorEq, Nat.reduceEqDiff, Nat.reduceAdd, Nat.reduceLeDiff, Nat.reduceLT, Nat.reduceMul, Nat.reduceSub, ↓reduceIte, Int.reduceLT, Int.reduceLE, Int.reduceNeg, Int.reduceAdd, Int.reduceEq, Nat.reduceBneDiff, Nat.reduceBEq, Int.reduceToNat, Int.reduceMul, Int.reduceSub, Int.reduceBEq, Int.reduceBNe, Int.cast_ofNat_Int, Int.toNat_natCast_add_one, Nat.add_left_cancel_iff, Nat.left_eq_add, Nat.add_eq_left, Int.toNat_natCast, Nat.add_assoc, Int.ofNat_lt, Int.ofNat_le, hb, hw, hg]) | (refine Wi_split (fun hg => ?_) (fun hg => ?_) <;> simp only [go_sem, Wk_block, reduceCtorEq, Nat.reduceEqDiff, Nat.reduceAdd, Nat.reduceLeDiff, Nat.reduceLT, Nat.reduceMul, Nat.reduceSub, ↓reduceIte, Int.reduceLT, Int.reduceLE, Int.reduceNeg, Int.reduceAdd, Int.reduceEq, Nat.reduceBneDiff, Nat.reduceBEq, Int.reduceToNat, Int.reduceMul, Int.reduceSub, Int.reduceBEq, Int.reduceBNe, Int.cast_ofNat_Int, Int.toNat_natCast_add_one, Nat.add_left_cancel_iff, Nat.left_eq_add, Nat.add_eq_left, Int.toNat_natCast, Nat.add_assoc, Int.ofNat_lt, Int.ofNat_le, hb, hw, hg]))
  all_goals simp at *
  · simp only [Snd.tick, if_pos hg]
    exact ⟨trivial, hb, FrX.refl _ _⟩
  · rename_i h0
    simp only [Snd.tick, if_neg h0, if_pos hg]
    exact ⟨trivial, by simp only [Lies, St.get_put, if_true, Snd.enc], by (repeat (first | exact FrX.refl _ _ | exact Fr.refl _ | assumption | exact Fr.x (by assumption) _ | refine FrX.put ?_ (.inl rfl) _ | refine FrX.put ?_ (.inr (by first | omega | (simp; done) | (simp; omega))) _ | refine FrX.new ?_ _ | refine Fr.put ?_ (by first | omega | (simp; done) | (simp; omega)) _ | refine Fr.new ?_ _ | refine FrX.then ?_ (by assumption) | refine Fr.trans ?_ (by assumption)))⟩
  · rename_i h0
    simp only [Snd.tick, if_neg h0, if_neg (show ¬ (S.waits + 1 < S.retry) by omega)]
    exact ⟨trivial, by simp only [Lies, St.get_put, if_true, Snd.enc], by (repeat (first | exact FrX.refl _ _ | exact Fr.refl _ | assumption | exact Fr.x (by assumption) _ | refine FrX.put ?_ (.inl rfl) _ | refine FrX.put ?_ (.inr (by first | omega | (simp; done) | (simp; omega))) _ | refine FrX.new ?_ _ | refine Fr.put ?_ (by first | omega | (simp; done) | (simp; omega)) _ | refine Fr.new ?_ _ | refine FrX.then ?_ (by assumption) | refine Fr.trans ?_ (by assumption)))⟩

def Snd.start (S : Snd) (t : Lb) : Snd × Bool :=
  if S.phase ≠ 0 ∨ ¬ S.done.lt t ∨ 1048575 ≤ S.began then (S, false) else
    ({ S with began := S.began + 1, phase := 1, sess := S.boot * 1048576 + (S.began + 1), target := t, base := ⟨0, 0⟩, index := 0, total := 0, waits := 0 }, true)
theorem Start_run (S : Snd) (hS : S.Wf) (t : Lb) {s : St} {b : Nat} (hb : Lies s b S.enc) (hlt : b < s.next) : Wf mm 12 [.ptr b 0, .agg t.enc] s fun v s' => v = .bool (S.start t).2 ∧ Lies s' b (S.start t).1.enc ∧ FrX b s s' := by
  refine Wf_enter ft12 (sm (by decide)) (by rfl) ?_
  unfold Snd.enc Lies at hb
  unfold Lb.enc
  have h1 : IntKind.u64.wrap (S.began + 1) = S.began + 1 := by have := hS.began; exact u64_in (by omega) (by omega)
  have h2 : IntKind.u64.wrap (S.boot * 1048576) = S.boot * 1048576 := by have := hS.boot; exact u64_in (by omega) (by omega)
  have h3 : IntKind.u64.wrap (S.boot * 1048576 + (S.began + 1)) = S.boot * 1048576 + (S.began + 1) := by have := hS.boot; have := hS.began; exact u64_in (by omega) (by omega)
  simp only [fd12, go_sem, Wk_block, reduceCtorEq, Nat.reduceEqDiff, Nat.reduceAdd, Nat.reduceLeDiff, Nat.reduceLT, Nat.reduceMul, Nat.reduceSub, ↓reduceIte, Int.reduceLT, Int.reduceLE, Int.reduceNeg, Int.reduceAdd, Int.reduceEq, Nat.reduceBneDiff, Nat.reduceBEq, Int.reduceToNat, Int.reduceMul, Int.reduceSub, Int.reduceBEq, Int.reduceBNe, Int.cast_ofNat_Int, Int.toNat_natCast_add_one, Nat.add_left_cancel_iff, Nat.left_eq_add, Nat.add_eq_left, Int.toNat_natCast, Nat.add_assoc, Int.ofNat_lt, Int.ofNat_le, hb, eq_next_f hlt, h1, h2, h3]
  refine Wg_split (fun hg => ?_) (fun hg => ?_)
  · simp only [go_sem, Wk_block, reduceCtorEq, Nat.reduceEqDiff, Nat.reduceAdd, Nat.reduceLeDiff, Nat.reduceLT, Nat.reduceMul, Nat.reduceSub, ↓reduceIte, Int.reduceLT, Int.reduceLE, Int.reduceNeg, Int.reduceAdd, Int.reduceEq, Nat.reduceBneDiff, Nat.reduceBEq, Int.reduceToNat, Int.reduceMul, Int.reduceSub, Int.reduceBEq, Int.reduceBNe, Int.cast_ofNat_Int, Int.toNat_natCast_add_one, Nat.add_left_cancel_iff, Nat.left_eq_add, Nat.add_eq_left, Int.toNat_natCast, Nat.add_assoc, Int.ofNat_lt, Int.ofNat_le, hb, eq_next_f hlt, hg]
    have h0 : S.phase ≠ 0 := by simpa using hg
    simp only [Snd.start, ne_eq, h0, not_false_eq_true, true_or, if_true]
    exact ⟨trivial, by simp only [Lies, St.get_new, eq_next_f hlt, if_false, hb, Snd.enc], by (repeat (first | exact FrX.refl _ _ | exact Fr.refl _ | assumption | exact Fr.x (by assumption) _ | refine FrX.put ?_ (.inl rfl) _ | refine FrX.put ?_ (.inr (by first | omega | (simp; done) | (simp; omega))) _ | refine FrX.new ?_ _ | refine Fr.put ?_ (by first | omega | (simp; done) | (simp; omega)) _ | refine Fr.new ?_ _ | refine FrX.then ?_ (by assumption) | refine Fr.trans ?_ (by assumption)))⟩
  · simp only [go_sem, Wk_block, reduceCtorEq, Nat.reduceEqDiff, Nat.reduceAdd, Nat.reduceLeDiff, Nat.reduceLT, Nat.reduceMul, Nat.reduceSub, ↓reduceIte, Int.reduceLT, Int.reduceLE, Int.reduceNeg, Int.reduceAdd, Int.reduceEq, Nat.reduceBneDiff, Nat.reduceBEq, Int.reduceToNat, Int.reduceMul, Int.reduceSub, Int.reduceBEq, Int.reduceBNe, Int.cast_ofNat_Int, Int.toNat_natCast_add_one, Nat.add_left_cancel_iff, Nat.left_eq_add, Nat.add_eq_left, Int.toNat_natCast, Nat.add_assoc, Int.ofNat_lt, Int.ofNat_le, hb, eq_next_f hlt, hg]
    refine Wl_of (Compare_run t S.done _) ?_
    rintro v s1 ⟨rfl, f1⟩
    simp -implicitDefEqProofs only [go_sem, Wk_block, reduceCtorEq, Nat.reduceEqDiff, Nat.reduceAdd, Nat.reduceLeDiff, Nat.reduceLT, Nat.reduceMul, Nat.reduceSub, ↓reduceIte, Int.reduceLT, Int.reduceLE, Int.reduceNeg, Int.reduceAdd, Int.reduceEq, Nat.reduceBneDiff, Nat.reduceBEq, Int.reduceToNat, Int.reduceMul, Int.reduceSub, Int.reduceBEq, Int.reduceBNe, Int.cast_ofNat_Int, Int.toNat_natCast_add_one, Nat.add_left_cancel_iff, Nat.left_eq_add, Nat.add_eq_left, Int.toNat_natCast, Nat.add_assoc, Int.ofNat_lt, Int.ofNat_le, Nat.lt_add_one_of_lt, Nat.lt_add_one, Nat.lt_add_right, Nat.lt_add_right_iff_pos, Nat.add_lt_add_iff_left, f1.get, hb, hlt, hg, eq_next_f hlt]
    repeat' (first | (refine Wg_split (fun hg => ?_) (fun hg => ?_) <;> simp -implicitDefEqProofs only [go_sem, Wk_block, reduceCtorEq, Nat.reduceEqDiff, Nat.reduceAdd, Nat.reduceLeDiff, Nat.reduceLT, Nat.reduceMul, Nat.reduceSub, ↓reduceIte, Int.reduceLT, Int.reduceLE, Int.reduceNeg, Int.reduceAdd, Int.reduceEq, Nat.reduceBneDiff, Nat.reduceBEq, Int.reduceToNat, Int.reduceMul, Int.reduceSub, Int.reduceBEq, Int.reduceBNe, Int.cast_ofNat_Int, Int.toNat_natCast_add_one, Nat.add_left_cancel_iff, Nat.left_eq_add, Nat.add_eq_left, Int.toNat_natCast, Nat.add_assoc, Int.ofNat_lt, Int.ofNat_le, Nat.lt_add_one_of_lt, Nat.lt_add_one, Nat.lt_add_right, Nat.lt_add_right_iff_pos, Nat.add_lt_add_iff_left, f1.get, hb, hlt, h1, h2, h3, eq_next_f hlt, eq_next_f' hlt, hg]) | (refine Wi_split (fun hg => ?_) (fun hg => ?_) <;> simp -implicitDefEqProofs only [go_sem, Wk_block, reduceCtorEq, Nat.reduceEqDiff, Nat.reduceAdd, Nat.reduceLeDiff, Nat.reduceLT, Nat.reduceMul, Nat.reduceSub, ↓reduceIte, Int.reduceLT, Int.reduceLE, Int.reduceNeg, Int.reduceAdd, Int.reduceEq, Nat.reduceBneDiff, Nat.reduceBEq, Int.reduceToNat, Int.reduceMul, Int.reduceSub, Int.reduceBEq, Int.reduceBNe, Int.cast_ofNat_Int, Int.toNat_natCast_add_one, Nat.add_left_cancel_iff, Nat.left_eq_add, Nat.add_eq_left, Int.toNat_natCast, Nat.add_assoc, Int.ofNat_lt, Int.ofNat_le, Nat.lt_add_one_of_lt, Nat.lt_add_one, Nat.lt_add_right, Nat.lt_add_right_iff_pos, Nat.add_lt_add_iff_left, f1.get, hb, hlt, h1, h2, h3, eq_next_f hlt, eq_next_f' hlt, hg]))
    · have e : S.start t = (S, false) := by simp at hg; unfold Snd.start; rw [if_pos (.inr (.inl (cmp_le.1 hg)))]
      rw [e]
      exact ⟨rfl, by simp -implicitDefEqProofs only [go_sem, Wk_block, reduceCtorEq, Nat.reduceEqDiff, Nat.reduceAdd, Nat.reduceLeDiff, Nat.reduceLT, Nat.reduceMul, Nat.reduceSub, ↓reduceIte, Int.reduceLT, Int.reduceLE, Int.reduceNeg, Int.reduceAdd, Int.reduceEq, Nat.reduceBneDiff, Nat.reduceBEq, Int.reduceToNat, Int.reduceMul, Int.reduceSub, Int.reduceBEq, Int.reduceBNe, Int.cast_ofNat_Int, Int.toNat_natCast_add_one, Nat.add_left_cancel_iff, Nat.left_eq_add, Nat.add_eq_left, Int.toNat_natCast, Nat.add_assoc, Int.ofNat_lt, Int.ofNat_le, Nat.lt_add_one_of_lt, Nat.lt_add_one, Nat.lt_add_right, Nat.lt_add_right_iff_pos, Nat.add_lt_add_iff_left, Lies, f1.get, hb, hlt, eq_next_f hlt, Snd.enc], by (repeat (first | exact FrX.refl _ _ | exact Fr.refl _ | assumption | exact Fr.x (by assumption) _ | refine FrX.put ?_ (.inl rfl) _ | refine FrX.put ?_ (.inr (by first | omega | (simp; done) | (simp; omega))) _ | refine FrX.new ?_ _ | refine Fr.put ?_ (by first | omega | (simp; done) | (simp; omega)) _ | refine Fr.new ?_ _ | refine FrX.then ?_ (by assumption) | refine Fr.trans ?_ (by assumption)))⟩
    · rename_i h5
      have e : S.start t = (S, false) := by simp at hg; unfold Snd.start; rw [if_pos (.inr (.inr (by omega)))]
      rw [e]
      exact ⟨rfl, by simp -implicitDefEqProofs only [go_sem, Wk_block, reduceCtorEq, Nat.reduceEqDiff, Nat.reduceAdd, Nat.reduceLeDiff, Nat.reduceLT, Nat.reduceMul, Nat.reduceSub, ↓reduceIte, Int.reduceLT, Int.reduceLE, Int.reduceNeg, Int.reduceAdd, Int.reduceEq, Nat.reduceBneDiff, Nat.reduceBEq, Int.reduceToNat, Int.reduceMul, Int.reduceSub, Int.reduceBEq, Int.reduceBNe, Int.cast_ofNat_Int, Int.toNat_natCast_add_one, Nat.add_left_cancel_iff, Nat.left_eq_add, Nat.add_eq_left, Int.toNat_natCast, Nat.add_assoc, Int.ofNat_lt, Int.ofNat_le, Nat.lt_add_one_of_lt, Nat.lt_add_one, Nat.lt_add_right, Nat.lt_add_right_iff_pos, Nat.add_lt_add_iff_left, Lies, f1.get, hb, hlt, eq_next_f hlt, Snd.enc], by (repeat (first | exact FrX.refl _ _ | exact Fr.refl _ | assumption | exact Fr.x (by assumption) _ | refine FrX.put ?_ (.inl rfl) _ | refine FrX.put ?_ (.inr (by first | omega | (simp; done) | (simp; omega))) _ | refine FrX.new ?_ _ | refine Fr.put ?_ (by first | omega | (simp; done) | (simp; omega)) _ | refine Fr.new ?_ _ | refine FrX.then ?_ (by assumption) | refine Fr.trans ?_ (by assumption)))⟩
    · rename_i h6 h5
      have e : S.start t = ({ S with began := S.began + 1, phase := 1, sess := S.boot * 1048576 + (S.began + 1), target := t, base := ⟨0, 0⟩, index := 0, total := 0, waits := 0 }, true) := by
        simp at hg h5 h6
        unfold Snd.start
        rw [if_neg]
        have := not_congr (cmp_le (a := t) (b := S.done))
        simp only [not_or, Decidable.not_not]
        exact ⟨by simpa using h6, Decidable.not_not.1 (this.1 (by omega)), by omega⟩
      rw [e]
      exact ⟨rfl, by simp -implicitDefEqProofs only [go_sem, Wk_block, reduceCtorEq, Nat.reduceEqDiff, Nat.reduceAdd, Nat.reduceLeDiff, Nat.reduceLT, Nat.reduceMul, Nat.reduceSub, ↓reduceIte, Int.reduceLT, Int.reduceLE, Int.reduceNeg, Int.reduceAdd, Int.reduceEq, Nat.reduceBneDiff, Nat.reduceBEq, Int.reduceToNat, Int.reduceMul, Int.reduceSub, Int.reduceBEq, Int.reduceBNe, Int.cast_ofNat_Int, Int.toNat_natCast_add_one, Nat.add_left_cancel_iff, Nat.left_eq_add, Nat.add_eq_left, Int.toNat_natCast, Nat.add_assoc, Int.ofNat_lt, Int.ofNat_le, Nat.lt_add_one_of_lt, Nat.lt_add_one, Nat.lt_add_right, Nat.lt_add_right_iff_pos, Nat.add_lt_add_iff_left, Lies, f1.get, hb, hlt, eq_next_f hlt, Snd.enc], by (repeat (first | exact FrX.refl _ _ | exact Fr.refl _ | assumption | exact Fr.x (by assumption) _ | refine FrX.put ?_ (.inl rfl) _ | refine FrX.put ?_ (.inr (by first | omega | (simp; done) | (simp; omega))) _ | refine FrX.new ?_ _ | refine Fr.put ?_ (by first | omega | (simp; done) | (simp; omega)) _ | refine Fr.new ?_ _ | refine FrX.then ?_ (by assumption) | refine Fr.trans ?_ (by assumption)))⟩

/-- What a sender says. -/
def Snd.out (S : Snd) (epoch : Int) : Mg × Bool :=
  if S.phase = 1 then (⟨1, epoch, S.sess, S.target, ⟨0, 0⟩, 0, 0, 0, .nilSlice, .nilSlice⟩, true) else
  if S.phase = 2 then (⟨3, epoch, S.sess, S.target, S.base, S.index, S.total, 0, .nilSlice, .nilSlice⟩, true) else (Mg.none, false)
theorem Out_run (S : Snd) (epoch : Int) {s : St} {b : Nat} (hb : Lies s b S.enc) (hlt : b < s.next) : Wf mm 9 [.ptr b 0, .int .u32 epoch] s fun v s' => v = .tup [.agg (S.out epoch).1.enc, .bool (S.out epoch).2] ∧ Fr s s' := by
  refine Wf_enter ft9 (sm (by decide)) (by rfl) ?_
  unfold Snd.enc Lies at hb
  simp -implicitDefEqProofs only [go_sem, Wk_block, reduceCtorEq, Nat.reduceEqDiff, Nat.reduceAdd, Nat.reduceLeDiff, Nat.reduceLT, Nat.reduceMul, Nat.reduceSub, ↓reduceIte, Int.reduceLT, Int.reduceLE, Int.reduceNeg, Int.reduceAdd, Int.reduceEq, Nat.reduceBneDiff, Nat.reduceBEq, Int.reduceToNat, Int.reduceMul, Int.reduceSub, Int.reduceBEq, Int.reduceBNe, Int.cast_ofNat_Int, Int.toNat_natCast_add_one, Nat.add_left_cancel_iff, Nat.left_eq_add, Nat.add_eq_left, Int.toNat_natCast, Nat.add_assoc, Int.ofNat_lt, Int.ofNat_le, Nat.lt_add_one_of_lt, Nat.lt_add_one, Nat.lt_add_right, Nat.lt_add_right_iff_pos, Nat.add_lt_add_iff_left, fd9, hb, hlt, eq_next_f hlt, eq_next_k hlt]
  repeat' (first | (refine Wg_split (fun hg => ?_) (fun hg => ?_) <;> simp -implicitDefEqProofs only [go_sem, Wk_block, reduceCtorEq, Nat.reduceEqDiff, Nat.reduceAdd, Nat.reduceLeDiff, Nat.reduceLT, Nat.reduceMul, Nat.reduceSub, ↓reduceIte, Int.reduceLT, Int.reduceLE, Int.reduceNeg, Int.reduceAdd, Int.reduceEq, Nat.reduceBneDiff, Nat.reduceBEq, Int.reduceToNat, Int.reduceMul, Int.reduceSub, Int.reduceBEq, Int.reduceBNe, Int.cast_ofNat_Int, Int.toNat_natCast_add_one, Nat.add_left_cancel_iff, Nat.left_eq_add, Nat.add_eq_left, Int.toNat_natCast, Nat.add_assoc, Int.ofNat_lt, Int.ofNat_le, Nat.lt_add_one_of_lt, Nat.lt_add_one, Nat.lt_add_right, Nat.lt_add_right_iff_pos, Nat.add_lt_add_iff_left, hb, hlt, eq_next_f hlt, eq_next_k hlt, hg]) | (refine Wi_split (fun hg => ?_) (fun hg => ?_) <;> simp -implicitDefEqProofs only [go_sem, Wk_block, reduceCtorEq, Nat.reduceEqDiff, Nat.reduceAdd, Nat.reduceLeDiff, Nat.reduceLT, Nat.reduceMul, Nat.reduceSub, ↓reduceIte, Int.reduceLT, Int.reduceLE, Int.reduceNeg, Int.reduceAdd, Int.reduceEq, Nat.reduceBneDiff, Nat.reduceBEq, Int.reduceToNat, Int.reduceMul, Int.reduceSub, Int.reduceBEq, Int.reduceBNe, Int.cast_ofNat_Int, Int.toNat_natCast_add_one, Nat.add_left_cancel_iff, Nat.left_eq_add, Nat.add_eq_left, Int.toNat_natCast, Nat.add_assoc, Int.ofNat_lt, Int.ofNat_le, Nat.lt_add_one_of_lt, Nat.lt_add_one, Nat.lt_add_right, Nat.lt_add_right_iff_pos, Nat.add_lt_add_iff_left, hb, hlt, eq_next_f hlt, eq_next_k hlt, hg]))
  all_goals simp at *
  · simp only [Snd.out, if_pos hg, Mg.enc]
    exact ⟨⟨trivial, trivial⟩, by (repeat (first | exact FrX.refl _ _ | exact Fr.refl _ | assumption | exact Fr.x (by assumption) _ | refine FrX.put ?_ (.inl rfl) _ | refine FrX.put ?_ (.inr (by first | omega | (simp; done) | (simp; omega))) _ | refine FrX.new ?_ _ | refine Fr.put ?_ (by first | omega | (simp; done) | (simp; omega)) _ | refine Fr.new ?_ _ | refine FrX.then ?_ (by assumption) | refine Fr.trans ?_ (by assumption)))⟩
  · rename_i h1
    simp only [Snd.out, if_neg h1, if_pos hg, Mg.enc]
    exact ⟨⟨trivial, trivial⟩, by (repeat (first | exact FrX.refl _ _ | exact Fr.refl _ | assumption | exact Fr.x (by assumption) _ | refine FrX.put ?_ (.inl rfl) _ | refine FrX.put ?_ (.inr (by first | omega | (simp; done) | (simp; omega))) _ | refine FrX.new ?_ _ | refine Fr.put ?_ (by first | omega | (simp; done) | (simp; omega)) _ | refine Fr.new ?_ _ | refine FrX.then ?_ (by assumption) | refine Fr.trans ?_ (by assumption)))⟩
  · rename_i h1
    simp only [Snd.out, if_neg h1, if_neg hg, Mg.enc, Mg.none]
    exact ⟨⟨trivial, trivial⟩, by (repeat (first | exact FrX.refl _ _ | exact Fr.refl _ | assumption | exact Fr.x (by assumption) _ | refine FrX.put ?_ (.inl rfl) _ | refine FrX.put ?_ (.inr (by first | omega | (simp; done) | (simp; omega))) _ | refine FrX.new ?_ _ | refine Fr.put ?_ (by first | omega | (simp; done) | (simp; omega)) _ | refine Fr.new ?_ _ | refine FrX.then ?_ (by assumption) | refine Fr.trans ?_ (by assumption)))⟩

end Go.Proofs.Ytfboomidofnmfaa
