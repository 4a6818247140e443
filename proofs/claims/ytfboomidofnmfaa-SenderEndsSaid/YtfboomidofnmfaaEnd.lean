/- SenderEnds, walked on the abstract machine. -/
import Derived.Test.YtfboomidofnmfaaAct
namespace Go.Proofs.Ytfboomidofnmfaa
open D
set_option linter.unusedSimpArgs false
set_option linter.unusedVariables false
set_option maxRecDepth 10000

def ec (t base : Lb) (k n : Int) : Snd := ⟨1048577, t, base, k, n, 0, 1, 3, 1, 2, ⟨0, 0⟩⟩
def ea (t : Lb) (k : Int) : Mg := ⟨4, 0, 1048577, t, ⟨0, 0⟩, k, 0, 0, .nilSlice, .nilSlice⟩
def eh (t : Lb) (own : AV) : Mg := ⟨2, 0, 1048577, t, ⟨0, 0⟩, 0, 0, 0, .nilSlice, own⟩
def at_ (t base : Lb) (k n : Int) : Snd := if k < n then ec t base k n else (ec t base k n).fin

theorem ack_at {t base : Lb} {k n : Int} (h0 : 0 ≤ k) (h : k < n) : (ec t base k n).ack (ea t (k + 1)) = (at_ t base (k + 1) n, true) := by
  unfold Snd.ack
  rw [if_neg (by simp [ec, ea, Snd.its]; omega)]
  unfold at_
  by_cases h1 : k + 1 = n
  · rw [if_pos (by simpa [ea, ec] using h1), if_neg (by omega)]
    rfl
  · rw [if_neg (by simpa [ea, ec] using h1), if_pos (by omega)]
    rfl

theorem ends_run : ∀ s a, ArgsOk s [.many [.int .u32, .int .u32], .int .i64, .slice (.many [.many [.int .u32, .int .u32], .int .u32])] a → Wf mm 5 a s fun v _ => v = .bool true := by
  intro s a ha
  obtain ⟨_, _, rfl, h0, ha⟩ := argsOk_cons ha
  obtain ⟨_, _, rfl, h1, ha⟩ := argsOk_cons ha
  obtain ⟨ov, _, rfl, h2, ha⟩ := argsOk_cons ha
  obtain rfl := argsOk_nil ha
  obtain ⟨_, rfl, _, _, rfl, ⟨te, rfl, he, _⟩, _, _, rfl, ⟨tq, rfl, hq, _⟩, rfl⟩ := h0
  obtain ⟨n, rfl, hn1, hn2⟩ := argOk_int h1
  obtain ⟨own, bo, oo, hO⟩ := haves_of h2
  clear ha h1 h2
  have he : 0 ≤ te := he
  have hq : 0 ≤ tq := hq
  refine Wf_enter ft5 (sm (by decide)) (by rfl) ?_
  simp -implicitDefEqProofs only [go_sem, Wk_block, reduceCtorEq, Nat.reduceEqDiff, Nat.reduceAdd, Nat.reduceLeDiff, Nat.reduceLT, Nat.reduceMul, Nat.reduceSub, ↓reduceIte, Int.reduceLT, Int.reduceLE, Int.reduceNeg, Int.reduceAdd, Int.reduceEq, Nat.reduceBneDiff, Nat.reduceBEq, Int.reduceToNat, Int.reduceMul, Int.reduceSub, Int.reduceBEq, Int.reduceBNe, Int.cast_ofNat_Int, Int.toNat_natCast_add_one, Nat.add_left_cancel_iff, Nat.left_eq_add, Nat.add_eq_left, Int.toNat_natCast, Nat.add_assoc, Int.ofNat_lt, Int.ofNat_le, Nat.lt_add_one_of_lt, Nat.lt_add_one, Nat.lt_add_right, Nat.lt_add_right_iff_pos, Nat.add_lt_add_iff_left, fd5, Wl_eq (alive_eq _), hO.len]
  repeat' (first | (refine Wg_split (fun hg => ?_) (fun hg => ?_) <;> simp -implicitDefEqProofs only [go_sem, Wk_block, reduceCtorEq, Nat.reduceEqDiff, Nat.reduceAdd, Nat.reduceLeDiff, Nat.reduceLT, Nat.reduceMul, Nat.reduceSub, ↓reduceIte, Int.reduceLT, Int.reduceLE, Int.reduceNeg, Int.reduceAdd, Int.reduceEq, Nat.reduceBneDiff, Nat.reduceBEq, Int.reduceToNat, Int.reduceMul, Int.reduceSub, Int.reduceBEq, Int.reduceBNe, Int.cast_ofNat_Int, Int.toNat_natCast_add_one, Nat.add_left_cancel_iff, Nat.left_eq_add, Nat.add_eq_left, Int.toNat_natCast, Nat.add_assoc, Int.ofNat_lt, Int.ofNat_le, Nat.lt_add_one_of_lt, Nat.lt_add_one, Nat.lt_add_right, Nat.lt_add_right_iff_pos, Nat.add_lt_add_iff_left, hO.len, hg]) | (refine Wi_split (fun hg => ?_) (fun hg => ?_) <;> simp -implicitDefEqProofs only [go_sem, Wk_block, reduceCtorEq, Nat.reduceEqDiff, Nat.reduceAdd, Nat.reduceLeDiff, Nat.reduceLT, Nat.reduceMul, Nat.reduceSub, ↓reduceIte, Int.reduceLT, Int.reduceLE, Int.reduceNeg, Int.reduceAdd, Int.reduceEq, Nat.reduceBneDiff, Nat.reduceBEq, Int.reduceToNat, Int.reduceMul, Int.reduceSub, Int.reduceBEq, Int.reduceBNe, Int.cast_ofNat_Int, Int.toNat_natCast_add_one, Nat.add_left_cancel_iff, Nat.left_eq_add, Nat.add_eq_left, Int.toNat_natCast, Nat.add_assoc, Int.ofNat_lt, Int.ofNat_le, Nat.lt_add_one_of_lt, Nat.lt_add_one, Nat.lt_add_right, Nat.lt_add_right_iff_pos, Nat.add_lt_add_iff_left, hO.len, hg]))
  have hO := hO.mono ((Fr.refl s).new (.cells [.int .u32 te, .int .u32 tq] false false 0))
  have hn : 1 ≤ n ∧ n ≤ 64 := by simp at *; omega
  obtain ⟨t, ht⟩ : ∃ t : Lb, t = ⟨te, tq⟩ := ⟨_, rfl⟩
  have h0t : Lb.lt ⟨0, 0⟩ t := by rw [ht]; simp [Lb.lt] at *; omega
  rw [show te = t.e by rw [ht], show tq = t.q by rw [ht]] at hO ⊢
  clear ht he hq hn1 hn2
  obtain ⟨p, hp⟩ : ∃ p, s.next = p := ⟨_, rfl⟩
  have hpl : Lies (s.new (.cells [.int .u32 t.e, .int .u32 t.q] false false 0)) p t.enc := by rw [← hp]; simp only [Lies, St.get_new, if_true, Lb.enc]
  have hpn : p < (s.new (.cells [.int .u32 t.e, .int .u32 t.q] false false 0)).next := by rw [← hp]; exact Nat.lt_succ_self _
  rw [hp]
  generalize s.new (.cells [.int .u32 t.e, .int .u32 t.q] false false 0) = s0 at hO hpl hpn ⊢
  refine Wl_of (new_run 1 3 (by omega) (by omega) s0) ?_
  rintro v s1 ⟨rfl, hL1, f1, hlt1⟩
  obtain ⟨b, hb⟩ : ∃ b, s0.next = b := ⟨_, rfl⟩
  rw [hb] at hL1 hlt1 ⊢
  have hO := hO.mono f1
  have hpl := (f1.get p hpn).trans hpl
  have hpb : p ≠ b := by omega
  have hpn := Nat.lt_of_lt_of_le hpn f1.le
  clear hb f1
  have hpl' := hpl
  unfold Lb.enc at hpl'
  simp only [go_sem, Wk_block, reduceCtorEq, Nat.reduceEqDiff, Nat.reduceAdd, Nat.reduceLeDiff, Nat.reduceLT, Nat.reduceMul, Nat.reduceSub, ↓reduceIte, Int.reduceLT, Int.reduceLE, Int.reduceNeg, Int.reduceAdd, Int.reduceEq, Nat.reduceBneDiff, Nat.reduceBEq, Int.reduceToNat, Int.reduceMul, Int.reduceSub, Int.reduceBEq, Int.reduceBNe, Int.cast_ofNat_Int, Int.toNat_natCast_add_one, Nat.add_left_cancel_iff, Nat.left_eq_add, Nat.add_eq_left, Int.toNat_natCast, Nat.add_assoc, Int.ofNat_lt, Int.ofNat_le, hpl']
  refine Wl_of (Start_run (Snd.new 1 3) ⟨by decide, by decide, by decide, by decide⟩ t hL1 hlt1) ?_
  rintro v s2 ⟨rfl, hL2, f2⟩
  have e1 : (Snd.new 1 3).start t = ({ ec t ⟨0, 0⟩ 0 0 with phase := 1 }, true) := by
    unfold Snd.start
    rw [if_neg (by simpa [Snd.new] using h0t)]
    rfl
  rw [e1] at hL2 ⊢
  have hO := hO.monoX f2 hL1
  have hpl := (f2.get p hpn hpb).trans hpl
  have hpn := Nat.lt_of_lt_of_le hpn f2.le
  have hlt2 := Nat.lt_of_lt_of_le hlt1 f2.le
  clear hpl' hL1 f2 hlt1
  simp only [go_sem, Wk_block, reduceCtorEq, Nat.reduceEqDiff, Nat.reduceAdd, Nat.reduceLeDiff, Nat.reduceLT, Nat.reduceMul, Nat.reduceSub, ↓reduceIte, Int.reduceLT, Int.reduceLE, Int.reduceNeg, Int.reduceAdd, Int.reduceEq, Nat.reduceBneDiff, Nat.reduceBEq, Int.reduceToNat, Int.reduceMul, Int.reduceSub, Int.reduceBEq, Int.reduceBNe, Int.cast_ofNat_Int, Int.toNat_natCast_add_one, Nat.add_left_cancel_iff, Nat.left_eq_add, Nat.add_eq_left, Int.toNat_natCast, Nat.add_assoc, Int.ofNat_lt, Int.ofNat_le]
  refine Wl_of (Out_run _ 2 hL2 hlt2) ?_
  rintro v s3 ⟨rfl, f3⟩
  have hO := (hO.mono f3).mono ((Fr.refl s3).new (.cells [.int .i64 1, .int .u32 2, .int .u64 1048577, .int .u32 t.e, .int .u32 t.q, .int .u32 0, .int .u32 0, .int .i64 0, .int .i64 0, .int .u32 0, .nilSlice, .nilSlice] false false 0))
  have hpl := (f3.get p hpn).trans hpl
  have hpn := Nat.lt_of_lt_of_le hpn f3.le
  have hL3 : Lies s3 b _ := (f3.get b hlt2).trans hL2
  have hlt3 := Nat.lt_of_lt_of_le hlt2 f3.le
  have hpl' := hpl
  unfold Lb.enc at hpl'
  clear hL2 f3 hlt2
  rw [show ({ ec t ⟨0, 0⟩ 0 0 with phase := 1 } : Snd).out 2 = (⟨1, 2, 1048577, t, ⟨0, 0⟩, 0, 0, 0, .nilSlice, .nilSlice⟩, true) from rfl]
  simp -implicitDefEqProofs only [go_sem, Wk_block, reduceCtorEq, Nat.reduceEqDiff, Nat.reduceAdd, Nat.reduceLeDiff, Nat.reduceLT, Nat.reduceMul, Nat.reduceSub, ↓reduceIte, Int.reduceLT, Int.reduceLE, Int.reduceNeg, Int.reduceAdd, Int.reduceEq, Nat.reduceBneDiff, Nat.reduceBEq, Int.reduceToNat, Int.reduceMul, Int.reduceSub, Int.reduceBEq, Int.reduceBNe, Int.cast_ofNat_Int, Int.toNat_natCast_add_one, Nat.add_left_cancel_iff, Nat.left_eq_add, Nat.add_eq_left, Int.toNat_natCast, Nat.add_assoc, Int.ofNat_lt, Int.ofNat_le, Nat.lt_add_one_of_lt, Nat.lt_add_one, Nat.lt_add_right, Nat.lt_add_right_iff_pos, Nat.add_lt_add_iff_left, Mg.enc, hpl', eq_next_f hpn, hpn, hO.cells]
  refine Wl_of (Have_run { ec t ⟨0, 0⟩ 0 0 with phase := 1 } (eh t ov) own own ov (b := b) (by simp -implicitDefEqProofs only [go_sem, Wk_block, reduceCtorEq, Nat.reduceEqDiff, Nat.reduceAdd, Nat.reduceLeDiff, Nat.reduceLT, Nat.reduceMul, Nat.reduceSub, ↓reduceIte, Int.reduceLT, Int.reduceLE, Int.reduceNeg, Int.reduceAdd, Int.reduceEq, Nat.reduceBneDiff, Nat.reduceBEq, Int.reduceToNat, Int.reduceMul, Int.reduceSub, Int.reduceBEq, Int.reduceBNe, Int.cast_ofNat_Int, Int.toNat_natCast_add_one, Nat.add_left_cancel_iff, Nat.left_eq_add, Nat.add_eq_left, Int.toNat_natCast, Nat.add_assoc, Int.ofNat_lt, Int.ofNat_le, Nat.lt_add_one_of_lt, Nat.lt_add_one, Nat.lt_add_right, Nat.lt_add_right_iff_pos, Nat.add_lt_add_iff_left, Lies, hL3, hlt3, eq_next_f hlt3]) (by simp -implicitDefEqProofs only [go_sem, Wk_block, reduceCtorEq, Nat.reduceEqDiff, Nat.reduceAdd, Nat.reduceLeDiff, Nat.reduceLT, Nat.reduceMul, Nat.reduceSub, ↓reduceIte, Int.reduceLT, Int.reduceLE, Int.reduceNeg, Int.reduceAdd, Int.reduceEq, Nat.reduceBneDiff, Nat.reduceBEq, Int.reduceToNat, Int.reduceMul, Int.reduceSub, Int.reduceBEq, Int.reduceBNe, Int.cast_ofNat_Int, Int.toNat_natCast_add_one, Nat.add_left_cancel_iff, Nat.left_eq_add, Nat.add_eq_left, Int.toNat_natCast, Nat.add_assoc, Int.ofNat_lt, Int.ofNat_le, Nat.lt_add_one_of_lt, Nat.lt_add_one, Nat.lt_add_right, Nat.lt_add_right_iff_pos, Nat.add_lt_add_iff_left, hlt3]) hO hO) ?_
  rintro v s4 ⟨rfl, hL4, f4⟩
  have e2 : ({ ec t ⟨0, 0⟩ 0 0 with phase := 1 } : Snd).hear (eh t ov) own own = ({ ec t (hbase t own own) 0 0 with phase := 1 }, true) := by
    unfold Snd.hear
    rw [if_neg (by simp [ec, eh, Snd.its]), if_neg (by simpa [ec, eh] using h0t)]
    rfl
  rw [e2] at hL4 ⊢
  obtain ⟨base, hbase⟩ : ∃ base, hbase t own own = base := ⟨_, rfl⟩
  rw [hbase] at hL4
  have hpl := (f4.get p (by simp -implicitDefEqProofs only [go_sem, Wk_block, reduceCtorEq, Nat.reduceEqDiff, Nat.reduceAdd, Nat.reduceLeDiff, Nat.reduceLT, Nat.reduceMul, Nat.reduceSub, ↓reduceIte, Int.reduceLT, Int.reduceLE, Int.reduceNeg, Int.reduceAdd, Int.reduceEq, Nat.reduceBneDiff, Nat.reduceBEq, Int.reduceToNat, Int.reduceMul, Int.reduceSub, Int.reduceBEq, Int.reduceBNe, Int.cast_ofNat_Int, Int.toNat_natCast_add_one, Nat.add_left_cancel_iff, Nat.left_eq_add, Nat.add_eq_left, Int.toNat_natCast, Nat.add_assoc, Int.ofNat_lt, Int.ofNat_le, Nat.lt_add_one_of_lt, Nat.lt_add_one, Nat.lt_add_right, Nat.lt_add_right_iff_pos, Nat.add_lt_add_iff_left, hpn]) hpb).trans ((St.get_new _ _ _).trans ((if_neg (by omega)).trans hpl))
  have hpn := Nat.lt_of_lt_of_le (show p < (s3.new (.cells [.int .i64 1, .int .u32 2, .int .u64 1048577, .int .u32 t.e, .int .u32 t.q, .int .u32 0, .int .u32 0, .int .i64 0, .int .i64 0, .int .u32 0, .nilSlice, .nilSlice] false false 0)).next by simp -implicitDefEqProofs only [go_sem, Wk_block, reduceCtorEq, Nat.reduceEqDiff, Nat.reduceAdd, Nat.reduceLeDiff, Nat.reduceLT, Nat.reduceMul, Nat.reduceSub, ↓reduceIte, Int.reduceLT, Int.reduceLE, Int.reduceNeg, Int.reduceAdd, Int.reduceEq, Nat.reduceBneDiff, Nat.reduceBEq, Int.reduceToNat, Int.reduceMul, Int.reduceSub, Int.reduceBEq, Int.reduceBNe, Int.cast_ofNat_Int, Int.toNat_natCast_add_one, Nat.add_left_cancel_iff, Nat.left_eq_add, Nat.add_eq_left, Int.toNat_natCast, Nat.add_assoc, Int.ofNat_lt, Int.ofNat_le, Nat.lt_add_one_of_lt, Nat.lt_add_one, Nat.lt_add_right, Nat.lt_add_right_iff_pos, Nat.add_lt_add_iff_left, hpn]) f4.le
  have hlt4 := Nat.lt_of_lt_of_le (show b < (s3.new (.cells [.int .i64 1, .int .u32 2, .int .u64 1048577, .int .u32 t.e, .int .u32 t.q, .int .u32 0, .int .u32 0, .int .i64 0, .int .i64 0, .int .u32 0, .nilSlice, .nilSlice] false false 0)).next by simp -implicitDefEqProofs only [go_sem, Wk_block, reduceCtorEq, Nat.reduceEqDiff, Nat.reduceAdd, Nat.reduceLeDiff, Nat.reduceLT, Nat.reduceMul, Nat.reduceSub, ↓reduceIte, Int.reduceLT, Int.reduceLE, Int.reduceNeg, Int.reduceAdd, Int.reduceEq, Nat.reduceBneDiff, Nat.reduceBEq, Int.reduceToNat, Int.reduceMul, Int.reduceSub, Int.reduceBEq, Int.reduceBNe, Int.cast_ofNat_Int, Int.toNat_natCast_add_one, Nat.add_left_cancel_iff, Nat.left_eq_add, Nat.add_eq_left, Int.toNat_natCast, Nat.add_assoc, Int.ofNat_lt, Int.ofNat_le, Nat.lt_add_one_of_lt, Nat.lt_add_one, Nat.lt_add_right, Nat.lt_add_right_iff_pos, Nat.add_lt_add_iff_left, hlt3]) f4.le
  clear f4 hL3 hlt3 hO hpl'
  simp only [go_sem, Wk_block, reduceCtorEq, Nat.reduceEqDiff, Nat.reduceAdd, Nat.reduceLeDiff, Nat.reduceLT, Nat.reduceMul, Nat.reduceSub, ↓reduceIte, Int.reduceLT, Int.reduceLE, Int.reduceNeg, Int.reduceAdd, Int.reduceEq, Nat.reduceBneDiff, Nat.reduceBEq, Int.reduceToNat, Int.reduceMul, Int.reduceSub, Int.reduceBEq, Int.reduceBNe, Int.cast_ofNat_Int, Int.toNat_natCast_add_one, Nat.add_left_cancel_iff, Nat.left_eq_add, Nat.add_eq_left, Int.toNat_natCast, Nat.add_assoc, Int.ofNat_lt, Int.ofNat_le]
  refine Wl_of (Plan_run _ Mg.none n hL4 hlt4) ?_
  rintro v s5 ⟨hL5, f5⟩
  have hc : chunks n = n := by unfold chunks; repeat' split <;> omega
  have e3 : ({ ec t base 0 0 with phase := 1 } : Snd).plan Mg.none n = at_ t base 0 n := by
    unfold Snd.plan at_
    rw [if_neg (by simp), hc, if_pos (show (0 : Int) < n by omega)]
    simp [ec, Mg.none]
  rw [e3] at hL5
  have hpl := (f5.get p hpn hpb).trans hpl
  have hpn := Nat.lt_of_lt_of_le hpn f5.le
  have hlt5 := Nat.lt_of_lt_of_le hlt4 f5.le
  clear f5 hL4 hlt4
  simp only [go_sem, Wk_block, reduceCtorEq, Nat.reduceEqDiff, Nat.reduceAdd, Nat.reduceLeDiff, Nat.reduceLT, Nat.reduceMul, Nat.reduceSub, ↓reduceIte, Int.reduceLT, Int.reduceLE, Int.reduceNeg, Int.reduceAdd, Int.reduceEq, Nat.reduceBneDiff, Nat.reduceBEq, Int.reduceToNat, Int.reduceMul, Int.reduceSub, Int.reduceBEq, Int.reduceBNe, Int.cast_ofNat_Int, Int.toNat_natCast_add_one, Nat.add_left_cancel_iff, Nat.left_eq_add, Nat.add_eq_left, Int.toNat_natCast, Nat.add_assoc, Int.ofNat_lt, Int.ofNat_le]
  refine loop_ind (fun m ts s' => ∃ k : Int, m = (n - k).toNat ∧ 0 ≤ k ∧ k ≤ n ∧ ts.get 10 = some (.int .i64 k) ∧ ts.get 1 = some (.int .i64 n) ∧ ts.get 7 = some (.ptr b 0) ∧ ts.get 3 = some (.ptr p 0) ∧
    Lies s' b (at_ t base k n).enc ∧ Lies s' p t.enc ∧ b < s'.next ∧ p < s'.next) ?_ (n := n.toNat) ⟨0, by omega, by omega, by omega, by simp only [go_sem, Wk_block, reduceCtorEq, Nat.reduceEqDiff, Nat.reduceAdd, Nat.reduceLeDiff, Nat.reduceLT, Nat.reduceMul, Nat.reduceSub, ↓reduceIte, Int.reduceLT, Int.reduceLE, Int.reduceNeg, Int.reduceAdd, Int.reduceEq, Nat.reduceBneDiff, Nat.reduceBEq, Int.reduceToNat, Int.reduceMul, Int.reduceSub, Int.reduceBEq, Int.reduceBNe, Int.cast_ofNat_Int, Int.toNat_natCast_add_one, Nat.add_left_cancel_iff, Nat.left_eq_add, Nat.add_eq_left, Int.toNat_natCast, Nat.add_assoc, Int.ofNat_lt, Int.ofNat_le], by simp only [go_sem, Wk_block, reduceCtorEq, Nat.reduceEqDiff, Nat.reduceAdd, Nat.reduceLeDiff, Nat.reduceLT, Nat.reduceMul, Nat.reduceSub, ↓reduceIte, Int.reduceLT, Int.reduceLE, Int.reduceNeg, Int.reduceAdd, Int.reduceEq, Nat.reduceBneDiff, Nat.reduceBEq, Int.reduceToNat, Int.reduceMul, Int.reduceSub, Int.reduceBEq, Int.reduceBNe, Int.cast_ofNat_Int, Int.toNat_natCast_add_one, Nat.add_left_cancel_iff, Nat.left_eq_add, Nat.add_eq_left, Int.toNat_natCast, Nat.add_assoc, Int.ofNat_lt, Int.ofNat_le], by simp only [go_sem, Wk_block, reduceCtorEq, Nat.reduceEqDiff, Nat.reduceAdd, Nat.reduceLeDiff, Nat.reduceLT, Nat.reduceMul, Nat.reduceSub, ↓reduceIte, Int.reduceLT, Int.reduceLE, Int.reduceNeg, Int.reduceAdd, Int.reduceEq, Nat.reduceBneDiff, Nat.reduceBEq, Int.reduceToNat, Int.reduceMul, Int.reduceSub, Int.reduceBEq, Int.reduceBNe, Int.cast_ofNat_Int, Int.toNat_natCast_add_one, Nat.add_left_cancel_iff, Nat.left_eq_add, Nat.add_eq_left, Int.toNat_natCast, Nat.add_assoc, Int.ofNat_lt, Int.ofNat_le], by simp only [go_sem, Wk_block, reduceCtorEq, Nat.reduceEqDiff, Nat.reduceAdd, Nat.reduceLeDiff, Nat.reduceLT, Nat.reduceMul, Nat.reduceSub, ↓reduceIte, Int.reduceLT, Int.reduceLE, Int.reduceNeg, Int.reduceAdd, Int.reduceEq, Nat.reduceBneDiff, Nat.reduceBEq, Int.reduceToNat, Int.reduceMul, Int.reduceSub, Int.reduceBEq, Int.reduceBNe, Int.cast_ofNat_Int, Int.toNat_natCast_add_one, Nat.add_left_cancel_iff, Nat.left_eq_add, Nat.add_eq_left, Int.toNat_natCast, Nat.add_assoc, Int.ofNat_lt, Int.ofNat_le], hL5, hpl, hlt5, hpn⟩
  clear hL5 hpl hlt5 hpn
  rintro m ts s6 ⟨k, rfl, hk0, hkn, g10, g1, g7, g3, hL, hP, hltb, hltp⟩ IH
  have hP' := hP
  unfold Lies Lb.enc at hP'
  simp only [go_sem, Wk_block, reduceCtorEq, Nat.reduceEqDiff, Nat.reduceAdd, Nat.reduceLeDiff, Nat.reduceLT, Nat.reduceMul, Nat.reduceSub, ↓reduceIte, Int.reduceLT, Int.reduceLE, Int.reduceNeg, Int.reduceAdd, Int.reduceEq, Nat.reduceBneDiff, Nat.reduceBEq, Int.reduceToNat, Int.reduceMul, Int.reduceSub, Int.reduceBEq, Int.reduceBNe, Int.cast_ofNat_Int, Int.toNat_natCast_add_one, Nat.add_left_cancel_iff, Nat.left_eq_add, Nat.add_eq_left, Int.toNat_natCast, Nat.add_assoc, Int.ofNat_lt, Int.ofNat_le, g10, g1, g7, g3]
  refine Wi_split (fun hg => ?_) (fun hg => ?_)
  · have hk : k < n := of_decide_eq_true hg
    rw [show at_ t base k n = ec t base k n from if_pos hk] at hL
    simp only [go_sem, Wk_block, reduceCtorEq, Nat.reduceEqDiff, Nat.reduceAdd, Nat.reduceLeDiff, Nat.reduceLT, Nat.reduceMul, Nat.reduceSub, ↓reduceIte, Int.reduceLT, Int.reduceLE, Int.reduceNeg, Int.reduceAdd, Int.reduceEq, Nat.reduceBneDiff, Nat.reduceBEq, Int.reduceToNat, Int.reduceMul, Int.reduceSub, Int.reduceBEq, Int.reduceBNe, Int.cast_ofNat_Int, Int.toNat_natCast_add_one, Nat.add_left_cancel_iff, Nat.left_eq_add, Nat.add_eq_left, Int.toNat_natCast, Nat.add_assoc, Int.ofNat_lt, Int.ofNat_le, g10, g1, g7, g3]
    refine Wl_of (Out_run _ 2 hL hltb) ?_
    rintro v s7 ⟨rfl, f7⟩
    have hL := (f7.get b hltb).trans hL
    have hP' := (f7.get p hltp).trans hP'
    have hltb := Nat.lt_of_lt_of_le hltb f7.le
    have hltp := Nat.lt_of_lt_of_le hltp f7.le
    clear f7 hP
    rw [show (ec t base k n).out 2 = (⟨3, 2, 1048577, t, base, k, n, 0, .nilSlice, .nilSlice⟩, true) from rfl]
    have hk1 : IntKind.i64.wrap (k + 1) = k + 1 := i64_in (by omega) (by omega)
    simp -implicitDefEqProofs only [go_sem, Wk_block, reduceCtorEq, Nat.reduceEqDiff, Nat.reduceAdd, Nat.reduceLeDiff, Nat.reduceLT, Nat.reduceMul, Nat.reduceSub, ↓reduceIte, Int.reduceLT, Int.reduceLE, Int.reduceNeg, Int.reduceAdd, Int.reduceEq, Nat.reduceBneDiff, Nat.reduceBEq, Int.reduceToNat, Int.reduceMul, Int.reduceSub, Int.reduceBEq, Int.reduceBNe, Int.cast_ofNat_Int, Int.toNat_natCast_add_one, Nat.add_left_cancel_iff, Nat.left_eq_add, Nat.add_eq_left, Int.toNat_natCast, Nat.add_assoc, Int.ofNat_lt, Int.ofNat_le, Nat.lt_add_one_of_lt, Nat.lt_add_one, Nat.lt_add_right, Nat.lt_add_right_iff_pos, Nat.add_lt_add_iff_left, g10, g1, g7, g3, Mg.enc, hP', hltp, eq_next_f hltp, hk1]
    refine Wl_of (Ack_run (ec t base k n) (ea t (k + 1)) (b := b) (by simp -implicitDefEqProofs only [go_sem, Wk_block, reduceCtorEq, Nat.reduceEqDiff, Nat.reduceAdd, Nat.reduceLeDiff, Nat.reduceLT, Nat.reduceMul, Nat.reduceSub, ↓reduceIte, Int.reduceLT, Int.reduceLE, Int.reduceNeg, Int.reduceAdd, Int.reduceEq, Nat.reduceBneDiff, Nat.reduceBEq, Int.reduceToNat, Int.reduceMul, Int.reduceSub, Int.reduceBEq, Int.reduceBNe, Int.cast_ofNat_Int, Int.toNat_natCast_add_one, Nat.add_left_cancel_iff, Nat.left_eq_add, Nat.add_eq_left, Int.toNat_natCast, Nat.add_assoc, Int.ofNat_lt, Int.ofNat_le, Nat.lt_add_one_of_lt, Nat.lt_add_one, Nat.lt_add_right, Nat.lt_add_right_iff_pos, Nat.add_lt_add_iff_left, Lies, eq_next_f hltb]; exact hL) (by simp -implicitDefEqProofs only [go_sem, Wk_block, reduceCtorEq, Nat.reduceEqDiff, Nat.reduceAdd, Nat.reduceLeDiff, Nat.reduceLT, Nat.reduceMul, Nat.reduceSub, ↓reduceIte, Int.reduceLT, Int.reduceLE, Int.reduceNeg, Int.reduceAdd, Int.reduceEq, Nat.reduceBneDiff, Nat.reduceBEq, Int.reduceToNat, Int.reduceMul, Int.reduceSub, Int.reduceBEq, Int.reduceBNe, Int.cast_ofNat_Int, Int.toNat_natCast_add_one, Nat.add_left_cancel_iff, Nat.left_eq_add, Nat.add_eq_left, Int.toNat_natCast, Nat.add_assoc, Int.ofNat_lt, Int.ofNat_le, Nat.lt_add_one_of_lt, Nat.lt_add_one, Nat.lt_add_right, Nat.lt_add_right_iff_pos, Nat.add_lt_add_iff_left, hltb])) ?_
    rintro v s8 ⟨rfl, hL8, f8⟩
    rw [ack_at hk0 hk] at hL8 ⊢
    simp -implicitDefEqProofs only [go_sem, Wk_block, reduceCtorEq, Nat.reduceEqDiff, Nat.reduceAdd, Nat.reduceLeDiff, Nat.reduceLT, Nat.reduceMul, Nat.reduceSub, ↓reduceIte, Int.reduceLT, Int.reduceLE, Int.reduceNeg, Int.reduceAdd, Int.reduceEq, Nat.reduceBneDiff, Nat.reduceBEq, Int.reduceToNat, Int.reduceMul, Int.reduceSub, Int.reduceBEq, Int.reduceBNe, Int.cast_ofNat_Int, Int.toNat_natCast_add_one, Nat.add_left_cancel_iff, Nat.left_eq_add, Nat.add_eq_left, Int.toNat_natCast, Nat.add_assoc, Int.ofNat_lt, Int.ofNat_le, Nat.lt_add_one_of_lt, Nat.lt_add_one, Nat.lt_add_right, Nat.lt_add_right_iff_pos, Nat.add_lt_add_iff_left, g10, g1, g7, g3, hk1]
    have hP8 := (f8.get p (by simp -implicitDefEqProofs only [go_sem, Wk_block, reduceCtorEq, Nat.reduceEqDiff, Nat.reduceAdd, Nat.reduceLeDiff, Nat.reduceLT, Nat.reduceMul, Nat.reduceSub, ↓reduceIte, Int.reduceLT, Int.reduceLE, Int.reduceNeg, Int.reduceAdd, Int.reduceEq, Nat.reduceBneDiff, Nat.reduceBEq, Int.reduceToNat, Int.reduceMul, Int.reduceSub, Int.reduceBEq, Int.reduceBNe, Int.cast_ofNat_Int, Int.toNat_natCast_add_one, Nat.add_left_cancel_iff, Nat.left_eq_add, Nat.add_eq_left, Int.toNat_natCast, Nat.add_assoc, Int.ofNat_lt, Int.ofNat_le, Nat.lt_add_one_of_lt, Nat.lt_add_one, Nat.lt_add_right, Nat.lt_add_right_iff_pos, Nat.add_lt_add_iff_left, hltp]) hpb).trans ((St.get_new _ _ _).trans ((if_neg (by omega)).trans hP'))
    have hle := f8.le
    simp only [St.next_new] at hle
    refine IH (n - (k + 1)).toNat _ _ (by omega) ⟨k + 1, rfl, by omega, by omega, ?_, ?_, ?_, ?_, hL8, hP8, by omega, by omega⟩
    all_goals simp only [go_sem, Wk_block, reduceCtorEq, Nat.reduceEqDiff, Nat.reduceAdd, Nat.reduceLeDiff, Nat.reduceLT, Nat.reduceMul, Nat.reduceSub, ↓reduceIte, Int.reduceLT, Int.reduceLE, Int.reduceNeg, Int.reduceAdd, Int.reduceEq, Nat.reduceBneDiff, Nat.reduceBEq, Int.reduceToNat, Int.reduceMul, Int.reduceSub, Int.reduceBEq, Int.reduceBNe, Int.cast_ofNat_Int, Int.toNat_natCast_add_one, Nat.add_left_cancel_iff, Nat.left_eq_add, Nat.add_eq_left, Int.toNat_natCast, Nat.add_assoc, Int.ofNat_lt, Int.ofNat_le, g10, g1, g7, g3]
  · have hk : ¬ k < n := of_decide_eq_false hg
    have hkk : k = n := by omega
    subst hkk
    rw [show at_ t base k k = (ec t base k k).fin from if_neg hk] at hL
    have hF : (ec t base k k).fin = ⟨0, ⟨0, 0⟩, ⟨0, 0⟩, 0, 0, 0, 1, 3, 1, 0, t⟩ := rfl
    rw [hF] at hL
    clear IH
    simp only [go_sem, Wk_block, reduceCtorEq, Nat.reduceEqDiff, Nat.reduceAdd, Nat.reduceLeDiff, Nat.reduceLT, Nat.reduceMul, Nat.reduceSub, ↓reduceIte, Int.reduceLT, Int.reduceLE, Int.reduceNeg, Int.reduceAdd, Int.reduceEq, Nat.reduceBneDiff, Nat.reduceBEq, Int.reduceToNat, Int.reduceMul, Int.reduceSub, Int.reduceBEq, Int.reduceBNe, Int.cast_ofNat_Int, Int.toNat_natCast_add_one, Nat.add_left_cancel_iff, Nat.left_eq_add, Nat.add_eq_left, Int.toNat_natCast, Nat.add_assoc, Int.ofNat_lt, Int.ofNat_le, g10, g1, g7, g3, Wl_eq (Phase_run _ hL)]
    refine Wl_of (Done_run _ hL hltb) ?_
    rintro v s7 ⟨rfl, f7⟩
    have hL7 : Lies s7 b _ := (f7.get b hltb).trans hL
    have hP7 := (f7.get p hltp).trans hP'
    have hlt7 := Nat.lt_of_lt_of_le hltb f7.le
    have hlp7 := Nat.lt_of_lt_of_le hltp f7.le
    simp -implicitDefEqProofs only [go_sem, Wk_block, reduceCtorEq, Nat.reduceEqDiff, Nat.reduceAdd, Nat.reduceLeDiff, Nat.reduceLT, Nat.reduceMul, Nat.reduceSub, ↓reduceIte, Int.reduceLT, Int.reduceLE, Int.reduceNeg, Int.reduceAdd, Int.reduceEq, Nat.reduceBneDiff, Nat.reduceBEq, Int.reduceToNat, Int.reduceMul, Int.reduceSub, Int.reduceBEq, Int.reduceBNe, Int.cast_ofNat_Int, Int.toNat_natCast_add_one, Nat.add_left_cancel_iff, Nat.left_eq_add, Nat.add_eq_left, Int.toNat_natCast, Nat.add_assoc, Int.ofNat_lt, Int.ofNat_le, Nat.lt_add_one_of_lt, Nat.lt_add_one, Nat.lt_add_right, Nat.lt_add_right_iff_pos, Nat.add_lt_add_iff_left, g10, g1, g7, g3, Lb.enc, hP7]
    refine Wl_of (Start_run _ ⟨by simp, by simp, by simp, by simp⟩ t hL7 hlt7) ?_
    rintro v s8 ⟨rfl, _, f8⟩
    have hP8 := (f8.get p hlp7 hpb).trans hP7
    have e4 : (Snd.start ⟨0, ⟨0, 0⟩, ⟨0, 0⟩, 0, 0, 0, 1, 3, 1, 0, t⟩ t) = (⟨0, ⟨0, 0⟩, ⟨0, 0⟩, 0, 0, 0, 1, 3, 1, 0, t⟩, false) := by
      unfold Snd.start
      rw [if_pos (.inr (.inl (by simp [Lb.lt])))]
    rw [e4]
    simp -implicitDefEqProofs only [go_sem, Wk_block, reduceCtorEq, Nat.reduceEqDiff, Nat.reduceAdd, Nat.reduceLeDiff, Nat.reduceLT, Nat.reduceMul, Nat.reduceSub, ↓reduceIte, Int.reduceLT, Int.reduceLE, Int.reduceNeg, Int.reduceAdd, Int.reduceEq, Nat.reduceBneDiff, Nat.reduceBEq, Int.reduceToNat, Int.reduceMul, Int.reduceSub, Int.reduceBEq, Int.reduceBNe, Int.cast_ofNat_Int, Int.toNat_natCast_add_one, Nat.add_left_cancel_iff, Nat.left_eq_add, Nat.add_eq_left, Int.toNat_natCast, Nat.add_assoc, Int.ofNat_lt, Int.ofNat_le, Nat.lt_add_one_of_lt, Nat.lt_add_one, Nat.lt_add_right, Nat.lt_add_right_iff_pos, Nat.add_lt_add_iff_left, g10, g1, g7, g3, Lb.enc, hP', hP7, hP8]
end Go.Proofs.Ytfboomidofnmfaa
