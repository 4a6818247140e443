/- SenderTicks, walked on the abstract machine. -/
import Derived.Test.YtfboomidofnmfaaSnd2
import Derived.Test.YtfboomidofnmfaaDRow
namespace Go.Proofs.Ytfboomidofnmfaa
open D
set_option linter.unusedSimpArgs false
set_option linter.unusedVariables false
set_option maxRecDepth 10000

def tk (r w : Int) : Snd := ⟨1048577, ⟨1, 1⟩, ⟨0, 0⟩, 0, 0, w, 1, r, 1, 1, ⟨0, 0⟩⟩
def said : Mg := ⟨1, 1, 1048577, ⟨1, 1⟩, ⟨0, 0⟩, 0, 0, 0, .nilSlice, .nilSlice⟩
theorem out_tk (r w : Int) : (tk r w).out 1 = (said, true) := rfl

theorem ticks_run : ∀ s a, ArgsOk s [.int .i64, .int .i64] a → Wf mm 4 a s fun v _ => v = .bool true := by
  intro s a ha
  obtain ⟨_, _, rfl, h0, ha⟩ := argsOk_cons ha
  obtain ⟨_, _, rfl, h1, ha⟩ := argsOk_cons ha
  obtain rfl := argsOk_nil ha
  obtain ⟨r, rfl, hr1, hr2⟩ := argOk_int h0
  obtain ⟨n, rfl, hn1, hn2⟩ := argOk_int h1
  clear ha h0 h1
  refine Wf_enter ft4 (sm (by decide)) (by rfl) ?_
  simp -implicitDefEqProofs only [go_sem, reduceCtorEq, Nat.reduceEqDiff, Nat.reduceAdd, Nat.reduceLeDiff, Nat.reduceLT, Nat.reduceMul, Nat.reduceSub, ↓reduceIte, Int.reduceLT, Int.reduceLE, Int.reduceNeg, Int.reduceAdd, Int.reduceEq, Nat.reduceBneDiff, Nat.reduceBEq, Int.reduceToNat, Int.reduceMul, Int.reduceSub, Int.reduceBEq, Int.reduceBNe, Int.cast_ofNat_Int, Int.toNat_natCast_add_one, Nat.add_left_cancel_iff, Nat.left_eq_add, Nat.add_eq_left, Int.toNat_natCast, Nat.add_assoc, Int.ofNat_lt, Int.ofNat_le, Nat.lt_add_one_of_lt, Nat.lt_add_one, fd4, Wl_eq (alive_eq _)]
  repeat' (first | (refine Wg_split (fun hg => ?_) (fun hg => ?_) <;> simp -implicitDefEqProofs only [go_sem, reduceCtorEq, Nat.reduceEqDiff, Nat.reduceAdd, Nat.reduceLeDiff, Nat.reduceLT, Nat.reduceMul, Nat.reduceSub, ↓reduceIte, Int.reduceLT, Int.reduceLE, Int.reduceNeg, Int.reduceAdd, Int.reduceEq, Nat.reduceBneDiff, Nat.reduceBEq, Int.reduceToNat, Int.reduceMul, Int.reduceSub, Int.reduceBEq, Int.reduceBNe, Int.cast_ofNat_Int, Int.toNat_natCast_add_one, Nat.add_left_cancel_iff, Nat.left_eq_add, Nat.add_eq_left, Int.toNat_natCast, Nat.add_assoc, Int.ofNat_lt, Int.ofNat_le, Nat.lt_add_one_of_lt, Nat.lt_add_one, Wl_eq (alive_eq _), hg]) | (refine Wi_split (fun hg => ?_) (fun hg => ?_) <;> simp -implicitDefEqProofs only [go_sem, reduceCtorEq, Nat.reduceEqDiff, Nat.reduceAdd, Nat.reduceLeDiff, Nat.reduceLT, Nat.reduceMul, Nat.reduceSub, ↓reduceIte, Int.reduceLT, Int.reduceLE, Int.reduceNeg, Int.reduceAdd, Int.reduceEq, Nat.reduceBneDiff, Nat.reduceBEq, Int.reduceToNat, Int.reduceMul, Int.reduceSub, Int.reduceBEq, Int.reduceBNe, Int.cast_ofNat_Int, Int.toNat_natCast_add_one, Nat.add_left_cancel_iff, Nat.left_eq_add, Nat.add_eq_left, Int.toNat_natCast, Nat.add_assoc, Int.ofNat_lt, Int.ofNat_le, Nat.lt_add_one_of_lt, Nat.lt_add_one, Wl_eq (alive_eq _), hg]))
  have hr : 1 ≤ r ∧ r ≤ 1000 := by simp at *; omega
  have hn : 0 ≤ n ∧ n ≤ 3000 := by simp at *; omega
  clear hr1 hr2 hn1 hn2
  refine Wl_of (new_run 1 r (by omega) (by omega) s) ?_
  rintro v s1 ⟨rfl, hL1, f1, hlt1⟩
  have eR : clamp r = r := by unfold clamp; repeat' split <;> omega
  simp only [go_sem, reduceCtorEq, Nat.reduceEqDiff, Nat.reduceAdd, Nat.reduceLeDiff, Nat.reduceLT, Nat.reduceMul, Nat.reduceSub, ↓reduceIte, Int.reduceLT, Int.reduceLE, Int.reduceNeg, Int.reduceAdd, Int.reduceEq, Nat.reduceBneDiff, Nat.reduceBEq, Int.reduceToNat, Int.reduceMul, Int.reduceSub, Int.reduceBEq, Int.reduceBNe, Int.cast_ofNat_Int, Int.toNat_natCast_add_one, Nat.add_left_cancel_iff, Nat.left_eq_add, Nat.add_eq_left, Int.toNat_natCast, Nat.add_assoc, Int.ofNat_lt, Int.ofNat_le]
  refine Wl_of (Start_run (Snd.new 1 r) ⟨⟨by simp [Snd.new], by simp [Snd.new]⟩, by unfold Snd.new; rw [eR]; exact hr, ⟨by simp [Snd.new], by simp [Snd.new]⟩, by unfold Snd.new; rw [eR]; simp; omega⟩ ⟨1, 1⟩ hL1 hlt1) ?_
  rintro v s2 ⟨rfl, hL2, f2⟩
  have e1 : (Snd.new 1 r).start ⟨1, 1⟩ = (tk r 0, true) := by
    unfold Snd.new Snd.start tk
    rw [eR]
    rfl
  rw [e1] at hL2 ⊢
  simp only [go_sem, reduceCtorEq, Nat.reduceEqDiff, Nat.reduceAdd, Nat.reduceLeDiff, Nat.reduceLT, Nat.reduceMul, Nat.reduceSub, ↓reduceIte, Int.reduceLT, Int.reduceLE, Int.reduceNeg, Int.reduceAdd, Int.reduceEq, Nat.reduceBneDiff, Nat.reduceBEq, Int.reduceToNat, Int.reduceMul, Int.reduceSub, Int.reduceBEq, Int.reduceBNe, Int.cast_ofNat_Int, Int.toNat_natCast_add_one, Nat.add_left_cancel_iff, Nat.left_eq_add, Nat.add_eq_left, Int.toNat_natCast, Nat.add_assoc, Int.ofNat_lt, Int.ofNat_le]
  refine Wl_of (Out_run (tk r 0) 1 hL2 (Nat.lt_of_lt_of_le hlt1 f2.le)) ?_
  rintro v s3 ⟨rfl, f3⟩
  have hL3 : Lies s3 s.next (tk r 0).enc := (f3.get _ (Nat.lt_of_lt_of_le hlt1 f2.le)).trans hL2
  have hlt3 : s.next < s3.next := Nat.lt_of_lt_of_le hlt1 (Nat.le_trans f2.le f3.le)
  obtain ⟨b, hb⟩ : ∃ b, s.next = b := ⟨_, rfl⟩
  obtain ⟨c, hc⟩ : ∃ c, s3.next = c := ⟨_, rfl⟩
  simp only [go_sem, reduceCtorEq, Nat.reduceEqDiff, Nat.reduceAdd, Nat.reduceLeDiff, Nat.reduceLT, Nat.reduceMul, Nat.reduceSub, ↓reduceIte, Int.reduceLT, Int.reduceLE, Int.reduceNeg, Int.reduceAdd, Int.reduceEq, Nat.reduceBneDiff, Nat.reduceBEq, Int.reduceToNat, Int.reduceMul, Int.reduceSub, Int.reduceBEq, Int.reduceBNe, Int.cast_ofNat_Int, Int.toNat_natCast_add_one, Nat.add_left_cancel_iff, Nat.left_eq_add, Nat.add_eq_left, Int.toNat_natCast, Nat.add_assoc, Int.ofNat_lt, Int.ofNat_le, Mg.enc, out_tk, said]
  rw [hb] at hL3 hlt3 ⊢
  rw [hc] at hlt3 ⊢
  have hlt3' : b < s3.next := by omega
  refine loop_ind (fun m ts s' => ∃ k : Int, m = (n + 1 - k).toNat ∧ 1 ≤ k ∧ k ≤ n + 1 ∧ ts.get 8 = some (.int .i64 k) ∧ ts.get 0 = some (.int .i64 r) ∧ ts.get 1 = some (.int .i64 n) ∧ ts.get 5 = some (.ptr b 0) ∧
    ts.get 6 = some (.ptr c 0) ∧ Lies s' b (tk r ((k - 1) % r)).enc ∧ Lies s' c said.enc ∧ c < s'.next) ?_ (n := n.toNat) ?_
  · rintro m ts s4 ⟨k, rfl, hk1, hk2, g8, g0, g1, g5, g6, hL, hF, hltc⟩ IH
    simp only [go_sem, reduceCtorEq, Nat.reduceEqDiff, Nat.reduceAdd, Nat.reduceLeDiff, Nat.reduceLT, Nat.reduceMul, Nat.reduceSub, ↓reduceIte, Int.reduceLT, Int.reduceLE, Int.reduceNeg, Int.reduceAdd, Int.reduceEq, Nat.reduceBneDiff, Nat.reduceBEq, Int.reduceToNat, Int.reduceMul, Int.reduceSub, Int.reduceBEq, Int.reduceBNe, Int.cast_ofNat_Int, Int.toNat_natCast_add_one, Nat.add_left_cancel_iff, Nat.left_eq_add, Nat.add_eq_left, Int.toNat_natCast, Nat.add_assoc, Int.ofNat_lt, Int.ofNat_le, g8, g0, g1, g5, g6]
    refine Wi_split (fun hg => ?_) (fun hg => ?_)
    · simp only [go_sem, reduceCtorEq, Nat.reduceEqDiff, Nat.reduceAdd, Nat.reduceLeDiff, Nat.reduceLT, Nat.reduceMul, Nat.reduceSub, ↓reduceIte, Int.reduceLT, Int.reduceLE, Int.reduceNeg, Int.reduceAdd, Int.reduceEq, Nat.reduceBneDiff, Nat.reduceBEq, Int.reduceToNat, Int.reduceMul, Int.reduceSub, Int.reduceBEq, Int.reduceBNe, Int.cast_ofNat_Int, Int.toNat_natCast_add_one, Nat.add_left_cancel_iff, Nat.left_eq_add, Nat.add_eq_left, Int.toNat_natCast, Nat.add_assoc, Int.ofNat_lt, Int.ofNat_le, g8, g0, g1, g5, g6]
      have hk : k ≤ n := by simpa using hg
      have hw := Int.emod_nonneg (k - 1) (show r ≠ 0 by omega)
      have hw' := Int.emod_lt_of_pos (k - 1) (show 0 < r by omega)
      refine Wl_of (Tick_run (tk r ((k - 1) % r)) ⟨⟨by simp [tk], by simp [tk]⟩, by simpa [tk] using hr, ⟨by simp [tk], by simp [tk]⟩, by simp [tk]; omega⟩ hL) ?_
      rintro v s5 ⟨rfl, hL5, f5⟩
      have hkey : (tk r ((k - 1) % r)).tick = (tk r (k % r), k % r == 0) := by
        have h1 : k % r = ((k - 1) % r + 1) % r := by rw [Int.emod_add_emod]; congr 1; omega
        unfold Snd.tick tk
        dsimp only
        rw [if_neg (by decide)]
        by_cases h2 : (k - 1) % r + 1 < r
        · rw [if_pos h2, h1, Int.emod_eq_of_lt (by omega) h2]
          simp; omega
        · rw [if_neg h2, h1, show (k - 1) % r + 1 = r by omega, Int.emod_self]
          simp
      rw [hkey] at hL5 ⊢
      have hm : k.tmod r = k % r := Int.tmod_eq_emod_of_nonneg (by omega)
      have h0 : ¬ r = 0 := by omega
      simp only [go_sem, reduceCtorEq, Nat.reduceEqDiff, Nat.reduceAdd, Nat.reduceLeDiff, Nat.reduceLT, Nat.reduceMul, Nat.reduceSub, ↓reduceIte, Int.reduceLT, Int.reduceLE, Int.reduceNeg, Int.reduceAdd, Int.reduceEq, Nat.reduceBneDiff, Nat.reduceBEq, Int.reduceToNat, Int.reduceMul, Int.reduceSub, Int.reduceBEq, Int.reduceBNe, Int.cast_ofNat_Int, Int.toNat_natCast_add_one, Nat.add_left_cancel_iff, Nat.left_eq_add, Nat.add_eq_left, Int.toNat_natCast, Nat.add_assoc, Int.ofNat_lt, Int.ofNat_le, g8, g0, g1, g5, g6, hm, h0]
      have hlt5 : c < s5.next := Nat.lt_of_lt_of_le hltc f5.le
      refine IH _ _ _ (by omega) ⟨k + 1, rfl, by omega, by omega, ?_, ?_, ?_, ?_, ?_, by rw [show k + 1 - 1 = k by omega]; exact hL5, (f5.get c hltc (by omega)).trans hF, hlt5⟩
      all_goals simp only [go_sem, reduceCtorEq, Nat.reduceEqDiff, Nat.reduceAdd, Nat.reduceLeDiff, Nat.reduceLT, Nat.reduceMul, Nat.reduceSub, ↓reduceIte, Int.reduceLT, Int.reduceLE, Int.reduceNeg, Int.reduceAdd, Int.reduceEq, Nat.reduceBneDiff, Nat.reduceBEq, Int.reduceToNat, Int.reduceMul, Int.reduceSub, Int.reduceBEq, Int.reduceBNe, Int.cast_ofNat_Int, Int.toNat_natCast_add_one, Nat.add_left_cancel_iff, Nat.left_eq_add, Nat.add_eq_left, Int.toNat_natCast, Nat.add_assoc, Int.ofNat_lt, Int.ofNat_le, g8, g0, g1, g5, g6, i64_in (show -9223372036854775808 ≤ k + 1 by omega) (by omega)]
    · simp only [go_sem, reduceCtorEq, Nat.reduceEqDiff, Nat.reduceAdd, Nat.reduceLeDiff, Nat.reduceLT, Nat.reduceMul, Nat.reduceSub, ↓reduceIte, Int.reduceLT, Int.reduceLE, Int.reduceNeg, Int.reduceAdd, Int.reduceEq, Nat.reduceBneDiff, Nat.reduceBEq, Int.reduceToNat, Int.reduceMul, Int.reduceSub, Int.reduceBEq, Int.reduceBNe, Int.cast_ofNat_Int, Int.toNat_natCast_add_one, Nat.add_left_cancel_iff, Nat.left_eq_add, Nat.add_eq_left, Int.toNat_natCast, Nat.add_assoc, Int.ofNat_lt, Int.ofNat_le, g8, g0, g1, g5, g6]
      refine Wl_of (Out_run (tk r ((k - 1) % r)) 1 hL (by omega)) ?_
      rintro v s5 ⟨rfl, f5⟩
      have hF5 : Lies s5 c said.enc := (f5.get c hltc).trans hF
      have hlt5 : c < s5.next := Nat.lt_of_lt_of_le hltc f5.le
      unfold Lies said Mg.enc at hF5
      simp -implicitDefEqProofs only [go_sem, reduceCtorEq, Nat.reduceEqDiff, Nat.reduceAdd, Nat.reduceLeDiff, Nat.reduceLT, Nat.reduceMul, Nat.reduceSub, ↓reduceIte, Int.reduceLT, Int.reduceLE, Int.reduceNeg, Int.reduceAdd, Int.reduceEq, Nat.reduceBneDiff, Nat.reduceBEq, Int.reduceToNat, Int.reduceMul, Int.reduceSub, Int.reduceBEq, Int.reduceBNe, Int.cast_ofNat_Int, Int.toNat_natCast_add_one, Nat.add_left_cancel_iff, Nat.left_eq_add, Nat.add_eq_left, Int.toNat_natCast, Nat.add_assoc, Int.ofNat_lt, Int.ofNat_le, Nat.lt_add_one_of_lt, Nat.lt_add_one, g8, g0, g1, g5, g6, Mg.enc, out_tk, said, hF5, eq_next_f hlt5, eq_next_f' hlt5]
      refine Wl_of (Same_run said said rfl rfl rfl rfl _) ?_
      rintro v s6 ⟨rfl, f6⟩
      simp only [go_sem, reduceCtorEq, Nat.reduceEqDiff, Nat.reduceAdd, Nat.reduceLeDiff, Nat.reduceLT, Nat.reduceMul, Nat.reduceSub, ↓reduceIte, Int.reduceLT, Int.reduceLE, Int.reduceNeg, Int.reduceAdd, Int.reduceEq, Nat.reduceBneDiff, Nat.reduceBEq, Int.reduceToNat, Int.reduceMul, Int.reduceSub, Int.reduceBEq, Int.reduceBNe, Int.cast_ofNat_Int, Int.toNat_natCast_add_one, Nat.add_left_cancel_iff, Nat.left_eq_add, Nat.add_eq_left, Int.toNat_natCast, Nat.add_assoc, Int.ofNat_lt, Int.ofNat_le]
      rfl
  · refine ⟨1, by omega, by omega, by omega, ?_, ?_, ?_, ?_, ?_, ?_, ?_, ?_⟩
    · simp only [go_sem, reduceCtorEq, Nat.reduceEqDiff, Nat.reduceAdd, Nat.reduceLeDiff, Nat.reduceLT, Nat.reduceMul, Nat.reduceSub, ↓reduceIte, Int.reduceLT, Int.reduceLE, Int.reduceNeg, Int.reduceAdd, Int.reduceEq, Nat.reduceBneDiff, Nat.reduceBEq, Int.reduceToNat, Int.reduceMul, Int.reduceSub, Int.reduceBEq, Int.reduceBNe, Int.cast_ofNat_Int, Int.toNat_natCast_add_one, Nat.add_left_cancel_iff, Nat.left_eq_add, Nat.add_eq_left, Int.toNat_natCast, Nat.add_assoc, Int.ofNat_lt, Int.ofNat_le]
    · simp only [go_sem, reduceCtorEq, Nat.reduceEqDiff, Nat.reduceAdd, Nat.reduceLeDiff, Nat.reduceLT, Nat.reduceMul, Nat.reduceSub, ↓reduceIte, Int.reduceLT, Int.reduceLE, Int.reduceNeg, Int.reduceAdd, Int.reduceEq, Nat.reduceBneDiff, Nat.reduceBEq, Int.reduceToNat, Int.reduceMul, Int.reduceSub, Int.reduceBEq, Int.reduceBNe, Int.cast_ofNat_Int, Int.toNat_natCast_add_one, Nat.add_left_cancel_iff, Nat.left_eq_add, Nat.add_eq_left, Int.toNat_natCast, Nat.add_assoc, Int.ofNat_lt, Int.ofNat_le]
    · simp only [go_sem, reduceCtorEq, Nat.reduceEqDiff, Nat.reduceAdd, Nat.reduceLeDiff, Nat.reduceLT, Nat.reduceMul, Nat.reduceSub, ↓reduceIte, Int.reduceLT, Int.reduceLE, Int.reduceNeg, Int.reduceAdd, Int.reduceEq, Nat.reduceBneDiff, Nat.reduceBEq, Int.reduceToNat, Int.reduceMul, Int.reduceSub, Int.reduceBEq, Int.reduceBNe, Int.cast_ofNat_Int, Int.toNat_natCast_add_one, Nat.add_left_cancel_iff, Nat.left_eq_add, Nat.add_eq_left, Int.toNat_natCast, Nat.add_assoc, Int.ofNat_lt, Int.ofNat_le]
    · simp only [go_sem, reduceCtorEq, Nat.reduceEqDiff, Nat.reduceAdd, Nat.reduceLeDiff, Nat.reduceLT, Nat.reduceMul, Nat.reduceSub, ↓reduceIte, Int.reduceLT, Int.reduceLE, Int.reduceNeg, Int.reduceAdd, Int.reduceEq, Nat.reduceBneDiff, Nat.reduceBEq, Int.reduceToNat, Int.reduceMul, Int.reduceSub, Int.reduceBEq, Int.reduceBNe, Int.cast_ofNat_Int, Int.toNat_natCast_add_one, Nat.add_left_cancel_iff, Nat.left_eq_add, Nat.add_eq_left, Int.toNat_natCast, Nat.add_assoc, Int.ofNat_lt, Int.ofNat_le]
    · simp only [go_sem, reduceCtorEq, Nat.reduceEqDiff, Nat.reduceAdd, Nat.reduceLeDiff, Nat.reduceLT, Nat.reduceMul, Nat.reduceSub, ↓reduceIte, Int.reduceLT, Int.reduceLE, Int.reduceNeg, Int.reduceAdd, Int.reduceEq, Nat.reduceBneDiff, Nat.reduceBEq, Int.reduceToNat, Int.reduceMul, Int.reduceSub, Int.reduceBEq, Int.reduceBNe, Int.cast_ofNat_Int, Int.toNat_natCast_add_one, Nat.add_left_cancel_iff, Nat.left_eq_add, Nat.add_eq_left, Int.toNat_natCast, Nat.add_assoc, Int.ofNat_lt, Int.ofNat_le]
    · simp -implicitDefEqProofs only [go_sem, reduceCtorEq, Nat.reduceEqDiff, Nat.reduceAdd, Nat.reduceLeDiff, Nat.reduceLT, Nat.reduceMul, Nat.reduceSub, ↓reduceIte, Int.reduceLT, Int.reduceLE, Int.reduceNeg, Int.reduceAdd, Int.reduceEq, Nat.reduceBneDiff, Nat.reduceBEq, Int.reduceToNat, Int.reduceMul, Int.reduceSub, Int.reduceBEq, Int.reduceBNe, Int.cast_ofNat_Int, Int.toNat_natCast_add_one, Nat.add_left_cancel_iff, Nat.left_eq_add, Nat.add_eq_left, Int.toNat_natCast, Nat.add_assoc, Int.ofNat_lt, Int.ofNat_le, Nat.lt_add_one_of_lt, Nat.lt_add_one, Lies, hL3, eq_next_f hlt3', hlt3']
      rw [Int.zero_emod]
    · rw [← hc]
      simp only [Lies, St.get_new, if_true, said, Mg.enc]
    · rw [← hc]
      exact Nat.lt_succ_self _
end Go.Proofs.Ytfboomidofnmfaa
