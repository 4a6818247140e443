/- Scripts. Which scripts can be: the document's answer.
Scripts. Their bytes, and what is read of bytes: the plain law.
Scripts. Numbers put behind bytes: rows of bytes that grow; out.put; label.Put.
Scripts. A script's bytes: the program's answer.
Scripts. A script's bytes: the program's answer, whole.
Scripts. Numbers put behind bytes: the document's answer. -/
import Derived.Test.YteiiblpnegjjlaaGreatZl
namespace Go.Proofs.YteiiblpnegjjlaaGreat.Lw
open D
set_option linter.unusedSimpArgs false
set_option linter.unusedVariables false
set_option maxRecDepth 10000

theorem refPlain_run (c : Cfg) (l : List Sop) {v : AV} {s : St} (hA : RdS s v l) (hl : ∀ x ∈ l, SopOk s x) (hk : ∀ x ∈ l, x.keys.length ≤ 1000) (hd : Dom s) (hL : l.length < 1000000000) :
    Wf mm 16 [.agg c.enc, v] s fun w s' => w = .bool (plainS c l) ∧ Fr s s' ∧ Dom s' := by
  refine Wf_enter ft16 (sm (by decide)) (by rfl) ?_
  have ft : (false == true) = false := rfl
  have tf : (true == false) = false := rfl
  have hlen := hA.len
  have hd2 := dom_new hd (.cells c.enc false false 0)
  have f1 : Fr s (s.new (.cells c.enc false false 0)) := by (repeat (first | exact FrX.refl _ _ | exact Fr.refl _ | assumption | exact Fr.x (by assumption) _ | refine FrX.put ?_ (.inl rfl) _ | refine FrX.put ?_ (.inr (by first | omega | (simp; done) | (simp; omega))) _ | refine FrX.new ?_ _ | refine Fr.put ?_ (by first | omega | (simp; done) | (simp; omega)) _ | refine Fr.new ?_ _ | refine FrX.then ?_ (by assumption) | refine Fr.trans ?_ (by assumption)))
  unfold Cfg.enc at hd2 f1 ⊢
  have d1 : decide ((l.length : Int) > 400) = decide (400 < l.length) := by rw [Bool.eq_iff_iff]; simp; omega
  have hn : c.nums.any (bad 65535) = (bad 65535 c.pages || bad 65535 c.last || bad 65535 c.spans || bad 65535 c.chunk || bad 65535 c.retry) := by simp [Cfg.nums, Bool.or_assoc]
  cases c1 : decide (400 < l.length)
  rotate_left
  · simp -implicitDefEqProofs only [go_sem, Wk_block, Wk_drawnC, reduceCtorEq, Nat.reduceEqDiff, Nat.reduceAdd, Nat.reduceLeDiff, Nat.reduceLT, Nat.reduceMul, Nat.reduceSub, ↓reduceIte, Int.reduceLT, Int.reduceLE, Int.reduceNeg, Int.reduceAdd, Int.reduceEq, Nat.reduceBneDiff, Nat.reduceBEq, Int.reduceToNat, Int.reduceMul, Int.reduceSub, Int.reduceBEq, Int.reduceBNe, Int.cast_ofNat_Int, Int.toNat_natCast_add_one, Nat.add_left_cancel_iff, Nat.left_eq_add, Nat.add_eq_left, Int.toNat_natCast, Nat.add_assoc, Int.ofNat_lt, Int.ofNat_le, Nat.lt_add_one_of_lt, Nat.lt_add_one, Nat.lt_add_right, Nat.lt_add_right_iff_pos, Nat.add_lt_add_iff_left, fd16, hlen, d1, c1, ft, tf]
    exact ⟨by simp [plainS, c1], f1, hd2⟩
  cases p1 : bad 65535 c.pages
  rotate_left
  · simp -implicitDefEqProofs only [go_sem, Wk_block, Wk_drawnC, reduceCtorEq, Nat.reduceEqDiff, Nat.reduceAdd, Nat.reduceLeDiff, Nat.reduceLT, Nat.reduceMul, Nat.reduceSub, ↓reduceIte, Int.reduceLT, Int.reduceLE, Int.reduceNeg, Int.reduceAdd, Int.reduceEq, Nat.reduceBneDiff, Nat.reduceBEq, Int.reduceToNat, Int.reduceMul, Int.reduceSub, Int.reduceBEq, Int.reduceBNe, Int.cast_ofNat_Int, Int.toNat_natCast_add_one, Nat.add_left_cancel_iff, Nat.left_eq_add, Nat.add_eq_left, Int.toNat_natCast, Nat.add_assoc, Int.ofNat_lt, Int.ofNat_le, Nat.lt_add_one_of_lt, Nat.lt_add_one, Nat.lt_add_right, Nat.lt_add_right_iff_pos, Nat.add_lt_add_iff_left, fd16, hlen, d1, c1, Wl_eq (short_eq c.pages _), p1, Bool.not_true, Bool.not_false, ft, tf]
    exact ⟨by simp [plainS, hn, p1], f1, hd2⟩
  cases p2 : bad 65535 c.last
  rotate_left
  · simp -implicitDefEqProofs only [go_sem, Wk_block, Wk_drawnC, reduceCtorEq, Nat.reduceEqDiff, Nat.reduceAdd, Nat.reduceLeDiff, Nat.reduceLT, Nat.reduceMul, Nat.reduceSub, ↓reduceIte, Int.reduceLT, Int.reduceLE, Int.reduceNeg, Int.reduceAdd, Int.reduceEq, Nat.reduceBneDiff, Nat.reduceBEq, Int.reduceToNat, Int.reduceMul, Int.reduceSub, Int.reduceBEq, Int.reduceBNe, Int.cast_ofNat_Int, Int.toNat_natCast_add_one, Nat.add_left_cancel_iff, Nat.left_eq_add, Nat.add_eq_left, Int.toNat_natCast, Nat.add_assoc, Int.ofNat_lt, Int.ofNat_le, Nat.lt_add_one_of_lt, Nat.lt_add_one, Nat.lt_add_right, Nat.lt_add_right_iff_pos, Nat.add_lt_add_iff_left, fd16, hlen, d1, c1, Wl_eq (short_eq c.pages _), Wl_eq (short_eq c.last _), p1, p2, Bool.not_true, Bool.not_false, ft, tf]
    exact ⟨by simp [plainS, hn, p2], f1, hd2⟩
  cases p3 : bad 65535 c.spans
  rotate_left
  · simp -implicitDefEqProofs only [go_sem, Wk_block, Wk_drawnC, reduceCtorEq, Nat.reduceEqDiff, Nat.reduceAdd, Nat.reduceLeDiff, Nat.reduceLT, Nat.reduceMul, Nat.reduceSub, ↓reduceIte, Int.reduceLT, Int.reduceLE, Int.reduceNeg, Int.reduceAdd, Int.reduceEq, Nat.reduceBneDiff, Nat.reduceBEq, Int.reduceToNat, Int.reduceMul, Int.reduceSub, Int.reduceBEq, Int.reduceBNe, Int.cast_ofNat_Int, Int.toNat_natCast_add_one, Nat.add_left_cancel_iff, Nat.left_eq_add, Nat.add_eq_left, Int.toNat_natCast, Nat.add_assoc, Int.ofNat_lt, Int.ofNat_le, Nat.lt_add_one_of_lt, Nat.lt_add_one, Nat.lt_add_right, Nat.lt_add_right_iff_pos, Nat.add_lt_add_iff_left, fd16, hlen, d1, c1, Wl_eq (short_eq c.pages _), Wl_eq (short_eq c.last _), Wl_eq (short_eq c.spans _), p1, p2, p3, Bool.not_true, Bool.not_false, ft, tf]
    exact ⟨by simp [plainS, hn, p3], f1, hd2⟩
  cases p4 : bad 65535 c.chunk
  rotate_left
  · simp -implicitDefEqProofs only [go_sem, Wk_block, Wk_drawnC, reduceCtorEq, Nat.reduceEqDiff, Nat.reduceAdd, Nat.reduceLeDiff, Nat.reduceLT, Nat.reduceMul, Nat.reduceSub, ↓reduceIte, Int.reduceLT, Int.reduceLE, Int.reduceNeg, Int.reduceAdd, Int.reduceEq, Nat.reduceBneDiff, Nat.reduceBEq, Int.reduceToNat, Int.reduceMul, Int.reduceSub, Int.reduceBEq, Int.reduceBNe, Int.cast_ofNat_Int, Int.toNat_natCast_add_one, Nat.add_left_cancel_iff, Nat.left_eq_add, Nat.add_eq_left, Int.toNat_natCast, Nat.add_assoc, Int.ofNat_lt, Int.ofNat_le, Nat.lt_add_one_of_lt, Nat.lt_add_one, Nat.lt_add_right, Nat.lt_add_right_iff_pos, Nat.add_lt_add_iff_left, fd16, hlen, d1, c1, Wl_eq (short_eq c.pages _), Wl_eq (short_eq c.last _), Wl_eq (short_eq c.spans _), Wl_eq (short_eq c.chunk _), p1, p2, p3, p4, Bool.not_true, Bool.not_false, ft, tf]
    exact ⟨by simp [plainS, hn, p4], f1, hd2⟩
  cases p5 : bad 65535 c.retry
  rotate_left
  · simp -implicitDefEqProofs only [go_sem, Wk_block, Wk_drawnC, reduceCtorEq, Nat.reduceEqDiff, Nat.reduceAdd, Nat.reduceLeDiff, Nat.reduceLT, Nat.reduceMul, Nat.reduceSub, ↓reduceIte, Int.reduceLT, Int.reduceLE, Int.reduceNeg, Int.reduceAdd, Int.reduceEq, Nat.reduceBneDiff, Nat.reduceBEq, Int.reduceToNat, Int.reduceMul, Int.reduceSub, Int.reduceBEq, Int.reduceBNe, Int.cast_ofNat_Int, Int.toNat_natCast_add_one, Nat.add_left_cancel_iff, Nat.left_eq_add, Nat.add_eq_left, Int.toNat_natCast, Nat.add_assoc, Int.ofNat_lt, Int.ofNat_le, Nat.lt_add_one_of_lt, Nat.lt_add_one, Nat.lt_add_right, Nat.lt_add_right_iff_pos, Nat.add_lt_add_iff_left, fd16, hlen, d1, c1, Wl_eq (short_eq c.pages _), Wl_eq (short_eq c.last _), Wl_eq (short_eq c.spans _), Wl_eq (short_eq c.chunk _), Wl_eq (short_eq c.retry _), p1, p2, p3, p4, p5, Bool.not_true, Bool.not_false, ft, tf]
    exact ⟨by simp [plainS, hn, p5], f1, hd2⟩
  simp -implicitDefEqProofs only [go_sem, Wk_block, Wk_drawnC, reduceCtorEq, Nat.reduceEqDiff, Nat.reduceAdd, Nat.reduceLeDiff, Nat.reduceLT, Nat.reduceMul, Nat.reduceSub, ↓reduceIte, Int.reduceLT, Int.reduceLE, Int.reduceNeg, Int.reduceAdd, Int.reduceEq, Nat.reduceBneDiff, Nat.reduceBEq, Int.reduceToNat, Int.reduceMul, Int.reduceSub, Int.reduceBEq, Int.reduceBNe, Int.cast_ofNat_Int, Int.toNat_natCast_add_one, Nat.add_left_cancel_iff, Nat.left_eq_add, Nat.add_eq_left, Int.toNat_natCast, Nat.add_assoc, Int.ofNat_lt, Int.ofNat_le, Nat.lt_add_one_of_lt, Nat.lt_add_one, Nat.lt_add_right, Nat.lt_add_right_iff_pos, Nat.add_lt_add_iff_left, fd16, hlen, d1, c1, Wl_eq (short_eq c.pages _), Wl_eq (short_eq c.last _), Wl_eq (short_eq c.spans _), Wl_eq (short_eq c.chunk _), Wl_eq (short_eq c.retry _), p1, p2, p3, p4, p5, Bool.not_true, Bool.not_false, ft, tf]
  generalize s.new _ = s0 at hd2 f1 ⊢
  have hno : ∀ x ∈ l, plainOp x = false → plainS c l = false := fun x hx h => by
    have : l.any (fun x => !plainOp x) = true := List.any_eq_true.2 ⟨x, hx, by rw [h]; rfl⟩
    simp [plainS, this]
  refine loop_ind (fun m ts s' => ∃ j : Nat, m = l.length - j ∧ j ≤ l.length ∧ ts.get 50 = some (.int .i64 (j : Int)) ∧ ts.get 49 = some (.int .i64 (l.length : Int)) ∧ ts.get 48 = some v ∧ (l.take j).any (fun x => !plainOp x) = false ∧ Fr s s' ∧ Dom s') ?_ (n := l.length)
    ⟨0, rfl, by omega, by simp only [Tr.get_set, Nat.reduceEqDiff, ↓reduceIte, Int.cast_ofNat_Int], by simp only [Tr.get_set, Nat.reduceEqDiff, ↓reduceIte, Int.cast_ofNat_Int], by simp only [Tr.get_set, Nat.reduceEqDiff, ↓reduceIte, Int.cast_ofNat_Int], rfl, f1, hd2⟩
  rintro m ts s1 ⟨j, rfl, hj, g50, g49, g48, hpre, f, dd⟩ IH
  by_cases hlt : j < l.length
  · have hA1 := hA.mono f
    obtain ⟨b, o, vs, lo, ro, z, hidx, hv, hbl, hle, he⟩ := hA1.at_ j hlt
    have hok := (hl l[j] (List.getElem_mem hlt)).mono (fr_keeps f hd)
    have hk1 := hk l[j] (List.getElem_mem hlt)
    have htk : (l.take (j + 1)).any (fun x => !plainOp x) = !plainOp l[j] := by
      rw [List.take_succ_eq_append_getElem hlt, List.any_append, hpre]
      simp
    have hno1 := hno l[j] (List.getElem_mem hlt)
    generalize l[j] = x at he hok htk hno1 hk1
    have wj := succ_in (j := j) (by omega)
    have ht : x.cells.take 25 = x.cells := List.take_of_length_le (by rw [hok.len]; omega)
    have k1 := hok.mono (keeps_new dd (.cells x.cells false false 0))
    have m1 := dom_new dd (.cells x.cells false false 0)
    have n1 : Fr s (s1.new (.cells x.cells false false 0)) := f.trans (by (repeat (first | exact FrX.refl _ _ | exact Fr.refl _ | assumption | exact Fr.x (by assumption) _ | refine FrX.put ?_ (.inl rfl) _ | refine FrX.put ?_ (.inr (by first | omega | (simp; done) | (simp; omega))) _ | refine FrX.new ?_ _ | refine Fr.put ?_ (by first | omega | (simp; done) | (simp; omega)) _ | refine Fr.new ?_ _ | refine FrX.then ?_ (by assumption) | refine Fr.trans ?_ (by assumption))))
    have q1 : (s1.new (.cells x.cells false false 0)).get s1.next = some (.cells x.cells false false 0) := by rw [St.get_new, if_pos rfl]
    simp -implicitDefEqProofs only [go_sem, Wk_block, Wk_drawnC, reduceCtorEq, Nat.reduceEqDiff, Nat.reduceAdd, Nat.reduceLeDiff, Nat.reduceLT, Nat.reduceMul, Nat.reduceSub, ↓reduceIte, Int.reduceLT, Int.reduceLE, Int.reduceNeg, Int.reduceAdd, Int.reduceEq, Nat.reduceBneDiff, Nat.reduceBEq, Int.reduceToNat, Int.reduceMul, Int.reduceSub, Int.reduceBEq, Int.reduceBNe, Int.cast_ofNat_Int, Int.toNat_natCast_add_one, Nat.add_left_cancel_iff, Nat.left_eq_add, Nat.add_eq_left, Int.toNat_natCast, Nat.add_assoc, Int.ofNat_lt, Int.ofNat_le, Nat.lt_add_one_of_lt, Nat.lt_add_one, Nat.lt_add_right, Nat.lt_add_right_iff_pos, Nat.add_lt_add_iff_left, g50, g49, g48, hlt, hidx, hv, hle, he, hok.len, hok.cell, ht, ft, tf]
    refine Wl_of (refRight_run k1) ?_
    rintro _ s2 ⟨rfl, hs2⟩
    have q2 : s2.get s1.next = some (.cells x.cells false false 0) := by rw [hs2]; exact keeps_new m1 _ _ _ q1
    have m2 : Dom s2 := by rw [hs2]; exact dom_new m1 _
    have n2 : Fr s s2 := by rw [hs2]; exact n1.trans (by (repeat (first | exact FrX.refl _ _ | exact Fr.refl _ | assumption | exact Fr.x (by assumption) _ | refine FrX.put ?_ (.inl rfl) _ | refine FrX.put ?_ (.inr (by first | omega | (simp; done) | (simp; omega))) _ | refine FrX.new ?_ _ | refine Fr.put ?_ (by first | omega | (simp; done) | (simp; omega)) _ | refine Fr.new ?_ _ | refine FrX.then ?_ (by assumption) | refine Fr.trans ?_ (by assumption))))
    have k2 : SopOk s2 x := by rw [hs2]; exact k1.mono (keeps_new m1 _)
    clear hs2
    have hkl := hok.keys.len
    have hwl := hok.keep.len
    simp only [List.length_map] at hkl
    have e64 : decide ((x.keys.length : Int) > 64) = decide (64 < x.keys.length) := by rw [Bool.eq_iff_iff]; simp; omega
    have e255 : decide ((x.keep.length : Int) > 255) = decide (255 < x.keep.length) := by rw [Bool.eq_iff_iff]; simp; omega
    cases c3 : rightOp x
    · simp -implicitDefEqProofs only [go_sem, Wk_block, Wk_drawnC, reduceCtorEq, Nat.reduceEqDiff, Nat.reduceAdd, Nat.reduceLeDiff, Nat.reduceLT, Nat.reduceMul, Nat.reduceSub, ↓reduceIte, Int.reduceLT, Int.reduceLE, Int.reduceNeg, Int.reduceAdd, Int.reduceEq, Nat.reduceBneDiff, Nat.reduceBEq, Int.reduceToNat, Int.reduceMul, Int.reduceSub, Int.reduceBEq, Int.reduceBNe, Int.cast_ofNat_Int, Int.toNat_natCast_add_one, Nat.add_left_cancel_iff, Nat.left_eq_add, Nat.add_eq_left, Int.toNat_natCast, Nat.add_assoc, Int.ofNat_lt, Int.ofNat_le, Nat.lt_add_one_of_lt, Nat.lt_add_one, Nat.lt_add_right, Nat.lt_add_right_iff_pos, Nat.add_lt_add_iff_left, c3, q2, hok.len, hok.c2, hok.c3, hok.c24, hok.c22, hkl, hwl, Wl_eq (tiny_eq x.key _), e64, e255, Bool.not_true, Bool.not_false, ft, tf]
      exact ⟨by rw [hno1 (by simp [plainOp, c3])], n2, m2⟩
    cases c4 : bad 255 x.key
    rotate_left
    · simp -implicitDefEqProofs only [go_sem, Wk_block, Wk_drawnC, reduceCtorEq, Nat.reduceEqDiff, Nat.reduceAdd, Nat.reduceLeDiff, Nat.reduceLT, Nat.reduceMul, Nat.reduceSub, ↓reduceIte, Int.reduceLT, Int.reduceLE, Int.reduceNeg, Int.reduceAdd, Int.reduceEq, Nat.reduceBneDiff, Nat.reduceBEq, Int.reduceToNat, Int.reduceMul, Int.reduceSub, Int.reduceBEq, Int.reduceBNe, Int.cast_ofNat_Int, Int.toNat_natCast_add_one, Nat.add_left_cancel_iff, Nat.left_eq_add, Nat.add_eq_left, Int.toNat_natCast, Nat.add_assoc, Int.ofNat_lt, Int.ofNat_le, Nat.lt_add_one_of_lt, Nat.lt_add_one, Nat.lt_add_right, Nat.lt_add_right_iff_pos, Nat.add_lt_add_iff_left, c3, c4, q2, hok.len, hok.c2, hok.c3, hok.c24, hok.c22, hkl, hwl, Wl_eq (tiny_eq x.key _), e64, e255, Bool.not_true, Bool.not_false, ft, tf]
      exact ⟨by rw [hno1 (by simp [plainOp, c4])], n2, m2⟩
    cases c5 : decide (64 < x.keys.length)
    rotate_left
    · have hb : decide (x.keys.length ≤ 64) = false := by simp at c5 ⊢; omega
      simp -implicitDefEqProofs only [go_sem, Wk_block, Wk_drawnC, reduceCtorEq, Nat.reduceEqDiff, Nat.reduceAdd, Nat.reduceLeDiff, Nat.reduceLT, Nat.reduceMul, Nat.reduceSub, ↓reduceIte, Int.reduceLT, Int.reduceLE, Int.reduceNeg, Int.reduceAdd, Int.reduceEq, Nat.reduceBneDiff, Nat.reduceBEq, Int.reduceToNat, Int.reduceMul, Int.reduceSub, Int.reduceBEq, Int.reduceBNe, Int.cast_ofNat_Int, Int.toNat_natCast_add_one, Nat.add_left_cancel_iff, Nat.left_eq_add, Nat.add_eq_left, Int.toNat_natCast, Nat.add_assoc, Int.ofNat_lt, Int.ofNat_le, Nat.lt_add_one_of_lt, Nat.lt_add_one, Nat.lt_add_right, Nat.lt_add_right_iff_pos, Nat.add_lt_add_iff_left, c3, c4, c5, q2, hok.len, hok.c2, hok.c3, hok.c24, hok.c22, hkl, hwl, Wl_eq (tiny_eq x.key _), e64, e255, Bool.not_true, Bool.not_false, ft, tf]
      exact ⟨by rw [hno1 (by simp only [plainOp, listsOp, hb, Bool.false_and, Bool.and_false])], n2, m2⟩
    cases c6 : decide (255 < x.keep.length)
    rotate_left
    · have hb : decide (x.keep.length ≤ 255) = false := by simp at c6 ⊢; omega
      simp -implicitDefEqProofs only [go_sem, Wk_block, Wk_drawnC, reduceCtorEq, Nat.reduceEqDiff, Nat.reduceAdd, Nat.reduceLeDiff, Nat.reduceLT, Nat.reduceMul, Nat.reduceSub, ↓reduceIte, Int.reduceLT, Int.reduceLE, Int.reduceNeg, Int.reduceAdd, Int.reduceEq, Nat.reduceBneDiff, Nat.reduceBEq, Int.reduceToNat, Int.reduceMul, Int.reduceSub, Int.reduceBEq, Int.reduceBNe, Int.cast_ofNat_Int, Int.toNat_natCast_add_one, Nat.add_left_cancel_iff, Nat.left_eq_add, Nat.add_eq_left, Int.toNat_natCast, Nat.add_assoc, Int.ofNat_lt, Int.ofNat_le, Nat.lt_add_one_of_lt, Nat.lt_add_one, Nat.lt_add_right, Nat.lt_add_right_iff_pos, Nat.add_lt_add_iff_left, c3, c4, c5, c6, q2, hok.len, hok.c2, hok.c3, hok.c24, hok.c22, hkl, hwl, Wl_eq (tiny_eq x.key _), e64, e255, Bool.not_true, Bool.not_false, ft, tf]
      exact ⟨by rw [hno1 (by simp only [plainOp, listsOp, hb, Bool.false_and, Bool.and_false])], n2, m2⟩
    cases c7 : decide (x.at_ < -1)
    rotate_left
    · have hb : decide (x.at_ ≥ -1) = false := by simp at c7 ⊢; omega
      simp -implicitDefEqProofs only [go_sem, Wk_block, Wk_drawnC, reduceCtorEq, Nat.reduceEqDiff, Nat.reduceAdd, Nat.reduceLeDiff, Nat.reduceLT, Nat.reduceMul, Nat.reduceSub, ↓reduceIte, Int.reduceLT, Int.reduceLE, Int.reduceNeg, Int.reduceAdd, Int.reduceEq, Nat.reduceBneDiff, Nat.reduceBEq, Int.reduceToNat, Int.reduceMul, Int.reduceSub, Int.reduceBEq, Int.reduceBNe, Int.cast_ofNat_Int, Int.toNat_natCast_add_one, Nat.add_left_cancel_iff, Nat.left_eq_add, Nat.add_eq_left, Int.toNat_natCast, Nat.add_assoc, Int.ofNat_lt, Int.ofNat_le, Nat.lt_add_one_of_lt, Nat.lt_add_one, Nat.lt_add_right, Nat.lt_add_right_iff_pos, Nat.add_lt_add_iff_left, c3, c4, c5, c6, c7, q2, hok.len, hok.c2, hok.c3, hok.c24, hok.c22, hkl, hwl, Wl_eq (tiny_eq x.key _), e64, e255, Bool.not_true, Bool.not_false, ft, tf]
      exact ⟨by rw [hno1 (by simp only [plainOp, hb, Bool.false_and, Bool.and_false])], n2, m2⟩
    cases c8 : decide (x.at_ > 65534)
    rotate_left
    · have hb : decide (x.at_ < 65535) = false := by simp at c8 ⊢; omega
      simp -implicitDefEqProofs only [go_sem, Wk_block, Wk_drawnC, reduceCtorEq, Nat.reduceEqDiff, Nat.reduceAdd, Nat.reduceLeDiff, Nat.reduceLT, Nat.reduceMul, Nat.reduceSub, ↓reduceIte, Int.reduceLT, Int.reduceLE, Int.reduceNeg, Int.reduceAdd, Int.reduceEq, Nat.reduceBneDiff, Nat.reduceBEq, Int.reduceToNat, Int.reduceMul, Int.reduceSub, Int.reduceBEq, Int.reduceBNe, Int.cast_ofNat_Int, Int.toNat_natCast_add_one, Nat.add_left_cancel_iff, Nat.left_eq_add, Nat.add_eq_left, Int.toNat_natCast, Nat.add_assoc, Int.ofNat_lt, Int.ofNat_le, Nat.lt_add_one_of_lt, Nat.lt_add_one, Nat.lt_add_right, Nat.lt_add_right_iff_pos, Nat.add_lt_add_iff_left, c3, c4, c5, c6, c7, c8, q2, hok.len, hok.c2, hok.c3, hok.c24, hok.c22, hkl, hwl, Wl_eq (tiny_eq x.key _), e64, e255, Bool.not_true, Bool.not_false, ft, tf]
      exact ⟨by rw [hno1 (by simp only [plainOp, hb, Bool.and_false])], n2, m2⟩
    simp -implicitDefEqProofs only [go_sem, Wk_block, Wk_drawnC, reduceCtorEq, Nat.reduceEqDiff, Nat.reduceAdd, Nat.reduceLeDiff, Nat.reduceLT, Nat.reduceMul, Nat.reduceSub, ↓reduceIte, Int.reduceLT, Int.reduceLE, Int.reduceNeg, Int.reduceAdd, Int.reduceEq, Nat.reduceBneDiff, Nat.reduceBEq, Int.reduceToNat, Int.reduceMul, Int.reduceSub, Int.reduceBEq, Int.reduceBNe, Int.cast_ofNat_Int, Int.toNat_natCast_add_one, Nat.add_left_cancel_iff, Nat.left_eq_add, Nat.add_eq_left, Int.toNat_natCast, Nat.add_assoc, Int.ofNat_lt, Int.ofNat_le, Nat.lt_add_one_of_lt, Nat.lt_add_one, Nat.lt_add_right, Nat.lt_add_right_iff_pos, Nat.add_lt_add_iff_left, c3, c4, c5, c6, c7, c8, q2, hok.len, hok.c2, hok.c3, hok.c24, hok.c22, hkl, hwl, Wl_eq (tiny_eq x.key _), e64, e255, Bool.not_true, Bool.not_false, ft, tf]
    have kx := k2.keys
    refine loop_ind (fun m ts' s' => ∃ i : Nat, m = x.keys.length - i ∧ i ≤ x.keys.length ∧ ts'.get 88 = some (.int .i64 (i : Int)) ∧ ts'.get 87 = some (.int .i64 (x.keys.length : Int)) ∧ ts'.get 86 = some x.kv ∧ ts'.get 50 = some (.int .i64 (j : Int)) ∧ ts'.get 49 = some (.int .i64 (l.length : Int)) ∧ ts'.get 48 = some v ∧ (x.keys.take i).any (bad 255) = false ∧ s' = s2) ?_ (n := x.keys.length)
      ⟨0, rfl, by omega, by simp only [Tr.get_set, Nat.reduceEqDiff, ↓reduceIte, Int.cast_ofNat_Int], by simp only [Tr.get_set, Nat.reduceEqDiff, ↓reduceIte, Int.cast_ofNat_Int], by simp only [Tr.get_set, Nat.reduceEqDiff, ↓reduceIte, Int.cast_ofNat_Int], by simp only [Tr.get_set, Nat.reduceEqDiff, ↓reduceIte, Int.cast_ofNat_Int, g50], by simp only [Tr.get_set, Nat.reduceEqDiff, ↓reduceIte, Int.cast_ofNat_Int, g49], by simp only [Tr.get_set, Nat.reduceEqDiff, ↓reduceIte, Int.cast_ofNat_Int, g48], rfl, rfl⟩
    rintro m ts' s' ⟨i, rfl, hi, h88, h87, h86, h50, h49, h48, hpre2, rfl⟩ IH2
    by_cases hlt2 : i < x.keys.length
    · obtain ⟨b2, o2, vs2, lo2, ro2, z2, hidx, hg, hvj⟩ := kx.at_ i (by rw [List.length_map]; exact hlt2)
      rw [List.getElem_map] at hvj
      have htk2 : (x.keys.take (i + 1)).any (bad 255) = bad 255 x.keys[i] := by
        rw [List.take_succ_eq_append_getElem hlt2, List.any_append, hpre2]
        simp
      have hmem2 : x.keys[i] ∈ x.keys := List.getElem_mem hlt2
      generalize x.keys[i] = a at hvj htk2 hmem2
      have wi := succ_in (j := i) (by omega)
      cases c9 : bad 255 a
      · simp -implicitDefEqProofs only [go_sem, Wk_block, Wk_drawnC, reduceCtorEq, Nat.reduceEqDiff, Nat.reduceAdd, Nat.reduceLeDiff, Nat.reduceLT, Nat.reduceMul, Nat.reduceSub, ↓reduceIte, Int.reduceLT, Int.reduceLE, Int.reduceNeg, Int.reduceAdd, Int.reduceEq, Nat.reduceBneDiff, Nat.reduceBEq, Int.reduceToNat, Int.reduceMul, Int.reduceSub, Int.reduceBEq, Int.reduceBNe, Int.cast_ofNat_Int, Int.toNat_natCast_add_one, Nat.add_left_cancel_iff, Nat.left_eq_add, Nat.add_eq_left, Int.toNat_natCast, Nat.add_assoc, Int.ofNat_lt, Int.ofNat_le, Nat.lt_add_one_of_lt, Nat.lt_add_one, Nat.lt_add_right, Nat.lt_add_right_iff_pos, Nat.add_lt_add_iff_left, h88, h87, h86, hlt2, hidx, hg, hvj, Wl_eq (tiny_eq a _), c9, wi, Bool.not_true, Bool.not_false, ft, tf]
        refine IH2 (x.keys.length - (i + 1)) _ _ (by omega) ⟨i + 1, rfl, by omega, ?_, ?_, ?_, ?_, ?_, ?_, by rw [htk2, c9], rfl⟩
        · simp only [Tr.get_set, Nat.reduceEqDiff, ↓reduceIte, Int.cast_ofNat_Int]
        · simp only [go_sem, Wk_block, Wk_drawnC, reduceCtorEq, Nat.reduceEqDiff, Nat.reduceAdd, Nat.reduceLeDiff, Nat.reduceLT, Nat.reduceMul, Nat.reduceSub, ↓reduceIte, Int.reduceLT, Int.reduceLE, Int.reduceNeg, Int.reduceAdd, Int.reduceEq, Nat.reduceBneDiff, Nat.reduceBEq, Int.reduceToNat, Int.reduceMul, Int.reduceSub, Int.reduceBEq, Int.reduceBNe, Int.cast_ofNat_Int, Int.toNat_natCast_add_one, Nat.add_left_cancel_iff, Nat.left_eq_add, Nat.add_eq_left, Int.toNat_natCast, Nat.add_assoc, Int.ofNat_lt, Int.ofNat_le, h87]
        · simp only [go_sem, Wk_block, Wk_drawnC, reduceCtorEq, Nat.reduceEqDiff, Nat.reduceAdd, Nat.reduceLeDiff, Nat.reduceLT, Nat.reduceMul, Nat.reduceSub, ↓reduceIte, Int.reduceLT, Int.reduceLE, Int.reduceNeg, Int.reduceAdd, Int.reduceEq, Nat.reduceBneDiff, Nat.reduceBEq, Int.reduceToNat, Int.reduceMul, Int.reduceSub, Int.reduceBEq, Int.reduceBNe, Int.cast_ofNat_Int, Int.toNat_natCast_add_one, Nat.add_left_cancel_iff, Nat.left_eq_add, Nat.add_eq_left, Int.toNat_natCast, Nat.add_assoc, Int.ofNat_lt, Int.ofNat_le, h86]
        · simp only [go_sem, Wk_block, Wk_drawnC, reduceCtorEq, Nat.reduceEqDiff, Nat.reduceAdd, Nat.reduceLeDiff, Nat.reduceLT, Nat.reduceMul, Nat.reduceSub, ↓reduceIte, Int.reduceLT, Int.reduceLE, Int.reduceNeg, Int.reduceAdd, Int.reduceEq, Nat.reduceBneDiff, Nat.reduceBEq, Int.reduceToNat, Int.reduceMul, Int.reduceSub, Int.reduceBEq, Int.reduceBNe, Int.cast_ofNat_Int, Int.toNat_natCast_add_one, Nat.add_left_cancel_iff, Nat.left_eq_add, Nat.add_eq_left, Int.toNat_natCast, Nat.add_assoc, Int.ofNat_lt, Int.ofNat_le, h50]
        · simp only [go_sem, Wk_block, Wk_drawnC, reduceCtorEq, Nat.reduceEqDiff, Nat.reduceAdd, Nat.reduceLeDiff, Nat.reduceLT, Nat.reduceMul, Nat.reduceSub, ↓reduceIte, Int.reduceLT, Int.reduceLE, Int.reduceNeg, Int.reduceAdd, Int.reduceEq, Nat.reduceBneDiff, Nat.reduceBEq, Int.reduceToNat, Int.reduceMul, Int.reduceSub, Int.reduceBEq, Int.reduceBNe, Int.cast_ofNat_Int, Int.toNat_natCast_add_one, Nat.add_left_cancel_iff, Nat.left_eq_add, Nat.add_eq_left, Int.toNat_natCast, Nat.add_assoc, Int.ofNat_lt, Int.ofNat_le, h49]
        · simp only [go_sem, Wk_block, Wk_drawnC, reduceCtorEq, Nat.reduceEqDiff, Nat.reduceAdd, Nat.reduceLeDiff, Nat.reduceLT, Nat.reduceMul, Nat.reduceSub, ↓reduceIte, Int.reduceLT, Int.reduceLE, Int.reduceNeg, Int.reduceAdd, Int.reduceEq, Nat.reduceBneDiff, Nat.reduceBEq, Int.reduceToNat, Int.reduceMul, Int.reduceSub, Int.reduceBEq, Int.reduceBNe, Int.cast_ofNat_Int, Int.toNat_natCast_add_one, Nat.add_left_cancel_iff, Nat.left_eq_add, Nat.add_eq_left, Int.toNat_natCast, Nat.add_assoc, Int.ofNat_lt, Int.ofNat_le, h48]
      · have hb : x.keys.any (bad 255) = true := List.any_eq_true.2 ⟨a, hmem2, c9⟩
        simp -implicitDefEqProofs only [go_sem, Wk_block, Wk_drawnC, reduceCtorEq, Nat.reduceEqDiff, Nat.reduceAdd, Nat.reduceLeDiff, Nat.reduceLT, Nat.reduceMul, Nat.reduceSub, ↓reduceIte, Int.reduceLT, Int.reduceLE, Int.reduceNeg, Int.reduceAdd, Int.reduceEq, Nat.reduceBneDiff, Nat.reduceBEq, Int.reduceToNat, Int.reduceMul, Int.reduceSub, Int.reduceBEq, Int.reduceBNe, Int.cast_ofNat_Int, Int.toNat_natCast_add_one, Nat.add_left_cancel_iff, Nat.left_eq_add, Nat.add_eq_left, Int.toNat_natCast, Nat.add_assoc, Int.ofNat_lt, Int.ofNat_le, Nat.lt_add_one_of_lt, Nat.lt_add_one, Nat.lt_add_right, Nat.lt_add_right_iff_pos, Nat.add_lt_add_iff_left, h88, h87, h86, hlt2, hidx, hg, hvj, Wl_eq (tiny_eq a _), c9, wi, Bool.not_true, Bool.not_false, ft, tf]
        exact ⟨by rw [hno1 (by simp only [plainOp, listsOp, hb, Bool.not_true, Bool.and_false, Bool.false_and])], n2, m2⟩
    · have : i = x.keys.length := by omega
      subst this
      rw [List.take_length] at hpre2
      have hlf : decide ((x.keys.length : Int) < (x.keys.length : Int)) = false := decide_eq_false (by omega)
      have hpl : plainOp x = true := by
        simp at c5 c6 c7 c8
        simp [plainOp, listsOp, c3, c4, hpre2]
        omega
      simp -implicitDefEqProofs only [go_sem, Wk_block, Wk_drawnC, reduceCtorEq, Nat.reduceEqDiff, Nat.reduceAdd, Nat.reduceLeDiff, Nat.reduceLT, Nat.reduceMul, Nat.reduceSub, ↓reduceIte, Int.reduceLT, Int.reduceLE, Int.reduceNeg, Int.reduceAdd, Int.reduceEq, Nat.reduceBneDiff, Nat.reduceBEq, Int.reduceToNat, Int.reduceMul, Int.reduceSub, Int.reduceBEq, Int.reduceBNe, Int.cast_ofNat_Int, Int.toNat_natCast_add_one, Nat.add_left_cancel_iff, Nat.left_eq_add, Nat.add_eq_left, Int.toNat_natCast, Nat.add_assoc, Int.ofNat_lt, Int.ofNat_le, Nat.lt_add_one_of_lt, Nat.lt_add_one, Nat.lt_add_right, Nat.lt_add_right_iff_pos, Nat.add_lt_add_iff_left, h88, h87, hlf, hlt2, h50, wj]
      refine IH (l.length - (j + 1)) _ _ (by omega) ⟨j + 1, rfl, by omega, ?_, ?_, ?_, by rw [htk, hpl]; rfl, n2, m2⟩
      · simp only [Tr.get_set, Nat.reduceEqDiff, ↓reduceIte, Int.cast_ofNat_Int]
      · simp only [go_sem, Wk_block, Wk_drawnC, reduceCtorEq, Nat.reduceEqDiff, Nat.reduceAdd, Nat.reduceLeDiff, Nat.reduceLT, Nat.reduceMul, Nat.reduceSub, ↓reduceIte, Int.reduceLT, Int.reduceLE, Int.reduceNeg, Int.reduceAdd, Int.reduceEq, Nat.reduceBneDiff, Nat.reduceBEq, Int.reduceToNat, Int.reduceMul, Int.reduceSub, Int.reduceBEq, Int.reduceBNe, Int.cast_ofNat_Int, Int.toNat_natCast_add_one, Nat.add_left_cancel_iff, Nat.left_eq_add, Nat.add_eq_left, Int.toNat_natCast, Nat.add_assoc, Int.ofNat_lt, Int.ofNat_le, h49]
      · simp only [go_sem, Wk_block, Wk_drawnC, reduceCtorEq, Nat.reduceEqDiff, Nat.reduceAdd, Nat.reduceLeDiff, Nat.reduceLT, Nat.reduceMul, Nat.reduceSub, ↓reduceIte, Int.reduceLT, Int.reduceLE, Int.reduceNeg, Int.reduceAdd, Int.reduceEq, Nat.reduceBneDiff, Nat.reduceBEq, Int.reduceToNat, Int.reduceMul, Int.reduceSub, Int.reduceBEq, Int.reduceBNe, Int.cast_ofNat_Int, Int.toNat_natCast_add_one, Nat.add_left_cancel_iff, Nat.left_eq_add, Nat.add_eq_left, Int.toNat_natCast, Nat.add_assoc, Int.ofNat_lt, Int.ofNat_le, h48]
  · have : j = l.length := by omega
    subst this
    rw [List.take_length] at hpre
    have hlf : decide ((l.length : Int) < (l.length : Int)) = false := decide_eq_false (by omega)
    simp -implicitDefEqProofs only [go_sem, Wk_block, Wk_drawnC, reduceCtorEq, Nat.reduceEqDiff, Nat.reduceAdd, Nat.reduceLeDiff, Nat.reduceLT, Nat.reduceMul, Nat.reduceSub, ↓reduceIte, Int.reduceLT, Int.reduceLE, Int.reduceNeg, Int.reduceAdd, Int.reduceEq, Nat.reduceBneDiff, Nat.reduceBEq, Int.reduceToNat, Int.reduceMul, Int.reduceSub, Int.reduceBEq, Int.reduceBNe, Int.cast_ofNat_Int, Int.toNat_natCast_add_one, Nat.add_left_cancel_iff, Nat.left_eq_add, Nat.add_eq_left, Int.toNat_natCast, Nat.add_assoc, Int.ofNat_lt, Int.ofNat_le, Nat.lt_add_one_of_lt, Nat.lt_add_one, Nat.lt_add_right, Nat.lt_add_right_iff_pos, Nat.add_lt_add_iff_left, g50, g49, hlf, hlt, g48]
    exact ⟨by simp [plainS, c1, hn, p1, p2, p3, p4, p5, hpre], f, dd⟩
end Go.Proofs.YteiiblpnegjjlaaGreat.Lw
namespace Go.Proofs.YteiiblpnegjjlaaGreat.Lw
open D
set_option linter.unusedSimpArgs false
set_option linter.unusedVariables false
set_option maxRecDepth 10000

/-- What an op says. -/
structure Con where
  kind : Int
  node : Int
  key : Int
  at_ : Int
  keys : List Int
  blk : List Nat
  e : Nat
  q : Nat
  mask : Nat
  keep : List Nat
def rightC (x : Con) : Bool := decide (x.kind ≥ 0) && decide (x.kind ≤ 18) && decide (x.node ≥ 0) && decide (x.node < 2)
def listsC (x : Con) : Bool := decide (x.keys.length ≤ 64) && !x.keys.any (bad 255) && decide (x.keep.length ≤ 255)
def plainC (x : Con) : Bool := rightC x && listsC x && !bad 255 x.key && decide (x.at_ ≥ -1) && decide (x.at_ < 65535)
def plainA (c : Cfg) (l : List Con) : Bool := !(decide (400 < l.length) || l.any (fun x => !plainC x)) && !c.nums.any (bad 65535)

/-- A number's bytes. -/
def leb : Nat → Nat → List Nat
  | 0, _ => []
  | k + 1, n => n % 256 :: leb k (n / 256)
def lebs (w : Nat) (ns : List Nat) : List Nat := ns.flatMap (leb w)
theorem leb_len : ∀ (k n : Nat), (leb k n).length = k
  | 0, _ => rfl
  | k + 1, n => by rw [leb, List.length_cons, leb_len k]
theorem leb_lt : ∀ (k n : Nat), ∀ c ∈ leb k n, c < 256
  | 0, _, c, h => by simp [leb] at h
  | k + 1, n, c, h => by
    rcases List.mem_cons.1 h with rfl | h
    · omega
    · exact leb_lt k _ c h
theorem leN_leb : ∀ (k n : Nat), n < 256 ^ k → leN (leb k n) = n
  | 0, n, h => by simp [leb, leN] at *; omega
  | k + 1, n, h => by
    rw [leb, leN, leN_leb k (n / 256) (by rw [Nat.pow_succ] at h; omega)]
    omega
theorem lebs_cons (w n : Nat) (ns : List Nat) : lebs w (n :: ns) = leb w n ++ lebs w ns := by rfl
theorem lebs_append (w : Nat) (a b : List Nat) : lebs w (a ++ b) = lebs w a ++ lebs w b := by simp [lebs]
theorem lebs_len (w : Nat) (ns : List Nat) : (lebs w ns).length = ns.length * w := by
  induction ns with
  | nil => simp [lebs]
  | cons a l ih => rw [lebs_cons, List.length_append, ih, leb_len, List.length_cons, Nat.succ_mul]; omega
theorem lebs_lt (w : Nat) (ns : List Nat) : ∀ c ∈ lebs w ns, c < 256 := by
  intro c h
  obtain ⟨n, _, h⟩ := List.mem_flatMap.1 h
  exact leb_lt w n c h

/-- A script's bytes. -/
def encHead (c : Cfg) (n : Nat) : List Nat := lebs 2 [c.pages.toNat] ++ lebs 4 [c.every, c.span] ++ lebs 2 [c.last.toNat, c.spans.toNat, c.chunk.toNat, c.retry.toNat, n]
def encC (x : Con) : List Nat := lebs 1 [x.kind.toNat, x.node.toNat, x.key.toNat, x.keys.length] ++ lebs 1 (x.keys.map Int.toNat) ++ x.blk ++ lebs 4 [x.e, x.q] ++ lebs 2 [(x.at_ + 1).toNat] ++ lebs 1 [x.mask, x.keep.length] ++ x.keep
def encA (c : Cfg) (l : List Con) : List Nat := encHead c l.length ++ l.flatMap encC

/-- A reader of bytes. -/
abbrev Rr := List Nat × Bool
def rTake (r : Rr) (n : Nat) : Rr × List Nat := if r.2 || decide (r.1.length < n) then ((r.1, true), []) else ((r.1.drop n, false), r.1.take n)
def rNum (r : Rr) (w : Nat) : Rr × Nat := ((rTake r w).1, leN (rTake r w).2)
def rNums : Nat → Rr → Rr × List Nat
  | 0, r => (r, [])
  | k + 1, r => ((rNum (rNums k r).1 1).1, (rNums k r).2 ++ [(rNum (rNums k r).1 1).2])
def pad16 (b : List Nat) : List Nat := if b = [] then List.replicate 16 0 else b
def rOp (r : Rr) : Rr × Con :=
  let a := rNum r 1
  let b := rNum a.1 1
  let c := rNum b.1 1
  let m := rNum c.1 1
  let ks := rNums m.2 m.1
  let bl := rTake ks.1 16
  let e := rNum bl.1 4
  let q := rNum e.1 4
  let t := rNum q.1 2
  let mk := rNum t.1 1
  let kn := rNum mk.1 1
  let kp := rTake kn.1 kn.2
  (kp.1, ⟨a.2, b.2, c.2, (t.2 : Int) - 1, ks.2.map (fun n : Nat => (n : Int)), pad16 bl.2, e.2, q.2, mk.2, kp.2⟩)
def rOps : Nat → Rr → List Con
  | 0, _ => []
  | n + 1, r => (rOp r).2 :: (if (rOp r).1.2 then [] else rOps n (rOp r).1)
def rHead (r : Rr) : Rr × Cfg :=
  let a := rNum r 2
  let b := rNum a.1 4
  let c := rNum b.1 4
  let d := rNum c.1 2
  let e := rNum d.1 2
  let f := rNum e.1 2
  let g := rNum f.1 2
  (g.1, ⟨a.2, b.2, c.2, d.2, e.2, f.2, g.2⟩)
def rMany (b : List Nat) : Rr × Nat := rNum (rHead (b, false)).1 2
def parse (b : List Nat) : Cfg × List Con := ((rHead (b, false)).2, rOps (min (rMany b).2 400) (rMany b).1)
def okB (b : List Nat) : Bool := plainA (parse b).1 (parse b).2 && (encA (parse b).1 (parse b).2 == b)

/-! ### There and back -/
theorem rTake_app (a R : List Nat) : rTake (a ++ R, false) a.length = ((R, false), a) := by
  unfold rTake
  simp
theorem rNum_leb {w n : Nat} (h : n < 256 ^ w) (R : List Nat) : rNum (leb w n ++ R, false) w = ((R, false), n) := by
  have := rTake_app (leb w n) R
  rw [leb_len] at this
  unfold rNum
  rw [this, leN_leb w n h]
theorem rNums_lebs (ns R : List Nat) (h : ∀ n ∈ ns, n < 256) : ∀ k, k ≤ ns.length → rNums k (lebs 1 ns ++ R, false) = ((lebs 1 (ns.drop k) ++ R, false), ns.take k)
  | 0, _ => by simp [rNums]
  | k + 1, hk => by
    have ih := rNums_lebs ns R h k (by omega)
    unfold rNums
    rw [ih]
    have hd : ns.drop k = ns[k] :: ns.drop (k + 1) := List.drop_eq_getElem_cons (by omega)
    have hn := rNum_leb (w := 1) (n := ns[k]) (by simpa using h _ (List.getElem_mem (by omega))) (lebs 1 (ns.drop (k + 1)) ++ R)
    rw [hd, lebs_cons, List.append_assoc]
    dsimp only
    rw [hn]
    rw [List.take_succ_eq_append_getElem (by omega)]
/-- What an op in bytes holds to. -/
structure ConOk (x : Con) : Prop where
  blen : x.blk.length = 16
  elt : x.e < 4294967296
  qlt : x.q < 4294967296
  mlt : x.mask < 256
theorem bad_of {most a : Int} (h : bad most a = false) : 0 ≤ a ∧ a ≤ most := by
  unfold bad at h
  simp at h
  omega
theorem rOp_enc {x : Con} (hx : ConOk x) (hp : plainC x = true) (R : List Nat) : rOp (encC x ++ R, false) = ((R, false), x) := by
  unfold plainC rightC listsC at hp
  simp only [Bool.and_eq_true, Bool.not_eq_true', decide_eq_true_eq] at hp
  obtain ⟨⟨⟨⟨⟨⟨⟨h1, h2⟩, h3⟩, h4⟩, ⟨⟨h5, h6⟩, h7⟩⟩, h8⟩, h9⟩, h10⟩ := hp
  have h8' := bad_of h8
  have hks : ∀ k ∈ x.keys, 0 ≤ k ∧ k ≤ 255 := fun k hk => bad_of (by
    have := List.any_eq_false.1 h6 k hk
    simpa using this)
  have hkl : (x.keys.map Int.toNat).length = x.keys.length := by simp
  have hkm : (x.keys.map Int.toNat).map (fun n : Nat => (n : Int)) = x.keys := by
    rw [List.map_map]
    conv => rhs; rw [← List.map_id x.keys]
    refine List.map_congr_left fun k hk => ?_
    have := hks k hk
    show ((k.toNat : Nat) : Int) = k
    omega
  have e1 : encC x ++ R = leb 1 x.kind.toNat ++ (leb 1 x.node.toNat ++ (leb 1 x.key.toNat ++ (leb 1 x.keys.length ++ (lebs 1 (x.keys.map Int.toNat) ++ (x.blk ++ (leb 4 x.e ++ (leb 4 x.q ++ (leb 2 (x.at_ + 1).toNat ++ (leb 1 x.mask ++ (leb 1 x.keep.length ++ (x.keep ++ R))))))))))) := by
    unfold encC
    simp only [lebs_cons, List.append_assoc]
    simp [lebs]
  have hb := rTake_app x.blk (leb 4 x.e ++ (leb 4 x.q ++ (leb 2 (x.at_ + 1).toNat ++ (leb 1 x.mask ++ (leb 1 x.keep.length ++ (x.keep ++ R))))))
  rw [hx.blen] at hb
  have hk := rNums_lebs (x.keys.map Int.toNat) (x.blk ++ (leb 4 x.e ++ (leb 4 x.q ++ (leb 2 (x.at_ + 1).toNat ++ (leb 1 x.mask ++ (leb 1 x.keep.length ++ (x.keep ++ R))))))) (by
    intro n hn
    obtain ⟨k, hk, rfl⟩ := List.mem_map.1 hn
    have := hks k hk
    omega) x.keys.length (by omega)
  rw [List.drop_of_length_le (by omega), List.take_of_length_le (by omega)] at hk
  unfold rOp
  rw [e1]
  dsimp only
  simp only [rNum_leb (w := 1) (n := x.kind.toNat) (by omega), rNum_leb (w := 1) (n := x.node.toNat) (by omega), rNum_leb (w := 1) (n := x.key.toNat) (by omega), rNum_leb (w := 1) (n := x.keys.length) (by omega), hk]
  simp only [lebs, List.flatMap_nil, List.nil_append, hb, rNum_leb (w := 4) (n := x.e) hx.elt, rNum_leb (w := 4) (n := x.q) hx.qlt, rNum_leb (w := 2) (n := (x.at_ + 1).toNat) (by omega), rNum_leb (w := 1) (n := x.mask) (by have := hx.mlt; omega),
    rNum_leb (w := 1) (n := x.keep.length) (by omega), rTake_app x.keep R, hkm]
  have hpad : pad16 x.blk = x.blk := by
    unfold pad16
    rw [if_neg]
    intro h
    have := hx.blen
    rw [h] at this
    cases this
  rw [hpad]
  congr 1
  obtain ⟨kind, node, key, at_, keys, blk, e, q, mask, keep⟩ := x
  simp only at h1 h3 h8' h9
  simp only [Con.mk.injEq, and_true]
  omega
theorem rOps_enc : ∀ (l : List Con) (R : List Nat), (∀ x ∈ l, ConOk x ∧ plainC x = true) → rOps l.length (l.flatMap encC ++ R, false) = l
  | [], _, _ => rfl
  | x :: l, R, h => by
    obtain ⟨h1, h2⟩ := h x (List.mem_cons_self ..)
    rw [List.flatMap_cons, List.append_assoc, List.length_cons, rOps, rOp_enc h1 h2]
    dsimp only
    rw [rOps_enc l R fun y hy => h y (List.mem_cons_of_mem _ hy)]
    rfl
structure CfgOk (c : Cfg) : Prop where
  every : c.every < 4294967296
  span : c.span < 4294967296
theorem parse_enc {c : Cfg} {l : List Con} (hc : CfgOk c) (hl : ∀ x ∈ l, ConOk x) (hp : plainA c l = true) : parse (encA c l) = (c, l) := by
  unfold plainA at hp
  rw [Bool.and_eq_true, Bool.not_eq_true', Bool.not_eq_true', Bool.or_eq_false_iff] at hp
  obtain ⟨⟨h1, h2⟩, h3⟩ := hp
  have h1 : l.length ≤ 400 := by simpa using h1
  have hl2 : ∀ x ∈ l, ConOk x ∧ plainC x = true := fun x hx => ⟨hl x hx, by
    have := List.any_eq_false.1 h2 x hx
    simpa using this⟩
  have hn : ∀ n ∈ c.nums, 0 ≤ n ∧ n ≤ 65535 := fun n hn => bad_of (by
    have := List.any_eq_false.1 h3 n hn
    simpa using this)
  have n1 := hn c.pages (by simp [Cfg.nums])
  have n2 := hn c.last (by simp [Cfg.nums])
  have n3 := hn c.spans (by simp [Cfg.nums])
  have n4 := hn c.chunk (by simp [Cfg.nums])
  have n5 := hn c.retry (by simp [Cfg.nums])
  have e1 : encA c l = leb 2 c.pages.toNat ++ (leb 4 c.every ++ (leb 4 c.span ++ (leb 2 c.last.toNat ++ (leb 2 c.spans.toNat ++ (leb 2 c.chunk.toNat ++ (leb 2 c.retry.toNat ++ (leb 2 l.length ++ (l.flatMap encC ++ [])))))))) := by
    unfold encA encHead
    simp only [lebs_cons, List.append_assoc]
    simp [lebs]
  have hh : rHead (encA c l, false) = ((leb 2 l.length ++ (l.flatMap encC ++ []), false), c) := by
    unfold rHead
    rw [e1]
    dsimp only
    simp only [rNum_leb (w := 2) (n := c.pages.toNat) (by omega), rNum_leb (w := 4) (n := c.every) hc.every, rNum_leb (w := 4) (n := c.span) hc.span, rNum_leb (w := 2) (n := c.last.toNat) (by omega), rNum_leb (w := 2) (n := c.spans.toNat) (by omega),
      rNum_leb (w := 2) (n := c.chunk.toNat) (by omega), rNum_leb (w := 2) (n := c.retry.toNat) (by omega)]
    congr 1
    obtain ⟨pages, every, span, last, spans, chunk, retry⟩ := c
    simp only at n1 n2 n3 n4 n5
    simp only [Cfg.mk.injEq, true_and]
    omega
  have hm : rMany (encA c l) = ((l.flatMap encC ++ [], false), l.length) := by
    unfold rMany
    rw [hh]
    dsimp only
    rw [rNum_leb (w := 2) (n := l.length) (by omega)]
  unfold parse
  rw [hh, hm]
  dsimp only
  rw [Nat.min_eq_left h1, rOps_enc l [] hl2]

/-! ### What was read holds to it -/
theorem rNum_lt {r : Rr} {w : Nat} (h : ∀ c ∈ r.1, c < 256) : (rNum r w).2 < 256 ^ w ∧ ∀ c ∈ (rNum r w).1.1, c < 256 := by
  have key : ∀ L : List Nat, (∀ c ∈ L, c < 256) → leN L < 256 ^ L.length := by
    intro L
    induction L with
    | nil => intro _; simp [leN]
    | cons c r ih =>
      intro h
      have h1 := ih fun x hx => h x (List.mem_cons_of_mem _ hx)
      have h2 := h c (List.mem_cons_self ..)
      rw [List.length_cons, Nat.pow_succ, leN]
      omega
  unfold rNum rTake
  split
  · exact ⟨by simp [leN]; exact Nat.pow_pos (by omega), h⟩
  · rename_i hb
    simp only [Bool.or_eq_true, decide_eq_true_eq, not_or] at hb
    have := key (r.1.take w) fun c hc => h c (List.mem_of_mem_take hc)
    rw [List.length_take, Nat.min_eq_left (by omega)] at this
    exact ⟨this, fun c hc => h c (List.mem_of_mem_drop hc)⟩
theorem rTake_lt {r : Rr} {w : Nat} (h : ∀ c ∈ r.1, c < 256) : (∀ c ∈ (rTake r w).2, c < 256) ∧ (∀ c ∈ (rTake r w).1.1, c < 256) ∧ ((rTake r w).2 = [] ∨ (rTake r w).2.length = w) := by
  unfold rTake
  split
  · exact ⟨by simp, h, .inl rfl⟩
  · rename_i hb
    simp only [Bool.or_eq_true, decide_eq_true_eq, not_or] at hb
    exact ⟨fun c hc => h c (List.mem_of_mem_take hc), fun c hc => h c (List.mem_of_mem_drop hc), .inr (by simp; omega)⟩
theorem rNums_lt {r : Rr} (h : ∀ c ∈ r.1, c < 256) : ∀ k, (∀ n ∈ (rNums k r).2, n < 256) ∧ (∀ c ∈ (rNums k r).1.1, c < 256) ∧ (rNums k r).2.length = k
  | 0 => ⟨by simp [rNums], h, rfl⟩
  | k + 1 => by
    obtain ⟨h1, h2, h3⟩ := rNums_lt h k
    obtain ⟨h4, h5⟩ := rNum_lt (w := 1) h2
    refine ⟨fun n hn => ?_, h5, ?_⟩
    · rw [rNums] at hn
      rcases List.mem_append.1 hn with hn | hn
      · exact h1 n hn
      · rw [List.mem_singleton.1 hn]; simpa using h4
    · rw [rNums, List.length_append, h3]; rfl
/-- What an op that was read holds to. -/
structure ConRd (x : Con) : Prop extends ConOk x where
  blt : ∀ c ∈ x.blk, c < 256
  klt : ∀ c ∈ x.keep, c < 256
  kl : x.keep.length < 256
  ksl : x.keys.length < 256
  ks : ∀ k ∈ x.keys, 0 ≤ k ∧ k < 256
  kind0 : 0 ≤ x.kind ∧ x.kind < 256
  node0 : 0 ≤ x.node ∧ x.node < 256
  key0 : 0 ≤ x.key ∧ x.key < 256
  at0 : -1 ≤ x.at_ ∧ x.at_ < 65535
theorem rOp_ok {r : Rr} (h : ∀ c ∈ r.1, c < 256) : ConRd (rOp r).2 ∧ ∀ c ∈ (rOp r).1.1, c < 256 := by
  unfold rOp
  dsimp only
  obtain ⟨a1, a2⟩ := rNum_lt (w := 1) h
  obtain ⟨b1, b2⟩ := rNum_lt (w := 1) a2
  obtain ⟨c1, c2⟩ := rNum_lt (w := 1) b2
  obtain ⟨d1, d2⟩ := rNum_lt (w := 1) c2
  generalize rNum (rNum (rNum (rNum r 1).1 1).1 1).1 1 = m at d1 d2 ⊢
  obtain ⟨k1, k2, k3⟩ := rNums_lt d2 m.2
  obtain ⟨l1, l2, l3⟩ := rTake_lt (w := 16) k2
  obtain ⟨e1, e2⟩ := rNum_lt (w := 4) l2
  obtain ⟨q1, q2⟩ := rNum_lt (w := 4) e2
  obtain ⟨t1, t2⟩ := rNum_lt (w := 2) q2
  obtain ⟨m1, m2⟩ := rNum_lt (w := 1) t2
  obtain ⟨n1, n2⟩ := rNum_lt (w := 1) m2
  generalize rNum (rNum (rNum (rNum (rNum (rTake (rNums m.2 m.1).1 16).1 4).1 4).1 2).1 1).1 1 = kn at n1 n2 ⊢
  obtain ⟨p1, p2, p3⟩ := rTake_lt (w := kn.2) n2
  refine ⟨⟨⟨?_, ?_, ?_, ?_⟩, ?_, ?_, ?_, ?_, ?_, ?_, ?_, ?_, ?_⟩, p2⟩
  · show (pad16 _).length = 16
    unfold pad16
    split
    · simp
    · rename_i hne
      rcases l3 with l3 | l3
      · exact absurd l3 hne
      · exact l3
  · exact e1
  · exact q1
  · simpa using m1
  · show ∀ c ∈ pad16 _, c < 256
    unfold pad16
    split
    · intro c hc
      rw [(List.mem_replicate.1 hc).2]
      omega
    · exact l1
  · exact p1
  · show (rTake kn.1 kn.2).2.length < 256
    rcases p3 with p3 | p3
    · rw [p3]; simp
    · rw [p3]; simpa using n1
  · show (List.map _ _).length < 256
    rw [List.length_map, k3]; simpa using d1
  · intro k hk
    obtain ⟨n, hn, rfl⟩ := List.mem_map.1 hk
    have := k1 n hn
    omega
  · show (0 : Int) ≤ ((rNum r 1).2 : Int) ∧ ((rNum r 1).2 : Int) < 256
    simp at a1
    omega
  · show (0 : Int) ≤ ((rNum (rNum r 1).1 1).2 : Int) ∧ ((rNum (rNum r 1).1 1).2 : Int) < 256
    simp at b1
    omega
  · show (0 : Int) ≤ ((rNum (rNum (rNum r 1).1 1).1 1).2 : Int) ∧ ((rNum (rNum (rNum r 1).1 1).1 1).2 : Int) < 256
    simp at c1
    omega
  · simp at t1
    constructor <;> (dsimp only; omega)
theorem rOps_ok : ∀ (n : Nat) (r : Rr), (∀ c ∈ r.1, c < 256) → ∀ x ∈ rOps n r, ConRd x
  | 0, _, _, x, hx => by simp [rOps] at hx
  | n + 1, r, h, x, hx => by
    obtain ⟨h1, h2⟩ := rOp_ok h
    rw [rOps] at hx
    rcases List.mem_cons.1 hx with rfl | hx
    · exact h1
    · split at hx
      · simp at hx
      · exact rOps_ok n _ h2 x hx
theorem rHead_ok {r : Rr} (h : ∀ c ∈ r.1, c < 256) : CfgOk (rHead r).2 ∧ (∀ n ∈ (rHead r).2.nums, 0 ≤ n ∧ n < 65536) ∧ ∀ c ∈ (rHead r).1.1, c < 256 := by
  unfold rHead
  dsimp only
  obtain ⟨a1, a2⟩ := rNum_lt (w := 2) h
  obtain ⟨b1, b2⟩ := rNum_lt (w := 4) a2
  obtain ⟨c1, c2⟩ := rNum_lt (w := 4) b2
  obtain ⟨d1, d2⟩ := rNum_lt (w := 2) c2
  obtain ⟨e1, e2⟩ := rNum_lt (w := 2) d2
  obtain ⟨f1, f2⟩ := rNum_lt (w := 2) e2
  obtain ⟨g1, g2⟩ := rNum_lt (w := 2) f2
  refine ⟨⟨b1, c1⟩, fun n hn => ?_, g2⟩
  simp only [Cfg.nums, List.mem_cons, List.not_mem_nil, or_false] at hn
  rcases hn with rfl | rfl | rfl | rfl | rfl <;> omega
end Go.Proofs.YteiiblpnegjjlaaGreat.Lw
namespace Go.Proofs.YteiiblpnegjjlaaGreat.Lw
open D
set_option linter.unusedSimpArgs false
set_option linter.unusedVariables false
set_option maxRecDepth 10000

theorem sumStep_stp (args : List AV) (s : St) (v : AV) (s' : St) (h : sumStep args s = some (v, s')) : Stp s s' := by
  unfold sumStep at h
  repeat' split at h
  all_goals first
    | (cases h; done)
    | (cases h; exact .refl _)
theorem alive_stp (args : List AV) (s : St) (v : AV) (s' : St) (h : aliveSum args s = some (v, s')) : Stp s s' := by
  unfold aliveSum at h
  repeat' split at h
  all_goals first
    | (cases h; done)
    | (cases h; exact .refl _)
theorem mm_st : SumsStp mm.SM := sumsStp_add alive_stp (sumsStp_add sumStep_stp noSums_stp)
theorem Stp.domS {s s' : St} (h : Stp s s') (hd : Dom s) : Dom s' := h.dom hd

theorem leB_leb : ∀ k n, leB k n = (leb k n).map u8
  | 0, _ => rfl
  | k + 1, n => by rw [leB, leb, leB_leb k (n / 256), List.map_cons]; rfl
theorem putL_lebs (w : Nat) (ns : List Nat) : putL w ns = (lebs w ns).map u8 := by
  unfold putL lebs
  rw [List.map_flatMap]
  congr 1
  funext n
  exact leB_leb w n
theorem blen_w {w n : Nat} (hw : w = 1 ∨ w = 2 ∨ w = 4) (h : n < 256 ^ w) : n < 18446744073709551616 ∧ blen n ≤ 8 * w := by
  have h4 : n < 4294967296 := by
    rcases hw with rfl | rfl | rfl <;> omega
  refine ⟨by omega, ?_⟩
  have nb : ∀ m, n < m → Nat.ble m n = false := fun m hm => by
    cases hb : Nat.ble m n with
    | false => rfl
    | true => have := Nat.le_of_ble_eq_true hb; omega
  have b8 := blen8_le
  have e0 : Nat.ble 4294967296 n = false := nb _ h4
  have e1 : sh1 n = n := by unfold sh1; rw [e0]; rfl
  unfold blen
  rw [e0, e1]
  rcases hw with rfl | rfl | rfl
  · have e2 : Nat.ble 65536 n = false := nb _ (by omega)
    have e3 : sh2 n = n := by unfold sh2; rw [e2]; rfl
    have e4 : Nat.ble 256 n = false := nb _ (by omega)
    have e5 : sh3 n = n := by unfold sh3; rw [e4]; rfl
    rw [e2, e3, e4, e5]
    have := b8 n
    simp
    omega
  · have e2 : Nat.ble 65536 n = false := nb _ (by omega)
    have e3 : sh2 n = n := by unfold sh2; rw [e2]; rfl
    rw [e2, e3]
    have := b8 (sh3 n)
    cases Nat.ble 256 n <;> simp <;> omega
  · have := b8 (sh3 (sh2 n))
    cases Nat.ble 65536 n <;> cases Nat.ble 256 (sh2 n) <;> simp <;> omega

/-! ### Rows of bytes that grow -/
theorem OutB.le {s : St} {N N' : Nat} {w : AV} {L : List AV} (h : OutB s N w L) (k : N' ≤ N) : OutB s N' w L := by
  rcases h with h | ⟨p, h1, h2, h3, h4⟩ | ⟨p, h1, h2, h3, h4⟩
  · exact .inl h
  · exact .inr (.inl ⟨p, h1, h2, by omega, h4⟩)
  · exact .inr (.inr ⟨p, h1, h2, by omega, h4⟩)
theorem OutB.put {s : St} {N q : Nat} {w : AV} {L : List AV} (h : OutB s N w L) (hq : q < N) (o : AObj) : OutB (s.put q o) N w L := by
  rcases h with h | ⟨p, h1, h2, h3, h4, h5⟩ | ⟨p, h1, h2, h3, h4, h5⟩
  · exact .inl h
  · exact .inr (.inl ⟨p, h1, h2, h3, h4, by rw [St.get_put, if_neg (by omega)]; exact h5⟩)
  · exact .inr (.inr ⟨p, h1, h2, h3, h4, by rw [St.get_put, if_neg (by omega)]; exact h5⟩)
theorem OutB.int {s : St} {N : Nat} {L : List AV} {k : IntKind} {n : Int} (h : OutB s N (.int k n) L) : False := by
  rcases h with ⟨h, _⟩ | ⟨p, h, _⟩ | ⟨p, h, _⟩ <;> cases h
theorem OutB.frx {s s' : St} {N : Nat} {w : AV} {L : List AV} (h : OutB s N w L) {q : Nat} (hq : q < N) (f : FrX q s s') : OutB s' N w L := by
  rcases h with h | ⟨p, h1, h2, h3, h4, h5⟩ | ⟨p, h1, h2, h3, h4, h5⟩
  · exact .inl h
  · exact .inr (.inl ⟨p, h1, h2, h3, Nat.lt_of_lt_of_le h4 f.le, (f.get p h4 (by omega)).trans h5⟩)
  · exact .inr (.inr ⟨p, h1, h2, h3, Nat.lt_of_lt_of_le h4 f.le, (f.get p h4 (by omega)).trans h5⟩)
theorem allCell_u8 : ∀ M : List Nat, allCell (M.map u8) = true
  | [] => rfl
  | c :: M => by simp [allCell, allCell_u8 M, u8, AV.cell]
theorem OutB.cloned {s : St} {N : Nat} {w : AV} {L : List AV} (h : OutB s N w L) (hl : L.length < 100000000) : cloned s w = some L := by
  rcases h with ⟨rfl, rfl⟩ | ⟨p, rfl, rfl, h2, h3, h4⟩ | ⟨p, rfl, h1, h2, h3, h4⟩
  · rfl
  · unfold Lw.cloned
    have : loadA s p 0 0 = some [] := by unfold loadA; rw [h4]; simp
    simp [this]
  · unfold Lw.cloned
    have : loadA s p 0 L.length = some L := by unfold loadA; rw [h4]; simp
    simp [this, hl]
theorem OutB.app {s : St} {N : Nat} {w : AV} {L : List AV} (h : OutB s N w L) (hN : N ≤ s.next) (M : List Nat) (hl : L.length + M.length < 1000000000) :
    ∃ w' s', appendA 1 1 s w M.length (M.map u8) = some (w', s') ∧ OutB s' N w' (L ++ M.map u8) ∧ s.next ≤ s'.next ∧ (∀ b, b < N → s'.get b = s.get b) ∧ Stp s s' ∧ (Dom s → ∀ b vs ro z, s.get b = some (.cells vs false ro z) → s'.get b = some (.cells vs false ro z)) := by
  have hnew : ∀ o : AObj, Dom s → ∀ b vs ro z, s.get b = some (.cells vs false ro z) → (s.new o).get b = some (.cells vs false ro z) := fun o hd b vs ro z hb => by
    rw [St.get_new, if_neg (by have := hd _ _ hb; omega)]; exact hb
  cases M with
  | nil =>
    refine ⟨w, s, ?_, by simpa using h, Nat.le_refl _, fun _ _ => rfl, .refl _, fun _ _ _ _ _ h => h⟩
    rcases h with ⟨rfl, _⟩ | ⟨p, rfl, _⟩ | ⟨p, rfl, _⟩
    · rfl
    · simp [appendA]
    · simp [appendA]
  | cons c M =>
    have hm : 0 < (c :: M).length := by simp
    generalize hM : c :: M = K at hl hm ⊢
    have hc : allCell (K.map u8) = true := allCell_u8 K
    have hk : K.length * 1 ≤ 2 ^ 46 := by omega
    rcases h with ⟨rfl, rfl⟩ | ⟨p, rfl, rfl, h2, h3, h4⟩ | ⟨p, rfl, h1, h2, h3, h4⟩
    · refine ⟨.slice s.next 0 K.length K.length true, s.new (.cells (K.map u8) true false 1), ?_, .inr (.inr ⟨s.next, by simp, by simpa using hm, hN, Nat.lt_succ_self _, ?_⟩), by simp, fun b hb => ?_, .new _ _, hnew _⟩
      · unfold appendA
        simp only [newA]
        rw [if_neg (by omega), if_pos hk]
      · rw [St.get_new, if_pos rfl]; rfl
      · rw [St.get_new, if_neg (by omega)]
    · refine ⟨.slice s.next 0 K.length K.length true, s.new (.cells (K.map u8) true false 1), ?_, .inr (.inr ⟨s.next, by simp, by simpa using hm, hN, Nat.lt_succ_self _, ?_⟩), by simp, fun b hb => ?_, .new _ _, hnew _⟩
      · have hlo : loadA s p 0 (0 * 1) = some [] := by unfold loadA; rw [h4]; simp
        unfold appendA
        simp only [Nat.zero_add, hlo]
        rw [if_neg (by omega), if_pos hk]
        simp [newA]
      · rw [St.get_new, if_pos rfl]; rfl
      · rw [St.get_new, if_neg (by omega)]
    · refine ⟨.slice s.next 0 (L.length + K.length) (L.length + K.length) true, (s.drop p).new (.cells (L ++ K.map u8) true false 1), ?_, .inr (.inr ⟨s.next, by simp, by simp; omega, hN, Nat.lt_succ_self _, ?_⟩), by simp, fun b hb => ?_, (Stp.drop _ _).trans (.new _ _), fun hd b vs ro z hb => ?_⟩
      · have hlo : loadA s p 0 (L.length * 1) = some L := by
          unfold loadA
          rw [h4]
          simp [List.take_of_length_le]
        unfold appendA
        simp only [hlo, h4]
        rw [if_neg (by omega), if_pos (by omega)]
        simp [hc]
      · rw [St.get_new, if_pos (by simp)]
      · rw [St.get_new, if_neg (by simp; omega), St.get_drop, if_neg (by omega)]
      · have hbp : b ≠ p := by rintro rfl; rw [h4] at hb; cases hb
        rw [St.get_new, if_neg (by have := hd _ _ hb; simp; omega), St.get_drop, if_neg hbp]; exact hb

theorem Rw.int_ne {s : St} {v u : AV} {ns : List Nat} {q N : Nat} {L : List AV} (h : Rw s v (ns.map fun n : Nat => AV.int .i64 (n : Int))) (hq : s.get q = some (.cells [u] false false 0)) (hu : OutB s N u L) {j b o : Nat} (hj : j < ns.length) {vs : List AV} {lo ro : Bool} {z : Nat}
    (hb : s.get b = some (.cells vs lo ro z)) (hv : vs[o + j]? = some (.int .i64 (ns[j] : Int))) : b ≠ q := by
  rintro rfl
  rw [hq] at hb
  cases hb
  cases hoj : o + j with
  | zero =>
    rw [hoj] at hv
    simp only [List.getElem?_cons_zero, Option.some.injEq] at hv
    subst hv
    exact hu.int
  | succ k =>
    rw [hoj] at hv
    simp at hv
theorem u64_of {n : Nat} (h : n < 18446744073709551616) : IntKind.u64.wrap (n : Int) = (n : Int) := u64_in (by omega) (by omega)

/-- Numbers behind bytes. -/
theorem PutB_run {u : AV} {N w p c : Nat} {L ns : List Nat} {s : St} {lo ro : Bool} {z : Nat} (hok : okW (w : Int) = true) (hw : 0 < w) (hw8 : w ≤ 8) (hu : OutB s N u (L.map u8)) (hL : L.length < 100000000) (hd : Dom s)
    (hp : s.get p = some (.cells (ns.map fun n : Nat => AV.int .u64 (n : Int)) lo ro z)) (hb : ∀ n ∈ ns, n < 18446744073709551616 ∧ blen n ≤ 8 * w) (hnl : ns.length < 1000) :
    Wf mm 44 [u, .int .i64 (w : Int), .slice p 0 ns.length c false] s fun v s' => ∃ v0, v = .tup [v0, .int .i64 0] ∧ OutB s' s.next v0 ((L ++ lebs w ns).map u8) ∧ Fr s s' ∧ Dom s' := by
  obtain ⟨hll3, x, sc, hcl, hx, hsn, hsn2, hsg⟩ := cloned_run (hu.cloned (by rw [List.length_map]; exact hL)) hd
  refine ((Put_run (ns := ns) (lv := .slice p 0 ns.length c false) hok hw hw8 hcl hx hsn hsn2 hsg hll3 hnl (fun _ => rfl) ?_).stp mm_st).mono ?_
  · intro i hi
    obtain ⟨h1, h2⟩ := hb ns[i] (List.getElem_mem hi)
    exact ⟨p, 0, _, _, _, _, fun s' => by rw [idx1_slice hi, Nat.mul_one], hp, hd _ _ hp, by rw [Nat.zero_add, List.getElem?_map, List.getElem?_eq_getElem hi]; rfl, h1, h2⟩
  · rintro _ s2 ⟨⟨v0, rfl, ho, hg, -, -⟩, st⟩
    rw [putL_lebs, ← List.map_append] at ho
    exact ⟨v0, rfl, ho, ⟨st.le, hg⟩, st.dom hd⟩

theorem oput_run {q w N : Nat} {ns L : List Nat} {lv u : AV} {s : St} (hok : okW (w : Int) = true) (hw : 0 < w) (hw8 : w ≤ 8) (hq : s.get q = some (.cells [u] false false 0)) (hu : OutB s N u (L.map u8)) (hqN : q < N) (hN : N ≤ s.next) (hd : Dom s)
    (hlv : Rw s lv (ns.map fun n : Nat => AV.int .i64 (n : Int))) (hb : ∀ n ∈ ns, n < 18446744073709551616 ∧ blen n ≤ 8 * w) (hL : L.length + 8 * ns.length < 100000000) :
    Wf mm 26 [.ptr q 0, .int .i64 (w : Int), lv] s fun _ s' => (∃ u', s'.get q = some (.cells [u'] false false 0) ∧ OutB s' N u' ((L ++ lebs w ns).map u8)) ∧ FrX q s s' ∧ Dom s' := by
  refine Wf_enter ft26 (sm (by decide)) (by rfl) ?_
  have ft : (false == true) = false := rfl
  have tf : (true == false) = false := rfl
  have hlen := hlv.len
  simp only [List.length_map] at hlen
  simp -implicitDefEqProofs only [go_sem, Wk_block, Wk_drawnC, reduceCtorEq, Nat.reduceEqDiff, Nat.reduceAdd, Nat.reduceLeDiff, Nat.reduceLT, Nat.reduceMul, Nat.reduceSub, ↓reduceIte, Int.reduceLT, Int.reduceLE, Int.reduceNeg, Int.reduceAdd, Int.reduceEq, Nat.reduceBneDiff, Nat.reduceBEq, Int.reduceToNat, Int.reduceMul, Int.reduceSub, Int.reduceBEq, Int.reduceBNe, Int.cast_ofNat_Int, Int.toNat_natCast_add_one, Nat.add_left_cancel_iff, Nat.left_eq_add, Nat.add_eq_left, Int.toNat_natCast, Nat.add_assoc, Int.ofNat_lt, Int.ofNat_le, Nat.lt_add_one_of_lt, Nat.lt_add_one, Nat.lt_add_right, Nat.lt_add_right_iff_pos, Nat.add_lt_add_iff_left, fd26, hlen, ft, tf]
  refine loop_ind (fun m ts s' => ∃ (j : Nat) (u : AV), m = ns.length - j ∧ j ≤ ns.length ∧ ts.get 12 = some (.int .i64 (j : Int)) ∧ ts.get 11 = some (.int .i64 (ns.length : Int)) ∧ ts.get 10 = some lv ∧ ts.get 0 = some (.ptr q 0) ∧ ts.get 1 = some (.int .i64 (w : Int)) ∧
      s'.get q = some (.cells [u] false false 0) ∧ OutB s' N u ((L ++ lebs w (ns.take j)).map u8) ∧ FrX q s s' ∧ Dom s') ?_ (n := ns.length)
    ⟨0, u, rfl, by omega, by simp only [Tr.get_set, Nat.reduceEqDiff, ↓reduceIte, Int.cast_ofNat_Int], by simp only [Tr.get_set, Nat.reduceEqDiff, ↓reduceIte, Int.cast_ofNat_Int], by simp only [Tr.get_set, Nat.reduceEqDiff, ↓reduceIte, Int.cast_ofNat_Int], by simp only [Tr.get_set, Nat.reduceEqDiff, ↓reduceIte, Int.cast_ofNat_Int], by simp only [Tr.get_set, Nat.reduceEqDiff, ↓reduceIte, Int.cast_ofNat_Int], hq, by simpa [lebs] using hu, FrX.refl _ _, hd⟩
  rintro m ts s1 ⟨j, u1, rfl, hj, g12, g11, g10, g0, g1, hq1, hu1, f, dd⟩ IH
  by_cases hlt : j < ns.length
  · obtain ⟨b, o, vs, lo, ro, z, hidx, hv, hvj⟩ := hlv.at_ j (by rw [List.length_map]; exact hlt)
    rw [List.getElem_map] at hvj
    have hbq := hlv.int_ne hq hu hlt hv hvj
    have hv1 : s1.get b = some (.cells vs lo ro z) := (f.get b (hd _ _ hv) hbq).trans hv
    obtain ⟨hn1, hn2⟩ := hb ns[j] (List.getElem_mem hlt)
    have htk : lebs w (ns.take (j + 1)) = lebs w (ns.take j) ++ leb w ns[j] := by
      rw [List.take_succ_eq_append_getElem hlt, lebs_append]
      simp [lebs]
    have hll := lebs_len w (ns.take j)
    rw [List.length_take, Nat.min_eq_left (by omega)] at hll
    have hll2 : j * w ≤ j * 8 := Nat.mul_le_mul_left _ hw8
    generalize ns[j] = n at hvj hn1 hn2 htk
    have wn := u64_of hn1
    have wj := succ_in (j := j) (by omega)
    simp -implicitDefEqProofs only [go_sem, Wk_block, Wk_drawnC, reduceCtorEq, Nat.reduceEqDiff, Nat.reduceAdd, Nat.reduceLeDiff, Nat.reduceLT, Nat.reduceMul, Nat.reduceSub, ↓reduceIte, Int.reduceLT, Int.reduceLE, Int.reduceNeg, Int.reduceAdd, Int.reduceEq, Nat.reduceBneDiff, Nat.reduceBEq, Int.reduceToNat, Int.reduceMul, Int.reduceSub, Int.reduceBEq, Int.reduceBNe, Int.cast_ofNat_Int, Int.toNat_natCast_add_one, Nat.add_left_cancel_iff, Nat.left_eq_add, Nat.add_eq_left, Int.toNat_natCast, Nat.add_assoc, Int.ofNat_lt, Int.ofNat_le, Nat.lt_add_one_of_lt, Nat.lt_add_one, Nat.lt_add_right, Nat.lt_add_right_iff_pos, Nat.add_lt_add_iff_left, g12, g11, g10, g0, g1, hlt, hidx, hv1, hvj, hq1, wn, ft, tf]
    have hlen2 : (L ++ lebs w (ns.take j)).length < 100000000 := by rw [List.length_append, hll]; omega
    generalize hP : L ++ lebs w (ns.take j) = P at hu1 hlen2
    have hu2 := hu1.new (.cells [.int .u64 (n : Int)] false false 0)
    have hd2 : Dom (s1.new (.cells [.int .u64 (n : Int)] false false 0)) := dom_new dd _
    have hg2 : (s1.new (.cells [.int .u64 (n : Int)] false false 0)).get s1.next = some (.cells [.int .u64 (n : Int)] false false 0) := by rw [St.get_new, if_pos rfl]
    obtain ⟨hll3, x, sc, hcl, hx, hsn, hsn2, hsg⟩ := cloned_run (hu2.cloned (by rw [List.length_map]; exact hlen2)) hd2
    have hNs : N ≤ s1.next := Nat.le_trans hN f.le
    refine Wl_of ((Put_run (ns := [n]) (lv := .slice s1.next 0 1 1 false) hok hw hw8 hcl hx hsn hsn2 hsg hll3 (by simp) (fun _ => rfl) ?_).stp mm_st) ?_
    · intro i hi
      have : i = 0 := by simpa using hi
      subst this
      exact ⟨s1.next, 0, _, _, _, _, fun s' => by rw [idx1_slice (by omega)], hg2, by simp, rfl, hn1, hn2⟩
    rintro _ s2 ⟨⟨v0, rfl, ho, hg, -, -⟩, st⟩
    simp only [St.next_new] at ho hg
    have hq2 : s2.get q = some (.cells [u1] false false 0) := by rw [hg q (by omega), St.get_new, if_neg (by omega)]; exact hq1
    have f2 : FrX q s s2 := by
      refine f.then ⟨?_, fun b hb => ?_⟩
      · have h9 := st.le; simp only [St.next_new] at h9; omega
      · rw [hg b (by omega), St.get_new, if_neg (by omega)]
    have dd2 : Dom s2 := st.dom hd2
    have hc0 := ho.cell
    simp -implicitDefEqProofs only [go_sem, Wk_block, Wk_drawnC, reduceCtorEq, Nat.reduceEqDiff, Nat.reduceAdd, Nat.reduceLeDiff, Nat.reduceLT, Nat.reduceMul, Nat.reduceSub, ↓reduceIte, Int.reduceLT, Int.reduceLE, Int.reduceNeg, Int.reduceAdd, Int.reduceEq, Nat.reduceBneDiff, Nat.reduceBEq, Int.reduceToNat, Int.reduceMul, Int.reduceSub, Int.reduceBEq, Int.reduceBNe, Int.cast_ofNat_Int, Int.toNat_natCast_add_one, Nat.add_left_cancel_iff, Nat.left_eq_add, Nat.add_eq_left, Int.toNat_natCast, Nat.add_assoc, Int.ofNat_lt, Int.ofNat_le, Nat.lt_add_one_of_lt, Nat.lt_add_one, Nat.lt_add_right, Nat.lt_add_right_iff_pos, Nat.add_lt_add_iff_left, g12, g11, g10, g0, g1, hq2, hc0, wj, ft, tf]
    refine IH (ns.length - (j + 1)) _ _ (by omega) ⟨j + 1, v0, rfl, by omega, ?_, ?_, ?_, ?_, ?_, by rw [St.get_put, if_pos rfl], ?_, f2.put (.inl rfl) _, (Stp.put hq2 _).dom dd2⟩
    · simp only [Tr.get_set, Nat.reduceEqDiff, ↓reduceIte, Int.cast_ofNat_Int]
    · simp only [Tr.get_set, Nat.reduceEqDiff, ↓reduceIte, Int.cast_ofNat_Int, g11]
    · simp only [Tr.get_set, Nat.reduceEqDiff, ↓reduceIte, Int.cast_ofNat_Int, g10]
    · simp only [Tr.get_set, Nat.reduceEqDiff, ↓reduceIte, Int.cast_ofNat_Int, g0]
    · simp only [Tr.get_set, Nat.reduceEqDiff, ↓reduceIte, Int.cast_ofNat_Int, g1]
    · refine OutB.put ?_ hqN _
      rw [htk, ← List.append_assoc, hP, List.map_append]
      rw [putL_lebs] at ho
      have e : lebs w [n] = leb w n := by simp [lebs]
      rw [e] at ho
      exact ho.le (by omega)
  · have : j = ns.length := by omega
    subst this
    rw [List.take_length] at hu1
    have hlf : decide ((ns.length : Int) < (ns.length : Int)) = false := decide_eq_false (by omega)
    simp -implicitDefEqProofs only [go_sem, Wk_block, Wk_drawnC, reduceCtorEq, Nat.reduceEqDiff, Nat.reduceAdd, Nat.reduceLeDiff, Nat.reduceLT, Nat.reduceMul, Nat.reduceSub, ↓reduceIte, Int.reduceLT, Int.reduceLE, Int.reduceNeg, Int.reduceAdd, Int.reduceEq, Nat.reduceBneDiff, Nat.reduceBEq, Int.reduceToNat, Int.reduceMul, Int.reduceSub, Int.reduceBEq, Int.reduceBNe, Int.cast_ofNat_Int, Int.toNat_natCast_add_one, Nat.add_left_cancel_iff, Nat.left_eq_add, Nat.add_eq_left, Int.toNat_natCast, Nat.add_assoc, Int.ofNat_lt, Int.ofNat_le, Nat.lt_add_one_of_lt, Nat.lt_add_one, Nat.lt_add_right, Nat.lt_add_right_iff_pos, Nat.add_lt_add_iff_left, g12, g11, hlf, hlt, ft, tf]
    exact ⟨⟨u1, hq1, hu1⟩, f, dd⟩
end Go.Proofs.YteiiblpnegjjlaaGreat.Lw
namespace Go.Proofs.YteiiblpnegjjlaaGreat.Lw
open D
set_option linter.unusedSimpArgs false
set_option linter.unusedVariables false
set_option maxRecDepth 10000

/-- What an op says. -/
def Sop.con (x : Sop) : Con := ⟨x.kind, x.node, x.key, x.at_, x.keys, x.blk, x.e, x.q, x.mask, x.keep⟩
theorem plain_con (x : Sop) : plainOp x = plainC x.con := rfl
theorem plain_cons (c : Cfg) (l : List Sop) : plainS c l = plainA c (l.map Sop.con) := by
  unfold plainS plainA
  rw [List.length_map, List.any_map]
  rfl
theorem encC_len (x : Con) (hb : x.blk.length = 16) (hp : plainC x = true) : (encC x).length ≤ 351 := by
  unfold plainC listsC at hp
  simp only [Bool.and_eq_true, decide_eq_true_eq] at hp
  obtain ⟨⟨⟨⟨_, ⟨⟨h1, _⟩, h2⟩⟩, _⟩, _⟩, _⟩ := hp
  unfold encC
  simp only [List.length_append, lebs_len, List.length_map, List.length_cons, List.length_nil]
  omega
theorem flat_len (l : List Con) (h : ∀ x ∈ l, x.blk.length = 16 ∧ plainC x = true) : (l.flatMap encC).length ≤ 351 * l.length := by
  induction l with
  | nil => simp
  | cons a l ih =>
    have h1 := encC_len a (h a (List.mem_cons_self ..)).1 (h a (List.mem_cons_self ..)).2
    have h2 := ih fun x hx => h x (List.mem_cons_of_mem _ hx)
    rw [List.flatMap_cons, List.length_append, List.length_cons]
    omega

/-- One label behind bytes. -/
theorem lput_run {w : AV} {L : List Nat} {e q p N : Nat} {s : St} (hu : OutB s N w (L.map u8)) (hL : L.length < 1000000) (hN : N ≤ s.next) (hp : s.get p = some (.cells [.int .u32 (e : Int), .int .u32 (q : Int)] false false 0)) (hd : Dom s) (he : e < 4294967296) (hq : q < 4294967296) :
    Wf mm 27 [w, .slice p 0 1 1 false] s fun v s' => OutB s' s.next v ((L ++ lebs 4 [e, q]).map u8) ∧ Fr s s' ∧ Dom s' := by
  refine ((Wf_enter ft27 (sm (by decide)) (by rfl) ?_ : Wf mm 27 [w, .slice p 0 1 1 false] s fun v s' => OutB s' s.next v ((L ++ lebs 4 [e, q]).map u8) ∧ ∀ b, b < s.next → s'.get b = s.get b).stp mm_st).mono ?_
  rotate_left
  · rintro v s' ⟨⟨h1, h2⟩, st⟩
    exact ⟨h1, ⟨st.le, h2⟩, st.dom hd⟩
  have ft : (false == true) = false := rfl
  have tf : (true == false) = false := rfl
  obtain ⟨hll, u, sc, hcl, hx, hsn, hsn2, hsg⟩ := cloned_run (hu.cloned (by rw [List.length_map]; omega)) hd
  have hdc : Dom sc := (lim_stp mm_st).call hcl |>.dom hd
  have w1 : IntKind.i64.wrap 1 = 1 := rfl
  have hcx := hx.cell
  have hpl := hd _ _ hp
  simp -implicitDefEqProofs only [go_sem, Wk_block, Wk_drawnC, reduceCtorEq, Nat.reduceEqDiff, Nat.reduceAdd, Nat.reduceLeDiff, Nat.reduceLT, Nat.reduceMul, Nat.reduceSub, ↓reduceIte, Int.reduceLT, Int.reduceLE, Int.reduceNeg, Int.reduceAdd, Int.reduceEq, Nat.reduceBneDiff, Nat.reduceBEq, Int.reduceToNat, Int.reduceMul, Int.reduceSub, Int.reduceBEq, Int.reduceBNe, Int.cast_ofNat_Int, Int.toNat_natCast_add_one, Nat.add_left_cancel_iff, Nat.left_eq_add, Nat.add_eq_left, Int.toNat_natCast, Nat.add_assoc, Int.ofNat_lt, Int.ofNat_le, Nat.lt_add_one_of_lt, Nat.lt_add_one, Nat.lt_add_right, Nat.lt_add_right_iff_pos, Nat.add_lt_add_iff_left, fd27, Wl_eq hcl, hcx, ft, tf]
  have hpc : sc.get p = some (.cells [.int .u32 (e : Int), .int .u32 (q : Int)] false false 0) := (hsg p hpl).trans hp
  have i0 : ∀ s, idx1 2 (some (.slice p 0 1 1 false)) (some (.int .i64 0)) s = some (.ptr p 0, s) := fun s => rfl
  have we := u64_of (n := e) (by omega)
  have wq := u64_of (n := q) (by omega)
  rw [Wk_loop]
  simp -implicitDefEqProofs only [go_sem, Wk_block, Wk_drawnC, reduceCtorEq, Nat.reduceEqDiff, Nat.reduceAdd, Nat.reduceLeDiff, Nat.reduceLT, Nat.reduceMul, Nat.reduceSub, ↓reduceIte, Int.reduceLT, Int.reduceLE, Int.reduceNeg, Int.reduceAdd, Int.reduceEq, Nat.reduceBneDiff, Nat.reduceBEq, Int.reduceToNat, Int.reduceMul, Int.reduceSub, Int.reduceBEq, Int.reduceBNe, Int.cast_ofNat_Int, Int.toNat_natCast_add_one, Nat.add_left_cancel_iff, Nat.left_eq_add, Nat.add_eq_left, Int.toNat_natCast, Nat.add_assoc, Int.ofNat_lt, Int.ofNat_le, Nat.lt_add_one_of_lt, Nat.lt_add_one, Nat.lt_add_right, Nat.lt_add_right_iff_pos, Nat.add_lt_add_iff_left, i0, hpc, we, wq, ft, tf]
  refine Wl_of (PutB_run (ns := [e, q]) (w := 4) rfl (by omega) (by omega) ((hx.new _).new _) (by omega) (dom_new (dom_new hdc _) _) (p := sc.next + 1) (by rw [St.get_new, if_pos (by simp)]; rfl) ?_ (by simp)) ?_
  · intro n hn
    rcases List.mem_cons.1 hn with rfl | hn
    · exact blen_w (.inr (.inr rfl)) he
    · rw [List.mem_singleton.1 hn]
      exact blen_w (.inr (.inr rfl)) hq
  rintro _ s2 ⟨v0, rfl, ho, f, -⟩
  simp only [St.next_new] at ho
  have hc0 := ho.cell
  simp -implicitDefEqProofs only [go_sem, Wk_block, Wk_drawnC, reduceCtorEq, Nat.reduceEqDiff, Nat.reduceAdd, Nat.reduceLeDiff, Nat.reduceLT, Nat.reduceMul, Nat.reduceSub, ↓reduceIte, Int.reduceLT, Int.reduceLE, Int.reduceNeg, Int.reduceAdd, Int.reduceEq, Nat.reduceBneDiff, Nat.reduceBEq, Int.reduceToNat, Int.reduceMul, Int.reduceSub, Int.reduceBEq, Int.reduceBNe, Int.cast_ofNat_Int, Int.toNat_natCast_add_one, Nat.add_left_cancel_iff, Nat.left_eq_add, Nat.add_eq_left, Int.toNat_natCast, Nat.add_assoc, Int.ofNat_lt, Int.ofNat_le, Nat.lt_add_one_of_lt, Nat.lt_add_one, Nat.lt_add_right, Nat.lt_add_right_iff_pos, Nat.add_lt_add_iff_left, w1, hc0, ft, tf]
  rw [Wk_loop]
  simp -implicitDefEqProofs only [go_sem, Wk_block, Wk_drawnC, reduceCtorEq, Nat.reduceEqDiff, Nat.reduceAdd, Nat.reduceLeDiff, Nat.reduceLT, Nat.reduceMul, Nat.reduceSub, ↓reduceIte, Int.reduceLT, Int.reduceLE, Int.reduceNeg, Int.reduceAdd, Int.reduceEq, Nat.reduceBneDiff, Nat.reduceBEq, Int.reduceToNat, Int.reduceMul, Int.reduceSub, Int.reduceBEq, Int.reduceBNe, Int.cast_ofNat_Int, Int.toNat_natCast_add_one, Nat.add_left_cancel_iff, Nat.left_eq_add, Nat.add_eq_left, Int.toNat_natCast, Nat.add_assoc, Int.ofNat_lt, Int.ofNat_le, Nat.lt_add_one_of_lt, Nat.lt_add_one, Nat.lt_add_right, Nat.lt_add_right_iff_pos, Nat.add_lt_add_iff_left, ft, tf]
  refine ⟨ho.le (by omega), fun b hb => ?_⟩
  rw [f.get b (by simp only [St.next_new]; omega), St.get_new, if_neg (by simp only [St.next_new]; omega), St.get_new, if_neg (by omega)]
  exact hsg b hb

theorem oput_lit {q w N p c k : Nat} {x : Bool} {ns L : List Nat} {l : List AV} {lo ro : Bool} {z : Nat} {u : AV} {s : St} (hok : okW (w : Int) = true) (hw : 0 < w) (hw8 : w ≤ 8) (hq : s.get q = some (.cells [u] false false 0)) (hu : OutB s N u (L.map u8)) (hqN : q < N) (hN : N ≤ s.next) (hd : Dom s)
    (hp : s.get p = some (.cells l lo ro z)) (hl : l = ns.map fun n : Nat => AV.int .i64 (n : Int)) (hk : ns.length = k) (hb : ∀ n ∈ ns, n < 18446744073709551616 ∧ blen n ≤ 8 * w) (hL : L.length + 8 * k < 100000000) :
    Wf mm 26 [.ptr q 0, .int .i64 (w : Int), .slice p 0 k c x] s fun _ s' => (∃ u', s'.get q = some (.cells [u'] false false 0) ∧ OutB s' N u' ((L ++ lebs w ns).map u8)) ∧ FrX q s s' ∧ Dom s' := by
  subst hl
  subst hk
  exact oput_run hok hw hw8 hq hu hqN hN hd (rw_row hp (by simp) _ _) hb hL
theorem toNat_map {L : List Int} (h : ∀ k ∈ L, 0 ≤ k) : L.map (AV.int .i64) = (L.map Int.toNat).map fun n : Nat => AV.int .i64 (n : Int) := by
  rw [List.map_map]
  refine List.map_congr_left fun k hk => ?_
  show AV.int .i64 k = AV.int .i64 ((k.toNat : Nat) : Int)
  rw [Int.toNat_of_nonneg (h k hk)]
theorem frx_fr {q : Nat} {s s1 s2 : St} (h : Fr s s1) (k : FrX q s1 s2) (hq : s.next ≤ q) : Fr s s2 := ⟨Nat.le_trans h.le k.le, fun b hb => (k.get b (Nat.lt_of_lt_of_le hb h.le) (by omega)).trans (h.get b hb)⟩
/-- What a plain op's numbers are. -/
theorem plain_nums {x : Con} (hp : plainC x = true) : (0 ≤ x.kind ∧ x.kind ≤ 18) ∧ (0 ≤ x.node ∧ x.node < 2) ∧ (0 ≤ x.key ∧ x.key ≤ 255) ∧ (-1 ≤ x.at_ ∧ x.at_ < 65535) ∧ x.keys.length ≤ 64 ∧ (∀ k ∈ x.keys, 0 ≤ k ∧ k ≤ 255) ∧ x.keep.length ≤ 255 := by
  unfold plainC rightC listsC at hp
  simp only [Bool.and_eq_true, Bool.not_eq_true', decide_eq_true_eq] at hp
  obtain ⟨⟨⟨⟨⟨⟨⟨h1, h2⟩, h3⟩, h4⟩, ⟨⟨h5, h6⟩, h7⟩⟩, h8⟩, h9⟩, h10⟩ := hp
  exact ⟨⟨h1, h2⟩, ⟨h3, h4⟩, bad_of h8, ⟨h9, h10⟩, h5, fun k hk => bad_of (by
    have := List.any_eq_false.1 h6 k hk
    simpa using this), h7⟩
theorem b1 {n : Nat} (h : n < 256) : n < 18446744073709551616 ∧ blen n ≤ 8 * 1 := blen_w (.inl rfl) h
theorem b2 {n : Nat} (h : n < 65536) : n < 18446744073709551616 ∧ blen n ≤ 8 * 2 := blen_w (.inr (.inl rfl)) h
theorem b4 {n : Nat} (h : n < 4294967296) : n < 18446744073709551616 ∧ blen n ≤ 8 * 4 := blen_w (.inr (.inr rfl)) h

/-- Bytes are being put behind each other, in a cell of their own. -/
structure Stg (s0 : St) (q : Nat) (P : List Nat) (t : St) : Prop where
  get : ∃ u, t.get q = some (.cells [u] false false 0) ∧ OutB t (q + 1) u (P.map u8)
  fr : Fr s0 t
  dom : Dom t
  q0 : s0.next ≤ q
theorem Stg.lt {s0 : St} {q : Nat} {P : List Nat} {t : St} (h : Stg s0 q P t) : q < t.next := by
  obtain ⟨u, h1, _⟩ := h.get
  exact h.dom _ _ h1
theorem Stg.new {s0 : St} {q : Nat} {P : List Nat} {t : St} (h : Stg s0 q P t) (o : AObj) : Stg s0 q P (t.new o) where
  get := by
    obtain ⟨u, h1, h2⟩ := h.get
    exact ⟨u, by rw [St.get_new, if_neg (by have := h.lt; omega)]; exact h1, h2.new _⟩
  fr := h.fr.new _
  dom := dom_new h.dom _
  q0 := h.q0
theorem Stg.frx {s0 : St} {q : Nat} {P P' : List Nat} {t t' : St} (h : Stg s0 q P t) (hg : ∃ u, t'.get q = some (.cells [u] false false 0) ∧ OutB t' (q + 1) u (P'.map u8)) (f : FrX q t t') (hd : Dom t') : Stg s0 q P' t' := ⟨hg, frx_fr h.fr f h.q0, hd, h.q0⟩
theorem Stg.row {s0 : St} {q w : Nat} {P ns : List Nat} {t : St} {lv : AV} (h : Stg s0 q P t) (hok : okW (w : Int) = true) (hw : 0 < w) (hw8 : w ≤ 8) (hlv : Rw t lv (ns.map fun n : Nat => AV.int .i64 (n : Int))) (hb : ∀ n ∈ ns, n < 18446744073709551616 ∧ blen n ≤ 8 * w) (hL : P.length + 8 * ns.length < 100000000) :
    Wf mm 26 [.ptr q 0, .int .i64 (w : Int), lv] t fun _ t' => Stg s0 q (P ++ lebs w ns) t' ∧ FrX q t t' := by
  obtain ⟨u, h1, h2⟩ := h.get
  refine (oput_run hok hw hw8 h1 h2 (Nat.lt_succ_self _) h.lt h.dom hlv hb hL).mono ?_
  rintro _ t' ⟨hg, f, hd⟩
  exact ⟨h.frx hg f hd, f⟩
theorem Stg.lit {s0 : St} {q w p c k : Nat} {x : Bool} {P ns : List Nat} {t : St} {l : List AV} {lo ro : Bool} {z : Nat} (h : Stg s0 q P t) (hok : okW (w : Int) = true) (hw : 0 < w) (hw8 : w ≤ 8) (hp : t.get p = some (.cells l lo ro z)) (hl : l = ns.map fun n : Nat => AV.int .i64 (n : Int)) (hk : ns.length = k)
    (hb : ∀ n ∈ ns, n < 18446744073709551616 ∧ blen n ≤ 8 * w) (hL : P.length + 8 * k < 100000000) : Wf mm 26 [.ptr q 0, .int .i64 (w : Int), .slice p 0 k c x] t fun _ t' => Stg s0 q (P ++ lebs w ns) t' ∧ FrX q t t' := by
  subst hl
  subst hk
  exact h.row hok hw hw8 (rw_row hp (by simp) _ _) hb hL
theorem Stg.app {s0 : St} {q : Nat} {P : List Nat} {t : St} (h : Stg s0 q P t) (M : List Nat) (hL : P.length + M.length < 1000000000) :
    ∃ u u' t', t.get q = some (.cells [u] false false 0) ∧ appendA 1 1 t u M.length (M.map u8) = some (u', t') ∧ t'.get q = some (.cells [u] false false 0) ∧ (u'.cell = true ∧ u'.cells = [u']) ∧ Stg s0 q (P ++ M) (t'.put q (.cells [u'] false false 0)) ∧
      ∀ b vs ro z, b ≠ q → t.get b = some (.cells vs false ro z) → (t'.put q (.cells [u'] false false 0)).get b = some (.cells vs false ro z) := by
  obtain ⟨u, h1, h2⟩ := h.get
  have hlt := h.lt
  obtain ⟨u', t', ha, ho, hn, hg, st, hk⟩ := h2.app hlt M (by rw [List.length_map]; exact hL)
  have hq' : t'.get q = some (.cells [u] false false 0) := (hg q (Nat.lt_succ_self _)).trans h1
  refine ⟨u, u', t', h1, ha, hq', ho.cell, ⟨⟨u', by rw [St.get_put, if_pos rfl], ?_⟩, ?_, (Stp.put hq' _).dom (st.dom h.dom), h.q0⟩, fun b vs ro z hb hv => ?_⟩
  · rw [List.map_append]
    exact ho.put (Nat.lt_succ_self _) _
  · refine ⟨Nat.le_trans h.fr.le hn, fun b hb => ?_⟩
    have := h.q0
    rw [St.get_put, if_neg (by omega), hg b (by omega)]
    exact h.fr.get b hb
  · rw [St.get_put, if_neg hb]
    exact hk h.dom b vs ro z hv
theorem Stg.lab {s0 : St} {q p e n : Nat} {P : List Nat} {t : St} (h : Stg s0 q P t) (hL : P.length < 1000000) (hp : t.get p = some (.cells [.int .u32 (e : Int), .int .u32 (n : Int)] false false 0)) (he : e < 4294967296) (hn : n < 4294967296) :
    ∃ u, t.get q = some (.cells [u] false false 0) ∧ Wf mm 27 [u, .slice p 0 1 1 false] t fun v t' => t'.get q = some (.cells [u] false false 0) ∧ (v.cell = true ∧ v.cells = [v]) ∧ Stg s0 q (P ++ lebs 4 [e, n]) (t'.put q (.cells [v] false false 0)) ∧ FrX q t (t'.put q (.cells [v] false false 0)) := by
  obtain ⟨u, h1, h2⟩ := h.get
  have hlt := h.lt
  refine ⟨u, h1, (lput_run h2 hL hlt hp h.dom he hn).mono ?_⟩
  rintro v t' ⟨ho, f, hd⟩
  have hq' : t'.get q = some (.cells [u] false false 0) := (f.get q hlt).trans h1
  have fx : FrX q t (t'.put q (.cells [v] false false 0)) := (f.x q).put (.inl rfl) _
  refine ⟨hq', ho.cell, h.frx ⟨v, by rw [St.get_put, if_pos rfl], ?_⟩ fx ((Stp.put hq' _).dom hd), fx⟩
  exact (ho.le (by omega)).put (Nat.lt_succ_self _) _
end Go.Proofs.YteiiblpnegjjlaaGreat.Lw
namespace Go.Proofs.YteiiblpnegjjlaaGreat.Lw
open D
set_option linter.unusedSimpArgs false
set_option linter.unusedVariables false
set_option maxRecDepth 10000

theorem Bytes_run (c : Cfg) (l : List Sop) {v : AV} {s : St} (hA : RdS s v l) (hl : ∀ x ∈ l, SopOk s x) (hk : ∀ x ∈ l, x.keys.length ≤ 1000) (hd : Dom s) (hL : l.length < 1000000000) (hc : CfgOk c) :
    Wf mm 11 [.agg c.enc, v] s fun w s' => (plainS c l = true → ∃ u, w = .tup [u, .int .i64 0] ∧ OutB s' s.next u ((encA c (l.map Sop.con)).map u8)) ∧ (plainS c l = false → w = .tup [.nilSlice, .int .i64 241]) ∧ Fr s s' ∧ Dom s' := by
  refine Wf_enter ft11 (sm (by decide)) (by rfl) ?_
  have ft : (false == true) = false := rfl
  have tf : (true == false) = false := rfl
  have hn := keeps_new hd (.cells c.enc false false 0)
  have hd2 := dom_new hd (.cells c.enc false false 0)
  have f1 : Fr s (s.new (.cells c.enc false false 0)) := by (repeat (first | exact FrX.refl _ _ | exact Fr.refl _ | assumption | exact Fr.x (by assumption) _ | refine FrX.put ?_ (.inl rfl) _ | refine FrX.put ?_ (.inr (by first | omega | (simp; done) | (simp; omega))) _ | refine FrX.new ?_ _ | refine Fr.put ?_ (by first | omega | (simp; done) | (simp; omega)) _ | refine Fr.new ?_ _ | refine FrX.then ?_ (by assumption) | refine Fr.trans ?_ (by assumption)))
  have g1 : (s.new (.cells c.enc false false 0)).get s.next = some (.cells c.enc false false 0) := by rw [St.get_new, if_pos rfl]
  have n1 : (s.new (.cells c.enc false false 0)).next = s.next + 1 := rfl
  have hce : 7 ≤ c.enc.length := Nat.le_refl 7
  have hct : List.take 7 c.enc = c.enc := rfl
  have hlen := hA.len
  simp -implicitDefEqProofs only [go_sem, Wk_block, Wk_drawnC, reduceCtorEq, Nat.reduceEqDiff, Nat.reduceAdd, Nat.reduceLeDiff, Nat.reduceLT, Nat.reduceMul, Nat.reduceSub, ↓reduceIte, Int.reduceLT, Int.reduceLE, Int.reduceNeg, Int.reduceAdd, Int.reduceEq, Nat.reduceBneDiff, Nat.reduceBEq, Int.reduceToNat, Int.reduceMul, Int.reduceSub, Int.reduceBEq, Int.reduceBNe, Int.cast_ofNat_Int, Int.toNat_natCast_add_one, Nat.add_left_cancel_iff, Nat.left_eq_add, Nat.add_eq_left, Int.toNat_natCast, Nat.add_assoc, Int.ofNat_lt, Int.ofNat_le, Nat.lt_add_one_of_lt, Nat.lt_add_one, Nat.lt_add_right, Nat.lt_add_right_iff_pos, Nat.add_lt_add_iff_left, fd11, hce, hct, ft, tf]
  obtain ⟨a0, ha0⟩ : ∃ a0, s.next = a0 := ⟨_, rfl⟩
  rw [ha0] at g1 n1 ⊢
  generalize s.new (.cells c.enc false false 0) = s1 at *
  refine Wl_of (PlainS_run c l (hA.mono f1) (fun x hx => (hl x hx).mono hn) hk hd2 hL) ?_
  rintro _ s2 ⟨rfl, f2, d2⟩
  have g2 := (fr_keeps f2 hd2) _ _ g1
  have f02 := f1.trans f2
  cases hp : plainS c l
  · simp -implicitDefEqProofs only [go_sem, Wk_block, Wk_drawnC, reduceCtorEq, Nat.reduceEqDiff, Nat.reduceAdd, Nat.reduceLeDiff, Nat.reduceLT, Nat.reduceMul, Nat.reduceSub, ↓reduceIte, Int.reduceLT, Int.reduceLE, Int.reduceNeg, Int.reduceAdd, Int.reduceEq, Nat.reduceBneDiff, Nat.reduceBEq, Int.reduceToNat, Int.reduceMul, Int.reduceSub, Int.reduceBEq, Int.reduceBNe, Int.cast_ofNat_Int, Int.toNat_natCast_add_one, Nat.add_left_cancel_iff, Nat.left_eq_add, Nat.add_eq_left, Int.toNat_natCast, Nat.add_assoc, Int.ofNat_lt, Int.ofNat_le, Nat.lt_add_one_of_lt, Nat.lt_add_one, Nat.lt_add_right, Nat.lt_add_right_iff_pos, Nat.add_lt_add_iff_left, ft, tf]
    exact ⟨f02, d2⟩
  have hp' := hp
  rw [plain_cons] at hp'
  unfold plainA at hp'
  rw [Bool.and_eq_true, Bool.not_eq_true', Bool.not_eq_true', Bool.or_eq_false_iff, List.length_map] at hp'
  obtain ⟨⟨h400, hops⟩, hnums⟩ := hp'
  have h400 : l.length ≤ 400 := by simpa using h400
  have hops : ∀ x ∈ l, plainC x.con = true := fun x hx => by
    have := List.any_eq_false.1 hops x.con (List.mem_map_of_mem hx)
    simpa using this
  have hn' : ∀ n ∈ c.nums, 0 ≤ n ∧ n ≤ 65535 := fun n hn => bad_of (by
    have := List.any_eq_false.1 hnums n hn
    simpa using this)
  have m1 := hn' c.pages (by simp [Cfg.nums])
  have m2 := hn' c.last (by simp [Cfg.nums])
  have m3 := hn' c.spans (by simp [Cfg.nums])
  have m4 := hn' c.chunk (by simp [Cfg.nums])
  have m5 := hn' c.retry (by simp [Cfg.nums])
  have we : IntKind.i64.wrap (c.every : Int) = (c.every : Int) := i64_in (by omega) (by have := hc.every; omega)
  have ws : IntKind.i64.wrap (c.span : Int) = (c.span : Int) := i64_in (by omega) (by have := hc.span; omega)
  unfold Cfg.enc at g2
  have hq : ¬ a0 = s2.next := by have := d2 _ _ g2; omega
  have hab : a0 < s2.next := d2 _ _ g2
  obtain ⟨q, hqe⟩ : ∃ q, s2.next = q := ⟨_, rfl⟩
  have hS : Stg s2 q [] (s2.new (.cells [.nilSlice] false false 0)) := ⟨⟨.nilSlice, by rw [St.get_new, if_pos hqe.symm], .inl ⟨rfl, rfl⟩⟩, (Fr.refl _).new _, dom_new d2 _, by omega⟩
  have g3 : (s2.new (.cells [.nilSlice] false false 0)).get a0 = _ := (St.get_new ..).trans ((if_neg hq).trans g2)
  have hq2 : ¬ a0 = q := by omega
  simp -implicitDefEqProofs only [go_sem, Wk_block, Wk_drawnC, reduceCtorEq, Nat.reduceEqDiff, Nat.reduceAdd, Nat.reduceLeDiff, Nat.reduceLT, Nat.reduceMul, Nat.reduceSub, ↓reduceIte, Int.reduceLT, Int.reduceLE, Int.reduceNeg, Int.reduceAdd, Int.reduceEq, Nat.reduceBneDiff, Nat.reduceBEq, Int.reduceToNat, Int.reduceMul, Int.reduceSub, Int.reduceBEq, Int.reduceBNe, Int.cast_ofNat_Int, Int.toNat_natCast_add_one, Nat.add_left_cancel_iff, Nat.left_eq_add, Nat.add_eq_left, Int.toNat_natCast, Nat.add_assoc, Int.ofNat_lt, Int.ofNat_le, Nat.lt_add_one_of_lt, Nat.lt_add_one, Nat.lt_add_right, Nat.lt_add_right_iff_pos, Nat.add_lt_add_iff_left, g2, hq2, hqe, ft, tf]
  have n3 : (s2.new (.cells [.nilSlice] false false 0)).next = q + 1 := by rw [St.next_new, hqe]
  generalize s2.new (.cells [.nilSlice] false false 0) = s3 at hS g3 n3 ⊢
  refine Wl_of ((hS.new _).lit (w := 2) (p := q + 1) (l := [.int .i64 c.pages]) (ns := [c.pages.toNat]) rfl (by omega) (by omega) (by rw [St.get_new, if_pos n3.symm]) (by simp [Int.toNat_of_nonneg m1.1]) rfl (by intro n hn; rw [List.mem_singleton.1 hn]; exact b2 (by omega)) (by simp)) ?_
  rintro _ s4 ⟨hS4, f4⟩
  have g4 := (f4.get a0 (by simp only [St.next_new]; omega) (by omega)).trans ((St.get_new ..).trans ((if_neg (by omega)).trans g3))
  simp -implicitDefEqProofs only [go_sem, Wk_block, Wk_drawnC, reduceCtorEq, Nat.reduceEqDiff, Nat.reduceAdd, Nat.reduceLeDiff, Nat.reduceLT, Nat.reduceMul, Nat.reduceSub, ↓reduceIte, Int.reduceLT, Int.reduceLE, Int.reduceNeg, Int.reduceAdd, Int.reduceEq, Nat.reduceBneDiff, Nat.reduceBEq, Int.reduceToNat, Int.reduceMul, Int.reduceSub, Int.reduceBEq, Int.reduceBNe, Int.cast_ofNat_Int, Int.toNat_natCast_add_one, Nat.add_left_cancel_iff, Nat.left_eq_add, Nat.add_eq_left, Int.toNat_natCast, Nat.add_assoc, Int.ofNat_lt, Int.ofNat_le, Nat.lt_add_one_of_lt, Nat.lt_add_one, Nat.lt_add_right, Nat.lt_add_right_iff_pos, Nat.add_lt_add_iff_left, g4, we, ws, ft, tf]
  refine Wl_of ((hS4.new _).lit (w := 4) (p := s4.next) (l := [.int .i64 (c.every : Int), .int .i64 (c.span : Int)]) (ns := [c.every, c.span]) rfl (by omega) (by omega) (by rw [St.get_new, if_pos rfl]) (by simp) rfl (by
    intro n hn
    simp only [List.mem_cons, List.not_mem_nil, or_false] at hn
    rcases hn with rfl | rfl
    · exact b4 hc.every
    · exact b4 hc.span) (by simp [lebs_len])) ?_
  rintro _ s5 ⟨hS5, f5⟩
  have l4 := hS4.lt
  have g5 := (f5.get a0 (by simp only [St.next_new]; omega) (by omega)).trans ((St.get_new ..).trans ((if_neg (by omega)).trans g4))
  simp -implicitDefEqProofs only [go_sem, Wk_block, Wk_drawnC, reduceCtorEq, Nat.reduceEqDiff, Nat.reduceAdd, Nat.reduceLeDiff, Nat.reduceLT, Nat.reduceMul, Nat.reduceSub, ↓reduceIte, Int.reduceLT, Int.reduceLE, Int.reduceNeg, Int.reduceAdd, Int.reduceEq, Nat.reduceBneDiff, Nat.reduceBEq, Int.reduceToNat, Int.reduceMul, Int.reduceSub, Int.reduceBEq, Int.reduceBNe, Int.cast_ofNat_Int, Int.toNat_natCast_add_one, Nat.add_left_cancel_iff, Nat.left_eq_add, Nat.add_eq_left, Int.toNat_natCast, Nat.add_assoc, Int.ofNat_lt, Int.ofNat_le, Nat.lt_add_one_of_lt, Nat.lt_add_one, Nat.lt_add_right, Nat.lt_add_right_iff_pos, Nat.add_lt_add_iff_left, g5, hlen, ft, tf]
  refine Wl_of ((hS5.new _).lit (w := 2) (p := s5.next) (l := [.int .i64 c.last, .int .i64 c.spans, .int .i64 c.chunk, .int .i64 c.retry, .int .i64 (l.length : Int)]) (ns := [c.last.toNat, c.spans.toNat, c.chunk.toNat, c.retry.toNat, l.length]) rfl (by omega) (by omega) (by rw [St.get_new, if_pos rfl]) (by simp [Int.toNat_of_nonneg m2.1, Int.toNat_of_nonneg m3.1, Int.toNat_of_nonneg m4.1, Int.toNat_of_nonneg m5.1]) rfl (by
    intro n hn
    simp only [List.mem_cons, List.not_mem_nil, or_false] at hn
    rcases hn with rfl | rfl | rfl | rfl | rfl <;> exact b2 (by omega)) (by simp [lebs_len])) ?_
  rintro _ s6 ⟨hS6, f6⟩
  have hP : ([] ++ lebs 2 [c.pages.toNat] ++ lebs 4 [c.every, c.span] ++ lebs 2 [c.last.toNat, c.spans.toNat, c.chunk.toNat, c.retry.toNat, l.length]) = encHead c l.length := rfl
  rw [hP] at hS6
  clear f4 f5 f6 g3 g4 g5 hS hS4 hS5 n3 l4
  simp -implicitDefEqProofs only [go_sem, Wk_block, Wk_drawnC, reduceCtorEq, Nat.reduceEqDiff, Nat.reduceAdd, Nat.reduceLeDiff, Nat.reduceLT, Nat.reduceMul, Nat.reduceSub, ↓reduceIte, Int.reduceLT, Int.reduceLE, Int.reduceNeg, Int.reduceAdd, Int.reduceEq, Nat.reduceBneDiff, Nat.reduceBEq, Int.reduceToNat, Int.reduceMul, Int.reduceSub, Int.reduceBEq, Int.reduceBNe, Int.cast_ofNat_Int, Int.toNat_natCast_add_one, Nat.add_left_cancel_iff, Nat.left_eq_add, Nat.add_eq_left, Int.toNat_natCast, Nat.add_assoc, Int.ofNat_lt, Int.ofNat_le, Nat.lt_add_one_of_lt, Nat.lt_add_one, Nat.lt_add_right, Nat.lt_add_right_iff_pos, Nat.add_lt_add_iff_left, hlen, ft, tf]
  have hhl : (encHead c l.length).length = 20 := by unfold encHead; simp [lebs_len]
  have hfl : ∀ j, j ≤ l.length → (((l.take j).map Sop.con).flatMap encC).length ≤ 351 * j := fun j hj => by
    have := flat_len ((l.take j).map Sop.con) fun x hx => by
      obtain ⟨y, hy, rfl⟩ := List.mem_map.1 hx
      exact ⟨(hl y (List.mem_of_mem_take hy)).blen, hops y (List.mem_of_mem_take hy)⟩
    rw [List.length_map, List.length_take, Nat.min_eq_left hj] at this
    exact this
  refine loop_ind (fun m ts s' => ∃ j : Nat, m = l.length - j ∧ j ≤ l.length ∧ ts.get 49 = some (.int .i64 (j : Int)) ∧ ts.get 48 = some (.int .i64 (l.length : Int)) ∧ ts.get 47 = some v ∧ ts.get 6 = some (.ptr q 0) ∧ Stg s2 q (encHead c l.length ++ ((l.take j).map Sop.con).flatMap encC) s') ?_ (n := l.length)
    ⟨0, rfl, by omega, by simp only [Tr.get_set, Nat.reduceEqDiff, ↓reduceIte, Int.cast_ofNat_Int], by simp only [Tr.get_set, Nat.reduceEqDiff, ↓reduceIte, Int.cast_ofNat_Int], by simp only [Tr.get_set, Nat.reduceEqDiff, ↓reduceIte, Int.cast_ofNat_Int], by simp only [Tr.get_set, Nat.reduceEqDiff, ↓reduceIte, Int.cast_ofNat_Int], by simpa using hS6⟩
  clear hS6
  rintro m ts t0 ⟨j, rfl, hj, g49, g48, g47, g6, hS⟩ IH
  by_cases hlt : j < l.length
  · have hPl := hfl j hj
    have hA1 := (hA.mono f02).mono hS.fr
    obtain ⟨b, o, vs, lo, ro, z, hidx, hv, hbl, hle, he⟩ := hA1.at_ j hlt
    have hmem := List.getElem_mem hlt
    have hokS := hl l[j] hmem
    have hok := hokS.mono (fr_keeps (f02.trans hS.fr) hd)
    have hpl := hops l[j] hmem
    have htk : ((l.take (j + 1)).map Sop.con).flatMap encC = ((l.take j).map Sop.con).flatMap encC ++ encC l[j].con := by
      rw [List.take_succ_eq_append_getElem hlt, List.map_append, List.flatMap_append]
      simp only [List.map_cons, List.map_nil, List.flatMap_cons, List.flatMap_nil, List.append_nil]
    generalize l[j] = x at he hok hokS hpl htk
    have wj := succ_in (j := j) (by omega)
    have ht : x.cells.take 25 = x.cells := List.take_of_length_le (by rw [hok.len]; omega)
    obtain ⟨p1, p2, p3, p4, p5, p6, p7⟩ := plain_nums hpl
    have hPl2 : (encHead c l.length ++ ((l.take j).map Sop.con).flatMap encC).length ≤ 20 + 351 * j := by rw [List.length_append, hhl]; omega
    generalize hPe : encHead c l.length ++ ((l.take j).map Sop.con).flatMap encC = P at hS hPl2
    have hkl := hok.keys.len
    simp only [List.length_map] at hkl
    obtain ⟨a8, ha8⟩ : ∃ a8, t0.next = a8 := ⟨_, rfl⟩
    simp -implicitDefEqProofs only [go_sem, Wk_block, Wk_drawnC, reduceCtorEq, Nat.reduceEqDiff, Nat.reduceAdd, Nat.reduceLeDiff, Nat.reduceLT, Nat.reduceMul, Nat.reduceSub, ↓reduceIte, Int.reduceLT, Int.reduceLE, Int.reduceNeg, Int.reduceAdd, Int.reduceEq, Nat.reduceBneDiff, Nat.reduceBEq, Int.reduceToNat, Int.reduceMul, Int.reduceSub, Int.reduceBEq, Int.reduceBNe, Int.cast_ofNat_Int, Int.toNat_natCast_add_one, Nat.add_left_cancel_iff, Nat.left_eq_add, Nat.add_eq_left, Int.toNat_natCast, Nat.add_assoc, Int.ofNat_lt, Int.ofNat_le, Nat.lt_add_one_of_lt, Nat.lt_add_one, Nat.lt_add_right, Nat.lt_add_right_iff_pos, Nat.add_lt_add_iff_left, g49, g48, g47, g6, hlt, hidx, hv, hle, he, hok.len, hok.cell, ht, hok.c0, hok.c1, hok.c2, hok.c3, hkl, ft, tf]
    refine Wl_of (((hS.new _).new _).lit (w := 1) (p := t0.next + 1) (l := [.int .i64 x.kind, .int .i64 x.node, .int .i64 x.key, .int .i64 (x.keys.length : Int)]) (ns := [x.kind.toNat, x.node.toNat, x.key.toNat, x.keys.length]) rfl (by omega) (by omega) (by rw [St.get_new, if_pos (by simp)])
      (by simp [Int.toNat_of_nonneg (show 0 ≤ x.kind from p1.1), Int.toNat_of_nonneg (show 0 ≤ x.node from p2.1), Int.toNat_of_nonneg (show 0 ≤ x.key from p3.1)]) rfl (by
      have q1 : x.kind ≤ 18 := p1.2
      have q2 : x.node < 2 := p2.2
      have q3 : x.key ≤ 255 := p3.2
      have q5 : x.keys.length ≤ 64 := p5
      intro n hn
      simp only [List.mem_cons, List.not_mem_nil, or_false] at hn
      rcases hn with rfl | rfl | rfl | rfl <;> exact b1 (by omega)) (by omega)) ?_
    rintro _ t1 ⟨hS1, f1'⟩
    have l1 := hS.lt
    have ga1 := (f1'.get a8 (by simp only [St.next_new]; omega) (by omega)).trans ((St.get_new ..).trans ((if_neg (by simp only [St.next_new]; omega)).trans ((St.get_new ..).trans (if_pos ha8.symm))))
    have hok1 := hokS.mono (fr_keeps (f02.trans hS1.fr) hd)
    simp -implicitDefEqProofs only [go_sem, Wk_block, Wk_drawnC, reduceCtorEq, Nat.reduceEqDiff, Nat.reduceAdd, Nat.reduceLeDiff, Nat.reduceLT, Nat.reduceMul, Nat.reduceSub, ↓reduceIte, Int.reduceLT, Int.reduceLE, Int.reduceNeg, Int.reduceAdd, Int.reduceEq, Nat.reduceBneDiff, Nat.reduceBEq, Int.reduceToNat, Int.reduceMul, Int.reduceSub, Int.reduceBEq, Int.reduceBNe, Int.cast_ofNat_Int, Int.toNat_natCast_add_one, Nat.add_left_cancel_iff, Nat.left_eq_add, Nat.add_eq_left, Int.toNat_natCast, Nat.add_assoc, Int.ofNat_lt, Int.ofNat_le, Nat.lt_add_one_of_lt, Nat.lt_add_one, Nat.lt_add_right, Nat.lt_add_right_iff_pos, Nat.add_lt_add_iff_left, ha8, g6, ga1, hok.c3, ft, tf]
    have hks0 : ∀ k ∈ x.keys, 0 ≤ k ∧ k ≤ 255 := p6
    have hrow := hok1.keys
    rw [toNat_map fun k hk => (hks0 k hk).1] at hrow
    have p5' : x.keys.length ≤ 64 := p5
    have l1' : (P ++ lebs 1 [x.kind.toNat, x.node.toNat, x.key.toNat, x.keys.length]).length ≤ 24 + 351 * j := by simp [lebs_len]; omega
    refine Wl_of (hS1.row (w := 1) (ns := x.keys.map Int.toNat) rfl (by omega) (by omega) hrow (by
      intro n hn
      obtain ⟨k, hk, rfl⟩ := List.mem_map.1 hn
      have := hks0 k hk
      exact b1 (by omega)) (by rw [List.length_map]; omega)) ?_
    rintro _ t2 ⟨hS2, f2'⟩
    have l2 := hS1.lt
    have ha8q : a8 ≠ q := by omega
    have ga2 := (f2'.get a8 (hS1.dom _ _ ga1) ha8q).trans ga1
    have l2' : (P ++ lebs 1 [x.kind.toNat, x.node.toNat, x.key.toNat, x.keys.length] ++ lebs 1 (x.keys.map Int.toNat)).length ≤ 88 + 351 * j := by rw [List.length_append, lebs_len, List.length_map]; omega
    obtain ⟨u2, u3, t3, e1, e2, e3, e4, hS3, k3⟩ := hS2.app x.blk (by rw [hok.blen]; omega)
    have hsrc : srcA t2 1 (.slice a8 4 16 16 false) = some (16, x.blk.map u8) := by
      show (match loadA t2 a8 4 (16 * 1) with | some l => some (16, l) | none => none) = _
      have : loadA t2 a8 4 (16 * 1) = some (x.blk.map u8) := by
        unfold loadA
        rw [ga2]
        simp only
        rw [if_pos (by rw [hok.len]; omega), hok.blk]
      rw [this]
    rw [hok.blen] at e2
    have ga3 := k3 a8 _ _ _ ha8q ga2
    have hbl16 : (x.blk.map u8).length = 16 := by rw [List.length_map, hok.blen]
    have hbd : boundsA 16 16 none none none = some (0, 16, 16) := rfl
    have ga3t : t3.get a8 = some (.cells x.cells false false 0) := by
      rw [St.get_put, if_neg ha8q] at ga3
      exact ga3
    have hl2 : 22 ≤ x.cells.length := by rw [hok.len]; omega
    have h4 : (t3.put q (.cells [u3] false false 0)).get q = some (.cells [u3] false false 0) := by rw [St.get_put, if_pos rfl]
    have n4 : (t3.put q (.cells [u3] false false 0)).next = t3.next := rfl
    simp -implicitDefEqProofs only [go_sem, Wk_block, Wk_drawnC, reduceCtorEq, Nat.reduceEqDiff, Nat.reduceAdd, Nat.reduceLeDiff, Nat.reduceLT, Nat.reduceMul, Nat.reduceSub, ↓reduceIte, Int.reduceLT, Int.reduceLE, Int.reduceNeg, Int.reduceAdd, Int.reduceEq, Nat.reduceBneDiff, Nat.reduceBEq, Int.reduceToNat, Int.reduceMul, Int.reduceSub, Int.reduceBEq, Int.reduceBNe, Int.cast_ofNat_Int, Int.toNat_natCast_add_one, Nat.add_left_cancel_iff, Nat.left_eq_add, Nat.add_eq_left, Int.toNat_natCast, Nat.add_assoc, Int.ofNat_lt, Int.ofNat_le, Nat.lt_add_one_of_lt, Nat.lt_add_one, Nat.lt_add_right, Nat.lt_add_right_iff_pos, Nat.add_lt_add_iff_left, ha8, g6, e1, ga2, hsrc, e2, e3, e4, hbl16, hbd, ga3t, ha8q, hok.lab, hl2, ft, tf]
    rw [← n4]
    generalize t3.put q (.cells [u3] false false 0) = t4 at hS3 ga3 h4 ⊢
    have l4 := hS3.lt
    have l3' : (P ++ lebs 1 [x.kind.toNat, x.node.toNat, x.key.toNat, x.keys.length] ++ lebs 1 (x.keys.map Int.toNat) ++ x.blk).length ≤ 104 + 351 * j := by rw [List.length_append, hok.blen]; omega
    obtain ⟨u5, h5, hW⟩ := (hS3.new (.cells [.int .u32 (x.e : Int), .int .u32 (x.q : Int)] false false 0)).lab (p := t4.next) (e := x.e) (n := x.q) (by omega) (by rw [St.get_new, if_pos rfl]) hok.elt hok.qlt
    rw [St.get_new, if_neg (by omega), h4] at h5
    cases h5
    refine Wl_of hW ?_
    rintro v5 t5 ⟨e5, e6, hS5, f5⟩
    have ga5 := (f5.get a8 (by have := hS3.dom _ _ ga3; simp only [St.next_new]; omega) ha8q).trans ((St.get_new ..).trans ((if_neg (by have := hS3.dom _ _ ga3; omega)).trans ga3))
    have ga5t : t5.get a8 = some (.cells x.cells false false 0) := by
      rw [St.get_put, if_neg ha8q] at ga5
      exact ga5
    have hat : IntKind.i64.wrap (x.at_ + 1) = ((x.at_ + 1).toNat : Int) := by
      have q1 : -1 ≤ x.at_ := p4.1
      have q2 : x.at_ < 65535 := p4.2
      rw [i64_in (by omega) (by omega)]
      omega
    have hat2 : (x.at_ + 1).toNat < 65536 := by
      have q2 : x.at_ < 65535 := p4.2
      omega
    have n5 : (t5.put q (.cells [v5] false false 0)).next = t5.next := rfl
    simp -implicitDefEqProofs only [go_sem, Wk_block, Wk_drawnC, reduceCtorEq, Nat.reduceEqDiff, Nat.reduceAdd, Nat.reduceLeDiff, Nat.reduceLT, Nat.reduceMul, Nat.reduceSub, ↓reduceIte, Int.reduceLT, Int.reduceLE, Int.reduceNeg, Int.reduceAdd, Int.reduceEq, Nat.reduceBneDiff, Nat.reduceBEq, Int.reduceToNat, Int.reduceMul, Int.reduceSub, Int.reduceBEq, Int.reduceBNe, Int.cast_ofNat_Int, Int.toNat_natCast_add_one, Nat.add_left_cancel_iff, Nat.left_eq_add, Nat.add_eq_left, Int.toNat_natCast, Nat.add_assoc, Int.ofNat_lt, Int.ofNat_le, Nat.lt_add_one_of_lt, Nat.lt_add_one, Nat.lt_add_right, Nat.lt_add_right_iff_pos, Nat.add_lt_add_iff_left, ha8, g6, e5, e6, ga5t, ha8q, hok.c22, hat, ft, tf]
    rw [← n5]
    generalize t5.put q (.cells [v5] false false 0) = t6 at hS5 ga5 ⊢
    have l6 := hS5.lt
    have l6' := hS5.dom _ _ ga5
    have l5' : (P ++ lebs 1 [x.kind.toNat, x.node.toNat, x.key.toNat, x.keys.length] ++ lebs 1 (x.keys.map Int.toNat) ++ x.blk ++ lebs 4 [x.e, x.q]).length ≤ 112 + 351 * j := by rw [List.length_append, lebs_len]; simp only [List.length_cons, List.length_nil]; omega
    refine Wl_of ((hS5.new _).lit (w := 2) (p := t6.next) (l := [.int .i64 ((x.at_ + 1).toNat : Int)]) (ns := [(x.at_ + 1).toNat]) rfl (by omega) (by omega) (by rw [St.get_new, if_pos rfl]) rfl rfl (by intro n hn; rw [List.mem_singleton.1 hn]; exact b2 hat2) (by omega)) ?_
    rintro _ t7 ⟨hS7, f7⟩
    have ga7 := (f7.get a8 (by simp only [St.next_new]; omega) ha8q).trans ((St.get_new ..).trans ((if_neg (by omega)).trans ga5))
    have hwl := hok.keep.len
    have hmk : IntKind.i64.wrap (x.mask : Int) = (x.mask : Int) := i64_in (by omega) (by have := hok.mlt; omega)
    simp -implicitDefEqProofs only [go_sem, Wk_block, Wk_drawnC, reduceCtorEq, Nat.reduceEqDiff, Nat.reduceAdd, Nat.reduceLeDiff, Nat.reduceLT, Nat.reduceMul, Nat.reduceSub, ↓reduceIte, Int.reduceLT, Int.reduceLE, Int.reduceNeg, Int.reduceAdd, Int.reduceEq, Nat.reduceBneDiff, Nat.reduceBEq, Int.reduceToNat, Int.reduceMul, Int.reduceSub, Int.reduceBEq, Int.reduceBNe, Int.cast_ofNat_Int, Int.toNat_natCast_add_one, Nat.add_left_cancel_iff, Nat.left_eq_add, Nat.add_eq_left, Int.toNat_natCast, Nat.add_assoc, Int.ofNat_lt, Int.ofNat_le, Nat.lt_add_one_of_lt, Nat.lt_add_one, Nat.lt_add_right, Nat.lt_add_right_iff_pos, Nat.add_lt_add_iff_left, ha8, g6, ga7, hok.c23, hok.c24, hmk, hwl, ft, tf]
    have l7' : (P ++ lebs 1 [x.kind.toNat, x.node.toNat, x.key.toNat, x.keys.length] ++ lebs 1 (x.keys.map Int.toNat) ++ x.blk ++ lebs 4 [x.e, x.q] ++ lebs 2 [(x.at_ + 1).toNat]).length ≤ 114 + 351 * j := by rw [List.length_append, lebs_len]; simp only [List.length_cons, List.length_nil]; omega
    have p7' : x.keep.length ≤ 255 := p7
    refine Wl_of ((hS7.new _).lit (w := 1) (p := t7.next) (l := [.int .i64 (x.mask : Int), .int .i64 (x.keep.length : Int)]) (ns := [x.mask, x.keep.length]) rfl (by omega) (by omega) (by rw [St.get_new, if_pos rfl]) rfl rfl (by
      have := hok.mlt
      intro n hn
      simp only [List.mem_cons, List.not_mem_nil, or_false] at hn
      rcases hn with rfl | rfl <;> exact b1 (by omega)) (by omega)) ?_
    rintro _ t8 ⟨hS8, f8⟩
    have l7 := hS7.dom _ _ ga7
    have ga8 := (f8.get a8 (by simp only [St.next_new]; omega) ha8q).trans ((St.get_new ..).trans ((if_neg (by omega)).trans ga7))
    have l8' : (P ++ lebs 1 [x.kind.toNat, x.node.toNat, x.key.toNat, x.keys.length] ++ lebs 1 (x.keys.map Int.toNat) ++ x.blk ++ lebs 4 [x.e, x.q] ++ lebs 2 [(x.at_ + 1).toNat] ++ lebs 1 [x.mask, x.keep.length]).length ≤ 116 + 351 * j := by rw [List.length_append, lebs_len]; simp only [List.length_cons, List.length_nil]; omega
    obtain ⟨u8, u9, t9, i1, i2, i3, i4, hS9, -⟩ := hS8.app x.keep (by omega)
    have hsrc8 := (hokS.mono (fr_keeps (f02.trans hS8.fr) hd)).src t8 (fun _ _ h => h)
    have hkl16 : (x.keep.map Lw.u8).length = x.keep.length := by rw [List.length_map]
    simp -implicitDefEqProofs only [go_sem, Wk_block, Wk_drawnC, reduceCtorEq, Nat.reduceEqDiff, Nat.reduceAdd, Nat.reduceLeDiff, Nat.reduceLT, Nat.reduceMul, Nat.reduceSub, ↓reduceIte, Int.reduceLT, Int.reduceLE, Int.reduceNeg, Int.reduceAdd, Int.reduceEq, Nat.reduceBneDiff, Nat.reduceBEq, Int.reduceToNat, Int.reduceMul, Int.reduceSub, Int.reduceBEq, Int.reduceBNe, Int.cast_ofNat_Int, Int.toNat_natCast_add_one, Nat.add_left_cancel_iff, Nat.left_eq_add, Nat.add_eq_left, Int.toNat_natCast, Nat.add_assoc, Int.ofNat_lt, Int.ofNat_le, Nat.lt_add_one_of_lt, Nat.lt_add_one, Nat.lt_add_right, Nat.lt_add_right_iff_pos, Nat.add_lt_add_iff_left, ha8, g6, g49, g48, g47, i1, ga8, hok.c24, hsrc8, i2, i3, i4, hkl16, Nat.mul_one, eq_self, wj, ft, tf]
    refine IH (l.length - (j + 1)) _ _ (by omega) ⟨j + 1, rfl, by omega, ?_, ?_, ?_, ?_, ?_⟩
    · simp only [Tr.get_set, Nat.reduceEqDiff, ↓reduceIte, Int.cast_ofNat_Int]
    · simp only [Tr.get_set, Nat.reduceEqDiff, ↓reduceIte, Int.cast_ofNat_Int, g48]
    · simp only [Tr.get_set, Nat.reduceEqDiff, ↓reduceIte, Int.cast_ofNat_Int, g47]
    · simp only [Tr.get_set, Nat.reduceEqDiff, ↓reduceIte, Int.cast_ofNat_Int, g6]
    · rw [htk, ← List.append_assoc, hPe]
      have hec : encC x.con = lebs 1 [x.kind.toNat, x.node.toNat, x.key.toNat, x.keys.length] ++ lebs 1 (x.keys.map Int.toNat) ++ x.blk ++ lebs 4 [x.e, x.q] ++ lebs 2 [(x.at_ + 1).toNat] ++ lebs 1 [x.mask, x.keep.length] ++ x.keep := rfl
      rw [hec]
      simp only [List.append_assoc] at hS9 ⊢
      exact hS9
  · have : j = l.length := by omega
    subst this
    rw [List.take_length] at hS
    have hlf : decide ((l.length : Int) < (l.length : Int)) = false := decide_eq_false (by omega)
    obtain ⟨u, hu1, hu2⟩ := hS.get
    have huc := hu2.cell
    simp -implicitDefEqProofs only [go_sem, Wk_block, Wk_drawnC, reduceCtorEq, Nat.reduceEqDiff, Nat.reduceAdd, Nat.reduceLeDiff, Nat.reduceLT, Nat.reduceMul, Nat.reduceSub, ↓reduceIte, Int.reduceLT, Int.reduceLE, Int.reduceNeg, Int.reduceAdd, Int.reduceEq, Nat.reduceBneDiff, Nat.reduceBEq, Int.reduceToNat, Int.reduceMul, Int.reduceSub, Int.reduceBEq, Int.reduceBNe, Int.cast_ofNat_Int, Int.toNat_natCast_add_one, Nat.add_left_cancel_iff, Nat.left_eq_add, Nat.add_eq_left, Int.toNat_natCast, Nat.add_assoc, Int.ofNat_lt, Int.ofNat_le, Nat.lt_add_one_of_lt, Nat.lt_add_one, Nat.lt_add_right, Nat.lt_add_right_iff_pos, Nat.add_lt_add_iff_left, g49, g48, g6, hlf, hlt, hu1, huc, ft, tf]
    refine ⟨fun _ => ⟨u, rfl, ?_⟩, f02.trans hS.fr, hS.dom⟩
    unfold encA
    rw [List.length_map]
    exact hu2.le (by omega)
end Go.Proofs.YteiiblpnegjjlaaGreat.Lw
namespace Go.Proofs.YteiiblpnegjjlaaGreat.Lw
open D
set_option linter.unusedSimpArgs false
set_option linter.unusedVariables false
set_option maxRecDepth 10000

theorem leb_snoc : ∀ (k n : Nat), leb (k + 1) n = leb k n ++ [shf k n % 256]
  | 0, n => rfl
  | k + 1, n => by
    have := leb_snoc k (n / 256)
    rw [leb, this]
    rfl
theorem OutB.len {s : St} {N : Nat} {w : AV} {L : List AV} (h : OutB s N w L) (s' : St) : len1 (some w) s' = some (.int .i64 (L.length : Nat), s') := by
  rcases h with ⟨rfl, rfl⟩ | ⟨p, rfl, rfl, _⟩ | ⟨p, rfl, _⟩ <;> rfl
theorem OutB.src {s : St} {N : Nat} {w : AV} {L : List AV} (h : OutB s N w L) : srcA s 1 w = some (L.length, L) := by
  rcases h with ⟨rfl, rfl⟩ | ⟨p, rfl, rfl, h2, h3, h4⟩ | ⟨p, rfl, h1, h2, h3, h4⟩
  · rfl
  · show (match loadA s p 0 (0 * 1) with | some l => some (0, l) | none => none) = _
    have : loadA s p 0 (0 * 1) = some [] := by unfold loadA; rw [h4]; simp
    rw [this]; rfl
  · show (match loadA s p 0 (L.length * 1) with | some l => some (L.length, l) | none => none) = _
    have : loadA s p 0 (L.length * 1) = some L := by unfold loadA; rw [h4]; simp [List.take_of_length_le]
    rw [this]
theorem OutB.frx' {s s' : St} {N : Nat} {w : AV} {L : List AV} (h : OutB s N w L) (f : Fr s s') : OutB s' N w L := by
  rcases h with h | ⟨p, h1, h2, h3, h4, h5⟩ | ⟨p, h1, h2, h3, h4, h5⟩
  · exact .inl h
  · exact .inr (.inl ⟨p, h1, h2, h3, Nat.lt_of_lt_of_le h4 f.le, (f.get p h4).trans h5⟩)
  · exact .inr (.inr ⟨p, h1, h2, h3, Nat.lt_of_lt_of_le h4 f.le, (f.get p h4).trans h5⟩)
theorem shf_lt : ∀ (k n m : Nat), n < m → shf k n < m
  | 0, n, m, h => h
  | k + 1, n, m, h => shf_lt k (n / 256) m (by omega)

theorem refB_run (n w : Nat) (hn : n < 18446744073709551616) (hw : w ≤ 8) {s : St} (hd : Dom s) : Wf mm 45 [.int .u64 (n : Int), .int .i64 (w : Int)] s fun v s' => (∃ u b, v = .tup [u, .bool b] ∧ OutB s' s.next u ((leb w n).map u8)) ∧ Fr s s' ∧ Dom s' := by
  refine ((Wf_enter ft45 (sm (by decide)) (by rfl) ?_ : Wf mm 45 [.int .u64 (n : Int), .int .i64 (w : Int)] s fun v s' => (∃ u b, v = .tup [u, .bool b] ∧ OutB s' s.next u ((leb w n).map u8)) ∧ ∀ b, b < s.next → s'.get b = s.get b).stp mm_st).mono ?_
  rotate_left
  · rintro v s' ⟨⟨h1, h2⟩, st⟩
    exact ⟨h1, ⟨st.le, h2⟩, st.dom hd⟩
  have ft : (false == true) = false := rfl
  have tf : (true == false) = false := rfl
  have g0 : (s.new (.cells [] false false 0)).get s.next = some (.cells [] false false 0) := by rw [St.get_new, if_pos rfl]
  simp -implicitDefEqProofs only [go_sem, Wk_block, Wk_drawnC, reduceCtorEq, Nat.reduceEqDiff, Nat.reduceAdd, Nat.reduceLeDiff, Nat.reduceLT, Nat.reduceMul, Nat.reduceSub, ↓reduceIte, Int.reduceLT, Int.reduceLE, Int.reduceNeg, Int.reduceAdd, Int.reduceEq, Nat.reduceBneDiff, Nat.reduceBEq, Int.reduceToNat, Int.reduceMul, Int.reduceSub, Int.reduceBEq, Int.reduceBNe, Int.cast_ofNat_Int, Int.toNat_natCast_add_one, Nat.add_left_cancel_iff, Nat.left_eq_add, Nat.add_eq_left, Int.toNat_natCast, Nat.add_assoc, Int.ofNat_lt, Int.ofNat_le, Nat.lt_add_one_of_lt, Nat.lt_add_one, Nat.lt_add_right, Nat.lt_add_right_iff_pos, Nat.add_lt_add_iff_left, fd45, ft, tf]
  refine loop_ind (fun m ts s' => ∃ (k : Nat) (u : AV), m = w - k ∧ k ≤ w ∧ ts.get 6 = some u ∧ ts.get 0 = some (.int .u64 ((shf k n : Nat) : Int)) ∧ ts.get 1 = some (.int .i64 (w : Int)) ∧ OutB s' s.next u ((leb k n).map u8) ∧ s.next ≤ s'.next ∧ ∀ b, b < s.next → s'.get b = s.get b) ?_ (n := w)
    ⟨0, .slice s.next 0 0 0 false, rfl, by omega, by simp only [Tr.get_set, Nat.reduceEqDiff, ↓reduceIte, Int.cast_ofNat_Int], by simp only [Tr.get_set, Nat.reduceEqDiff, ↓reduceIte, Int.cast_ofNat_Int]; rfl, by simp only [Tr.get_set, Nat.reduceEqDiff, ↓reduceIte, Int.cast_ofNat_Int], .inr (.inl ⟨s.next, rfl, rfl, Nat.le_refl _, by simp, g0⟩), by simp, fun b hb => by rw [St.get_new, if_neg (by omega)]⟩
  rintro m ts s1 ⟨k, u, rfl, hk, g6, g0', g1, ho, hn1, hg⟩ IH
  have hol := ho.len
  rw [List.length_map, leb_len] at hol
  by_cases hlt : k < w
  · have hls := leb_snoc k n
    have hss := shf_succ k n
    have hlk := leb_len k n
    have hsl := shf_lt k n _ hn
    generalize shf k n = y at g0' hls hss hsl
    obtain ⟨w', s3, happ, ho3, hn3, hfr, st, -⟩ := (ho.new (.cells [.int .u8 ((y % 256 : Nat) : Int)] false false 0)).app (by simp only [St.next_new]; omega) [y % 256] (by rw [List.length_map, hlk]; simp; omega)
    have hlt2 : w' = w' := rfl
    have wm0 : ((y : Int).tmod 256) = ((y % 256 : Nat) : Int) := by rw [Int.tmod_eq_emod_of_nonneg (by omega)]; omega
    have wm : IntKind.u8.wrap ((y % 256 : Nat) : Int) = ((y % 256 : Nat) : Int) := u8_in (by omega) (by omega)
    have wq0 : ((y : Int).tdiv 256) = ((y / 256 : Nat) : Int) := by rw [Int.tdiv_eq_ediv_of_nonneg (by omega)]; omega
    have wq : IntKind.u64.wrap ((y / 256 : Nat) : Int) = ((y / 256 : Nat) : Int) := u64_in (by omega) (by omega)
    have happ' : appendA 1 1 (s1.new (.cells [.int .u8 ((y % 256 : Nat) : Int)] false false 0)) u 1 [.int .u8 ((y % 256 : Nat) : Int)] = some (w', s3) := happ
    simp -implicitDefEqProofs only [go_sem, Wk_block, Wk_drawnC, reduceCtorEq, Nat.reduceEqDiff, Nat.reduceAdd, Nat.reduceLeDiff, Nat.reduceLT, Nat.reduceMul, Nat.reduceSub, ↓reduceIte, Int.reduceLT, Int.reduceLE, Int.reduceNeg, Int.reduceAdd, Int.reduceEq, Nat.reduceBneDiff, Nat.reduceBEq, Int.reduceToNat, Int.reduceMul, Int.reduceSub, Int.reduceBEq, Int.reduceBNe, Int.cast_ofNat_Int, Int.toNat_natCast_add_one, Nat.add_left_cancel_iff, Nat.left_eq_add, Nat.add_eq_left, Int.toNat_natCast, Nat.add_assoc, Int.ofNat_lt, Int.ofNat_le, Nat.lt_add_one_of_lt, Nat.lt_add_one, Nat.lt_add_right, Nat.lt_add_right_iff_pos, Nat.add_lt_add_iff_left, g6, g0', g1, hol, hlt, wm0, wm, wq0, wq, srcA, happ', Nat.mul_one, eq_self, ft, tf]
    refine IH (w - (k + 1)) _ _ (by omega) ⟨k + 1, w', rfl, by omega, ?_, ?_, ?_, ?_, ?_, fun b hb => ?_⟩
    · simp only [Tr.get_set, Nat.reduceEqDiff, ↓reduceIte, Int.cast_ofNat_Int]
    · rw [hss]; simp only [Tr.get_set, Nat.reduceEqDiff, ↓reduceIte, Int.cast_ofNat_Int]
    · simp only [Tr.get_set, Nat.reduceEqDiff, ↓reduceIte, Int.cast_ofNat_Int, g1]
    · rw [hls, List.map_append]; exact ho3
    · simp only [St.next_new] at hn3; omega
    · rw [hfr b hb, St.get_new, if_neg (by omega)]; exact hg b hb
  · have : k = w := by omega
    subst this
    have hlf : decide ((k : Int) < (k : Int)) = false := decide_eq_false (by omega)
    simp -implicitDefEqProofs only [go_sem, Wk_block, Wk_drawnC, reduceCtorEq, Nat.reduceEqDiff, Nat.reduceAdd, Nat.reduceLeDiff, Nat.reduceLT, Nat.reduceMul, Nat.reduceSub, ↓reduceIte, Int.reduceLT, Int.reduceLE, Int.reduceNeg, Int.reduceAdd, Int.reduceEq, Nat.reduceBneDiff, Nat.reduceBEq, Int.reduceToNat, Int.reduceMul, Int.reduceSub, Int.reduceBEq, Int.reduceBNe, Int.cast_ofNat_Int, Int.toNat_natCast_add_one, Nat.add_left_cancel_iff, Nat.left_eq_add, Nat.add_eq_left, Int.toNat_natCast, Nat.add_assoc, Int.ofNat_lt, Int.ofNat_le, Nat.lt_add_one_of_lt, Nat.lt_add_one, Nat.lt_add_right, Nat.lt_add_right_iff_pos, Nat.add_lt_add_iff_left, g6, g0', g1, hol, hlt, hlf, ft, tf]
    exact ⟨⟨_, _, rfl, ho⟩, hg⟩

/-- Pairs of a width and a number, as cells. -/
def pairC (x : Nat × Nat) : List AV := [.int .u64 (x.1 : Int), .int .u64 (x.2 : Int)]
def fieldsN (l : List (Nat × Nat)) : List Nat := l.flatMap fun x => leb x.1 x.2
theorem pair_at : ∀ (l : List (Nat × Nat)) (i : Nat) (h : i < l.length), ((l.flatMap pairC).drop (i * 2)).take 2 = pairC l[i]
  | x :: l, 0, _ => by simp [pairC]
  | x :: l, i + 1, h => by
    have := pair_at l i (by simpa using h)
    rw [List.flatMap_cons, show (i + 1) * 2 = i * 2 + 1 + 1 by omega]
    simpa [pairC] using this
theorem pair_len (l : List (Nat × Nat)) : (l.flatMap pairC).length = l.length * 2 := by
  induction l with
  | nil => rfl
  | cons a l ih => rw [List.flatMap_cons, List.length_append, ih, List.length_cons]; simp [pairC]; omega
theorem fields_len (l : List (Nat × Nat)) (h : ∀ x ∈ l, x.1 ≤ 8) : (fieldsN l).length ≤ 8 * l.length := by
  induction l with
  | nil => simp [fieldsN]
  | cons a l ih =>
    have h1 := h a (List.mem_cons_self ..)
    have h2 := ih fun x hx => h x (List.mem_cons_of_mem _ hx)
    unfold fieldsN at *
    rw [List.flatMap_cons, List.length_append, leb_len, List.length_cons]
    omega
theorem refF_run (l : List (Nat × Nat)) (hl : ∀ x ∈ l, x.1 ≤ 8 ∧ x.2 < 18446744073709551616) (hll : l.length ≤ 100) {s : St} {p c k : Nat} {x : Bool} {L : List AV} {lo ro : Bool} {z : Nat} (hp : s.get p = some (.cells L lo ro z)) (hL : L = l.flatMap pairC) (hk : l.length = k) (hd : Dom s) :
    Wf mm 29 [.slice p 0 k c x] s fun v s' => OutB s' s.next v ((fieldsN l).map u8) ∧ Fr s s' ∧ Dom s' := by
  subst hL
  subst hk
  refine ((Wf_enter ft29 (sm (by decide)) (by rfl) ?_ : Wf mm 29 [.slice p 0 l.length c x] s fun v s' => OutB s' s.next v ((fieldsN l).map u8) ∧ ∀ b, b < s.next → s'.get b = s.get b).stp mm_st).mono ?_
  rotate_left
  · rintro v s' ⟨⟨h1, h2⟩, st⟩
    exact ⟨h1, ⟨st.le, h2⟩, st.dom hd⟩
  have ft : (false == true) = false := rfl
  have tf : (true == false) = false := rfl
  have hpl := hd _ _ hp
  have g0 : (s.new (.cells [] false false 0)).get s.next = some (.cells [] false false 0) := by rw [St.get_new, if_pos rfl]
  simp -implicitDefEqProofs only [go_sem, Wk_block, Wk_drawnC, reduceCtorEq, Nat.reduceEqDiff, Nat.reduceAdd, Nat.reduceLeDiff, Nat.reduceLT, Nat.reduceMul, Nat.reduceSub, ↓reduceIte, Int.reduceLT, Int.reduceLE, Int.reduceNeg, Int.reduceAdd, Int.reduceEq, Nat.reduceBneDiff, Nat.reduceBEq, Int.reduceToNat, Int.reduceMul, Int.reduceSub, Int.reduceBEq, Int.reduceBNe, Int.cast_ofNat_Int, Int.toNat_natCast_add_one, Nat.add_left_cancel_iff, Nat.left_eq_add, Nat.add_eq_left, Int.toNat_natCast, Nat.add_assoc, Int.ofNat_lt, Int.ofNat_le, Nat.lt_add_one_of_lt, Nat.lt_add_one, Nat.lt_add_right, Nat.lt_add_right_iff_pos, Nat.add_lt_add_iff_left, fd29, ft, tf]
  refine loop_ind (fun m ts s' => ∃ (j : Nat) (u : AV), m = l.length - j ∧ j ≤ l.length ∧ ts.get 11 = some (.int .i64 (j : Int)) ∧ ts.get 10 = some (.int .i64 (l.length : Int)) ∧ ts.get 9 = some (.slice p 0 l.length c x) ∧ ts.get 3 = some u ∧ OutB s' s.next u ((fieldsN (l.take j)).map u8) ∧ s.next ≤ s'.next ∧ (∀ b, b < s.next → s'.get b = s.get b) ∧ Dom s') ?_ (n := l.length)
    ⟨0, .slice s.next 0 0 0 false, rfl, by omega, by simp only [Tr.get_set, Nat.reduceEqDiff, ↓reduceIte, Int.cast_ofNat_Int], by simp only [Tr.get_set, Nat.reduceEqDiff, ↓reduceIte, Int.cast_ofNat_Int], by simp only [Tr.get_set, Nat.reduceEqDiff, ↓reduceIte, Int.cast_ofNat_Int], by simp only [Tr.get_set, Nat.reduceEqDiff, ↓reduceIte, Int.cast_ofNat_Int], .inr (.inl ⟨s.next, rfl, rfl, Nat.le_refl _, by simp, g0⟩), by simp, fun b hb => by rw [St.get_new, if_neg (by omega)], dom_new hd _⟩
  rintro m ts s1 ⟨j, u, rfl, hj, g11, g10, g9, g3, ho, hn1, hg, dd⟩ IH
  by_cases hlt : j < l.length
  · have hidx : ∀ s', idx1 2 (some (.slice p 0 l.length c x)) (some (.int .i64 (j : Int))) s' = some (.ptr p (0 + j * 2), s') := fun s' => idx1_slice hlt
    have hv : s1.get p = some (.cells (l.flatMap pairC) lo ro z) := (hg p hpl).trans hp
    have hle : j * 2 + 2 ≤ (l.flatMap pairC).length := by rw [pair_len]; omega
    have hat := pair_at l j hlt
    obtain ⟨h8, h64⟩ := hl l[j] (List.getElem_mem hlt)
    have htk : fieldsN (l.take (j + 1)) = fieldsN (l.take j) ++ leb l[j].1 l[j].2 := by
      rw [List.take_succ_eq_append_getElem hlt]
      unfold fieldsN
      rw [List.flatMap_append]
      simp
    have hfl := fields_len (l.take j) fun x hx => (hl x (List.mem_of_mem_take hx)).1
    rw [List.length_take, Nat.min_eq_left (by omega)] at hfl
    generalize l[j] = y at hat h8 h64 htk
    obtain ⟨w, n⟩ := y
    have wj := succ_in (j := j) (by omega)
    have ww : IntKind.i64.wrap (w : Int) = (w : Int) := i64_in (by omega) (by simp only at h8; omega)
    simp only [pairC] at hat
    simp -implicitDefEqProofs only [go_sem, Wk_block, Wk_drawnC, reduceCtorEq, Nat.reduceEqDiff, Nat.reduceAdd, Nat.reduceLeDiff, Nat.reduceLT, Nat.reduceMul, Nat.reduceSub, ↓reduceIte, Int.reduceLT, Int.reduceLE, Int.reduceNeg, Int.reduceAdd, Int.reduceEq, Nat.reduceBneDiff, Nat.reduceBEq, Int.reduceToNat, Int.reduceMul, Int.reduceSub, Int.reduceBEq, Int.reduceBNe, Int.cast_ofNat_Int, Int.toNat_natCast_add_one, Nat.add_left_cancel_iff, Nat.left_eq_add, Nat.add_eq_left, Int.toNat_natCast, Nat.add_assoc, Int.ofNat_lt, Int.ofNat_le, Nat.lt_add_one_of_lt, Nat.lt_add_one, Nat.lt_add_right, Nat.lt_add_right_iff_pos, Nat.add_lt_add_iff_left, g11, g10, g9, g3, hlt, hidx, hv, hle, hat, ww, ft, tf]
    refine Wl_of (refB_run n w h64 h8 (dom_new dd _)) ?_
    rintro _ s2 ⟨⟨u2, b2, rfl, ho2⟩, f2, dd2⟩
    simp only [St.next_new] at ho2
    have hsrc := ho2.src
    have hl2 : ((leb w n).map u8).length = w := by rw [List.length_map, leb_len]
    rw [hl2] at hsrc
    have ho' : OutB s2 s.next u ((fieldsN (l.take j)).map u8) := (ho.new _).frx' f2
    obtain ⟨w', s3, happ, ho3, hn3, hfr, st, -⟩ := ho'.app (Nat.le_trans (Nat.le_succ_of_le hn1) (by have := f2.le; simp only [St.next_new] at this; omega)) (leb w n) (by rw [List.length_map, leb_len]; simp only at h8; omega)
    rw [leb_len] at happ
    simp -implicitDefEqProofs only [go_sem, Wk_block, Wk_drawnC, reduceCtorEq, Nat.reduceEqDiff, Nat.reduceAdd, Nat.reduceLeDiff, Nat.reduceLT, Nat.reduceMul, Nat.reduceSub, ↓reduceIte, Int.reduceLT, Int.reduceLE, Int.reduceNeg, Int.reduceAdd, Int.reduceEq, Nat.reduceBneDiff, Nat.reduceBEq, Int.reduceToNat, Int.reduceMul, Int.reduceSub, Int.reduceBEq, Int.reduceBNe, Int.cast_ofNat_Int, Int.toNat_natCast_add_one, Nat.add_left_cancel_iff, Nat.left_eq_add, Nat.add_eq_left, Int.toNat_natCast, Nat.add_assoc, Int.ofNat_lt, Int.ofNat_le, Nat.lt_add_one_of_lt, Nat.lt_add_one, Nat.lt_add_right, Nat.lt_add_right_iff_pos, Nat.add_lt_add_iff_left, g11, g10, g9, g3, hsrc, hl2, happ, wj, Nat.mul_one, eq_self, ft, tf]
    have hn2 := f2.le
    simp only [St.next_new] at hn2
    refine IH (l.length - (j + 1)) _ _ (by omega) ⟨j + 1, w', rfl, by omega, ?_, ?_, ?_, ?_, ?_, by omega, fun b hb => ?_, st.dom dd2⟩
    · simp only [Tr.get_set, Nat.reduceEqDiff, ↓reduceIte, Int.cast_ofNat_Int]
    · simp only [Tr.get_set, Nat.reduceEqDiff, ↓reduceIte, Int.cast_ofNat_Int, g10]
    · simp only [Tr.get_set, Nat.reduceEqDiff, ↓reduceIte, Int.cast_ofNat_Int, g9]
    · simp only [Tr.get_set, Nat.reduceEqDiff, ↓reduceIte, Int.cast_ofNat_Int]
    · rw [htk, List.map_append]; exact ho3
    · rw [hfr b hb, f2.get b (by simp only [St.next_new]; omega), St.get_new, if_neg (by omega)]; exact hg b hb
  · have : j = l.length := by omega
    subst this
    rw [List.take_length] at ho
    have hlf : decide ((l.length : Int) < (l.length : Int)) = false := decide_eq_false (by omega)
    simp -implicitDefEqProofs only [go_sem, Wk_block, Wk_drawnC, reduceCtorEq, Nat.reduceEqDiff, Nat.reduceAdd, Nat.reduceLeDiff, Nat.reduceLT, Nat.reduceMul, Nat.reduceSub, ↓reduceIte, Int.reduceLT, Int.reduceLE, Int.reduceNeg, Int.reduceAdd, Int.reduceEq, Nat.reduceBneDiff, Nat.reduceBEq, Int.reduceToNat, Int.reduceMul, Int.reduceSub, Int.reduceBEq, Int.reduceBNe, Int.cast_ofNat_Int, Int.toNat_natCast_add_one, Nat.add_left_cancel_iff, Nat.left_eq_add, Nat.add_eq_left, Int.toNat_natCast, Nat.add_assoc, Int.ofNat_lt, Int.ofNat_le, Nat.lt_add_one_of_lt, Nat.lt_add_one, Nat.lt_add_right, Nat.lt_add_right_iff_pos, Nat.add_lt_add_iff_left, g11, g10, g3, hlf, hlt, ft, tf]
    exact ⟨ho, hg⟩

/-- One label behind bytes. -/
theorem refP_run {w : AV} {L : List Nat} {e q p N : Nat} {s : St} (hu : OutB s N w (L.map u8)) (hL : L.length < 1000000) (hp : s.get p = some (.cells [.int .u32 (e : Int), .int .u32 (q : Int)] false false 0)) (hd : Dom s) (he : e < 4294967296) (hq : q < 4294967296) :
    Wf mm 30 [w, .slice p 0 1 1 false] s fun v s' => OutB s' s.next v ((L ++ lebs 4 [e, q]).map u8) ∧ Fr s s' ∧ Dom s' := by
  refine ((Wf_enter ft30 (sm (by decide)) (by rfl) ?_ : Wf mm 30 [w, .slice p 0 1 1 false] s fun v s' => OutB s' s.next v ((L ++ lebs 4 [e, q]).map u8) ∧ ∀ b, b < s.next → s'.get b = s.get b).stp mm_st).mono ?_
  rotate_left
  · rintro v s' ⟨⟨h1, h2⟩, st⟩
    exact ⟨h1, ⟨st.le, h2⟩, st.dom hd⟩
  have ft : (false == true) = false := rfl
  have tf : (true == false) = false := rfl
  have hpl := hd _ _ hp
  have g0 : (s.new (.cells [] false false 0)).get s.next = some (.cells [] false false 0) := by rw [St.get_new, if_pos rfl]
  have ho0 : OutB (s.new (.cells [] false false 0)) s.next (.slice s.next 0 0 0 false) ([] : List AV) := .inr (.inl ⟨s.next, rfl, rfl, Nat.le_refl _, by simp, g0⟩)
  obtain ⟨u1, s1, happ, ho1, hn1, hfr, st, -⟩ := ho0.app (by simp) L (by simp; omega)
  rw [List.nil_append] at ho1
  have hsrc := (hu.new (.cells [] false false 0)).src
  rw [List.length_map] at hsrc
  have hll : (L.map u8).length = L.length := List.length_map _
  have dd1 : Dom s1 := st.dom (dom_new hd _)
  have hp1 : s1.get p = some (.cells [.int .u32 (e : Int), .int .u32 (q : Int)] false false 0) := by rw [hfr p hpl, St.get_new, if_neg (by omega)]; exact hp
  have w1 : IntKind.i64.wrap 1 = 1 := rfl
  have i0 : ∀ s, idx1 2 (some (.slice p 0 1 1 false)) (some (.int .i64 0)) s = some (.ptr p 0, s) := fun s => rfl
  have we := u64_of (n := e) (by omega)
  have wq := u64_of (n := q) (by omega)
  simp -implicitDefEqProofs only [go_sem, Wk_block, Wk_drawnC, reduceCtorEq, Nat.reduceEqDiff, Nat.reduceAdd, Nat.reduceLeDiff, Nat.reduceLT, Nat.reduceMul, Nat.reduceSub, ↓reduceIte, Int.reduceLT, Int.reduceLE, Int.reduceNeg, Int.reduceAdd, Int.reduceEq, Nat.reduceBneDiff, Nat.reduceBEq, Int.reduceToNat, Int.reduceMul, Int.reduceSub, Int.reduceBEq, Int.reduceBNe, Int.cast_ofNat_Int, Int.toNat_natCast_add_one, Nat.add_left_cancel_iff, Nat.left_eq_add, Nat.add_eq_left, Int.toNat_natCast, Nat.add_assoc, Int.ofNat_lt, Int.ofNat_le, Nat.lt_add_one_of_lt, Nat.lt_add_one, Nat.lt_add_right, Nat.lt_add_right_iff_pos, Nat.add_lt_add_iff_left, fd30, hsrc, hll, happ, Nat.mul_one, eq_self, ft, tf]
  rw [Wk_loop]
  simp -implicitDefEqProofs only [go_sem, Wk_block, Wk_drawnC, reduceCtorEq, Nat.reduceEqDiff, Nat.reduceAdd, Nat.reduceLeDiff, Nat.reduceLT, Nat.reduceMul, Nat.reduceSub, ↓reduceIte, Int.reduceLT, Int.reduceLE, Int.reduceNeg, Int.reduceAdd, Int.reduceEq, Nat.reduceBneDiff, Nat.reduceBEq, Int.reduceToNat, Int.reduceMul, Int.reduceSub, Int.reduceBEq, Int.reduceBNe, Int.cast_ofNat_Int, Int.toNat_natCast_add_one, Nat.add_left_cancel_iff, Nat.left_eq_add, Nat.add_eq_left, Int.toNat_natCast, Nat.add_assoc, Int.ofNat_lt, Int.ofNat_le, Nat.lt_add_one_of_lt, Nat.lt_add_one, Nat.lt_add_right, Nat.lt_add_right_iff_pos, Nat.add_lt_add_iff_left, i0, hp1, we, wq, ft, tf]
  refine Wl_of (refF_run [(4, e), (4, q)] (by
    intro x hx
    simp only [List.mem_cons, List.not_mem_nil, or_false] at hx
    rcases hx with rfl | rfl <;> (constructor <;> (dsimp only; omega))) (by simp) (p := s1.next + 1) (k := 2) (L := [.int .u64 4, .int .u64 (e : Int), .int .u64 4, .int .u64 (q : Int)]) (by rw [St.get_new, if_pos (by simp)]) rfl rfl (dom_new (dom_new dd1 _) _)) ?_
  rintro v s2 ⟨ho2, f2, dd2⟩
  have hsrc2 := ho2.src
  have hl2 : ((fieldsN [(4, e), (4, q)]).map u8).length = 8 := by simp [fieldsN, leb_len]
  rw [hl2] at hsrc2
  have hf8 : (fieldsN [(4, e), (4, q)]).length = 8 := by simp [fieldsN, leb_len]
  have hn2 := f2.le
  simp only [St.next_new] at hn2 hn1
  obtain ⟨w', s3, happ3, ho3, hn3, hfr3, st3, -⟩ := (((ho1.new _).new _).frx' f2).app (by omega) (fieldsN [(4, e), (4, q)]) (by rw [List.length_map, hf8]; omega)
  rw [hf8] at happ3
  have hc3 := ho3.cell
  simp -implicitDefEqProofs only [go_sem, Wk_block, Wk_drawnC, reduceCtorEq, Nat.reduceEqDiff, Nat.reduceAdd, Nat.reduceLeDiff, Nat.reduceLT, Nat.reduceMul, Nat.reduceSub, ↓reduceIte, Int.reduceLT, Int.reduceLE, Int.reduceNeg, Int.reduceAdd, Int.reduceEq, Nat.reduceBneDiff, Nat.reduceBEq, Int.reduceToNat, Int.reduceMul, Int.reduceSub, Int.reduceBEq, Int.reduceBNe, Int.cast_ofNat_Int, Int.toNat_natCast_add_one, Nat.add_left_cancel_iff, Nat.left_eq_add, Nat.add_eq_left, Int.toNat_natCast, Nat.add_assoc, Int.ofNat_lt, Int.ofNat_le, Nat.lt_add_one_of_lt, Nat.lt_add_one, Nat.lt_add_right, Nat.lt_add_right_iff_pos, Nat.add_lt_add_iff_left, hsrc2, hl2, happ3, w1, hc3, Nat.mul_one, eq_self, ft, tf]
  rw [Wk_loop]
  simp -implicitDefEqProofs only [go_sem, Wk_block, Wk_drawnC, reduceCtorEq, Nat.reduceEqDiff, Nat.reduceAdd, Nat.reduceLeDiff, Nat.reduceLT, Nat.reduceMul, Nat.reduceSub, ↓reduceIte, Int.reduceLT, Int.reduceLE, Int.reduceNeg, Int.reduceAdd, Int.reduceEq, Nat.reduceBneDiff, Nat.reduceBEq, Int.reduceToNat, Int.reduceMul, Int.reduceSub, Int.reduceBEq, Int.reduceBNe, Int.cast_ofNat_Int, Int.toNat_natCast_add_one, Nat.add_left_cancel_iff, Nat.left_eq_add, Nat.add_eq_left, Int.toNat_natCast, Nat.add_assoc, Int.ofNat_lt, Int.ofNat_le, Nat.lt_add_one_of_lt, Nat.lt_add_one, Nat.lt_add_right, Nat.lt_add_right_iff_pos, Nat.add_lt_add_iff_left, ft, tf]
  refine ⟨?_, fun b hb => ?_⟩
  · rw [List.map_append]
    have e1 : fieldsN [(4, e), (4, q)] = lebs 4 [e, q] := rfl
    rw [← e1]
    exact ho3
  · rw [hfr3 b hb, f2.get b (by simp only [St.next_new]; omega), St.get_new, if_neg (by simp only [St.next_new]; omega), St.get_new, if_neg (by omega), hfr b hb, St.get_new, if_neg (by omega)]
end Go.Proofs.YteiiblpnegjjlaaGreat.Lw
