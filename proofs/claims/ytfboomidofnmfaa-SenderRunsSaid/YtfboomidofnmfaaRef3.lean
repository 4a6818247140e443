/- The document's sender hears what the other one has. -/
import Derived.Test.YtfboomidofnmfaaRef2
namespace Go.Proofs.Ytfboomidofnmfaa
open D
set_option linter.unusedSimpArgs false
set_option linter.unusedVariables false
set_option maxRecDepth 10000

/-- What the loops lean on. -/
structure HJ (s : St) (b p : Nat) (S : Snd) (m : Mg) (hs own : List Hv) (ov : AV) (bh oh bo oo : Nat) : Prop where
  lb : Lies s b S.encR
  lp : Lies s p m.enc
  hh : Acc s m.haves 3 (hs.map Hv.enc) bh oh
  ho : Acc s ov 3 (own.map Hv.enc) bo oo
  ltb : b < s.next
  ltp : p < s.next
  ne : p ≠ b
theorem HJ.mono {s s' : St} {b p : Nat} {S : Snd} {m : Mg} {hs own : List Hv} {ov : AV} {bh oh bo oo : Nat} (h : HJ s b p S m hs own ov bh oh bo oo) (f : Fr s s') : HJ s' b p S m hs own ov bh oh bo oo :=
  ⟨(f.get b h.ltb).trans h.lb, (f.get p h.ltp).trans h.lp, h.hh.mono f, h.ho.mono f, Nat.lt_of_lt_of_le h.ltb f.le, Nat.lt_of_lt_of_le h.ltp f.le, h.ne⟩
theorem HJ.turn {s : St} {b p : Nat} {S S' : Snd} {m : Mg} {hs own : List Hv} {ov : AV} {bh oh bo oo : Nat} (h : HJ s b p S m hs own ov bh oh bo oo) : HJ (s.put b (.cells S'.encR false false 0)) b p S' m hs own ov bh oh bo oo :=
  have f : FrX b s (s.put b (.cells S'.encR false false 0)) := (FrX.refl b s).put (.inl rfl) _
  ⟨by simp only [Lies, St.get_put, if_true], (f.get p h.ltp h.ne).trans h.lp, h.hh.monoX f h.lb, h.ho.monoX f h.lb, h.ltb, h.ltp, h.ne⟩

def hstep (t : Lb) (hs : List Hv) (b : Lb) (x : Hv) : Lb := if ¬ t.lt x.l ∧ x ∈ hs then b.max x.l else b
theorem max_not_lt (b x : Lb) : ¬ (b.max x).lt x := by
  unfold Lb.max
  split
  · exact fun h => by simp only [Lb.lt] at h; omega
  · assumption
theorem hstep_take {t : Lb} {hs : List Hv} {b : Lb} {x : Hv} {k : Nat} (hk : k < hs.length) : hstep t (hs.take (k + 1)) b x =
    if (x = hs[k] ∧ ¬ t.lt x.l) ∧ (hstep t (hs.take k) b x).lt x.l then x.l else hstep t (hs.take k) b x := by
  have hm := max_not_lt b x.l
  rw [List.take_succ_eq_append_getElem hk]
  unfold hstep
  simp only [List.mem_append, List.mem_singleton]
  by_cases h1 : t.lt x.l
  · simp [h1]
  · by_cases h2 : x ∈ hs.take k
    · simp [h1, h2, hm]
    · by_cases h3 : x = hs[k]
      · subst h3
        simp [h1, h2, Lb.max]
      · simp [h1, h2, h3]

theorem rhave_run (S : Snd) (m : Mg) (hs own : List Hv) (ov : AV) {s : St} {bh oh bo oo : Nat} (hH : Acc s m.haves 3 (hs.map Hv.enc) bh oh) (hO : Acc s ov 3 (own.map Hv.enc) bo oo) (hi : m.items.cell = true) :
    Wf mm 25 [.agg S.encR, .agg m.enc, ov] s fun v s' => v = .tup [.agg (S.hear m hs own).1.encR, .bool (S.hear m hs own).2] ∧ Fr s s' := by
  refine Wf_enter ft25 (sm (by decide)) (by rfl) ?_
  have hc := hH.cell
  have hcs := hH.cells
  obtain ⟨p, hp⟩ : ∃ p, s.next = p := ⟨_, rfl⟩
  have f1 : Fr s (((s.new (.cells S.encR false false 0)).new (.cells m.enc false false 0)).new (.cells [.int .u64 0, .int .u64 0, .int .u64 0, .int .i64 0, .int .i64 0, .int .u32 0, .int .u32 0, .int .u32 0, .int .u32 0, .int .u32 0, .int .u32 0, .int .i64 0, .int .i64 0, .int .i64 0] false false 0)) := ((Fr.refl s).new _).new _ |>.new _
  have J1 : HJ (((s.new (.cells S.encR false false 0)).new (.cells m.enc false false 0)).new (.cells [.int .u64 0, .int .u64 0, .int .u64 0, .int .i64 0, .int .i64 0, .int .u32 0, .int .u32 0, .int .u32 0, .int .u32 0, .int .u32 0, .int .u32 0, .int .i64 0, .int .i64 0, .int .i64 0] false false 0)) p (p + 1) S m hs own ov bh oh bo oo := by
    refine ⟨?_, ?_, hH.mono f1, hO.mono f1, ?_, ?_, by omega⟩
    · rw [← hp]; simp -implicitDefEqProofs only [go_sem, Wk_block, reduceCtorEq, Nat.reduceEqDiff, Nat.reduceAdd, Nat.reduceLeDiff, Nat.reduceLT, Nat.reduceMul, Nat.reduceSub, ↓reduceIte, Int.reduceLT, Int.reduceLE, Int.reduceNeg, Int.reduceAdd, Int.reduceEq, Nat.reduceBneDiff, Nat.reduceBEq, Int.reduceToNat, Int.reduceMul, Int.reduceSub, Int.reduceBEq, Int.reduceBNe, Int.cast_ofNat_Int, Int.toNat_natCast_add_one, Nat.add_left_cancel_iff, Nat.left_eq_add, Nat.add_eq_left, Int.toNat_natCast, Nat.add_assoc, Int.ofNat_lt, Int.ofNat_le, Nat.lt_add_one_of_lt, Nat.lt_add_one, Nat.lt_add_right, Nat.lt_add_right_iff_pos, Nat.add_lt_add_iff_left, Lies]
    · rw [← hp]; simp -implicitDefEqProofs only [go_sem, Wk_block, reduceCtorEq, Nat.reduceEqDiff, Nat.reduceAdd, Nat.reduceLeDiff, Nat.reduceLT, Nat.reduceMul, Nat.reduceSub, ↓reduceIte, Int.reduceLT, Int.reduceLE, Int.reduceNeg, Int.reduceAdd, Int.reduceEq, Nat.reduceBneDiff, Nat.reduceBEq, Int.reduceToNat, Int.reduceMul, Int.reduceSub, Int.reduceBEq, Int.reduceBNe, Int.cast_ofNat_Int, Int.toNat_natCast_add_one, Nat.add_left_cancel_iff, Nat.left_eq_add, Nat.add_eq_left, Int.toNat_natCast, Nat.add_assoc, Int.ofNat_lt, Int.ofNat_le, Nat.lt_add_one_of_lt, Nat.lt_add_one, Nat.lt_add_right, Nat.lt_add_right_iff_pos, Nat.add_lt_add_iff_left, Lies]
    · rw [← hp]; simp -implicitDefEqProofs only [go_sem, Wk_block, reduceCtorEq, Nat.reduceEqDiff, Nat.reduceAdd, Nat.reduceLeDiff, Nat.reduceLT, Nat.reduceMul, Nat.reduceSub, ↓reduceIte, Int.reduceLT, Int.reduceLE, Int.reduceNeg, Int.reduceAdd, Int.reduceEq, Nat.reduceBneDiff, Nat.reduceBEq, Int.reduceToNat, Int.reduceMul, Int.reduceSub, Int.reduceBEq, Int.reduceBNe, Int.cast_ofNat_Int, Int.toNat_natCast_add_one, Nat.add_left_cancel_iff, Nat.left_eq_add, Nat.add_eq_left, Int.toNat_natCast, Nat.add_assoc, Int.ofNat_lt, Int.ofNat_le, Nat.lt_add_one_of_lt, Nat.lt_add_one, Nat.lt_add_right, Nat.lt_add_right_iff_pos, Nat.add_lt_add_iff_left, hp]
    · rw [← hp]; simp -implicitDefEqProofs only [go_sem, Wk_block, reduceCtorEq, Nat.reduceEqDiff, Nat.reduceAdd, Nat.reduceLeDiff, Nat.reduceLT, Nat.reduceMul, Nat.reduceSub, ↓reduceIte, Int.reduceLT, Int.reduceLE, Int.reduceNeg, Int.reduceAdd, Int.reduceEq, Nat.reduceBneDiff, Nat.reduceBEq, Int.reduceToNat, Int.reduceMul, Int.reduceSub, Int.reduceBEq, Int.reduceBNe, Int.cast_ofNat_Int, Int.toNat_natCast_add_one, Nat.add_left_cancel_iff, Nat.left_eq_add, Nat.add_eq_left, Int.toNat_natCast, Nat.add_assoc, Int.ofNat_lt, Int.ofNat_le, Nat.lt_add_one_of_lt, Nat.lt_add_one, Nat.lt_add_right, Nat.lt_add_right_iff_pos, Nat.add_lt_add_iff_left, hp]
  have hn1 : p + 2 < (((s.new (.cells S.encR false false 0)).new (.cells m.enc false false 0)).new (.cells [.int .u64 0, .int .u64 0, .int .u64 0, .int .i64 0, .int .i64 0, .int .u32 0, .int .u32 0, .int .u32 0, .int .u32 0, .int .u32 0, .int .u32 0, .int .i64 0, .int .i64 0, .int .i64 0] false false 0)).next := by rw [← hp]; simp -implicitDefEqProofs only [go_sem, Wk_block, reduceCtorEq, Nat.reduceEqDiff, Nat.reduceAdd, Nat.reduceLeDiff, Nat.reduceLT, Nat.reduceMul, Nat.reduceSub, ↓reduceIte, Int.reduceLT, Int.reduceLE, Int.reduceNeg, Int.reduceAdd, Int.reduceEq, Nat.reduceBneDiff, Nat.reduceBEq, Int.reduceToNat, Int.reduceMul, Int.reduceSub, Int.reduceBEq, Int.reduceBNe, Int.cast_ofNat_Int, Int.toNat_natCast_add_one, Nat.add_left_cancel_iff, Nat.left_eq_add, Nat.add_eq_left, Int.toNat_natCast, Nat.add_assoc, Int.ofNat_lt, Int.ofNat_le, Nat.lt_add_one_of_lt, Nat.lt_add_one, Nat.lt_add_right, Nat.lt_add_right_iff_pos, Nat.add_lt_add_iff_left, hp]
  have hr1 : (((s.new (.cells S.encR false false 0)).new (.cells m.enc false false 0)).new (.cells [.int .u64 0, .int .u64 0, .int .u64 0, .int .i64 0, .int .i64 0, .int .u32 0, .int .u32 0, .int .u32 0, .int .u32 0, .int .u32 0, .int .u32 0, .int .i64 0, .int .i64 0, .int .i64 0] false false 0)).get (p + 2) = some (.cells [.int .u64 0, .int .u64 0, .int .u64 0, .int .i64 0, .int .i64 0, .int .u32 0, .int .u32 0, .int .u32 0, .int .u32 0, .int .u32 0, .int .u32 0, .int .i64 0, .int .i64 0, .int .i64 0] false false 0) := by rw [← hp]; simp -implicitDefEqProofs only [go_sem, Wk_block, reduceCtorEq, Nat.reduceEqDiff, Nat.reduceAdd, Nat.reduceLeDiff, Nat.reduceLT, Nat.reduceMul, Nat.reduceSub, ↓reduceIte, Int.reduceLT, Int.reduceLE, Int.reduceNeg, Int.reduceAdd, Int.reduceEq, Nat.reduceBneDiff, Nat.reduceBEq, Int.reduceToNat, Int.reduceMul, Int.reduceSub, Int.reduceBEq, Int.reduceBNe, Int.cast_ofNat_Int, Int.toNat_natCast_add_one, Nat.add_left_cancel_iff, Nat.left_eq_add, Nat.add_eq_left, Int.toNat_natCast, Nat.add_assoc, Int.ofNat_lt, Int.ofNat_le, Nat.lt_add_one_of_lt, Nat.lt_add_one, Nat.lt_add_right, Nat.lt_add_right_iff_pos, Nat.add_lt_add_iff_left, hp]
  clear hH hO
  unfold Snd.encR Mg.enc at f1 J1 hn1 hr1
  simp only [fd25]
  simp -implicitDefEqProofs only [go_sem, Wk_block, reduceCtorEq, Nat.reduceEqDiff, Nat.reduceAdd, Nat.reduceLeDiff, Nat.reduceLT, Nat.reduceMul, Nat.reduceSub, ↓reduceIte, Int.reduceLT, Int.reduceLE, Int.reduceNeg, Int.reduceAdd, Int.reduceEq, Nat.reduceBneDiff, Nat.reduceBEq, Int.reduceToNat, Int.reduceMul, Int.reduceSub, Int.reduceBEq, Int.reduceBNe, Int.cast_ofNat_Int, Int.toNat_natCast_add_one, Nat.add_left_cancel_iff, Nat.left_eq_add, Nat.add_eq_left, Int.toNat_natCast, Nat.add_assoc, Int.ofNat_lt, Int.ofNat_le, Nat.lt_add_one_of_lt, Nat.lt_add_one, Nat.lt_add_right, Nat.lt_add_right_iff_pos, Nat.add_lt_add_iff_left, Snd.encR, Mg.enc, hi, hc, hcs]
  rw [hp]
  generalize (((s.new (.cells [.int .u64 S.boot, .int .u64 S.began, .int .u64 S.sess, .int .i64 S.retry, .int .i64 S.phase, .int .u32 S.target.e, .int .u32 S.target.q, .int .u32 S.base.e, .int .u32 S.base.q, .int .u32 S.done.e, .int .u32 S.done.q, .int .i64 S.index, .int .i64 S.total, .int .i64 S.waits] false false 0)).new (.cells [.int .i64 m.kind, .int .u32 m.epoch, .int .u64 m.sess, .int .u32 m.target.e, .int .u32 m.target.q, .int .u32 m.base.e, .int .u32 m.base.q, .int .i64 m.index, .int .i64 m.total, .int .u32 m.tick, m.items, m.haves] false false 0)).new (.cells [.int .u64 0, .int .u64 0, .int .u64 0, .int .i64 0, .int .i64 0, .int .u32 0, .int .u32 0, .int .u32 0, .int .u32 0, .int .u32 0, .int .u32 0, .int .i64 0, .int .i64 0, .int .i64 0] false false 0)) = s1 at f1 J1 hn1 hr1 ⊢
  have hp0 : s.next ≤ p := by omega
  have lb := J1.lb
  have lp := J1.lp
  unfold Lies Snd.encR at lb
  unfold Lies Mg.enc at lp
  clear hc hcs
  refine Wg_split (fun hg => ?_) (fun hg => ?_)
  · have h1 : S.phase ≠ 1 := by simpa using hg
    rw [show S.hear m hs own = (S, false) from if_pos (.inl h1)]
    simp -implicitDefEqProofs only [go_sem, Wk_block, reduceCtorEq, Nat.reduceEqDiff, Nat.reduceAdd, Nat.reduceLeDiff, Nat.reduceLT, Nat.reduceMul, Nat.reduceSub, ↓reduceIte, Int.reduceLT, Int.reduceLE, Int.reduceNeg, Int.reduceAdd, Int.reduceEq, Nat.reduceBneDiff, Nat.reduceBEq, Int.reduceToNat, Int.reduceMul, Int.reduceSub, Int.reduceBEq, Int.reduceBNe, Int.cast_ofNat_Int, Int.toNat_natCast_add_one, Nat.add_left_cancel_iff, Nat.left_eq_add, Nat.add_eq_left, Int.toNat_natCast, Nat.add_assoc, Int.ofNat_lt, Int.ofNat_le, Nat.lt_add_one_of_lt, Nat.lt_add_one, Nat.lt_add_right, Nat.lt_add_right_iff_pos, Nat.add_lt_add_iff_left, lb, lp, hr1, hg]
    first | ((repeat (first | exact FrX.refl _ _ | exact Fr.refl _ | assumption | exact Fr.x (by assumption) _ | refine FrX.put ?_ (.inl rfl) _ | refine FrX.put ?_ (.inr (by first | omega | (simp; done) | (simp; omega))) _ | refine FrX.new ?_ _ | refine Fr.put ?_ (by first | omega | (simp; done) | (simp; omega)) _ | refine Fr.new ?_ _ | refine FrX.then ?_ (by assumption) | refine Fr.trans ?_ (by assumption))); done) | (refine ⟨rfl, ?_⟩; (repeat (first | exact FrX.refl _ _ | exact Fr.refl _ | assumption | exact Fr.x (by assumption) _ | refine FrX.put ?_ (.inl rfl) _ | refine FrX.put ?_ (.inr (by first | omega | (simp; done) | (simp; omega))) _ | refine FrX.new ?_ _ | refine Fr.put ?_ (by first | omega | (simp; done) | (simp; omega)) _ | refine Fr.new ?_ _ | refine FrX.then ?_ (by assumption) | refine Fr.trans ?_ (by assumption))); done) | (refine ⟨by simp, ?_⟩; (repeat (first | exact FrX.refl _ _ | exact Fr.refl _ | assumption | exact Fr.x (by assumption) _ | refine FrX.put ?_ (.inl rfl) _ | refine FrX.put ?_ (.inr (by first | omega | (simp; done) | (simp; omega))) _ | refine FrX.new ?_ _ | refine Fr.put ?_ (by first | omega | (simp; done) | (simp; omega)) _ | refine Fr.new ?_ _ | refine FrX.then ?_ (by assumption) | refine Fr.trans ?_ (by assumption))); done)
  have h1 : S.phase = 1 := by simpa using hg
  simp -implicitDefEqProofs only [go_sem, Wk_block, reduceCtorEq, Nat.reduceEqDiff, Nat.reduceAdd, Nat.reduceLeDiff, Nat.reduceLT, Nat.reduceMul, Nat.reduceSub, ↓reduceIte, Int.reduceLT, Int.reduceLE, Int.reduceNeg, Int.reduceAdd, Int.reduceEq, Nat.reduceBneDiff, Nat.reduceBEq, Int.reduceToNat, Int.reduceMul, Int.reduceSub, Int.reduceBEq, Int.reduceBNe, Int.cast_ofNat_Int, Int.toNat_natCast_add_one, Nat.add_left_cancel_iff, Nat.left_eq_add, Nat.add_eq_left, Int.toNat_natCast, Nat.add_assoc, Int.ofNat_lt, Int.ofNat_le, Nat.lt_add_one_of_lt, Nat.lt_add_one, Nat.lt_add_right, Nat.lt_add_right_iff_pos, Nat.add_lt_add_iff_left, lb, lp, hg]
  refine Wl_of (rits_run S m 2 hi J1.hh.cell _) ?_
  rintro _ s2 ⟨rfl, f2⟩
  have J2 := J1.mono f2
  have hn2 := Nat.lt_of_lt_of_le hn1 f2.le
  have hr2 := (f2.get _ hn1).trans hr1
  have f02 := f1.trans f2
  clear f1 J1 hn1 hr1 lb lp f2
  have lb := J2.lb
  have lp := J2.lp
  unfold Lies Snd.encR at lb
  unfold Lies Mg.enc at lp
  simp -implicitDefEqProofs only [go_sem, Wk_block, reduceCtorEq, Nat.reduceEqDiff, Nat.reduceAdd, Nat.reduceLeDiff, Nat.reduceLT, Nat.reduceMul, Nat.reduceSub, ↓reduceIte, Int.reduceLT, Int.reduceLE, Int.reduceNeg, Int.reduceAdd, Int.reduceEq, Nat.reduceBneDiff, Nat.reduceBEq, Int.reduceToNat, Int.reduceMul, Int.reduceSub, Int.reduceBEq, Int.reduceBNe, Int.cast_ofNat_Int, Int.toNat_natCast_add_one, Nat.add_left_cancel_iff, Nat.left_eq_add, Nat.add_eq_left, Int.toNat_natCast, Nat.add_assoc, Int.ofNat_lt, Int.ofNat_le, Nat.lt_add_one_of_lt, Nat.lt_add_one, Nat.lt_add_right, Nat.lt_add_right_iff_pos, Nat.add_lt_add_iff_left, lb, lp, hg]
  refine Wi_split (fun hg => ?_) (fun hg => ?_)
  · have h2 : S.its m 2 = false := by simpa using hg
    rw [show S.hear m hs own = (S, false) from if_pos (.inr h2)]
    simp -implicitDefEqProofs only [go_sem, Wk_block, reduceCtorEq, Nat.reduceEqDiff, Nat.reduceAdd, Nat.reduceLeDiff, Nat.reduceLT, Nat.reduceMul, Nat.reduceSub, ↓reduceIte, Int.reduceLT, Int.reduceLE, Int.reduceNeg, Int.reduceAdd, Int.reduceEq, Nat.reduceBneDiff, Nat.reduceBEq, Int.reduceToNat, Int.reduceMul, Int.reduceSub, Int.reduceBEq, Int.reduceBNe, Int.cast_ofNat_Int, Int.toNat_natCast_add_one, Nat.add_left_cancel_iff, Nat.left_eq_add, Nat.add_eq_left, Int.toNat_natCast, Nat.add_assoc, Int.ofNat_lt, Int.ofNat_le, Nat.lt_add_one_of_lt, Nat.lt_add_one, Nat.lt_add_right, Nat.lt_add_right_iff_pos, Nat.add_lt_add_iff_left, lb, lp, hr2]
    first | ((repeat (first | exact FrX.refl _ _ | exact Fr.refl _ | assumption | exact Fr.x (by assumption) _ | refine FrX.put ?_ (.inl rfl) _ | refine FrX.put ?_ (.inr (by first | omega | (simp; done) | (simp; omega))) _ | refine FrX.new ?_ _ | refine Fr.put ?_ (by first | omega | (simp; done) | (simp; omega)) _ | refine Fr.new ?_ _ | refine FrX.then ?_ (by assumption) | refine Fr.trans ?_ (by assumption))); done) | (refine ⟨rfl, ?_⟩; (repeat (first | exact FrX.refl _ _ | exact Fr.refl _ | assumption | exact Fr.x (by assumption) _ | refine FrX.put ?_ (.inl rfl) _ | refine FrX.put ?_ (.inr (by first | omega | (simp; done) | (simp; omega))) _ | refine FrX.new ?_ _ | refine Fr.put ?_ (by first | omega | (simp; done) | (simp; omega)) _ | refine Fr.new ?_ _ | refine FrX.then ?_ (by assumption) | refine Fr.trans ?_ (by assumption))); done) | (refine ⟨by simp, ?_⟩; (repeat (first | exact FrX.refl _ _ | exact Fr.refl _ | assumption | exact Fr.x (by assumption) _ | refine FrX.put ?_ (.inl rfl) _ | refine FrX.put ?_ (.inr (by first | omega | (simp; done) | (simp; omega))) _ | refine FrX.new ?_ _ | refine Fr.put ?_ (by first | omega | (simp; done) | (simp; omega)) _ | refine Fr.new ?_ _ | refine FrX.then ?_ (by assumption) | refine Fr.trans ?_ (by assumption))); done)
  have h2 : S.its m 2 = true := by simpa using hg
  simp -implicitDefEqProofs only [go_sem, Wk_block, reduceCtorEq, Nat.reduceEqDiff, Nat.reduceAdd, Nat.reduceLeDiff, Nat.reduceLT, Nat.reduceMul, Nat.reduceSub, ↓reduceIte, Int.reduceLT, Int.reduceLE, Int.reduceNeg, Int.reduceAdd, Int.reduceEq, Nat.reduceBneDiff, Nat.reduceBEq, Int.reduceToNat, Int.reduceMul, Int.reduceSub, Int.reduceBEq, Int.reduceBNe, Int.cast_ofNat_Int, Int.toNat_natCast_add_one, Nat.add_left_cancel_iff, Nat.left_eq_add, Nat.add_eq_left, Int.toNat_natCast, Nat.add_assoc, Int.ofNat_lt, Int.ofNat_le, Nat.lt_add_one_of_lt, Nat.lt_add_one, Nat.lt_add_right, Nat.lt_add_right_iff_pos, Nat.add_lt_add_iff_left, lb, lp]
  refine Wl_of (less_run m.base S.target _) ?_
  rintro _ s3 ⟨rfl, f3⟩
  have J3 := J2.mono f3
  have hn3 := Nat.lt_of_lt_of_le hn2 f3.le
  have hr3 := (f3.get _ hn2).trans hr2
  have f03 := f02.trans f3
  clear f02 J2 hn2 hr2 lb lp f3
  have lb := J3.lb
  have lp := J3.lp
  unfold Lies Snd.encR at lb
  unfold Lies Mg.enc at lp
  simp -implicitDefEqProofs only [go_sem, Wk_block, reduceCtorEq, Nat.reduceEqDiff, Nat.reduceAdd, Nat.reduceLeDiff, Nat.reduceLT, Nat.reduceMul, Nat.reduceSub, ↓reduceIte, Int.reduceLT, Int.reduceLE, Int.reduceNeg, Int.reduceAdd, Int.reduceEq, Nat.reduceBneDiff, Nat.reduceBEq, Int.reduceToNat, Int.reduceMul, Int.reduceSub, Int.reduceBEq, Int.reduceBNe, Int.cast_ofNat_Int, Int.toNat_natCast_add_one, Nat.add_left_cancel_iff, Nat.left_eq_add, Nat.add_eq_left, Int.toNat_natCast, Nat.add_assoc, Int.ofNat_lt, Int.ofNat_le, Nat.lt_add_one_of_lt, Nat.lt_add_one, Nat.lt_add_right, Nat.lt_add_right_iff_pos, Nat.add_lt_add_iff_left, lb, lp]
  refine Wi_split (fun hg => ?_) (fun hg => ?_)
  · have h3 : ¬ m.base.lt S.target := by simpa using hg
    rw [show S.hear m hs own = (S.fin, false) from (if_neg (by simp [h1, h2])).trans (if_pos h3)]
    simp -implicitDefEqProofs only [go_sem, Wk_block, reduceCtorEq, Nat.reduceEqDiff, Nat.reduceAdd, Nat.reduceLeDiff, Nat.reduceLT, Nat.reduceMul, Nat.reduceSub, ↓reduceIte, Int.reduceLT, Int.reduceLE, Int.reduceNeg, Int.reduceAdd, Int.reduceEq, Nat.reduceBneDiff, Nat.reduceBEq, Int.reduceToNat, Int.reduceMul, Int.reduceSub, Int.reduceBEq, Int.reduceBNe, Int.cast_ofNat_Int, Int.toNat_natCast_add_one, Nat.add_left_cancel_iff, Nat.left_eq_add, Nat.add_eq_left, Int.toNat_natCast, Nat.add_assoc, Int.ofNat_lt, Int.ofNat_le, Nat.lt_add_one_of_lt, Nat.lt_add_one, Nat.lt_add_right, Nat.lt_add_right_iff_pos, Nat.add_lt_add_iff_left, lb, lp]
    refine Wl_of (rfin_run S _) ?_
    rintro _ s4 ⟨rfl, f4⟩
    have hr4 := (f4.get _ hn3).trans hr3
    have f04 := f03.trans f4
    simp -implicitDefEqProofs only [go_sem, Wk_block, reduceCtorEq, Nat.reduceEqDiff, Nat.reduceAdd, Nat.reduceLeDiff, Nat.reduceLT, Nat.reduceMul, Nat.reduceSub, ↓reduceIte, Int.reduceLT, Int.reduceLE, Int.reduceNeg, Int.reduceAdd, Int.reduceEq, Nat.reduceBneDiff, Nat.reduceBEq, Int.reduceToNat, Int.reduceMul, Int.reduceSub, Int.reduceBEq, Int.reduceBNe, Int.cast_ofNat_Int, Int.toNat_natCast_add_one, Nat.add_left_cancel_iff, Nat.left_eq_add, Nat.add_eq_left, Int.toNat_natCast, Nat.add_assoc, Int.ofNat_lt, Int.ofNat_le, Nat.lt_add_one_of_lt, Nat.lt_add_one, Nat.lt_add_right, Nat.lt_add_right_iff_pos, Nat.add_lt_add_iff_left, hr4, Snd.encR]
    exact Fr.put f04 (by omega) _
  have h3 : m.base.lt S.target := by simpa using hg
  rw [show S.hear m hs own = ({ S with base := hbase S.target hs own }, true) from (if_neg (by simp [h1, h2])).trans (if_neg (by simpa using h3))]
  have hmaxo := J3.ho.max
  have hmaxh := J3.hh.max
  rw [List.length_map] at hmaxo hmaxh
  have J4 := J3.turn (S' := { S with base := ⟨0, 0⟩ })
  have f04 : Fr s (s3.put p (.cells ({ S with base := ⟨0, 0⟩ } : Snd).encR false false 0)) := f03.put hp0 _
  have hr4 : (s3.put p (.cells ({ S with base := ⟨0, 0⟩ } : Snd).encR false false 0)).get (p + 2) = some (.cells [.int .u64 0, .int .u64 0, .int .u64 0, .int .i64 0, .int .i64 0, .int .u32 0, .int .u32 0, .int .u32 0, .int .u32 0, .int .u32 0, .int .u32 0, .int .i64 0, .int .i64 0, .int .i64 0] false false 0) := by rw [St.get_put, if_neg (by omega)]; exact hr3
  have hn4 : p + 2 < (s3.put p (.cells ({ S with base := ⟨0, 0⟩ } : Snd).encR false false 0)).next := hn3
  unfold Snd.encR at J4 f04 hr4 hn4
  simp -implicitDefEqProofs only [go_sem, Wk_block, reduceCtorEq, Nat.reduceEqDiff, Nat.reduceAdd, Nat.reduceLeDiff, Nat.reduceLT, Nat.reduceMul, Nat.reduceSub, ↓reduceIte, Int.reduceLT, Int.reduceLE, Int.reduceNeg, Int.reduceAdd, Int.reduceEq, Nat.reduceBneDiff, Nat.reduceBEq, Int.reduceToNat, Int.reduceMul, Int.reduceSub, Int.reduceBEq, Int.reduceBNe, Int.cast_ofNat_Int, Int.toNat_natCast_add_one, Nat.add_left_cancel_iff, Nat.left_eq_add, Nat.add_eq_left, Int.toNat_natCast, Nat.add_assoc, Int.ofNat_lt, Int.ofNat_le, Nat.lt_add_one_of_lt, Nat.lt_add_one, Nat.lt_add_right, Nat.lt_add_right_iff_pos, Nat.add_lt_add_iff_left, lb, lp, J4.ho.len]
  clear J3 hn3 hr3 f03 lb lp
  refine loop_ind (fun k ts s' => ∃ j : Nat, k = own.length - j ∧ j ≤ own.length ∧ ts.get 34 = some (.int .i64 j) ∧ ts.get 33 = some (.int .i64 own.length) ∧ ts.get 32 = some ov ∧ ts.get 3 = some (.ptr p 0) ∧ ts.get 4 = some (.ptr (p + 1) 0) ∧ ts.get 6 = some (.ptr (p + 2) 0) ∧
    HJ s' p (p + 1) { S with base := hbase S.target hs (own.take j) } m hs own ov bh oh bo oo ∧ Fr s s' ∧ s'.get (p + 2) = some (.cells [.int .u64 0, .int .u64 0, .int .u64 0, .int .i64 0, .int .i64 0, .int .u32 0, .int .u32 0, .int .u32 0, .int .u32 0, .int .u32 0, .int .u32 0, .int .i64 0, .int .i64 0, .int .i64 0] false false 0) ∧ p + 2 < s'.next) ?_ (n := own.length)
    ⟨0, by omega, by omega, by simp only [go_sem, Wk_block, reduceCtorEq, Nat.reduceEqDiff, Nat.reduceAdd, Nat.reduceLeDiff, Nat.reduceLT, Nat.reduceMul, Nat.reduceSub, ↓reduceIte, Int.reduceLT, Int.reduceLE, Int.reduceNeg, Int.reduceAdd, Int.reduceEq, Nat.reduceBneDiff, Nat.reduceBEq, Int.reduceToNat, Int.reduceMul, Int.reduceSub, Int.reduceBEq, Int.reduceBNe, Int.cast_ofNat_Int, Int.toNat_natCast_add_one, Nat.add_left_cancel_iff, Nat.left_eq_add, Nat.add_eq_left, Int.toNat_natCast, Nat.add_assoc, Int.ofNat_lt, Int.ofNat_le], by simp only [go_sem, Wk_block, reduceCtorEq, Nat.reduceEqDiff, Nat.reduceAdd, Nat.reduceLeDiff, Nat.reduceLT, Nat.reduceMul, Nat.reduceSub, ↓reduceIte, Int.reduceLT, Int.reduceLE, Int.reduceNeg, Int.reduceAdd, Int.reduceEq, Nat.reduceBneDiff, Nat.reduceBEq, Int.reduceToNat, Int.reduceMul, Int.reduceSub, Int.reduceBEq, Int.reduceBNe, Int.cast_ofNat_Int, Int.toNat_natCast_add_one, Nat.add_left_cancel_iff, Nat.left_eq_add, Nat.add_eq_left, Int.toNat_natCast, Nat.add_assoc, Int.ofNat_lt, Int.ofNat_le, List.length_map], by simp only [go_sem, Wk_block, reduceCtorEq, Nat.reduceEqDiff, Nat.reduceAdd, Nat.reduceLeDiff, Nat.reduceLT, Nat.reduceMul, Nat.reduceSub, ↓reduceIte, Int.reduceLT, Int.reduceLE, Int.reduceNeg, Int.reduceAdd, Int.reduceEq, Nat.reduceBneDiff, Nat.reduceBEq, Int.reduceToNat, Int.reduceMul, Int.reduceSub, Int.reduceBEq, Int.reduceBNe, Int.cast_ofNat_Int, Int.toNat_natCast_add_one, Nat.add_left_cancel_iff, Nat.left_eq_add, Nat.add_eq_left, Int.toNat_natCast, Nat.add_assoc, Int.ofNat_lt, Int.ofNat_le], by simp only [go_sem, Wk_block, reduceCtorEq, Nat.reduceEqDiff, Nat.reduceAdd, Nat.reduceLeDiff, Nat.reduceLT, Nat.reduceMul, Nat.reduceSub, ↓reduceIte, Int.reduceLT, Int.reduceLE, Int.reduceNeg, Int.reduceAdd, Int.reduceEq, Nat.reduceBneDiff, Nat.reduceBEq, Int.reduceToNat, Int.reduceMul, Int.reduceSub, Int.reduceBEq, Int.reduceBNe, Int.cast_ofNat_Int, Int.toNat_natCast_add_one, Nat.add_left_cancel_iff, Nat.left_eq_add, Nat.add_eq_left, Int.toNat_natCast, Nat.add_assoc, Int.ofNat_lt, Int.ofNat_le], by simp only [go_sem, Wk_block, reduceCtorEq, Nat.reduceEqDiff, Nat.reduceAdd, Nat.reduceLeDiff, Nat.reduceLT, Nat.reduceMul, Nat.reduceSub, ↓reduceIte, Int.reduceLT, Int.reduceLE, Int.reduceNeg, Int.reduceAdd, Int.reduceEq, Nat.reduceBneDiff, Nat.reduceBEq, Int.reduceToNat, Int.reduceMul, Int.reduceSub, Int.reduceBEq, Int.reduceBNe, Int.cast_ofNat_Int, Int.toNat_natCast_add_one, Nat.add_left_cancel_iff, Nat.left_eq_add, Nat.add_eq_left, Int.toNat_natCast, Nat.add_assoc, Int.ofNat_lt, Int.ofNat_le], by simp only [go_sem, Wk_block, reduceCtorEq, Nat.reduceEqDiff, Nat.reduceAdd, Nat.reduceLeDiff, Nat.reduceLT, Nat.reduceMul, Nat.reduceSub, ↓reduceIte, Int.reduceLT, Int.reduceLE, Int.reduceNeg, Int.reduceAdd, Int.reduceEq, Nat.reduceBneDiff, Nat.reduceBEq, Int.reduceToNat, Int.reduceMul, Int.reduceSub, Int.reduceBEq, Int.reduceBNe, Int.cast_ofNat_Int, Int.toNat_natCast_add_one, Nat.add_left_cancel_iff, Nat.left_eq_add, Nat.add_eq_left, Int.toNat_natCast, Nat.add_assoc, Int.ofNat_lt, Int.ofNat_le], J4, f04, hr4, hn4⟩
  clear J4 f04 hr4 hn4
  rintro k ts s5 ⟨j, rfl, hj, g34, g33, g32, g3, g4, g6, J5, f05, hr5, hn5⟩ IH
  by_cases hjl : j < own.length
  · have hjl' : j < (own.map Hv.enc).length := by rw [List.length_map]; exact hjl
    have htake : hbase S.target hs (own.take (j + 1)) = hstep S.target hs (hbase S.target hs (own.take j)) own[j] := by
      rw [List.take_succ_eq_append_getElem hjl]
      simp only [hbase, List.foldl_append, List.foldl_cons, List.foldl_nil, hstep]
    obtain ⟨vs, hv, hle, he⟩ := J5.ho.at_ j hjl'
    generalize hxe : own[j] = x at htake
    have he' : (vs.drop (oo + j * 3)).take 3 = [.int .u32 x.l.e, .int .u32 x.l.q, .int .u32 x.sum] := by rw [he]; simp [Hv.enc, hxe]
    have hj2 : j < 9223372036854775807 := by unfold maxLen at hmaxo; omega
    generalize hB : hbase S.target hs (own.take j) = B at *
    have lp := J5.lp
    unfold Lies Mg.enc at lp
    have hq1 : p + 1 < s5.next := J5.ltp
    obtain ⟨q, hq⟩ : ∃ q, s5.next = q := ⟨_, rfl⟩
    have J6 := J5.mono ((Fr.refl s5).new (.cells [.int .u32 x.l.e, .int .u32 x.l.q, .int .u32 x.sum] false false 0))
    have f06 := f05.new (.cells [.int .u32 x.l.e, .int .u32 x.l.q, .int .u32 x.sum] false false 0)
    have hr6 : (s5.new (.cells [.int .u32 x.l.e, .int .u32 x.l.q, .int .u32 x.sum] false false 0)).get (p + 2) = _ := (St.get_new _ _ _).trans ((if_neg (by omega)).trans hr5)
    have hn6 : p + 2 < (s5.new (.cells [.int .u32 x.l.e, .int .u32 x.l.q, .int .u32 x.sum] false false 0)).next := Nat.lt_succ_of_lt hn5
    have hx6 : (s5.new (.cells [.int .u32 x.l.e, .int .u32 x.l.q, .int .u32 x.sum] false false 0)).get q = some (.cells [.int .u32 x.l.e, .int .u32 x.l.q, .int .u32 x.sum] false false 0) := by rw [← hq]; simp only [St.get_new, if_true]
    have hq6 : q < (s5.new (.cells [.int .u32 x.l.e, .int .u32 x.l.q, .int .u32 x.sum] false false 0)).next := by rw [← hq]; exact Nat.lt_succ_self _
    have hqp : q ≠ p := by have := J5.ltb; omega
    simp -implicitDefEqProofs only [go_sem, Wk_block, reduceCtorEq, Nat.reduceEqDiff, Nat.reduceAdd, Nat.reduceLeDiff, Nat.reduceLT, Nat.reduceMul, Nat.reduceSub, ↓reduceIte, Int.reduceLT, Int.reduceLE, Int.reduceNeg, Int.reduceAdd, Int.reduceEq, Nat.reduceBneDiff, Nat.reduceBEq, Int.reduceToNat, Int.reduceMul, Int.reduceSub, Int.reduceBEq, Int.reduceBNe, Int.cast_ofNat_Int, Int.toNat_natCast_add_one, Nat.add_left_cancel_iff, Nat.left_eq_add, Nat.add_eq_left, Int.toNat_natCast, Nat.add_assoc, Int.ofNat_lt, Int.ofNat_le, Nat.lt_add_one_of_lt, Nat.lt_add_one, Nat.lt_add_right, Nat.lt_add_right_iff_pos, Nat.add_lt_add_iff_left, g34, g33, g32, g3, g4, g6, hjl, J5.ho.idx _ _ hjl', hv, hle, he', lp, hq1, eq_next_f hq1, J5.hh.len]
    rw [hq]
    generalize s5.new (.cells [.int .u32 x.l.e, .int .u32 x.l.q, .int .u32 x.sum] false false 0) = s6 at J6 f06 hr6 hn6 hx6 hq6 ⊢
    clear J5 f05 hr5 hn5 hv hle he he' lp hq hq1
    refine loop_ind (fun n ts s' => ∃ k : Nat, n = hs.length - k ∧ k ≤ hs.length ∧ ts.get 41 = some (.int .i64 k) ∧ ts.get 40 = some (.int .i64 hs.length) ∧ ts.get 39 = some m.haves ∧ ts.get 9 = some (.ptr q 0) ∧
      ts.get 34 = some (.int .i64 j) ∧ ts.get 33 = some (.int .i64 own.length) ∧ ts.get 32 = some ov ∧ ts.get 3 = some (.ptr p 0) ∧ ts.get 4 = some (.ptr (p + 1) 0) ∧ ts.get 6 = some (.ptr (p + 2) 0) ∧
      HJ s' p (p + 1) { S with base := hstep S.target (hs.take k) B x } m hs own ov bh oh bo oo ∧ Fr s s' ∧ s'.get (p + 2) = some (.cells [.int .u64 0, .int .u64 0, .int .u64 0, .int .i64 0, .int .i64 0, .int .u32 0, .int .u32 0, .int .u32 0, .int .u32 0, .int .u32 0, .int .u32 0, .int .i64 0, .int .i64 0, .int .i64 0] false false 0) ∧ p + 2 < s'.next ∧ s'.get q = some (.cells [.int .u32 x.l.e, .int .u32 x.l.q, .int .u32 x.sum] false false 0) ∧ q < s'.next) ?_ (n := hs.length)
      ⟨0, by omega, by omega, by simp only [go_sem, Wk_block, reduceCtorEq, Nat.reduceEqDiff, Nat.reduceAdd, Nat.reduceLeDiff, Nat.reduceLT, Nat.reduceMul, Nat.reduceSub, ↓reduceIte, Int.reduceLT, Int.reduceLE, Int.reduceNeg, Int.reduceAdd, Int.reduceEq, Nat.reduceBneDiff, Nat.reduceBEq, Int.reduceToNat, Int.reduceMul, Int.reduceSub, Int.reduceBEq, Int.reduceBNe, Int.cast_ofNat_Int, Int.toNat_natCast_add_one, Nat.add_left_cancel_iff, Nat.left_eq_add, Nat.add_eq_left, Int.toNat_natCast, Nat.add_assoc, Int.ofNat_lt, Int.ofNat_le], by simp only [go_sem, Wk_block, reduceCtorEq, Nat.reduceEqDiff, Nat.reduceAdd, Nat.reduceLeDiff, Nat.reduceLT, Nat.reduceMul, Nat.reduceSub, ↓reduceIte, Int.reduceLT, Int.reduceLE, Int.reduceNeg, Int.reduceAdd, Int.reduceEq, Nat.reduceBneDiff, Nat.reduceBEq, Int.reduceToNat, Int.reduceMul, Int.reduceSub, Int.reduceBEq, Int.reduceBNe, Int.cast_ofNat_Int, Int.toNat_natCast_add_one, Nat.add_left_cancel_iff, Nat.left_eq_add, Nat.add_eq_left, Int.toNat_natCast, Nat.add_assoc, Int.ofNat_lt, Int.ofNat_le, List.length_map], by simp only [go_sem, Wk_block, reduceCtorEq, Nat.reduceEqDiff, Nat.reduceAdd, Nat.reduceLeDiff, Nat.reduceLT, Nat.reduceMul, Nat.reduceSub, ↓reduceIte, Int.reduceLT, Int.reduceLE, Int.reduceNeg, Int.reduceAdd, Int.reduceEq, Nat.reduceBneDiff, Nat.reduceBEq, Int.reduceToNat, Int.reduceMul, Int.reduceSub, Int.reduceBEq, Int.reduceBNe, Int.cast_ofNat_Int, Int.toNat_natCast_add_one, Nat.add_left_cancel_iff, Nat.left_eq_add, Nat.add_eq_left, Int.toNat_natCast, Nat.add_assoc, Int.ofNat_lt, Int.ofNat_le], by simp only [go_sem, Wk_block, reduceCtorEq, Nat.reduceEqDiff, Nat.reduceAdd, Nat.reduceLeDiff, Nat.reduceLT, Nat.reduceMul, Nat.reduceSub, ↓reduceIte, Int.reduceLT, Int.reduceLE, Int.reduceNeg, Int.reduceAdd, Int.reduceEq, Nat.reduceBneDiff, Nat.reduceBEq, Int.reduceToNat, Int.reduceMul, Int.reduceSub, Int.reduceBEq, Int.reduceBNe, Int.cast_ofNat_Int, Int.toNat_natCast_add_one, Nat.add_left_cancel_iff, Nat.left_eq_add, Nat.add_eq_left, Int.toNat_natCast, Nat.add_assoc, Int.ofNat_lt, Int.ofNat_le], by simp only [go_sem, Wk_block, reduceCtorEq, Nat.reduceEqDiff, Nat.reduceAdd, Nat.reduceLeDiff, Nat.reduceLT, Nat.reduceMul, Nat.reduceSub, ↓reduceIte, Int.reduceLT, Int.reduceLE, Int.reduceNeg, Int.reduceAdd, Int.reduceEq, Nat.reduceBneDiff, Nat.reduceBEq, Int.reduceToNat, Int.reduceMul, Int.reduceSub, Int.reduceBEq, Int.reduceBNe, Int.cast_ofNat_Int, Int.toNat_natCast_add_one, Nat.add_left_cancel_iff, Nat.left_eq_add, Nat.add_eq_left, Int.toNat_natCast, Nat.add_assoc, Int.ofNat_lt, Int.ofNat_le, g34], by simp only [go_sem, Wk_block, reduceCtorEq, Nat.reduceEqDiff, Nat.reduceAdd, Nat.reduceLeDiff, Nat.reduceLT, Nat.reduceMul, Nat.reduceSub, ↓reduceIte, Int.reduceLT, Int.reduceLE, Int.reduceNeg, Int.reduceAdd, Int.reduceEq, Nat.reduceBneDiff, Nat.reduceBEq, Int.reduceToNat, Int.reduceMul, Int.reduceSub, Int.reduceBEq, Int.reduceBNe, Int.cast_ofNat_Int, Int.toNat_natCast_add_one, Nat.add_left_cancel_iff, Nat.left_eq_add, Nat.add_eq_left, Int.toNat_natCast, Nat.add_assoc, Int.ofNat_lt, Int.ofNat_le, g33], by simp only [go_sem, Wk_block, reduceCtorEq, Nat.reduceEqDiff, Nat.reduceAdd, Nat.reduceLeDiff, Nat.reduceLT, Nat.reduceMul, Nat.reduceSub, ↓reduceIte, Int.reduceLT, Int.reduceLE, Int.reduceNeg, Int.reduceAdd, Int.reduceEq, Nat.reduceBneDiff, Nat.reduceBEq, Int.reduceToNat, Int.reduceMul, Int.reduceSub, Int.reduceBEq, Int.reduceBNe, Int.cast_ofNat_Int, Int.toNat_natCast_add_one, Nat.add_left_cancel_iff, Nat.left_eq_add, Nat.add_eq_left, Int.toNat_natCast, Nat.add_assoc, Int.ofNat_lt, Int.ofNat_le, g32], by simp only [go_sem, Wk_block, reduceCtorEq, Nat.reduceEqDiff, Nat.reduceAdd, Nat.reduceLeDiff, Nat.reduceLT, Nat.reduceMul, Nat.reduceSub, ↓reduceIte, Int.reduceLT, Int.reduceLE, Int.reduceNeg, Int.reduceAdd, Int.reduceEq, Nat.reduceBneDiff, Nat.reduceBEq, Int.reduceToNat, Int.reduceMul, Int.reduceSub, Int.reduceBEq, Int.reduceBNe, Int.cast_ofNat_Int, Int.toNat_natCast_add_one, Nat.add_left_cancel_iff, Nat.left_eq_add, Nat.add_eq_left, Int.toNat_natCast, Nat.add_assoc, Int.ofNat_lt, Int.ofNat_le, g3], by simp only [go_sem, Wk_block, reduceCtorEq, Nat.reduceEqDiff, Nat.reduceAdd, Nat.reduceLeDiff, Nat.reduceLT, Nat.reduceMul, Nat.reduceSub, ↓reduceIte, Int.reduceLT, Int.reduceLE, Int.reduceNeg, Int.reduceAdd, Int.reduceEq, Nat.reduceBneDiff, Nat.reduceBEq, Int.reduceToNat, Int.reduceMul, Int.reduceSub, Int.reduceBEq, Int.reduceBNe, Int.cast_ofNat_Int, Int.toNat_natCast_add_one, Nat.add_left_cancel_iff, Nat.left_eq_add, Nat.add_eq_left, Int.toNat_natCast, Nat.add_assoc, Int.ofNat_lt, Int.ofNat_le, g4], by simp only [go_sem, Wk_block, reduceCtorEq, Nat.reduceEqDiff, Nat.reduceAdd, Nat.reduceLeDiff, Nat.reduceLT, Nat.reduceMul, Nat.reduceSub, ↓reduceIte, Int.reduceLT, Int.reduceLE, Int.reduceNeg, Int.reduceAdd, Int.reduceEq, Nat.reduceBneDiff, Nat.reduceBEq, Int.reduceToNat, Int.reduceMul, Int.reduceSub, Int.reduceBEq, Int.reduceBNe, Int.cast_ofNat_Int, Int.toNat_natCast_add_one, Nat.add_left_cancel_iff, Nat.left_eq_add, Nat.add_eq_left, Int.toNat_natCast, Nat.add_assoc, Int.ofNat_lt, Int.ofNat_le, g6], by simpa [hstep] using J6, f06, hr6, hn6, hx6, hq6⟩
    clear J6 f06 hr6 hn6 hx6 hq6 g34 g33 g32 g3 g4 g6
    rintro n ts s7 ⟨k, rfl, hk, g41, g40, g39, g9, g34, g33, g32, g3, g4, g6, J7, f07, hr7, hn7, hx7, hq7⟩ IH2
    by_cases hkl : k < hs.length
    · have hkl' : k < (hs.map Hv.enc).length := by rw [List.length_map]; exact hkl
      have hst := hstep_take (t := S.target) (b := B) (x := x) hkl
      obtain ⟨ws, hw, hle, he⟩ := J7.hh.at_ k hkl'
      generalize hye : hs[k] = y at hst
      have he' : (ws.drop (oh + k * 3)).take 3 = [.int .u32 y.l.e, .int .u32 y.l.q, .int .u32 y.sum] := by rw [he]; simp [Hv.enc, hye]
      have hk2 : k < 9223372036854775807 := by unfold maxLen at hmaxh; omega
      generalize hC : hstep S.target (hs.take k) B x = C at *
      have hqn : q < s7.next := hq7
      have J8 := J7.mono ((Fr.refl s7).new (.cells [.int .u32 y.l.e, .int .u32 y.l.q, .int .u32 y.sum] false false 0))
      have f08 := f07.new (.cells [.int .u32 y.l.e, .int .u32 y.l.q, .int .u32 y.sum] false false 0)
      have hr8 : (s7.new (.cells [.int .u32 y.l.e, .int .u32 y.l.q, .int .u32 y.sum] false false 0)).get (p + 2) = _ := (St.get_new _ _ _).trans ((if_neg (by omega)).trans hr7)
      have hn8 : p + 2 < (s7.new (.cells [.int .u32 y.l.e, .int .u32 y.l.q, .int .u32 y.sum] false false 0)).next := Nat.lt_succ_of_lt hn7
      have hx8 : (s7.new (.cells [.int .u32 y.l.e, .int .u32 y.l.q, .int .u32 y.sum] false false 0)).get q = some (.cells [.int .u32 x.l.e, .int .u32 x.l.q, .int .u32 x.sum] false false 0) := (St.get_new _ _ _).trans ((if_neg (by omega)).trans hx7)
      have hq8 : q < (s7.new (.cells [.int .u32 y.l.e, .int .u32 y.l.q, .int .u32 y.sum] false false 0)).next := Nat.lt_succ_of_lt hq7
      simp -implicitDefEqProofs only [go_sem, Wk_block, reduceCtorEq, Nat.reduceEqDiff, Nat.reduceAdd, Nat.reduceLeDiff, Nat.reduceLT, Nat.reduceMul, Nat.reduceSub, ↓reduceIte, Int.reduceLT, Int.reduceLE, Int.reduceNeg, Int.reduceAdd, Int.reduceEq, Nat.reduceBneDiff, Nat.reduceBEq, Int.reduceToNat, Int.reduceMul, Int.reduceSub, Int.reduceBEq, Int.reduceBNe, Int.cast_ofNat_Int, Int.toNat_natCast_add_one, Nat.add_left_cancel_iff, Nat.left_eq_add, Nat.add_eq_left, Int.toNat_natCast, Nat.add_assoc, Int.ofNat_lt, Int.ofNat_le, Nat.lt_add_one_of_lt, Nat.lt_add_one, Nat.lt_add_right, Nat.lt_add_right_iff_pos, Nat.add_lt_add_iff_left, g41, g40, g39, g9, g34, g33, g32, g3, g4, g6, hkl, J7.hh.idx _ _ hkl', hw, hle, he', hx7, hqn, eq_next_f hqn, eq_next_f' hqn]
      generalize s7.new (.cells [.int .u32 y.l.e, .int .u32 y.l.q, .int .u32 y.sum] false false 0) = s8 at J8 f08 hr8 hn8 hx8 hq8 ⊢
      clear J7 f07 hr7 hn7 hw hle he he' hx7 hq7 hqn
      have next : ∀ (ts' : Tr AV) (s' : St), ts'.get 41 = some (.int .i64 ((k + 1 : Nat) : Int)) ∧ ts'.get 40 = some (.int .i64 hs.length) ∧ ts'.get 39 = some m.haves ∧ ts'.get 9 = some (.ptr q 0) ∧
          ts'.get 34 = some (.int .i64 j) ∧ ts'.get 33 = some (.int .i64 own.length) ∧ ts'.get 32 = some ov ∧ ts'.get 3 = some (.ptr p 0) ∧ ts'.get 4 = some (.ptr (p + 1) 0) ∧ ts'.get 6 = some (.ptr (p + 2) 0) →
          HJ s' p (p + 1) { S with base := hstep S.target (hs.take (k + 1)) B x } m hs own ov bh oh bo oo → Fr s s' → s'.get (p + 2) = some (.cells [.int .u64 0, .int .u64 0, .int .u64 0, .int .i64 0, .int .i64 0, .int .u32 0, .int .u32 0, .int .u32 0, .int .u32 0, .int .u32 0, .int .u32 0, .int .i64 0, .int .i64 0, .int .i64 0] false false 0) → p + 2 < s'.next → s'.get q = some (.cells [.int .u32 x.l.e, .int .u32 x.l.q, .int .u32 x.sum] false false 0) → q < s'.next → _ :=
        fun ts' s' ⟨a1, a2, a3, a4, a5, a6, a7, a8, a9, a10⟩ b1 b2 b3 b4 b5 b6 => IH2 (hs.length - (k + 1)) ts' s' (by omega) ⟨k + 1, rfl, by omega, a1, a2, a3, a4, a5, a6, a7, a8, a9, a10, b1, b2, b3, b4, b5, b6⟩
      clear IH IH2
      have lb := J8.lb
      unfold Lies Snd.encR at lb
      refine Wg_split (fun hg => ?_) (fun hg => ?_)
      · have hxy : x = y := hv_eq.1 hg
        simp -implicitDefEqProofs only [go_sem, Wk_block, reduceCtorEq, Nat.reduceEqDiff, Nat.reduceAdd, Nat.reduceLeDiff, Nat.reduceLT, Nat.reduceMul, Nat.reduceSub, ↓reduceIte, Int.reduceLT, Int.reduceLE, Int.reduceNeg, Int.reduceAdd, Int.reduceEq, Nat.reduceBneDiff, Nat.reduceBEq, Int.reduceToNat, Int.reduceMul, Int.reduceSub, Int.reduceBEq, Int.reduceBNe, Int.cast_ofNat_Int, Int.toNat_natCast_add_one, Nat.add_left_cancel_iff, Nat.left_eq_add, Nat.add_eq_left, Int.toNat_natCast, Nat.add_assoc, Int.ofNat_lt, Int.ofNat_le, Nat.lt_add_one_of_lt, Nat.lt_add_one, Nat.lt_add_right, Nat.lt_add_right_iff_pos, Nat.add_lt_add_iff_left, g41, g40, g39, g9, g34, g33, g32, g3, g4, g6, hg, lb, hx8]
        refine Wl_of (less_run S.target x.l _) ?_
        rintro _ s9 ⟨rfl, f9⟩
        have J9 := J8.mono f9
        have f09 := f08.trans f9
        have hr9 := (f9.get _ hn8).trans hr8
        have hn9 := Nat.lt_of_lt_of_le hn8 f9.le
        have hx9 := (f9.get _ hq8).trans hx8
        have hq9 := Nat.lt_of_lt_of_le hq8 f9.le
        clear J8 f08 hr8 hn8 hx8 hq8 f9 lb
        have lb := J9.lb
        unfold Lies Snd.encR at lb
        simp -implicitDefEqProofs only [go_sem, Wk_block, reduceCtorEq, Nat.reduceEqDiff, Nat.reduceAdd, Nat.reduceLeDiff, Nat.reduceLT, Nat.reduceMul, Nat.reduceSub, ↓reduceIte, Int.reduceLT, Int.reduceLE, Int.reduceNeg, Int.reduceAdd, Int.reduceEq, Nat.reduceBneDiff, Nat.reduceBEq, Int.reduceToNat, Int.reduceMul, Int.reduceSub, Int.reduceBEq, Int.reduceBNe, Int.cast_ofNat_Int, Int.toNat_natCast_add_one, Nat.add_left_cancel_iff, Nat.left_eq_add, Nat.add_eq_left, Int.toNat_natCast, Nat.add_assoc, Int.ofNat_lt, Int.ofNat_le, Nat.lt_add_one_of_lt, Nat.lt_add_one, Nat.lt_add_right, Nat.lt_add_right_iff_pos, Nat.add_lt_add_iff_left, g41, g40, g39, g9, g34, g33, g32, g3, g4, g6, hg, lb, hx9]
        refine Wg_split (fun hg2 => ?_) (fun hg2 => ?_)
        · have hlt1 : ¬ S.target.lt x.l := by simpa using hg2
          simp -implicitDefEqProofs only [go_sem, Wk_block, reduceCtorEq, Nat.reduceEqDiff, Nat.reduceAdd, Nat.reduceLeDiff, Nat.reduceLT, Nat.reduceMul, Nat.reduceSub, ↓reduceIte, Int.reduceLT, Int.reduceLE, Int.reduceNeg, Int.reduceAdd, Int.reduceEq, Nat.reduceBneDiff, Nat.reduceBEq, Int.reduceToNat, Int.reduceMul, Int.reduceSub, Int.reduceBEq, Int.reduceBNe, Int.cast_ofNat_Int, Int.toNat_natCast_add_one, Nat.add_left_cancel_iff, Nat.left_eq_add, Nat.add_eq_left, Int.toNat_natCast, Nat.add_assoc, Int.ofNat_lt, Int.ofNat_le, Nat.lt_add_one_of_lt, Nat.lt_add_one, Nat.lt_add_right, Nat.lt_add_right_iff_pos, Nat.add_lt_add_iff_left, g41, g40, g39, g9, g34, g33, g32, g3, g4, g6, hg2, lb, hx9]
          refine Wl_of (less_run C x.l _) ?_
          rintro _ s10 ⟨rfl, f10⟩
          have J10 := J9.mono f10
          have f010 := f09.trans f10
          have hr10 := (f10.get _ hn9).trans hr9
          have hn10 := Nat.lt_of_lt_of_le hn9 f10.le
          have hx10 := (f10.get _ hq9).trans hx9
          have hq10 := Nat.lt_of_lt_of_le hq9 f10.le
          clear J9 f09 hr9 hn9 hx9 hq9 f10 lb
          have lb := J10.lb
          unfold Lies Snd.encR at lb
          simp -implicitDefEqProofs only [go_sem, Wk_block, reduceCtorEq, Nat.reduceEqDiff, Nat.reduceAdd, Nat.reduceLeDiff, Nat.reduceLT, Nat.reduceMul, Nat.reduceSub, ↓reduceIte, Int.reduceLT, Int.reduceLE, Int.reduceNeg, Int.reduceAdd, Int.reduceEq, Nat.reduceBneDiff, Nat.reduceBEq, Int.reduceToNat, Int.reduceMul, Int.reduceSub, Int.reduceBEq, Int.reduceBNe, Int.cast_ofNat_Int, Int.toNat_natCast_add_one, Nat.add_left_cancel_iff, Nat.left_eq_add, Nat.add_eq_left, Int.toNat_natCast, Nat.add_assoc, Int.ofNat_lt, Int.ofNat_le, Nat.lt_add_one_of_lt, Nat.lt_add_one, Nat.lt_add_right, Nat.lt_add_right_iff_pos, Nat.add_lt_add_iff_left, g41, g40, g39, g9, g34, g33, g32, g3, g4, g6, lb, hx10]
          refine Wi_split (fun hg3 => ?_) (fun hg3 => ?_)
          · have hlt2 : C.lt x.l := of_decide_eq_true hg3
            rw [if_pos ⟨⟨hxy, hlt1⟩, hlt2⟩] at hst
            have J11 := J10.turn (S' := { S with base := x.l })
            simp -implicitDefEqProofs only [go_sem, Wk_block, reduceCtorEq, Nat.reduceEqDiff, Nat.reduceAdd, Nat.reduceLeDiff, Nat.reduceLT, Nat.reduceMul, Nat.reduceSub, ↓reduceIte, Int.reduceLT, Int.reduceLE, Int.reduceNeg, Int.reduceAdd, Int.reduceEq, Nat.reduceBneDiff, Nat.reduceBEq, Int.reduceToNat, Int.reduceMul, Int.reduceSub, Int.reduceBEq, Int.reduceBNe, Int.cast_ofNat_Int, Int.toNat_natCast_add_one, Nat.add_left_cancel_iff, Nat.left_eq_add, Nat.add_eq_left, Int.toNat_natCast, Nat.add_assoc, Int.ofNat_lt, Int.ofNat_le, Nat.lt_add_one_of_lt, Nat.lt_add_one, Nat.lt_add_right, Nat.lt_add_right_iff_pos, Nat.add_lt_add_iff_left, g41, g40, g39, g9, g34, g33, g32, g3, g4, g6, lb, hx10, succ_in hk2]
            refine next _ _ ?_ (by rw [hst]; exact J11) (f010.put hp0 _) (by rw [St.get_put, if_neg (by omega)]; exact hr10) hn10 (by rw [St.get_put, if_neg hqp]; exact hx10) hq10
            simp only [go_sem, Wk_block, reduceCtorEq, Nat.reduceEqDiff, Nat.reduceAdd, Nat.reduceLeDiff, Nat.reduceLT, Nat.reduceMul, Nat.reduceSub, ↓reduceIte, Int.reduceLT, Int.reduceLE, Int.reduceNeg, Int.reduceAdd, Int.reduceEq, Nat.reduceBneDiff, Nat.reduceBEq, Int.reduceToNat, Int.reduceMul, Int.reduceSub, Int.reduceBEq, Int.reduceBNe, Int.cast_ofNat_Int, Int.toNat_natCast_add_one, Nat.add_left_cancel_iff, Nat.left_eq_add, Nat.add_eq_left, Int.toNat_natCast, Nat.add_assoc, Int.ofNat_lt, Int.ofNat_le, g41, g40, g39, g9, g34, g33, g32, g3, g4, g6]
          · have hlt2 : ¬ C.lt x.l := of_decide_eq_false hg3
            rw [if_neg (fun h => hlt2 h.2)] at hst
            simp -implicitDefEqProofs only [go_sem, Wk_block, reduceCtorEq, Nat.reduceEqDiff, Nat.reduceAdd, Nat.reduceLeDiff, Nat.reduceLT, Nat.reduceMul, Nat.reduceSub, ↓reduceIte, Int.reduceLT, Int.reduceLE, Int.reduceNeg, Int.reduceAdd, Int.reduceEq, Nat.reduceBneDiff, Nat.reduceBEq, Int.reduceToNat, Int.reduceMul, Int.reduceSub, Int.reduceBEq, Int.reduceBNe, Int.cast_ofNat_Int, Int.toNat_natCast_add_one, Nat.add_left_cancel_iff, Nat.left_eq_add, Nat.add_eq_left, Int.toNat_natCast, Nat.add_assoc, Int.ofNat_lt, Int.ofNat_le, Nat.lt_add_one_of_lt, Nat.lt_add_one, Nat.lt_add_right, Nat.lt_add_right_iff_pos, Nat.add_lt_add_iff_left, g41, g40, g39, g9, g34, g33, g32, g3, g4, g6, succ_in hk2]
            refine next _ _ ?_ (by rw [hst]; exact J10) f010 hr10 hn10 hx10 hq10
            simp only [go_sem, Wk_block, reduceCtorEq, Nat.reduceEqDiff, Nat.reduceAdd, Nat.reduceLeDiff, Nat.reduceLT, Nat.reduceMul, Nat.reduceSub, ↓reduceIte, Int.reduceLT, Int.reduceLE, Int.reduceNeg, Int.reduceAdd, Int.reduceEq, Nat.reduceBneDiff, Nat.reduceBEq, Int.reduceToNat, Int.reduceMul, Int.reduceSub, Int.reduceBEq, Int.reduceBNe, Int.cast_ofNat_Int, Int.toNat_natCast_add_one, Nat.add_left_cancel_iff, Nat.left_eq_add, Nat.add_eq_left, Int.toNat_natCast, Nat.add_assoc, Int.ofNat_lt, Int.ofNat_le, g41, g40, g39, g9, g34, g33, g32, g3, g4, g6]
        · have hlt1 : S.target.lt x.l := by simpa using hg2
          rw [if_neg (fun h => h.1.2 hlt1)] at hst
          simp -implicitDefEqProofs only [go_sem, Wk_block, reduceCtorEq, Nat.reduceEqDiff, Nat.reduceAdd, Nat.reduceLeDiff, Nat.reduceLT, Nat.reduceMul, Nat.reduceSub, ↓reduceIte, Int.reduceLT, Int.reduceLE, Int.reduceNeg, Int.reduceAdd, Int.reduceEq, Nat.reduceBneDiff, Nat.reduceBEq, Int.reduceToNat, Int.reduceMul, Int.reduceSub, Int.reduceBEq, Int.reduceBNe, Int.cast_ofNat_Int, Int.toNat_natCast_add_one, Nat.add_left_cancel_iff, Nat.left_eq_add, Nat.add_eq_left, Int.toNat_natCast, Nat.add_assoc, Int.ofNat_lt, Int.ofNat_le, Nat.lt_add_one_of_lt, Nat.lt_add_one, Nat.lt_add_right, Nat.lt_add_right_iff_pos, Nat.add_lt_add_iff_left, g41, g40, g39, g9, g34, g33, g32, g3, g4, g6, hg2, succ_in hk2]
          refine next _ _ ?_ (by rw [hst]; exact J9) f09 hr9 hn9 hx9 hq9
          simp only [go_sem, Wk_block, reduceCtorEq, Nat.reduceEqDiff, Nat.reduceAdd, Nat.reduceLeDiff, Nat.reduceLT, Nat.reduceMul, Nat.reduceSub, ↓reduceIte, Int.reduceLT, Int.reduceLE, Int.reduceNeg, Int.reduceAdd, Int.reduceEq, Nat.reduceBneDiff, Nat.reduceBEq, Int.reduceToNat, Int.reduceMul, Int.reduceSub, Int.reduceBEq, Int.reduceBNe, Int.cast_ofNat_Int, Int.toNat_natCast_add_one, Nat.add_left_cancel_iff, Nat.left_eq_add, Nat.add_eq_left, Int.toNat_natCast, Nat.add_assoc, Int.ofNat_lt, Int.ofNat_le, g41, g40, g39, g9, g34, g33, g32, g3, g4, g6]
      · have hxy : ¬ x = y := fun e => by rw [hv_eq.2 e] at hg; cases hg
        rw [if_neg (fun h => hxy h.1.1)] at hst
        simp -implicitDefEqProofs only [go_sem, Wk_block, reduceCtorEq, Nat.reduceEqDiff, Nat.reduceAdd, Nat.reduceLeDiff, Nat.reduceLT, Nat.reduceMul, Nat.reduceSub, ↓reduceIte, Int.reduceLT, Int.reduceLE, Int.reduceNeg, Int.reduceAdd, Int.reduceEq, Nat.reduceBneDiff, Nat.reduceBEq, Int.reduceToNat, Int.reduceMul, Int.reduceSub, Int.reduceBEq, Int.reduceBNe, Int.cast_ofNat_Int, Int.toNat_natCast_add_one, Nat.add_left_cancel_iff, Nat.left_eq_add, Nat.add_eq_left, Int.toNat_natCast, Nat.add_assoc, Int.ofNat_lt, Int.ofNat_le, Nat.lt_add_one_of_lt, Nat.lt_add_one, Nat.lt_add_right, Nat.lt_add_right_iff_pos, Nat.add_lt_add_iff_left, g41, g40, g39, g9, g34, g33, g32, g3, g4, g6, hg, succ_in hk2]
        refine next _ _ ?_ (by rw [hst]; exact J8) f08 hr8 hn8 hx8 hq8
        simp only [go_sem, Wk_block, reduceCtorEq, Nat.reduceEqDiff, Nat.reduceAdd, Nat.reduceLeDiff, Nat.reduceLT, Nat.reduceMul, Nat.reduceSub, ↓reduceIte, Int.reduceLT, Int.reduceLE, Int.reduceNeg, Int.reduceAdd, Int.reduceEq, Nat.reduceBneDiff, Nat.reduceBEq, Int.reduceToNat, Int.reduceMul, Int.reduceSub, Int.reduceBEq, Int.reduceBNe, Int.cast_ofNat_Int, Int.toNat_natCast_add_one, Nat.add_left_cancel_iff, Nat.left_eq_add, Nat.add_eq_left, Int.toNat_natCast, Nat.add_assoc, Int.ofNat_lt, Int.ofNat_le, g41, g40, g39, g9, g34, g33, g32, g3, g4, g6]
    · have hkn : k = hs.length := by omega
      subst hkn
      rw [List.take_length] at J7
      clear IH2
      simp -implicitDefEqProofs only [go_sem, Wk_block, reduceCtorEq, Nat.reduceEqDiff, Nat.reduceAdd, Nat.reduceLeDiff, Nat.reduceLT, Nat.reduceMul, Nat.reduceSub, ↓reduceIte, Int.reduceLT, Int.reduceLE, Int.reduceNeg, Int.reduceAdd, Int.reduceEq, Nat.reduceBneDiff, Nat.reduceBEq, Int.reduceToNat, Int.reduceMul, Int.reduceSub, Int.reduceBEq, Int.reduceBNe, Int.cast_ofNat_Int, Int.toNat_natCast_add_one, Nat.add_left_cancel_iff, Nat.left_eq_add, Nat.add_eq_left, Int.toNat_natCast, Nat.add_assoc, Int.ofNat_lt, Int.ofNat_le, Nat.lt_add_one_of_lt, Nat.lt_add_one, Nat.lt_add_right, Nat.lt_add_right_iff_pos, Nat.add_lt_add_iff_left, g41, g40, g39, g9, g34, g33, g32, g3, g4, g6, hkl, Nat.lt_irrefl, succ_in hj2]
      refine IH (own.length - (j + 1)) _ _ (by omega) ⟨j + 1, rfl, by omega, ?_, ?_, ?_, ?_, ?_, ?_, by rw [htake]; exact J7, f07, hr7, hn7⟩
      all_goals simp only [go_sem, Wk_block, reduceCtorEq, Nat.reduceEqDiff, Nat.reduceAdd, Nat.reduceLeDiff, Nat.reduceLT, Nat.reduceMul, Nat.reduceSub, ↓reduceIte, Int.reduceLT, Int.reduceLE, Int.reduceNeg, Int.reduceAdd, Int.reduceEq, Nat.reduceBneDiff, Nat.reduceBEq, Int.reduceToNat, Int.reduceMul, Int.reduceSub, Int.reduceBEq, Int.reduceBNe, Int.cast_ofNat_Int, Int.toNat_natCast_add_one, Nat.add_left_cancel_iff, Nat.left_eq_add, Nat.add_eq_left, Int.toNat_natCast, Nat.add_assoc, Int.ofNat_lt, Int.ofNat_le, g41, g40, g39, g9, g34, g33, g32, g3, g4, g6]
  · have hjn : j = own.length := by omega
    subst hjn
    rw [List.take_length] at J5
    have lb := J5.lb
    unfold Lies Snd.encR at lb
    simp -implicitDefEqProofs only [go_sem, Wk_block, reduceCtorEq, Nat.reduceEqDiff, Nat.reduceAdd, Nat.reduceLeDiff, Nat.reduceLT, Nat.reduceMul, Nat.reduceSub, ↓reduceIte, Int.reduceLT, Int.reduceLE, Int.reduceNeg, Int.reduceAdd, Int.reduceEq, Nat.reduceBneDiff, Nat.reduceBEq, Int.reduceToNat, Int.reduceMul, Int.reduceSub, Int.reduceBEq, Int.reduceBNe, Int.cast_ofNat_Int, Int.toNat_natCast_add_one, Nat.add_left_cancel_iff, Nat.left_eq_add, Nat.add_eq_left, Int.toNat_natCast, Nat.add_assoc, Int.ofNat_lt, Int.ofNat_le, Nat.lt_add_one_of_lt, Nat.lt_add_one, Nat.lt_add_right, Nat.lt_add_right_iff_pos, Nat.add_lt_add_iff_left, g34, g33, g32, g3, g4, g6, hjl, Nat.lt_irrefl, lb, hr5]
    first | ((repeat (first | exact FrX.refl _ _ | exact Fr.refl _ | assumption | exact Fr.x (by assumption) _ | refine FrX.put ?_ (.inl rfl) _ | refine FrX.put ?_ (.inr (by first | omega | (simp; done) | (simp; omega))) _ | refine FrX.new ?_ _ | refine Fr.put ?_ (by first | omega | (simp; done) | (simp; omega)) _ | refine Fr.new ?_ _ | refine FrX.then ?_ (by assumption) | refine Fr.trans ?_ (by assumption))); done) | (refine ⟨rfl, ?_⟩; (repeat (first | exact FrX.refl _ _ | exact Fr.refl _ | assumption | exact Fr.x (by assumption) _ | refine FrX.put ?_ (.inl rfl) _ | refine FrX.put ?_ (.inr (by first | omega | (simp; done) | (simp; omega))) _ | refine FrX.new ?_ _ | refine Fr.put ?_ (by first | omega | (simp; done) | (simp; omega)) _ | refine Fr.new ?_ _ | refine FrX.then ?_ (by assumption) | refine Fr.trans ?_ (by assumption))); done) | (refine ⟨by simp, ?_⟩; (repeat (first | exact FrX.refl _ _ | exact Fr.refl _ | assumption | exact Fr.x (by assumption) _ | refine FrX.put ?_ (.inl rfl) _ | refine FrX.put ?_ (.inr (by first | omega | (simp; done) | (simp; omega))) _ | refine FrX.new ?_ _ | refine Fr.put ?_ (by first | omega | (simp; done) | (simp; omega)) _ | refine Fr.new ?_ _ | refine FrX.then ?_ (by assumption) | refine Fr.trans ?_ (by assumption))); done)
end Go.Proofs.Ytfboomidofnmfaa
