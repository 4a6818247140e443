/- The document's answer: whether what a node exposes may change.
The document's answer: whether what is exposed changes by deliveries alone.
How a node ended; what a history's deliveries may change.
Whether what is exposed changes by deliveries alone. -/
import Derived.Test.YteffppdkofdmdaaZg
namespace Go.Proofs.Yteffppdkofdmdaa
open D
set_option linter.unusedSimpArgs false
set_option linter.unusedVariables false
set_option maxRecDepth 10000

/-- How long a history is, and where a node was up last. -/
def lu (i : Int) (l : List Mo) : Int × Int := l.foldl (fun a m => (a.1 + 1, if (sel i m.vs).up then a.1 else a.2)) (0, -1)
theorem lu_snoc (i : Int) (l : List Mo) (m : Mo) : lu i (l ++ [m]) = ((lu i l).1 + 1, if (sel i m.vs).up then (lu i l).1 else (lu i l).2) := by
  simp only [lu, List.foldl_append, List.foldl_cons, List.foldl_nil]
theorem lu_take (i : Int) {l : List Mo} {j : Nat} (hj : j < l.length) : lu i (l.take (j + 1)) = ((lu i (l.take j)).1 + 1, if (sel i l[j].vs).up then (lu i (l.take j)).1 else (lu i (l.take j)).2) := by
  rw [List.take_succ_eq_append_getElem hj, lu_snoc]
theorem snoc_ind {α : Type} {P : List α → Prop} (h0 : P []) (h1 : ∀ l a, P l → P (l ++ [a])) (l : List α) : P l := by
  rw [← List.reverse_reverse l]
  induction l.reverse with
  | nil => exact h0
  | cons a t ih => rw [List.reverse_cons]; exact h1 _ _ ih
theorem lu_fst (i : Int) (l : List Mo) : (lu i l).1 = l.length := by
  refine snoc_ind (P := fun l => (lu i l).1 = l.length) rfl (fun l m ih => ?_) l
  rw [lu_snoc, List.length_append, ih]; simp
theorem lu_snd (i : Int) (l : List Mo) : -1 ≤ (lu i l).2 ∧ (lu i l).2 < l.length := by
  refine snoc_ind (P := fun l => -1 ≤ (lu i l).2 ∧ (lu i l).2 < l.length) (by simp [lu]) (fun l m ih => ?_) l
  rw [lu_snoc, List.length_append]
  have := lu_fst i l
  dsimp only
  split <;> simp <;> omega

def cutB (i : Int) (l : List Mo) (m : Mo) : Bool := m.kind == 11 || (m.kind == 16 && decide (0 ≤ (lu i l).2) && decide ((lu i l).2 + 1 < l.length) && ((l[((lu i l).2 + 1).toNat]?).any fun x => x.kind == 11))

theorem cut_run (ms : List Mo) (hm : ∀ m ∈ ms, MoOk m) (x : Mo) (hx : MoOk x) {v : AV} {ba oa : Nat} {s : St} (hA : Acc s v 58 (ms.map Mo.cells) ba oa) (i : Int) (hi : i = 0 ∨ i = 1) :
    Wf mm 25 [v, .agg x.cells, .int .i64 i] s fun w s' => w = .bool (cutB i ms x) ∧ Fr s s' := by
  refine Wf_enter ft25 (sm (by decide)) (by rfl) ?_
  have hmax := hA.max
  rw [List.length_map] at hmax
  unfold maxLen at hmax
  have hlen0 : 1 ≤ x.cells.length := by have := hx.len; omega
  simp -implicitDefEqProofs only [go_sem, Wk_block, Wk_drawnC, reduceCtorEq, Nat.reduceEqDiff, Nat.reduceAdd, Nat.reduceLeDiff, Nat.reduceLT, Nat.reduceMul, Nat.reduceSub, ↓reduceIte, Int.reduceLT, Int.reduceLE, Int.reduceNeg, Int.reduceAdd, Int.reduceEq, Nat.reduceBneDiff, Nat.reduceBEq, Int.reduceToNat, Int.reduceMul, Int.reduceSub, Int.reduceBEq, Int.reduceBNe, Int.cast_ofNat_Int, Int.toNat_natCast_add_one, Nat.add_left_cancel_iff, Nat.left_eq_add, Nat.add_eq_left, Int.toNat_natCast, Nat.add_assoc, Int.ofNat_lt, Int.ofNat_le, Nat.lt_add_one_of_lt, Nat.lt_add_one, Nat.lt_add_right, Nat.lt_add_right_iff_pos, Nat.add_lt_add_iff_left, fd25, hx.cell, hx.k, hlen0]
  obtain ⟨e, he⟩ : ∃ e, s.next = e := ⟨_, rfl⟩
  refine Wi_split (fun hg => ?_) (fun hg => ?_)
  · simp only [go_sem, Wk_block, Wk_drawnC, reduceCtorEq, Nat.reduceEqDiff, Nat.reduceAdd, Nat.reduceLeDiff, Nat.reduceLT, Nat.reduceMul, Nat.reduceSub, ↓reduceIte, Int.reduceLT, Int.reduceLE, Int.reduceNeg, Int.reduceAdd, Int.reduceEq, Nat.reduceBneDiff, Nat.reduceBEq, Int.reduceToNat, Int.reduceMul, Int.reduceSub, Int.reduceBEq, Int.reduceBNe, Int.cast_ofNat_Int, Int.toNat_natCast_add_one, Nat.add_left_cancel_iff, Nat.left_eq_add, Nat.add_eq_left, Int.toNat_natCast, Nat.add_assoc, Int.ofNat_lt, Int.ofNat_le]
    refine ⟨?_, by (repeat (first | exact FrX.refl _ _ | exact Fr.refl _ | assumption | exact Fr.x (by assumption) _ | refine FrX.put ?_ (.inl rfl) _ | refine FrX.put ?_ (.inr (by first | omega | (simp; done) | (simp; omega))) _ | refine FrX.new ?_ _ | refine Fr.put ?_ (by first | omega | (simp; done) | (simp; omega)) _ | refine Fr.new ?_ _ | refine FrX.then ?_ (by assumption) | refine Fr.trans ?_ (by assumption)))⟩
    simp [cutB, hg]
  have f1 : Fr s (s.new (.cells x.cells false false 0)) := (Fr.refl s).new _
  have hl1 : Lies (s.new (.cells x.cells false false 0)) e x.cells := by rw [← he]; simp only [Lies, St.get_new, if_true]
  have hn1 : e < (s.new (.cells x.cells false false 0)).next := by rw [← he]; exact Nat.lt_succ_self _
  rw [he]
  generalize s.new (.cells x.cells false false 0) = s1 at *
  simp -implicitDefEqProofs only [go_sem, Wk_block, Wk_drawnC, reduceCtorEq, Nat.reduceEqDiff, Nat.reduceAdd, Nat.reduceLeDiff, Nat.reduceLT, Nat.reduceMul, Nat.reduceSub, ↓reduceIte, Int.reduceLT, Int.reduceLE, Int.reduceNeg, Int.reduceAdd, Int.reduceEq, Nat.reduceBneDiff, Nat.reduceBEq, Int.reduceToNat, Int.reduceMul, Int.reduceSub, Int.reduceBEq, Int.reduceBNe, Int.cast_ofNat_Int, Int.toNat_natCast_add_one, Nat.add_left_cancel_iff, Nat.left_eq_add, Nat.add_eq_left, Int.toNat_natCast, Nat.add_assoc, Int.ofNat_lt, Int.ofNat_le, Nat.lt_add_one_of_lt, Nat.lt_add_one, Nat.lt_add_right, Nat.lt_add_right_iff_pos, Nat.add_lt_add_iff_left, hA.len, List.length_map]
  refine loop_ind (fun m ts s' => ∃ j : Nat, m = ms.length - j ∧ j ≤ ms.length ∧ ts.get 16 = some (.int .i64 j) ∧ ts.get 15 = some (.int .i64 ms.length) ∧ ts.get 14 = some v ∧ ts.get 0 = some v ∧ ts.get 2 = some (.int .i64 i) ∧ ts.get 4 = some (.ptr e 0) ∧
    ts.get 7 = some (.int .i64 (lu i (ms.take j)).2) ∧ Fr s1 s') ?_ (n := ms.length)
    ⟨0, by omega, by omega, by simp only [go_sem, Wk_block, Wk_drawnC, reduceCtorEq, Nat.reduceEqDiff, Nat.reduceAdd, Nat.reduceLeDiff, Nat.reduceLT, Nat.reduceMul, Nat.reduceSub, ↓reduceIte, Int.reduceLT, Int.reduceLE, Int.reduceNeg, Int.reduceAdd, Int.reduceEq, Nat.reduceBneDiff, Nat.reduceBEq, Int.reduceToNat, Int.reduceMul, Int.reduceSub, Int.reduceBEq, Int.reduceBNe, Int.cast_ofNat_Int, Int.toNat_natCast_add_one, Nat.add_left_cancel_iff, Nat.left_eq_add, Nat.add_eq_left, Int.toNat_natCast, Nat.add_assoc, Int.ofNat_lt, Int.ofNat_le], by simp only [go_sem, Wk_block, Wk_drawnC, reduceCtorEq, Nat.reduceEqDiff, Nat.reduceAdd, Nat.reduceLeDiff, Nat.reduceLT, Nat.reduceMul, Nat.reduceSub, ↓reduceIte, Int.reduceLT, Int.reduceLE, Int.reduceNeg, Int.reduceAdd, Int.reduceEq, Nat.reduceBneDiff, Nat.reduceBEq, Int.reduceToNat, Int.reduceMul, Int.reduceSub, Int.reduceBEq, Int.reduceBNe, Int.cast_ofNat_Int, Int.toNat_natCast_add_one, Nat.add_left_cancel_iff, Nat.left_eq_add, Nat.add_eq_left, Int.toNat_natCast, Nat.add_assoc, Int.ofNat_lt, Int.ofNat_le], by simp only [go_sem, Wk_block, Wk_drawnC, reduceCtorEq, Nat.reduceEqDiff, Nat.reduceAdd, Nat.reduceLeDiff, Nat.reduceLT, Nat.reduceMul, Nat.reduceSub, ↓reduceIte, Int.reduceLT, Int.reduceLE, Int.reduceNeg, Int.reduceAdd, Int.reduceEq, Nat.reduceBneDiff, Nat.reduceBEq, Int.reduceToNat, Int.reduceMul, Int.reduceSub, Int.reduceBEq, Int.reduceBNe, Int.cast_ofNat_Int, Int.toNat_natCast_add_one, Nat.add_left_cancel_iff, Nat.left_eq_add, Nat.add_eq_left, Int.toNat_natCast, Nat.add_assoc, Int.ofNat_lt, Int.ofNat_le], by simp only [go_sem, Wk_block, Wk_drawnC, reduceCtorEq, Nat.reduceEqDiff, Nat.reduceAdd, Nat.reduceLeDiff, Nat.reduceLT, Nat.reduceMul, Nat.reduceSub, ↓reduceIte, Int.reduceLT, Int.reduceLE, Int.reduceNeg, Int.reduceAdd, Int.reduceEq, Nat.reduceBneDiff, Nat.reduceBEq, Int.reduceToNat, Int.reduceMul, Int.reduceSub, Int.reduceBEq, Int.reduceBNe, Int.cast_ofNat_Int, Int.toNat_natCast_add_one, Nat.add_left_cancel_iff, Nat.left_eq_add, Nat.add_eq_left, Int.toNat_natCast, Nat.add_assoc, Int.ofNat_lt, Int.ofNat_le], by simp only [go_sem, Wk_block, Wk_drawnC, reduceCtorEq, Nat.reduceEqDiff, Nat.reduceAdd, Nat.reduceLeDiff, Nat.reduceLT, Nat.reduceMul, Nat.reduceSub, ↓reduceIte, Int.reduceLT, Int.reduceLE, Int.reduceNeg, Int.reduceAdd, Int.reduceEq, Nat.reduceBneDiff, Nat.reduceBEq, Int.reduceToNat, Int.reduceMul, Int.reduceSub, Int.reduceBEq, Int.reduceBNe, Int.cast_ofNat_Int, Int.toNat_natCast_add_one, Nat.add_left_cancel_iff, Nat.left_eq_add, Nat.add_eq_left, Int.toNat_natCast, Nat.add_assoc, Int.ofNat_lt, Int.ofNat_le], by simp only [go_sem, Wk_block, Wk_drawnC, reduceCtorEq, Nat.reduceEqDiff, Nat.reduceAdd, Nat.reduceLeDiff, Nat.reduceLT, Nat.reduceMul, Nat.reduceSub, ↓reduceIte, Int.reduceLT, Int.reduceLE, Int.reduceNeg, Int.reduceAdd, Int.reduceEq, Nat.reduceBneDiff, Nat.reduceBEq, Int.reduceToNat, Int.reduceMul, Int.reduceSub, Int.reduceBEq, Int.reduceBNe, Int.cast_ofNat_Int, Int.toNat_natCast_add_one, Nat.add_left_cancel_iff, Nat.left_eq_add, Nat.add_eq_left, Int.toNat_natCast, Nat.add_assoc, Int.ofNat_lt, Int.ofNat_le, he], by simp only [go_sem, Wk_block, Wk_drawnC, reduceCtorEq, Nat.reduceEqDiff, Nat.reduceAdd, Nat.reduceLeDiff, Nat.reduceLT, Nat.reduceMul, Nat.reduceSub, ↓reduceIte, Int.reduceLT, Int.reduceLE, Int.reduceNeg, Int.reduceAdd, Int.reduceEq, Nat.reduceBneDiff, Nat.reduceBEq, Int.reduceToNat, Int.reduceMul, Int.reduceSub, Int.reduceBEq, Int.reduceBNe, Int.cast_ofNat_Int, Int.toNat_natCast_add_one, Nat.add_left_cancel_iff, Nat.left_eq_add, Nat.add_eq_left, Int.toNat_natCast, Nat.add_assoc, Int.ofNat_lt, Int.ofNat_le, List.take_zero]; rfl, Fr.refl _⟩
  rintro m ts s2 ⟨j, rfl, hj, g16, g15, g14, g0, g2, g4, g7, f2⟩ IH
  by_cases hlt : j < ms.length
  · have hjl : j < (ms.map Mo.cells).length := by rw [List.length_map]; exact hlt
    have hA1 := hA.mono (f1.trans f2)
    obtain ⟨vs, hv, hp, hq⟩ := hA1.part j hjl
    simp only [List.getElem_map] at hp hq
    have hok := hm ms[j] (List.getElem_mem hlt)
    have hp0 := hp 0 58 (by omega)
    have hlu := lu_take i hlt
    have hlf := lu_fst i (ms.take j)
    rw [List.length_take, Nat.min_eq_left (by omega)] at hlf
    generalize hy : ms[j] = y at *
    have hlen := hok.len
    have hcell := hok.cell
    have ht : y.cells.take 58 = y.cells := List.take_of_length_le (by omega)
    simp only [Nat.add_zero, Nat.add_assoc, List.drop_zero, ht] at hp0
    have w9 := succ_in (j := j) (by omega)
    have u0 := hok.u0
    have u1 := hok.u1
    rcases hi with rfl | rfl
    · cases hu : y.v0.up
      · rw [hu] at u0
        rw [show (sel 0 y.vs).up = false from hu] at hlu
        simp -implicitDefEqProofs only [go_sem, Wk_block, Wk_drawnC, reduceCtorEq, Nat.reduceEqDiff, Nat.reduceAdd, Nat.reduceLeDiff, Nat.reduceLT, Nat.reduceMul, Nat.reduceSub, ↓reduceIte, Int.reduceLT, Int.reduceLE, Int.reduceNeg, Int.reduceAdd, Int.reduceEq, Nat.reduceBneDiff, Nat.reduceBEq, Int.reduceToNat, Int.reduceMul, Int.reduceSub, Int.reduceBEq, Int.reduceBNe, Int.cast_ofNat_Int, Int.toNat_natCast_add_one, Nat.add_left_cancel_iff, Nat.left_eq_add, Nat.add_eq_left, Int.toNat_natCast, Nat.add_assoc, Int.ofNat_lt, Int.ofNat_le, Nat.lt_add_one_of_lt, Nat.lt_add_one, Nat.lt_add_right, Nat.lt_add_right_iff_pos, Nat.add_lt_add_iff_left, g16, g15, g14, g2, hlt, hA1.idx _ _ hjl, hv, hp0, hlen, hcell, u0, w9]
        refine IH (ms.length - (j + 1)) _ _ (by omega) ⟨j + 1, rfl, by omega, ?_, ?_, ?_, ?_, ?_, ?_, ?_, f2.new _⟩
        all_goals simp only [go_sem, Wk_block, Wk_drawnC, reduceCtorEq, Nat.reduceEqDiff, Nat.reduceAdd, Nat.reduceLeDiff, Nat.reduceLT, Nat.reduceMul, Nat.reduceSub, ↓reduceIte, Int.reduceLT, Int.reduceLE, Int.reduceNeg, Int.reduceAdd, Int.reduceEq, Nat.reduceBneDiff, Nat.reduceBEq, Int.reduceToNat, Int.reduceMul, Int.reduceSub, Int.reduceBEq, Int.reduceBNe, Int.cast_ofNat_Int, Int.toNat_natCast_add_one, Nat.add_left_cancel_iff, Nat.left_eq_add, Nat.add_eq_left, Int.toNat_natCast, Nat.add_assoc, Int.ofNat_lt, Int.ofNat_le, g15, g14, g0, g2, g4, g7, hlu, Bool.false_eq_true]
      · rw [hu] at u0
        rw [show (sel 0 y.vs).up = true from hu] at hlu
        simp -implicitDefEqProofs only [go_sem, Wk_block, Wk_drawnC, reduceCtorEq, Nat.reduceEqDiff, Nat.reduceAdd, Nat.reduceLeDiff, Nat.reduceLT, Nat.reduceMul, Nat.reduceSub, ↓reduceIte, Int.reduceLT, Int.reduceLE, Int.reduceNeg, Int.reduceAdd, Int.reduceEq, Nat.reduceBneDiff, Nat.reduceBEq, Int.reduceToNat, Int.reduceMul, Int.reduceSub, Int.reduceBEq, Int.reduceBNe, Int.cast_ofNat_Int, Int.toNat_natCast_add_one, Nat.add_left_cancel_iff, Nat.left_eq_add, Nat.add_eq_left, Int.toNat_natCast, Nat.add_assoc, Int.ofNat_lt, Int.ofNat_le, Nat.lt_add_one_of_lt, Nat.lt_add_one, Nat.lt_add_right, Nat.lt_add_right_iff_pos, Nat.add_lt_add_iff_left, g16, g15, g14, g2, hlt, hA1.idx _ _ hjl, hv, hp0, hlen, hcell, u0, w9]
        refine IH (ms.length - (j + 1)) _ _ (by omega) ⟨j + 1, rfl, by omega, ?_, ?_, ?_, ?_, ?_, ?_, ?_, f2.new _⟩
        all_goals simp only [go_sem, Wk_block, Wk_drawnC, reduceCtorEq, Nat.reduceEqDiff, Nat.reduceAdd, Nat.reduceLeDiff, Nat.reduceLT, Nat.reduceMul, Nat.reduceSub, ↓reduceIte, Int.reduceLT, Int.reduceLE, Int.reduceNeg, Int.reduceAdd, Int.reduceEq, Nat.reduceBneDiff, Nat.reduceBEq, Int.reduceToNat, Int.reduceMul, Int.reduceSub, Int.reduceBEq, Int.reduceBNe, Int.cast_ofNat_Int, Int.toNat_natCast_add_one, Nat.add_left_cancel_iff, Nat.left_eq_add, Nat.add_eq_left, Int.toNat_natCast, Nat.add_assoc, Int.ofNat_lt, Int.ofNat_le, g16, g15, g14, g0, g2, g4, g7, hlu, hlf]
    · cases hu : y.v1.up
      · rw [hu] at u1
        rw [show (sel 1 y.vs).up = false from hu] at hlu
        simp -implicitDefEqProofs only [go_sem, Wk_block, Wk_drawnC, reduceCtorEq, Nat.reduceEqDiff, Nat.reduceAdd, Nat.reduceLeDiff, Nat.reduceLT, Nat.reduceMul, Nat.reduceSub, ↓reduceIte, Int.reduceLT, Int.reduceLE, Int.reduceNeg, Int.reduceAdd, Int.reduceEq, Nat.reduceBneDiff, Nat.reduceBEq, Int.reduceToNat, Int.reduceMul, Int.reduceSub, Int.reduceBEq, Int.reduceBNe, Int.cast_ofNat_Int, Int.toNat_natCast_add_one, Nat.add_left_cancel_iff, Nat.left_eq_add, Nat.add_eq_left, Int.toNat_natCast, Nat.add_assoc, Int.ofNat_lt, Int.ofNat_le, Nat.lt_add_one_of_lt, Nat.lt_add_one, Nat.lt_add_right, Nat.lt_add_right_iff_pos, Nat.add_lt_add_iff_left, g16, g15, g14, g2, hlt, hA1.idx _ _ hjl, hv, hp0, hlen, hcell, u1, w9]
        refine IH (ms.length - (j + 1)) _ _ (by omega) ⟨j + 1, rfl, by omega, ?_, ?_, ?_, ?_, ?_, ?_, ?_, f2.new _⟩
        all_goals simp only [go_sem, Wk_block, Wk_drawnC, reduceCtorEq, Nat.reduceEqDiff, Nat.reduceAdd, Nat.reduceLeDiff, Nat.reduceLT, Nat.reduceMul, Nat.reduceSub, ↓reduceIte, Int.reduceLT, Int.reduceLE, Int.reduceNeg, Int.reduceAdd, Int.reduceEq, Nat.reduceBneDiff, Nat.reduceBEq, Int.reduceToNat, Int.reduceMul, Int.reduceSub, Int.reduceBEq, Int.reduceBNe, Int.cast_ofNat_Int, Int.toNat_natCast_add_one, Nat.add_left_cancel_iff, Nat.left_eq_add, Nat.add_eq_left, Int.toNat_natCast, Nat.add_assoc, Int.ofNat_lt, Int.ofNat_le, g15, g14, g0, g2, g4, g7, hlu, Bool.false_eq_true]
      · rw [hu] at u1
        rw [show (sel 1 y.vs).up = true from hu] at hlu
        simp -implicitDefEqProofs only [go_sem, Wk_block, Wk_drawnC, reduceCtorEq, Nat.reduceEqDiff, Nat.reduceAdd, Nat.reduceLeDiff, Nat.reduceLT, Nat.reduceMul, Nat.reduceSub, ↓reduceIte, Int.reduceLT, Int.reduceLE, Int.reduceNeg, Int.reduceAdd, Int.reduceEq, Nat.reduceBneDiff, Nat.reduceBEq, Int.reduceToNat, Int.reduceMul, Int.reduceSub, Int.reduceBEq, Int.reduceBNe, Int.cast_ofNat_Int, Int.toNat_natCast_add_one, Nat.add_left_cancel_iff, Nat.left_eq_add, Nat.add_eq_left, Int.toNat_natCast, Nat.add_assoc, Int.ofNat_lt, Int.ofNat_le, Nat.lt_add_one_of_lt, Nat.lt_add_one, Nat.lt_add_right, Nat.lt_add_right_iff_pos, Nat.add_lt_add_iff_left, g16, g15, g14, g2, hlt, hA1.idx _ _ hjl, hv, hp0, hlen, hcell, u1, w9]
        refine IH (ms.length - (j + 1)) _ _ (by omega) ⟨j + 1, rfl, by omega, ?_, ?_, ?_, ?_, ?_, ?_, ?_, f2.new _⟩
        all_goals simp only [go_sem, Wk_block, Wk_drawnC, reduceCtorEq, Nat.reduceEqDiff, Nat.reduceAdd, Nat.reduceLeDiff, Nat.reduceLT, Nat.reduceMul, Nat.reduceSub, ↓reduceIte, Int.reduceLT, Int.reduceLE, Int.reduceNeg, Int.reduceAdd, Int.reduceEq, Nat.reduceBneDiff, Nat.reduceBEq, Int.reduceToNat, Int.reduceMul, Int.reduceSub, Int.reduceBEq, Int.reduceBNe, Int.cast_ofNat_Int, Int.toNat_natCast_add_one, Nat.add_left_cancel_iff, Nat.left_eq_add, Nat.add_eq_left, Int.toNat_natCast, Nat.add_assoc, Int.ofNat_lt, Int.ofNat_le, g16, g15, g14, g0, g2, g4, g7, hlu, hlf]
  · have hje : j = ms.length := by omega
    subst hje
    rw [List.take_length] at g7
    have hl2 : s2.get e = _ := (f2.get e hn1).trans hl1
    have hk := hx.k
    have hsn := lu_snd i ms
    have hc : cutB i ms x = (x.kind == 16 && decide (0 ≤ (lu i ms).2) && decide ((lu i ms).2 + 1 < ms.length) && ((ms[((lu i ms).2 + 1).toNat]?).any fun x => x.kind == 11)) := by
      unfold cutB; rw [hg]; rfl
    rw [hc]
    generalize (lu i ms).2 = p at *
    have f12 := f1.trans f2
    have wp : IntKind.i64.wrap (p + 1) = p + 1 := i64_in (by omega) (by omega)
    cases h16 : (x.kind == 16) with
    | false =>
      simp -implicitDefEqProofs only [go_sem, Wk_block, Wk_drawnC, reduceCtorEq, Nat.reduceEqDiff, Nat.reduceAdd, Nat.reduceLeDiff, Nat.reduceLT, Nat.reduceMul, Nat.reduceSub, ↓reduceIte, Int.reduceLT, Int.reduceLE, Int.reduceNeg, Int.reduceAdd, Int.reduceEq, Nat.reduceBneDiff, Nat.reduceBEq, Int.reduceToNat, Int.reduceMul, Int.reduceSub, Int.reduceBEq, Int.reduceBNe, Int.cast_ofNat_Int, Int.toNat_natCast_add_one, Nat.add_left_cancel_iff, Nat.left_eq_add, Nat.add_eq_left, Int.toNat_natCast, Nat.add_assoc, Int.ofNat_lt, Int.ofNat_le, Nat.lt_add_one_of_lt, Nat.lt_add_one, Nat.lt_add_right, Nat.lt_add_right_iff_pos, Nat.add_lt_add_iff_left, g16, g15, hlt, g4, hl2, hk, h16]
      exact ⟨rfl, f12⟩
    | true =>
      by_cases hp0 : 0 ≤ p
      · by_cases hpl : p + 1 < ms.length
        · obtain ⟨n, hn⟩ : ∃ n : Nat, p + 1 = (n : Int) := ⟨(p + 1).toNat, by omega⟩
          rw [hn] at wp
          have hn1 : n < ms.length := by omega
          have hnl : n < (ms.map Mo.cells).length := by rw [List.length_map]; exact hn1
          have hA1 := hA.mono f12
          obtain ⟨vs, hv, hp, hq⟩ := hA1.part n hnl
          simp only [List.getElem_map] at hp hq
          have hok := hm ms[n] (List.getElem_mem hn1)
          have q0 := hq 0 (by omega)
          rw [hok.k] at q0
          simp only [Nat.add_zero] at q0
          simp -implicitDefEqProofs only [go_sem, Wk_block, Wk_drawnC, reduceCtorEq, Nat.reduceEqDiff, Nat.reduceAdd, Nat.reduceLeDiff, Nat.reduceLT, Nat.reduceMul, Nat.reduceSub, ↓reduceIte, Int.reduceLT, Int.reduceLE, Int.reduceNeg, Int.reduceAdd, Int.reduceEq, Nat.reduceBneDiff, Nat.reduceBEq, Int.reduceToNat, Int.reduceMul, Int.reduceSub, Int.reduceBEq, Int.reduceBNe, Int.cast_ofNat_Int, Int.toNat_natCast_add_one, Nat.add_left_cancel_iff, Nat.left_eq_add, Nat.add_eq_left, Int.toNat_natCast, Nat.add_assoc, Int.ofNat_lt, Int.ofNat_le, Nat.lt_add_one_of_lt, Nat.lt_add_one, Nat.lt_add_right, Nat.lt_add_right_iff_pos, Nat.add_lt_add_iff_left, g16, g15, hlt, g4, g0, hl2, hk, h16, g7, hp0, hn, hn1, wp, hA.len, List.length_map, hA1.idx _ _ hnl, hv, q0]
          refine ⟨?_, f12⟩
          simp [hn1]
        · have hpf : decide (p + 1 < (ms.length : Int)) = false := decide_eq_false hpl
          simp -implicitDefEqProofs only [go_sem, Wk_block, Wk_drawnC, reduceCtorEq, Nat.reduceEqDiff, Nat.reduceAdd, Nat.reduceLeDiff, Nat.reduceLT, Nat.reduceMul, Nat.reduceSub, ↓reduceIte, Int.reduceLT, Int.reduceLE, Int.reduceNeg, Int.reduceAdd, Int.reduceEq, Nat.reduceBneDiff, Nat.reduceBEq, Int.reduceToNat, Int.reduceMul, Int.reduceSub, Int.reduceBEq, Int.reduceBNe, Int.cast_ofNat_Int, Int.toNat_natCast_add_one, Nat.add_left_cancel_iff, Nat.left_eq_add, Nat.add_eq_left, Int.toNat_natCast, Nat.add_assoc, Int.ofNat_lt, Int.ofNat_le, Nat.lt_add_one_of_lt, Nat.lt_add_one, Nat.lt_add_right, Nat.lt_add_right_iff_pos, Nat.add_lt_add_iff_left, g16, g15, hlt, g4, g0, hl2, hk, h16, g7, hp0, hpf, wp, hA.len, List.length_map]
          exact ⟨rfl, f12⟩
      · have hpf : decide (0 ≤ p) = false := decide_eq_false hp0
        simp -implicitDefEqProofs only [go_sem, Wk_block, Wk_drawnC, reduceCtorEq, Nat.reduceEqDiff, Nat.reduceAdd, Nat.reduceLeDiff, Nat.reduceLT, Nat.reduceMul, Nat.reduceSub, ↓reduceIte, Int.reduceLT, Int.reduceLE, Int.reduceNeg, Int.reduceAdd, Int.reduceEq, Nat.reduceBneDiff, Nat.reduceBEq, Int.reduceToNat, Int.reduceMul, Int.reduceSub, Int.reduceBEq, Int.reduceBNe, Int.cast_ofNat_Int, Int.toNat_natCast_add_one, Nat.add_left_cancel_iff, Nat.left_eq_add, Nat.add_eq_left, Int.toNat_natCast, Nat.add_assoc, Int.ofNat_lt, Int.ofNat_le, Nat.lt_add_one_of_lt, Nat.lt_add_one, Nat.lt_add_right, Nat.lt_add_right_iff_pos, Nat.add_lt_add_iff_left, g16, g15, hlt, g4, g0, hl2, hk, h16, g7, hpf, wp, hA.len, List.length_map]
        exact ⟨rfl, f12⟩
end Go.Proofs.Yteffppdkofdmdaa
namespace Go.Proofs.Yteffppdkofdmdaa
open D
set_option linter.unusedSimpArgs false
set_option linter.unusedVariables false
set_option maxRecDepth 10000

/-- Does a node expose something else? -/
def chg (i : Int) (la : Vw × Vw) (m : Mo) : Bool := (sel i m.vs).up && !((sel i m.vs).ex.e == (sel i la).ex.e && (sel i m.vs).ex.q == (sel i la).ex.q)
def okC (l : List Mo) (m : Mo) : Bool := !((chg 0 (lastV l) m && chg 1 (lastV l) m) || (chg 0 (lastV l) m && !cutB 0 l m) || (chg 1 (lastV l) m && !cutB 1 l m))

theorem CutsR_run (ms : List Mo) (hm : ∀ m ∈ ms, MoOk m) {v : AV} {ba oa : Nat} {s : St} (hA : Acc s v 58 (ms.map Mo.cells) ba oa) :
    Wf mm 14 [v] s fun w s' => (∃ b : Bool, w = .bool b ∧ (b = true ↔ ∀ j (h : j < ms.length), okC (ms.take j) ms[j] = true)) ∧ Fr s s' := by
  refine Wf_enter ft14 (sm (by decide)) (by rfl) ?_
  have hmax := hA.max
  rw [List.length_map] at hmax
  unfold maxLen at hmax
  simp -implicitDefEqProofs only [go_sem, Wk_block, Wk_drawnC, reduceCtorEq, Nat.reduceEqDiff, Nat.reduceAdd, Nat.reduceLeDiff, Nat.reduceLT, Nat.reduceMul, Nat.reduceSub, ↓reduceIte, Int.reduceLT, Int.reduceLE, Int.reduceNeg, Int.reduceAdd, Int.reduceEq, Nat.reduceBneDiff, Nat.reduceBEq, Int.reduceToNat, Int.reduceMul, Int.reduceSub, Int.reduceBEq, Int.reduceBNe, Int.cast_ofNat_Int, Int.toNat_natCast_add_one, Nat.add_left_cancel_iff, Nat.left_eq_add, Nat.add_eq_left, Int.toNat_natCast, Nat.add_assoc, Int.ofNat_lt, Int.ofNat_le, Nat.lt_add_one_of_lt, Nat.lt_add_one, Nat.lt_add_right, Nat.lt_add_right_iff_pos, Nat.add_lt_add_iff_left, fd14, hA.len, List.length_map]
  refine loop_ind (fun m ts s' => ∃ j : Nat, m = ms.length - j ∧ j ≤ ms.length ∧ ts.get 9 = some (.int .i64 j) ∧ ts.get 8 = some (.int .i64 ms.length) ∧ ts.get 7 = some v ∧ ts.get 0 = some v ∧ Fr s s' ∧
    ∀ i (h : i < ms.length), i < j → okC (ms.take i) ms[i] = true) ?_ (n := ms.length)
    ⟨0, by omega, by omega, by simp only [go_sem, Wk_block, Wk_drawnC, reduceCtorEq, Nat.reduceEqDiff, Nat.reduceAdd, Nat.reduceLeDiff, Nat.reduceLT, Nat.reduceMul, Nat.reduceSub, ↓reduceIte, Int.reduceLT, Int.reduceLE, Int.reduceNeg, Int.reduceAdd, Int.reduceEq, Nat.reduceBneDiff, Nat.reduceBEq, Int.reduceToNat, Int.reduceMul, Int.reduceSub, Int.reduceBEq, Int.reduceBNe, Int.cast_ofNat_Int, Int.toNat_natCast_add_one, Nat.add_left_cancel_iff, Nat.left_eq_add, Nat.add_eq_left, Int.toNat_natCast, Nat.add_assoc, Int.ofNat_lt, Int.ofNat_le], by simp only [go_sem, Wk_block, Wk_drawnC, reduceCtorEq, Nat.reduceEqDiff, Nat.reduceAdd, Nat.reduceLeDiff, Nat.reduceLT, Nat.reduceMul, Nat.reduceSub, ↓reduceIte, Int.reduceLT, Int.reduceLE, Int.reduceNeg, Int.reduceAdd, Int.reduceEq, Nat.reduceBneDiff, Nat.reduceBEq, Int.reduceToNat, Int.reduceMul, Int.reduceSub, Int.reduceBEq, Int.reduceBNe, Int.cast_ofNat_Int, Int.toNat_natCast_add_one, Nat.add_left_cancel_iff, Nat.left_eq_add, Nat.add_eq_left, Int.toNat_natCast, Nat.add_assoc, Int.ofNat_lt, Int.ofNat_le], by simp only [go_sem, Wk_block, Wk_drawnC, reduceCtorEq, Nat.reduceEqDiff, Nat.reduceAdd, Nat.reduceLeDiff, Nat.reduceLT, Nat.reduceMul, Nat.reduceSub, ↓reduceIte, Int.reduceLT, Int.reduceLE, Int.reduceNeg, Int.reduceAdd, Int.reduceEq, Nat.reduceBneDiff, Nat.reduceBEq, Int.reduceToNat, Int.reduceMul, Int.reduceSub, Int.reduceBEq, Int.reduceBNe, Int.cast_ofNat_Int, Int.toNat_natCast_add_one, Nat.add_left_cancel_iff, Nat.left_eq_add, Nat.add_eq_left, Int.toNat_natCast, Nat.add_assoc, Int.ofNat_lt, Int.ofNat_le], by simp only [go_sem, Wk_block, Wk_drawnC, reduceCtorEq, Nat.reduceEqDiff, Nat.reduceAdd, Nat.reduceLeDiff, Nat.reduceLT, Nat.reduceMul, Nat.reduceSub, ↓reduceIte, Int.reduceLT, Int.reduceLE, Int.reduceNeg, Int.reduceAdd, Int.reduceEq, Nat.reduceBneDiff, Nat.reduceBEq, Int.reduceToNat, Int.reduceMul, Int.reduceSub, Int.reduceBEq, Int.reduceBNe, Int.cast_ofNat_Int, Int.toNat_natCast_add_one, Nat.add_left_cancel_iff, Nat.left_eq_add, Nat.add_eq_left, Int.toNat_natCast, Nat.add_assoc, Int.ofNat_lt, Int.ofNat_le], Fr.refl s, fun i _ h => by omega⟩
  rintro m ts s1 ⟨j, rfl, hj, g9, g8, g7, g0, f1, hall⟩ IH
  by_cases hlt : j < ms.length
  · have hjl : j < (ms.map Mo.cells).length := by rw [List.length_map]; exact hlt
    have hA1 := hA.mono f1
    obtain ⟨vs, hv, hp, hq⟩ := hA1.part j hjl
    simp only [List.getElem_map] at hp hq
    have hok := hm ms[j] (List.getElem_mem hlt)
    have hp0 := hp 0 58 (by omega)
    have hstep : okC (ms.take j) ms[j] = true → ∀ i (h : i < ms.length), i < j + 1 → okC (ms.take i) ms[i] = true := by
      intro h i hi hij
      by_cases hij' : i = j
      · subst hij'; exact h
      · exact hall i hi (by omega)
    have hbad : okC (ms.take j) ms[j] = false → ¬ ∀ i (h : i < ms.length), okC (ms.take i) ms[i] = true := fun h k => by rw [k j hlt] at h; cases h
    generalize hx : ms[j] = x at *
    have hlen := hok.len
    have hcell := hok.cell
    have ht : x.cells.take 58 = x.cells := List.take_of_length_le (by omega)
    simp only [Nat.add_zero, Nat.add_assoc, List.drop_zero, ht] at hp0
    obtain ⟨e, he⟩ : ∃ e, s1.next = e := ⟨_, rfl⟩
    have w9 := succ_in (j := j) (by omega)
    have ft : (false == true) = false := rfl
    simp -implicitDefEqProofs only [go_sem, reduceCtorEq, Nat.reduceEqDiff, Nat.reduceAdd, Nat.reduceLeDiff, Nat.reduceLT, Nat.reduceMul, Nat.reduceSub, ↓reduceIte, Int.reduceLT, Int.reduceLE, Int.reduceNeg, Int.reduceAdd, Int.reduceEq, Nat.reduceBneDiff, Nat.reduceBEq, Int.reduceToNat, Int.reduceMul, Int.reduceSub, Int.reduceBEq, Int.reduceBNe, Int.cast_ofNat_Int, Int.toNat_natCast_add_one, Nat.add_left_cancel_iff, Nat.left_eq_add, Nat.add_eq_left, Int.toNat_natCast, Nat.add_assoc, Int.ofNat_lt, Int.ofNat_le, Nat.lt_add_one_of_lt, Nat.lt_add_one, Nat.lt_add_right, Nat.lt_add_right_iff_pos, Nat.add_lt_add_iff_left, Wk_block, g9, g8, g7, g0, hlt, hA1.idx _ _ hjl, hv, hp0, hlen, hcell, w9]
    have f2 : Fr s (s1.new (.cells x.cells false false 0)) := f1.new _
    have hl2 : Lies (s1.new (.cells x.cells false false 0)) e x.cells := by rw [← he]; simp only [Lies, St.get_new, if_true]
    have hn2 : e < (s1.new (.cells x.cells false false 0)).next := by rw [← he]; exact Nat.lt_succ_self _
    obtain ⟨v', hs', hA'⟩ := hA.take (j := j) (by rw [List.length_map]; omega) (by rw [List.length_map]; omega)
    rw [← List.map_take] at hA'
    have hm' : ∀ m ∈ ms.take j, MoOk m := fun m hm1 => hm m (List.mem_of_mem_take hm1)
    have hla : ∃ la, lastV (ms.take j) = la := ⟨_, rfl⟩
    obtain ⟨la, hla⟩ := hla
    have u0 := hok.u0
    have u1 := hok.u1
    have x0 := hok.x0
    have x1 := hok.x1
    have c1 : 49 ≤ x.cells.length := by omega
    have c2 : 56 ≤ x.cells.length := by omega
    rw [he]
    generalize s1.new (.cells x.cells false false 0) = s2 at *
    unfold Lies at hl2
    refine Wk_cut (fun ts' s' => ts'.get 9 = some (.int .i64 j) ∧ ts'.get 8 = some (.int .i64 ms.length) ∧ ts'.get 7 = some v ∧ ts'.get 0 = some v ∧ ts'.get 4 = some (.ptr e 0) ∧ ts'.get 3 = some (.int .i64 j) ∧ ts'.get 5 = some (.bool (chg 0 la x)) ∧ Fr s2 s') ?_ ?_
    · cases hu : x.v0.up
      · rw [hu] at u0
        have hc : chg 0 la x = false := by unfold chg; rw [show (sel 0 x.vs).up = false from hu]; rfl
        simp -implicitDefEqProofs only [go_sem, Wk_block, Wk_drawnC, reduceCtorEq, Nat.reduceEqDiff, Nat.reduceAdd, Nat.reduceLeDiff, Nat.reduceLT, Nat.reduceMul, Nat.reduceSub, ↓reduceIte, Int.reduceLT, Int.reduceLE, Int.reduceNeg, Int.reduceAdd, Int.reduceEq, Nat.reduceBneDiff, Nat.reduceBEq, Int.reduceToNat, Int.reduceMul, Int.reduceSub, Int.reduceBEq, Int.reduceBNe, Int.cast_ofNat_Int, Int.toNat_natCast_add_one, Nat.add_left_cancel_iff, Nat.left_eq_add, Nat.add_eq_left, Int.toNat_natCast, Nat.add_assoc, Int.ofNat_lt, Int.ofNat_le, Nat.lt_add_one_of_lt, Nat.lt_add_one, Nat.lt_add_right, Nat.lt_add_right_iff_pos, Nat.add_lt_add_iff_left, Wr_nil, g9, g8, g7, g0, he, hl2, u0, ft, hc]
        exact Fr.refl _
      · rw [hu] at u0
        have hc : chg 0 la x = !(x.v0.ex.e == la.1.ex.e && x.v0.ex.q == la.1.ex.q) := by unfold chg; rw [show (sel 0 x.vs).up = true from hu]; rfl
        simp -implicitDefEqProofs only [go_sem, Wk_block, Wk_drawnC, reduceCtorEq, Nat.reduceEqDiff, Nat.reduceAdd, Nat.reduceLeDiff, Nat.reduceLT, Nat.reduceMul, Nat.reduceSub, ↓reduceIte, Int.reduceLT, Int.reduceLE, Int.reduceNeg, Int.reduceAdd, Int.reduceEq, Nat.reduceBneDiff, Nat.reduceBEq, Int.reduceToNat, Int.reduceMul, Int.reduceSub, Int.reduceBEq, Int.reduceBNe, Int.cast_ofNat_Int, Int.toNat_natCast_add_one, Nat.add_left_cancel_iff, Nat.left_eq_add, Nat.add_eq_left, Int.toNat_natCast, Nat.add_assoc, Int.ofNat_lt, Int.ofNat_le, Nat.lt_add_one_of_lt, Nat.lt_add_one, Nat.lt_add_right, Nat.lt_add_right_iff_pos, Nat.add_lt_add_iff_left, Wr_nil, g9, g8, g7, g0, he, hl2, u0, x0, c1, hs']
        refine Wl_of (Last_run _ hm' (hA'.mono f2) 0 (.inl rfl)) ?_
        rintro _ s3 ⟨rfl, f3⟩
        have hl3 : s3.get e = _ := (f3.get e hn2).trans hl2
        rw [hla]
        simp -implicitDefEqProofs only [go_sem, Wk_block, Wk_drawnC, reduceCtorEq, Nat.reduceEqDiff, Nat.reduceAdd, Nat.reduceLeDiff, Nat.reduceLT, Nat.reduceMul, Nat.reduceSub, ↓reduceIte, Int.reduceLT, Int.reduceLE, Int.reduceNeg, Int.reduceAdd, Int.reduceEq, Nat.reduceBneDiff, Nat.reduceBEq, Int.reduceToNat, Int.reduceMul, Int.reduceSub, Int.reduceBEq, Int.reduceBNe, Int.cast_ofNat_Int, Int.toNat_natCast_add_one, Nat.add_left_cancel_iff, Nat.left_eq_add, Nat.add_eq_left, Int.toNat_natCast, Nat.add_assoc, Int.ofNat_lt, Int.ofNat_le, Nat.lt_add_one_of_lt, Nat.lt_add_one, Nat.lt_add_right, Nat.lt_add_right_iff_pos, Nat.add_lt_add_iff_left, Wr_nil, g9, g8, g7, g0, he, hl2, hl3, x0, c1, sel0, Vw.enc, hc]
        exact f3
    clear g9 g8 g7 g0
    rintro ts3 s3 ⟨g9, g8, g7, g0, g4, g3, g5, f3⟩
    have hl3 : s3.get e = _ := (f3.get e hn2).trans hl2
    have f03 := f2.trans f3
    have hn3 : e < s3.next := Nat.lt_of_lt_of_le hn2 f3.le
    simp -implicitDefEqProofs only [go_sem, reduceCtorEq, Nat.reduceEqDiff, Nat.reduceAdd, Nat.reduceLeDiff, Nat.reduceLT, Nat.reduceMul, Nat.reduceSub, ↓reduceIte, Int.reduceLT, Int.reduceLE, Int.reduceNeg, Int.reduceAdd, Int.reduceEq, Nat.reduceBneDiff, Nat.reduceBEq, Int.reduceToNat, Int.reduceMul, Int.reduceSub, Int.reduceBEq, Int.reduceBNe, Int.cast_ofNat_Int, Int.toNat_natCast_add_one, Nat.add_left_cancel_iff, Nat.left_eq_add, Nat.add_eq_left, Int.toNat_natCast, Nat.add_assoc, Int.ofNat_lt, Int.ofNat_le, Nat.lt_add_one_of_lt, Nat.lt_add_one, Nat.lt_add_right, Nat.lt_add_right_iff_pos, Nat.add_lt_add_iff_left, Wk_block]
    refine Wk_cut (fun ts' s' => ts'.get 9 = some (.int .i64 j) ∧ ts'.get 8 = some (.int .i64 ms.length) ∧ ts'.get 7 = some v ∧ ts'.get 0 = some v ∧ ts'.get 4 = some (.ptr e 0) ∧ ts'.get 3 = some (.int .i64 j) ∧ ts'.get 5 = some (.bool (chg 0 la x)) ∧ ts'.get 6 = some (.bool (chg 1 la x)) ∧ Fr s3 s') ?_ ?_
    · cases hu : x.v1.up
      · rw [hu] at u1
        have hc : chg 1 la x = false := by unfold chg; rw [show (sel 1 x.vs).up = false from hu]; rfl
        simp -implicitDefEqProofs only [go_sem, Wk_block, Wk_drawnC, reduceCtorEq, Nat.reduceEqDiff, Nat.reduceAdd, Nat.reduceLeDiff, Nat.reduceLT, Nat.reduceMul, Nat.reduceSub, ↓reduceIte, Int.reduceLT, Int.reduceLE, Int.reduceNeg, Int.reduceAdd, Int.reduceEq, Nat.reduceBneDiff, Nat.reduceBEq, Int.reduceToNat, Int.reduceMul, Int.reduceSub, Int.reduceBEq, Int.reduceBNe, Int.cast_ofNat_Int, Int.toNat_natCast_add_one, Nat.add_left_cancel_iff, Nat.left_eq_add, Nat.add_eq_left, Int.toNat_natCast, Nat.add_assoc, Int.ofNat_lt, Int.ofNat_le, Nat.lt_add_one_of_lt, Nat.lt_add_one, Nat.lt_add_right, Nat.lt_add_right_iff_pos, Nat.add_lt_add_iff_left, Wr_nil, g9, g8, g7, g0, g4, g3, g5, hl3, u1, ft, hc]
        exact Fr.refl _
      · rw [hu] at u1
        have hc : chg 1 la x = !(x.v1.ex.e == la.2.ex.e && x.v1.ex.q == la.2.ex.q) := by unfold chg; rw [show (sel 1 x.vs).up = true from hu]; rfl
        simp -implicitDefEqProofs only [go_sem, Wk_block, Wk_drawnC, reduceCtorEq, Nat.reduceEqDiff, Nat.reduceAdd, Nat.reduceLeDiff, Nat.reduceLT, Nat.reduceMul, Nat.reduceSub, ↓reduceIte, Int.reduceLT, Int.reduceLE, Int.reduceNeg, Int.reduceAdd, Int.reduceEq, Nat.reduceBneDiff, Nat.reduceBEq, Int.reduceToNat, Int.reduceMul, Int.reduceSub, Int.reduceBEq, Int.reduceBNe, Int.cast_ofNat_Int, Int.toNat_natCast_add_one, Nat.add_left_cancel_iff, Nat.left_eq_add, Nat.add_eq_left, Int.toNat_natCast, Nat.add_assoc, Int.ofNat_lt, Int.ofNat_le, Nat.lt_add_one_of_lt, Nat.lt_add_one, Nat.lt_add_right, Nat.lt_add_right_iff_pos, Nat.add_lt_add_iff_left, Wr_nil, g9, g8, g7, g0, g4, g3, g5, hl3, u1, x1, c2, hs']
        refine Wl_of (Last_run _ hm' (hA'.mono f03) 1 (.inr rfl)) ?_
        rintro _ s4 ⟨rfl, f4⟩
        have hl4 : s4.get e = _ := (f4.get e hn3).trans hl3
        rw [hla]
        simp -implicitDefEqProofs only [go_sem, Wk_block, Wk_drawnC, reduceCtorEq, Nat.reduceEqDiff, Nat.reduceAdd, Nat.reduceLeDiff, Nat.reduceLT, Nat.reduceMul, Nat.reduceSub, ↓reduceIte, Int.reduceLT, Int.reduceLE, Int.reduceNeg, Int.reduceAdd, Int.reduceEq, Nat.reduceBneDiff, Nat.reduceBEq, Int.reduceToNat, Int.reduceMul, Int.reduceSub, Int.reduceBEq, Int.reduceBNe, Int.cast_ofNat_Int, Int.toNat_natCast_add_one, Nat.add_left_cancel_iff, Nat.left_eq_add, Nat.add_eq_left, Int.toNat_natCast, Nat.add_assoc, Int.ofNat_lt, Int.ofNat_le, Nat.lt_add_one_of_lt, Nat.lt_add_one, Nat.lt_add_right, Nat.lt_add_right_iff_pos, Nat.add_lt_add_iff_left, Wr_nil, g9, g8, g7, g0, g4, g3, g5, hl3, hl4, x1, c2, sel1, Vw.enc, hc]
        exact f4
    clear g9 g8 g7 g0 g4 g3 g5
    rintro ts4 s4 ⟨g9, g8, g7, g0, g4, g3, g5, g6, f4⟩
    have hl4 : s4.get e = _ := (f4.get e hn3).trans hl3
    have f04 := f03.trans f4
    have hn4 : e < s4.next := Nat.lt_of_lt_of_le hn3 f4.le
    have hc58 : 58 ≤ x.cells.length := by omega
    have hokC : okC (ms.take j) x = !((chg 0 la x && chg 1 la x) || (chg 0 la x && !cutB 0 (ms.take j) x) || (chg 1 la x && !cutB 1 (ms.take j) x)) := by unfold okC; rw [hla]
    have goon : ∀ (ts' : Tr AV) (s' : St), okC (ms.take j) x = true → ts'.get 9 = some (.int .i64 j) → ts'.get 8 = some (.int .i64 ms.length) → ts'.get 7 = some v → ts'.get 0 = some v → Fr s s' → _ := fun ts' s' ho t9 t8 t7 t0 f =>
      IH (ms.length - (j + 1)) (putT (some 9) (.int .i64 (j + 1 : Nat)) (putT (some 72) (.int .i64 (j + 1 : Nat)) ts')) s' (by omega) ⟨j + 1, rfl, by omega, by simp only [go_sem, Wk_block, Wk_drawnC, reduceCtorEq, Nat.reduceEqDiff, Nat.reduceAdd, Nat.reduceLeDiff, Nat.reduceLT, Nat.reduceMul, Nat.reduceSub, ↓reduceIte, Int.reduceLT, Int.reduceLE, Int.reduceNeg, Int.reduceAdd, Int.reduceEq, Nat.reduceBneDiff, Nat.reduceBEq, Int.reduceToNat, Int.reduceMul, Int.reduceSub, Int.reduceBEq, Int.reduceBNe, Int.cast_ofNat_Int, Int.toNat_natCast_add_one, Nat.add_left_cancel_iff, Nat.left_eq_add, Nat.add_eq_left, Int.toNat_natCast, Nat.add_assoc, Int.ofNat_lt, Int.ofNat_le], by simp only [go_sem, Wk_block, Wk_drawnC, reduceCtorEq, Nat.reduceEqDiff, Nat.reduceAdd, Nat.reduceLeDiff, Nat.reduceLT, Nat.reduceMul, Nat.reduceSub, ↓reduceIte, Int.reduceLT, Int.reduceLE, Int.reduceNeg, Int.reduceAdd, Int.reduceEq, Nat.reduceBneDiff, Nat.reduceBEq, Int.reduceToNat, Int.reduceMul, Int.reduceSub, Int.reduceBEq, Int.reduceBNe, Int.cast_ofNat_Int, Int.toNat_natCast_add_one, Nat.add_left_cancel_iff, Nat.left_eq_add, Nat.add_eq_left, Int.toNat_natCast, Nat.add_assoc, Int.ofNat_lt, Int.ofNat_le, t8], by simp only [go_sem, Wk_block, Wk_drawnC, reduceCtorEq, Nat.reduceEqDiff, Nat.reduceAdd, Nat.reduceLeDiff, Nat.reduceLT, Nat.reduceMul, Nat.reduceSub, ↓reduceIte, Int.reduceLT, Int.reduceLE, Int.reduceNeg, Int.reduceAdd, Int.reduceEq, Nat.reduceBneDiff, Nat.reduceBEq, Int.reduceToNat, Int.reduceMul, Int.reduceSub, Int.reduceBEq, Int.reduceBNe, Int.cast_ofNat_Int, Int.toNat_natCast_add_one, Nat.add_left_cancel_iff, Nat.left_eq_add, Nat.add_eq_left, Int.toNat_natCast, Nat.add_assoc, Int.ofNat_lt, Int.ofNat_le, t7], by simp only [go_sem, Wk_block, Wk_drawnC, reduceCtorEq, Nat.reduceEqDiff, Nat.reduceAdd, Nat.reduceLeDiff, Nat.reduceLT, Nat.reduceMul, Nat.reduceSub, ↓reduceIte, Int.reduceLT, Int.reduceLE, Int.reduceNeg, Int.reduceAdd, Int.reduceEq, Nat.reduceBneDiff, Nat.reduceBEq, Int.reduceToNat, Int.reduceMul, Int.reduceSub, Int.reduceBEq, Int.reduceBNe, Int.cast_ofNat_Int, Int.toNat_natCast_add_one, Nat.add_left_cancel_iff, Nat.left_eq_add, Nat.add_eq_left, Int.toNat_natCast, Nat.add_assoc, Int.ofNat_lt, Int.ofNat_le, t0], f, hstep ho⟩
    generalize chg 0 la x = a at *
    generalize chg 1 la x = b at *
    cases a <;> cases b
    · simp -implicitDefEqProofs only [go_sem, Wk_block, Wk_drawnC, reduceCtorEq, Nat.reduceEqDiff, Nat.reduceAdd, Nat.reduceLeDiff, Nat.reduceLT, Nat.reduceMul, Nat.reduceSub, ↓reduceIte, Int.reduceLT, Int.reduceLE, Int.reduceNeg, Int.reduceAdd, Int.reduceEq, Nat.reduceBneDiff, Nat.reduceBEq, Int.reduceToNat, Int.reduceMul, Int.reduceSub, Int.reduceBEq, Int.reduceBNe, Int.cast_ofNat_Int, Int.toNat_natCast_add_one, Nat.add_left_cancel_iff, Nat.left_eq_add, Nat.add_eq_left, Int.toNat_natCast, Nat.add_assoc, Int.ofNat_lt, Int.ofNat_le, Nat.lt_add_one_of_lt, Nat.lt_add_one, Nat.lt_add_right, Nat.lt_add_right_iff_pos, Nat.add_lt_add_iff_left, g3, g4, g5, g6, g0, g9, hl4, hs', ft, w9]
      exact goon _ s4 (by rw [hokC]; rfl) (by simp only [go_sem, Wk_block, Wk_drawnC, reduceCtorEq, Nat.reduceEqDiff, Nat.reduceAdd, Nat.reduceLeDiff, Nat.reduceLT, Nat.reduceMul, Nat.reduceSub, ↓reduceIte, Int.reduceLT, Int.reduceLE, Int.reduceNeg, Int.reduceAdd, Int.reduceEq, Nat.reduceBneDiff, Nat.reduceBEq, Int.reduceToNat, Int.reduceMul, Int.reduceSub, Int.reduceBEq, Int.reduceBNe, Int.cast_ofNat_Int, Int.toNat_natCast_add_one, Nat.add_left_cancel_iff, Nat.left_eq_add, Nat.add_eq_left, Int.toNat_natCast, Nat.add_assoc, Int.ofNat_lt, Int.ofNat_le, g9]) (by simp only [go_sem, Wk_block, Wk_drawnC, reduceCtorEq, Nat.reduceEqDiff, Nat.reduceAdd, Nat.reduceLeDiff, Nat.reduceLT, Nat.reduceMul, Nat.reduceSub, ↓reduceIte, Int.reduceLT, Int.reduceLE, Int.reduceNeg, Int.reduceAdd, Int.reduceEq, Nat.reduceBneDiff, Nat.reduceBEq, Int.reduceToNat, Int.reduceMul, Int.reduceSub, Int.reduceBEq, Int.reduceBNe, Int.cast_ofNat_Int, Int.toNat_natCast_add_one, Nat.add_left_cancel_iff, Nat.left_eq_add, Nat.add_eq_left, Int.toNat_natCast, Nat.add_assoc, Int.ofNat_lt, Int.ofNat_le, g8]) (by simp only [go_sem, Wk_block, Wk_drawnC, reduceCtorEq, Nat.reduceEqDiff, Nat.reduceAdd, Nat.reduceLeDiff, Nat.reduceLT, Nat.reduceMul, Nat.reduceSub, ↓reduceIte, Int.reduceLT, Int.reduceLE, Int.reduceNeg, Int.reduceAdd, Int.reduceEq, Nat.reduceBneDiff, Nat.reduceBEq, Int.reduceToNat, Int.reduceMul, Int.reduceSub, Int.reduceBEq, Int.reduceBNe, Int.cast_ofNat_Int, Int.toNat_natCast_add_one, Nat.add_left_cancel_iff, Nat.left_eq_add, Nat.add_eq_left, Int.toNat_natCast, Nat.add_assoc, Int.ofNat_lt, Int.ofNat_le, g7]) (by simp only [go_sem, Wk_block, Wk_drawnC, reduceCtorEq, Nat.reduceEqDiff, Nat.reduceAdd, Nat.reduceLeDiff, Nat.reduceLT, Nat.reduceMul, Nat.reduceSub, ↓reduceIte, Int.reduceLT, Int.reduceLE, Int.reduceNeg, Int.reduceAdd, Int.reduceEq, Nat.reduceBneDiff, Nat.reduceBEq, Int.reduceToNat, Int.reduceMul, Int.reduceSub, Int.reduceBEq, Int.reduceBNe, Int.cast_ofNat_Int, Int.toNat_natCast_add_one, Nat.add_left_cancel_iff, Nat.left_eq_add, Nat.add_eq_left, Int.toNat_natCast, Nat.add_assoc, Int.ofNat_lt, Int.ofNat_le, g0]) f04
    · simp -implicitDefEqProofs only [go_sem, Wk_block, Wk_drawnC, reduceCtorEq, Nat.reduceEqDiff, Nat.reduceAdd, Nat.reduceLeDiff, Nat.reduceLT, Nat.reduceMul, Nat.reduceSub, ↓reduceIte, Int.reduceLT, Int.reduceLE, Int.reduceNeg, Int.reduceAdd, Int.reduceEq, Nat.reduceBneDiff, Nat.reduceBEq, Int.reduceToNat, Int.reduceMul, Int.reduceSub, Int.reduceBEq, Int.reduceBNe, Int.cast_ofNat_Int, Int.toNat_natCast_add_one, Nat.add_left_cancel_iff, Nat.left_eq_add, Nat.add_eq_left, Int.toNat_natCast, Nat.add_assoc, Int.ofNat_lt, Int.ofNat_le, Nat.lt_add_one_of_lt, Nat.lt_add_one, Nat.lt_add_right, Nat.lt_add_right_iff_pos, Nat.add_lt_add_iff_left, g3, g4, g5, g6, g0, g9, hl4, hs', hc58, ht, ft, w9]
      refine Wl_of (cut_run _ hm' x hok (hA'.mono f04) 1 (.inr rfl)) ?_
      rintro _ s5 ⟨rfl, f5⟩
      cases hc : cutB 1 (ms.take j) x
      · simp -implicitDefEqProofs only [go_sem, Wk_block, Wk_drawnC, reduceCtorEq, Nat.reduceEqDiff, Nat.reduceAdd, Nat.reduceLeDiff, Nat.reduceLT, Nat.reduceMul, Nat.reduceSub, ↓reduceIte, Int.reduceLT, Int.reduceLE, Int.reduceNeg, Int.reduceAdd, Int.reduceEq, Nat.reduceBneDiff, Nat.reduceBEq, Int.reduceToNat, Int.reduceMul, Int.reduceSub, Int.reduceBEq, Int.reduceBNe, Int.cast_ofNat_Int, Int.toNat_natCast_add_one, Nat.add_left_cancel_iff, Nat.left_eq_add, Nat.add_eq_left, Int.toNat_natCast, Nat.add_assoc, Int.ofNat_lt, Int.ofNat_le, Nat.lt_add_one_of_lt, Nat.lt_add_one, Nat.lt_add_right, Nat.lt_add_right_iff_pos, Nat.add_lt_add_iff_left, ft]
        exact ⟨⟨false, rfl, fun h => (by cases h), fun h => absurd h (hbad (by rw [hokC, hc]; simp))⟩, f04.trans f5⟩
      · simp -implicitDefEqProofs only [go_sem, Wk_block, Wk_drawnC, reduceCtorEq, Nat.reduceEqDiff, Nat.reduceAdd, Nat.reduceLeDiff, Nat.reduceLT, Nat.reduceMul, Nat.reduceSub, ↓reduceIte, Int.reduceLT, Int.reduceLE, Int.reduceNeg, Int.reduceAdd, Int.reduceEq, Nat.reduceBneDiff, Nat.reduceBEq, Int.reduceToNat, Int.reduceMul, Int.reduceSub, Int.reduceBEq, Int.reduceBNe, Int.cast_ofNat_Int, Int.toNat_natCast_add_one, Nat.add_left_cancel_iff, Nat.left_eq_add, Nat.add_eq_left, Int.toNat_natCast, Nat.add_assoc, Int.ofNat_lt, Int.ofNat_le, Nat.lt_add_one_of_lt, Nat.lt_add_one, Nat.lt_add_right, Nat.lt_add_right_iff_pos, Nat.add_lt_add_iff_left, ft, g9, w9]
        exact goon _ s5 (by rw [hokC, hc]; simp) (by simp only [go_sem, Wk_block, Wk_drawnC, reduceCtorEq, Nat.reduceEqDiff, Nat.reduceAdd, Nat.reduceLeDiff, Nat.reduceLT, Nat.reduceMul, Nat.reduceSub, ↓reduceIte, Int.reduceLT, Int.reduceLE, Int.reduceNeg, Int.reduceAdd, Int.reduceEq, Nat.reduceBneDiff, Nat.reduceBEq, Int.reduceToNat, Int.reduceMul, Int.reduceSub, Int.reduceBEq, Int.reduceBNe, Int.cast_ofNat_Int, Int.toNat_natCast_add_one, Nat.add_left_cancel_iff, Nat.left_eq_add, Nat.add_eq_left, Int.toNat_natCast, Nat.add_assoc, Int.ofNat_lt, Int.ofNat_le, g9]) (by simp only [go_sem, Wk_block, Wk_drawnC, reduceCtorEq, Nat.reduceEqDiff, Nat.reduceAdd, Nat.reduceLeDiff, Nat.reduceLT, Nat.reduceMul, Nat.reduceSub, ↓reduceIte, Int.reduceLT, Int.reduceLE, Int.reduceNeg, Int.reduceAdd, Int.reduceEq, Nat.reduceBneDiff, Nat.reduceBEq, Int.reduceToNat, Int.reduceMul, Int.reduceSub, Int.reduceBEq, Int.reduceBNe, Int.cast_ofNat_Int, Int.toNat_natCast_add_one, Nat.add_left_cancel_iff, Nat.left_eq_add, Nat.add_eq_left, Int.toNat_natCast, Nat.add_assoc, Int.ofNat_lt, Int.ofNat_le, g8]) (by simp only [go_sem, Wk_block, Wk_drawnC, reduceCtorEq, Nat.reduceEqDiff, Nat.reduceAdd, Nat.reduceLeDiff, Nat.reduceLT, Nat.reduceMul, Nat.reduceSub, ↓reduceIte, Int.reduceLT, Int.reduceLE, Int.reduceNeg, Int.reduceAdd, Int.reduceEq, Nat.reduceBneDiff, Nat.reduceBEq, Int.reduceToNat, Int.reduceMul, Int.reduceSub, Int.reduceBEq, Int.reduceBNe, Int.cast_ofNat_Int, Int.toNat_natCast_add_one, Nat.add_left_cancel_iff, Nat.left_eq_add, Nat.add_eq_left, Int.toNat_natCast, Nat.add_assoc, Int.ofNat_lt, Int.ofNat_le, g7]) (by simp only [go_sem, Wk_block, Wk_drawnC, reduceCtorEq, Nat.reduceEqDiff, Nat.reduceAdd, Nat.reduceLeDiff, Nat.reduceLT, Nat.reduceMul, Nat.reduceSub, ↓reduceIte, Int.reduceLT, Int.reduceLE, Int.reduceNeg, Int.reduceAdd, Int.reduceEq, Nat.reduceBneDiff, Nat.reduceBEq, Int.reduceToNat, Int.reduceMul, Int.reduceSub, Int.reduceBEq, Int.reduceBNe, Int.cast_ofNat_Int, Int.toNat_natCast_add_one, Nat.add_left_cancel_iff, Nat.left_eq_add, Nat.add_eq_left, Int.toNat_natCast, Nat.add_assoc, Int.ofNat_lt, Int.ofNat_le, g0]) (f04.trans f5)
    · simp -implicitDefEqProofs only [go_sem, Wk_block, Wk_drawnC, reduceCtorEq, Nat.reduceEqDiff, Nat.reduceAdd, Nat.reduceLeDiff, Nat.reduceLT, Nat.reduceMul, Nat.reduceSub, ↓reduceIte, Int.reduceLT, Int.reduceLE, Int.reduceNeg, Int.reduceAdd, Int.reduceEq, Nat.reduceBneDiff, Nat.reduceBEq, Int.reduceToNat, Int.reduceMul, Int.reduceSub, Int.reduceBEq, Int.reduceBNe, Int.cast_ofNat_Int, Int.toNat_natCast_add_one, Nat.add_left_cancel_iff, Nat.left_eq_add, Nat.add_eq_left, Int.toNat_natCast, Nat.add_assoc, Int.ofNat_lt, Int.ofNat_le, Nat.lt_add_one_of_lt, Nat.lt_add_one, Nat.lt_add_right, Nat.lt_add_right_iff_pos, Nat.add_lt_add_iff_left, g3, g4, g5, g6, g0, g9, hl4, hs', hc58, ht, ft, w9]
      refine Wl_of (cut_run _ hm' x hok (hA'.mono f04) 0 (.inl rfl)) ?_
      rintro _ s5 ⟨rfl, f5⟩
      cases hc : cutB 0 (ms.take j) x
      · simp -implicitDefEqProofs only [go_sem, Wk_block, Wk_drawnC, reduceCtorEq, Nat.reduceEqDiff, Nat.reduceAdd, Nat.reduceLeDiff, Nat.reduceLT, Nat.reduceMul, Nat.reduceSub, ↓reduceIte, Int.reduceLT, Int.reduceLE, Int.reduceNeg, Int.reduceAdd, Int.reduceEq, Nat.reduceBneDiff, Nat.reduceBEq, Int.reduceToNat, Int.reduceMul, Int.reduceSub, Int.reduceBEq, Int.reduceBNe, Int.cast_ofNat_Int, Int.toNat_natCast_add_one, Nat.add_left_cancel_iff, Nat.left_eq_add, Nat.add_eq_left, Int.toNat_natCast, Nat.add_assoc, Int.ofNat_lt, Int.ofNat_le, Nat.lt_add_one_of_lt, Nat.lt_add_one, Nat.lt_add_right, Nat.lt_add_right_iff_pos, Nat.add_lt_add_iff_left, ft, g5, g6]
        exact ⟨⟨false, rfl, fun h => (by cases h), fun h => absurd h (hbad (by rw [hokC, hc]; simp))⟩, f04.trans f5⟩
      · simp -implicitDefEqProofs only [go_sem, Wk_block, Wk_drawnC, reduceCtorEq, Nat.reduceEqDiff, Nat.reduceAdd, Nat.reduceLeDiff, Nat.reduceLT, Nat.reduceMul, Nat.reduceSub, ↓reduceIte, Int.reduceLT, Int.reduceLE, Int.reduceNeg, Int.reduceAdd, Int.reduceEq, Nat.reduceBneDiff, Nat.reduceBEq, Int.reduceToNat, Int.reduceMul, Int.reduceSub, Int.reduceBEq, Int.reduceBNe, Int.cast_ofNat_Int, Int.toNat_natCast_add_one, Nat.add_left_cancel_iff, Nat.left_eq_add, Nat.add_eq_left, Int.toNat_natCast, Nat.add_assoc, Int.ofNat_lt, Int.ofNat_le, Nat.lt_add_one_of_lt, Nat.lt_add_one, Nat.lt_add_right, Nat.lt_add_right_iff_pos, Nat.add_lt_add_iff_left, ft, g5, g6, g9, w9]
        exact goon _ s5 (by rw [hokC, hc]; simp) (by simp only [go_sem, Wk_block, Wk_drawnC, reduceCtorEq, Nat.reduceEqDiff, Nat.reduceAdd, Nat.reduceLeDiff, Nat.reduceLT, Nat.reduceMul, Nat.reduceSub, ↓reduceIte, Int.reduceLT, Int.reduceLE, Int.reduceNeg, Int.reduceAdd, Int.reduceEq, Nat.reduceBneDiff, Nat.reduceBEq, Int.reduceToNat, Int.reduceMul, Int.reduceSub, Int.reduceBEq, Int.reduceBNe, Int.cast_ofNat_Int, Int.toNat_natCast_add_one, Nat.add_left_cancel_iff, Nat.left_eq_add, Nat.add_eq_left, Int.toNat_natCast, Nat.add_assoc, Int.ofNat_lt, Int.ofNat_le, g9]) (by simp only [go_sem, Wk_block, Wk_drawnC, reduceCtorEq, Nat.reduceEqDiff, Nat.reduceAdd, Nat.reduceLeDiff, Nat.reduceLT, Nat.reduceMul, Nat.reduceSub, ↓reduceIte, Int.reduceLT, Int.reduceLE, Int.reduceNeg, Int.reduceAdd, Int.reduceEq, Nat.reduceBneDiff, Nat.reduceBEq, Int.reduceToNat, Int.reduceMul, Int.reduceSub, Int.reduceBEq, Int.reduceBNe, Int.cast_ofNat_Int, Int.toNat_natCast_add_one, Nat.add_left_cancel_iff, Nat.left_eq_add, Nat.add_eq_left, Int.toNat_natCast, Nat.add_assoc, Int.ofNat_lt, Int.ofNat_le, g8]) (by simp only [go_sem, Wk_block, Wk_drawnC, reduceCtorEq, Nat.reduceEqDiff, Nat.reduceAdd, Nat.reduceLeDiff, Nat.reduceLT, Nat.reduceMul, Nat.reduceSub, ↓reduceIte, Int.reduceLT, Int.reduceLE, Int.reduceNeg, Int.reduceAdd, Int.reduceEq, Nat.reduceBneDiff, Nat.reduceBEq, Int.reduceToNat, Int.reduceMul, Int.reduceSub, Int.reduceBEq, Int.reduceBNe, Int.cast_ofNat_Int, Int.toNat_natCast_add_one, Nat.add_left_cancel_iff, Nat.left_eq_add, Nat.add_eq_left, Int.toNat_natCast, Nat.add_assoc, Int.ofNat_lt, Int.ofNat_le, g7]) (by simp only [go_sem, Wk_block, Wk_drawnC, reduceCtorEq, Nat.reduceEqDiff, Nat.reduceAdd, Nat.reduceLeDiff, Nat.reduceLT, Nat.reduceMul, Nat.reduceSub, ↓reduceIte, Int.reduceLT, Int.reduceLE, Int.reduceNeg, Int.reduceAdd, Int.reduceEq, Nat.reduceBneDiff, Nat.reduceBEq, Int.reduceToNat, Int.reduceMul, Int.reduceSub, Int.reduceBEq, Int.reduceBNe, Int.cast_ofNat_Int, Int.toNat_natCast_add_one, Nat.add_left_cancel_iff, Nat.left_eq_add, Nat.add_eq_left, Int.toNat_natCast, Nat.add_assoc, Int.ofNat_lt, Int.ofNat_le, g0]) (f04.trans f5)
    · simp -implicitDefEqProofs only [go_sem, Wk_block, Wk_drawnC, reduceCtorEq, Nat.reduceEqDiff, Nat.reduceAdd, Nat.reduceLeDiff, Nat.reduceLT, Nat.reduceMul, Nat.reduceSub, ↓reduceIte, Int.reduceLT, Int.reduceLE, Int.reduceNeg, Int.reduceAdd, Int.reduceEq, Nat.reduceBneDiff, Nat.reduceBEq, Int.reduceToNat, Int.reduceMul, Int.reduceSub, Int.reduceBEq, Int.reduceBNe, Int.cast_ofNat_Int, Int.toNat_natCast_add_one, Nat.add_left_cancel_iff, Nat.left_eq_add, Nat.add_eq_left, Int.toNat_natCast, Nat.add_assoc, Int.ofNat_lt, Int.ofNat_le, Nat.lt_add_one_of_lt, Nat.lt_add_one, Nat.lt_add_right, Nat.lt_add_right_iff_pos, Nat.add_lt_add_iff_left, g3, g4, g5, g6, g0, g9, hl4, hs', ft]
      exact ⟨⟨false, rfl, fun h => (by cases h), fun h => absurd h (hbad (by rw [hokC]; simp))⟩, f04⟩
  · have hje : j = ms.length := by omega
    subst hje
    simp -implicitDefEqProofs only [go_sem, Wk_block, Wk_drawnC, reduceCtorEq, Nat.reduceEqDiff, Nat.reduceAdd, Nat.reduceLeDiff, Nat.reduceLT, Nat.reduceMul, Nat.reduceSub, ↓reduceIte, Int.reduceLT, Int.reduceLE, Int.reduceNeg, Int.reduceAdd, Int.reduceEq, Nat.reduceBneDiff, Nat.reduceBEq, Int.reduceToNat, Int.reduceMul, Int.reduceSub, Int.reduceBEq, Int.reduceBNe, Int.cast_ofNat_Int, Int.toNat_natCast_add_one, Nat.add_left_cancel_iff, Nat.left_eq_add, Nat.add_eq_left, Int.toNat_natCast, Nat.add_assoc, Int.ofNat_lt, Int.ofNat_le, Nat.lt_add_one_of_lt, Nat.lt_add_one, Nat.lt_add_right, Nat.lt_add_right_iff_pos, Nat.add_lt_add_iff_left, g9, g8, hlt]
    exact ⟨⟨true, rfl, by simpa using fun j hj => hall j hj hj⟩, f1⟩
end Go.Proofs.Yteffppdkofdmdaa
namespace Go.Proofs.Yteffppdkofdmdaa
open D
set_option linter.unusedSimpArgs false
set_option linter.unusedVariables false
set_option maxRecDepth 10000

abbrev En := Bool × Int
def enE (a b : En) : List AV := [.bool a.1, .int .i64 a.2, .bool b.1, .int .i64 b.2]
def En.see (e : En) (up : Bool) (k : Int) : En := (up, if e.1 && !up then k else e.2)
def En.mends (e : En) (k : Int) : Bool := k == 16 && (!e.1 && e.2 == 11)

theorem see_run0 (a b : En) (up : Bool) (k : Int) {s : St} {E : Nat} (h : Lies s E (enE a b)) (hn : E < s.next) : Wf mm 20 [.ptr E 0, .bool up, .int .i64 k] s fun _ s' => Lies s' E (enE (a.see up k) b) ∧ FrX E s s' := by
  refine Wf_enter ft20 (sm (by decide)) (by rfl) ?_
  unfold Lies enE at h
  obtain ⟨u, c⟩ := a
  cases u <;> cases up
  all_goals
    simp -implicitDefEqProofs only [go_sem, Wk_block, Wk_drawnC, reduceCtorEq, Nat.reduceEqDiff, Nat.reduceAdd, Nat.reduceLeDiff, Nat.reduceLT, Nat.reduceMul, Nat.reduceSub, ↓reduceIte, Int.reduceLT, Int.reduceLE, Int.reduceNeg, Int.reduceAdd, Int.reduceEq, Nat.reduceBneDiff, Nat.reduceBEq, Int.reduceToNat, Int.reduceMul, Int.reduceSub, Int.reduceBEq, Int.reduceBNe, Int.cast_ofNat_Int, Int.toNat_natCast_add_one, Nat.add_left_cancel_iff, Nat.left_eq_add, Nat.add_eq_left, Int.toNat_natCast, Nat.add_assoc, Int.ofNat_lt, Int.ofNat_le, Nat.lt_add_one_of_lt, Nat.lt_add_one, Nat.lt_add_right, Nat.lt_add_right_iff_pos, Nat.add_lt_add_iff_left, fd20, h, hn]
    refine ⟨?_, by (repeat (first | exact FrX.refl _ _ | exact Fr.refl _ | assumption | exact Fr.x (by assumption) _ | refine FrX.put ?_ (.inl rfl) _ | refine FrX.put ?_ (.inr (by first | omega | (simp; done) | (simp; omega))) _ | refine FrX.new ?_ _ | refine Fr.put ?_ (by first | omega | (simp; done) | (simp; omega)) _ | refine Fr.new ?_ _ | refine FrX.then ?_ (by assumption) | refine Fr.trans ?_ (by assumption)))⟩
    simp only [Lies, St.get_put, St.get_new, if_true, if_false, enE, En.see]
    rfl
theorem see_run1 (a b : En) (up : Bool) (k : Int) {s : St} {E : Nat} (h : Lies s E (enE a b)) (hn : E < s.next) : Wf mm 20 [.ptr E 2, .bool up, .int .i64 k] s fun _ s' => Lies s' E (enE a (b.see up k)) ∧ FrX E s s' := by
  refine Wf_enter ft20 (sm (by decide)) (by rfl) ?_
  unfold Lies enE at h
  obtain ⟨u, c⟩ := b
  cases u <;> cases up
  all_goals
    simp -implicitDefEqProofs only [go_sem, Wk_block, Wk_drawnC, reduceCtorEq, Nat.reduceEqDiff, Nat.reduceAdd, Nat.reduceLeDiff, Nat.reduceLT, Nat.reduceMul, Nat.reduceSub, ↓reduceIte, Int.reduceLT, Int.reduceLE, Int.reduceNeg, Int.reduceAdd, Int.reduceEq, Nat.reduceBneDiff, Nat.reduceBEq, Int.reduceToNat, Int.reduceMul, Int.reduceSub, Int.reduceBEq, Int.reduceBNe, Int.cast_ofNat_Int, Int.toNat_natCast_add_one, Nat.add_left_cancel_iff, Nat.left_eq_add, Nat.add_eq_left, Int.toNat_natCast, Nat.add_assoc, Int.ofNat_lt, Int.ofNat_le, Nat.lt_add_one_of_lt, Nat.lt_add_one, Nat.lt_add_right, Nat.lt_add_right_iff_pos, Nat.add_lt_add_iff_left, fd20, h, hn]
    refine ⟨?_, by (repeat (first | exact FrX.refl _ _ | exact Fr.refl _ | assumption | exact Fr.x (by assumption) _ | refine FrX.put ?_ (.inl rfl) _ | refine FrX.put ?_ (.inr (by first | omega | (simp; done) | (simp; omega))) _ | refine FrX.new ?_ _ | refine Fr.put ?_ (by first | omega | (simp; done) | (simp; omega)) _ | refine Fr.new ?_ _ | refine FrX.then ?_ (by assumption) | refine Fr.trans ?_ (by assumption)))⟩
    simp only [Lies, St.get_put, St.get_new, if_true, if_false, enE, En.see]
    rfl
theorem mends_run0 (a b : En) (k : Int) {s : St} {E : Nat} (h : Lies s E (enE a b)) : Wf mm 19 [.ptr E 0, .int .i64 k] s fun w s' => w = .bool (a.mends k) ∧ s' = s := by
  refine Wf_enter ft19 (sm (by decide)) (by rfl) ?_
  unfold Lies enE at h
  obtain ⟨u, c⟩ := a
  cases hk : (k == 16) <;> cases u
  all_goals
    simp -implicitDefEqProofs only [go_sem, Wk_block, Wk_drawnC, reduceCtorEq, Nat.reduceEqDiff, Nat.reduceAdd, Nat.reduceLeDiff, Nat.reduceLT, Nat.reduceMul, Nat.reduceSub, ↓reduceIte, Int.reduceLT, Int.reduceLE, Int.reduceNeg, Int.reduceAdd, Int.reduceEq, Nat.reduceBneDiff, Nat.reduceBEq, Int.reduceToNat, Int.reduceMul, Int.reduceSub, Int.reduceBEq, Int.reduceBNe, Int.cast_ofNat_Int, Int.toNat_natCast_add_one, Nat.add_left_cancel_iff, Nat.left_eq_add, Nat.add_eq_left, Int.toNat_natCast, Nat.add_assoc, Int.ofNat_lt, Int.ofNat_le, Nat.lt_add_one_of_lt, Nat.lt_add_one, Nat.lt_add_right, Nat.lt_add_right_iff_pos, Nat.add_lt_add_iff_left, fd19, h, hk, (rfl : (false == true) = false)]
    simp [En.mends, hk]
theorem mends_run1 (a b : En) (k : Int) {s : St} {E : Nat} (h : Lies s E (enE a b)) : Wf mm 19 [.ptr E 2, .int .i64 k] s fun w s' => w = .bool (b.mends k) ∧ s' = s := by
  refine Wf_enter ft19 (sm (by decide)) (by rfl) ?_
  unfold Lies enE at h
  obtain ⟨u, c⟩ := b
  cases hk : (k == 16) <;> cases u
  all_goals
    simp -implicitDefEqProofs only [go_sem, Wk_block, Wk_drawnC, reduceCtorEq, Nat.reduceEqDiff, Nat.reduceAdd, Nat.reduceLeDiff, Nat.reduceLT, Nat.reduceMul, Nat.reduceSub, ↓reduceIte, Int.reduceLT, Int.reduceLE, Int.reduceNeg, Int.reduceAdd, Int.reduceEq, Nat.reduceBneDiff, Nat.reduceBEq, Int.reduceToNat, Int.reduceMul, Int.reduceSub, Int.reduceBEq, Int.reduceBNe, Int.cast_ofNat_Int, Int.toNat_natCast_add_one, Nat.add_left_cancel_iff, Nat.left_eq_add, Nat.add_eq_left, Int.toNat_natCast, Nat.add_assoc, Int.ofNat_lt, Int.ofNat_le, Nat.lt_add_one_of_lt, Nat.lt_add_one, Nat.lt_add_right, Nat.lt_add_right_iff_pos, Nat.add_lt_add_iff_left, fd19, h, hk, (rfl : (false == true) = false)]
    simp [En.mends, hk]

/-- How both ended. -/
def ens (l : List Mo) : En × En := l.foldl (fun a m => (a.1.see m.v0.up m.kind, a.2.see m.v1.up m.kind)) ((false, 0), (false, 0))
theorem ens_snoc (l : List Mo) (m : Mo) : ens (l ++ [m]) = ((ens l).1.see m.v0.up m.kind, (ens l).2.see m.v1.up m.kind) := by
  simp only [ens, List.foldl_append, List.foldl_cons, List.foldl_nil]
theorem ens_take {l : List Mo} {j : Nat} (hj : j < l.length) : ens (l.take (j + 1)) = ((ens (l.take j)).1.see l[j].v0.up l[j].kind, (ens (l.take j)).2.see l[j].v1.up l[j].kind) := by
  rw [List.take_succ_eq_append_getElem hj, ens_snoc]

def bad (i : Int) (la : Vw × Vw) (e : En) (m : Mo) : Bool := chg i la m && (m.kind != 11 && !e.mends m.kind)
def okP (es : En × En) (la : Vw × Vw) (m : Mo) : Bool := !bad 0 la es.1 m && !bad 1 la es.2 m && !(chg 0 la m && chg 1 la m)

/-- What a node's end is, by where it was up last. -/
def EnOk (e : En) (i : Int) (l : List Mo) : Prop := e.1 = decide ((lu i l).2 + 1 = l.length ∧ 0 ≤ (lu i l).2) ∧ ((lu i l).2 < 0 → e.2 = 0) ∧ (0 ≤ (lu i l).2 → (lu i l).2 + 1 < l.length → ∃ x, l[((lu i l).2 + 1).toNat]? = some x ∧ e.2 = x.kind)
theorem EnOk.step {e : En} {i : Int} {l : List Mo} (h : EnOk e i l) (m : Mo) : EnOk (e.see (sel i m.vs).up m.kind) i (l ++ [m]) := by
  obtain ⟨h1, h2, h3⟩ := h
  have hf := lu_fst i l
  have hs := lu_snd i l
  unfold EnOk En.see
  rw [lu_snoc, hf]
  cases hu : (sel i m.vs).up
  · simp only [Bool.false_eq_true, if_false, Bool.not_false, Bool.and_true, List.length_append, List.length_singleton]
    generalize (lu i l).2 = p at *
    refine ⟨?_, fun hp => ?_, fun hp0 hp1 => ?_⟩
    · simp; intro; omega
    · have : e.1 = false := by rw [h1]; simp; omega
      rw [this]
      exact h2 hp
    · by_cases hpe : p + 1 = l.length
      · refine ⟨m, ?_, ?_⟩
        · rw [hpe, Int.toNat_natCast]; simp
        · rw [h1]; simp [hpe, hp0]
      · obtain ⟨x, hx, hk⟩ := h3 hp0 (by omega)
        refine ⟨x, ?_, ?_⟩
        · rw [List.getElem?_append_left (by omega)]; exact hx
        · rw [h1]; simp [hpe, hk]
  · simp only [if_true, Bool.not_true, Bool.and_false, Bool.false_eq_true, if_false, List.length_append, List.length_singleton]
    refine ⟨by simp, fun h => by omega, fun _ h => by omega⟩
theorem ens_ok (l : List Mo) : EnOk (ens l).1 0 l ∧ EnOk (ens l).2 1 l := by
  refine snoc_ind (P := fun l => EnOk (ens l).1 0 l ∧ EnOk (ens l).2 1 l) ⟨?_, ?_⟩ (fun l m ih => ?_) l
  · exact ⟨by simp [ens, lu], fun _ => rfl, fun h => by simp [lu] at h⟩
  · exact ⟨by simp [ens, lu], fun _ => rfl, fun h => by simp [lu] at h⟩
  · rw [ens_snoc]
    exact ⟨ih.1.step m, ih.2.step m⟩
theorem EnOk.cut {e : En} {i : Int} {l : List Mo} (h : EnOk e i l) (m : Mo) : (m.kind != 11 && !e.mends m.kind) = !cutB i l m := by
  obtain ⟨h1, h2, h3⟩ := h
  have hs := lu_snd i l
  unfold cutB En.mends
  rw [h1]
  generalize (lu i l).2 = p at *
  by_cases hp0 : 0 ≤ p
  · by_cases hp1 : p + 1 < l.length
    · obtain ⟨x, hx, hk⟩ := h3 hp0 hp1
      rw [hx, hk]
      have d1 : decide (p + 1 = (l.length : Int) ∧ 0 ≤ p) = false := decide_eq_false (by omega)
      simp only [bne, d1, decide_eq_true hp0, decide_eq_true hp1, Option.any_some, Bool.not_false, Bool.true_and, Bool.and_true]
      cases m.kind == 11 <;> cases m.kind == 16 <;> cases x.kind == 11 <;> rfl
    · have d1 : decide (p + 1 = (l.length : Int) ∧ 0 ≤ p) = true := decide_eq_true (by omega)
      simp only [bne, d1, decide_eq_true hp0, decide_eq_false hp1, Bool.not_true, Bool.false_and, Bool.and_false, Bool.not_false, Bool.and_true, Bool.or_false]
  · have d1 : decide (p + 1 = (l.length : Int) ∧ 0 ≤ p) = false := decide_eq_false (by omega)
    rw [h2 (by omega)]
    simp only [bne, d1, decide_eq_false hp0, Bool.not_false, Bool.true_and, Bool.and_false, Bool.false_and, Bool.or_false]
    simp
theorem okP_eq (l : List Mo) (m : Mo) : okP (ens l) (lastV l) m = okC l m := by
  obtain ⟨h0, h1⟩ := ens_ok l
  unfold okP okC bad
  rw [h0.cut m, h1.cut m]
  cases chg 0 (lastV l) m <;> cases chg 1 (lastV l) m <;> simp
end Go.Proofs.Yteffppdkofdmdaa
namespace Go.Proofs.Yteffppdkofdmdaa
open D
set_option linter.unusedSimpArgs false
set_option linter.unusedVariables false
set_option maxRecDepth 10000

theorem Wk_mono0 {M : Mach} {ro : Option Nat} {c : PC} {ts : Tr AV} {ds : List Nat} {s : St} {Q Q' : Post} (h : Wk M ro [] c ts ds s Q') (f : ∀ x ts ds s, Q' x ts ds s → Q x ts ds s) : Wk M ro [] c ts ds s Q := by
  obtain ⟨x, ts', ds', s', he, h⟩ := h
  rw [Wr_nil] at h
  exact ⟨x, ts', ds', s', he, by rw [Wr_nil]; exact f _ _ _ _ h⟩
def one01 (b : Bool) : Int := if b then 1 else 0
theorem Cuts_run (ms : List Mo) (hm : ∀ m ∈ ms, MoOk m) {v : AV} {ba oa : Nat} {s : St} (hA : Acc s v 58 (ms.map Mo.cells) ba oa) :
    Wf mm 9 [v] s fun w s' => (∃ b : Bool, w = .bool b ∧ (b = true ↔ ∀ j (h : j < ms.length), okC (ms.take j) ms[j] = true)) ∧ Fr s s' := by
  refine Wf_enter ft9 (sm (by decide)) (by rfl) ?_
  simp only [fd9, go_sem, Wk_block, Wk_drawnC, reduceCtorEq, Nat.reduceEqDiff, Nat.reduceAdd, Nat.reduceLeDiff, Nat.reduceLT, Nat.reduceMul, Nat.reduceSub, ↓reduceIte, Int.reduceLT, Int.reduceLE, Int.reduceNeg, Int.reduceAdd, Int.reduceEq, Nat.reduceBneDiff, Nat.reduceBEq, Int.reduceToNat, Int.reduceMul, Int.reduceSub, Int.reduceBEq, Int.reduceBNe, Int.cast_ofNat_Int, Int.toNat_natCast_add_one, Nat.add_left_cancel_iff, Nat.left_eq_add, Nat.add_eq_left, Int.toNat_natCast, Nat.add_assoc, Int.ofNat_lt, Int.ofNat_le, Wl_eq (steps_run v _ hA.cells)]
  obtain ⟨c, hc⟩ : ∃ c, s.next = c := ⟨_, rfl⟩
  refine Wk_envs (fun ts => ts.get 2 = some (.ptr c 0) ∧ ts.get 3 = some (.ptr (c + 1) 0) ∧ ts.get 10 = some (.fn (.func 26) [] [.ptr (c + 2) 0])) ⟨by simp only [go_sem, Wk_block, Wk_drawnC, reduceCtorEq, Nat.reduceEqDiff, Nat.reduceAdd, Nat.reduceLeDiff, Nat.reduceLT, Nat.reduceMul, Nat.reduceSub, ↓reduceIte, Int.reduceLT, Int.reduceLE, Int.reduceNeg, Int.reduceAdd, Int.reduceEq, Nat.reduceBneDiff, Nat.reduceBEq, Int.reduceToNat, Int.reduceMul, Int.reduceSub, Int.reduceBEq, Int.reduceBNe, Int.cast_ofNat_Int, Int.toNat_natCast_add_one, Nat.add_left_cancel_iff, Nat.left_eq_add, Nat.add_eq_left, Int.toNat_natCast, Nat.add_assoc, Int.ofNat_lt, Int.ofNat_le, hc], by simp only [go_sem, Wk_block, Wk_drawnC, reduceCtorEq, Nat.reduceEqDiff, Nat.reduceAdd, Nat.reduceLeDiff, Nat.reduceLT, Nat.reduceMul, Nat.reduceSub, ↓reduceIte, Int.reduceLT, Int.reduceLE, Int.reduceNeg, Int.reduceAdd, Int.reduceEq, Nat.reduceBneDiff, Nat.reduceBEq, Int.reduceToNat, Int.reduceMul, Int.reduceSub, Int.reduceBEq, Int.reduceBNe, Int.cast_ofNat_Int, Int.toNat_natCast_add_one, Nat.add_left_cancel_iff, Nat.left_eq_add, Nat.add_eq_left, Int.toNat_natCast, Nat.add_assoc, Int.ofNat_lt, Int.ofNat_le, hc], by simp only [go_sem, Wk_block, Wk_drawnC, reduceCtorEq, Nat.reduceEqDiff, Nat.reduceAdd, Nat.reduceLeDiff, Nat.reduceLT, Nat.reduceMul, Nat.reduceSub, ↓reduceIte, Int.reduceLT, Int.reduceLE, Int.reduceNeg, Int.reduceAdd, Int.reduceEq, Nat.reduceBneDiff, Nat.reduceBEq, Int.reduceToNat, Int.reduceMul, Int.reduceSub, Int.reduceBEq, Int.reduceBNe, Int.cast_ofNat_Int, Int.toNat_natCast_add_one, Nat.add_left_cancel_iff, Nat.left_eq_add, Nat.add_eq_left, Int.toNat_natCast, Nat.add_assoc, Int.ofNat_lt, Int.ofNat_le, hc]⟩ ?_
  rintro ts0 ⟨g2, g3, g10⟩
  have f1 : Fr s (((s.new (.cells [.bool false] false false 0)).new (.cells [.bool false, .int .i64 0, .bool false, .int .i64 0] false false 0)).new (.cells [v] false false 0)) := (((Fr.refl s).new _).new _).new _
  have hA1 := hA.mono f1
  have hc1 : (((s.new (.cells [.bool false] false false 0)).new (.cells [.bool false, .int .i64 0, .bool false, .int .i64 0] false false 0)).new (.cells [v] false false 0)).get c = some (.cells [.bool false] false false 0) := by rw [← hc]; simp -implicitDefEqProofs only [go_sem, Wk_block, Wk_drawnC, reduceCtorEq, Nat.reduceEqDiff, Nat.reduceAdd, Nat.reduceLeDiff, Nat.reduceLT, Nat.reduceMul, Nat.reduceSub, ↓reduceIte, Int.reduceLT, Int.reduceLE, Int.reduceNeg, Int.reduceAdd, Int.reduceEq, Nat.reduceBneDiff, Nat.reduceBEq, Int.reduceToNat, Int.reduceMul, Int.reduceSub, Int.reduceBEq, Int.reduceBNe, Int.cast_ofNat_Int, Int.toNat_natCast_add_one, Nat.add_left_cancel_iff, Nat.left_eq_add, Nat.add_eq_left, Int.toNat_natCast, Nat.add_assoc, Int.ofNat_lt, Int.ofNat_le, Nat.lt_add_one_of_lt, Nat.lt_add_one, Nat.lt_add_right, Nat.lt_add_right_iff_pos, Nat.add_lt_add_iff_left, hc]
  have hE1 : (((s.new (.cells [.bool false] false false 0)).new (.cells [.bool false, .int .i64 0, .bool false, .int .i64 0] false false 0)).new (.cells [v] false false 0)).get (c + 1) = some (.cells [.bool false, .int .i64 0, .bool false, .int .i64 0] false false 0) := by rw [← hc]; simp -implicitDefEqProofs only [go_sem, Wk_block, Wk_drawnC, reduceCtorEq, Nat.reduceEqDiff, Nat.reduceAdd, Nat.reduceLeDiff, Nat.reduceLT, Nat.reduceMul, Nat.reduceSub, ↓reduceIte, Int.reduceLT, Int.reduceLE, Int.reduceNeg, Int.reduceAdd, Int.reduceEq, Nat.reduceBneDiff, Nat.reduceBEq, Int.reduceToNat, Int.reduceMul, Int.reduceSub, Int.reduceBEq, Int.reduceBNe, Int.cast_ofNat_Int, Int.toNat_natCast_add_one, Nat.add_left_cancel_iff, Nat.left_eq_add, Nat.add_eq_left, Int.toNat_natCast, Nat.add_assoc, Int.ofNat_lt, Int.ofNat_le, Nat.lt_add_one_of_lt, Nat.lt_add_one, Nat.lt_add_right, Nat.lt_add_right_iff_pos, Nat.add_lt_add_iff_left, hc]
  have hp1 : (((s.new (.cells [.bool false] false false 0)).new (.cells [.bool false, .int .i64 0, .bool false, .int .i64 0] false false 0)).new (.cells [v] false false 0)).get (c + 2) = some (.cells [v] false false 0) := by rw [← hc]; simp -implicitDefEqProofs only [go_sem, Wk_block, Wk_drawnC, reduceCtorEq, Nat.reduceEqDiff, Nat.reduceAdd, Nat.reduceLeDiff, Nat.reduceLT, Nat.reduceMul, Nat.reduceSub, ↓reduceIte, Int.reduceLT, Int.reduceLE, Int.reduceNeg, Int.reduceAdd, Int.reduceEq, Nat.reduceBneDiff, Nat.reduceBEq, Int.reduceToNat, Int.reduceMul, Int.reduceSub, Int.reduceBEq, Int.reduceBNe, Int.cast_ofNat_Int, Int.toNat_natCast_add_one, Nat.add_left_cancel_iff, Nat.left_eq_add, Nat.add_eq_left, Int.toNat_natCast, Nat.add_assoc, Int.ofNat_lt, Int.ofNat_le, Nat.lt_add_one_of_lt, Nat.lt_add_one, Nat.lt_add_right, Nat.lt_add_right_iff_pos, Nat.add_lt_add_iff_left, hc]
  have hn1 : c + 2 < (((s.new (.cells [.bool false] false false 0)).new (.cells [.bool false, .int .i64 0, .bool false, .int .i64 0] false false 0)).new (.cells [v] false false 0)).next := by rw [← hc]; simp -implicitDefEqProofs only [go_sem, Wk_block, Wk_drawnC, reduceCtorEq, Nat.reduceEqDiff, Nat.reduceAdd, Nat.reduceLeDiff, Nat.reduceLT, Nat.reduceMul, Nat.reduceSub, ↓reduceIte, Int.reduceLT, Int.reduceLE, Int.reduceNeg, Int.reduceAdd, Int.reduceEq, Nat.reduceBneDiff, Nat.reduceBEq, Int.reduceToNat, Int.reduceMul, Int.reduceSub, Int.reduceBEq, Int.reduceBNe, Int.cast_ofNat_Int, Int.toNat_natCast_add_one, Nat.add_left_cancel_iff, Nat.left_eq_add, Nat.add_eq_left, Int.toNat_natCast, Nat.add_assoc, Int.ofNat_lt, Int.ofNat_le, Nat.lt_add_one_of_lt, Nat.lt_add_one, Nat.lt_add_right, Nat.lt_add_right_iff_pos, Nat.add_lt_add_iff_left, hc]
  generalize ((s.new (.cells [.bool false] false false 0)).new (.cells [.bool false, .int .i64 0, .bool false, .int .i64 0] false false 0)).new (.cells [v] false false 0) = s1 at *
  refine Wk_range g10 ?_
  obtain ⟨e, he⟩ : ∃ e, s1.next = e := ⟨_, rfl⟩
  rw [he]
  generalize hasn : PC.seq (PC.region [⟨some 4, _, none⟩, _]) _ = asn
  generalize hbd : PC.block 1 _ = bd
  have hmn : ∀ (s' : St), Fr s s' → Acc s' v 58 (ms.map Mo.cells) ba oa := fun s' f => hA.mono f
  have hN : ((s1.new .defd).new (.loop .ready .normal ts0 [11, 12] asn bd e)).next = e + 2 := by simp only [St.next_new]; omega
  have f2 : Fr s ((s1.new .defd).new (.loop .ready .normal ts0 [11, 12] asn bd e)) := (f1.new _).new _
  have hp2 : ((s1.new .defd).new (.loop .ready .normal ts0 [11, 12] asn bd e)).get (c + 2) = some (.cells [v] false false 0) := by
    rw [St.get_new, if_neg (by simp only [St.next_new]; omega), St.get_new, if_neg (by omega)]; exact hp1
  have hsn : s.next ≤ e := by have := f1.le; omega
  refine (gen_run ms hm (r := e + 1) (hmn _ f2) hp2 (by rw [hN]; omega)
    (fun j s' => s'.get (e + 1) = some (.loop .ready .normal ts0 [11, 12] asn bd e) ∧ s'.get e = some .defd ∧ Lies s' c [.bool false] ∧ Lies s' (c + 1) (enE (ens (ms.take j)).1 (ens (ms.take j)).2) ∧ Fr s s' ∧ ∀ i (h : i < ms.length), i < j → okC (ms.take i) ms[i] = true)
    (fun s' => s'.get (e + 1) = some (.loop .done .ret ts0 [11, 12] asn bd e) ∧ s'.get e = some .defd ∧ Lies s' c [.bool false] ∧ Fr s s' ∧ ∃ i, ∃ h : i < ms.length, okC (ms.take i) ms[i] = false) ?_ ?_ ?_ ?_).mono ?_
  · rintro j s3 s4 ⟨h1, h2, h3, hE, h4, h5⟩ u
    rw [hN] at u
    exact ⟨(u.get _ (by omega)).trans h1, (u.get _ (by omega)).trans h2, (u.get _ (by omega)).trans h3, (u.get _ (by omega)).trans hE, ⟨Nat.le_trans h4.le u.le, fun b hb => (u.get b (by omega)).trans (h4.get b hb)⟩, h5⟩
  · rintro j s3 ⟨_, _, _, _, h4, _⟩
    exact hmn _ h4
  · rintro j hj s3 hn3 ⟨h1, h2, h3, hE3, h4, h5⟩
    rw [hN] at hn3
    refine Round_of h1 rfl ?_
    rw [← hasn]
    have hok := hm ms[j] (List.getElem_mem hj)
    have hen := ens_take hj
    have hpc := okP_eq (ms.take j) ms[j]
    generalize hx : ms[j] = x at hok hen hpc
    generalize hla : lastV (ms.take j) = la at hpc
    generalize hes : ens (ms.take j) = es at hpc hen hE3
    obtain ⟨ea, eb⟩ := es
    have hlen := hok.len
    have hcell := hok.cell
    have hc3 : c < s3.next := by omega
    have he3 : e < s3.next := by omega
    have he4 : e + 1 < s3.next := by omega
    simp -implicitDefEqProofs only [go_sem, Wk_block, Wk_drawnC, reduceCtorEq, Nat.reduceEqDiff, Nat.reduceAdd, Nat.reduceLeDiff, Nat.reduceLT, Nat.reduceMul, Nat.reduceSub, ↓reduceIte, Int.reduceLT, Int.reduceLE, Int.reduceNeg, Int.reduceAdd, Int.reduceEq, Nat.reduceBneDiff, Nat.reduceBEq, Int.reduceToNat, Int.reduceMul, Int.reduceSub, Int.reduceBEq, Int.reduceBNe, Int.cast_ofNat_Int, Int.toNat_natCast_add_one, Nat.add_left_cancel_iff, Nat.left_eq_add, Nat.add_eq_left, Int.toNat_natCast, Nat.add_assoc, Int.ofNat_lt, Int.ofNat_le, Nat.lt_add_one_of_lt, Nat.lt_add_one, Nat.lt_add_right, Nat.lt_add_right_iff_pos, Nat.add_lt_add_iff_left, hlen, hcell, enc2, Vw.enc, Wr_nil, h1, hc3, he3, he4, eq_next_f he4, eq_next_k he4, eq_next_f' he4, eq_next_k' he4]
    refine ⟨_, _, _, _, _, _, rfl, ?_⟩
    obtain ⟨q, hq⟩ : ∃ q, s3.next = q := ⟨_, rfl⟩
    have hv := hok.v
    have hk := hok.k
    unfold Vw.enc at hv
    have hl1 : 44 + 14 ≤ x.cells.length := by omega
    have hl2 : 58 ≤ x.cells.length := by omega
    have hl0 : 1 ≤ x.cells.length := by omega
    have f34 : ∀ b, b < s3.next → b ≠ e + 1 → (((s3.new (.cells x.cells false false 0)).new (.cells [.bool la.1.up, .bool la.1.prim, .int .u32 la.1.epoch, .int .u32 la.1.ex.e, .int .u32 la.1.ex.q, .int .u32 la.1.nw.e, .int .u32 la.1.nw.q, .bool la.2.up, .bool la.2.prim, .int .u32 la.2.epoch, .int .u32 la.2.ex.e, .int .u32 la.2.ex.q, .int .u32 la.2.nw.e, .int .u32 la.2.nw.q] false false 0)).put (e + 1) (.loop .busy .normal ts0 [11, 12] asn bd e)).get b = s3.get b := fun b hb hne => by
      rw [St.get_put, if_neg hne, St.get_new, if_neg (by simp only [St.next_new]; omega), St.get_new, if_neg (by omega)]
    have hr4 : (((s3.new (.cells x.cells false false 0)).new (.cells [.bool la.1.up, .bool la.1.prim, .int .u32 la.1.epoch, .int .u32 la.1.ex.e, .int .u32 la.1.ex.q, .int .u32 la.1.nw.e, .int .u32 la.1.nw.q, .bool la.2.up, .bool la.2.prim, .int .u32 la.2.epoch, .int .u32 la.2.ex.e, .int .u32 la.2.ex.q, .int .u32 la.2.nw.e, .int .u32 la.2.nw.q] false false 0)).put (e + 1) (.loop .busy .normal ts0 [11, 12] asn bd e)).get (e + 1) = some (.loop .busy .normal ts0 [11, 12] asn bd e) := by rw [St.get_put, if_pos rfl]
    have hx4 : (((s3.new (.cells x.cells false false 0)).new (.cells [.bool la.1.up, .bool la.1.prim, .int .u32 la.1.epoch, .int .u32 la.1.ex.e, .int .u32 la.1.ex.q, .int .u32 la.1.nw.e, .int .u32 la.1.nw.q, .bool la.2.up, .bool la.2.prim, .int .u32 la.2.epoch, .int .u32 la.2.ex.e, .int .u32 la.2.ex.q, .int .u32 la.2.nw.e, .int .u32 la.2.nw.q] false false 0)).put (e + 1) (.loop .busy .normal ts0 [11, 12] asn bd e)).get q = some (.cells x.cells false false 0) := by
      rw [St.get_put, if_neg (by omega), St.get_new, if_neg (by simp only [St.next_new]; omega), St.get_new, if_pos (by omega)]
    have hl4 : (((s3.new (.cells x.cells false false 0)).new (.cells [.bool la.1.up, .bool la.1.prim, .int .u32 la.1.epoch, .int .u32 la.1.ex.e, .int .u32 la.1.ex.q, .int .u32 la.1.nw.e, .int .u32 la.1.nw.q, .bool la.2.up, .bool la.2.prim, .int .u32 la.2.epoch, .int .u32 la.2.ex.e, .int .u32 la.2.ex.q, .int .u32 la.2.nw.e, .int .u32 la.2.nw.q] false false 0)).put (e + 1) (.loop .busy .normal ts0 [11, 12] asn bd e)).get (q + 1) = some (.cells [.bool la.1.up, .bool la.1.prim, .int .u32 la.1.epoch, .int .u32 la.1.ex.e, .int .u32 la.1.ex.q, .int .u32 la.1.nw.e, .int .u32 la.1.nw.q, .bool la.2.up, .bool la.2.prim, .int .u32 la.2.epoch, .int .u32 la.2.ex.e, .int .u32 la.2.ex.q, .int .u32 la.2.nw.e, .int .u32 la.2.nw.q] false false 0) := by
      rw [St.get_put, if_neg (by omega), St.get_new, if_pos (by simp only [St.next_new]; omega)]
    have hn4 : (((s3.new (.cells x.cells false false 0)).new (.cells [.bool la.1.up, .bool la.1.prim, .int .u32 la.1.epoch, .int .u32 la.1.ex.e, .int .u32 la.1.ex.q, .int .u32 la.1.nw.e, .int .u32 la.1.nw.q, .bool la.2.up, .bool la.2.prim, .int .u32 la.2.epoch, .int .u32 la.2.ex.e, .int .u32 la.2.ex.q, .int .u32 la.2.nw.e, .int .u32 la.2.nw.q] false false 0)).put (e + 1) (.loop .busy .normal ts0 [11, 12] asn bd e)).next = q + 2 := by simp only [St.next_put, St.next_new]; omega
    rw [hq]
    generalize ((s3.new (.cells x.cells false false 0)).new (.cells [.bool la.1.up, .bool la.1.prim, .int .u32 la.1.epoch, .int .u32 la.1.ex.e, .int .u32 la.1.ex.q, .int .u32 la.1.nw.e, .int .u32 la.1.nw.q, .bool la.2.up, .bool la.2.prim, .int .u32 la.2.epoch, .int .u32 la.2.ex.e, .int .u32 la.2.ex.q, .int .u32 la.2.nw.e, .int .u32 la.2.nw.q] false false 0)).put (e + 1) (.loop .busy .normal ts0 [11, 12] asn bd e) = s4 at *
    have hc4 : Lies s4 c [.bool false] := (f34 c (by omega) (by omega)).trans h3
    have hE4 : Lies s4 (c + 1) (enE ea eb) := (f34 (c + 1) (by omega) (by omega)).trans hE3
    have he5 : s4.get e = some .defd := (f34 e (by omega) (by omega)).trans h2
    refine Wk_mono0 (Q' := fun xx _ ds s5 => ds = [] ∧ ∃ s6, FrX (c + 1) s4 s6 ∧ ((xx = .ret ∧ s5 = s6.put c (.cells [.bool false] false false 0) ∧ okP (ea, eb) la x = false) ∨
      (xx = .normal ∧ s5 = s6 ∧ Lies s5 (c + 1) (enE (ea.see x.v0.up x.kind) (eb.see x.v1.up x.kind)) ∧ okP (ea, eb) la x = true))) ?_ ?_
    rotate_left
    · rintro xx ts5 ds5 s5 ⟨rfl, s6, f6, ⟨rfl, rfl, hbad⟩ | ⟨rfl, rfl, hE5, hgood⟩⟩
      · refine ⟨rfl, ?_⟩
        have hr6 := (f6.get (e + 1) (by omega) (by omega)).trans hr4
        refine ⟨_, _, _, _, _, _, _, (St.get_put _ _ _ _).trans ((if_neg (by omega)).trans hr6), ?_⟩
        have hle := f6.le
        refine ⟨by simp only [St.next_put]; omega, fun a ha1 ha2 => ?_, fun h => (by cases h), fun _ => ⟨?_, ?_, ?_, ?_, ?_⟩⟩
        · rw [St.get_put, if_neg (by omega), St.get_put, if_neg (by omega)]; exact (f6.get a (by omega) (by omega)).trans (f34 a (by omega) (by omega))
        · rw [St.get_put, if_pos rfl, hasn]
        · rw [St.get_put, if_neg (by omega), St.get_put, if_neg (by omega)]; exact (f6.get e (by omega) (by omega)).trans he5
        · rw [Lies, St.get_put, if_neg (by omega), St.get_put, if_pos rfl]
        · refine ⟨by simp only [St.next_put]; omega, fun b hb => ?_⟩
          rw [St.get_put, if_neg (by omega), St.get_put, if_neg (by omega)]; exact (f6.get b (by omega) (by omega)).trans ((f34 b (by omega) (by omega)).trans (h4.get b hb))
        · exact ⟨j, hj, by rw [hx, ← hpc]; exact hbad⟩
      · refine ⟨rfl, ?_⟩
        have hr6 := (f6.get (e + 1) (by omega) (by omega)).trans hr4
        refine ⟨_, _, _, _, _, _, _, hr6, ?_⟩
        have hle := f6.le
        refine ⟨by simp only [St.next_put]; omega, fun a ha1 ha2 => ?_, fun _ => ⟨?_, ?_, ?_, ?_, ?_, ?_⟩, fun h => (by cases h)⟩
        · rw [St.get_put, if_neg (by omega)]; exact (f6.get a (by omega) (by omega)).trans (f34 a (by omega) (by omega))
        · rw [St.get_put, if_pos rfl, hasn]
        · rw [St.get_put, if_neg (by omega)]; exact (f6.get e (by omega) (by omega)).trans he5
        · rw [Lies, St.get_put, if_neg (by omega)]; exact (f6.get c (by omega) (by omega)).trans hc4
        · rw [Lies, St.get_put, if_neg (by omega), hen]; exact hE5
        · refine ⟨by simp only [St.next_put]; omega, fun b hb => ?_⟩
          rw [St.get_put, if_neg (by omega)]; exact (f6.get b (by omega) (by omega)).trans ((f34 b (by omega) (by omega)).trans (h4.get b hb))
        · intro i hi hij
          by_cases hie : i = j
          · subst hie
            rw [hx, ← hpc]; exact hgood
          · exact h5 i hi (by omega)
    generalize hEA : En.see ea x.v0.up x.kind = EA
    generalize hEB : En.see eb x.v1.up x.kind = EB
    rw [← hbd]
    simp -implicitDefEqProofs only [go_sem, Wk_block, Wk_drawnC, reduceCtorEq, Nat.reduceEqDiff, Nat.reduceAdd, Nat.reduceLeDiff, Nat.reduceLT, Nat.reduceMul, Nat.reduceSub, ↓reduceIte, Int.reduceLT, Int.reduceLE, Int.reduceNeg, Int.reduceAdd, Int.reduceEq, Nat.reduceBneDiff, Nat.reduceBEq, Int.reduceToNat, Int.reduceMul, Int.reduceSub, Int.reduceBEq, Int.reduceBNe, Int.cast_ofNat_Int, Int.toNat_natCast_add_one, Nat.add_left_cancel_iff, Nat.left_eq_add, Nat.add_eq_left, Int.toNat_natCast, Nat.add_assoc, Int.ofNat_lt, Int.ofNat_le, Nat.lt_add_one_of_lt, Nat.lt_add_one, Nat.lt_add_right, Nat.lt_add_right_iff_pos, Nat.add_lt_add_iff_left, g2, g3, hx4, hl1, hl2, hv]
    refine loop_ind (fun n ts s5 => ∃ (i n' : Int) (A B : En), n = (2 - i).toNat ∧ ts.get 15 = some (.int .i64 i) ∧ ts.get 14 = some (.agg (x.v0.enc ++ x.v1.enc)) ∧ ts.get 4 = some (.ptr q 0) ∧ ts.get 5 = some (.ptr (q + 1) 0) ∧ ts.get 2 = some (.ptr c 0) ∧ ts.get 3 = some (.ptr (c + 1) 0) ∧
      ts.get 6 = some (.int .i64 n') ∧ FrX (c + 1) s4 s5 ∧ Lies s5 (c + 1) (enE A B) ∧
      ((i = 0 ∧ n' = 0 ∧ A = ea ∧ B = eb) ∨ (i = 1 ∧ n' = one01 (chg 0 la x) ∧ A = EA ∧ B = eb ∧ bad 0 la ea x = false) ∨
        (i = 2 ∧ n' = one01 (chg 0 la x) + one01 (chg 1 la x) ∧ A = EA ∧ B = EB ∧ bad 0 la ea x = false ∧ bad 1 la eb x = false))) ?_ (n := 2)
      ⟨0, 0, ea, eb, rfl, by simp only [go_sem, Wk_block, Wk_drawnC, reduceCtorEq, Nat.reduceEqDiff, Nat.reduceAdd, Nat.reduceLeDiff, Nat.reduceLT, Nat.reduceMul, Nat.reduceSub, ↓reduceIte, Int.reduceLT, Int.reduceLE, Int.reduceNeg, Int.reduceAdd, Int.reduceEq, Nat.reduceBneDiff, Nat.reduceBEq, Int.reduceToNat, Int.reduceMul, Int.reduceSub, Int.reduceBEq, Int.reduceBNe, Int.cast_ofNat_Int, Int.toNat_natCast_add_one, Nat.add_left_cancel_iff, Nat.left_eq_add, Nat.add_eq_left, Int.toNat_natCast, Nat.add_assoc, Int.ofNat_lt, Int.ofNat_le], by simp only [go_sem, Wk_block, Wk_drawnC, reduceCtorEq, Nat.reduceEqDiff, Nat.reduceAdd, Nat.reduceLeDiff, Nat.reduceLT, Nat.reduceMul, Nat.reduceSub, ↓reduceIte, Int.reduceLT, Int.reduceLE, Int.reduceNeg, Int.reduceAdd, Int.reduceEq, Nat.reduceBneDiff, Nat.reduceBEq, Int.reduceToNat, Int.reduceMul, Int.reduceSub, Int.reduceBEq, Int.reduceBNe, Int.cast_ofNat_Int, Int.toNat_natCast_add_one, Nat.add_left_cancel_iff, Nat.left_eq_add, Nat.add_eq_left, Int.toNat_natCast, Nat.add_assoc, Int.ofNat_lt, Int.ofNat_le, Vw.enc], by simp only [go_sem, Wk_block, Wk_drawnC, reduceCtorEq, Nat.reduceEqDiff, Nat.reduceAdd, Nat.reduceLeDiff, Nat.reduceLT, Nat.reduceMul, Nat.reduceSub, ↓reduceIte, Int.reduceLT, Int.reduceLE, Int.reduceNeg, Int.reduceAdd, Int.reduceEq, Nat.reduceBneDiff, Nat.reduceBEq, Int.reduceToNat, Int.reduceMul, Int.reduceSub, Int.reduceBEq, Int.reduceBNe, Int.cast_ofNat_Int, Int.toNat_natCast_add_one, Nat.add_left_cancel_iff, Nat.left_eq_add, Nat.add_eq_left, Int.toNat_natCast, Nat.add_assoc, Int.ofNat_lt, Int.ofNat_le], by simp only [go_sem, Wk_block, Wk_drawnC, reduceCtorEq, Nat.reduceEqDiff, Nat.reduceAdd, Nat.reduceLeDiff, Nat.reduceLT, Nat.reduceMul, Nat.reduceSub, ↓reduceIte, Int.reduceLT, Int.reduceLE, Int.reduceNeg, Int.reduceAdd, Int.reduceEq, Nat.reduceBneDiff, Nat.reduceBEq, Int.reduceToNat, Int.reduceMul, Int.reduceSub, Int.reduceBEq, Int.reduceBNe, Int.cast_ofNat_Int, Int.toNat_natCast_add_one, Nat.add_left_cancel_iff, Nat.left_eq_add, Nat.add_eq_left, Int.toNat_natCast, Nat.add_assoc, Int.ofNat_lt, Int.ofNat_le], by simp only [go_sem, Wk_block, Wk_drawnC, reduceCtorEq, Nat.reduceEqDiff, Nat.reduceAdd, Nat.reduceLeDiff, Nat.reduceLT, Nat.reduceMul, Nat.reduceSub, ↓reduceIte, Int.reduceLT, Int.reduceLE, Int.reduceNeg, Int.reduceAdd, Int.reduceEq, Nat.reduceBneDiff, Nat.reduceBEq, Int.reduceToNat, Int.reduceMul, Int.reduceSub, Int.reduceBEq, Int.reduceBNe, Int.cast_ofNat_Int, Int.toNat_natCast_add_one, Nat.add_left_cancel_iff, Nat.left_eq_add, Nat.add_eq_left, Int.toNat_natCast, Nat.add_assoc, Int.ofNat_lt, Int.ofNat_le, g2], by simp only [go_sem, Wk_block, Wk_drawnC, reduceCtorEq, Nat.reduceEqDiff, Nat.reduceAdd, Nat.reduceLeDiff, Nat.reduceLT, Nat.reduceMul, Nat.reduceSub, ↓reduceIte, Int.reduceLT, Int.reduceLE, Int.reduceNeg, Int.reduceAdd, Int.reduceEq, Nat.reduceBneDiff, Nat.reduceBEq, Int.reduceToNat, Int.reduceMul, Int.reduceSub, Int.reduceBEq, Int.reduceBNe, Int.cast_ofNat_Int, Int.toNat_natCast_add_one, Nat.add_left_cancel_iff, Nat.left_eq_add, Nat.add_eq_left, Int.toNat_natCast, Nat.add_assoc, Int.ofNat_lt, Int.ofNat_le, g3], by simp only [go_sem, Wk_block, Wk_drawnC, reduceCtorEq, Nat.reduceEqDiff, Nat.reduceAdd, Nat.reduceLeDiff, Nat.reduceLT, Nat.reduceMul, Nat.reduceSub, ↓reduceIte, Int.reduceLT, Int.reduceLE, Int.reduceNeg, Int.reduceAdd, Int.reduceEq, Nat.reduceBneDiff, Nat.reduceBEq, Int.reduceToNat, Int.reduceMul, Int.reduceSub, Int.reduceBEq, Int.reduceBNe, Int.cast_ofNat_Int, Int.toNat_natCast_add_one, Nat.add_left_cancel_iff, Nat.left_eq_add, Nat.add_eq_left, Int.toNat_natCast, Nat.add_assoc, Int.ofNat_lt, Int.ofNat_le], FrX.refl _ _, hE4, .inl ⟨rfl, rfl, rfl, rfl⟩⟩
    clear g2 g3
    rintro n ts s5 ⟨i, n', A, B, rfl, g15, g14, g4, g5, g2, g3, g6, f5, hE5, hcs⟩ IH
    have hl5 := (f5.get (q + 1) (by omega) (by omega)).trans hl4
    have hx5 := (f5.get q (by omega) (by omega)).trans hx4
    have hc5 : Lies s5 c [.bool false] := (f5.get c (by omega) (by omega)).trans hc4
    unfold Lies at hc5
    have hqn : q < s5.next := by have := f5.le; omega
    have hqn1 : q + 1 < s5.next := by have := f5.le; omega
    have hcn : c < s5.next := by omega
    have hcn1 : c + 1 < s5.next := by omega
    have w1 : IntKind.i64.wrap 1 = 1 := rfl
    have w2 : IntKind.i64.wrap 2 = 2 := rfl
    have ft : (false == true) = false := rfl
    have hEw : ∀ l, Lies (s5.new (.cells l false false 0)) (c + 1) (enE A B) := fun l => by rw [Lies, St.get_new, if_neg (by omega)]; exact hE5
    have hEn : ∀ l, c + 1 < (s5.new (.cells l false false 0)).next := fun l => by simp only [St.next_new]; omega
    have hcw : ∀ l, (s5.new (.cells l false false 0)).get c = some (.cells [.bool false] false false 0) := fun l => by rw [St.get_new, if_neg (by omega)]; exact hc5
    unfold Vw.enc at g14
    have w01 : ∀ b, IntKind.i64.wrap (one01 b + 1) = one01 b + 1 := fun b => by cases b <;> rfl
    rcases hcs with ⟨rfl, rfl, rfl, rfl⟩ | ⟨rfl, rfl, rfl, rfl, ok0⟩ | ⟨rfl, rfl, rfl, rfl, ok0, ok1⟩
    · cases hu : x.v0.up
      · have hcg : chg 0 la x = false := by unfold chg; rw [show (sel 0 x.vs).up = x.v0.up from rfl, hu]; rfl
        simp -implicitDefEqProofs only [go_sem, Wk_block, Wk_drawnC, reduceCtorEq, Nat.reduceEqDiff, Nat.reduceAdd, Nat.reduceLeDiff, Nat.reduceLT, Nat.reduceMul, Nat.reduceSub, ↓reduceIte, Int.reduceLT, Int.reduceLE, Int.reduceNeg, Int.reduceAdd, Int.reduceEq, Nat.reduceBneDiff, Nat.reduceBEq, Int.reduceToNat, Int.reduceMul, Int.reduceSub, Int.reduceBEq, Int.reduceBNe, Int.cast_ofNat_Int, Int.toNat_natCast_add_one, Nat.add_left_cancel_iff, Nat.left_eq_add, Nat.add_eq_left, Int.toNat_natCast, Nat.add_assoc, Int.ofNat_lt, Int.ofNat_le, Nat.lt_add_one_of_lt, Nat.lt_add_one, Nat.lt_add_right, Nat.lt_add_right_iff_pos, Nat.add_lt_add_iff_left, g15, g14, g4, g5, g2, g3, g6, hqn, hqn1, hx5, hl5, hk, hl0, w1, w1, w01, ft, eq_next_f hqn, eq_next_f' hqn, eq_next_f hqn1, eq_next_f' hqn1, eq_next_f hcn, eq_next_f' hcn, hu]
        refine Wl_of (see_run0 _ _ false x.kind (hEw [.bool false, .bool x.v0.prim, .int .u32 x.v0.epoch, .int .u32 x.v0.ex.e, .int .u32 x.v0.ex.q, .int .u32 x.v0.nw.e, .int .u32 x.v0.nw.q]) (hEn _)) ?_
        rintro _ s7 ⟨hE7, f7⟩
        have f07 : FrX (c + 1) s4 s7 := (f5.new _).trans f7
        simp -implicitDefEqProofs only [go_sem, Wk_block, Wk_drawnC, reduceCtorEq, Nat.reduceEqDiff, Nat.reduceAdd, Nat.reduceLeDiff, Nat.reduceLT, Nat.reduceMul, Nat.reduceSub, ↓reduceIte, Int.reduceLT, Int.reduceLE, Int.reduceNeg, Int.reduceAdd, Int.reduceEq, Nat.reduceBneDiff, Nat.reduceBEq, Int.reduceToNat, Int.reduceMul, Int.reduceSub, Int.reduceBEq, Int.reduceBNe, Int.cast_ofNat_Int, Int.toNat_natCast_add_one, Nat.add_left_cancel_iff, Nat.left_eq_add, Nat.add_eq_left, Int.toNat_natCast, Nat.add_assoc, Int.ofNat_lt, Int.ofNat_le, Nat.lt_add_one_of_lt, Nat.lt_add_one, Nat.lt_add_right, Nat.lt_add_right_iff_pos, Nat.add_lt_add_iff_left, g15, g14, g4, g5, g2, g3, w1]
        refine IH (1 : Int).toNat _ _ (by decide) ⟨1, 0, _, _, rfl, ?_, ?_, ?_, ?_, ?_, ?_, ?_, f07, hE7, .inr (.inl ⟨rfl, by simp [hcg, one01], by rw [← hEA, hu], rfl, by unfold bad; rw [hcg]; simp [hcg]⟩)⟩
        all_goals simp only [go_sem, Wk_block, Wk_drawnC, reduceCtorEq, Nat.reduceEqDiff, Nat.reduceAdd, Nat.reduceLeDiff, Nat.reduceLT, Nat.reduceMul, Nat.reduceSub, ↓reduceIte, Int.reduceLT, Int.reduceLE, Int.reduceNeg, Int.reduceAdd, Int.reduceEq, Nat.reduceBneDiff, Nat.reduceBEq, Int.reduceToNat, Int.reduceMul, Int.reduceSub, Int.reduceBEq, Int.reduceBNe, Int.cast_ofNat_Int, Int.toNat_natCast_add_one, Nat.add_left_cancel_iff, Nat.left_eq_add, Nat.add_eq_left, Int.toNat_natCast, Nat.add_assoc, Int.ofNat_lt, Int.ofNat_le, g15, g14, g4, g5, g2, g3, g6, Vw.enc, hu]
      · cases hX : (x.v0.ex.e == la.1.ex.e && x.v0.ex.q == la.1.ex.q)
        · have hcg : chg 0 la x = true := by unfold chg; rw [show (sel 0 x.vs).up = x.v0.up from rfl, hu]; show (true && !(x.v0.ex.e == la.1.ex.e && x.v0.ex.q == la.1.ex.q)) = true; rw [hX]; rfl
          cases hk11 : (x.kind != 11)
          · simp -implicitDefEqProofs only [go_sem, Wk_block, Wk_drawnC, reduceCtorEq, Nat.reduceEqDiff, Nat.reduceAdd, Nat.reduceLeDiff, Nat.reduceLT, Nat.reduceMul, Nat.reduceSub, ↓reduceIte, Int.reduceLT, Int.reduceLE, Int.reduceNeg, Int.reduceAdd, Int.reduceEq, Nat.reduceBneDiff, Nat.reduceBEq, Int.reduceToNat, Int.reduceMul, Int.reduceSub, Int.reduceBEq, Int.reduceBNe, Int.cast_ofNat_Int, Int.toNat_natCast_add_one, Nat.add_left_cancel_iff, Nat.left_eq_add, Nat.add_eq_left, Int.toNat_natCast, Nat.add_assoc, Int.ofNat_lt, Int.ofNat_le, Nat.lt_add_one_of_lt, Nat.lt_add_one, Nat.lt_add_right, Nat.lt_add_right_iff_pos, Nat.add_lt_add_iff_left, g15, g14, g4, g5, g2, g3, g6, hqn, hqn1, hx5, hl5, hk, hl0, w1, w1, w01, ft, eq_next_f hqn, eq_next_f' hqn, eq_next_f hqn1, eq_next_f' hqn1, eq_next_f hcn, eq_next_f' hcn, hu, hX, hk11]
            refine Wl_of (see_run0 _ _ true x.kind (hEw [.bool true, .bool x.v0.prim, .int .u32 x.v0.epoch, .int .u32 x.v0.ex.e, .int .u32 x.v0.ex.q, .int .u32 x.v0.nw.e, .int .u32 x.v0.nw.q]) (hEn _)) ?_
            rintro _ s7 ⟨hE7, f7⟩
            have f07 : FrX (c + 1) s4 s7 := (f5.new _).trans f7
            simp -implicitDefEqProofs only [go_sem, Wk_block, Wk_drawnC, reduceCtorEq, Nat.reduceEqDiff, Nat.reduceAdd, Nat.reduceLeDiff, Nat.reduceLT, Nat.reduceMul, Nat.reduceSub, ↓reduceIte, Int.reduceLT, Int.reduceLE, Int.reduceNeg, Int.reduceAdd, Int.reduceEq, Nat.reduceBneDiff, Nat.reduceBEq, Int.reduceToNat, Int.reduceMul, Int.reduceSub, Int.reduceBEq, Int.reduceBNe, Int.cast_ofNat_Int, Int.toNat_natCast_add_one, Nat.add_left_cancel_iff, Nat.left_eq_add, Nat.add_eq_left, Int.toNat_natCast, Nat.add_assoc, Int.ofNat_lt, Int.ofNat_le, Nat.lt_add_one_of_lt, Nat.lt_add_one, Nat.lt_add_right, Nat.lt_add_right_iff_pos, Nat.add_lt_add_iff_left, g15, g14, g4, g5, g2, g3, w1]
            refine IH (1 : Int).toNat _ _ (by decide) ⟨1, 1, _, _, rfl, ?_, ?_, ?_, ?_, ?_, ?_, ?_, f07, hE7, .inr (.inl ⟨rfl, by simp [hcg, one01], by rw [← hEA, hu], rfl, by unfold bad; rw [hcg]; simp [hk11]⟩)⟩
            all_goals simp only [go_sem, Wk_block, Wk_drawnC, reduceCtorEq, Nat.reduceEqDiff, Nat.reduceAdd, Nat.reduceLeDiff, Nat.reduceLT, Nat.reduceMul, Nat.reduceSub, ↓reduceIte, Int.reduceLT, Int.reduceLE, Int.reduceNeg, Int.reduceAdd, Int.reduceEq, Nat.reduceBneDiff, Nat.reduceBEq, Int.reduceToNat, Int.reduceMul, Int.reduceSub, Int.reduceBEq, Int.reduceBNe, Int.cast_ofNat_Int, Int.toNat_natCast_add_one, Nat.add_left_cancel_iff, Nat.left_eq_add, Nat.add_eq_left, Int.toNat_natCast, Nat.add_assoc, Int.ofNat_lt, Int.ofNat_le, g15, g14, g4, g5, g2, g3, g6, Vw.enc, hu]
          · simp -implicitDefEqProofs only [go_sem, Wk_block, Wk_drawnC, reduceCtorEq, Nat.reduceEqDiff, Nat.reduceAdd, Nat.reduceLeDiff, Nat.reduceLT, Nat.reduceMul, Nat.reduceSub, ↓reduceIte, Int.reduceLT, Int.reduceLE, Int.reduceNeg, Int.reduceAdd, Int.reduceEq, Nat.reduceBneDiff, Nat.reduceBEq, Int.reduceToNat, Int.reduceMul, Int.reduceSub, Int.reduceBEq, Int.reduceBNe, Int.cast_ofNat_Int, Int.toNat_natCast_add_one, Nat.add_left_cancel_iff, Nat.left_eq_add, Nat.add_eq_left, Int.toNat_natCast, Nat.add_assoc, Int.ofNat_lt, Int.ofNat_le, Nat.lt_add_one_of_lt, Nat.lt_add_one, Nat.lt_add_right, Nat.lt_add_right_iff_pos, Nat.add_lt_add_iff_left, g15, g14, g4, g5, g2, g3, g6, hqn, hqn1, hx5, hl5, hk, hl0, w1, w1, w01, ft, eq_next_f hqn, eq_next_f' hqn, eq_next_f hqn1, eq_next_f' hqn1, eq_next_f hcn, eq_next_f' hcn, hu, hX, hk11]
            refine Wl_of (mends_run0 _ _ x.kind (hEw [.bool true, .bool x.v0.prim, .int .u32 x.v0.epoch, .int .u32 x.v0.ex.e, .int .u32 x.v0.ex.q, .int .u32 x.v0.nw.e, .int .u32 x.v0.nw.q])) ?_
            rintro _ s6 ⟨rfl, rfl⟩
            cases hmd : En.mends A x.kind
            · simp -implicitDefEqProofs only [go_sem, Wk_block, Wk_drawnC, reduceCtorEq, Nat.reduceEqDiff, Nat.reduceAdd, Nat.reduceLeDiff, Nat.reduceLT, Nat.reduceMul, Nat.reduceSub, ↓reduceIte, Int.reduceLT, Int.reduceLE, Int.reduceNeg, Int.reduceAdd, Int.reduceEq, Nat.reduceBneDiff, Nat.reduceBEq, Int.reduceToNat, Int.reduceMul, Int.reduceSub, Int.reduceBEq, Int.reduceBNe, Int.cast_ofNat_Int, Int.toNat_natCast_add_one, Nat.add_left_cancel_iff, Nat.left_eq_add, Nat.add_eq_left, Int.toNat_natCast, Nat.add_assoc, Int.ofNat_lt, Int.ofNat_le, Nat.lt_add_one_of_lt, Nat.lt_add_one, Nat.lt_add_right, Nat.lt_add_right_iff_pos, Nat.add_lt_add_iff_left, g2, hcn, hcw, Wr_nil, ft]
              refine ⟨s5.new (.cells [.bool true, .bool x.v0.prim, .int .u32 x.v0.epoch, .int .u32 x.v0.ex.e, .int .u32 x.v0.ex.q, .int .u32 x.v0.nw.e, .int .u32 x.v0.nw.q] false false 0), f5.new _, ?_⟩
              simp [okP, bad, hcg, hk11, hmd]
            · simp -implicitDefEqProofs only [go_sem, Wk_block, Wk_drawnC, reduceCtorEq, Nat.reduceEqDiff, Nat.reduceAdd, Nat.reduceLeDiff, Nat.reduceLT, Nat.reduceMul, Nat.reduceSub, ↓reduceIte, Int.reduceLT, Int.reduceLE, Int.reduceNeg, Int.reduceAdd, Int.reduceEq, Nat.reduceBneDiff, Nat.reduceBEq, Int.reduceToNat, Int.reduceMul, Int.reduceSub, Int.reduceBEq, Int.reduceBNe, Int.cast_ofNat_Int, Int.toNat_natCast_add_one, Nat.add_left_cancel_iff, Nat.left_eq_add, Nat.add_eq_left, Int.toNat_natCast, Nat.add_assoc, Int.ofNat_lt, Int.ofNat_le, Nat.lt_add_one_of_lt, Nat.lt_add_one, Nat.lt_add_right, Nat.lt_add_right_iff_pos, Nat.add_lt_add_iff_left, g15, g14, g4, g5, g2, g3, g6, hqn, hqn1, hx5, hl5, hk, hl0, w1, w1, w01, ft, eq_next_f hqn, eq_next_f' hqn, eq_next_f hqn1, eq_next_f' hqn1, eq_next_f hcn, eq_next_f' hcn, hu]
              refine Wl_of (see_run0 _ _ true x.kind (hEw [.bool true, .bool x.v0.prim, .int .u32 x.v0.epoch, .int .u32 x.v0.ex.e, .int .u32 x.v0.ex.q, .int .u32 x.v0.nw.e, .int .u32 x.v0.nw.q]) (hEn _)) ?_
              rintro _ s7 ⟨hE7, f7⟩
              have f07 : FrX (c + 1) s4 s7 := (f5.new _).trans f7
              simp -implicitDefEqProofs only [go_sem, Wk_block, Wk_drawnC, reduceCtorEq, Nat.reduceEqDiff, Nat.reduceAdd, Nat.reduceLeDiff, Nat.reduceLT, Nat.reduceMul, Nat.reduceSub, ↓reduceIte, Int.reduceLT, Int.reduceLE, Int.reduceNeg, Int.reduceAdd, Int.reduceEq, Nat.reduceBneDiff, Nat.reduceBEq, Int.reduceToNat, Int.reduceMul, Int.reduceSub, Int.reduceBEq, Int.reduceBNe, Int.cast_ofNat_Int, Int.toNat_natCast_add_one, Nat.add_left_cancel_iff, Nat.left_eq_add, Nat.add_eq_left, Int.toNat_natCast, Nat.add_assoc, Int.ofNat_lt, Int.ofNat_le, Nat.lt_add_one_of_lt, Nat.lt_add_one, Nat.lt_add_right, Nat.lt_add_right_iff_pos, Nat.add_lt_add_iff_left, g15, g14, g4, g5, g2, g3, w1]
              refine IH (1 : Int).toNat _ _ (by decide) ⟨1, 1, _, _, rfl, ?_, ?_, ?_, ?_, ?_, ?_, ?_, f07, hE7, .inr (.inl ⟨rfl, by simp [hcg, one01], by rw [← hEA, hu], rfl, by unfold bad; rw [hcg]; simp [hmd]⟩)⟩
              all_goals simp only [go_sem, Wk_block, Wk_drawnC, reduceCtorEq, Nat.reduceEqDiff, Nat.reduceAdd, Nat.reduceLeDiff, Nat.reduceLT, Nat.reduceMul, Nat.reduceSub, ↓reduceIte, Int.reduceLT, Int.reduceLE, Int.reduceNeg, Int.reduceAdd, Int.reduceEq, Nat.reduceBneDiff, Nat.reduceBEq, Int.reduceToNat, Int.reduceMul, Int.reduceSub, Int.reduceBEq, Int.reduceBNe, Int.cast_ofNat_Int, Int.toNat_natCast_add_one, Nat.add_left_cancel_iff, Nat.left_eq_add, Nat.add_eq_left, Int.toNat_natCast, Nat.add_assoc, Int.ofNat_lt, Int.ofNat_le, g15, g14, g4, g5, g2, g3, g6, Vw.enc, hu]
        · have hcg : chg 0 la x = false := by unfold chg; rw [show (sel 0 x.vs).up = x.v0.up from rfl, hu]; show (true && !(x.v0.ex.e == la.1.ex.e && x.v0.ex.q == la.1.ex.q)) = false; rw [hX]; rfl
          simp -implicitDefEqProofs only [go_sem, Wk_block, Wk_drawnC, reduceCtorEq, Nat.reduceEqDiff, Nat.reduceAdd, Nat.reduceLeDiff, Nat.reduceLT, Nat.reduceMul, Nat.reduceSub, ↓reduceIte, Int.reduceLT, Int.reduceLE, Int.reduceNeg, Int.reduceAdd, Int.reduceEq, Nat.reduceBneDiff, Nat.reduceBEq, Int.reduceToNat, Int.reduceMul, Int.reduceSub, Int.reduceBEq, Int.reduceBNe, Int.cast_ofNat_Int, Int.toNat_natCast_add_one, Nat.add_left_cancel_iff, Nat.left_eq_add, Nat.add_eq_left, Int.toNat_natCast, Nat.add_assoc, Int.ofNat_lt, Int.ofNat_le, Nat.lt_add_one_of_lt, Nat.lt_add_one, Nat.lt_add_right, Nat.lt_add_right_iff_pos, Nat.add_lt_add_iff_left, g15, g14, g4, g5, g2, g3, g6, hqn, hqn1, hx5, hl5, hk, hl0, w1, w1, w01, ft, eq_next_f hqn, eq_next_f' hqn, eq_next_f hqn1, eq_next_f' hqn1, eq_next_f hcn, eq_next_f' hcn, hu, hX]
          refine Wl_of (see_run0 _ _ true x.kind (hEw [.bool true, .bool x.v0.prim, .int .u32 x.v0.epoch, .int .u32 x.v0.ex.e, .int .u32 x.v0.ex.q, .int .u32 x.v0.nw.e, .int .u32 x.v0.nw.q]) (hEn _)) ?_
          rintro _ s7 ⟨hE7, f7⟩
          have f07 : FrX (c + 1) s4 s7 := (f5.new _).trans f7
          simp -implicitDefEqProofs only [go_sem, Wk_block, Wk_drawnC, reduceCtorEq, Nat.reduceEqDiff, Nat.reduceAdd, Nat.reduceLeDiff, Nat.reduceLT, Nat.reduceMul, Nat.reduceSub, ↓reduceIte, Int.reduceLT, Int.reduceLE, Int.reduceNeg, Int.reduceAdd, Int.reduceEq, Nat.reduceBneDiff, Nat.reduceBEq, Int.reduceToNat, Int.reduceMul, Int.reduceSub, Int.reduceBEq, Int.reduceBNe, Int.cast_ofNat_Int, Int.toNat_natCast_add_one, Nat.add_left_cancel_iff, Nat.left_eq_add, Nat.add_eq_left, Int.toNat_natCast, Nat.add_assoc, Int.ofNat_lt, Int.ofNat_le, Nat.lt_add_one_of_lt, Nat.lt_add_one, Nat.lt_add_right, Nat.lt_add_right_iff_pos, Nat.add_lt_add_iff_left, g15, g14, g4, g5, g2, g3, w1]
          refine IH (1 : Int).toNat _ _ (by decide) ⟨1, 0, _, _, rfl, ?_, ?_, ?_, ?_, ?_, ?_, ?_, f07, hE7, .inr (.inl ⟨rfl, by simp [hcg, one01], by rw [← hEA, hu], rfl, by unfold bad; rw [hcg]; simp [hcg]⟩)⟩
          all_goals simp only [go_sem, Wk_block, Wk_drawnC, reduceCtorEq, Nat.reduceEqDiff, Nat.reduceAdd, Nat.reduceLeDiff, Nat.reduceLT, Nat.reduceMul, Nat.reduceSub, ↓reduceIte, Int.reduceLT, Int.reduceLE, Int.reduceNeg, Int.reduceAdd, Int.reduceEq, Nat.reduceBneDiff, Nat.reduceBEq, Int.reduceToNat, Int.reduceMul, Int.reduceSub, Int.reduceBEq, Int.reduceBNe, Int.cast_ofNat_Int, Int.toNat_natCast_add_one, Nat.add_left_cancel_iff, Nat.left_eq_add, Nat.add_eq_left, Int.toNat_natCast, Nat.add_assoc, Int.ofNat_lt, Int.ofNat_le, g15, g14, g4, g5, g2, g3, g6, Vw.enc, hu]
    · cases hu : x.v1.up
      · have hcg : chg 1 la x = false := by unfold chg; rw [show (sel 1 x.vs).up = x.v1.up from rfl, hu]; rfl
        simp -implicitDefEqProofs only [go_sem, Wk_block, Wk_drawnC, reduceCtorEq, Nat.reduceEqDiff, Nat.reduceAdd, Nat.reduceLeDiff, Nat.reduceLT, Nat.reduceMul, Nat.reduceSub, ↓reduceIte, Int.reduceLT, Int.reduceLE, Int.reduceNeg, Int.reduceAdd, Int.reduceEq, Nat.reduceBneDiff, Nat.reduceBEq, Int.reduceToNat, Int.reduceMul, Int.reduceSub, Int.reduceBEq, Int.reduceBNe, Int.cast_ofNat_Int, Int.toNat_natCast_add_one, Nat.add_left_cancel_iff, Nat.left_eq_add, Nat.add_eq_left, Int.toNat_natCast, Nat.add_assoc, Int.ofNat_lt, Int.ofNat_le, Nat.lt_add_one_of_lt, Nat.lt_add_one, Nat.lt_add_right, Nat.lt_add_right_iff_pos, Nat.add_lt_add_iff_left, g15, g14, g4, g5, g2, g3, g6, hqn, hqn1, hx5, hl5, hk, hl0, w2, w1, w01, ft, eq_next_f hqn, eq_next_f' hqn, eq_next_f hqn1, eq_next_f' hqn1, eq_next_f hcn, eq_next_f' hcn, hu]
        refine Wl_of (see_run1 _ _ false x.kind (hEw [.bool false, .bool x.v1.prim, .int .u32 x.v1.epoch, .int .u32 x.v1.ex.e, .int .u32 x.v1.ex.q, .int .u32 x.v1.nw.e, .int .u32 x.v1.nw.q]) (hEn _)) ?_
        rintro _ s7 ⟨hE7, f7⟩
        have f07 : FrX (c + 1) s4 s7 := (f5.new _).trans f7
        simp -implicitDefEqProofs only [go_sem, Wk_block, Wk_drawnC, reduceCtorEq, Nat.reduceEqDiff, Nat.reduceAdd, Nat.reduceLeDiff, Nat.reduceLT, Nat.reduceMul, Nat.reduceSub, ↓reduceIte, Int.reduceLT, Int.reduceLE, Int.reduceNeg, Int.reduceAdd, Int.reduceEq, Nat.reduceBneDiff, Nat.reduceBEq, Int.reduceToNat, Int.reduceMul, Int.reduceSub, Int.reduceBEq, Int.reduceBNe, Int.cast_ofNat_Int, Int.toNat_natCast_add_one, Nat.add_left_cancel_iff, Nat.left_eq_add, Nat.add_eq_left, Int.toNat_natCast, Nat.add_assoc, Int.ofNat_lt, Int.ofNat_le, Nat.lt_add_one_of_lt, Nat.lt_add_one, Nat.lt_add_right, Nat.lt_add_right_iff_pos, Nat.add_lt_add_iff_left, g15, g14, g4, g5, g2, g3, w2]
        refine IH (0 : Int).toNat _ _ (by decide) ⟨2, one01 (chg 0 la x), _, _, rfl, ?_, ?_, ?_, ?_, ?_, ?_, ?_, f07, hE7, .inr (.inr ⟨rfl, by simp [hcg, one01], rfl, by rw [← hEB, hu], ok0, by unfold bad; rw [hcg]; simp [hcg]⟩)⟩
        all_goals simp only [go_sem, Wk_block, Wk_drawnC, reduceCtorEq, Nat.reduceEqDiff, Nat.reduceAdd, Nat.reduceLeDiff, Nat.reduceLT, Nat.reduceMul, Nat.reduceSub, ↓reduceIte, Int.reduceLT, Int.reduceLE, Int.reduceNeg, Int.reduceAdd, Int.reduceEq, Nat.reduceBneDiff, Nat.reduceBEq, Int.reduceToNat, Int.reduceMul, Int.reduceSub, Int.reduceBEq, Int.reduceBNe, Int.cast_ofNat_Int, Int.toNat_natCast_add_one, Nat.add_left_cancel_iff, Nat.left_eq_add, Nat.add_eq_left, Int.toNat_natCast, Nat.add_assoc, Int.ofNat_lt, Int.ofNat_le, g15, g14, g4, g5, g2, g3, g6, Vw.enc, hu]
      · cases hX : (x.v1.ex.e == la.2.ex.e && x.v1.ex.q == la.2.ex.q)
        · have hcg : chg 1 la x = true := by unfold chg; rw [show (sel 1 x.vs).up = x.v1.up from rfl, hu]; show (true && !(x.v1.ex.e == la.2.ex.e && x.v1.ex.q == la.2.ex.q)) = true; rw [hX]; rfl
          cases hk11 : (x.kind != 11)
          · simp -implicitDefEqProofs only [go_sem, Wk_block, Wk_drawnC, reduceCtorEq, Nat.reduceEqDiff, Nat.reduceAdd, Nat.reduceLeDiff, Nat.reduceLT, Nat.reduceMul, Nat.reduceSub, ↓reduceIte, Int.reduceLT, Int.reduceLE, Int.reduceNeg, Int.reduceAdd, Int.reduceEq, Nat.reduceBneDiff, Nat.reduceBEq, Int.reduceToNat, Int.reduceMul, Int.reduceSub, Int.reduceBEq, Int.reduceBNe, Int.cast_ofNat_Int, Int.toNat_natCast_add_one, Nat.add_left_cancel_iff, Nat.left_eq_add, Nat.add_eq_left, Int.toNat_natCast, Nat.add_assoc, Int.ofNat_lt, Int.ofNat_le, Nat.lt_add_one_of_lt, Nat.lt_add_one, Nat.lt_add_right, Nat.lt_add_right_iff_pos, Nat.add_lt_add_iff_left, g15, g14, g4, g5, g2, g3, g6, hqn, hqn1, hx5, hl5, hk, hl0, w2, w1, w01, ft, eq_next_f hqn, eq_next_f' hqn, eq_next_f hqn1, eq_next_f' hqn1, eq_next_f hcn, eq_next_f' hcn, hu, hX, hk11]
            refine Wl_of (see_run1 _ _ true x.kind (hEw [.bool true, .bool x.v1.prim, .int .u32 x.v1.epoch, .int .u32 x.v1.ex.e, .int .u32 x.v1.ex.q, .int .u32 x.v1.nw.e, .int .u32 x.v1.nw.q]) (hEn _)) ?_
            rintro _ s7 ⟨hE7, f7⟩
            have f07 : FrX (c + 1) s4 s7 := (f5.new _).trans f7
            simp -implicitDefEqProofs only [go_sem, Wk_block, Wk_drawnC, reduceCtorEq, Nat.reduceEqDiff, Nat.reduceAdd, Nat.reduceLeDiff, Nat.reduceLT, Nat.reduceMul, Nat.reduceSub, ↓reduceIte, Int.reduceLT, Int.reduceLE, Int.reduceNeg, Int.reduceAdd, Int.reduceEq, Nat.reduceBneDiff, Nat.reduceBEq, Int.reduceToNat, Int.reduceMul, Int.reduceSub, Int.reduceBEq, Int.reduceBNe, Int.cast_ofNat_Int, Int.toNat_natCast_add_one, Nat.add_left_cancel_iff, Nat.left_eq_add, Nat.add_eq_left, Int.toNat_natCast, Nat.add_assoc, Int.ofNat_lt, Int.ofNat_le, Nat.lt_add_one_of_lt, Nat.lt_add_one, Nat.lt_add_right, Nat.lt_add_right_iff_pos, Nat.add_lt_add_iff_left, g15, g14, g4, g5, g2, g3, w2]
            refine IH (0 : Int).toNat _ _ (by decide) ⟨2, one01 (chg 0 la x) + 1, _, _, rfl, ?_, ?_, ?_, ?_, ?_, ?_, ?_, f07, hE7, .inr (.inr ⟨rfl, by simp [hcg, one01], rfl, by rw [← hEB, hu], ok0, by unfold bad; rw [hcg]; simp [hk11]⟩)⟩
            all_goals simp only [go_sem, Wk_block, Wk_drawnC, reduceCtorEq, Nat.reduceEqDiff, Nat.reduceAdd, Nat.reduceLeDiff, Nat.reduceLT, Nat.reduceMul, Nat.reduceSub, ↓reduceIte, Int.reduceLT, Int.reduceLE, Int.reduceNeg, Int.reduceAdd, Int.reduceEq, Nat.reduceBneDiff, Nat.reduceBEq, Int.reduceToNat, Int.reduceMul, Int.reduceSub, Int.reduceBEq, Int.reduceBNe, Int.cast_ofNat_Int, Int.toNat_natCast_add_one, Nat.add_left_cancel_iff, Nat.left_eq_add, Nat.add_eq_left, Int.toNat_natCast, Nat.add_assoc, Int.ofNat_lt, Int.ofNat_le, g15, g14, g4, g5, g2, g3, g6, Vw.enc, hu]
          · simp -implicitDefEqProofs only [go_sem, Wk_block, Wk_drawnC, reduceCtorEq, Nat.reduceEqDiff, Nat.reduceAdd, Nat.reduceLeDiff, Nat.reduceLT, Nat.reduceMul, Nat.reduceSub, ↓reduceIte, Int.reduceLT, Int.reduceLE, Int.reduceNeg, Int.reduceAdd, Int.reduceEq, Nat.reduceBneDiff, Nat.reduceBEq, Int.reduceToNat, Int.reduceMul, Int.reduceSub, Int.reduceBEq, Int.reduceBNe, Int.cast_ofNat_Int, Int.toNat_natCast_add_one, Nat.add_left_cancel_iff, Nat.left_eq_add, Nat.add_eq_left, Int.toNat_natCast, Nat.add_assoc, Int.ofNat_lt, Int.ofNat_le, Nat.lt_add_one_of_lt, Nat.lt_add_one, Nat.lt_add_right, Nat.lt_add_right_iff_pos, Nat.add_lt_add_iff_left, g15, g14, g4, g5, g2, g3, g6, hqn, hqn1, hx5, hl5, hk, hl0, w2, w1, w01, ft, eq_next_f hqn, eq_next_f' hqn, eq_next_f hqn1, eq_next_f' hqn1, eq_next_f hcn, eq_next_f' hcn, hu, hX, hk11]
            refine Wl_of (mends_run1 _ _ x.kind (hEw [.bool true, .bool x.v1.prim, .int .u32 x.v1.epoch, .int .u32 x.v1.ex.e, .int .u32 x.v1.ex.q, .int .u32 x.v1.nw.e, .int .u32 x.v1.nw.q])) ?_
            rintro _ s6 ⟨rfl, rfl⟩
            cases hmd : En.mends B x.kind
            · simp -implicitDefEqProofs only [go_sem, Wk_block, Wk_drawnC, reduceCtorEq, Nat.reduceEqDiff, Nat.reduceAdd, Nat.reduceLeDiff, Nat.reduceLT, Nat.reduceMul, Nat.reduceSub, ↓reduceIte, Int.reduceLT, Int.reduceLE, Int.reduceNeg, Int.reduceAdd, Int.reduceEq, Nat.reduceBneDiff, Nat.reduceBEq, Int.reduceToNat, Int.reduceMul, Int.reduceSub, Int.reduceBEq, Int.reduceBNe, Int.cast_ofNat_Int, Int.toNat_natCast_add_one, Nat.add_left_cancel_iff, Nat.left_eq_add, Nat.add_eq_left, Int.toNat_natCast, Nat.add_assoc, Int.ofNat_lt, Int.ofNat_le, Nat.lt_add_one_of_lt, Nat.lt_add_one, Nat.lt_add_right, Nat.lt_add_right_iff_pos, Nat.add_lt_add_iff_left, g2, hcn, hcw, Wr_nil, ft]
              refine ⟨s5.new (.cells [.bool true, .bool x.v1.prim, .int .u32 x.v1.epoch, .int .u32 x.v1.ex.e, .int .u32 x.v1.ex.q, .int .u32 x.v1.nw.e, .int .u32 x.v1.nw.q] false false 0), f5.new _, ?_⟩
              simp [okP, bad, hcg, hk11, hmd]
            · simp -implicitDefEqProofs only [go_sem, Wk_block, Wk_drawnC, reduceCtorEq, Nat.reduceEqDiff, Nat.reduceAdd, Nat.reduceLeDiff, Nat.reduceLT, Nat.reduceMul, Nat.reduceSub, ↓reduceIte, Int.reduceLT, Int.reduceLE, Int.reduceNeg, Int.reduceAdd, Int.reduceEq, Nat.reduceBneDiff, Nat.reduceBEq, Int.reduceToNat, Int.reduceMul, Int.reduceSub, Int.reduceBEq, Int.reduceBNe, Int.cast_ofNat_Int, Int.toNat_natCast_add_one, Nat.add_left_cancel_iff, Nat.left_eq_add, Nat.add_eq_left, Int.toNat_natCast, Nat.add_assoc, Int.ofNat_lt, Int.ofNat_le, Nat.lt_add_one_of_lt, Nat.lt_add_one, Nat.lt_add_right, Nat.lt_add_right_iff_pos, Nat.add_lt_add_iff_left, g15, g14, g4, g5, g2, g3, g6, hqn, hqn1, hx5, hl5, hk, hl0, w2, w1, w01, ft, eq_next_f hqn, eq_next_f' hqn, eq_next_f hqn1, eq_next_f' hqn1, eq_next_f hcn, eq_next_f' hcn, hu]
              refine Wl_of (see_run1 _ _ true x.kind (hEw [.bool true, .bool x.v1.prim, .int .u32 x.v1.epoch, .int .u32 x.v1.ex.e, .int .u32 x.v1.ex.q, .int .u32 x.v1.nw.e, .int .u32 x.v1.nw.q]) (hEn _)) ?_
              rintro _ s7 ⟨hE7, f7⟩
              have f07 : FrX (c + 1) s4 s7 := (f5.new _).trans f7
              simp -implicitDefEqProofs only [go_sem, Wk_block, Wk_drawnC, reduceCtorEq, Nat.reduceEqDiff, Nat.reduceAdd, Nat.reduceLeDiff, Nat.reduceLT, Nat.reduceMul, Nat.reduceSub, ↓reduceIte, Int.reduceLT, Int.reduceLE, Int.reduceNeg, Int.reduceAdd, Int.reduceEq, Nat.reduceBneDiff, Nat.reduceBEq, Int.reduceToNat, Int.reduceMul, Int.reduceSub, Int.reduceBEq, Int.reduceBNe, Int.cast_ofNat_Int, Int.toNat_natCast_add_one, Nat.add_left_cancel_iff, Nat.left_eq_add, Nat.add_eq_left, Int.toNat_natCast, Nat.add_assoc, Int.ofNat_lt, Int.ofNat_le, Nat.lt_add_one_of_lt, Nat.lt_add_one, Nat.lt_add_right, Nat.lt_add_right_iff_pos, Nat.add_lt_add_iff_left, g15, g14, g4, g5, g2, g3, w2]
              refine IH (0 : Int).toNat _ _ (by decide) ⟨2, one01 (chg 0 la x) + 1, _, _, rfl, ?_, ?_, ?_, ?_, ?_, ?_, ?_, f07, hE7, .inr (.inr ⟨rfl, by simp [hcg, one01], rfl, by rw [← hEB, hu], ok0, by unfold bad; rw [hcg]; simp [hmd]⟩)⟩
              all_goals simp only [go_sem, Wk_block, Wk_drawnC, reduceCtorEq, Nat.reduceEqDiff, Nat.reduceAdd, Nat.reduceLeDiff, Nat.reduceLT, Nat.reduceMul, Nat.reduceSub, ↓reduceIte, Int.reduceLT, Int.reduceLE, Int.reduceNeg, Int.reduceAdd, Int.reduceEq, Nat.reduceBneDiff, Nat.reduceBEq, Int.reduceToNat, Int.reduceMul, Int.reduceSub, Int.reduceBEq, Int.reduceBNe, Int.cast_ofNat_Int, Int.toNat_natCast_add_one, Nat.add_left_cancel_iff, Nat.left_eq_add, Nat.add_eq_left, Int.toNat_natCast, Nat.add_assoc, Int.ofNat_lt, Int.ofNat_le, g15, g14, g4, g5, g2, g3, g6, Vw.enc, hu]
        · have hcg : chg 1 la x = false := by unfold chg; rw [show (sel 1 x.vs).up = x.v1.up from rfl, hu]; show (true && !(x.v1.ex.e == la.2.ex.e && x.v1.ex.q == la.2.ex.q)) = false; rw [hX]; rfl
          simp -implicitDefEqProofs only [go_sem, Wk_block, Wk_drawnC, reduceCtorEq, Nat.reduceEqDiff, Nat.reduceAdd, Nat.reduceLeDiff, Nat.reduceLT, Nat.reduceMul, Nat.reduceSub, ↓reduceIte, Int.reduceLT, Int.reduceLE, Int.reduceNeg, Int.reduceAdd, Int.reduceEq, Nat.reduceBneDiff, Nat.reduceBEq, Int.reduceToNat, Int.reduceMul, Int.reduceSub, Int.reduceBEq, Int.reduceBNe, Int.cast_ofNat_Int, Int.toNat_natCast_add_one, Nat.add_left_cancel_iff, Nat.left_eq_add, Nat.add_eq_left, Int.toNat_natCast, Nat.add_assoc, Int.ofNat_lt, Int.ofNat_le, Nat.lt_add_one_of_lt, Nat.lt_add_one, Nat.lt_add_right, Nat.lt_add_right_iff_pos, Nat.add_lt_add_iff_left, g15, g14, g4, g5, g2, g3, g6, hqn, hqn1, hx5, hl5, hk, hl0, w2, w1, w01, ft, eq_next_f hqn, eq_next_f' hqn, eq_next_f hqn1, eq_next_f' hqn1, eq_next_f hcn, eq_next_f' hcn, hu, hX]
          refine Wl_of (see_run1 _ _ true x.kind (hEw [.bool true, .bool x.v1.prim, .int .u32 x.v1.epoch, .int .u32 x.v1.ex.e, .int .u32 x.v1.ex.q, .int .u32 x.v1.nw.e, .int .u32 x.v1.nw.q]) (hEn _)) ?_
          rintro _ s7 ⟨hE7, f7⟩
          have f07 : FrX (c + 1) s4 s7 := (f5.new _).trans f7
          simp -implicitDefEqProofs only [go_sem, Wk_block, Wk_drawnC, reduceCtorEq, Nat.reduceEqDiff, Nat.reduceAdd, Nat.reduceLeDiff, Nat.reduceLT, Nat.reduceMul, Nat.reduceSub, ↓reduceIte, Int.reduceLT, Int.reduceLE, Int.reduceNeg, Int.reduceAdd, Int.reduceEq, Nat.reduceBneDiff, Nat.reduceBEq, Int.reduceToNat, Int.reduceMul, Int.reduceSub, Int.reduceBEq, Int.reduceBNe, Int.cast_ofNat_Int, Int.toNat_natCast_add_one, Nat.add_left_cancel_iff, Nat.left_eq_add, Nat.add_eq_left, Int.toNat_natCast, Nat.add_assoc, Int.ofNat_lt, Int.ofNat_le, Nat.lt_add_one_of_lt, Nat.lt_add_one, Nat.lt_add_right, Nat.lt_add_right_iff_pos, Nat.add_lt_add_iff_left, g15, g14, g4, g5, g2, g3, w2]
          refine IH (0 : Int).toNat _ _ (by decide) ⟨2, one01 (chg 0 la x), _, _, rfl, ?_, ?_, ?_, ?_, ?_, ?_, ?_, f07, hE7, .inr (.inr ⟨rfl, by simp [hcg, one01], rfl, by rw [← hEB, hu], ok0, by unfold bad; rw [hcg]; simp [hcg]⟩)⟩
          all_goals simp only [go_sem, Wk_block, Wk_drawnC, reduceCtorEq, Nat.reduceEqDiff, Nat.reduceAdd, Nat.reduceLeDiff, Nat.reduceLT, Nat.reduceMul, Nat.reduceSub, ↓reduceIte, Int.reduceLT, Int.reduceLE, Int.reduceNeg, Int.reduceAdd, Int.reduceEq, Nat.reduceBneDiff, Nat.reduceBEq, Int.reduceToNat, Int.reduceMul, Int.reduceSub, Int.reduceBEq, Int.reduceBNe, Int.cast_ofNat_Int, Int.toNat_natCast_add_one, Nat.add_left_cancel_iff, Nat.left_eq_add, Nat.add_eq_left, Int.toNat_natCast, Nat.add_assoc, Int.ofNat_lt, Int.ofNat_le, g15, g14, g4, g5, g2, g3, g6, Vw.enc, hu]
    · have w2' : ∀ a b, (one01 a + one01 b == 2) = (a && b) := fun a b => by cases a <;> cases b <;> rfl
      simp -implicitDefEqProofs only [go_sem, Wk_block, Wk_drawnC, reduceCtorEq, Nat.reduceEqDiff, Nat.reduceAdd, Nat.reduceLeDiff, Nat.reduceLT, Nat.reduceMul, Nat.reduceSub, ↓reduceIte, Int.reduceLT, Int.reduceLE, Int.reduceNeg, Int.reduceAdd, Int.reduceEq, Nat.reduceBneDiff, Nat.reduceBEq, Int.reduceToNat, Int.reduceMul, Int.reduceSub, Int.reduceBEq, Int.reduceBNe, Int.cast_ofNat_Int, Int.toNat_natCast_add_one, Nat.add_left_cancel_iff, Nat.left_eq_add, Nat.add_eq_left, Int.toNat_natCast, Nat.add_assoc, Int.ofNat_lt, Int.ofNat_le, Nat.lt_add_one_of_lt, Nat.lt_add_one, Nat.lt_add_right, Nat.lt_add_right_iff_pos, Nat.add_lt_add_iff_left, g15, g6, w2', ft]
      cases hcc : (chg 0 la x && chg 1 la x)
      · simp -implicitDefEqProofs only [go_sem, Wk_block, Wk_drawnC, reduceCtorEq, Nat.reduceEqDiff, Nat.reduceAdd, Nat.reduceLeDiff, Nat.reduceLT, Nat.reduceMul, Nat.reduceSub, ↓reduceIte, Int.reduceLT, Int.reduceLE, Int.reduceNeg, Int.reduceAdd, Int.reduceEq, Nat.reduceBneDiff, Nat.reduceBEq, Int.reduceToNat, Int.reduceMul, Int.reduceSub, Int.reduceBEq, Int.reduceBNe, Int.cast_ofNat_Int, Int.toNat_natCast_add_one, Nat.add_left_cancel_iff, Nat.left_eq_add, Nat.add_eq_left, Int.toNat_natCast, Nat.add_assoc, Int.ofNat_lt, Int.ofNat_le, Nat.lt_add_one_of_lt, Nat.lt_add_one, Nat.lt_add_right, Nat.lt_add_right_iff_pos, Nat.add_lt_add_iff_left, Wr_nil, ft]
        refine ⟨_, f5, .inr ⟨rfl, hE5, ?_⟩⟩
        simp [okP, ok0, ok1, hcc]
      · simp -implicitDefEqProofs only [go_sem, Wk_block, Wk_drawnC, reduceCtorEq, Nat.reduceEqDiff, Nat.reduceAdd, Nat.reduceLeDiff, Nat.reduceLT, Nat.reduceMul, Nat.reduceSub, ↓reduceIte, Int.reduceLT, Int.reduceLE, Int.reduceNeg, Int.reduceAdd, Int.reduceEq, Nat.reduceBneDiff, Nat.reduceBEq, Int.reduceToNat, Int.reduceMul, Int.reduceSub, Int.reduceBEq, Int.reduceBNe, Int.cast_ofNat_Int, Int.toNat_natCast_add_one, Nat.add_left_cancel_iff, Nat.left_eq_add, Nat.add_eq_left, Int.toNat_natCast, Nat.add_assoc, Int.ofNat_lt, Int.ofNat_le, Nat.lt_add_one_of_lt, Nat.lt_add_one, Nat.lt_add_right, Nat.lt_add_right_iff_pos, Nat.add_lt_add_iff_left, g2, hc5, Wr_nil, ft]
        refine ⟨_, f5, .inl ⟨rfl, ?_⟩⟩
        simp [okP, hcc]
  · refine ⟨?_, ?_, ?_, ?_, f2, fun i _ h => by omega⟩
    · rw [St.get_new, if_pos (by simp only [St.next_new]; omega)]
    · rw [St.get_new, if_neg (by simp only [St.next_new]; omega), St.get_new, if_pos (by omega)]
    · rw [Lies, St.get_new, if_neg (by simp only [St.next_new]; omega), St.get_new, if_neg (by omega)]; exact hc1
    · rw [Lies, St.get_new, if_neg (by simp only [St.next_new]; omega), St.get_new, if_neg (by omega)]; exact hE1
  · rintro w s3 ⟨hle, ⟨h1, h2, h3, _, h4, h5⟩ | ⟨h1, h2, h3, h4, i, hi, h5⟩⟩
    · refine ⟨_, _, _, _, _, _, _, h1, (by intro h; cases h), ?_⟩
      have hce : c ≠ e + 1 := by omega
      have hce' : c ≠ e := by omega
      unfold Lies at h3
      simp -implicitDefEqProofs only [go_sem, Wk_block, Wk_drawnC, reduceCtorEq, Nat.reduceEqDiff, Nat.reduceAdd, Nat.reduceLeDiff, Nat.reduceLT, Nat.reduceMul, Nat.reduceSub, ↓reduceIte, Int.reduceLT, Int.reduceLE, Int.reduceNeg, Int.reduceAdd, Int.reduceEq, Nat.reduceBneDiff, Nat.reduceBEq, Int.reduceToNat, Int.reduceMul, Int.reduceSub, Int.reduceBEq, Int.reduceBNe, Int.cast_ofNat_Int, Int.toNat_natCast_add_one, Nat.add_left_cancel_iff, Nat.left_eq_add, Nat.add_eq_left, Int.toNat_natCast, Nat.add_assoc, Int.ofNat_lt, Int.ofNat_le, Nat.lt_add_one_of_lt, Nat.lt_add_one, Nat.lt_add_right, Nat.lt_add_right_iff_pos, Nat.add_lt_add_iff_left, g2, h3, h2, hce, hce', Ne.symm hce, Ne.symm hce', Nat.add_eq_left]
      refine ⟨⟨true, rfl, by simpa using fun j hj => h5 j hj hj⟩, ⟨by simp only [St.next_drop, St.next_put]; exact h4.le, fun b hb => ?_⟩⟩
      rw [St.get_drop, if_neg (by omega), St.get_put, if_neg (by omega), St.get_put, if_neg (by omega)]
      exact h4.get b hb
    · refine ⟨_, _, _, _, _, _, _, h1, (by intro h; cases h), ?_⟩
      have hce : c ≠ e + 1 := by omega
      have hce' : c ≠ e := by omega
      unfold Lies at h3
      simp -implicitDefEqProofs only [go_sem, Wk_block, Wk_drawnC, reduceCtorEq, Nat.reduceEqDiff, Nat.reduceAdd, Nat.reduceLeDiff, Nat.reduceLT, Nat.reduceMul, Nat.reduceSub, ↓reduceIte, Int.reduceLT, Int.reduceLE, Int.reduceNeg, Int.reduceAdd, Int.reduceEq, Nat.reduceBneDiff, Nat.reduceBEq, Int.reduceToNat, Int.reduceMul, Int.reduceSub, Int.reduceBEq, Int.reduceBNe, Int.cast_ofNat_Int, Int.toNat_natCast_add_one, Nat.add_left_cancel_iff, Nat.left_eq_add, Nat.add_eq_left, Int.toNat_natCast, Nat.add_assoc, Int.ofNat_lt, Int.ofNat_le, Nat.lt_add_one_of_lt, Nat.lt_add_one, Nat.lt_add_right, Nat.lt_add_right_iff_pos, Nat.add_lt_add_iff_left, g2, h3, h2, hce, hce', Ne.symm hce, Ne.symm hce', Nat.add_eq_left]
      refine ⟨⟨false, rfl, ⟨fun h => (by cases h), fun h => (by rw [h i hi] at h5; cases h5)⟩⟩, ⟨by simp only [St.next_drop, St.next_put]; exact h4.le, fun b hb => ?_⟩⟩
      rw [St.get_drop, if_neg (by omega), St.get_put, if_neg (by omega)]
      exact h4.get b hb
end Go.Proofs.Yteffppdkofdmdaa
