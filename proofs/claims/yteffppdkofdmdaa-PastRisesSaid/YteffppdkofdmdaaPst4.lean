/- The document's answer: what a node showed last; whether what is exposed rises. -/
import Derived.Test.YteffppdkofdmdaaPst3
namespace Go.Proofs.Yteffppdkofdmdaa
open D
set_option linter.unusedSimpArgs false
set_option linter.unusedVariables false
set_option maxRecDepth 10000

theorem take_of {l x : List AV} {a n : Nat} (h : (l.drop a).take n = x) (k m : Nat) (hk : k + m ≤ n) : (l.drop (a + k)).take m = (x.drop k).take m := by
  rw [← h, List.drop_take, List.take_take, List.drop_drop, Nat.min_eq_left (by omega)]
theorem MoOk.c0 {m : Mo} (h : MoOk m) : (m.cells.drop 44).take 7 = m.v0.enc := take_of h.v 0 7 (by omega)
theorem MoOk.c1 {m : Mo} (h : MoOk m) : (m.cells.drop 51).take 7 = m.v1.enc := take_of h.v 7 7 (by omega)
theorem get_of {l x : List AV} {a n : Nat} (h : (l.drop a).take n = x) (k : Nat) (hk : k < n) : l[a + k]? = x[k]? := by
  rw [← h, List.getElem?_take_of_lt hk, List.getElem?_drop]
theorem MoOk.u0 {m : Mo} (h : MoOk m) : m.cells[44]? = some (.bool m.v0.up) := get_of h.v 0 (by omega)
theorem MoOk.u1 {m : Mo} (h : MoOk m) : m.cells[51]? = some (.bool m.v1.up) := get_of h.v 7 (by omega)
theorem MoOk.x0 {m : Mo} (h : MoOk m) : (m.cells.drop 47).take 2 = [.int .u32 m.v0.ex.e, .int .u32 m.v0.ex.q] := take_of h.v 3 2 (by omega)
theorem MoOk.x1 {m : Mo} (h : MoOk m) : (m.cells.drop 54).take 2 = [.int .u32 m.v1.ex.e, .int .u32 m.v1.ex.q] := take_of h.v 10 2 (by omega)
def sel (i : Int) (p : Vw × Vw) : Vw := if i = 0 then p.1 else p.2
theorem sel0 (p : Vw × Vw) : sel 0 p = p.1 := rfl
theorem sel1 (p : Vw × Vw) : sel 1 p = p.2 := rfl
def Mo.vs (m : Mo) : Vw × Vw := (m.v0, m.v1)

theorem less_run (a b : Lb) (s : St) : Wf mm 24 [.agg [.int .u32 a.e, .int .u32 a.q], .agg [.int .u32 b.e, .int .u32 b.q]] s fun v s' => v = .bool (decide (a.lt b)) ∧ Fr s s' := by
  refine Wf_enter ft24 (sm (by decide)) (by rfl) ?_
  simp -implicitDefEqProofs only [go_sem, Wk_block, Wk_drawnC, reduceCtorEq, Nat.reduceEqDiff, Nat.reduceAdd, Nat.reduceLeDiff, Nat.reduceLT, Nat.reduceMul, Nat.reduceSub, ↓reduceIte, Int.reduceLT, Int.reduceLE, Int.reduceNeg, Int.reduceAdd, Int.reduceEq, Nat.reduceBneDiff, Nat.reduceBEq, Int.reduceToNat, Int.reduceMul, Int.reduceSub, Int.reduceBEq, Int.reduceBNe, Int.cast_ofNat_Int, Int.toNat_natCast_add_one, Nat.add_left_cancel_iff, Nat.left_eq_add, Nat.add_eq_left, Int.toNat_natCast, Nat.add_assoc, Int.ofNat_lt, Int.ofNat_le, Nat.lt_add_one_of_lt, Nat.lt_add_one, Nat.lt_add_right, Nat.lt_add_right_iff_pos, Nat.add_lt_add_iff_left, fd24]
  repeat' (first | (refine Wg_split (fun hg => ?_) (fun hg => ?_) <;> simp -implicitDefEqProofs only [go_sem, Wk_block, Wk_drawnC, reduceCtorEq, Nat.reduceEqDiff, Nat.reduceAdd, Nat.reduceLeDiff, Nat.reduceLT, Nat.reduceMul, Nat.reduceSub, ↓reduceIte, Int.reduceLT, Int.reduceLE, Int.reduceNeg, Int.reduceAdd, Int.reduceEq, Nat.reduceBneDiff, Nat.reduceBEq, Int.reduceToNat, Int.reduceMul, Int.reduceSub, Int.reduceBEq, Int.reduceBNe, Int.cast_ofNat_Int, Int.toNat_natCast_add_one, Nat.add_left_cancel_iff, Nat.left_eq_add, Nat.add_eq_left, Int.toNat_natCast, Nat.add_assoc, Int.ofNat_lt, Int.ofNat_le, Nat.lt_add_one_of_lt, Nat.lt_add_one, Nat.lt_add_right, Nat.lt_add_right_iff_pos, Nat.add_lt_add_iff_left, Fr.refl, hg]) | (refine Wi_split (fun hg => ?_) (fun hg => ?_) <;> simp -implicitDefEqProofs only [go_sem, Wk_block, Wk_drawnC, reduceCtorEq, Nat.reduceEqDiff, Nat.reduceAdd, Nat.reduceLeDiff, Nat.reduceLT, Nat.reduceMul, Nat.reduceSub, ↓reduceIte, Int.reduceLT, Int.reduceLE, Int.reduceNeg, Int.reduceAdd, Int.reduceEq, Nat.reduceBneDiff, Nat.reduceBEq, Int.reduceToNat, Int.reduceMul, Int.reduceSub, Int.reduceBEq, Int.reduceBNe, Int.cast_ofNat_Int, Int.toNat_natCast_add_one, Nat.add_left_cancel_iff, Nat.left_eq_add, Nat.add_eq_left, Int.toNat_natCast, Nat.add_assoc, Int.ofNat_lt, Int.ofNat_le, Nat.lt_add_one_of_lt, Nat.lt_add_one, Nat.lt_add_right, Nat.lt_add_right_iff_pos, Nat.add_lt_add_iff_left, Fr.refl, hg]))
  all_goals (refine ⟨?_, by (repeat (first | exact FrX.refl _ _ | exact Fr.refl _ | assumption | exact Fr.x (by assumption) _ | refine FrX.put ?_ (.inl rfl) _ | refine FrX.put ?_ (.inr (by first | omega | (simp; done) | (simp; omega))) _ | refine FrX.new ?_ _ | refine Fr.put ?_ (by first | omega | (simp; done) | (simp; omega)) _ | refine Fr.new ?_ _ | refine FrX.then ?_ (by assumption) | refine Fr.trans ?_ (by assumption)))⟩; simp [Lb.lt] at *; try omega)
  all_goals (congr 1; simp_all)

theorem Last_run (ms : List Mo) (hm : ∀ m ∈ ms, MoOk m) {v : AV} {ba oa : Nat} {s : St} (hA : Acc s v 58 (ms.map Mo.cells) ba oa) (i : Int) (hi : i = 0 ∨ i = 1) :
    Wf mm 15 [v, .int .i64 i] s fun w s' => w = .agg (sel i (lastV ms)).enc ∧ Fr s s' := by
  refine Wf_enter ft15 (sm (by decide)) (by rfl) ?_
  have hmax := hA.max
  rw [List.length_map] at hmax
  unfold maxLen at hmax
  have w0 : IntKind.i64.wrap ((ms.length : Int) - 1) = (ms.length : Int) - 1 := i64_in (by omega) (by omega)
  simp -implicitDefEqProofs only [go_sem, Wk_block, Wk_drawnC, reduceCtorEq, Nat.reduceEqDiff, Nat.reduceAdd, Nat.reduceLeDiff, Nat.reduceLT, Nat.reduceMul, Nat.reduceSub, ↓reduceIte, Int.reduceLT, Int.reduceLE, Int.reduceNeg, Int.reduceAdd, Int.reduceEq, Nat.reduceBneDiff, Nat.reduceBEq, Int.reduceToNat, Int.reduceMul, Int.reduceSub, Int.reduceBEq, Int.reduceBNe, Int.cast_ofNat_Int, Int.toNat_natCast_add_one, Nat.add_left_cancel_iff, Nat.left_eq_add, Nat.add_eq_left, Int.toNat_natCast, Nat.add_assoc, Int.ofNat_lt, Int.ofNat_le, Nat.lt_add_one_of_lt, Nat.lt_add_one, Nat.lt_add_right, Nat.lt_add_right_iff_pos, Nat.add_lt_add_iff_left, fd15, hA.len, List.length_map, w0]
  obtain ⟨L, hL⟩ : ∃ L, s.next = L := ⟨_, rfl⟩
  have f1 : Fr s (s.new (.cells [.bool false, .bool false, .int .u32 0, .int .u32 0, .int .u32 0, .int .u32 0, .int .u32 0] false false 0)) := (Fr.refl s).new _
  have hl1 : Lies (s.new (.cells [.bool false, .bool false, .int .u32 0, .int .u32 0, .int .u32 0, .int .u32 0, .int .u32 0] false false 0)) L [.bool false, .bool false, .int .u32 0, .int .u32 0, .int .u32 0, .int .u32 0, .int .u32 0] := by rw [← hL]; simp only [Lies, St.get_new, if_true]
  have hn1 : L < (s.new (.cells [.bool false, .bool false, .int .u32 0, .int .u32 0, .int .u32 0, .int .u32 0, .int .u32 0] false false 0)).next := by rw [← hL]; exact Nat.lt_succ_self _
  have hsL : s.next ≤ L := by omega
  rw [hL]
  generalize s.new (.cells [.bool false, .bool false, .int .u32 0, .int .u32 0, .int .u32 0, .int .u32 0, .int .u32 0] false false 0) = s1 at *
  refine loop_ind (fun m ts s' => ∃ j : Nat, m = j ∧ j ≤ ms.length ∧ ts.get 5 = some (.int .i64 ((j : Int) - 1)) ∧ ts.get 0 = some v ∧ ts.get 1 = some (.int .i64 i) ∧ ts.get 4 = some (.ptr L 0) ∧
    sel i (lastV (ms.take j)) = sel i (lastV ms) ∧ s' = s1) ?_ (n := ms.length)
    ⟨ms.length, rfl, Nat.le_refl _, by simp only [go_sem, Wk_block, Wk_drawnC, reduceCtorEq, Nat.reduceEqDiff, Nat.reduceAdd, Nat.reduceLeDiff, Nat.reduceLT, Nat.reduceMul, Nat.reduceSub, ↓reduceIte, Int.reduceLT, Int.reduceLE, Int.reduceNeg, Int.reduceAdd, Int.reduceEq, Nat.reduceBneDiff, Nat.reduceBEq, Int.reduceToNat, Int.reduceMul, Int.reduceSub, Int.reduceBEq, Int.reduceBNe, Int.cast_ofNat_Int, Int.toNat_natCast_add_one, Nat.add_left_cancel_iff, Nat.left_eq_add, Nat.add_eq_left, Int.toNat_natCast, Nat.add_assoc, Int.ofNat_lt, Int.ofNat_le], by simp only [go_sem, Wk_block, Wk_drawnC, reduceCtorEq, Nat.reduceEqDiff, Nat.reduceAdd, Nat.reduceLeDiff, Nat.reduceLT, Nat.reduceMul, Nat.reduceSub, ↓reduceIte, Int.reduceLT, Int.reduceLE, Int.reduceNeg, Int.reduceAdd, Int.reduceEq, Nat.reduceBneDiff, Nat.reduceBEq, Int.reduceToNat, Int.reduceMul, Int.reduceSub, Int.reduceBEq, Int.reduceBNe, Int.cast_ofNat_Int, Int.toNat_natCast_add_one, Nat.add_left_cancel_iff, Nat.left_eq_add, Nat.add_eq_left, Int.toNat_natCast, Nat.add_assoc, Int.ofNat_lt, Int.ofNat_le], by simp only [go_sem, Wk_block, Wk_drawnC, reduceCtorEq, Nat.reduceEqDiff, Nat.reduceAdd, Nat.reduceLeDiff, Nat.reduceLT, Nat.reduceMul, Nat.reduceSub, ↓reduceIte, Int.reduceLT, Int.reduceLE, Int.reduceNeg, Int.reduceAdd, Int.reduceEq, Nat.reduceBneDiff, Nat.reduceBEq, Int.reduceToNat, Int.reduceMul, Int.reduceSub, Int.reduceBEq, Int.reduceBNe, Int.cast_ofNat_Int, Int.toNat_natCast_add_one, Nat.add_left_cancel_iff, Nat.left_eq_add, Nat.add_eq_left, Int.toNat_natCast, Nat.add_assoc, Int.ofNat_lt, Int.ofNat_le], by simp only [go_sem, Wk_block, Wk_drawnC, reduceCtorEq, Nat.reduceEqDiff, Nat.reduceAdd, Nat.reduceLeDiff, Nat.reduceLT, Nat.reduceMul, Nat.reduceSub, ↓reduceIte, Int.reduceLT, Int.reduceLE, Int.reduceNeg, Int.reduceAdd, Int.reduceEq, Nat.reduceBneDiff, Nat.reduceBEq, Int.reduceToNat, Int.reduceMul, Int.reduceSub, Int.reduceBEq, Int.reduceBNe, Int.cast_ofNat_Int, Int.toNat_natCast_add_one, Nat.add_left_cancel_iff, Nat.left_eq_add, Nat.add_eq_left, Int.toNat_natCast, Nat.add_assoc, Int.ofNat_lt, Int.ofNat_le, hL], by rw [List.take_length], rfl⟩
  rintro j ts s2 ⟨_, rfl, hj, g5, g0, g1, g4, hs, rfl⟩ IH
  unfold Lies at hl1
  cases j with
  | zero =>
    have e0 : (((0 : Nat) : Int) - 1) = -1 := by omega
    rw [e0] at g5
    have h7 : ¬ (0 : Int) ≤ -1 := by omega
    simp -implicitDefEqProofs only [go_sem, Wk_block, Wk_drawnC, reduceCtorEq, Nat.reduceEqDiff, Nat.reduceAdd, Nat.reduceLeDiff, Nat.reduceLT, Nat.reduceMul, Nat.reduceSub, ↓reduceIte, Int.reduceLT, Int.reduceLE, Int.reduceNeg, Int.reduceAdd, Int.reduceEq, Nat.reduceBneDiff, Nat.reduceBEq, Int.reduceToNat, Int.reduceMul, Int.reduceSub, Int.reduceBEq, Int.reduceBNe, Int.cast_ofNat_Int, Int.toNat_natCast_add_one, Nat.add_left_cancel_iff, Nat.left_eq_add, Nat.add_eq_left, Int.toNat_natCast, Nat.add_assoc, Int.ofNat_lt, Int.ofNat_le, Nat.lt_add_one_of_lt, Nat.lt_add_one, Nat.lt_add_right, Nat.lt_add_right_iff_pos, Nat.add_lt_add_iff_left, g5, g4, hl1, h7, Vw.enc]
    refine ⟨?_, ?_⟩
    · rw [← hs]
      rcases hi with rfl | rfl <;> rfl
    · exact f1.put hsL _
  | succ j =>
    have e0 : (((j + 1 : Nat) : Int) - 1) = (j : Int) := by omega
    rw [e0] at g5
    have hjl : j < (ms.map Mo.cells).length := by rw [List.length_map]; omega
    have hlt : j < ms.length := by omega
    obtain ⟨vs, hv, hp, hq⟩ := (hA.mono f1).part j hjl
    simp only [List.getElem_map] at hp hq
    have hok := hm ms[j] (List.getElem_mem hlt)
    have hlv := lastV_take hlt
    generalize hx : ms[j] = x at hp hq hok hlv
    have hge : (0 : Int) ≤ (j : Int) := by omega
    have w1 : IntKind.i64.wrap ((j : Int) - 1) = (j : Int) - 1 := i64_in (by omega) (by omega)
    have q0 := hq 44 (by omega)
    have q1 := hq 51 (by omega)
    have q2 := hp 44 7 (by omega)
    have q3 := hp 51 7 (by omega)
    rw [hok.u0] at q0
    rw [hok.u1] at q1
    rw [hok.c0] at q2
    rw [hok.c1] at q3
    simp only [Nat.add_assoc, Nat.reduceAdd] at q0 q1 q2 q3
    rcases hi with rfl | rfl
    · cases hu : x.v0.up
      · rw [hu] at q0 hlv
        simp -implicitDefEqProofs only [go_sem, Wk_block, Wk_drawnC, reduceCtorEq, Nat.reduceEqDiff, Nat.reduceAdd, Nat.reduceLeDiff, Nat.reduceLT, Nat.reduceMul, Nat.reduceSub, ↓reduceIte, Int.reduceLT, Int.reduceLE, Int.reduceNeg, Int.reduceAdd, Int.reduceEq, Nat.reduceBneDiff, Nat.reduceBEq, Int.reduceToNat, Int.reduceMul, Int.reduceSub, Int.reduceBEq, Int.reduceBNe, Int.cast_ofNat_Int, Int.toNat_natCast_add_one, Nat.add_left_cancel_iff, Nat.left_eq_add, Nat.add_eq_left, Int.toNat_natCast, Nat.add_assoc, Int.ofNat_lt, Int.ofNat_le, Nat.lt_add_one_of_lt, Nat.lt_add_one, Nat.lt_add_right, Nat.lt_add_right_iff_pos, Nat.add_lt_add_iff_left, g5, g0, g1, g4, hge, hA.idx _ _ hjl, hv, q0, w1]
        refine IH j _ _ (by omega) ⟨j, rfl, by omega, ?_, ?_, ?_, ?_, by rw [← hs, hlv]; simp [sel], rfl⟩
        all_goals simp only [go_sem, Wk_block, Wk_drawnC, reduceCtorEq, Nat.reduceEqDiff, Nat.reduceAdd, Nat.reduceLeDiff, Nat.reduceLT, Nat.reduceMul, Nat.reduceSub, ↓reduceIte, Int.reduceLT, Int.reduceLE, Int.reduceNeg, Int.reduceAdd, Int.reduceEq, Nat.reduceBneDiff, Nat.reduceBEq, Int.reduceToNat, Int.reduceMul, Int.reduceSub, Int.reduceBEq, Int.reduceBNe, Int.cast_ofNat_Int, Int.toNat_natCast_add_one, Nat.add_left_cancel_iff, Nat.left_eq_add, Nat.add_eq_left, Int.toNat_natCast, Nat.add_assoc, Int.ofNat_lt, Int.ofNat_le, g0, g1, g4]
      · rw [hu] at q0 hlv
        unfold Vw.enc at q2
        simp -implicitDefEqProofs only [go_sem, Wk_block, Wk_drawnC, reduceCtorEq, Nat.reduceEqDiff, Nat.reduceAdd, Nat.reduceLeDiff, Nat.reduceLT, Nat.reduceMul, Nat.reduceSub, ↓reduceIte, Int.reduceLT, Int.reduceLE, Int.reduceNeg, Int.reduceAdd, Int.reduceEq, Nat.reduceBneDiff, Nat.reduceBEq, Int.reduceToNat, Int.reduceMul, Int.reduceSub, Int.reduceBEq, Int.reduceBNe, Int.cast_ofNat_Int, Int.toNat_natCast_add_one, Nat.add_left_cancel_iff, Nat.left_eq_add, Nat.add_eq_left, Int.toNat_natCast, Nat.add_assoc, Int.ofNat_lt, Int.ofNat_le, Nat.lt_add_one_of_lt, Nat.lt_add_one, Nat.lt_add_right, Nat.lt_add_right_iff_pos, Nat.add_lt_add_iff_left, g5, g0, g1, g4, hge, hA.idx _ _ hjl, hv, q0, q2, w1, hl1]
        refine ⟨?_, ?_⟩
        · rw [← hs, hlv]; simp [sel, Vw.enc]
        · exact f1.put hsL _
    · cases hu : x.v1.up
      · rw [hu] at q1 hlv
        simp -implicitDefEqProofs only [go_sem, Wk_block, Wk_drawnC, reduceCtorEq, Nat.reduceEqDiff, Nat.reduceAdd, Nat.reduceLeDiff, Nat.reduceLT, Nat.reduceMul, Nat.reduceSub, ↓reduceIte, Int.reduceLT, Int.reduceLE, Int.reduceNeg, Int.reduceAdd, Int.reduceEq, Nat.reduceBneDiff, Nat.reduceBEq, Int.reduceToNat, Int.reduceMul, Int.reduceSub, Int.reduceBEq, Int.reduceBNe, Int.cast_ofNat_Int, Int.toNat_natCast_add_one, Nat.add_left_cancel_iff, Nat.left_eq_add, Nat.add_eq_left, Int.toNat_natCast, Nat.add_assoc, Int.ofNat_lt, Int.ofNat_le, Nat.lt_add_one_of_lt, Nat.lt_add_one, Nat.lt_add_right, Nat.lt_add_right_iff_pos, Nat.add_lt_add_iff_left, g5, g0, g1, g4, hge, hA.idx _ _ hjl, hv, q1, w1]
        refine IH j _ _ (by omega) ⟨j, rfl, by omega, ?_, ?_, ?_, ?_, by rw [← hs, hlv]; simp [sel], rfl⟩
        all_goals simp only [go_sem, Wk_block, Wk_drawnC, reduceCtorEq, Nat.reduceEqDiff, Nat.reduceAdd, Nat.reduceLeDiff, Nat.reduceLT, Nat.reduceMul, Nat.reduceSub, ↓reduceIte, Int.reduceLT, Int.reduceLE, Int.reduceNeg, Int.reduceAdd, Int.reduceEq, Nat.reduceBneDiff, Nat.reduceBEq, Int.reduceToNat, Int.reduceMul, Int.reduceSub, Int.reduceBEq, Int.reduceBNe, Int.cast_ofNat_Int, Int.toNat_natCast_add_one, Nat.add_left_cancel_iff, Nat.left_eq_add, Nat.add_eq_left, Int.toNat_natCast, Nat.add_assoc, Int.ofNat_lt, Int.ofNat_le, g0, g1, g4]
      · rw [hu] at q1 hlv
        unfold Vw.enc at q3
        simp -implicitDefEqProofs only [go_sem, Wk_block, Wk_drawnC, reduceCtorEq, Nat.reduceEqDiff, Nat.reduceAdd, Nat.reduceLeDiff, Nat.reduceLT, Nat.reduceMul, Nat.reduceSub, ↓reduceIte, Int.reduceLT, Int.reduceLE, Int.reduceNeg, Int.reduceAdd, Int.reduceEq, Nat.reduceBneDiff, Nat.reduceBEq, Int.reduceToNat, Int.reduceMul, Int.reduceSub, Int.reduceBEq, Int.reduceBNe, Int.cast_ofNat_Int, Int.toNat_natCast_add_one, Nat.add_left_cancel_iff, Nat.left_eq_add, Nat.add_eq_left, Int.toNat_natCast, Nat.add_assoc, Int.ofNat_lt, Int.ofNat_le, Nat.lt_add_one_of_lt, Nat.lt_add_one, Nat.lt_add_right, Nat.lt_add_right_iff_pos, Nat.add_lt_add_iff_left, g5, g0, g1, g4, hge, hA.idx _ _ hjl, hv, q1, q3, w1, hl1]
        refine ⟨?_, ?_⟩
        · rw [← hs, hlv]; simp [sel, Vw.enc]
        · exact f1.put hsL _
end Go.Proofs.Yteffppdkofdmdaa
