/- slices.Sort over numbers of 32 bits. Third part: the partitions. Printed by kq.py.
slices.Sort over numbers of 32 bits. Fourth part: the partial insertion sort.
slices.Sort over numbers of 32 bits. Fifth part: the pivot.
slices.Sort over numbers of 32 bits. Sixth part: how many bits; the patterns broken. -/
import Derived.Test.YtjejgnbdlfkenaaZf
namespace Go.Proofs.Ytjejgnbdlfkenaa.Base
open D
set_option linter.unusedSimpArgs false
set_option linter.unusedVariables false
set_option maxRecDepth 10000


theorem Part_run {d0 : Array Int} {n a b v p : Nat} {s : St} (hp : Arr s p d0) (hn : d0.size = n) (hav : a ≤ v) (hvb : v < b) (hbn : b ≤ n) (hn9 : n < 1000000) :
    Wf mm 51 [.slice p 0 n n true, .int .i64 (a : Int), .int .i64 (b : Int), .int .i64 (v : Int)] s fun w s' => ∃ q, w = .tup [.int .i64 ((Go.Sort.partition lt d0 a b v).1 : Int), .bool q] ∧ Arr s' p (Go.Sort.partition lt d0 a b v).2.2 ∧ FrX p s s' ∧ s'.next = s.next := by
  refine Wf_enter ft51 (sm (by decide)) (by rfl) ?_
  have ft : (false == true) = false := rfl
  rw [Go.Sort.partition_fst, Go.Sort.partition_arr]
  obtain ⟨h, rfl⟩ : ∃ h, b = h + 1 := ⟨b - 1, by omega⟩
  have wb := pred_in (j := h) (by omega)
  have wa := succ_in (j := a) (by omega)
  have fr := FrX.refl p s
  have nr : s.next = s.next := rfl
  have a1q := ar_get (d := d0) (i := a) (by omega)
  have a2q := ar_get (d := d0) (i := v) (by omega)
  have u1q := ar_set (d := d0) (i := a) (by omega) d0[v]!
  have u2q := ar_swp (d := d0) (i := a) (j := v) (by omega)
  have l1q : a + 1 ≤ (ar d0).length := by rw [ar_len]; omega
  have l2q : v + 1 ≤ (ar (d0.setIfInBounds a d0[v]!)).length := by rw [ar_len, set_size]; omega
  have x1q := idxA (p := p) (n := n) (i := a) (by omega)
  have x2q := idxA (p := p) (n := n) (i := v) (by omega)
  simp -implicitDefEqProofs only [go_sem, Wk_block, Wk_drawnC, reduceCtorEq, Nat.reduceEqDiff, Nat.reduceAdd, Nat.reduceLeDiff, Nat.reduceLT, Nat.reduceMul, Nat.reduceSub, ↓reduceIte, Int.reduceLT, Int.reduceLE, Int.reduceNeg, Int.reduceAdd, Int.reduceEq, Nat.reduceBneDiff, Nat.reduceBEq, Int.reduceToNat, Int.reduceMul, Int.reduceSub, Int.reduceBEq, Int.reduceBNe, fd51, wb, wa, hp, a1q, a2q, u1q, u2q, l1q, l2q, x1q, x2q, uI_cells, uI_cell, ft]
  obtain ⟨s1, hs1⟩ : ∃ x, St.put s p (.cells (ar (Go.Sort.swp d0 a v)) true false 1) = x := ⟨_, rfl⟩
  rw [hs1]
  have fs1 : FrX p s s1 := by rw [← hs1]; exact FrX.put (by assumption) (.inl rfl) _
  have ns1 : s1.next = s.next := by rw [← hs1]; assumption
  have hA1 : Arr s1 p (Go.Sort.swp d0 a v) := by rw [← hs1]; exact arr_put _ _ _
  have hd1 : (Go.Sort.swp d0 a v).size = n := by rw [swp_size]; assumption
  rw [Nat.add_sub_cancel]
  generalize Go.Sort.swp d0 a v = d1 at hA1 hd1 ⊢
  rw [Go.Sort.partLoop_eq]
  have g0 : (0 : Nat) = 0 := rfl
  have g1 : (0 : Nat) = 0 := rfl
  have g10 : (0 : Nat) = 0 := rfl
  have g11 : (0 : Nat) = 0 := rfl
  have r0 := Go.Sort.scanUp_spec (fun x => lt x d1[a]!) d1 h _ (a + 1) rfl
  refine Wk_loop_post (fun ts s' => ts.get 10 = some (.int .i64 ((Go.Sort.scanUp (fun x => lt x d1[a]!) d1 h (a + 1) : Nat) : Int)) ∧ ts.get 11 = some (.int .i64 (h : Int)) ∧ ts.get 0 = some (.slice p 0 n n true) ∧ ts.get 1 = some (.int .i64 (a : Int)) ∧ s1 = s') ?_ ?_
  · refine loop_ind (fun m ts s' => ∃ k : Nat, m = h + 1 - k ∧ (a + 1) ≤ k ∧ ts.get 10 = some (.int .i64 (k : Int)) ∧ ts.get 11 = some (.int .i64 (h : Int)) ∧ ts.get 0 = some (.slice p 0 n n true) ∧ ts.get 1 = some (.int .i64 (a : Int)) ∧ Go.Sort.scanUp (fun x => lt x d1[a]!) d1 h k = Go.Sort.scanUp (fun x => lt x d1[a]!) d1 h (a + 1) ∧ s1 = s') ?_ (n := h + 1 - (a + 1))
      ⟨(a + 1), rfl, Nat.le_refl _, by simp only [Tr.get_set, Nat.reduceEqDiff, ↓reduceIte, Int.cast_ofNat_Int, g10], by simp only [Tr.get_set, Nat.reduceEqDiff, ↓reduceIte, Int.cast_ofNat_Int, g11], by simp only [Tr.get_set, Nat.reduceEqDiff, ↓reduceIte, Int.cast_ofNat_Int, g0], by simp only [Tr.get_set, Nat.reduceEqDiff, ↓reduceIte, Int.cast_ofNat_Int, g1], rfl, rfl⟩
    clear g10 g11 g0 g1
    rintro _ ts s9 ⟨k, rfl, hk, g10, g11, g0, g1, he, rfl⟩ IH
    rw [scanUp_eq] at he
    by_cases hkj : k ≤ h
    · have c1 : decide ((k : Int) ≤ (h : Int)) = true := decide_eq_true (by omega)
      have c2 : decide (k ≤ h) = true := decide_eq_true hkj
      have wk := succ_in (j := k) (by omega)
      have x1 := idxA (p := p) (n := n) (i := k) (by omega)
      have x0 := idxA (p := p) (n := n) (i := a) (by omega)
      have a1 := ar_get (d := d1) (i := k) (by omega)
      have a0 := ar_get (d := d1) (i := a) (by omega)
      cases hc : lt d1[k]! d1[a]!
      · simp -implicitDefEqProofs only [go_sem, Wk_block, Wk_drawnC, reduceCtorEq, Nat.reduceEqDiff, Nat.reduceAdd, Nat.reduceLeDiff, Nat.reduceLT, Nat.reduceMul, Nat.reduceSub, ↓reduceIte, Int.reduceLT, Int.reduceLE, Int.reduceNeg, Int.reduceAdd, Int.reduceEq, Nat.reduceBneDiff, Nat.reduceBEq, Int.reduceToNat, Int.reduceMul, Int.reduceSub, Int.reduceBEq, Int.reduceBNe, g10, g11, g0, g1, c1, c2, x1, x0, hA1, a1, a0, wk, Wl_eq (less_run _ _ _), hc, Bool.not_true, Bool.not_false, ft]
        rw [Wr_nil]
        rw [c2, hc, if_neg (by simp)] at he
        refine ⟨.inr rfl, rfl, ?_, ?_, ?_, ?_, rfl⟩
        · rw [← he]; simp only [Tr.get_set, Nat.reduceEqDiff, ↓reduceIte, Int.cast_ofNat_Int, g10]
        · simp only [Tr.get_set, Nat.reduceEqDiff, ↓reduceIte, Int.cast_ofNat_Int, g11]
        · simp only [Tr.get_set, Nat.reduceEqDiff, ↓reduceIte, Int.cast_ofNat_Int, g0]
        · simp only [Tr.get_set, Nat.reduceEqDiff, ↓reduceIte, Int.cast_ofNat_Int, g1]
      · simp -implicitDefEqProofs only [go_sem, Wk_block, Wk_drawnC, reduceCtorEq, Nat.reduceEqDiff, Nat.reduceAdd, Nat.reduceLeDiff, Nat.reduceLT, Nat.reduceMul, Nat.reduceSub, ↓reduceIte, Int.reduceLT, Int.reduceLE, Int.reduceNeg, Int.reduceAdd, Int.reduceEq, Nat.reduceBneDiff, Nat.reduceBEq, Int.reduceToNat, Int.reduceMul, Int.reduceSub, Int.reduceBEq, Int.reduceBNe, g10, g11, g0, g1, c1, c2, x1, x0, hA1, a1, a0, wk, Wl_eq (less_run _ _ _), hc, Bool.not_true, Bool.not_false, ft]
        rw [c2, hc, if_pos (by simp)] at he
        refine IH (h + 1 - (k + 1)) _ _ (by omega) ⟨k + 1, rfl, by omega, ?_, ?_, ?_, ?_, he, rfl⟩
        · simp only [Tr.get_set, Nat.reduceEqDiff, ↓reduceIte, Int.cast_ofNat_Int]
        · simp only [Tr.get_set, Nat.reduceEqDiff, ↓reduceIte, Int.cast_ofNat_Int, g11]
        · simp only [Tr.get_set, Nat.reduceEqDiff, ↓reduceIte, Int.cast_ofNat_Int, g0]
        · simp only [Tr.get_set, Nat.reduceEqDiff, ↓reduceIte, Int.cast_ofNat_Int, g1]
    · have c1 : decide ((k : Int) ≤ (h : Int)) = false := decide_eq_false (by omega)
      have c2 : decide (k ≤ h) = false := decide_eq_false hkj
      rw [c2, Bool.false_and, if_neg (by simp)] at he
      simp -implicitDefEqProofs only [go_sem, Wk_block, Wk_drawnC, reduceCtorEq, Nat.reduceEqDiff, Nat.reduceAdd, Nat.reduceLeDiff, Nat.reduceLT, Nat.reduceMul, Nat.reduceSub, ↓reduceIte, Int.reduceLT, Int.reduceLE, Int.reduceNeg, Int.reduceAdd, Int.reduceEq, Nat.reduceBneDiff, Nat.reduceBEq, Int.reduceToNat, Int.reduceMul, Int.reduceSub, Int.reduceBEq, Int.reduceBNe, g10, g11, g0, g1, c1, c2, ft]
      rw [Wr_nil]
      refine ⟨.inr rfl, rfl, ?_, ?_, ?_, ?_, rfl⟩
      · rw [← he]; simp only [Tr.get_set, Nat.reduceEqDiff, ↓reduceIte, Int.cast_ofNat_Int, g10]
      · simp only [Tr.get_set, Nat.reduceEqDiff, ↓reduceIte, Int.cast_ofNat_Int, g11]
      · simp only [Tr.get_set, Nat.reduceEqDiff, ↓reduceIte, Int.cast_ofNat_Int, g0]
      · simp only [Tr.get_set, Nat.reduceEqDiff, ↓reduceIte, Int.cast_ofNat_Int, g1]
  clear g10 g11 g0 g1
  rintro ts s9 ⟨g10, g11, g0, g1, rfl⟩
  generalize Go.Sort.scanUp (fun x => lt x d1[a]!) d1 h (a + 1) = i at r0 g10 ⊢
  have r1 := Go.Sort.scanDown_spec (fun x => !lt x d1[a]!) d1 i h
  simp -implicitDefEqProofs only [go_sem, Wk_block, Wk_drawnC, reduceCtorEq, Nat.reduceEqDiff, Nat.reduceAdd, Nat.reduceLeDiff, Nat.reduceLT, Nat.reduceMul, Nat.reduceSub, ↓reduceIte, Int.reduceLT, Int.reduceLE, Int.reduceNeg, Int.reduceAdd, Int.reduceEq, Nat.reduceBneDiff, Nat.reduceBEq, Int.reduceToNat, Int.reduceMul, Int.reduceSub, Int.reduceBEq, Int.reduceBNe, g10, g11, g0, g1, ft]
  refine Wk_loop_post (fun ts s' => ts.get 11 = some (.int .i64 ((Go.Sort.scanDown (fun x => !lt x d1[a]!) d1 i h : Nat) : Int)) ∧ ts.get 10 = some (.int .i64 (i : Int)) ∧ ts.get 0 = some (.slice p 0 n n true) ∧ ts.get 1 = some (.int .i64 (a : Int)) ∧ s1 = s') ?_ ?_
  · refine loop_ind (fun m ts s' => ∃ k : Nat, m = k ∧ k ≤ h ∧ ts.get 11 = some (.int .i64 (k : Int)) ∧ ts.get 10 = some (.int .i64 (i : Int)) ∧ ts.get 0 = some (.slice p 0 n n true) ∧ ts.get 1 = some (.int .i64 (a : Int)) ∧ Go.Sort.scanDown (fun x => !lt x d1[a]!) d1 i k = Go.Sort.scanDown (fun x => !lt x d1[a]!) d1 i h ∧ s1 = s') ?_ (n := h)
      ⟨h, rfl, Nat.le_refl _, by simp only [Tr.get_set, Nat.reduceEqDiff, ↓reduceIte, Int.cast_ofNat_Int, g11], by simp only [Tr.get_set, Nat.reduceEqDiff, ↓reduceIte, Int.cast_ofNat_Int, g10], by simp only [Tr.get_set, Nat.reduceEqDiff, ↓reduceIte, Int.cast_ofNat_Int, g0], by simp only [Tr.get_set, Nat.reduceEqDiff, ↓reduceIte, Int.cast_ofNat_Int, g1], rfl, rfl⟩
    clear g11 g10 g0 g1
    rintro k ts s9 ⟨_, rfl, hk, g11, g10, g0, g1, he, rfl⟩ IH
    by_cases hkj : i ≤ k
    · obtain ⟨m, hm⟩ : ∃ m, k = m + 1 := ⟨k - 1, by omega⟩
      rw [hm, scanDown_eq, ← hm] at he
      have c1 : decide ((i : Int) ≤ (k : Int)) = true := decide_eq_true (by omega)
      have c2 : decide (i ≤ k) = true := decide_eq_true hkj
      have wk := pred_of hm (by omega)
      have x1 := idxA (p := p) (n := n) (i := k) (by omega)
      have x0 := idxA (p := p) (n := n) (i := a) (by omega)
      have a1 := ar_get (d := d1) (i := k) (by omega)
      have a0 := ar_get (d := d1) (i := a) (by omega)
      cases hc : lt d1[k]! d1[a]!
      · simp -implicitDefEqProofs only [go_sem, Wk_block, Wk_drawnC, reduceCtorEq, Nat.reduceEqDiff, Nat.reduceAdd, Nat.reduceLeDiff, Nat.reduceLT, Nat.reduceMul, Nat.reduceSub, ↓reduceIte, Int.reduceLT, Int.reduceLE, Int.reduceNeg, Int.reduceAdd, Int.reduceEq, Nat.reduceBneDiff, Nat.reduceBEq, Int.reduceToNat, Int.reduceMul, Int.reduceSub, Int.reduceBEq, Int.reduceBNe, g11, g10, g0, g1, c1, c2, x1, x0, hA1, a1, a0, wk, Wl_eq (less_run _ _ _), hc, Bool.not_true, Bool.not_false, ft]
        rw [c2, hc, if_pos (by simp)] at he
        refine IH m _ _ (by omega) ⟨m, rfl, by omega, ?_, ?_, ?_, ?_, he, rfl⟩
        · simp only [Tr.get_set, Nat.reduceEqDiff, ↓reduceIte, Int.cast_ofNat_Int]
        · simp only [Tr.get_set, Nat.reduceEqDiff, ↓reduceIte, Int.cast_ofNat_Int, g10]
        · simp only [Tr.get_set, Nat.reduceEqDiff, ↓reduceIte, Int.cast_ofNat_Int, g0]
        · simp only [Tr.get_set, Nat.reduceEqDiff, ↓reduceIte, Int.cast_ofNat_Int, g1]
      · simp -implicitDefEqProofs only [go_sem, Wk_block, Wk_drawnC, reduceCtorEq, Nat.reduceEqDiff, Nat.reduceAdd, Nat.reduceLeDiff, Nat.reduceLT, Nat.reduceMul, Nat.reduceSub, ↓reduceIte, Int.reduceLT, Int.reduceLE, Int.reduceNeg, Int.reduceAdd, Int.reduceEq, Nat.reduceBneDiff, Nat.reduceBEq, Int.reduceToNat, Int.reduceMul, Int.reduceSub, Int.reduceBEq, Int.reduceBNe, g11, g10, g0, g1, c1, c2, x1, x0, hA1, a1, a0, wk, Wl_eq (less_run _ _ _), hc, Bool.not_true, Bool.not_false, ft]
        rw [Wr_nil]
        rw [c2, hc, if_neg (by simp)] at he
        refine ⟨.inr rfl, rfl, ?_, ?_, ?_, ?_, rfl⟩
        · rw [← he]; simp only [Tr.get_set, Nat.reduceEqDiff, ↓reduceIte, Int.cast_ofNat_Int, g11]
        · simp only [Tr.get_set, Nat.reduceEqDiff, ↓reduceIte, Int.cast_ofNat_Int, g10]
        · simp only [Tr.get_set, Nat.reduceEqDiff, ↓reduceIte, Int.cast_ofNat_Int, g0]
        · simp only [Tr.get_set, Nat.reduceEqDiff, ↓reduceIte, Int.cast_ofNat_Int, g1]
    · have c1 : decide ((i : Int) ≤ (k : Int)) = false := decide_eq_false (by omega)
      have c2 : decide (i ≤ k) = false := decide_eq_false hkj
      rw [scanDown_lt (by omega)] at he
      simp -implicitDefEqProofs only [go_sem, Wk_block, Wk_drawnC, reduceCtorEq, Nat.reduceEqDiff, Nat.reduceAdd, Nat.reduceLeDiff, Nat.reduceLT, Nat.reduceMul, Nat.reduceSub, ↓reduceIte, Int.reduceLT, Int.reduceLE, Int.reduceNeg, Int.reduceAdd, Int.reduceEq, Nat.reduceBneDiff, Nat.reduceBEq, Int.reduceToNat, Int.reduceMul, Int.reduceSub, Int.reduceBEq, Int.reduceBNe, g11, g10, g0, g1, c1, c2, ft]
      rw [Wr_nil]
      refine ⟨.inr rfl, rfl, ?_, ?_, ?_, ?_, rfl⟩
      · rw [← he]; simp only [Tr.get_set, Nat.reduceEqDiff, ↓reduceIte, Int.cast_ofNat_Int, g11]
      · simp only [Tr.get_set, Nat.reduceEqDiff, ↓reduceIte, Int.cast_ofNat_Int, g10]
      · simp only [Tr.get_set, Nat.reduceEqDiff, ↓reduceIte, Int.cast_ofNat_Int, g0]
      · simp only [Tr.get_set, Nat.reduceEqDiff, ↓reduceIte, Int.cast_ofNat_Int, g1]
  clear g11 g10 g0 g1
  rintro ts s9 ⟨g11, g10, g0, g1, rfl⟩
  generalize Go.Sort.scanDown (fun x => !lt x d1[a]!) d1 i h = j at r1 g11 ⊢
  have rij := r1.2.1 (r0.2.1 (by omega))
  by_cases hij : i > j
  · have c1 : decide (j < i) = true := decide_eq_true (by omega)
    rw [if_pos hij]
    have a1r := ar_get (d := d1) (i := j) (by omega)
    have a2r := ar_get (d := d1) (i := a) (by omega)
    have u1r := ar_set (d := d1) (i := j) (by omega) d1[a]!
    have u2r := ar_swp (d := d1) (i := j) (j := a) (by omega)
    have l1r : j + 1 ≤ (ar d1).length := by rw [ar_len]; omega
    have l2r : a + 1 ≤ (ar (d1.setIfInBounds j d1[a]!)).length := by rw [ar_len, set_size]; omega
    have x1r := idxA (p := p) (n := n) (i := j) (by omega)
    have x2r := idxA (p := p) (n := n) (i := a) (by omega)
    simp -implicitDefEqProofs only [go_sem, Wk_block, Wk_drawnC, reduceCtorEq, Nat.reduceEqDiff, Nat.reduceAdd, Nat.reduceLeDiff, Nat.reduceLT, Nat.reduceMul, Nat.reduceSub, ↓reduceIte, Int.reduceLT, Int.reduceLE, Int.reduceNeg, Int.reduceAdd, Int.reduceEq, Nat.reduceBneDiff, Nat.reduceBEq, Int.reduceToNat, Int.reduceMul, Int.reduceSub, Int.reduceBEq, Int.reduceBNe, g10, g11, g0, g1, c1, hA1, a1r, a2r, u1r, u2r, l1r, l2r, x1r, x2r, uI_cells, uI_cell, ft]
    exact ⟨_, rfl, arr_put _ _ _, fs1.put (.inl rfl) _, ns1⟩
  have c1 : decide (j < i) = false := decide_eq_false (by omega)
  rw [if_neg hij]
  have hne : i < j := by
    rcases Nat.lt_or_ge i j with h1 | h1
    · exact h1
    · have e : i = j := by omega
      have e1 := r0.2.2.2 (by omega)
      have e2 := r1.2.2.2 (by omega) (by omega)
      rw [e] at e1
      first | (rw [e1] at e2; exact absurd e2 (by decide)) | (rw [e2] at e1; exact absurd e1 (by decide))
  obtain ⟨k, hk⟩ : ∃ k, j = k + 1 := ⟨j - 1, by omega⟩
  have wi := succ_in (j := i) (by omega)
  have wk := pred_of hk (by omega)
  rw [show j - 1 = k by omega]
  have a1r := ar_get (d := d1) (i := i) (by omega)
  have a2r := ar_get (d := d1) (i := j) (by omega)
  have u1r := ar_set (d := d1) (i := i) (by omega) d1[j]!
  have u2r := ar_swp (d := d1) (i := i) (j := j) (by omega)
  have l1r : i + 1 ≤ (ar d1).length := by rw [ar_len]; omega
  have l2r : j + 1 ≤ (ar (d1.setIfInBounds i d1[j]!)).length := by rw [ar_len, set_size]; omega
  have x1r := idxA (p := p) (n := n) (i := i) (by omega)
  have x2r := idxA (p := p) (n := n) (i := j) (by omega)
  simp -implicitDefEqProofs only [go_sem, Wk_block, Wk_drawnC, reduceCtorEq, Nat.reduceEqDiff, Nat.reduceAdd, Nat.reduceLeDiff, Nat.reduceLT, Nat.reduceMul, Nat.reduceSub, ↓reduceIte, Int.reduceLT, Int.reduceLE, Int.reduceNeg, Int.reduceAdd, Int.reduceEq, Nat.reduceBneDiff, Nat.reduceBEq, Int.reduceToNat, Int.reduceMul, Int.reduceSub, Int.reduceBEq, Int.reduceBNe, g10, g11, g0, g1, c1, wi, wk, hA1, a1r, a2r, u1r, u2r, l1r, l2r, x1r, x2r, uI_cells, uI_cell, ft]
  obtain ⟨s2, hs2⟩ : ∃ x, St.put s1 p (.cells (ar (Go.Sort.swp d1 i j)) true false 1) = x := ⟨_, rfl⟩
  rw [hs2]
  have fs2 : FrX p s s2 := by rw [← hs2]; exact FrX.put (by assumption) (.inl rfl) _
  have ns2 : s2.next = s.next := by rw [← hs2]; assumption
  have hA2 : Arr s2 p (Go.Sort.swp d1 i j) := by rw [← hs2]; exact arr_put _ _ _
  have hd2 : (Go.Sort.swp d1 i j).size = n := by rw [swp_size]; assumption
  generalize Go.Sort.swp d1 i j = d2 at hA2 hd2 ⊢
  refine Wk_loop_post (fun ts s' => ts.get 0 = some (.slice p 0 n n true) ∧ ts.get 1 = some (.int .i64 (a : Int)) ∧ ts.get 11 = some (.int .i64 ((Go.Sort.partLoop lt a (i + 1) k d2).1 : Int)) ∧ a ≤ (Go.Sort.partLoop lt a (i + 1) k d2).1 ∧ (Go.Sort.partLoop lt a (i + 1) k d2).1 < n ∧ (Go.Sort.partLoop lt a (i + 1) k d2).2.size = n ∧
      Arr s' p (Go.Sort.partLoop lt a (i + 1) k d2).2 ∧ FrX p s s' ∧ s'.next = s.next) ?_ ?_
  · refine loop_ind (fun m ts s' => ∃ (i' j : Nat) (d : Array Int), m = j + 1 - i' ∧ a < i' ∧ i' ≤ j + 1 ∧ j ≤ h ∧ ts.get 10 = some (.int .i64 (i' : Int)) ∧ ts.get 11 = some (.int .i64 (j : Int)) ∧ ts.get 0 = some (.slice p 0 n n true) ∧ ts.get 1 = some (.int .i64 (a : Int)) ∧ Arr s' p d ∧ d.size = n ∧
      Go.Sort.partLoop lt a i' j d = Go.Sort.partLoop lt a (i + 1) k d2 ∧ FrX p s s' ∧ s'.next = s.next) ?_ (n := k + 1 - (i + 1))
      ⟨i + 1, k, d2, rfl, by omega, by omega, by omega, by simp only [Tr.get_set, Nat.reduceEqDiff, ↓reduceIte, Int.cast_ofNat_Int], by simp only [Tr.get_set, Nat.reduceEqDiff, ↓reduceIte, Int.cast_ofNat_Int], by simp only [Tr.get_set, Nat.reduceEqDiff, ↓reduceIte, Int.cast_ofNat_Int, g0], by simp only [Tr.get_set, Nat.reduceEqDiff, ↓reduceIte, Int.cast_ofNat_Int, g1], hA2, hd2, rfl, fs2, ns2⟩
    clear g0 g1 g10 g11 r0 r1 rij c1 wi wk hA1 hA2 hd2 fs2 ns2 hs2 fs1 ns1 hs1 hd1
    rintro m ts s3 ⟨i', j, d, rfl, hi, hij, hj, g10, g11, g0, g1, hA, hd, he, f1, hn1⟩ IH
    rw [Go.Sort.partLoop_eq] at he
    have r0 := Go.Sort.scanUp_spec (fun x => lt x d[a]!) d j _ i' rfl
    simp -implicitDefEqProofs only [go_sem, Wk_block, Wk_drawnC, reduceCtorEq, Nat.reduceEqDiff, Nat.reduceAdd, Nat.reduceLeDiff, Nat.reduceLT, Nat.reduceMul, Nat.reduceSub, ↓reduceIte, Int.reduceLT, Int.reduceLE, Int.reduceNeg, Int.reduceAdd, Int.reduceEq, Nat.reduceBneDiff, Nat.reduceBEq, Int.reduceToNat, Int.reduceMul, Int.reduceSub, Int.reduceBEq, Int.reduceBNe, g10, g11, g0, g1, ft]
    refine Wk_loop_post (fun ts s' => ts.get 10 = some (.int .i64 ((Go.Sort.scanUp (fun x => lt x d[a]!) d j i' : Nat) : Int)) ∧ ts.get 11 = some (.int .i64 (j : Int)) ∧ ts.get 0 = some (.slice p 0 n n true) ∧ ts.get 1 = some (.int .i64 (a : Int)) ∧ s3 = s') ?_ ?_
    · refine loop_ind (fun m ts s' => ∃ k : Nat, m = j + 1 - k ∧ i' ≤ k ∧ ts.get 10 = some (.int .i64 (k : Int)) ∧ ts.get 11 = some (.int .i64 (j : Int)) ∧ ts.get 0 = some (.slice p 0 n n true) ∧ ts.get 1 = some (.int .i64 (a : Int)) ∧ Go.Sort.scanUp (fun x => lt x d[a]!) d j k = Go.Sort.scanUp (fun x => lt x d[a]!) d j i' ∧ s3 = s') ?_ (n := j + 1 - i')
        ⟨i', rfl, Nat.le_refl _, by simp only [Tr.get_set, Nat.reduceEqDiff, ↓reduceIte, Int.cast_ofNat_Int, g10], by simp only [Tr.get_set, Nat.reduceEqDiff, ↓reduceIte, Int.cast_ofNat_Int, g11], by simp only [Tr.get_set, Nat.reduceEqDiff, ↓reduceIte, Int.cast_ofNat_Int, g0], by simp only [Tr.get_set, Nat.reduceEqDiff, ↓reduceIte, Int.cast_ofNat_Int, g1], rfl, rfl⟩
      clear g10 g11 g0 g1
      rintro _ ts s9 ⟨k, rfl, hk, g10, g11, g0, g1, he, rfl⟩ IH
      rw [scanUp_eq] at he
      by_cases hkj : k ≤ j
      · have c1 : decide ((k : Int) ≤ (j : Int)) = true := decide_eq_true (by omega)
        have c2 : decide (k ≤ j) = true := decide_eq_true hkj
        have wk := succ_in (j := k) (by omega)
        have x1 := idxA (p := p) (n := n) (i := k) (by omega)
        have x0 := idxA (p := p) (n := n) (i := a) (by omega)
        have a1 := ar_get (d := d) (i := k) (by omega)
        have a0 := ar_get (d := d) (i := a) (by omega)
        cases hc : lt d[k]! d[a]!
        · simp -implicitDefEqProofs only [go_sem, Wk_block, Wk_drawnC, reduceCtorEq, Nat.reduceEqDiff, Nat.reduceAdd, Nat.reduceLeDiff, Nat.reduceLT, Nat.reduceMul, Nat.reduceSub, ↓reduceIte, Int.reduceLT, Int.reduceLE, Int.reduceNeg, Int.reduceAdd, Int.reduceEq, Nat.reduceBneDiff, Nat.reduceBEq, Int.reduceToNat, Int.reduceMul, Int.reduceSub, Int.reduceBEq, Int.reduceBNe, g10, g11, g0, g1, c1, c2, x1, x0, hA, a1, a0, wk, Wl_eq (less_run _ _ _), hc, Bool.not_true, Bool.not_false, ft]
          rw [Wr_nil]
          rw [c2, hc, if_neg (by simp)] at he
          refine ⟨.inr rfl, rfl, ?_, ?_, ?_, ?_, rfl⟩
          · rw [← he]; simp only [Tr.get_set, Nat.reduceEqDiff, ↓reduceIte, Int.cast_ofNat_Int, g10]
          · simp only [Tr.get_set, Nat.reduceEqDiff, ↓reduceIte, Int.cast_ofNat_Int, g11]
          · simp only [Tr.get_set, Nat.reduceEqDiff, ↓reduceIte, Int.cast_ofNat_Int, g0]
          · simp only [Tr.get_set, Nat.reduceEqDiff, ↓reduceIte, Int.cast_ofNat_Int, g1]
        · simp -implicitDefEqProofs only [go_sem, Wk_block, Wk_drawnC, reduceCtorEq, Nat.reduceEqDiff, Nat.reduceAdd, Nat.reduceLeDiff, Nat.reduceLT, Nat.reduceMul, Nat.reduceSub, ↓reduceIte, Int.reduceLT, Int.reduceLE, Int.reduceNeg, Int.reduceAdd, Int.reduceEq, Nat.reduceBneDiff, Nat.reduceBEq, Int.reduceToNat, Int.reduceMul, Int.reduceSub, Int.reduceBEq, Int.reduceBNe, g10, g11, g0, g1, c1, c2, x1, x0, hA, a1, a0, wk, Wl_eq (less_run _ _ _), hc, Bool.not_true, Bool.not_false, ft]
          rw [c2, hc, if_pos (by simp)] at he
          refine IH (j + 1 - (k + 1)) _ _ (by omega) ⟨k + 1, rfl, by omega, ?_, ?_, ?_, ?_, he, rfl⟩
          · simp only [Tr.get_set, Nat.reduceEqDiff, ↓reduceIte, Int.cast_ofNat_Int]
          · simp only [Tr.get_set, Nat.reduceEqDiff, ↓reduceIte, Int.cast_ofNat_Int, g11]
          · simp only [Tr.get_set, Nat.reduceEqDiff, ↓reduceIte, Int.cast_ofNat_Int, g0]
          · simp only [Tr.get_set, Nat.reduceEqDiff, ↓reduceIte, Int.cast_ofNat_Int, g1]
      · have c1 : decide ((k : Int) ≤ (j : Int)) = false := decide_eq_false (by omega)
        have c2 : decide (k ≤ j) = false := decide_eq_false hkj
        rw [c2, Bool.false_and, if_neg (by simp)] at he
        simp -implicitDefEqProofs only [go_sem, Wk_block, Wk_drawnC, reduceCtorEq, Nat.reduceEqDiff, Nat.reduceAdd, Nat.reduceLeDiff, Nat.reduceLT, Nat.reduceMul, Nat.reduceSub, ↓reduceIte, Int.reduceLT, Int.reduceLE, Int.reduceNeg, Int.reduceAdd, Int.reduceEq, Nat.reduceBneDiff, Nat.reduceBEq, Int.reduceToNat, Int.reduceMul, Int.reduceSub, Int.reduceBEq, Int.reduceBNe, g10, g11, g0, g1, c1, c2, ft]
        rw [Wr_nil]
        refine ⟨.inr rfl, rfl, ?_, ?_, ?_, ?_, rfl⟩
        · rw [← he]; simp only [Tr.get_set, Nat.reduceEqDiff, ↓reduceIte, Int.cast_ofNat_Int, g10]
        · simp only [Tr.get_set, Nat.reduceEqDiff, ↓reduceIte, Int.cast_ofNat_Int, g11]
        · simp only [Tr.get_set, Nat.reduceEqDiff, ↓reduceIte, Int.cast_ofNat_Int, g0]
        · simp only [Tr.get_set, Nat.reduceEqDiff, ↓reduceIte, Int.cast_ofNat_Int, g1]
    clear g10 g11 g0 g1
    rintro ts s9 ⟨g10, g11, g0, g1, rfl⟩
    generalize Go.Sort.scanUp (fun x => lt x d[a]!) d j i' = i2 at r0 g10 he ⊢
    have r1 := Go.Sort.scanDown_spec (fun x => !lt x d[a]!) d i2 j
    simp -implicitDefEqProofs only [go_sem, Wk_block, Wk_drawnC, reduceCtorEq, Nat.reduceEqDiff, Nat.reduceAdd, Nat.reduceLeDiff, Nat.reduceLT, Nat.reduceMul, Nat.reduceSub, ↓reduceIte, Int.reduceLT, Int.reduceLE, Int.reduceNeg, Int.reduceAdd, Int.reduceEq, Nat.reduceBneDiff, Nat.reduceBEq, Int.reduceToNat, Int.reduceMul, Int.reduceSub, Int.reduceBEq, Int.reduceBNe, g10, g11, g0, g1, ft]
    refine Wk_loop_post (fun ts s' => ts.get 11 = some (.int .i64 ((Go.Sort.scanDown (fun x => !lt x d[a]!) d i2 j : Nat) : Int)) ∧ ts.get 10 = some (.int .i64 (i2 : Int)) ∧ ts.get 0 = some (.slice p 0 n n true) ∧ ts.get 1 = some (.int .i64 (a : Int)) ∧ s3 = s') ?_ ?_
    · refine loop_ind (fun m ts s' => ∃ k : Nat, m = k ∧ k ≤ j ∧ ts.get 11 = some (.int .i64 (k : Int)) ∧ ts.get 10 = some (.int .i64 (i2 : Int)) ∧ ts.get 0 = some (.slice p 0 n n true) ∧ ts.get 1 = some (.int .i64 (a : Int)) ∧ Go.Sort.scanDown (fun x => !lt x d[a]!) d i2 k = Go.Sort.scanDown (fun x => !lt x d[a]!) d i2 j ∧ s3 = s') ?_ (n := j)
        ⟨j, rfl, Nat.le_refl _, by simp only [Tr.get_set, Nat.reduceEqDiff, ↓reduceIte, Int.cast_ofNat_Int, g11], by simp only [Tr.get_set, Nat.reduceEqDiff, ↓reduceIte, Int.cast_ofNat_Int, g10], by simp only [Tr.get_set, Nat.reduceEqDiff, ↓reduceIte, Int.cast_ofNat_Int, g0], by simp only [Tr.get_set, Nat.reduceEqDiff, ↓reduceIte, Int.cast_ofNat_Int, g1], rfl, rfl⟩
      clear g11 g10 g0 g1
      rintro k ts s9 ⟨_, rfl, hk, g11, g10, g0, g1, he, rfl⟩ IH
      by_cases hkj : i2 ≤ k
      · obtain ⟨m, hm⟩ : ∃ m, k = m + 1 := ⟨k - 1, by omega⟩
        rw [hm, scanDown_eq, ← hm] at he
        have c1 : decide ((i2 : Int) ≤ (k : Int)) = true := decide_eq_true (by omega)
        have c2 : decide (i2 ≤ k) = true := decide_eq_true hkj
        have wk := pred_of hm (by omega)
        have x1 := idxA (p := p) (n := n) (i := k) (by omega)
        have x0 := idxA (p := p) (n := n) (i := a) (by omega)
        have a1 := ar_get (d := d) (i := k) (by omega)
        have a0 := ar_get (d := d) (i := a) (by omega)
        cases hc : lt d[k]! d[a]!
        · simp -implicitDefEqProofs only [go_sem, Wk_block, Wk_drawnC, reduceCtorEq, Nat.reduceEqDiff, Nat.reduceAdd, Nat.reduceLeDiff, Nat.reduceLT, Nat.reduceMul, Nat.reduceSub, ↓reduceIte, Int.reduceLT, Int.reduceLE, Int.reduceNeg, Int.reduceAdd, Int.reduceEq, Nat.reduceBneDiff, Nat.reduceBEq, Int.reduceToNat, Int.reduceMul, Int.reduceSub, Int.reduceBEq, Int.reduceBNe, g11, g10, g0, g1, c1, c2, x1, x0, hA, a1, a0, wk, Wl_eq (less_run _ _ _), hc, Bool.not_true, Bool.not_false, ft]
          rw [c2, hc, if_pos (by simp)] at he
          refine IH m _ _ (by omega) ⟨m, rfl, by omega, ?_, ?_, ?_, ?_, he, rfl⟩
          · simp only [Tr.get_set, Nat.reduceEqDiff, ↓reduceIte, Int.cast_ofNat_Int]
          · simp only [Tr.get_set, Nat.reduceEqDiff, ↓reduceIte, Int.cast_ofNat_Int, g10]
          · simp only [Tr.get_set, Nat.reduceEqDiff, ↓reduceIte, Int.cast_ofNat_Int, g0]
          · simp only [Tr.get_set, Nat.reduceEqDiff, ↓reduceIte, Int.cast_ofNat_Int, g1]
        · simp -implicitDefEqProofs only [go_sem, Wk_block, Wk_drawnC, reduceCtorEq, Nat.reduceEqDiff, Nat.reduceAdd, Nat.reduceLeDiff, Nat.reduceLT, Nat.reduceMul, Nat.reduceSub, ↓reduceIte, Int.reduceLT, Int.reduceLE, Int.reduceNeg, Int.reduceAdd, Int.reduceEq, Nat.reduceBneDiff, Nat.reduceBEq, Int.reduceToNat, Int.reduceMul, Int.reduceSub, Int.reduceBEq, Int.reduceBNe, g11, g10, g0, g1, c1, c2, x1, x0, hA, a1, a0, wk, Wl_eq (less_run _ _ _), hc, Bool.not_true, Bool.not_false, ft]
          rw [Wr_nil]
          rw [c2, hc, if_neg (by simp)] at he
          refine ⟨.inr rfl, rfl, ?_, ?_, ?_, ?_, rfl⟩
          · rw [← he]; simp only [Tr.get_set, Nat.reduceEqDiff, ↓reduceIte, Int.cast_ofNat_Int, g11]
          · simp only [Tr.get_set, Nat.reduceEqDiff, ↓reduceIte, Int.cast_ofNat_Int, g10]
          · simp only [Tr.get_set, Nat.reduceEqDiff, ↓reduceIte, Int.cast_ofNat_Int, g0]
          · simp only [Tr.get_set, Nat.reduceEqDiff, ↓reduceIte, Int.cast_ofNat_Int, g1]
      · have c1 : decide ((i2 : Int) ≤ (k : Int)) = false := decide_eq_false (by omega)
        have c2 : decide (i2 ≤ k) = false := decide_eq_false hkj
        rw [scanDown_lt (by omega)] at he
        simp -implicitDefEqProofs only [go_sem, Wk_block, Wk_drawnC, reduceCtorEq, Nat.reduceEqDiff, Nat.reduceAdd, Nat.reduceLeDiff, Nat.reduceLT, Nat.reduceMul, Nat.reduceSub, ↓reduceIte, Int.reduceLT, Int.reduceLE, Int.reduceNeg, Int.reduceAdd, Int.reduceEq, Nat.reduceBneDiff, Nat.reduceBEq, Int.reduceToNat, Int.reduceMul, Int.reduceSub, Int.reduceBEq, Int.reduceBNe, g11, g10, g0, g1, c1, c2, ft]
        rw [Wr_nil]
        refine ⟨.inr rfl, rfl, ?_, ?_, ?_, ?_, rfl⟩
        · rw [← he]; simp only [Tr.get_set, Nat.reduceEqDiff, ↓reduceIte, Int.cast_ofNat_Int, g11]
        · simp only [Tr.get_set, Nat.reduceEqDiff, ↓reduceIte, Int.cast_ofNat_Int, g10]
        · simp only [Tr.get_set, Nat.reduceEqDiff, ↓reduceIte, Int.cast_ofNat_Int, g0]
        · simp only [Tr.get_set, Nat.reduceEqDiff, ↓reduceIte, Int.cast_ofNat_Int, g1]
    clear g11 g10 g0 g1
    rintro ts s9 ⟨g11, g10, g0, g1, rfl⟩
    generalize Go.Sort.scanDown (fun x => !lt x d[a]!) d i2 j = j2 at r1 g11 he ⊢
    have rij := r1.2.1 (r0.2.1 (by omega))
    by_cases hij2 : i2 > j2
    · have c1 : decide (j2 < i2) = true := decide_eq_true (by omega)
      rw [if_pos hij2] at he
      simp -implicitDefEqProofs only [go_sem, Wk_block, Wk_drawnC, reduceCtorEq, Nat.reduceEqDiff, Nat.reduceAdd, Nat.reduceLeDiff, Nat.reduceLT, Nat.reduceMul, Nat.reduceSub, ↓reduceIte, Int.reduceLT, Int.reduceLE, Int.reduceNeg, Int.reduceAdd, Int.reduceEq, Nat.reduceBneDiff, Nat.reduceBEq, Int.reduceToNat, Int.reduceMul, Int.reduceSub, Int.reduceBEq, Int.reduceBNe, g10, g11, c1, ft]
      rw [Wr_nil]
      rw [← he]
      exact ⟨.inr rfl, rfl, by simp only [Tr.get_set, Nat.reduceEqDiff, ↓reduceIte, Int.cast_ofNat_Int, g0], by simp only [Tr.get_set, Nat.reduceEqDiff, ↓reduceIte, Int.cast_ofNat_Int, g1], by simp only [Tr.get_set, Nat.reduceEqDiff, ↓reduceIte, Int.cast_ofNat_Int, g11], by dsimp only; omega, by dsimp only; omega, hd, hA, f1, hn1⟩
    · have c1 : decide (j2 < i2) = false := decide_eq_false (by omega)
      rw [if_neg hij2] at he
      have hne : i2 < j2 := by
        rcases Nat.lt_or_ge i2 j2 with h1 | h1
        · exact h1
        · have e : i2 = j2 := by omega
          have e1 := r0.2.2.2 (by omega)
          have e2 := r1.2.2.2 (by omega) (by omega)
          rw [e] at e1
          first | (rw [e1] at e2; exact absurd e2 (by decide)) | (rw [e2] at e1; exact absurd e1 (by decide))
      obtain ⟨k2, hk2⟩ : ∃ k, j2 = k + 1 := ⟨j2 - 1, by omega⟩
      have wi := succ_in (j := i2) (by omega)
      have wk := pred_of hk2 (by omega)
      rw [show j2 - 1 = k2 by omega] at he
      have a1r := ar_get (d := d) (i := i2) (by omega)
      have a2r := ar_get (d := d) (i := j2) (by omega)
      have u1r := ar_set (d := d) (i := i2) (by omega) d[j2]!
      have u2r := ar_swp (d := d) (i := i2) (j := j2) (by omega)
      have l1r : i2 + 1 ≤ (ar d).length := by rw [ar_len]; omega
      have l2r : j2 + 1 ≤ (ar (d.setIfInBounds i2 d[j2]!)).length := by rw [ar_len, set_size]; omega
      have x1r := idxA (p := p) (n := n) (i := i2) (by omega)
      have x2r := idxA (p := p) (n := n) (i := j2) (by omega)
      simp -implicitDefEqProofs only [go_sem, Wk_block, Wk_drawnC, reduceCtorEq, Nat.reduceEqDiff, Nat.reduceAdd, Nat.reduceLeDiff, Nat.reduceLT, Nat.reduceMul, Nat.reduceSub, ↓reduceIte, Int.reduceLT, Int.reduceLE, Int.reduceNeg, Int.reduceAdd, Int.reduceEq, Nat.reduceBneDiff, Nat.reduceBEq, Int.reduceToNat, Int.reduceMul, Int.reduceSub, Int.reduceBEq, Int.reduceBNe, g10, g11, g0, g1, c1, wi, wk, hA, a1r, a2r, u1r, u2r, l1r, l2r, x1r, x2r, uI_cells, uI_cell, ft]
      exact IH (k2 + 1 - (i2 + 1)) _ _ (by omega) ⟨i2 + 1, k2, _, rfl, by omega, by omega, by omega, by simp only [Tr.get_set, Nat.reduceEqDiff, ↓reduceIte, Int.cast_ofNat_Int], by simp only [Tr.get_set, Nat.reduceEqDiff, ↓reduceIte, Int.cast_ofNat_Int], by simp only [Tr.get_set, Nat.reduceEqDiff, ↓reduceIte, Int.cast_ofNat_Int, g0], by simp only [Tr.get_set, Nat.reduceEqDiff, ↓reduceIte, Int.cast_ofNat_Int, g1], arr_put _ _ _, by rw [swp_size]; exact hd, he, f1.put (.inl rfl) _, hn1⟩
  clear g0 g1 g10 g11
  rintro ts s3 ⟨g0, g1, g11, hm1, hm2, hd3, hA3, f3, n3⟩
  generalize Go.Sort.partLoop lt a (i + 1) k d2 = r at g11 hm1 hm2 hd3 hA3 ⊢
  obtain ⟨m, d3⟩ := r
  dsimp only at g11 hm1 hm2 hd3 hA3 ⊢
  have a1t := ar_get (d := d3) (i := m) (by omega)
  have a2t := ar_get (d := d3) (i := a) (by omega)
  have u1t := ar_set (d := d3) (i := m) (by omega) d3[a]!
  have u2t := ar_swp (d := d3) (i := m) (j := a) (by omega)
  have l1t : m + 1 ≤ (ar d3).length := by rw [ar_len]; omega
  have l2t : a + 1 ≤ (ar (d3.setIfInBounds m d3[a]!)).length := by rw [ar_len, set_size]; omega
  have x1t := idxA (p := p) (n := n) (i := m) (by omega)
  have x2t := idxA (p := p) (n := n) (i := a) (by omega)
  simp -implicitDefEqProofs only [go_sem, Wk_block, Wk_drawnC, reduceCtorEq, Nat.reduceEqDiff, Nat.reduceAdd, Nat.reduceLeDiff, Nat.reduceLT, Nat.reduceMul, Nat.reduceSub, ↓reduceIte, Int.reduceLT, Int.reduceLE, Int.reduceNeg, Int.reduceAdd, Int.reduceEq, Nat.reduceBneDiff, Nat.reduceBEq, Int.reduceToNat, Int.reduceMul, Int.reduceSub, Int.reduceBEq, Int.reduceBNe, g11, g0, g1, hA3, a1t, a2t, u1t, u2t, l1t, l2t, x1t, x2t, uI_cells, uI_cell, ft]
  exact ⟨_, rfl, arr_put _ _ _, f3.put (.inl rfl) _, n3⟩

theorem PartEq_run {d0 : Array Int} {n a b v p : Nat} {s : St} (hp : Arr s p d0) (hn : d0.size = n) (hav : a ≤ v) (hvb : v < b) (hbn : b ≤ n) (hn9 : n < 1000000) :
    Wf mm 50 [.slice p 0 n n true, .int .i64 (a : Int), .int .i64 (b : Int), .int .i64 (v : Int)] s fun w s' => w = .int .i64 ((Go.Sort.partitionEqual lt d0 a b v).1 : Int) ∧ Arr s' p (Go.Sort.partitionEqual lt d0 a b v).2 ∧ FrX p s s' ∧ s'.next = s.next := by
  refine Wf_enter ft50 (sm (by decide)) (by rfl) ?_
  have ft : (false == true) = false := rfl
  unfold Go.Sort.partitionEqual
  obtain ⟨h, rfl⟩ : ∃ h, b = h + 1 := ⟨b - 1, by omega⟩
  have wb := pred_in (j := h) (by omega)
  have wa := succ_in (j := a) (by omega)
  have fr := FrX.refl p s
  have nr : s.next = s.next := rfl
  have a1q := ar_get (d := d0) (i := a) (by omega)
  have a2q := ar_get (d := d0) (i := v) (by omega)
  have u1q := ar_set (d := d0) (i := a) (by omega) d0[v]!
  have u2q := ar_swp (d := d0) (i := a) (j := v) (by omega)
  have l1q : a + 1 ≤ (ar d0).length := by rw [ar_len]; omega
  have l2q : v + 1 ≤ (ar (d0.setIfInBounds a d0[v]!)).length := by rw [ar_len, set_size]; omega
  have x1q := idxA (p := p) (n := n) (i := a) (by omega)
  have x2q := idxA (p := p) (n := n) (i := v) (by omega)
  simp -implicitDefEqProofs only [go_sem, Wk_block, Wk_drawnC, reduceCtorEq, Nat.reduceEqDiff, Nat.reduceAdd, Nat.reduceLeDiff, Nat.reduceLT, Nat.reduceMul, Nat.reduceSub, ↓reduceIte, Int.reduceLT, Int.reduceLE, Int.reduceNeg, Int.reduceAdd, Int.reduceEq, Nat.reduceBneDiff, Nat.reduceBEq, Int.reduceToNat, Int.reduceMul, Int.reduceSub, Int.reduceBEq, Int.reduceBNe, fd50, wb, wa, hp, a1q, a2q, u1q, u2q, l1q, l2q, x1q, x2q, uI_cells, uI_cell, ft]
  obtain ⟨s1, hs1⟩ : ∃ x, St.put s p (.cells (ar (Go.Sort.swp d0 a v)) true false 1) = x := ⟨_, rfl⟩
  rw [hs1]
  have fs1 : FrX p s s1 := by rw [← hs1]; exact FrX.put (by assumption) (.inl rfl) _
  have ns1 : s1.next = s.next := by rw [← hs1]; assumption
  have hA1 : Arr s1 p (Go.Sort.swp d0 a v) := by rw [← hs1]; exact arr_put _ _ _
  have hd1 : (Go.Sort.swp d0 a v).size = n := by rw [swp_size]; assumption
  rw [Nat.add_sub_cancel]
  generalize Go.Sort.swp d0 a v = d1 at hA1 hd1 ⊢
  refine Wk_loop_post (fun ts s' => ts.get 9 = some (.int .i64 ((Go.Sort.partEqLoop lt a (a + 1) h d1).1 : Int)) ∧ Arr s' p (Go.Sort.partEqLoop lt a (a + 1) h d1).2 ∧ FrX p s s' ∧ s'.next = s.next) ?_ ?_
  · refine loop_ind (fun m ts s' => ∃ (i j : Nat) (d : Array Int), m = j + 1 - i ∧ a < i ∧ i ≤ j + 1 ∧ j ≤ h ∧ ts.get 9 = some (.int .i64 (i : Int)) ∧ ts.get 10 = some (.int .i64 (j : Int)) ∧ ts.get 0 = some (.slice p 0 n n true) ∧ ts.get 1 = some (.int .i64 (a : Int)) ∧ Arr s' p d ∧ d.size = n ∧
      Go.Sort.partEqLoop lt a i j d = Go.Sort.partEqLoop lt a (a + 1) h d1 ∧ FrX p s s' ∧ s'.next = s.next) ?_ (n := h + 1 - (a + 1))
      ⟨a + 1, h, d1, rfl, by omega, by omega, by omega, by simp only [Tr.get_set, Nat.reduceEqDiff, ↓reduceIte, Int.cast_ofNat_Int], by simp only [Tr.get_set, Nat.reduceEqDiff, ↓reduceIte, Int.cast_ofNat_Int], by simp only [Tr.get_set, Nat.reduceEqDiff, ↓reduceIte, Int.cast_ofNat_Int], by simp only [Tr.get_set, Nat.reduceEqDiff, ↓reduceIte, Int.cast_ofNat_Int], hA1, hd1, rfl, fs1, ns1⟩
    clear hA1 fs1 ns1 hs1 hd1
    rintro m ts s3 ⟨i, j, d, rfl, hi, hij, hj, g9, g10, g0, g1, hA, hd, he, f1, hn1⟩ IH
    rw [Go.Sort.partEqLoop_eq] at he
    have r0 := Go.Sort.scanUp_spec (fun x => !lt d[a]! x) d j _ i rfl
    simp -implicitDefEqProofs only [go_sem, Wk_block, Wk_drawnC, reduceCtorEq, Nat.reduceEqDiff, Nat.reduceAdd, Nat.reduceLeDiff, Nat.reduceLT, Nat.reduceMul, Nat.reduceSub, ↓reduceIte, Int.reduceLT, Int.reduceLE, Int.reduceNeg, Int.reduceAdd, Int.reduceEq, Nat.reduceBneDiff, Nat.reduceBEq, Int.reduceToNat, Int.reduceMul, Int.reduceSub, Int.reduceBEq, Int.reduceBNe, g9, g10, g0, g1, ft]
    refine Wk_loop_post (fun ts s' => ts.get 9 = some (.int .i64 ((Go.Sort.scanUp (fun x => !lt d[a]! x) d j i : Nat) : Int)) ∧ ts.get 10 = some (.int .i64 (j : Int)) ∧ ts.get 0 = some (.slice p 0 n n true) ∧ ts.get 1 = some (.int .i64 (a : Int)) ∧ s3 = s') ?_ ?_
    · refine loop_ind (fun m ts s' => ∃ k : Nat, m = j + 1 - k ∧ i ≤ k ∧ ts.get 9 = some (.int .i64 (k : Int)) ∧ ts.get 10 = some (.int .i64 (j : Int)) ∧ ts.get 0 = some (.slice p 0 n n true) ∧ ts.get 1 = some (.int .i64 (a : Int)) ∧ Go.Sort.scanUp (fun x => !lt d[a]! x) d j k = Go.Sort.scanUp (fun x => !lt d[a]! x) d j i ∧ s3 = s') ?_ (n := j + 1 - i)
        ⟨i, rfl, Nat.le_refl _, by simp only [Tr.get_set, Nat.reduceEqDiff, ↓reduceIte, Int.cast_ofNat_Int, g9], by simp only [Tr.get_set, Nat.reduceEqDiff, ↓reduceIte, Int.cast_ofNat_Int, g10], by simp only [Tr.get_set, Nat.reduceEqDiff, ↓reduceIte, Int.cast_ofNat_Int, g0], by simp only [Tr.get_set, Nat.reduceEqDiff, ↓reduceIte, Int.cast_ofNat_Int, g1], rfl, rfl⟩
      clear g9 g10 g0 g1
      rintro _ ts s9 ⟨k, rfl, hk, g9, g10, g0, g1, he, rfl⟩ IH
      rw [scanUp_eq] at he
      by_cases hkj : k ≤ j
      · have c1 : decide ((k : Int) ≤ (j : Int)) = true := decide_eq_true (by omega)
        have c2 : decide (k ≤ j) = true := decide_eq_true hkj
        have wk := succ_in (j := k) (by omega)
        have x1 := idxA (p := p) (n := n) (i := k) (by omega)
        have x0 := idxA (p := p) (n := n) (i := a) (by omega)
        have a1 := ar_get (d := d) (i := k) (by omega)
        have a0 := ar_get (d := d) (i := a) (by omega)
        cases hc : lt d[a]! d[k]!
        · simp -implicitDefEqProofs only [go_sem, Wk_block, Wk_drawnC, reduceCtorEq, Nat.reduceEqDiff, Nat.reduceAdd, Nat.reduceLeDiff, Nat.reduceLT, Nat.reduceMul, Nat.reduceSub, ↓reduceIte, Int.reduceLT, Int.reduceLE, Int.reduceNeg, Int.reduceAdd, Int.reduceEq, Nat.reduceBneDiff, Nat.reduceBEq, Int.reduceToNat, Int.reduceMul, Int.reduceSub, Int.reduceBEq, Int.reduceBNe, g9, g10, g0, g1, c1, c2, x1, x0, hA, a1, a0, wk, Wl_eq (less_run _ _ _), hc, Bool.not_true, Bool.not_false, ft]
          rw [c2, hc, if_pos (by simp)] at he
          refine IH (j + 1 - (k + 1)) _ _ (by omega) ⟨k + 1, rfl, by omega, ?_, ?_, ?_, ?_, he, rfl⟩
          · simp only [Tr.get_set, Nat.reduceEqDiff, ↓reduceIte, Int.cast_ofNat_Int]
          · simp only [Tr.get_set, Nat.reduceEqDiff, ↓reduceIte, Int.cast_ofNat_Int, g10]
          · simp only [Tr.get_set, Nat.reduceEqDiff, ↓reduceIte, Int.cast_ofNat_Int, g0]
          · simp only [Tr.get_set, Nat.reduceEqDiff, ↓reduceIte, Int.cast_ofNat_Int, g1]
        · simp -implicitDefEqProofs only [go_sem, Wk_block, Wk_drawnC, reduceCtorEq, Nat.reduceEqDiff, Nat.reduceAdd, Nat.reduceLeDiff, Nat.reduceLT, Nat.reduceMul, Nat.reduceSub, ↓reduceIte, Int.reduceLT, Int.reduceLE, Int.reduceNeg, Int.reduceAdd, Int.reduceEq, Nat.reduceBneDiff, Nat.reduceBEq, Int.reduceToNat, Int.reduceMul, Int.reduceSub, Int.reduceBEq, Int.reduceBNe, g9, g10, g0, g1, c1, c2, x1, x0, hA, a1, a0, wk, Wl_eq (less_run _ _ _), hc, Bool.not_true, Bool.not_false, ft]
          rw [Wr_nil]
          rw [c2, hc, if_neg (by simp)] at he
          refine ⟨.inr rfl, rfl, ?_, ?_, ?_, ?_, rfl⟩
          · rw [← he]; simp only [Tr.get_set, Nat.reduceEqDiff, ↓reduceIte, Int.cast_ofNat_Int, g9]
          · simp only [Tr.get_set, Nat.reduceEqDiff, ↓reduceIte, Int.cast_ofNat_Int, g10]
          · simp only [Tr.get_set, Nat.reduceEqDiff, ↓reduceIte, Int.cast_ofNat_Int, g0]
          · simp only [Tr.get_set, Nat.reduceEqDiff, ↓reduceIte, Int.cast_ofNat_Int, g1]
      · have c1 : decide ((k : Int) ≤ (j : Int)) = false := decide_eq_false (by omega)
        have c2 : decide (k ≤ j) = false := decide_eq_false hkj
        rw [c2, Bool.false_and, if_neg (by simp)] at he
        simp -implicitDefEqProofs only [go_sem, Wk_block, Wk_drawnC, reduceCtorEq, Nat.reduceEqDiff, Nat.reduceAdd, Nat.reduceLeDiff, Nat.reduceLT, Nat.reduceMul, Nat.reduceSub, ↓reduceIte, Int.reduceLT, Int.reduceLE, Int.reduceNeg, Int.reduceAdd, Int.reduceEq, Nat.reduceBneDiff, Nat.reduceBEq, Int.reduceToNat, Int.reduceMul, Int.reduceSub, Int.reduceBEq, Int.reduceBNe, g9, g10, g0, g1, c1, c2, ft]
        rw [Wr_nil]
        refine ⟨.inr rfl, rfl, ?_, ?_, ?_, ?_, rfl⟩
        · rw [← he]; simp only [Tr.get_set, Nat.reduceEqDiff, ↓reduceIte, Int.cast_ofNat_Int, g9]
        · simp only [Tr.get_set, Nat.reduceEqDiff, ↓reduceIte, Int.cast_ofNat_Int, g10]
        · simp only [Tr.get_set, Nat.reduceEqDiff, ↓reduceIte, Int.cast_ofNat_Int, g0]
        · simp only [Tr.get_set, Nat.reduceEqDiff, ↓reduceIte, Int.cast_ofNat_Int, g1]
    clear g9 g10 g0 g1
    rintro ts s9 ⟨g9, g10, g0, g1, rfl⟩
    generalize Go.Sort.scanUp (fun x => !lt d[a]! x) d j i = i2 at r0 g9 he ⊢
    have r1 := Go.Sort.scanDown_spec (fun x => lt d[a]! x) d i2 j
    simp -implicitDefEqProofs only [go_sem, Wk_block, Wk_drawnC, reduceCtorEq, Nat.reduceEqDiff, Nat.reduceAdd, Nat.reduceLeDiff, Nat.reduceLT, Nat.reduceMul, Nat.reduceSub, ↓reduceIte, Int.reduceLT, Int.reduceLE, Int.reduceNeg, Int.reduceAdd, Int.reduceEq, Nat.reduceBneDiff, Nat.reduceBEq, Int.reduceToNat, Int.reduceMul, Int.reduceSub, Int.reduceBEq, Int.reduceBNe, g9, g10, g0, g1, ft]
    refine Wk_loop_post (fun ts s' => ts.get 10 = some (.int .i64 ((Go.Sort.scanDown (fun x => lt d[a]! x) d i2 j : Nat) : Int)) ∧ ts.get 9 = some (.int .i64 (i2 : Int)) ∧ ts.get 0 = some (.slice p 0 n n true) ∧ ts.get 1 = some (.int .i64 (a : Int)) ∧ s3 = s') ?_ ?_
    · refine loop_ind (fun m ts s' => ∃ k : Nat, m = k ∧ k ≤ j ∧ ts.get 10 = some (.int .i64 (k : Int)) ∧ ts.get 9 = some (.int .i64 (i2 : Int)) ∧ ts.get 0 = some (.slice p 0 n n true) ∧ ts.get 1 = some (.int .i64 (a : Int)) ∧ Go.Sort.scanDown (fun x => lt d[a]! x) d i2 k = Go.Sort.scanDown (fun x => lt d[a]! x) d i2 j ∧ s3 = s') ?_ (n := j)
        ⟨j, rfl, Nat.le_refl _, by simp only [Tr.get_set, Nat.reduceEqDiff, ↓reduceIte, Int.cast_ofNat_Int, g10], by simp only [Tr.get_set, Nat.reduceEqDiff, ↓reduceIte, Int.cast_ofNat_Int, g9], by simp only [Tr.get_set, Nat.reduceEqDiff, ↓reduceIte, Int.cast_ofNat_Int, g0], by simp only [Tr.get_set, Nat.reduceEqDiff, ↓reduceIte, Int.cast_ofNat_Int, g1], rfl, rfl⟩
      clear g10 g9 g0 g1
      rintro k ts s9 ⟨_, rfl, hk, g10, g9, g0, g1, he, rfl⟩ IH
      by_cases hkj : i2 ≤ k
      · obtain ⟨m, hm⟩ : ∃ m, k = m + 1 := ⟨k - 1, by omega⟩
        rw [hm, scanDown_eq, ← hm] at he
        have c1 : decide ((i2 : Int) ≤ (k : Int)) = true := decide_eq_true (by omega)
        have c2 : decide (i2 ≤ k) = true := decide_eq_true hkj
        have wk := pred_of hm (by omega)
        have x1 := idxA (p := p) (n := n) (i := k) (by omega)
        have x0 := idxA (p := p) (n := n) (i := a) (by omega)
        have a1 := ar_get (d := d) (i := k) (by omega)
        have a0 := ar_get (d := d) (i := a) (by omega)
        cases hc : lt d[a]! d[k]!
        · simp -implicitDefEqProofs only [go_sem, Wk_block, Wk_drawnC, reduceCtorEq, Nat.reduceEqDiff, Nat.reduceAdd, Nat.reduceLeDiff, Nat.reduceLT, Nat.reduceMul, Nat.reduceSub, ↓reduceIte, Int.reduceLT, Int.reduceLE, Int.reduceNeg, Int.reduceAdd, Int.reduceEq, Nat.reduceBneDiff, Nat.reduceBEq, Int.reduceToNat, Int.reduceMul, Int.reduceSub, Int.reduceBEq, Int.reduceBNe, g10, g9, g0, g1, c1, c2, x1, x0, hA, a1, a0, wk, Wl_eq (less_run _ _ _), hc, Bool.not_true, Bool.not_false, ft]
          rw [Wr_nil]
          rw [c2, hc, if_neg (by simp)] at he
          refine ⟨.inr rfl, rfl, ?_, ?_, ?_, ?_, rfl⟩
          · rw [← he]; simp only [Tr.get_set, Nat.reduceEqDiff, ↓reduceIte, Int.cast_ofNat_Int, g10]
          · simp only [Tr.get_set, Nat.reduceEqDiff, ↓reduceIte, Int.cast_ofNat_Int, g9]
          · simp only [Tr.get_set, Nat.reduceEqDiff, ↓reduceIte, Int.cast_ofNat_Int, g0]
          · simp only [Tr.get_set, Nat.reduceEqDiff, ↓reduceIte, Int.cast_ofNat_Int, g1]
        · simp -implicitDefEqProofs only [go_sem, Wk_block, Wk_drawnC, reduceCtorEq, Nat.reduceEqDiff, Nat.reduceAdd, Nat.reduceLeDiff, Nat.reduceLT, Nat.reduceMul, Nat.reduceSub, ↓reduceIte, Int.reduceLT, Int.reduceLE, Int.reduceNeg, Int.reduceAdd, Int.reduceEq, Nat.reduceBneDiff, Nat.reduceBEq, Int.reduceToNat, Int.reduceMul, Int.reduceSub, Int.reduceBEq, Int.reduceBNe, g10, g9, g0, g1, c1, c2, x1, x0, hA, a1, a0, wk, Wl_eq (less_run _ _ _), hc, Bool.not_true, Bool.not_false, ft]
          rw [c2, hc, if_pos (by simp)] at he
          refine IH m _ _ (by omega) ⟨m, rfl, by omega, ?_, ?_, ?_, ?_, he, rfl⟩
          · simp only [Tr.get_set, Nat.reduceEqDiff, ↓reduceIte, Int.cast_ofNat_Int]
          · simp only [Tr.get_set, Nat.reduceEqDiff, ↓reduceIte, Int.cast_ofNat_Int, g9]
          · simp only [Tr.get_set, Nat.reduceEqDiff, ↓reduceIte, Int.cast_ofNat_Int, g0]
          · simp only [Tr.get_set, Nat.reduceEqDiff, ↓reduceIte, Int.cast_ofNat_Int, g1]
      · have c1 : decide ((i2 : Int) ≤ (k : Int)) = false := decide_eq_false (by omega)
        have c2 : decide (i2 ≤ k) = false := decide_eq_false hkj
        rw [scanDown_lt (by omega)] at he
        simp -implicitDefEqProofs only [go_sem, Wk_block, Wk_drawnC, reduceCtorEq, Nat.reduceEqDiff, Nat.reduceAdd, Nat.reduceLeDiff, Nat.reduceLT, Nat.reduceMul, Nat.reduceSub, ↓reduceIte, Int.reduceLT, Int.reduceLE, Int.reduceNeg, Int.reduceAdd, Int.reduceEq, Nat.reduceBneDiff, Nat.reduceBEq, Int.reduceToNat, Int.reduceMul, Int.reduceSub, Int.reduceBEq, Int.reduceBNe, g10, g9, g0, g1, c1, c2, ft]
        rw [Wr_nil]
        refine ⟨.inr rfl, rfl, ?_, ?_, ?_, ?_, rfl⟩
        · rw [← he]; simp only [Tr.get_set, Nat.reduceEqDiff, ↓reduceIte, Int.cast_ofNat_Int, g10]
        · simp only [Tr.get_set, Nat.reduceEqDiff, ↓reduceIte, Int.cast_ofNat_Int, g9]
        · simp only [Tr.get_set, Nat.reduceEqDiff, ↓reduceIte, Int.cast_ofNat_Int, g0]
        · simp only [Tr.get_set, Nat.reduceEqDiff, ↓reduceIte, Int.cast_ofNat_Int, g1]
    clear g10 g9 g0 g1
    rintro ts s9 ⟨g10, g9, g0, g1, rfl⟩
    generalize Go.Sort.scanDown (fun x => lt d[a]! x) d i2 j = j2 at r1 g10 he ⊢
    have rij := r1.2.1 (r0.2.1 (by omega))
    by_cases hij2 : i2 > j2
    · have c1 : decide (j2 < i2) = true := decide_eq_true (by omega)
      rw [if_pos hij2] at he
      simp -implicitDefEqProofs only [go_sem, Wk_block, Wk_drawnC, reduceCtorEq, Nat.reduceEqDiff, Nat.reduceAdd, Nat.reduceLeDiff, Nat.reduceLT, Nat.reduceMul, Nat.reduceSub, ↓reduceIte, Int.reduceLT, Int.reduceLE, Int.reduceNeg, Int.reduceAdd, Int.reduceEq, Nat.reduceBneDiff, Nat.reduceBEq, Int.reduceToNat, Int.reduceMul, Int.reduceSub, Int.reduceBEq, Int.reduceBNe, g9, g10, c1, ft]
      rw [Wr_nil]
      rw [← he]
      exact ⟨.inr rfl, rfl, by simp only [Tr.get_set, Nat.reduceEqDiff, ↓reduceIte, Int.cast_ofNat_Int, g9], hA, f1, hn1⟩
    · have c1 : decide (j2 < i2) = false := decide_eq_false (by omega)
      rw [if_neg hij2] at he
      have hne : i2 < j2 := by
        rcases Nat.lt_or_ge i2 j2 with h1 | h1
        · exact h1
        · have e : i2 = j2 := by omega
          have e1 := r0.2.2.2 (by omega)
          have e2 := r1.2.2.2 (by omega) (by omega)
          rw [e] at e1
          first | (rw [e1] at e2; exact absurd e2 (by decide)) | (rw [e2] at e1; exact absurd e1 (by decide))
      obtain ⟨k2, hk2⟩ : ∃ k, j2 = k + 1 := ⟨j2 - 1, by omega⟩
      have wi := succ_in (j := i2) (by omega)
      have wk := pred_of hk2 (by omega)
      rw [show j2 - 1 = k2 by omega] at he
      have a1r := ar_get (d := d) (i := i2) (by omega)
      have a2r := ar_get (d := d) (i := j2) (by omega)
      have u1r := ar_set (d := d) (i := i2) (by omega) d[j2]!
      have u2r := ar_swp (d := d) (i := i2) (j := j2) (by omega)
      have l1r : i2 + 1 ≤ (ar d).length := by rw [ar_len]; omega
      have l2r : j2 + 1 ≤ (ar (d.setIfInBounds i2 d[j2]!)).length := by rw [ar_len, set_size]; omega
      have x1r := idxA (p := p) (n := n) (i := i2) (by omega)
      have x2r := idxA (p := p) (n := n) (i := j2) (by omega)
      simp -implicitDefEqProofs only [go_sem, Wk_block, Wk_drawnC, reduceCtorEq, Nat.reduceEqDiff, Nat.reduceAdd, Nat.reduceLeDiff, Nat.reduceLT, Nat.reduceMul, Nat.reduceSub, ↓reduceIte, Int.reduceLT, Int.reduceLE, Int.reduceNeg, Int.reduceAdd, Int.reduceEq, Nat.reduceBneDiff, Nat.reduceBEq, Int.reduceToNat, Int.reduceMul, Int.reduceSub, Int.reduceBEq, Int.reduceBNe, g9, g10, g0, g1, c1, wi, wk, hA, a1r, a2r, u1r, u2r, l1r, l2r, x1r, x2r, uI_cells, uI_cell, ft]
      exact IH (k2 + 1 - (i2 + 1)) _ _ (by omega) ⟨i2 + 1, k2, _, rfl, by omega, by omega, by omega, by simp only [Tr.get_set, Nat.reduceEqDiff, ↓reduceIte, Int.cast_ofNat_Int], by simp only [Tr.get_set, Nat.reduceEqDiff, ↓reduceIte, Int.cast_ofNat_Int], by simp only [Tr.get_set, Nat.reduceEqDiff, ↓reduceIte, Int.cast_ofNat_Int, g0], by simp only [Tr.get_set, Nat.reduceEqDiff, ↓reduceIte, Int.cast_ofNat_Int, g1], arr_put _ _ _, by rw [swp_size]; exact hd, he, f1.put (.inl rfl) _, hn1⟩
  rintro ts s3 ⟨g9, hA3, f3, n3⟩
  simp -implicitDefEqProofs only [go_sem, Wk_block, Wk_drawnC, reduceCtorEq, Nat.reduceEqDiff, Nat.reduceAdd, Nat.reduceLeDiff, Nat.reduceLT, Nat.reduceMul, Nat.reduceSub, ↓reduceIte, Int.reduceLT, Int.reduceLE, Int.reduceNeg, Int.reduceAdd, Int.reduceEq, Nat.reduceBneDiff, Nat.reduceBEq, Int.reduceToNat, Int.reduceMul, Int.reduceSub, Int.reduceBEq, Int.reduceBNe, g9, ft]
  exact ⟨hA3, f3, n3⟩

end Go.Proofs.Ytjejgnbdlfkenaa.Base
namespace Go.Proofs.Ytjejgnbdlfkenaa.Base
open D
set_option linter.unusedSimpArgs false
set_option linter.unusedVariables false
set_option maxRecDepth 10000

theorem Wi_cut {M : Mach} {ro : Option Nat} {k : List Fk} {v : Bool} {a b : PC} {ts : Tr AV} {ds : List Nat} {s : St} {Q : Post} (I : Tr AV → St → Prop)
    (h1 : v = true → Wk M ro [] a ts ds s fun x ts' ds' s' => x = .normal ∧ ds' = ds ∧ I ts' s') (h2 : v = false → Wk M ro [] b ts ds s fun x ts' ds' s' => x = .normal ∧ ds' = ds ∧ I ts' s')
    (hr : ∀ ts' s', I ts' s' → Wr M ro k .normal ts' ds s' Q) : Wi M ro (some (.bool v)) k a b ts ds s Q := Wi_split (fun h => Wk_cut I (h1 h) hr) (fun h => Wk_cut I (h2 h) hr)
/-- A loop by itself. -/
theorem Wk_loop_post0 {M : Mach} {ro : Option Nat} {id : Nat} {a : PC} {ts : Tr AV} {ds : List Nat} {s : St} (Pp : Tr AV → St → Prop) (h : Wk M ro [] (.loop a) ts ds s fun x ts' ds' s' => (x = .normal ∨ x = .exit id) ∧ ds' = ds ∧ Pp ts' s') :
    Wk M ro [.bl id] (.loop a) ts ds s fun x ts' ds' s' => x = .normal ∧ ds' = ds ∧ Pp ts' s' :=
  Wk_loop_post Pp h fun ts' s' hp => by rw [Wr_nil]; exact ⟨rfl, rfl, hp⟩
theorem scanSorted_eq (d : Array Int) (b i : Nat) : Go.Sort.scanSorted lt d b i = if decide (i < b) && !lt d[i]! d[i - 1]! then Go.Sort.scanSorted lt d b (i + 1) else i := by rw [Go.Sort.scanSorted]
theorem shiftDown_succ (j : Nat) (d : Array Int) : Go.Sort.shiftDown lt (j + 1) d = if !lt d[j + 1]! d[j]! then d else Go.Sort.shiftDown lt j (Go.Sort.swp d (j + 1) j) := rfl
theorem shiftUp_eq (b j : Nat) (d : Array Int) : Go.Sort.shiftUp lt b j d = if j < b then (if !lt d[j]! d[j - 1]! then d else Go.Sort.shiftUp lt b (j + 1) (Go.Sort.swp d j (j - 1))) else d := by rw [Go.Sort.shiftUp]

theorem Pins_run {d0 : Array Int} {n a b p : Nat} {s : St} (hp : Arr s p d0) (hn : d0.size = n) (hab : a < b) (hbn : b ≤ n) (hn9 : n < 1000000) :
    Wf mm 48 [.slice p 0 n n true, .int .i64 (a : Int), .int .i64 (b : Int)] s fun w s' => w = .bool (Go.Sort.partialInsertionSort lt d0 a b).2 ∧ Arr s' p (Go.Sort.partialInsertionSort lt d0 a b).1 ∧ FrX p s s' ∧ s'.next = s.next := by
  refine Wf_enter ft48 (sm (by decide)) (by rfl) ?_
  have ft : (false == true) = false := rfl
  have wa := succ_in (j := a) (by omega)
  simp -implicitDefEqProofs only [go_sem, Wk_block, Wk_drawnC, reduceCtorEq, Nat.reduceEqDiff, Nat.reduceAdd, Nat.reduceLeDiff, Nat.reduceLT, Nat.reduceMul, Nat.reduceSub, ↓reduceIte, Int.reduceLT, Int.reduceLE, Int.reduceNeg, Int.reduceAdd, Int.reduceEq, Nat.reduceBneDiff, Nat.reduceBEq, Int.reduceToNat, Int.reduceMul, Int.reduceSub, Int.reduceBEq, Int.reduceBNe, fd48, wa, ft]
  refine loop_ind (fun m ts s' => ∃ (c i : Nat) (d : Array Int), m + c = 5 ∧ a < i ∧ i ≤ b ∧ ts.get 8 = some (.int .i64 (c : Int)) ∧ ts.get 7 = some (.int .i64 (i : Int)) ∧ ts.get 2 = some (.int .i64 (b : Int)) ∧ ts.get 1 = some (.int .i64 (a : Int)) ∧ ts.get 0 = some (.slice p 0 n n true) ∧
    Arr s' p d ∧ d.size = n ∧ Go.Sort.partialIns lt a b m i d = Go.Sort.partialInsertionSort lt d0 a b ∧ FrX p s s' ∧ s'.next = s.next) ?_ (n := 5)
    ⟨0, a + 1, d0, rfl, by omega, by omega, by simp only [Tr.get_set, Nat.reduceEqDiff, ↓reduceIte, Int.cast_ofNat_Int], by simp only [Tr.get_set, Nat.reduceEqDiff, ↓reduceIte, Int.cast_ofNat_Int], by simp only [Tr.get_set, Nat.reduceEqDiff, ↓reduceIte, Int.cast_ofNat_Int], by simp only [Tr.get_set, Nat.reduceEqDiff, ↓reduceIte, Int.cast_ofNat_Int], by simp only [Tr.get_set, Nat.reduceEqDiff, ↓reduceIte, Int.cast_ofNat_Int], hp, hn, rfl, FrX.refl _ _, rfl⟩
  rintro m ts s1 ⟨c, i, d, hmc, hi, hib, g8, g7, g2, g1, g0, hA, hd, he, f1, hn1⟩ IH
  cases m with
  | zero =>
    obtain rfl : c = 5 := by omega
    have c1 : decide (((5 : Nat) : Int) < 5) = false := rfl
    simp -implicitDefEqProofs only [go_sem, Wk_block, Wk_drawnC, reduceCtorEq, Nat.reduceEqDiff, Nat.reduceAdd, Nat.reduceLeDiff, Nat.reduceLT, Nat.reduceMul, Nat.reduceSub, ↓reduceIte, Int.reduceLT, Int.reduceLE, Int.reduceNeg, Int.reduceAdd, Int.reduceEq, Nat.reduceBneDiff, Nat.reduceBEq, Int.reduceToNat, Int.reduceMul, Int.reduceSub, Int.reduceBEq, Int.reduceBNe, g8, c1, ft]
    rw [← he]
    exact ⟨rfl, hA, f1, hn1⟩
  | succ m =>
  have c1 : decide ((c : Int) < 5) = true := decide_eq_true (by omega)
  have wc := succ_in (j := c) (by omega)
  simp -implicitDefEqProofs only [go_sem, Wk_block, Wk_drawnC, reduceCtorEq, Nat.reduceEqDiff, Nat.reduceAdd, Nat.reduceLeDiff, Nat.reduceLT, Nat.reduceMul, Nat.reduceSub, ↓reduceIte, Int.reduceLT, Int.reduceLE, Int.reduceNeg, Int.reduceAdd, Int.reduceEq, Nat.reduceBneDiff, Nat.reduceBEq, Int.reduceToNat, Int.reduceMul, Int.reduceSub, Int.reduceBEq, Int.reduceBNe, g8, c1, ft]
  refine Wk_loop_post (fun ts s' => ∃ k : Nat, Go.Sort.scanSorted lt d b i = k ∧ i ≤ k ∧ k ≤ b ∧ ts.get 8 = some (.int .i64 (c : Int)) ∧ ts.get 7 = some (.int .i64 (k : Int)) ∧ ts.get 2 = some (.int .i64 (b : Int)) ∧ ts.get 1 = some (.int .i64 (a : Int)) ∧ ts.get 0 = some (.slice p 0 n n true) ∧ s1 = s') ?_ ?_
  · refine loop_ind (fun m ts s' => ∃ k : Nat, m = b - k ∧ i ≤ k ∧ k ≤ b ∧ ts.get 8 = some (.int .i64 (c : Int)) ∧ ts.get 7 = some (.int .i64 (k : Int)) ∧ ts.get 2 = some (.int .i64 (b : Int)) ∧ ts.get 1 = some (.int .i64 (a : Int)) ∧ ts.get 0 = some (.slice p 0 n n true) ∧
      Go.Sort.scanSorted lt d b k = Go.Sort.scanSorted lt d b i ∧ s1 = s') ?_ (n := b - i)
      ⟨i, rfl, Nat.le_refl _, hib, by simp only [Tr.get_set, Nat.reduceEqDiff, ↓reduceIte, Int.cast_ofNat_Int, g8], by simp only [Tr.get_set, Nat.reduceEqDiff, ↓reduceIte, Int.cast_ofNat_Int, g7], by simp only [Tr.get_set, Nat.reduceEqDiff, ↓reduceIte, Int.cast_ofNat_Int, g2], by simp only [Tr.get_set, Nat.reduceEqDiff, ↓reduceIte, Int.cast_ofNat_Int, g1], by simp only [Tr.get_set, Nat.reduceEqDiff, ↓reduceIte, Int.cast_ofNat_Int, g0], rfl, rfl⟩
    clear g8 g7 g2 g1 g0 he
    rintro _ ts s9 ⟨k, rfl, hk, hkb, g8, g7, g2, g1, g0, he, rfl⟩ IH2
    rw [scanSorted_eq] at he
    by_cases hlt : k < b
    · obtain ⟨l, hl⟩ : ∃ l, k = l + 1 := ⟨k - 1, by omega⟩
      have c2 : decide (k < b) = true := decide_eq_true hlt
      have wk := succ_in (j := k) (by omega)
      have wl := pred_of hl (by omega)
      have x1 := idxA (p := p) (n := n) (i := k) (by omega)
      have x0 := idxA (p := p) (n := n) (i := l) (by omega)
      have a1 := ar_get (d := d) (i := k) (by omega)
      have a0 := ar_get (d := d) (i := l) (by omega)
      rw [show k - 1 = l by omega, c2] at he
      cases hc : lt d[k]! d[l]!
      · simp -implicitDefEqProofs only [go_sem, Wk_block, Wk_drawnC, reduceCtorEq, Nat.reduceEqDiff, Nat.reduceAdd, Nat.reduceLeDiff, Nat.reduceLT, Nat.reduceMul, Nat.reduceSub, ↓reduceIte, Int.reduceLT, Int.reduceLE, Int.reduceNeg, Int.reduceAdd, Int.reduceEq, Nat.reduceBneDiff, Nat.reduceBEq, Int.reduceToNat, Int.reduceMul, Int.reduceSub, Int.reduceBEq, Int.reduceBNe, g7, g2, g0, c2, x1, x0, hA, a1, a0, wk, wl, Wl_eq (less_run _ _ _), hc, Bool.not_true, Bool.not_false, ft]
        rw [hc, if_pos (by simp)] at he
        exact IH2 (b - (k + 1)) _ _ (by omega) ⟨k + 1, rfl, by omega, by omega, by simp only [Tr.get_set, Nat.reduceEqDiff, ↓reduceIte, Int.cast_ofNat_Int, g8], by simp only [Tr.get_set, Nat.reduceEqDiff, ↓reduceIte, Int.cast_ofNat_Int], by simp only [Tr.get_set, Nat.reduceEqDiff, ↓reduceIte, Int.cast_ofNat_Int, g2], by simp only [Tr.get_set, Nat.reduceEqDiff, ↓reduceIte, Int.cast_ofNat_Int, g1], by simp only [Tr.get_set, Nat.reduceEqDiff, ↓reduceIte, Int.cast_ofNat_Int, g0], he, rfl⟩
      · simp -implicitDefEqProofs only [go_sem, Wk_block, Wk_drawnC, reduceCtorEq, Nat.reduceEqDiff, Nat.reduceAdd, Nat.reduceLeDiff, Nat.reduceLT, Nat.reduceMul, Nat.reduceSub, ↓reduceIte, Int.reduceLT, Int.reduceLE, Int.reduceNeg, Int.reduceAdd, Int.reduceEq, Nat.reduceBneDiff, Nat.reduceBEq, Int.reduceToNat, Int.reduceMul, Int.reduceSub, Int.reduceBEq, Int.reduceBNe, g7, g2, g0, c2, x1, x0, hA, a1, a0, wk, wl, Wl_eq (less_run _ _ _), hc, Bool.not_true, Bool.not_false, ft]
        rw [Wr_nil]
        rw [hc, if_neg (by simp)] at he
        exact ⟨.inr rfl, rfl, k, he.symm, hk, hkb, by simp only [Tr.get_set, Nat.reduceEqDiff, ↓reduceIte, Int.cast_ofNat_Int, g8], by simp only [Tr.get_set, Nat.reduceEqDiff, ↓reduceIte, Int.cast_ofNat_Int, g7], by simp only [Tr.get_set, Nat.reduceEqDiff, ↓reduceIte, Int.cast_ofNat_Int, g2], by simp only [Tr.get_set, Nat.reduceEqDiff, ↓reduceIte, Int.cast_ofNat_Int, g1], by simp only [Tr.get_set, Nat.reduceEqDiff, ↓reduceIte, Int.cast_ofNat_Int, g0], rfl⟩
    · have c2 : decide (k < b) = false := decide_eq_false hlt
      simp -implicitDefEqProofs only [go_sem, Wk_block, Wk_drawnC, reduceCtorEq, Nat.reduceEqDiff, Nat.reduceAdd, Nat.reduceLeDiff, Nat.reduceLT, Nat.reduceMul, Nat.reduceSub, ↓reduceIte, Int.reduceLT, Int.reduceLE, Int.reduceNeg, Int.reduceAdd, Int.reduceEq, Nat.reduceBneDiff, Nat.reduceBEq, Int.reduceToNat, Int.reduceMul, Int.reduceSub, Int.reduceBEq, Int.reduceBNe, g7, g2, c2, ft]
      rw [Wr_nil]
      rw [c2, Bool.false_and, if_neg (by simp)] at he
      exact ⟨.inr rfl, rfl, k, he.symm, hk, hkb, by simp only [Tr.get_set, Nat.reduceEqDiff, ↓reduceIte, Int.cast_ofNat_Int, g8], by simp only [Tr.get_set, Nat.reduceEqDiff, ↓reduceIte, Int.cast_ofNat_Int, g7], by simp only [Tr.get_set, Nat.reduceEqDiff, ↓reduceIte, Int.cast_ofNat_Int, g2], by simp only [Tr.get_set, Nat.reduceEqDiff, ↓reduceIte, Int.cast_ofNat_Int, g1], by simp only [Tr.get_set, Nat.reduceEqDiff, ↓reduceIte, Int.cast_ofNat_Int, g0], rfl⟩
  clear g8 g7 g2 g1 g0
  rintro ts _ ⟨k, hks, hik, hkb, g8, g7, g2, g1, g0, rfl⟩
  rw [Go.Sort.partialIns_succ, hks] at he
  by_cases hkb2 : k = b
  · have c2 : decide ((k : Int) = (b : Int)) = true := decide_eq_true (by omega)
    have c3 : decide (k = b) = true := decide_eq_true hkb2
    have c4 : ((k : Int) == (b : Int)) = true := by simp [hkb2]
    simp -implicitDefEqProofs only [go_sem, Wk_block, Wk_drawnC, reduceCtorEq, Nat.reduceEqDiff, Nat.reduceAdd, Nat.reduceLeDiff, Nat.reduceLT, Nat.reduceMul, Nat.reduceSub, ↓reduceIte, Int.reduceLT, Int.reduceLE, Int.reduceNeg, Int.reduceAdd, Int.reduceEq, Nat.reduceBneDiff, Nat.reduceBEq, Int.reduceToNat, Int.reduceMul, Int.reduceSub, Int.reduceBEq, Int.reduceBNe, g7, g2, c2, c3, c4, ft]
    rw [if_pos hkb2] at he
    rw [← he]
    exact ⟨rfl, hA, f1, hn1⟩
  have c2 : decide ((k : Int) = (b : Int)) = false := decide_eq_false (by omega)
  have c3 : decide (k = b) = false := decide_eq_false hkb2
  have c4 : ((k : Int) == (b : Int)) = false := by simp; omega
  have wab := sub_in (i := b) (j := a) (by omega) (by omega)
  rw [if_neg hkb2] at he
  by_cases h50 : b - a < 50
  · have c5 : decide (((b - a : Nat) : Int) < 50) = true := decide_eq_true (by omega)
    simp -implicitDefEqProofs only [go_sem, Wk_block, Wk_drawnC, reduceCtorEq, Nat.reduceEqDiff, Nat.reduceAdd, Nat.reduceLeDiff, Nat.reduceLT, Nat.reduceMul, Nat.reduceSub, ↓reduceIte, Int.reduceLT, Int.reduceLE, Int.reduceNeg, Int.reduceAdd, Int.reduceEq, Nat.reduceBneDiff, Nat.reduceBEq, Int.reduceToNat, Int.reduceMul, Int.reduceSub, Int.reduceBEq, Int.reduceBNe, g7, g2, g1, c2, c3, c4, wab, c5, ft]
    rw [if_pos h50] at he
    rw [← he]
    exact ⟨rfl, hA, f1, hn1⟩
  have c5 : decide (((b - a : Nat) : Int) < 50) = false := decide_eq_false (by omega)
  rw [if_neg h50] at he
  obtain ⟨l, hl⟩ : ∃ l, k = l + 1 := ⟨k - 1, by omega⟩
  have wl := pred_of hl (by omega)
  rw [show k - 1 = l by omega] at he
  have wka := sub_in (i := k) (j := a) (by omega) (by omega)
  have a1q := ar_get (d := d) (i := k) (by omega)
  have a2q := ar_get (d := d) (i := l) (by omega)
  have u1q := ar_set (d := d) (i := k) (by omega) d[l]!
  have u2q := ar_set (d := d.setIfInBounds k d[l]!) (i := l) (by rw [set_size]; omega) d[k]!
  have l1q : k + 1 ≤ (ar d).length := by rw [ar_len]; omega
  have l2q : l + 1 ≤ (ar (d.setIfInBounds k d[l]!)).length := by rw [ar_len, set_size]; omega
  have x1q := idxA (p := p) (n := n) (i := k) (by omega)
  have x2q := idxA (p := p) (n := n) (i := l) (by omega)
  have u2q := ar_swp (d := d) (i := k) (j := l) (by omega)
  simp -implicitDefEqProofs only [go_sem, Wk_block, Wk_drawnC, reduceCtorEq, Nat.reduceEqDiff, Nat.reduceAdd, Nat.reduceLeDiff, Nat.reduceLT, Nat.reduceMul, Nat.reduceSub, ↓reduceIte, Int.reduceLT, Int.reduceLE, Int.reduceNeg, Int.reduceAdd, Int.reduceEq, Nat.reduceBneDiff, Nat.reduceBEq, Int.reduceToNat, Int.reduceMul, Int.reduceSub, Int.reduceBEq, Int.reduceBNe, g7, g2, g1, g0, c2, c3, c4, wab, c5, hA, wl, wka, a1q, a2q, u1q, u2q, l1q, l2q, x1q, x2q, uI_cells, uI_cell, ft]
  obtain ⟨s2, hs2⟩ : ∃ x, St.put s1 p (.cells (ar (Go.Sort.swp d k l)) true false 1) = x := ⟨_, rfl⟩
  rw [hs2]
  have f2 : FrX p s s2 := by rw [← hs2]; exact FrX.put (by assumption) (.inl rfl) _
  have n2 : s2.next = s.next := by rw [← hs2]; assumption
  have hA2 : Arr s2 p (Go.Sort.swp d k l) := by rw [← hs2]; exact arr_put _ _ _
  have hd2 : (Go.Sort.swp d k l).size = n := by rw [swp_size]; assumption
  generalize Go.Sort.swp d k l = d2 at hA2 hd2 he
  refine Wi_cut (fun ts s' => ∃ d' : Array Int, Go.Sort.fixDown lt a k d2 = d' ∧ d'.size = n ∧ ts.get 8 = some (.int .i64 (c : Int)) ∧ ts.get 7 = some (.int .i64 (k : Int)) ∧ ts.get 2 = some (.int .i64 (b : Int)) ∧ ts.get 1 = some (.int .i64 (a : Int)) ∧ ts.get 0 = some (.slice p 0 n n true) ∧ Arr s' p d' ∧ FrX p s s' ∧ s'.next = s.next) ?_ ?_ ?_
  · intro hv
    have hka : k - a ≥ 2 := by have := of_decide_eq_true hv; omega
    have hfix : Go.Sort.fixDown lt a k d2 = Go.Sort.shiftDown lt l d2 := by unfold Go.Sort.fixDown; rw [if_pos hka, show k - 1 = l by omega]
    rw [hfix]
    simp -implicitDefEqProofs only [go_sem, Wk_block, Wk_drawnC, reduceCtorEq, Nat.reduceEqDiff, Nat.reduceAdd, Nat.reduceLeDiff, Nat.reduceLT, Nat.reduceMul, Nat.reduceSub, ↓reduceIte, Int.reduceLT, Int.reduceLE, Int.reduceNeg, Int.reduceAdd, Int.reduceEq, Nat.reduceBneDiff, Nat.reduceBEq, Int.reduceToNat, Int.reduceMul, Int.reduceSub, Int.reduceBEq, Int.reduceBNe, g7, wl, ft]
    refine Wk_loop_post0 (id := 4) _ ?_
    refine loop_ind (fun m ts s' => ∃ d' : Array Int, m ≤ l ∧ ts.get 9 = some (.int .i64 (m : Int)) ∧ Go.Sort.shiftDown lt m d' = Go.Sort.shiftDown lt l d2 ∧ d'.size = n ∧ ts.get 8 = some (.int .i64 (c : Int)) ∧ ts.get 7 = some (.int .i64 (k : Int)) ∧ ts.get 2 = some (.int .i64 (b : Int)) ∧ ts.get 1 = some (.int .i64 (a : Int)) ∧ ts.get 0 = some (.slice p 0 n n true) ∧ Arr s' p d' ∧ FrX p s s' ∧ s'.next = s.next) ?_ (n := l)
      ⟨d2, Nat.le_refl _, by simp only [Tr.get_set, Nat.reduceEqDiff, ↓reduceIte, Int.cast_ofNat_Int], rfl, hd2, by simp only [Tr.get_set, Nat.reduceEqDiff, ↓reduceIte, Int.cast_ofNat_Int, g8], by simp only [Tr.get_set, Nat.reduceEqDiff, ↓reduceIte, Int.cast_ofNat_Int, g7], by simp only [Tr.get_set, Nat.reduceEqDiff, ↓reduceIte, Int.cast_ofNat_Int, g2], by simp only [Tr.get_set, Nat.reduceEqDiff, ↓reduceIte, Int.cast_ofNat_Int, g1], by simp only [Tr.get_set, Nat.reduceEqDiff, ↓reduceIte, Int.cast_ofNat_Int, g0], hA2, f2, n2⟩
    clear g8 g7 g2 g1 g0
    rintro m ts s3 ⟨d', hm, g9, hsh, hd3, g8, g7, g2, g1, g0, hA3, f3, n3⟩ IH3
    cases hm0 : m with
    | zero =>
      rw [hm0] at g9 hsh
      have cz : decide (((0 : Nat) : Int) ≥ 1) = false := rfl
      have cz2 : decide ((0 : Int) ≥ 1) = false := rfl
      simp -implicitDefEqProofs only [go_sem, Wk_block, Wk_drawnC, reduceCtorEq, Nat.reduceEqDiff, Nat.reduceAdd, Nat.reduceLeDiff, Nat.reduceLT, Nat.reduceMul, Nat.reduceSub, ↓reduceIte, Int.reduceLT, Int.reduceLE, Int.reduceNeg, Int.reduceAdd, Int.reduceEq, Nat.reduceBneDiff, Nat.reduceBEq, Int.reduceToNat, Int.reduceMul, Int.reduceSub, Int.reduceBEq, Int.reduceBNe, g9, cz, cz2, ft]
      rw [Wr_nil]
      exact ⟨.inr rfl, rfl, d', hsh.symm, hd3, by simp only [Tr.get_set, Nat.reduceEqDiff, ↓reduceIte, Int.cast_ofNat_Int, g8], by simp only [Tr.get_set, Nat.reduceEqDiff, ↓reduceIte, Int.cast_ofNat_Int, g7], by simp only [Tr.get_set, Nat.reduceEqDiff, ↓reduceIte, Int.cast_ofNat_Int, g2], by simp only [Tr.get_set, Nat.reduceEqDiff, ↓reduceIte, Int.cast_ofNat_Int, g1], by simp only [Tr.get_set, Nat.reduceEqDiff, ↓reduceIte, Int.cast_ofNat_Int, g0], hA3, f3, n3⟩
    | succ q =>
      have cz : decide ((m : Int) ≥ 1) = true := decide_eq_true (by omega)
      have wq := pred_of hm0 (by omega)
      rw [hm0, shiftDown_succ, ← hm0] at hsh
      have a1r := ar_get (d := d') (i := m) (by omega)
      have a2r := ar_get (d := d') (i := q) (by omega)
      have u1r := ar_set (d := d') (i := m) (by omega) d'[q]!
      have u2r := ar_set (d := d'.setIfInBounds m d'[q]!) (i := q) (by rw [set_size]; omega) d'[m]!
      have l1r : m + 1 ≤ (ar d').length := by rw [ar_len]; omega
      have l2r : q + 1 ≤ (ar (d'.setIfInBounds m d'[q]!)).length := by rw [ar_len, set_size]; omega
      have x1r := idxA (p := p) (n := n) (i := m) (by omega)
      have x2r := idxA (p := p) (n := n) (i := q) (by omega)
      have u2r := ar_swp (d := d') (i := m) (j := q) (by omega)
      cases hc : lt d'[m]! d'[q]!
      · simp -implicitDefEqProofs only [go_sem, Wk_block, Wk_drawnC, reduceCtorEq, Nat.reduceEqDiff, Nat.reduceAdd, Nat.reduceLeDiff, Nat.reduceLT, Nat.reduceMul, Nat.reduceSub, ↓reduceIte, Int.reduceLT, Int.reduceLE, Int.reduceNeg, Int.reduceAdd, Int.reduceEq, Nat.reduceBneDiff, Nat.reduceBEq, Int.reduceToNat, Int.reduceMul, Int.reduceSub, Int.reduceBEq, Int.reduceBNe, g9, g0, cz, wq, hA3, Wl_eq (less_run _ _ _), hc, Bool.not_true, Bool.not_false, a1r, a2r, u1r, u2r, l1r, l2r, x1r, x2r, uI_cells, uI_cell, ft]
        rw [Wr_nil]
        rw [hc, if_pos (by simp)] at hsh
        exact ⟨.inr rfl, rfl, d', hsh.symm, hd3, by simp only [Tr.get_set, Nat.reduceEqDiff, ↓reduceIte, Int.cast_ofNat_Int, g8], by simp only [Tr.get_set, Nat.reduceEqDiff, ↓reduceIte, Int.cast_ofNat_Int, g7], by simp only [Tr.get_set, Nat.reduceEqDiff, ↓reduceIte, Int.cast_ofNat_Int, g2], by simp only [Tr.get_set, Nat.reduceEqDiff, ↓reduceIte, Int.cast_ofNat_Int, g1], by simp only [Tr.get_set, Nat.reduceEqDiff, ↓reduceIte, Int.cast_ofNat_Int, g0], hA3, f3, n3⟩
      · simp -implicitDefEqProofs only [go_sem, Wk_block, Wk_drawnC, reduceCtorEq, Nat.reduceEqDiff, Nat.reduceAdd, Nat.reduceLeDiff, Nat.reduceLT, Nat.reduceMul, Nat.reduceSub, ↓reduceIte, Int.reduceLT, Int.reduceLE, Int.reduceNeg, Int.reduceAdd, Int.reduceEq, Nat.reduceBneDiff, Nat.reduceBEq, Int.reduceToNat, Int.reduceMul, Int.reduceSub, Int.reduceBEq, Int.reduceBNe, g9, g0, cz, wq, hA3, Wl_eq (less_run _ _ _), hc, Bool.not_true, Bool.not_false, a1r, a2r, u1r, u2r, l1r, l2r, x1r, x2r, uI_cells, uI_cell, ft]
        rw [hc, if_neg (by simp)] at hsh
        exact IH3 q _ _ (by omega) ⟨_, by omega, by simp only [Tr.get_set, Nat.reduceEqDiff, ↓reduceIte, Int.cast_ofNat_Int], hsh, by rw [swp_size]; exact hd3, by simp only [Tr.get_set, Nat.reduceEqDiff, ↓reduceIte, Int.cast_ofNat_Int, g8], by simp only [Tr.get_set, Nat.reduceEqDiff, ↓reduceIte, Int.cast_ofNat_Int, g7], by simp only [Tr.get_set, Nat.reduceEqDiff, ↓reduceIte, Int.cast_ofNat_Int, g2], by simp only [Tr.get_set, Nat.reduceEqDiff, ↓reduceIte, Int.cast_ofNat_Int, g1], by simp only [Tr.get_set, Nat.reduceEqDiff, ↓reduceIte, Int.cast_ofNat_Int, g0], arr_put _ _ _, f3.put (.inl rfl) _, n3⟩
  · intro hv
    have hka : ¬ k - a ≥ 2 := by have := of_decide_eq_false hv; omega
    have hfix : Go.Sort.fixDown lt a k d2 = d2 := by unfold Go.Sort.fixDown; rw [if_neg hka]
    rw [hfix, Wk_skip, Wr_nil]
    exact ⟨rfl, rfl, d2, rfl, hd2, by simp only [Tr.get_set, Nat.reduceEqDiff, ↓reduceIte, Int.cast_ofNat_Int, g8], by simp only [Tr.get_set, Nat.reduceEqDiff, ↓reduceIte, Int.cast_ofNat_Int, g7], by simp only [Tr.get_set, Nat.reduceEqDiff, ↓reduceIte, Int.cast_ofNat_Int, g2], by simp only [Tr.get_set, Nat.reduceEqDiff, ↓reduceIte, Int.cast_ofNat_Int, g1], by simp only [Tr.get_set, Nat.reduceEqDiff, ↓reduceIte, Int.cast_ofNat_Int, g0], hA2, f2, n2⟩
  clear g8 g7 g2 g1 g0
  rintro ts s3 ⟨d3, hf3, hd3, g8, g7, g2, g1, g0, hA3, f3, n3⟩
  rw [hf3] at he
  have wbk := sub_in (i := b) (j := k) (by omega) (by omega)
  have wk := succ_in (j := k) (by omega)
  simp -implicitDefEqProofs only [go_sem, Wk_block, Wk_drawnC, reduceCtorEq, Nat.reduceEqDiff, Nat.reduceAdd, Nat.reduceLeDiff, Nat.reduceLT, Nat.reduceMul, Nat.reduceSub, ↓reduceIte, Int.reduceLT, Int.reduceLE, Int.reduceNeg, Int.reduceAdd, Int.reduceEq, Nat.reduceBneDiff, Nat.reduceBEq, Int.reduceToNat, Int.reduceMul, Int.reduceSub, Int.reduceBEq, Int.reduceBNe, g7, g2, wbk, ft]
  refine Wi_cut (fun ts s' => ∃ d' : Array Int, Go.Sort.fixUp lt b k d3 = d' ∧ d'.size = n ∧ ts.get 8 = some (.int .i64 (c : Int)) ∧ ts.get 7 = some (.int .i64 (k : Int)) ∧ ts.get 2 = some (.int .i64 (b : Int)) ∧ ts.get 1 = some (.int .i64 (a : Int)) ∧ ts.get 0 = some (.slice p 0 n n true) ∧ Arr s' p d' ∧ FrX p s s' ∧ s'.next = s.next) ?_ ?_ ?_
  · intro hv
    have hka : b - k ≥ 2 := by have := of_decide_eq_true hv; omega
    have hfix : Go.Sort.fixUp lt b k d3 = Go.Sort.shiftUp lt b (k + 1) d3 := by unfold Go.Sort.fixUp; rw [if_pos hka]
    rw [hfix]
    simp -implicitDefEqProofs only [go_sem, Wk_block, Wk_drawnC, reduceCtorEq, Nat.reduceEqDiff, Nat.reduceAdd, Nat.reduceLeDiff, Nat.reduceLT, Nat.reduceMul, Nat.reduceSub, ↓reduceIte, Int.reduceLT, Int.reduceLE, Int.reduceNeg, Int.reduceAdd, Int.reduceEq, Nat.reduceBneDiff, Nat.reduceBEq, Int.reduceToNat, Int.reduceMul, Int.reduceSub, Int.reduceBEq, Int.reduceBNe, g7, wk, ft]
    refine Wk_loop_post0 (id := 6) _ ?_
    refine loop_ind (fun m ts s' => ∃ (x : Nat) (d' : Array Int), m = b - x ∧ k < x ∧ ts.get 10 = some (.int .i64 (x : Int)) ∧ Go.Sort.shiftUp lt b x d' = Go.Sort.shiftUp lt b (k + 1) d3 ∧ d'.size = n ∧ ts.get 8 = some (.int .i64 (c : Int)) ∧ ts.get 7 = some (.int .i64 (k : Int)) ∧ ts.get 2 = some (.int .i64 (b : Int)) ∧ ts.get 1 = some (.int .i64 (a : Int)) ∧ ts.get 0 = some (.slice p 0 n n true) ∧ Arr s' p d' ∧ FrX p s s' ∧ s'.next = s.next) ?_ (n := b - (k + 1))
      ⟨k + 1, d3, rfl, by omega, by simp only [Tr.get_set, Nat.reduceEqDiff, ↓reduceIte, Int.cast_ofNat_Int], rfl, hd3, by simp only [Tr.get_set, Nat.reduceEqDiff, ↓reduceIte, Int.cast_ofNat_Int, g8], by simp only [Tr.get_set, Nat.reduceEqDiff, ↓reduceIte, Int.cast_ofNat_Int, g7], by simp only [Tr.get_set, Nat.reduceEqDiff, ↓reduceIte, Int.cast_ofNat_Int, g2], by simp only [Tr.get_set, Nat.reduceEqDiff, ↓reduceIte, Int.cast_ofNat_Int, g1], by simp only [Tr.get_set, Nat.reduceEqDiff, ↓reduceIte, Int.cast_ofNat_Int, g0], hA3, f3, n3⟩
    clear g8 g7 g2 g1 g0
    rintro _ ts s4 ⟨x, d', rfl, hkx, g10, hsh, hd4, g8, g7, g2, g1, g0, hA4, f4, n4⟩ IH3
    rw [shiftUp_eq] at hsh
    by_cases hxb : x < b
    · obtain ⟨q, hq⟩ : ∃ q, x = q + 1 := ⟨x - 1, by omega⟩
      have cz : decide (x < b) = true := decide_eq_true hxb
      have wq := pred_of hq (by omega)
      have wx := succ_in (j := x) (by omega)
      rw [if_pos hxb, show x - 1 = q by omega] at hsh
      have a1r := ar_get (d := d') (i := x) (by omega)
      have a2r := ar_get (d := d') (i := q) (by omega)
      have u1r := ar_set (d := d') (i := x) (by omega) d'[q]!
      have u2r := ar_set (d := d'.setIfInBounds x d'[q]!) (i := q) (by rw [set_size]; omega) d'[x]!
      have l1r : x + 1 ≤ (ar d').length := by rw [ar_len]; omega
      have l2r : q + 1 ≤ (ar (d'.setIfInBounds x d'[q]!)).length := by rw [ar_len, set_size]; omega
      have x1r := idxA (p := p) (n := n) (i := x) (by omega)
      have x2r := idxA (p := p) (n := n) (i := q) (by omega)
      have u2r := ar_swp (d := d') (i := x) (j := q) (by omega)
      cases hc : lt d'[x]! d'[q]!
      · simp -implicitDefEqProofs only [go_sem, Wk_block, Wk_drawnC, reduceCtorEq, Nat.reduceEqDiff, Nat.reduceAdd, Nat.reduceLeDiff, Nat.reduceLT, Nat.reduceMul, Nat.reduceSub, ↓reduceIte, Int.reduceLT, Int.reduceLE, Int.reduceNeg, Int.reduceAdd, Int.reduceEq, Nat.reduceBneDiff, Nat.reduceBEq, Int.reduceToNat, Int.reduceMul, Int.reduceSub, Int.reduceBEq, Int.reduceBNe, g10, g2, g0, cz, wq, wx, hA4, Wl_eq (less_run _ _ _), hc, Bool.not_true, Bool.not_false, a1r, a2r, u1r, u2r, l1r, l2r, x1r, x2r, uI_cells, uI_cell, ft]
        rw [Wr_nil]
        rw [hc, if_pos (by simp)] at hsh
        exact ⟨.inr rfl, rfl, d', hsh.symm, hd4, by simp only [Tr.get_set, Nat.reduceEqDiff, ↓reduceIte, Int.cast_ofNat_Int, g8], by simp only [Tr.get_set, Nat.reduceEqDiff, ↓reduceIte, Int.cast_ofNat_Int, g7], by simp only [Tr.get_set, Nat.reduceEqDiff, ↓reduceIte, Int.cast_ofNat_Int, g2], by simp only [Tr.get_set, Nat.reduceEqDiff, ↓reduceIte, Int.cast_ofNat_Int, g1], by simp only [Tr.get_set, Nat.reduceEqDiff, ↓reduceIte, Int.cast_ofNat_Int, g0], hA4, f4, n4⟩
      · simp -implicitDefEqProofs only [go_sem, Wk_block, Wk_drawnC, reduceCtorEq, Nat.reduceEqDiff, Nat.reduceAdd, Nat.reduceLeDiff, Nat.reduceLT, Nat.reduceMul, Nat.reduceSub, ↓reduceIte, Int.reduceLT, Int.reduceLE, Int.reduceNeg, Int.reduceAdd, Int.reduceEq, Nat.reduceBneDiff, Nat.reduceBEq, Int.reduceToNat, Int.reduceMul, Int.reduceSub, Int.reduceBEq, Int.reduceBNe, g10, g2, g0, cz, wq, wx, hA4, Wl_eq (less_run _ _ _), hc, Bool.not_true, Bool.not_false, a1r, a2r, u1r, u2r, l1r, l2r, x1r, x2r, uI_cells, uI_cell, ft]
        rw [hc, if_neg (by simp)] at hsh
        exact IH3 (b - (x + 1)) _ _ (by omega) ⟨x + 1, _, rfl, by omega, by simp only [Tr.get_set, Nat.reduceEqDiff, ↓reduceIte, Int.cast_ofNat_Int], hsh, by rw [swp_size]; exact hd4, by simp only [Tr.get_set, Nat.reduceEqDiff, ↓reduceIte, Int.cast_ofNat_Int, g8], by simp only [Tr.get_set, Nat.reduceEqDiff, ↓reduceIte, Int.cast_ofNat_Int, g7], by simp only [Tr.get_set, Nat.reduceEqDiff, ↓reduceIte, Int.cast_ofNat_Int, g2], by simp only [Tr.get_set, Nat.reduceEqDiff, ↓reduceIte, Int.cast_ofNat_Int, g1], by simp only [Tr.get_set, Nat.reduceEqDiff, ↓reduceIte, Int.cast_ofNat_Int, g0], arr_put _ _ _, f4.put (.inl rfl) _, n4⟩
    · have cz : decide (x < b) = false := decide_eq_false hxb
      rw [if_neg hxb] at hsh
      simp -implicitDefEqProofs only [go_sem, Wk_block, Wk_drawnC, reduceCtorEq, Nat.reduceEqDiff, Nat.reduceAdd, Nat.reduceLeDiff, Nat.reduceLT, Nat.reduceMul, Nat.reduceSub, ↓reduceIte, Int.reduceLT, Int.reduceLE, Int.reduceNeg, Int.reduceAdd, Int.reduceEq, Nat.reduceBneDiff, Nat.reduceBEq, Int.reduceToNat, Int.reduceMul, Int.reduceSub, Int.reduceBEq, Int.reduceBNe, g10, g2, cz, ft]
      rw [Wr_nil]
      exact ⟨.inr rfl, rfl, d', hsh.symm, hd4, by simp only [Tr.get_set, Nat.reduceEqDiff, ↓reduceIte, Int.cast_ofNat_Int, g8], by simp only [Tr.get_set, Nat.reduceEqDiff, ↓reduceIte, Int.cast_ofNat_Int, g7], by simp only [Tr.get_set, Nat.reduceEqDiff, ↓reduceIte, Int.cast_ofNat_Int, g2], by simp only [Tr.get_set, Nat.reduceEqDiff, ↓reduceIte, Int.cast_ofNat_Int, g1], by simp only [Tr.get_set, Nat.reduceEqDiff, ↓reduceIte, Int.cast_ofNat_Int, g0], hA4, f4, n4⟩
  · intro hv
    have hka : ¬ b - k ≥ 2 := by have := of_decide_eq_false hv; omega
    have hfix : Go.Sort.fixUp lt b k d3 = d3 := by unfold Go.Sort.fixUp; rw [if_neg hka]
    rw [hfix, Wk_skip, Wr_nil]
    exact ⟨rfl, rfl, d3, rfl, hd3, by simp only [Tr.get_set, Nat.reduceEqDiff, ↓reduceIte, Int.cast_ofNat_Int, g8], by simp only [Tr.get_set, Nat.reduceEqDiff, ↓reduceIte, Int.cast_ofNat_Int, g7], by simp only [Tr.get_set, Nat.reduceEqDiff, ↓reduceIte, Int.cast_ofNat_Int, g2], by simp only [Tr.get_set, Nat.reduceEqDiff, ↓reduceIte, Int.cast_ofNat_Int, g1], by simp only [Tr.get_set, Nat.reduceEqDiff, ↓reduceIte, Int.cast_ofNat_Int, g0], hA3, f3, n3⟩
  clear g8 g7 g2 g1 g0
  rintro ts s4 ⟨d4, hf4, hd4, g8, g7, g2, g1, g0, hA4, f4, n4⟩
  rw [hf4] at he
  simp -implicitDefEqProofs only [go_sem, Wk_block, Wk_drawnC, reduceCtorEq, Nat.reduceEqDiff, Nat.reduceAdd, Nat.reduceLeDiff, Nat.reduceLT, Nat.reduceMul, Nat.reduceSub, ↓reduceIte, Int.reduceLT, Int.reduceLE, Int.reduceNeg, Int.reduceAdd, Int.reduceEq, Nat.reduceBneDiff, Nat.reduceBEq, Int.reduceToNat, Int.reduceMul, Int.reduceSub, Int.reduceBEq, Int.reduceBNe, g8, wc, ft]
  exact IH m _ _ (by omega) ⟨c + 1, k, d4, by omega, by omega, hkb, by simp only [Tr.get_set, Nat.reduceEqDiff, ↓reduceIte, Int.cast_ofNat_Int], by simp only [Tr.get_set, Nat.reduceEqDiff, ↓reduceIte, Int.cast_ofNat_Int, g7], by simp only [Tr.get_set, Nat.reduceEqDiff, ↓reduceIte, Int.cast_ofNat_Int, g2], by simp only [Tr.get_set, Nat.reduceEqDiff, ↓reduceIte, Int.cast_ofNat_Int, g1], by simp only [Tr.get_set, Nat.reduceEqDiff, ↓reduceIte, Int.cast_ofNat_Int, g0], hA4, hd4, he, f4, n4⟩
end Go.Proofs.Ytjejgnbdlfkenaa.Base
namespace Go.Proofs.Ytjejgnbdlfkenaa.Base
open D
set_option linter.unusedSimpArgs false
set_option linter.unusedVariables false
set_option maxRecDepth 10000

/-- The cell of the swaps' count. -/
def Cnt (s : St) (q : Nat) : Prop := ∃ c : Int, s.get q = some (.cells [.int .i64 c] false false 0)
theorem arr_fr {s s' : St} {p q : Nat} {d : Array Int} (h : Arr s p d) (hf : FrX q s s') (hp : p < s.next) (hpq : p ≠ q) : Arr s' p d := (hf.get p hp hpq).trans h
theorem Order_run {d : Array Int} {n a b p q : Nat} {s : St} (hA : Arr s p d) (hd : d.size = n) (ha : a < n) (hb : b < n) (hq : Cnt s q) :
    Wf mm 61 [.slice p 0 n n true, .int .i64 (a : Int), .int .i64 (b : Int), .ptr q 0] s fun w s' => ∃ x y : Nat, (x = a ∧ y = b ∨ x = b ∧ y = a) ∧ w = .tup [.int .i64 (x : Int), .int .i64 (y : Int)] ∧ Cnt s' q ∧ FrX q s s' ∧ s'.next = s.next := by
  refine Wf_enter ft61 (sm (by decide)) (by rfl) ?_
  have ft : (false == true) = false := rfl
  obtain ⟨c, hc⟩ := hq
  have x1 := idxA (p := p) (n := n) (i := a) (by omega)
  have x0 := idxA (p := p) (n := n) (i := b) (by omega)
  have a1 := ar_get (d := d) (i := a) (by omega)
  have a0 := ar_get (d := d) (i := b) (by omega)
  cases hl : lt d[b]! d[a]!
  · simp -implicitDefEqProofs only [go_sem, Wk_block, Wk_drawnC, reduceCtorEq, Nat.reduceEqDiff, Nat.reduceAdd, Nat.reduceLeDiff, Nat.reduceLT, Nat.reduceMul, Nat.reduceSub, ↓reduceIte, Int.reduceLT, Int.reduceLE, Int.reduceNeg, Int.reduceAdd, Int.reduceEq, Nat.reduceBneDiff, Nat.reduceBEq, Int.reduceToNat, Int.reduceMul, Int.reduceSub, Int.reduceBEq, Int.reduceBNe, fd61, x1, x0, a1, a0, hA, hc, Wl_eq (less_run _ _ _), hl, ft]
    exact ⟨a, b, .inl ⟨rfl, rfl⟩, rfl, ⟨c, hc⟩, FrX.refl _ _⟩
  · simp -implicitDefEqProofs only [go_sem, Wk_block, Wk_drawnC, reduceCtorEq, Nat.reduceEqDiff, Nat.reduceAdd, Nat.reduceLeDiff, Nat.reduceLT, Nat.reduceMul, Nat.reduceSub, ↓reduceIte, Int.reduceLT, Int.reduceLE, Int.reduceNeg, Int.reduceAdd, Int.reduceEq, Nat.reduceBneDiff, Nat.reduceBEq, Int.reduceToNat, Int.reduceMul, Int.reduceSub, Int.reduceBEq, Int.reduceBNe, fd61, x1, x0, a1, a0, hA, hc, Wl_eq (less_run _ _ _), hl, ft]
    exact ⟨b, a, .inr ⟨rfl, rfl⟩, rfl, ⟨_, by rw [St.get_put, if_pos rfl]⟩, (FrX.refl _ _).put (.inl rfl) _⟩
theorem Med_run {d : Array Int} {n a b c p q : Nat} {s : St} (hA : Arr s p d) (hd : d.size = n) (ha : a < n) (hb : b < n) (hc : c < n) (hq : Cnt s q) (hp : p < s.next) (hpq : p ≠ q) :
    Wf mm 59 [.slice p 0 n n true, .int .i64 (a : Int), .int .i64 (b : Int), .int .i64 (c : Int), .ptr q 0] s fun w s' => ∃ x : Nat, (x = a ∨ x = b ∨ x = c) ∧ w = .int .i64 (x : Int) ∧ Cnt s' q ∧ FrX q s s' ∧ s'.next = s.next := by
  refine Wf_enter ft59 (sm (by decide)) (by rfl) ?_
  have ft : (false == true) = false := rfl
  simp -implicitDefEqProofs only [go_sem, Wk_block, Wk_drawnC, reduceCtorEq, Nat.reduceEqDiff, Nat.reduceAdd, Nat.reduceLeDiff, Nat.reduceLT, Nat.reduceMul, Nat.reduceSub, ↓reduceIte, Int.reduceLT, Int.reduceLE, Int.reduceNeg, Int.reduceAdd, Int.reduceEq, Nat.reduceBneDiff, Nat.reduceBEq, Int.reduceToNat, Int.reduceMul, Int.reduceSub, Int.reduceBEq, Int.reduceBNe, fd59, ft]
  refine Wl_of (Order_run (a := a) (b := b) hA hd ha hb hq) ?_
  rintro w s1 ⟨x1, y1, h1, rfl, q1, f1, n1⟩
  simp -implicitDefEqProofs only [go_sem, Wk_block, Wk_drawnC, reduceCtorEq, Nat.reduceEqDiff, Nat.reduceAdd, Nat.reduceLeDiff, Nat.reduceLT, Nat.reduceMul, Nat.reduceSub, ↓reduceIte, Int.reduceLT, Int.reduceLE, Int.reduceNeg, Int.reduceAdd, Int.reduceEq, Nat.reduceBneDiff, Nat.reduceBEq, Int.reduceToNat, Int.reduceMul, Int.reduceSub, Int.reduceBEq, Int.reduceBNe, ft]
  have A1 := arr_fr hA f1 hp hpq
  refine Wl_of (Order_run (a := y1) (b := c) A1 hd (by omega) hc q1) ?_
  rintro w s2 ⟨x2, y2, h2, rfl, q2, f2, n2⟩
  simp -implicitDefEqProofs only [go_sem, Wk_block, Wk_drawnC, reduceCtorEq, Nat.reduceEqDiff, Nat.reduceAdd, Nat.reduceLeDiff, Nat.reduceLT, Nat.reduceMul, Nat.reduceSub, ↓reduceIte, Int.reduceLT, Int.reduceLE, Int.reduceNeg, Int.reduceAdd, Int.reduceEq, Nat.reduceBneDiff, Nat.reduceBEq, Int.reduceToNat, Int.reduceMul, Int.reduceSub, Int.reduceBEq, Int.reduceBNe, ft]
  have A2 := arr_fr A1 f2 (by omega) hpq
  refine Wl_of (Order_run (a := x1) (b := x2) A2 hd (by omega) (by omega) q2) ?_
  rintro w s3 ⟨x3, y3, h3, rfl, q3, f3, n3⟩
  simp -implicitDefEqProofs only [go_sem, Wk_block, Wk_drawnC, reduceCtorEq, Nat.reduceEqDiff, Nat.reduceAdd, Nat.reduceLeDiff, Nat.reduceLT, Nat.reduceMul, Nat.reduceSub, ↓reduceIte, Int.reduceLT, Int.reduceLE, Int.reduceNeg, Int.reduceAdd, Int.reduceEq, Nat.reduceBneDiff, Nat.reduceBEq, Int.reduceToNat, Int.reduceMul, Int.reduceSub, Int.reduceBEq, Int.reduceBNe, ft]
  exact ⟨y3, by omega, rfl, q3, (f1.trans f2).trans f3, by omega⟩
theorem MedA_run {d : Array Int} {n a p q : Nat} {s : St} (hA : Arr s p d) (hd : d.size = n) (ha : 1 ≤ a) (hb : a + 1 < n) (hn9 : n < 1000000) (hq : Cnt s q) (hp : p < s.next) (hpq : p ≠ q) :
    Wf mm 58 [.slice p 0 n n true, .int .i64 (a : Int), .ptr q 0] s fun w s' => ∃ x : Nat, a ≤ x + 1 ∧ x ≤ a + 1 ∧ w = .int .i64 (x : Int) ∧ Cnt s' q ∧ FrX q s s' ∧ s'.next = s.next := by
  refine Wf_enter ft58 (sm (by decide)) (by rfl) ?_
  have ft : (false == true) = false := rfl
  obtain ⟨z, hz⟩ : ∃ z, a = z + 1 := ⟨a - 1, by omega⟩
  have w1 := pred_of hz (by omega)
  have w2 := succ_in (j := a) (by omega)
  simp -implicitDefEqProofs only [go_sem, Wk_block, Wk_drawnC, reduceCtorEq, Nat.reduceEqDiff, Nat.reduceAdd, Nat.reduceLeDiff, Nat.reduceLT, Nat.reduceMul, Nat.reduceSub, ↓reduceIte, Int.reduceLT, Int.reduceLE, Int.reduceNeg, Int.reduceAdd, Int.reduceEq, Nat.reduceBneDiff, Nat.reduceBEq, Int.reduceToNat, Int.reduceMul, Int.reduceSub, Int.reduceBEq, Int.reduceBNe, fd58, w1, w2, ft]
  refine Wl_of (Med_run (a := z) (b := a) (c := a + 1) hA hd (by omega) (by omega) (by omega) hq hp hpq) ?_
  rintro w s1 ⟨x, h1, rfl, q1, f1, n1⟩
  simp -implicitDefEqProofs only [go_sem, Wk_block, Wk_drawnC, reduceCtorEq, Nat.reduceEqDiff, Nat.reduceAdd, Nat.reduceLeDiff, Nat.reduceLT, Nat.reduceMul, Nat.reduceSub, ↓reduceIte, Int.reduceLT, Int.reduceLE, Int.reduceNeg, Int.reduceAdd, Int.reduceEq, Nat.reduceBneDiff, Nat.reduceBEq, Int.reduceToNat, Int.reduceMul, Int.reduceSub, Int.reduceBEq, Int.reduceBNe, ft]
  exact ⟨x, by omega, by omega, rfl, q1, f1, n1⟩
theorem fr_x {s s1 s2 : St} (h : Fr s s1) (k : FrX s.next s1 s2) : Fr s s2 := ⟨Nat.le_trans h.le k.le, fun y hy => (k.get y (Nat.lt_of_lt_of_le hy h.le) (by omega)).trans (h.get y hy)⟩
theorem arr_of {s s' : St} {p : Nat} {d : Array Int} (h : Arr s p d) (hp : p < s.next) (hf : Fr s s') : Arr s' p d := (hf.get p hp).trans h
theorem quo_in {l k : Nat} (h : l < 1000000000) : IntKind.i64.wrap ((l : Int).tdiv (k : Int)) = ((l / k : Nat) : Int) := by
  have : (l : Int).tdiv (k : Int) = ((l / k : Nat) : Int) := by simp [Int.tdiv]
  have h2 : l / k ≤ l := Nat.div_le_self _ _
  obtain ⟨z, hz⟩ : ∃ z, l / k = z := ⟨_, rfl⟩
  rw [this, hz]
  rw [hz] at h2
  exact i64_in (by omega) (by omega)
theorem mul_in {l k : Nat} (h : l * k < 1000000000) : IntKind.i64.wrap ((l : Int) * (k : Int)) = ((l * k : Nat) : Int) := by rw [← Int.natCast_mul, i64_in (by omega) (by omega)]
theorem Choose_run {d : Array Int} {n a b p : Nat} {s : St} (hA : Arr s p d) (hd : d.size = n) (hab : a < b) (hbn : b ≤ n) (hn9 : n < 1000000) (hp : p < s.next) :
    Wf mm 46 [.slice p 0 n n true, .int .i64 (a : Int), .int .i64 (b : Int)] s fun w s' => ∃ (x : Nat) (h : Int), a ≤ x ∧ x < b ∧ w = .tup [.int .i64 (x : Int), .int .i64 h] ∧ Fr s s' ∧ s'.next ≤ s.next + 1 := by
  refine Wf_enter ft46 (sm (by decide)) (by rfl) ?_
  have ft : (false == true) = false := rfl
  have wab := sub_in (i := b) (j := a) (by omega) (by omega)
  obtain ⟨l, hl⟩ : ∃ l, b - a = l := ⟨_, rfl⟩
  rw [hl] at wab
  have wq : IntKind.i64.wrap ((l : Int).tdiv 4) = ((l / 4 : Nat) : Int) := quo_in (k := 4) (by omega)
  obtain ⟨r, hr⟩ : ∃ r, l / 4 = r := ⟨_, rfl⟩
  rw [hr] at wq
  have m1 : IntKind.i64.wrap ((r : Int) * 1) = ((r * 1 : Nat) : Int) := mul_in (k := 1) (by omega)
  have m2 : IntKind.i64.wrap ((r : Int) * 2) = ((r * 2 : Nat) : Int) := mul_in (k := 2) (by omega)
  have m3 : IntKind.i64.wrap ((r : Int) * 3) = ((r * 3 : Nat) : Int) := mul_in (k := 3) (by omega)
  obtain ⟨r1, hr1⟩ : ∃ x, r * 1 = x := ⟨_, rfl⟩
  obtain ⟨r2, hr2⟩ : ∃ x, r * 2 = x := ⟨_, rfl⟩
  obtain ⟨r3, hr3⟩ : ∃ x, r * 3 = x := ⟨_, rfl⟩
  rw [hr1] at m1
  rw [hr2] at m2
  rw [hr3] at m3
  have p1 := add_in (i := a) (j := r1) (by omega)
  have p2 := add_in (i := a) (j := r2) (by omega)
  have p3 := add_in (i := a) (j := r3) (by omega)
  obtain ⟨i, hi⟩ : ∃ x, a + r1 = x := ⟨_, rfl⟩
  obtain ⟨j, hj⟩ : ∃ x, a + r2 = x := ⟨_, rfl⟩
  obtain ⟨k, hk⟩ : ∃ x, a + r3 = x := ⟨_, rfl⟩
  rw [hi] at p1
  rw [hj] at p2
  rw [hk] at p3
  have m1' : IntKind.i64.wrap (r : Int) = (r : Int) := i64_in (by omega) (by omega)
  have hr11 : r = r1 := by omega
  have p1' : IntKind.i64.wrap ((a : Int) + (r : Int)) = (i : Int) := by rw [hr11]; exact p1
  simp -implicitDefEqProofs only [go_sem, Wk_block, Wk_drawnC, reduceCtorEq, Nat.reduceEqDiff, Nat.reduceAdd, Nat.reduceLeDiff, Nat.reduceLT, Nat.reduceMul, Nat.reduceSub, ↓reduceIte, Int.reduceLT, Int.reduceLE, Int.reduceNeg, Int.reduceAdd, Int.reduceEq, Nat.reduceBneDiff, Nat.reduceBEq, Int.reduceToNat, Int.reduceMul, Int.reduceSub, Int.reduceBEq, Int.reduceBNe, fd46, wab, wq, Int.mul_one, m1, m1', m2, m3, p1, p1', p2, p3, ft]
  have hpq : p ≠ s.next := by omega
  have F0 : Fr s (s.new (.cells [.int .i64 0] false false 0)) := (Fr.refl s).new _
  have Q0 : Cnt (s.new (.cells [.int .i64 0] false false 0)) s.next := ⟨0, by rw [St.get_new, if_pos rfl]⟩
  have N0 : (s.new (.cells [.int .i64 0] false false 0)).next ≤ s.next + 1 := by rw [St.next_new]; omega
  generalize s.new (.cells [.int .i64 0] false false 0) = s0 at F0 Q0 N0 ⊢
  refine Wi_cut (fun ts s' => ∃ x : Nat, a ≤ x ∧ x < b ∧ ts.get 11 = some (.int .i64 (x : Int)) ∧ ts.get 9 = some (.ptr s.next 0) ∧ Cnt s' s.next ∧ Fr s s' ∧ s'.next ≤ s.next + 1) ?_ ?_ ?_
  · intro hv
    have h8 : 8 ≤ l := by have := of_decide_eq_true hv; omega
    simp -implicitDefEqProofs only [go_sem, Wk_block, Wk_drawnC, reduceCtorEq, Nat.reduceEqDiff, Nat.reduceAdd, Nat.reduceLeDiff, Nat.reduceLT, Nat.reduceMul, Nat.reduceSub, ↓reduceIte, Int.reduceLT, Int.reduceLE, Int.reduceNeg, Int.reduceAdd, Int.reduceEq, Nat.reduceBneDiff, Nat.reduceBEq, Int.reduceToNat, Int.reduceMul, Int.reduceSub, Int.reduceBEq, Int.reduceBNe, ft]
    refine Wi_cut (fun ts s' => ∃ i j k : Nat, a ≤ i ∧ i < b ∧ a ≤ j ∧ j < b ∧ a ≤ k ∧ k < b ∧ ts.get 10 = some (.int .i64 (i : Int)) ∧ ts.get 11 = some (.int .i64 (j : Int)) ∧ ts.get 12 = some (.int .i64 (k : Int)) ∧ ts.get 0 = some (.slice p 0 n n true) ∧ ts.get 9 = some (.ptr s.next 0) ∧ Cnt s' s.next ∧ Fr s s' ∧ s'.next ≤ s.next + 1) ?_ ?_ ?_
    · intro hv2
      have h50 : 50 ≤ l := by have := of_decide_eq_true hv2; omega
      simp -implicitDefEqProofs only [go_sem, Wk_block, Wk_drawnC, reduceCtorEq, Nat.reduceEqDiff, Nat.reduceAdd, Nat.reduceLeDiff, Nat.reduceLT, Nat.reduceMul, Nat.reduceSub, ↓reduceIte, Int.reduceLT, Int.reduceLE, Int.reduceNeg, Int.reduceAdd, Int.reduceEq, Nat.reduceBneDiff, Nat.reduceBEq, Int.reduceToNat, Int.reduceMul, Int.reduceSub, Int.reduceBEq, Int.reduceBNe, ft]
      refine Wl_of (MedA_run (a := i) (arr_of hA hp F0) hd (by omega) (by omega) hn9 Q0 (Nat.lt_of_lt_of_le hp F0.le) hpq) ?_
      rintro w s1 ⟨i1, u1, v1, rfl, Q1, f1, n1⟩
      have F1 := fr_x F0 f1
      simp -implicitDefEqProofs only [go_sem, Wk_block, Wk_drawnC, reduceCtorEq, Nat.reduceEqDiff, Nat.reduceAdd, Nat.reduceLeDiff, Nat.reduceLT, Nat.reduceMul, Nat.reduceSub, ↓reduceIte, Int.reduceLT, Int.reduceLE, Int.reduceNeg, Int.reduceAdd, Int.reduceEq, Nat.reduceBneDiff, Nat.reduceBEq, Int.reduceToNat, Int.reduceMul, Int.reduceSub, Int.reduceBEq, Int.reduceBNe, ft]
      refine Wl_of (MedA_run (a := j) (arr_of hA hp F1) hd (by omega) (by omega) hn9 Q1 (Nat.lt_of_lt_of_le hp F1.le) hpq) ?_
      rintro w s2 ⟨j1, u2, v2, rfl, Q2, f2, n2⟩
      have F2 := fr_x F1 f2
      simp -implicitDefEqProofs only [go_sem, Wk_block, Wk_drawnC, reduceCtorEq, Nat.reduceEqDiff, Nat.reduceAdd, Nat.reduceLeDiff, Nat.reduceLT, Nat.reduceMul, Nat.reduceSub, ↓reduceIte, Int.reduceLT, Int.reduceLE, Int.reduceNeg, Int.reduceAdd, Int.reduceEq, Nat.reduceBneDiff, Nat.reduceBEq, Int.reduceToNat, Int.reduceMul, Int.reduceSub, Int.reduceBEq, Int.reduceBNe, ft]
      refine Wl_of (MedA_run (a := k) (arr_of hA hp F2) hd (by omega) (by omega) hn9 Q2 (Nat.lt_of_lt_of_le hp F2.le) hpq) ?_
      rintro w s3 ⟨k1, u3, v3, rfl, Q3, f3, n3⟩
      have F3 := fr_x F2 f3
      simp -implicitDefEqProofs only [go_sem, Wk_block, Wk_drawnC, reduceCtorEq, Nat.reduceEqDiff, Nat.reduceAdd, Nat.reduceLeDiff, Nat.reduceLT, Nat.reduceMul, Nat.reduceSub, ↓reduceIte, Int.reduceLT, Int.reduceLE, Int.reduceNeg, Int.reduceAdd, Int.reduceEq, Nat.reduceBneDiff, Nat.reduceBEq, Int.reduceToNat, Int.reduceMul, Int.reduceSub, Int.reduceBEq, Int.reduceBNe, ft]
      rw [Wr_nil]
      exact ⟨rfl, rfl, i1, j1, k1, by omega, by omega, by omega, by omega, by omega, by omega, by simp only [Tr.get_set, Nat.reduceEqDiff, ↓reduceIte, Int.cast_ofNat_Int], by simp only [Tr.get_set, Nat.reduceEqDiff, ↓reduceIte, Int.cast_ofNat_Int], by simp only [Tr.get_set, Nat.reduceEqDiff, ↓reduceIte, Int.cast_ofNat_Int], by simp only [Tr.get_set, Nat.reduceEqDiff, ↓reduceIte, Int.cast_ofNat_Int], by simp only [Tr.get_set, Nat.reduceEqDiff, ↓reduceIte, Int.cast_ofNat_Int], Q3, F3, by omega⟩
    · intro hv2
      rw [Wk_skip, Wr_nil]
      exact ⟨rfl, rfl, i, j, k, by omega, by omega, by omega, by omega, by omega, by omega, by simp only [Tr.get_set, Nat.reduceEqDiff, ↓reduceIte, Int.cast_ofNat_Int], by simp only [Tr.get_set, Nat.reduceEqDiff, ↓reduceIte, Int.cast_ofNat_Int], by simp only [Tr.get_set, Nat.reduceEqDiff, ↓reduceIte, Int.cast_ofNat_Int], by simp only [Tr.get_set, Nat.reduceEqDiff, ↓reduceIte, Int.cast_ofNat_Int], by simp only [Tr.get_set, Nat.reduceEqDiff, ↓reduceIte, Int.cast_ofNat_Int], Q0, F0, N0⟩
    · rintro ts s1 ⟨i1, j1, k1, u1, v1, u2, v2, u3, v3, g10, g11, g12, g0, g9, Q1, F1, N1⟩
      simp -implicitDefEqProofs only [go_sem, Wk_block, Wk_drawnC, reduceCtorEq, Nat.reduceEqDiff, Nat.reduceAdd, Nat.reduceLeDiff, Nat.reduceLT, Nat.reduceMul, Nat.reduceSub, ↓reduceIte, Int.reduceLT, Int.reduceLE, Int.reduceNeg, Int.reduceAdd, Int.reduceEq, Nat.reduceBneDiff, Nat.reduceBEq, Int.reduceToNat, Int.reduceMul, Int.reduceSub, Int.reduceBEq, Int.reduceBNe, g10, g11, g12, g0, g9, ft]
      refine Wl_of (Med_run (a := i1) (b := j1) (c := k1) (arr_of hA hp F1) hd (by omega) (by omega) (by omega) Q1 (Nat.lt_of_lt_of_le hp F1.le) hpq) ?_
      rintro w s2 ⟨x, h1, rfl, Q2, f2, n2⟩
      simp -implicitDefEqProofs only [go_sem, Wk_block, Wk_drawnC, reduceCtorEq, Nat.reduceEqDiff, Nat.reduceAdd, Nat.reduceLeDiff, Nat.reduceLT, Nat.reduceMul, Nat.reduceSub, ↓reduceIte, Int.reduceLT, Int.reduceLE, Int.reduceNeg, Int.reduceAdd, Int.reduceEq, Nat.reduceBneDiff, Nat.reduceBEq, Int.reduceToNat, Int.reduceMul, Int.reduceSub, Int.reduceBEq, Int.reduceBNe, ft]
      rw [Wr_nil]
      exact ⟨rfl, rfl, x, by omega, by omega, by simp only [Tr.get_set, Nat.reduceEqDiff, ↓reduceIte, Int.cast_ofNat_Int], by simp only [Tr.get_set, Nat.reduceEqDiff, ↓reduceIte, Int.cast_ofNat_Int, g9], Q2, fr_x F1 f2, by omega⟩
  · intro hv
    rw [Wk_skip, Wr_nil]
    exact ⟨rfl, rfl, j, by omega, by omega, by simp only [Tr.get_set, Nat.reduceEqDiff, ↓reduceIte, Int.cast_ofNat_Int], by simp only [Tr.get_set, Nat.reduceEqDiff, ↓reduceIte, Int.cast_ofNat_Int], Q0, F0, N0⟩
  · rintro ts s1 ⟨x, u1, v1, g11, g9, ⟨c, hc⟩, F1, N1⟩
    simp -implicitDefEqProofs only [go_sem, Wk_block, Wk_drawnC, reduceCtorEq, Nat.reduceEqDiff, Nat.reduceAdd, Nat.reduceLeDiff, Nat.reduceLT, Nat.reduceMul, Nat.reduceSub, ↓reduceIte, Int.reduceLT, Int.reduceLE, Int.reduceNeg, Int.reduceAdd, Int.reduceEq, Nat.reduceBneDiff, Nat.reduceBEq, Int.reduceToNat, Int.reduceMul, Int.reduceSub, Int.reduceBEq, Int.reduceBNe, g11, g9, hc, ft]
    refine Wi_split (fun hv => ?_) (fun hv => ?_)
    · simp -implicitDefEqProofs only [go_sem, Wk_block, Wk_drawnC, reduceCtorEq, Nat.reduceEqDiff, Nat.reduceAdd, Nat.reduceLeDiff, Nat.reduceLT, Nat.reduceMul, Nat.reduceSub, ↓reduceIte, Int.reduceLT, Int.reduceLE, Int.reduceNeg, Int.reduceAdd, Int.reduceEq, Nat.reduceBneDiff, Nat.reduceBEq, Int.reduceToNat, Int.reduceMul, Int.reduceSub, Int.reduceBEq, Int.reduceBNe, g11, ft]
      exact ⟨x, _, u1, v1, rfl, F1, N1⟩
    · simp -implicitDefEqProofs only [go_sem, Wk_block, Wk_drawnC, reduceCtorEq, Nat.reduceEqDiff, Nat.reduceAdd, Nat.reduceLeDiff, Nat.reduceLT, Nat.reduceMul, Nat.reduceSub, ↓reduceIte, Int.reduceLT, Int.reduceLE, Int.reduceNeg, Int.reduceAdd, Int.reduceEq, Nat.reduceBneDiff, Nat.reduceBEq, Int.reduceToNat, Int.reduceMul, Int.reduceSub, Int.reduceBEq, Int.reduceBNe, g11, ft]
      refine Wi_split (fun hv => ?_) (fun hv => ?_)
      · simp -implicitDefEqProofs only [go_sem, Wk_block, Wk_drawnC, reduceCtorEq, Nat.reduceEqDiff, Nat.reduceAdd, Nat.reduceLeDiff, Nat.reduceLT, Nat.reduceMul, Nat.reduceSub, ↓reduceIte, Int.reduceLT, Int.reduceLE, Int.reduceNeg, Int.reduceAdd, Int.reduceEq, Nat.reduceBneDiff, Nat.reduceBEq, Int.reduceToNat, Int.reduceMul, Int.reduceSub, Int.reduceBEq, Int.reduceBNe, g11, ft]
        exact ⟨x, _, u1, v1, rfl, F1, N1⟩
      · simp -implicitDefEqProofs only [go_sem, Wk_block, Wk_drawnC, reduceCtorEq, Nat.reduceEqDiff, Nat.reduceAdd, Nat.reduceLeDiff, Nat.reduceLT, Nat.reduceMul, Nat.reduceSub, ↓reduceIte, Int.reduceLT, Int.reduceLE, Int.reduceNeg, Int.reduceAdd, Int.reduceEq, Nat.reduceBneDiff, Nat.reduceBEq, Int.reduceToNat, Int.reduceMul, Int.reduceSub, Int.reduceBEq, Int.reduceBNe, g11, ft]
        exact ⟨x, _, u1, v1, rfl, F1, N1⟩
end Go.Proofs.Ytjejgnbdlfkenaa.Base
namespace Go.Proofs.Ytjejgnbdlfkenaa.Base
open D
set_option linter.unusedSimpArgs false
set_option linter.unusedVariables false
set_option maxRecDepth 10000

def tab8 : ByteArray := ⟨#[0, 1, 2, 2, 3, 3, 3, 3, 4, 4, 4, 4, 4, 4, 4, 4, 5, 5, 5, 5, 5, 5, 5, 5, 5, 5, 5, 5, 5, 5, 5, 5, 6, 6, 6, 6, 6, 6, 6, 6, 6, 6, 6, 6, 6, 6, 6, 6, 6, 6, 6, 6, 6, 6, 6, 6, 6, 6, 6, 6, 6, 6, 6, 6, 7, 7, 7, 7, 7, 7, 7, 7, 7, 7, 7, 7, 7, 7, 7, 7, 7, 7, 7, 7, 7, 7, 7, 7, 7, 7, 7, 7, 7, 7, 7, 7, 7, 7, 7, 7, 7, 7, 7, 7, 7, 7, 7, 7, 7, 7, 7, 7, 7, 7, 7, 7, 7, 7, 7, 7, 7, 7, 7, 7, 7, 7, 7, 7, 8, 8, 8, 8, 8, 8, 8, 8, 8, 8, 8, 8, 8, 8, 8, 8, 8, 8, 8, 8, 8, 8, 8, 8, 8, 8, 8, 8, 8, 8, 8, 8, 8, 8, 8, 8, 8, 8, 8, 8, 8, 8, 8, 8, 8, 8, 8, 8, 8, 8, 8, 8, 8, 8, 8, 8, 8, 8, 8, 8, 8, 8, 8, 8, 8, 8, 8, 8, 8, 8, 8, 8, 8, 8, 8, 8, 8, 8, 8, 8, 8, 8, 8, 8, 8, 8, 8, 8, 8, 8, 8, 8, 8, 8, 8, 8, 8, 8, 8, 8, 8, 8, 8, 8, 8, 8, 8, 8, 8, 8, 8, 8, 8, 8, 8, 8, 8, 8, 8, 8, 8, 8, 8, 8, 8, 8, 8, 8]⟩
theorem tab8_all : (List.range 256).all (fun k => match tab8[k]? with | some c => decide (c.toNat ≤ 8) && (k == 0 || decide (2 ^ c.toNat ≤ 2 * k)) | none => false) = true := by decide +kernel
theorem tab8_get (k : Nat) (h : k < 256) : ∃ c, tab8[k]? = some c ∧ c.toNat ≤ 8 ∧ (0 < k → 2 ^ c.toNat ≤ 2 * k) := by
  have := List.all_eq_true.1 tab8_all k (List.mem_range.2 h)
  cases hc : tab8[k]? with
  | none => rw [hc] at this; cases this
  | some c =>
    rw [hc] at this
    simp only [Bool.and_eq_true, Bool.or_eq_true, beq_iff_eq, decide_eq_true_eq] at this
    exact ⟨c, rfl, this.1, fun h0 => by omega⟩
theorem tab8_size : tab8.size = 256 := by decide +kernel
theorem shr_u64 {n k m : Nat} (hm : (2 : Nat) ^ k = m) : ((n : Int).fdiv (2 ^ k)) = ((n / m : Nat) : Int) := by
  rw [Int.fdiv_eq_ediv_of_nonneg _ (by exact Int.le_of_lt (Int.pow_pos (by omega))), ← hm]
  rw [Int.natCast_ediv, Int.natCast_pow]
  rfl
theorem Len64_run {n : Nat} (h : n < 16777216) (s : St) : ∃ r : Nat, r ≤ 24 ∧ (0 < n → 2 ^ r ≤ 2 * n) ∧ mm.L.call 41 [.int .u64 (n : Int)] s = some (.int .i64 (r : Int), s) := by
  have ft : (false == true) = false := rfl
  have htab : (⟨#[0, 1, 2, 2, 3, 3, 3, 3, 4, 4, 4, 4, 4, 4, 4, 4, 5, 5, 5, 5, 5, 5, 5, 5, 5, 5, 5, 5, 5, 5, 5, 5, 6, 6, 6, 6, 6, 6, 6, 6, 6, 6, 6, 6, 6, 6, 6, 6, 6, 6, 6, 6, 6, 6, 6, 6, 6, 6, 6, 6, 6, 6, 6, 6, 7, 7, 7, 7, 7, 7, 7, 7, 7, 7, 7, 7, 7, 7, 7, 7, 7, 7, 7, 7, 7, 7, 7, 7, 7, 7, 7, 7, 7, 7, 7, 7, 7, 7, 7, 7, 7, 7, 7, 7, 7, 7, 7, 7, 7, 7, 7, 7, 7, 7, 7, 7, 7, 7, 7, 7, 7, 7, 7, 7, 7, 7, 7, 7, 8, 8, 8, 8, 8, 8, 8, 8, 8, 8, 8, 8, 8, 8, 8, 8, 8, 8, 8, 8, 8, 8, 8, 8, 8, 8, 8, 8, 8, 8, 8, 8, 8, 8, 8, 8, 8, 8, 8, 8, 8, 8, 8, 8, 8, 8, 8, 8, 8, 8, 8, 8, 8, 8, 8, 8, 8, 8, 8, 8, 8, 8, 8, 8, 8, 8, 8, 8, 8, 8, 8, 8, 8, 8, 8, 8, 8, 8, 8, 8, 8, 8, 8, 8, 8, 8, 8, 8, 8, 8, 8, 8, 8, 8, 8, 8, 8, 8, 8, 8, 8, 8, 8, 8, 8, 8, 8, 8, 8, 8, 8, 8, 8, 8, 8, 8, 8, 8, 8, 8, 8, 8, 8, 8, 8, 8, 8, 8]⟩ : ByteArray) = tab8 := rfl
  have fin : ∀ (k a : Nat), k < 256 → a ≤ 16 → ∃ c, tab8[k]? = some c ∧ IntKind.u8.wrap (k : Int) = (k : Int) ∧ (0 : Int) ≤ (k : Int) ∧ (k : Int) < 256 ∧ IntKind.i64.wrap (c.toNat : Int) = (c.toNat : Int) ∧ IntKind.i64.wrap ((a : Int) + (c.toNat : Int)) = ((a + c.toNat : Nat) : Int) ∧ c.toNat ≤ 8 ∧ (0 < k → 2 ^ c.toNat ≤ 2 * k) := fun k a hk ha => by
    obtain ⟨c, h1, h2, h3⟩ := tab8_get k hk
    exact ⟨c, h1, u8_in (by omega) (by omega), by omega, by omega, i64_in (by omega) (by omega), by rw [i64_in (by omega) (by omega)]; omega, h2, h3⟩
  have w8 : IntKind.i64.wrap 8 = 8 := rfl
  have w16 : IntKind.i64.wrap 16 = 16 := rfl
  have d1 : decide ((n : Int) ≥ 4294967296) = false := decide_eq_false (by omega)
  by_cases b1 : 65536 ≤ n
  · have c1 : decide ((n : Int) ≥ 65536) = true := decide_eq_true (by omega)
    have s16 : ((n : Int).fdiv (2 ^ min 16 64)) = ((n / 65536 : Nat) : Int) := shr_u64 rfl
    obtain ⟨k, hk⟩ : ∃ k, n / 65536 = k := ⟨_, rfl⟩
    rw [hk] at s16
    have c2 : decide ((k : Int) ≥ 256) = false := decide_eq_false (by omega)
    have wk : IntKind.u64.wrap (k : Int) = (k : Int) := u64_in (by omega) (by omega)
    obtain ⟨c, q1, q2, q3, q4, q5, q6, q7, q8⟩ := fin k 16 (by omega) (by omega)
    refine ⟨16 + c.toNat, by omega, fun _ => ?_, of_Wf (Wf_enter ft41 (sm (by decide)) (by rfl) ?_)⟩
    · have := q8 (by omega)
      rw [Nat.pow_add]
      have h2 : (2 : Nat) ^ 16 = 65536 := rfl
      have h3 : k * 65536 ≤ n := by rw [← hk]; exact Nat.div_mul_le_self n 65536
      rw [h2]
      omega
    · simp -implicitDefEqProofs only [go_sem, Wk_block, Wk_drawnC, reduceCtorEq, Nat.reduceEqDiff, Nat.reduceAdd, Nat.reduceLeDiff, Nat.reduceLT, Nat.reduceMul, Nat.reduceSub, ↓reduceIte, Int.reduceLT, Int.reduceLE, Int.reduceNeg, Int.reduceAdd, Int.reduceEq, Nat.reduceBneDiff, Nat.reduceBEq, Int.reduceToNat, Int.reduceMul, Int.reduceSub, Int.reduceBEq, Int.reduceBNe, fd41, htab, tab8_size, d1, c1, c2, s16, wk, w8, w16, q1, q2, q3, q4, q5, q6, ft]
      exact congrArg (AV.int .i64) q6
  · have c1 : decide ((n : Int) ≥ 65536) = false := decide_eq_false (by omega)
    by_cases b2 : 256 ≤ n
    · have c2 : decide ((n : Int) ≥ 256) = true := decide_eq_true (by omega)
      have s8 : ((n : Int).fdiv (2 ^ min 8 64)) = ((n / 256 : Nat) : Int) := shr_u64 rfl
      obtain ⟨k, hk⟩ : ∃ k, n / 256 = k := ⟨_, rfl⟩
      rw [hk] at s8
      have wk : IntKind.u64.wrap (k : Int) = (k : Int) := u64_in (by omega) (by omega)
      obtain ⟨c, q1, q2, q3, q4, q5, q6, q7, q8⟩ := fin k 8 (by omega) (by omega)
      refine ⟨8 + c.toNat, by omega, fun _ => ?_, of_Wf (Wf_enter ft41 (sm (by decide)) (by rfl) ?_)⟩
      · have := q8 (by omega)
        rw [Nat.pow_add]
        have h2 : (2 : Nat) ^ 8 = 256 := rfl
        have h3 : k * 256 ≤ n := by rw [← hk]; exact Nat.div_mul_le_self n 256
        rw [h2]
        omega
      · simp -implicitDefEqProofs only [go_sem, Wk_block, Wk_drawnC, reduceCtorEq, Nat.reduceEqDiff, Nat.reduceAdd, Nat.reduceLeDiff, Nat.reduceLT, Nat.reduceMul, Nat.reduceSub, ↓reduceIte, Int.reduceLT, Int.reduceLE, Int.reduceNeg, Int.reduceAdd, Int.reduceEq, Nat.reduceBneDiff, Nat.reduceBEq, Int.reduceToNat, Int.reduceMul, Int.reduceSub, Int.reduceBEq, Int.reduceBNe, fd41, htab, tab8_size, d1, c1, c2, s8, wk, w8, w16, q1, q2, q3, q4, q5, q6, ft]
        exact congrArg (AV.int .i64) q6
    · have c2 : decide ((n : Int) ≥ 256) = false := decide_eq_false (by omega)
      obtain ⟨c, q1, q2, q3, q4, q5, q6, q7, q8⟩ := fin n 0 (by omega) (by omega)
      refine ⟨0 + c.toNat, by omega, fun h0 => by rw [Nat.zero_add]; exact q8 h0, of_Wf (Wf_enter ft41 (sm (by decide)) (by rfl) ?_)⟩
      simp -implicitDefEqProofs only [go_sem, Wk_block, Wk_drawnC, reduceCtorEq, Nat.reduceEqDiff, Nat.reduceAdd, Nat.reduceLeDiff, Nat.reduceLT, Nat.reduceMul, Nat.reduceSub, ↓reduceIte, Int.reduceLT, Int.reduceLE, Int.reduceNeg, Int.reduceAdd, Int.reduceEq, Nat.reduceBneDiff, Nat.reduceBEq, Int.reduceToNat, Int.reduceMul, Int.reduceSub, Int.reduceBEq, Int.reduceBNe, fd41, htab, tab8_size, d1, c1, c2, w8, w16, q1, q2, q3, q4, q5, q6, ft]
      exact congrArg (AV.int .i64) (show IntKind.i64.wrap (0 + (c.toNat : Int)) = (c.toNat : Int) by rw [Int.zero_add]; exact q5)
theorem Len_run {n : Nat} (h : n < 16777216) (s : St) : ∃ r : Nat, r ≤ 24 ∧ (0 < n → 2 ^ r ≤ 2 * n) ∧ mm.L.call 25 [.int .u64 (n : Int)] s = some (.int .i64 (r : Int), s) := by
  have ft : (false == true) = false := rfl
  obtain ⟨r, h1, h2, h3⟩ := Len64_run h s
  refine ⟨r, h1, h2, of_Wf (Wf_enter ft25 (sm (by decide)) (by rfl) ?_)⟩
  simp -implicitDefEqProofs only [go_sem, Wk_block, Wk_drawnC, reduceCtorEq, Nat.reduceEqDiff, Nat.reduceAdd, Nat.reduceLeDiff, Nat.reduceLT, Nat.reduceMul, Nat.reduceSub, ↓reduceIte, Int.reduceLT, Int.reduceLE, Int.reduceNeg, Int.reduceAdd, Int.reduceEq, Nat.reduceBneDiff, Nat.reduceBEq, Int.reduceToNat, Int.reduceMul, Int.reduceSub, Int.reduceBEq, Int.reduceBNe, fd25, Wl_eq h3, ft]
theorem Pow_run {n : Nat} (h0 : 0 < n) (h : n < 1000000) (s : St) : ∃ m : Nat, 0 < m ∧ m ≤ 2 * n ∧ mm.L.call 53 [.int .i64 (n : Int)] s = some (.int .u64 (m : Int), s) := by
  have ft : (false == true) = false := rfl
  obtain ⟨r, h1, h2, h3⟩ := Len_run (n := n) (by omega) s
  have h4 := h2 h0
  have wn : IntKind.u64.wrap (n : Int) = (n : Int) := u64_in (by omega) (by omega)
  refine ⟨2 ^ r, Nat.pow_pos (by omega), h4, of_Wf (Wf_enter ft53 (sm (by decide)) (by rfl) ?_)⟩
  have c1 : decide ((r : Int) < 0) = false := decide_eq_false (by omega)
  have c2 : ¬ (r : Int) < 0 := by omega
  have e : IntKind.u64.wrap (1 * 2 ^ min r 64) = ((2 ^ r : Nat) : Int) := by
    have e2 : ((2 ^ r : Nat) : Int) = 2 ^ r := by simp
    rw [Int.one_mul, show min r 64 = r by omega, ← e2]
    obtain ⟨z, hz⟩ : ∃ z, 2 ^ r = z := ⟨_, rfl⟩
    rw [hz] at h4 ⊢
    exact u64_in (by omega) (by omega)
  simp -implicitDefEqProofs only [go_sem, Wk_block, Wk_drawnC, reduceCtorEq, Nat.reduceEqDiff, Nat.reduceAdd, Nat.reduceLeDiff, Nat.reduceLT, Nat.reduceMul, Nat.reduceSub, ↓reduceIte, Int.reduceLT, Int.reduceLE, Int.reduceNeg, Int.reduceAdd, Int.reduceEq, Nat.reduceBneDiff, Nat.reduceBEq, Int.reduceToNat, Int.reduceMul, Int.reduceSub, Int.reduceBEq, Int.reduceBNe, fd53, Wl_eq h3, wn, c1, c2, Int.toNat_natCast, e, IntKind.bits, ft]
/-- The numbers that break patterns. -/
def Rnd (s : St) (q : Nat) : Prop := ∃ c : Int, s.get q = some (.cells [.int .u64 c] false false 0)
theorem Next_run {s : St} {q : Nat} (hq : Rnd s q) : Wf mm 54 [.ptr q 0] s fun v s' => ∃ y : Int, v = .int .u64 y ∧ Rnd s' q ∧ FrX q s s' ∧ s'.next = s.next := by
  refine Wf_enter ft54 (sm (by decide)) (by rfl) ?_
  have ft : (false == true) = false := rfl
  obtain ⟨c, hc⟩ := hq
  simp -implicitDefEqProofs only [go_sem, Wk_block, Wk_drawnC, reduceCtorEq, Nat.reduceEqDiff, Nat.reduceAdd, Nat.reduceLeDiff, Nat.reduceLT, Nat.reduceMul, Nat.reduceSub, ↓reduceIte, Int.reduceLT, Int.reduceLE, Int.reduceNeg, Int.reduceAdd, Int.reduceEq, Nat.reduceBneDiff, Nat.reduceBEq, Int.reduceToNat, Int.reduceMul, Int.reduceSub, Int.reduceBEq, Int.reduceBNe, fd54, hc, ft]
  exact ⟨_, rfl, ⟨_, by rw [St.get_put, if_pos rfl]⟩, (FrX.refl _ _).put (.inl rfl) _⟩
theorem and_le (x : Int) {m : Nat} (hm : m < 18446744073709551616) : ((BitVec.ofInt 64 x) &&& (BitVec.ofInt 64 (m : Int))).toNat ≤ m := by
  rw [BitVec.toNat_and]
  refine Nat.le_trans Nat.and_le_right ?_
  rw [BitVec.ofInt_natCast, BitVec.toNat_ofNat]
  exact Nat.mod_le _ _
theorem frx_then {x : Nat} {a b c : St} (h : FrX x a b) (hn : b.next ≤ c.next) (k : ∀ y, y < a.next → c.get y = b.get y) : FrX x a c := ⟨Nat.le_trans h.le hn, fun y hy hx => (k y hy).trans (h.get y hy hx)⟩
theorem Break_run {d0 : Array Int} {n a b p : Nat} {s : St} (hA0 : Arr s p d0) (hn : d0.size = n) (hab : a < b) (hbn : b ≤ n) (hn9 : n < 1000000) (hp : p < s.next) :
    Wf mm 45 [.slice p 0 n n true, .int .i64 (a : Int), .int .i64 (b : Int)] s fun _ s' => ∃ d, Go.Sort.PermIn a b d0 d ∧ Arr s' p d ∧ FrX p s s' ∧ s'.next ≤ s.next + 1 := by
  refine Wf_enter ft45 (sm (by decide)) (by rfl) ?_
  have ft : (false == true) = false := rfl
  have wab := sub_in (i := b) (j := a) (by omega) (by omega)
  obtain ⟨l, hl⟩ : ∃ l, b - a = l := ⟨_, rfl⟩
  rw [hl] at wab
  by_cases h8 : 8 ≤ l
  rotate_left
  · have c1 : decide ((l : Int) ≥ 8) = false := decide_eq_false (by omega)
    simp -implicitDefEqProofs only [go_sem, Wk_block, Wk_drawnC, reduceCtorEq, Nat.reduceEqDiff, Nat.reduceAdd, Nat.reduceLeDiff, Nat.reduceLT, Nat.reduceMul, Nat.reduceSub, ↓reduceIte, Int.reduceLT, Int.reduceLE, Int.reduceNeg, Int.reduceAdd, Int.reduceEq, Nat.reduceBneDiff, Nat.reduceBEq, Int.reduceToNat, Int.reduceMul, Int.reduceSub, Int.reduceBEq, Int.reduceBNe, fd45, wab, c1, ft]
    exact ⟨d0, Go.Sort.permIn_refl _ _ _, hA0, FrX.refl _ _, by omega⟩
  have c1 : decide ((l : Int) ≥ 8) = true := decide_eq_true (by omega)
  have wl : IntKind.u64.wrap (l : Int) = (l : Int) := u64_in (by omega) (by omega)
  simp -implicitDefEqProofs only [go_sem, Wk_block, Wk_drawnC, reduceCtorEq, Nat.reduceEqDiff, Nat.reduceAdd, Nat.reduceLeDiff, Nat.reduceLT, Nat.reduceMul, Nat.reduceSub, ↓reduceIte, Int.reduceLT, Int.reduceLE, Int.reduceNeg, Int.reduceAdd, Int.reduceEq, Nat.reduceBneDiff, Nat.reduceBEq, Int.reduceToNat, Int.reduceMul, Int.reduceSub, Int.reduceBEq, Int.reduceBNe, fd45, wab, c1, wl, ft]
  have hpq : p ≠ s.next := by omega
  have F0 : FrX p s (s.new (.cells [.int .u64 (l : Int)] false false 0)) := ((Fr.refl s).new _).x p
  have A0 : Arr (s.new (.cells [.int .u64 (l : Int)] false false 0)) p d0 := by unfold Arr; rw [St.get_new, if_neg hpq]; exact hA0
  have Q0 : Rnd (s.new (.cells [.int .u64 (l : Int)] false false 0)) s.next := ⟨l, by rw [St.get_new, if_pos rfl]⟩
  have N0 : (s.new (.cells [.int .u64 (l : Int)] false false 0)).next = s.next + 1 := by rw [St.next_new]
  generalize s.new (.cells [.int .u64 (l : Int)] false false 0) = s0 at F0 A0 Q0 N0 ⊢
  obtain ⟨M, hM0, hM, hMr⟩ := Pow_run (n := l) (by omega) (by omega) s0
  obtain ⟨M1, hM1⟩ : ∃ x, M = x + 1 := ⟨M - 1, by omega⟩
  have wM : IntKind.u64.wrap ((M : Int) - 1) = (M1 : Int) := by rw [u64_in (by omega) (by omega)]; omega
  have wq : IntKind.i64.wrap ((l : Int).tdiv 4) = ((l / 4 : Nat) : Int) := quo_in (k := 4) (by omega)
  obtain ⟨r, hr⟩ : ∃ r, l / 4 = r := ⟨_, rfl⟩
  rw [hr] at wq
  have m2 : IntKind.i64.wrap ((r : Int) * 2) = ((r * 2 : Nat) : Int) := mul_in (k := 2) (by omega)
  obtain ⟨r2, hr2⟩ : ∃ x, r * 2 = x := ⟨_, rfl⟩
  rw [hr2] at m2
  have p2 := add_in (i := a) (j := r2) (by omega)
  obtain ⟨z, hz⟩ : ∃ x, a + r2 = x := ⟨_, rfl⟩
  rw [hz] at p2
  obtain ⟨z0, hz0⟩ : ∃ x, z = x + 1 := ⟨z - 1, by omega⟩
  have wz0 := pred_of hz0 (by omega)
  have wz1 := succ_in (j := z) (by omega)
  simp -implicitDefEqProofs only [go_sem, Wk_block, Wk_drawnC, reduceCtorEq, Nat.reduceEqDiff, Nat.reduceAdd, Nat.reduceLeDiff, Nat.reduceLT, Nat.reduceMul, Nat.reduceSub, ↓reduceIte, Int.reduceLT, Int.reduceLE, Int.reduceNeg, Int.reduceAdd, Int.reduceEq, Nat.reduceBneDiff, Nat.reduceBEq, Int.reduceToNat, Int.reduceMul, Int.reduceSub, Int.reduceBEq, Int.reduceBNe, Wl_eq hMr, wq, m2, p2, wz0, ft]
  refine loop_ind (fun m ts s' => ∃ (x : Nat) (d : Array Int), m = z + 2 - x ∧ z0 ≤ x ∧ ts.get 9 = some (.int .i64 (x : Int)) ∧ ts.get 0 = some (.slice p 0 n n true) ∧ ts.get 1 = some (.int .i64 (a : Int)) ∧ ts.get 6 = some (.int .i64 (l : Int)) ∧ ts.get 7 = some (.ptr s.next 0) ∧ ts.get 8 = some (.int .u64 (M : Int)) ∧
    Go.Sort.PermIn a b d0 d ∧ d.size = n ∧ Arr s' p d ∧ Rnd s' s.next ∧ FrX p s s' ∧ s'.next = s.next + 1) ?_ (n := z + 2 - z0)
    ⟨z0, d0, rfl, Nat.le_refl _, by simp only [Tr.get_set, Nat.reduceEqDiff, ↓reduceIte, Int.cast_ofNat_Int], by simp only [Tr.get_set, Nat.reduceEqDiff, ↓reduceIte, Int.cast_ofNat_Int], by simp only [Tr.get_set, Nat.reduceEqDiff, ↓reduceIte, Int.cast_ofNat_Int], by simp only [Tr.get_set, Nat.reduceEqDiff, ↓reduceIte, Int.cast_ofNat_Int], by simp only [Tr.get_set, Nat.reduceEqDiff, ↓reduceIte, Int.cast_ofNat_Int], by simp only [Tr.get_set, Nat.reduceEqDiff, ↓reduceIte, Int.cast_ofNat_Int], Go.Sort.permIn_refl _ _ _, hn, A0, Q0, F0, N0⟩
  rintro _ ts s1 ⟨x, d, rfl, hx, g9, g0, g1, g6, g7, g8, hpm, hd, hA, hQ, hF, hN⟩ IH
  by_cases hxz : x ≤ z + 1
  rotate_left
  · have c2 : decide (x ≤ z + 1) = false := decide_eq_false hxz
    simp -implicitDefEqProofs only [go_sem, Wk_block, Wk_drawnC, reduceCtorEq, Nat.reduceEqDiff, Nat.reduceAdd, Nat.reduceLeDiff, Nat.reduceLT, Nat.reduceMul, Nat.reduceSub, ↓reduceIte, Int.reduceLT, Int.reduceLE, Int.reduceNeg, Int.reduceAdd, Int.reduceEq, Nat.reduceBneDiff, Nat.reduceBEq, Int.reduceToNat, Int.reduceMul, Int.reduceSub, Int.reduceBEq, Int.reduceBNe, g9, g1, g6, wq, m2, p2, wz1, c2, ft]
    exact ⟨d, hpm, hA, hF, by omega⟩
  have c2 : decide (x ≤ z + 1) = true := decide_eq_true hxz
  simp -implicitDefEqProofs only [go_sem, Wk_block, Wk_drawnC, reduceCtorEq, Nat.reduceEqDiff, Nat.reduceAdd, Nat.reduceLeDiff, Nat.reduceLT, Nat.reduceMul, Nat.reduceSub, ↓reduceIte, Int.reduceLT, Int.reduceLE, Int.reduceNeg, Int.reduceAdd, Int.reduceEq, Nat.reduceBneDiff, Nat.reduceBEq, Int.reduceToNat, Int.reduceMul, Int.reduceSub, Int.reduceBEq, Int.reduceBNe, g9, g1, g6, g7, wq, m2, p2, wz1, c2, ft]
  refine Wl_of (Next_run hQ) ?_
  rintro w s2 ⟨y, rfl, hQ2, hF2, hN2⟩
  have hA2 := arr_fr hA hF2 (by have := hF.le; omega) hpq
  have hF3 : FrX p s s2 := frx_then hF (by omega) fun y hy => hF2.get y (Nat.lt_of_lt_of_le hy hF.le) (by omega)
  have hand := and_le y (m := M1) (by omega)
  obtain ⟨A, hAe⟩ : ∃ A, (@BitVec.toNat 64 (@HAnd.hAnd (BitVec 64) (BitVec 64) (BitVec 64) (@instHAndOfAndOp (BitVec IntKind.u64.bits) (@BitVec.instAndOp IntKind.u64.bits)) (BitVec.ofInt 64 y) (BitVec.ofInt 64 (M1 : Int)))) = A := ⟨_, rfl⟩
  have hand : A ≤ M1 := by rw [← hAe]; exact hand
  have wA : IntKind.u64.wrap (A : Int) = (A : Int) := u64_in (by omega) (by omega)
  have wA2 : IntKind.i64.wrap (A : Int) = (A : Int) := i64_in (by omega) (by omega)
  simp -implicitDefEqProofs only [go_sem, Wk_block, Wk_drawnC, reduceCtorEq, Nat.reduceEqDiff, Nat.reduceAdd, Nat.reduceLeDiff, Nat.reduceLT, Nat.reduceMul, Nat.reduceSub, ↓reduceIte, Int.reduceLT, Int.reduceLE, Int.reduceNeg, Int.reduceAdd, Int.reduceEq, Nat.reduceBneDiff, Nat.reduceBEq, Int.reduceToNat, Int.reduceMul, Int.reduceSub, Int.reduceBEq, Int.reduceBNe, g6, g8, wM, hAe, wA, wA2, ft]
  refine Wi_cut (fun ts s' => ∃ o : Nat, o < l ∧ ts.get 10 = some (.int .i64 (o : Int)) ∧ ts.get 9 = some (.int .i64 (x : Int)) ∧ ts.get 0 = some (.slice p 0 n n true) ∧ ts.get 1 = some (.int .i64 (a : Int)) ∧ ts.get 6 = some (.int .i64 (l : Int)) ∧ ts.get 7 = some (.ptr s.next 0) ∧ ts.get 8 = some (.int .u64 (M : Int)) ∧ s2 = s') ?_ ?_ ?_
  · intro hv
    have hAl : l ≤ A := by have := of_decide_eq_true hv; omega
    have wS := sub_in (i := A) (j := l) hAl (by omega)
    simp -implicitDefEqProofs only [go_sem, Wk_block, Wk_drawnC, reduceCtorEq, Nat.reduceEqDiff, Nat.reduceAdd, Nat.reduceLeDiff, Nat.reduceLT, Nat.reduceMul, Nat.reduceSub, ↓reduceIte, Int.reduceLT, Int.reduceLE, Int.reduceNeg, Int.reduceAdd, Int.reduceEq, Nat.reduceBneDiff, Nat.reduceBEq, Int.reduceToNat, Int.reduceMul, Int.reduceSub, Int.reduceBEq, Int.reduceBNe, g6, wS, ft]
    rw [Wr_nil]
    exact ⟨rfl, rfl, A - l, by omega, by simp only [Tr.get_set, Nat.reduceEqDiff, ↓reduceIte, Int.cast_ofNat_Int], by simp only [Tr.get_set, Nat.reduceEqDiff, ↓reduceIte, Int.cast_ofNat_Int, g9], by simp only [Tr.get_set, Nat.reduceEqDiff, ↓reduceIte, Int.cast_ofNat_Int, g0], by simp only [Tr.get_set, Nat.reduceEqDiff, ↓reduceIte, Int.cast_ofNat_Int, g1], by simp only [Tr.get_set, Nat.reduceEqDiff, ↓reduceIte, Int.cast_ofNat_Int, g6], by simp only [Tr.get_set, Nat.reduceEqDiff, ↓reduceIte, Int.cast_ofNat_Int, g7], by simp only [Tr.get_set, Nat.reduceEqDiff, ↓reduceIte, Int.cast_ofNat_Int, g8], rfl⟩
  · intro hv
    have hAl : ¬ l ≤ A := by have := of_decide_eq_false hv; omega
    rw [Wk_skip, Wr_nil]
    exact ⟨rfl, rfl, A, by omega, by simp only [Tr.get_set, Nat.reduceEqDiff, ↓reduceIte, Int.cast_ofNat_Int], by simp only [Tr.get_set, Nat.reduceEqDiff, ↓reduceIte, Int.cast_ofNat_Int, g9], by simp only [Tr.get_set, Nat.reduceEqDiff, ↓reduceIte, Int.cast_ofNat_Int, g0], by simp only [Tr.get_set, Nat.reduceEqDiff, ↓reduceIte, Int.cast_ofNat_Int, g1], by simp only [Tr.get_set, Nat.reduceEqDiff, ↓reduceIte, Int.cast_ofNat_Int, g6], by simp only [Tr.get_set, Nat.reduceEqDiff, ↓reduceIte, Int.cast_ofNat_Int, g7], by simp only [Tr.get_set, Nat.reduceEqDiff, ↓reduceIte, Int.cast_ofNat_Int, g8], rfl⟩
  clear g9 g0 g1 g6 g7 g8
  rintro ts _ ⟨o, ho, g10, g9, g0, g1, g6, g7, g8, rfl⟩
  have wao := add_in (i := a) (j := o) (by omega)
  obtain ⟨v, hv⟩ : ∃ v, a + o = v := ⟨_, rfl⟩
  rw [hv] at wao
  have wx := succ_in (j := x) (by omega)
  have a1q := ar_get (d := d) (i := x) (by omega)
  have a2q := ar_get (d := d) (i := v) (by omega)
  have u1q := ar_set (d := d) (i := x) (by omega) d[v]!
  have u2q := ar_set (d := d.setIfInBounds x d[v]!) (i := v) (by rw [set_size]; omega) d[x]!
  have l1q : x + 1 ≤ (ar d).length := by rw [ar_len]; omega
  have l2q : v + 1 ≤ (ar (d.setIfInBounds x d[v]!)).length := by rw [ar_len, set_size]; omega
  have x1q := idxA (p := p) (n := n) (i := x) (by omega)
  have x2q := idxA (p := p) (n := n) (i := v) (by omega)
  have u2q := ar_swp (d := d) (i := x) (j := v) (by omega)
  simp -implicitDefEqProofs only [go_sem, Wk_block, Wk_drawnC, reduceCtorEq, Nat.reduceEqDiff, Nat.reduceAdd, Nat.reduceLeDiff, Nat.reduceLT, Nat.reduceMul, Nat.reduceSub, ↓reduceIte, Int.reduceLT, Int.reduceLE, Int.reduceNeg, Int.reduceAdd, Int.reduceEq, Nat.reduceBneDiff, Nat.reduceBEq, Int.reduceToNat, Int.reduceMul, Int.reduceSub, Int.reduceBEq, Int.reduceBNe, g10, g9, g0, g1, wao, wx, hA2, a1q, a2q, u1q, u2q, l1q, l2q, x1q, x2q, uI_cells, uI_cell, ft]
  have hqp : s.next ≠ p := fun h => hpq h.symm
  exact IH (z + 2 - (x + 1)) _ _ (by omega) ⟨x + 1, _, rfl, by omega, by simp only [Tr.get_set, Nat.reduceEqDiff, ↓reduceIte, Int.cast_ofNat_Int], by simp only [Tr.get_set, Nat.reduceEqDiff, ↓reduceIte, Int.cast_ofNat_Int, g0], by simp only [Tr.get_set, Nat.reduceEqDiff, ↓reduceIte, Int.cast_ofNat_Int, g1], by simp only [Tr.get_set, Nat.reduceEqDiff, ↓reduceIte, Int.cast_ofNat_Int, g6], by simp only [Tr.get_set, Nat.reduceEqDiff, ↓reduceIte, Int.cast_ofNat_Int, g7], by simp only [Tr.get_set, Nat.reduceEqDiff, ↓reduceIte, Int.cast_ofNat_Int, g8],
    Go.Sort.permIn_trans _ _ _ _ _ hpm (Go.Sort.swp_permIn _ _ _ _ _ (by omega) (by omega) (by omega) (by omega) (by omega)), by rw [swp_size]; exact hd, arr_put _ _ _, by obtain ⟨c, hc⟩ := hQ2; exact ⟨c, by rw [St.get_put, if_neg hqp]; exact hc⟩, hF3.put (.inl rfl) _, by rw [St.next_put]; omega⟩
end Go.Proofs.Ytjejgnbdlfkenaa.Base
