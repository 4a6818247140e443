/- keep: which snapshots go.
keep: which snapshots go, after the document.
keep: the laws.
keep: what is left and kept again: the law. -/
import Derived.Test.YtjejgnbdlfkenaaZk
namespace Go.Proofs.Ytjejgnbdlfkenaa
open D Base
set_option linter.unusedSimpArgs false
set_option linter.unusedVariables false
set_option maxRecDepth 10000

/-- The labels of those that are not there. -/
def goesS (K : List Lb) (l : List Sn) : List Lb := (l.filter fun x => !decide (x.l ∈ K)).map (·.l)
theorem goesS_take {K : List Lb} {l : List Sn} {j : Nat} (hj : j < l.length) : goesS K (l.take (j + 1)) = if decide (l[j].l ∈ K) = true then goesS K (l.take j) else goesS K (l.take j) ++ [l[j].l] := by
  unfold goesS
  rw [List.take_succ_eq_append_getElem hj, List.filter_append, List.map_append]
  cases h : decide (l[j].l ∈ K)
  · rw [if_neg (by simp)]
    congr 1
    rw [List.filter_cons_of_pos (by rw [h]; rfl)]
    rfl
  · rw [if_pos rfl, List.filter_cons_of_neg (by rw [h]; simp)]
    simp
theorem goesS_len (K : List Lb) (l : List Sn) : (goesS K l).length ≤ l.length := by
  unfold goesS
  rw [List.length_map]
  exact List.length_filter_le _ _
theorem Goes_run {k : Kp} (hk : KpOk k) {l : List Sn} (hl : l.length ≤ 60) (hr : Rises l) (h0 : ∀ x ∈ l, SnOk x) {v m : AV} {s : St} (hS : Sns s v l) {M : List Lb} (hM : Lbs s m M) (hMl : M.length ≤ 100000) :
    Wf mm 11 [.agg k.enc, v, m] s fun w s' => Out s' s.next w (goesS (pickS k.last k.span k.spans l l ++ M) l) ∧ Fr s s' := by
  refine Wf_enter ft11 (sm (by decide)) (by rfl) ?_
  have ft : (false == true) = false := rfl
  obtain ⟨a, ha⟩ : ∃ a, s.next = a := ⟨_, rfl⟩
  simp -implicitDefEqProofs only [go_sem, Wk_block, Wk_drawnC, reduceCtorEq, Nat.reduceEqDiff, Nat.reduceAdd, Nat.reduceLeDiff, Nat.reduceLT, Nat.reduceMul, Nat.reduceSub, ↓reduceIte, Int.reduceLT, Int.reduceLE, Int.reduceNeg, Int.reduceAdd, Int.reduceEq, Nat.reduceBneDiff, Nat.reduceBEq, Int.reduceToNat, Int.reduceMul, Int.reduceSub, Int.reduceBEq, Int.reduceBNe, fd11, ha, ft]
  have f0 : Fr s (s.new (.cells k.enc false false 0)) := (Fr.refl s).new _
  have hn0 : (s.new (.cells k.enc false false 0)).next = a + 1 := by rw [St.next_new, ha]
  refine Wl_of (Kept_run hk hl hr h0 (hS.mono f0)) ?_
  rintro w1 s1 ⟨hC, f1⟩
  rw [hn0] at hC
  have f01 := f0.trans f1
  have hpl : (pickS k.last k.span k.spans l l).length ≤ l.length := by
    have := (pickS_sub k.last k.span k.spans l l).length_le
    rwa [List.length_map] at this
  obtain ⟨w2, s2, happ, hRd, hn2, hfr2⟩ := hC.append (by have := f1.le; omega) M (by omega)
  have f2 : Fr s s2 := ⟨by have := f01.le; omega, fun b hb => (hfr2 b (by omega)).trans (f01.get b hb)⟩
  have hsrc := hM.src s1 f01
  have hlen := hS.rd.len
  rw [List.length_map] at hlen
  simp -implicitDefEqProofs only [go_sem, Wk_block, Wk_drawnC, reduceCtorEq, Nat.reduceEqDiff, Nat.reduceAdd, Nat.reduceLeDiff, Nat.reduceLT, Nat.reduceMul, Nat.reduceSub, ↓reduceIte, Int.reduceLT, Int.reduceLE, Int.reduceNeg, Int.reduceAdd, Int.reduceEq, Nat.reduceBneDiff, Nat.reduceBEq, Int.reduceToNat, Int.reduceMul, Int.reduceSub, Int.reduceBEq, Int.reduceBNe, hsrc, lflat_len, happ, hlen, ft]
  generalize pickS k.last k.span k.spans l l ++ M = K at hRd ⊢
  have hn2' : a + 1 ≤ s2.next := by have := f1.le; omega
  refine loop_ind (fun n ts s' => ∃ (j : Nat) (w : AV), n = l.length - j ∧ j ≤ l.length ∧ ts.get 18 = some (.int .i64 (j : Int)) ∧ ts.get 17 = some (.int .i64 (l.length : Int)) ∧ ts.get 16 = some v ∧ ts.get 7 = some w2 ∧ ts.get 8 = some w ∧ Out s' s2.next w (goesS K (l.take j)) ∧ Fr s2 s') ?_ (n := l.length)
    ⟨0, .nilSlice, rfl, by omega, by simp only [go_sem, Wk_block, Wk_drawnC, reduceCtorEq, Nat.reduceEqDiff, Nat.reduceAdd, Nat.reduceLeDiff, Nat.reduceLT, Nat.reduceMul, Nat.reduceSub, ↓reduceIte, Int.reduceLT, Int.reduceLE, Int.reduceNeg, Int.reduceAdd, Int.reduceEq, Nat.reduceBneDiff, Nat.reduceBEq, Int.reduceToNat, Int.reduceMul, Int.reduceSub, Int.reduceBEq, Int.reduceBNe], by simp only [go_sem, Wk_block, Wk_drawnC, reduceCtorEq, Nat.reduceEqDiff, Nat.reduceAdd, Nat.reduceLeDiff, Nat.reduceLT, Nat.reduceMul, Nat.reduceSub, ↓reduceIte, Int.reduceLT, Int.reduceLE, Int.reduceNeg, Int.reduceAdd, Int.reduceEq, Nat.reduceBneDiff, Nat.reduceBEq, Int.reduceToNat, Int.reduceMul, Int.reduceSub, Int.reduceBEq, Int.reduceBNe], by simp only [go_sem, Wk_block, Wk_drawnC, reduceCtorEq, Nat.reduceEqDiff, Nat.reduceAdd, Nat.reduceLeDiff, Nat.reduceLT, Nat.reduceMul, Nat.reduceSub, ↓reduceIte, Int.reduceLT, Int.reduceLE, Int.reduceNeg, Int.reduceAdd, Int.reduceEq, Nat.reduceBneDiff, Nat.reduceBEq, Int.reduceToNat, Int.reduceMul, Int.reduceSub, Int.reduceBEq, Int.reduceBNe], by simp only [go_sem, Wk_block, Wk_drawnC, reduceCtorEq, Nat.reduceEqDiff, Nat.reduceAdd, Nat.reduceLeDiff, Nat.reduceLT, Nat.reduceMul, Nat.reduceSub, ↓reduceIte, Int.reduceLT, Int.reduceLE, Int.reduceNeg, Int.reduceAdd, Int.reduceEq, Nat.reduceBneDiff, Nat.reduceBEq, Int.reduceToNat, Int.reduceMul, Int.reduceSub, Int.reduceBEq, Int.reduceBNe], by simp only [go_sem, Wk_block, Wk_drawnC, reduceCtorEq, Nat.reduceEqDiff, Nat.reduceAdd, Nat.reduceLeDiff, Nat.reduceLT, Nat.reduceMul, Nat.reduceSub, ↓reduceIte, Int.reduceLT, Int.reduceLE, Int.reduceNeg, Int.reduceAdd, Int.reduceEq, Nat.reduceBneDiff, Nat.reduceBEq, Int.reduceToNat, Int.reduceMul, Int.reduceSub, Int.reduceBEq, Int.reduceBNe], .inl ⟨rfl, rfl⟩, Fr.refl _⟩
  rintro _ ts s3 ⟨j, w, rfl, hj, g18, g17, g16, g7, g8, ho, f3⟩ IH
  by_cases hlt : j < l.length
  rotate_left
  · rw [List.take_of_length_le (by omega)] at ho
    simp -implicitDefEqProofs only [go_sem, Wk_block, Wk_drawnC, reduceCtorEq, Nat.reduceEqDiff, Nat.reduceAdd, Nat.reduceLeDiff, Nat.reduceLT, Nat.reduceMul, Nat.reduceSub, ↓reduceIte, Int.reduceLT, Int.reduceLE, Int.reduceNeg, Int.reduceAdd, Int.reduceEq, Nat.reduceBneDiff, Nat.reduceBEq, Int.reduceToNat, Int.reduceMul, Int.reduceSub, Int.reduceBEq, Int.reduceBNe, g18, g17, g8, hlt, ft]
    refine ⟨?_, f2.trans f3⟩
    rcases ho with h | ⟨p, h1, h2, h3, h4, h5⟩
    · exact .inl h
    · exact .inr ⟨p, h1, h2, by omega, h4, h5⟩
  have hjl : j < (l.map Sn.enc).length := by rw [List.length_map]; exact hlt
  obtain ⟨b1, o1, vs1, lo3, ro1, z1, hidx1, hg1, hle1, heq1, hbl1⟩ := ((hS.rd.mono f2).mono f3).at_ hjl
  rw [List.getElem_map] at heq1
  have w18 := succ_in (j := j) (by omega)
  have hle4 : o1 + (j * 4 + 4) ≤ vs1.length := by omega
  have htk := goesS_take (K := K) hlt
  have hgl := goesS_len K (l.take j)
  rw [List.length_take] at hgl
  generalize l[j] = x at heq1 htk
  have heq2 := heq1
  unfold Sn.enc at heq2
  have f5 : Fr s2 (s3.new (.cells [.int .u32 x.l.e, .int .u32 x.l.q, .int .i64 x.r, .int .u32 x.t] false false 0)) := f3.new _
  simp -implicitDefEqProofs only [go_sem, Wk_block, Wk_drawnC, reduceCtorEq, Nat.reduceEqDiff, Nat.reduceAdd, Nat.reduceLeDiff, Nat.reduceLT, Nat.reduceMul, Nat.reduceSub, ↓reduceIte, Int.reduceLT, Int.reduceLE, Int.reduceNeg, Int.reduceAdd, Int.reduceEq, Nat.reduceBneDiff, Nat.reduceBEq, Int.reduceToNat, Int.reduceMul, Int.reduceSub, Int.reduceBEq, Int.reduceBNe, g18, g17, g16, g7, g8, hlt, hidx1, hg1, hle1, hle4, heq2, w18, ft]
  refine Wl_of (Has_run (hRd.mono f5) x.l) ?_
  rintro w9 s5 ⟨rfl, f9⟩
  have hF5 := f5.trans f9
  have hN5 : s3.next < s5.next := by have := f9.le; rw [St.next_new] at this; omega
  have hx5 : s5.get s3.next = some (.cells [.int .u32 x.l.e, .int .u32 x.l.q, .int .i64 x.r, .int .u32 x.t] false false 0) := (f9.get s3.next (by rw [St.next_new]; omega)).trans (by rw [St.get_new, if_pos rfl])
  have hoL := (ho.fr ((Fr.refl s3).new (.cells [.int .u32 x.l.e, .int .u32 x.l.q, .int .i64 x.r, .int .u32 x.t] false false 0))).fr f9
  have hce := hoL.cell
  cases hin : decide (x.l ∈ K)
  · rw [hin, if_neg (by simp)] at htk
    have hs2 := f3.le
    obtain ⟨w', s6, happ6, ho6, hnx, hfr⟩ := (hoL.new (.cells [.int .u32 x.l.e, .int .u32 x.l.q] false false 0)).push (by simp only [St.next_new]; omega) (by omega) x.l
    simp -implicitDefEqProofs only [go_sem, Wk_block, Wk_drawnC, reduceCtorEq, Nat.reduceEqDiff, Nat.reduceAdd, Nat.reduceLeDiff, Nat.reduceLT, Nat.reduceMul, Nat.reduceSub, ↓reduceIte, Int.reduceLT, Int.reduceLE, Int.reduceNeg, Int.reduceAdd, Int.reduceEq, Nat.reduceBneDiff, Nat.reduceBEq, Int.reduceToNat, Int.reduceMul, Int.reduceSub, Int.reduceBEq, Int.reduceBNe, g18, g17, g16, g7, g8, hin, hx5, w18, hce, srcA, happ6, Bool.not_false, ft]
    simp only [St.next_new] at hnx
    refine IH (l.length - (j + 1)) _ _ (by omega) ⟨j + 1, w', rfl, by omega, by simp only [go_sem, Wk_block, Wk_drawnC, reduceCtorEq, Nat.reduceEqDiff, Nat.reduceAdd, Nat.reduceLeDiff, Nat.reduceLT, Nat.reduceMul, Nat.reduceSub, ↓reduceIte, Int.reduceLT, Int.reduceLE, Int.reduceNeg, Int.reduceAdd, Int.reduceEq, Nat.reduceBneDiff, Nat.reduceBEq, Int.reduceToNat, Int.reduceMul, Int.reduceSub, Int.reduceBEq, Int.reduceBNe], by simp only [go_sem, Wk_block, Wk_drawnC, reduceCtorEq, Nat.reduceEqDiff, Nat.reduceAdd, Nat.reduceLeDiff, Nat.reduceLT, Nat.reduceMul, Nat.reduceSub, ↓reduceIte, Int.reduceLT, Int.reduceLE, Int.reduceNeg, Int.reduceAdd, Int.reduceEq, Nat.reduceBneDiff, Nat.reduceBEq, Int.reduceToNat, Int.reduceMul, Int.reduceSub, Int.reduceBEq, Int.reduceBNe, g17], by simp only [go_sem, Wk_block, Wk_drawnC, reduceCtorEq, Nat.reduceEqDiff, Nat.reduceAdd, Nat.reduceLeDiff, Nat.reduceLT, Nat.reduceMul, Nat.reduceSub, ↓reduceIte, Int.reduceLT, Int.reduceLE, Int.reduceNeg, Int.reduceAdd, Int.reduceEq, Nat.reduceBneDiff, Nat.reduceBEq, Int.reduceToNat, Int.reduceMul, Int.reduceSub, Int.reduceBEq, Int.reduceBNe, g16], by simp only [go_sem, Wk_block, Wk_drawnC, reduceCtorEq, Nat.reduceEqDiff, Nat.reduceAdd, Nat.reduceLeDiff, Nat.reduceLT, Nat.reduceMul, Nat.reduceSub, ↓reduceIte, Int.reduceLT, Int.reduceLE, Int.reduceNeg, Int.reduceAdd, Int.reduceEq, Nat.reduceBneDiff, Nat.reduceBEq, Int.reduceToNat, Int.reduceMul, Int.reduceSub, Int.reduceBEq, Int.reduceBNe, g7], by simp only [go_sem, Wk_block, Wk_drawnC, reduceCtorEq, Nat.reduceEqDiff, Nat.reduceAdd, Nat.reduceLeDiff, Nat.reduceLT, Nat.reduceMul, Nat.reduceSub, ↓reduceIte, Int.reduceLT, Int.reduceLE, Int.reduceNeg, Int.reduceAdd, Int.reduceEq, Nat.reduceBneDiff, Nat.reduceBEq, Int.reduceToNat, Int.reduceMul, Int.reduceSub, Int.reduceBEq, Int.reduceBNe], by rw [htk]; exact ho6, ⟨by omega, fun y hy => ?_⟩⟩
    rw [hfr y hy, St.get_new, if_neg (by omega)]; exact hF5.get y hy
  · rw [hin, if_pos rfl] at htk
    simp -implicitDefEqProofs only [go_sem, Wk_block, Wk_drawnC, reduceCtorEq, Nat.reduceEqDiff, Nat.reduceAdd, Nat.reduceLeDiff, Nat.reduceLT, Nat.reduceMul, Nat.reduceSub, ↓reduceIte, Int.reduceLT, Int.reduceLE, Int.reduceNeg, Int.reduceAdd, Int.reduceEq, Nat.reduceBneDiff, Nat.reduceBEq, Int.reduceToNat, Int.reduceMul, Int.reduceSub, Int.reduceBEq, Int.reduceBNe, g18, g17, g16, g7, g8, hin, w18, Bool.not_true, ft]
    exact IH (l.length - (j + 1)) _ _ (by omega) ⟨j + 1, w, rfl, by omega, by simp only [go_sem, Wk_block, Wk_drawnC, reduceCtorEq, Nat.reduceEqDiff, Nat.reduceAdd, Nat.reduceLeDiff, Nat.reduceLT, Nat.reduceMul, Nat.reduceSub, ↓reduceIte, Int.reduceLT, Int.reduceLE, Int.reduceNeg, Int.reduceAdd, Int.reduceEq, Nat.reduceBneDiff, Nat.reduceBEq, Int.reduceToNat, Int.reduceMul, Int.reduceSub, Int.reduceBEq, Int.reduceBNe], by simp only [go_sem, Wk_block, Wk_drawnC, reduceCtorEq, Nat.reduceEqDiff, Nat.reduceAdd, Nat.reduceLeDiff, Nat.reduceLT, Nat.reduceMul, Nat.reduceSub, ↓reduceIte, Int.reduceLT, Int.reduceLE, Int.reduceNeg, Int.reduceAdd, Int.reduceEq, Nat.reduceBneDiff, Nat.reduceBEq, Int.reduceToNat, Int.reduceMul, Int.reduceSub, Int.reduceBEq, Int.reduceBNe, g17], by simp only [go_sem, Wk_block, Wk_drawnC, reduceCtorEq, Nat.reduceEqDiff, Nat.reduceAdd, Nat.reduceLeDiff, Nat.reduceLT, Nat.reduceMul, Nat.reduceSub, ↓reduceIte, Int.reduceLT, Int.reduceLE, Int.reduceNeg, Int.reduceAdd, Int.reduceEq, Nat.reduceBneDiff, Nat.reduceBEq, Int.reduceToNat, Int.reduceMul, Int.reduceSub, Int.reduceBEq, Int.reduceBNe, g16], by simp only [go_sem, Wk_block, Wk_drawnC, reduceCtorEq, Nat.reduceEqDiff, Nat.reduceAdd, Nat.reduceLeDiff, Nat.reduceLT, Nat.reduceMul, Nat.reduceSub, ↓reduceIte, Int.reduceLT, Int.reduceLE, Int.reduceNeg, Int.reduceAdd, Int.reduceEq, Nat.reduceBneDiff, Nat.reduceBEq, Int.reduceToNat, Int.reduceMul, Int.reduceSub, Int.reduceBEq, Int.reduceBNe, g7], by simp only [go_sem, Wk_block, Wk_drawnC, reduceCtorEq, Nat.reduceEqDiff, Nat.reduceAdd, Nat.reduceLeDiff, Nat.reduceLT, Nat.reduceMul, Nat.reduceSub, ↓reduceIte, Int.reduceLT, Int.reduceLE, Int.reduceNeg, Int.reduceAdd, Int.reduceEq, Nat.reduceBneDiff, Nat.reduceBEq, Int.reduceToNat, Int.reduceMul, Int.reduceSub, Int.reduceBEq, Int.reduceBNe, g8], by rw [htk]; exact hoL, hF5⟩
end Go.Proofs.Ytjejgnbdlfkenaa
namespace Go.Proofs.Ytjejgnbdlfkenaa
open D Base
set_option linter.unusedSimpArgs false
set_option linter.unusedVariables false
set_option maxRecDepth 10000

theorem kept_in {k : Kp} {l : List Sn} (hr : Rises l) {j : Nat} (hj : j < l.length) : keptB k.last k.span k.spans l (l.length - j) l[j] = decide (l[j].l ∈ pickS k.last k.span k.spans l l) := by
  have e : l = l.take j ++ l[j] :: l.drop (j + 1) := by
    rw [← List.drop_eq_getElem_cons hj, List.take_append_drop]
  have h := in_pick (last := k.last) (span := k.span) (spans := k.spans) hr e
  rw [List.length_drop, show l.length - (j + 1) + 1 = l.length - j by omega] at h
  rw [Bool.eq_iff_iff, decide_eq_true_eq, h]
theorem RGoes_run {k : Kp} (hk : KpOk k) {l : List Sn} (hl : l.length ≤ 60) (hr : Rises l) (h0 : ∀ x ∈ l, SnOk x) {v m : AV} {s : St} (hR : Rd s v 4 (l.map Sn.enc)) {M : List Lb} (hM : Rd s m 2 (M.map Lb.enc)) (hMl : M.length ≤ 100000) :
    Wf mm 12 [.agg k.enc, v, m] s fun w s' => OutG s' s.next w 2 ((goesS (pickS k.last k.span k.spans l l ++ M) l).map Lb.enc) ∧ Fr s s' := by
  refine Wf_enter ft12 (sm (by decide)) (by rfl) ?_
  have ft : (false == true) = false := rfl
  have tf : (true == false) = false := rfl
  have hlen := hR.len
  have hlm := hM.len
  rw [List.length_map] at hlen hlm
  obtain ⟨a, ha⟩ : ∃ a, s.next = a := ⟨_, rfl⟩
  simp -implicitDefEqProofs only [go_sem, Wk_block, Wk_drawnC, reduceCtorEq, Nat.reduceEqDiff, Nat.reduceAdd, Nat.reduceLeDiff, Nat.reduceLT, Nat.reduceMul, Nat.reduceSub, ↓reduceIte, Int.reduceLT, Int.reduceLE, Int.reduceNeg, Int.reduceAdd, Int.reduceEq, Nat.reduceBneDiff, Nat.reduceBEq, Int.reduceToNat, Int.reduceMul, Int.reduceSub, Int.reduceBEq, Int.reduceBNe, fd12, hlen, ha, ft]
  have f0 : Fr s ((s.new (.cells k.enc false false 0)).new (.cells [] false false 0)) := ((Fr.refl s).new _).new _
  have ga : ((s.new (.cells k.enc false false 0)).new (.cells [] false false 0)).get a = some (.cells k.enc false false 0) := by rw [St.get_new, if_neg (by rw [St.next_new]; omega), St.get_new, if_pos ha.symm]
  have gl : OutG ((s.new (.cells k.enc false false 0)).new (.cells [] false false 0)) (a + 1) (.slice (a + 1) 0 0 0 false) 2 (([] : List Lb).map Lb.enc) := .inl ⟨a + 1, rfl, rfl, Nat.le_refl _, by simp only [St.next_new]; omega, by rw [St.get_new, if_pos (by rw [St.next_new, ha])]⟩
  have hn : a + 1 ≤ ((s.new (.cells k.enc false false 0)).new (.cells [] false false 0)).next := by simp only [St.next_new]; omega
  generalize (s.new (.cells k.enc false false 0)).new (.cells [] false false 0) = s0 at f0 ga gl hn ⊢
  have hkin := fun j hj => kept_in (k := k) hr (j := j) hj
  generalize pickS k.last k.span k.spans l l = K at hkin ⊢
  refine loop_ind (fun n ts s' => ∃ (j : Nat) (w : AV), n = l.length - j ∧ j ≤ l.length ∧ ts.get 16 = some (.int .i64 (j : Int)) ∧ ts.get 15 = some (.int .i64 (l.length : Int)) ∧ ts.get 14 = some v ∧ ts.get 1 = some v ∧ ts.get 2 = some m ∧ ts.get 3 = some (.ptr a 0) ∧ ts.get 7 = some w ∧
    OutG s' (a + 1) w 2 ((goesS (K ++ M) (l.take j)).map Lb.enc) ∧ s'.get a = some (.cells k.enc false false 0) ∧ Fr s s' ∧ a + 1 ≤ s'.next) ?_ (n := l.length)
    ⟨0, .slice (a + 1) 0 0 0 false, rfl, by omega, by simp only [go_sem, Wk_block, Wk_drawnC, reduceCtorEq, Nat.reduceEqDiff, Nat.reduceAdd, Nat.reduceLeDiff, Nat.reduceLT, Nat.reduceMul, Nat.reduceSub, ↓reduceIte, Int.reduceLT, Int.reduceLE, Int.reduceNeg, Int.reduceAdd, Int.reduceEq, Nat.reduceBneDiff, Nat.reduceBEq, Int.reduceToNat, Int.reduceMul, Int.reduceSub, Int.reduceBEq, Int.reduceBNe], by simp only [go_sem, Wk_block, Wk_drawnC, reduceCtorEq, Nat.reduceEqDiff, Nat.reduceAdd, Nat.reduceLeDiff, Nat.reduceLT, Nat.reduceMul, Nat.reduceSub, ↓reduceIte, Int.reduceLT, Int.reduceLE, Int.reduceNeg, Int.reduceAdd, Int.reduceEq, Nat.reduceBneDiff, Nat.reduceBEq, Int.reduceToNat, Int.reduceMul, Int.reduceSub, Int.reduceBEq, Int.reduceBNe], by simp only [go_sem, Wk_block, Wk_drawnC, reduceCtorEq, Nat.reduceEqDiff, Nat.reduceAdd, Nat.reduceLeDiff, Nat.reduceLT, Nat.reduceMul, Nat.reduceSub, ↓reduceIte, Int.reduceLT, Int.reduceLE, Int.reduceNeg, Int.reduceAdd, Int.reduceEq, Nat.reduceBneDiff, Nat.reduceBEq, Int.reduceToNat, Int.reduceMul, Int.reduceSub, Int.reduceBEq, Int.reduceBNe], by simp only [go_sem, Wk_block, Wk_drawnC, reduceCtorEq, Nat.reduceEqDiff, Nat.reduceAdd, Nat.reduceLeDiff, Nat.reduceLT, Nat.reduceMul, Nat.reduceSub, ↓reduceIte, Int.reduceLT, Int.reduceLE, Int.reduceNeg, Int.reduceAdd, Int.reduceEq, Nat.reduceBneDiff, Nat.reduceBEq, Int.reduceToNat, Int.reduceMul, Int.reduceSub, Int.reduceBEq, Int.reduceBNe], by simp only [go_sem, Wk_block, Wk_drawnC, reduceCtorEq, Nat.reduceEqDiff, Nat.reduceAdd, Nat.reduceLeDiff, Nat.reduceLT, Nat.reduceMul, Nat.reduceSub, ↓reduceIte, Int.reduceLT, Int.reduceLE, Int.reduceNeg, Int.reduceAdd, Int.reduceEq, Nat.reduceBneDiff, Nat.reduceBEq, Int.reduceToNat, Int.reduceMul, Int.reduceSub, Int.reduceBEq, Int.reduceBNe], by simp only [go_sem, Wk_block, Wk_drawnC, reduceCtorEq, Nat.reduceEqDiff, Nat.reduceAdd, Nat.reduceLeDiff, Nat.reduceLT, Nat.reduceMul, Nat.reduceSub, ↓reduceIte, Int.reduceLT, Int.reduceLE, Int.reduceNeg, Int.reduceAdd, Int.reduceEq, Nat.reduceBneDiff, Nat.reduceBEq, Int.reduceToNat, Int.reduceMul, Int.reduceSub, Int.reduceBEq, Int.reduceBNe], by simp only [go_sem, Wk_block, Wk_drawnC, reduceCtorEq, Nat.reduceEqDiff, Nat.reduceAdd, Nat.reduceLeDiff, Nat.reduceLT, Nat.reduceMul, Nat.reduceSub, ↓reduceIte, Int.reduceLT, Int.reduceLE, Int.reduceNeg, Int.reduceAdd, Int.reduceEq, Nat.reduceBneDiff, Nat.reduceBEq, Int.reduceToNat, Int.reduceMul, Int.reduceSub, Int.reduceBEq, Int.reduceBNe], gl, ga, f0, hn⟩
  rintro _ ts s1 ⟨j, w, rfl, hj, g16, g15, g14, g1, g2, g3, g7, ho, ga1, f1, hn1⟩ IH
  by_cases hlt : j < l.length
  rotate_left
  · rw [List.take_of_length_le (by omega)] at ho
    simp -implicitDefEqProofs only [go_sem, Wk_block, Wk_drawnC, reduceCtorEq, Nat.reduceEqDiff, Nat.reduceAdd, Nat.reduceLeDiff, Nat.reduceLT, Nat.reduceMul, Nat.reduceSub, ↓reduceIte, Int.reduceLT, Int.reduceLE, Int.reduceNeg, Int.reduceAdd, Int.reduceEq, Nat.reduceBneDiff, Nat.reduceBEq, Int.reduceToNat, Int.reduceMul, Int.reduceSub, Int.reduceBEq, Int.reduceBNe, g16, g15, g7, hlt, ft]
    refine ⟨?_, f1⟩
    rcases ho with ⟨q, h1, h2, h3, h4, h5⟩ | ⟨p, h1, h2, h3, h4, h5⟩
    · exact .inl ⟨q, h1, h2, by omega, h4, h5⟩
    · exact .inr ⟨p, h1, h2, by omega, h4, h5⟩
  have hjl : j < (l.map Sn.enc).length := by rw [List.length_map]; exact hlt
  obtain ⟨b1, o1, vs1, lo3, ro1, z1, hidx1, hg1, hle1, heq1, hbl1⟩ := (hR.mono f1).at_ hjl
  rw [List.getElem_map] at heq1
  have w16 := succ_in (j := j) (by omega)
  have hle4 : o1 + (j * 4 + 4) ≤ vs1.length := by omega
  have hne : ¬ a = s1.next := by omega
  have htk := goesS_take (K := K ++ M) hlt
  have hgl := goesS_len (K ++ M) (l.take j)
  rw [List.length_take] at hgl
  have heq2 := heq1
  unfold Sn.enc at heq2
  have f5 : Fr s (s1.new (.cells [.int .u32 l[j].l.e, .int .u32 l[j].l.q, .int .i64 l[j].r, .int .u32 l[j].t] false false 0)) := f1.new _
  simp -implicitDefEqProofs only [go_sem, Wk_block, Wk_drawnC, reduceCtorEq, Nat.reduceEqDiff, Nat.reduceAdd, Nat.reduceLeDiff, Nat.reduceLT, Nat.reduceMul, Nat.reduceSub, ↓reduceIte, Int.reduceLT, Int.reduceLE, Int.reduceNeg, Int.reduceAdd, Int.reduceEq, Nat.reduceBneDiff, Nat.reduceBEq, Int.reduceToNat, Int.reduceMul, Int.reduceSub, Int.reduceBEq, Int.reduceBNe, g16, g15, g14, g1, g2, g3, g7, hlt, hidx1, hg1, hle1, hle4, heq2, w16, ga1, hne, ft]
  refine Wl_of (kept_run hk hl h0 (hR.mono f5) hlt) ?_
  rintro w9 s5 ⟨rfl, f9⟩
  rw [hkin j hlt]
  have hF5 := f5.trans f9
  have hga5 : s5.get a = some (.cells k.enc false false 0) := (f9.get a (by rw [St.next_new]; omega)).trans (by rw [St.get_new, if_neg hne]; exact ga1)
  have hN5 : s1.next < s5.next := by have := f9.le; rw [St.next_new] at this; omega
  have hx5 : s5.get s1.next = some (.cells [.int .u32 l[j].l.e, .int .u32 l[j].l.q, .int .i64 l[j].r, .int .u32 l[j].t] false false 0) := (f9.get s1.next (by rw [St.next_new]; omega)).trans (by rw [St.get_new, if_pos rfl])
  have hoL := (ho.fr ((Fr.refl s1).new (.cells [.int .u32 l[j].l.e, .int .u32 l[j].l.q, .int .i64 l[j].r, .int .u32 l[j].t] false false 0))).fr f9
  generalize l[j] = x at hx5 htk
  obtain ⟨xa, hxa⟩ : ∃ y, s1.next = y := ⟨_, rfl⟩
  rw [hxa] at hx5
  simp -implicitDefEqProofs only [go_sem, Wk_block, Wk_drawnC, reduceCtorEq, Nat.reduceEqDiff, Nat.reduceAdd, Nat.reduceLeDiff, Nat.reduceLT, Nat.reduceMul, Nat.reduceSub, ↓reduceIte, Int.reduceLT, Int.reduceLE, Int.reduceNeg, Int.reduceAdd, Int.reduceEq, Nat.reduceBneDiff, Nat.reduceBEq, Int.reduceToNat, Int.reduceMul, Int.reduceSub, Int.reduceBEq, Int.reduceBNe, g2, hlm, hxa, ft]
  refine Wk_loop_post (fun ts s' => ts.get 16 = some (.int .i64 (j : Int)) ∧ ts.get 15 = some (.int .i64 (l.length : Int)) ∧ ts.get 14 = some v ∧ ts.get 1 = some v ∧ ts.get 2 = some m ∧ ts.get 3 = some (.ptr a 0) ∧ ts.get 7 = some w ∧ ts.get 9 = some (.ptr xa 0) ∧ ts.get 10 = some (.bool (decide (x.l ∈ K ++ M))) ∧ Fr s5 s') ?_ ?_
  · refine loop_ind (fun n ts s' => ∃ e : Nat, n = M.length - e ∧ e ≤ M.length ∧ ts.get 27 = some (.int .i64 (e : Int)) ∧ ts.get 26 = some (.int .i64 (M.length : Int)) ∧ ts.get 25 = some m ∧ ts.get 16 = some (.int .i64 (j : Int)) ∧ ts.get 15 = some (.int .i64 (l.length : Int)) ∧ ts.get 14 = some v ∧ ts.get 1 = some v ∧ ts.get 2 = some m ∧ ts.get 3 = some (.ptr a 0) ∧ ts.get 7 = some w ∧
      ts.get 9 = some (.ptr xa 0) ∧ ts.get 10 = some (.bool (decide (x.l ∈ K ++ M.take e))) ∧ Fr s5 s') ?_ (n := M.length)
      ⟨0, rfl, by omega, by simp only [go_sem, Wk_block, Wk_drawnC, reduceCtorEq, Nat.reduceEqDiff, Nat.reduceAdd, Nat.reduceLeDiff, Nat.reduceLT, Nat.reduceMul, Nat.reduceSub, ↓reduceIte, Int.reduceLT, Int.reduceLE, Int.reduceNeg, Int.reduceAdd, Int.reduceEq, Nat.reduceBneDiff, Nat.reduceBEq, Int.reduceToNat, Int.reduceMul, Int.reduceSub, Int.reduceBEq, Int.reduceBNe], by simp only [go_sem, Wk_block, Wk_drawnC, reduceCtorEq, Nat.reduceEqDiff, Nat.reduceAdd, Nat.reduceLeDiff, Nat.reduceLT, Nat.reduceMul, Nat.reduceSub, ↓reduceIte, Int.reduceLT, Int.reduceLE, Int.reduceNeg, Int.reduceAdd, Int.reduceEq, Nat.reduceBneDiff, Nat.reduceBEq, Int.reduceToNat, Int.reduceMul, Int.reduceSub, Int.reduceBEq, Int.reduceBNe], by simp only [go_sem, Wk_block, Wk_drawnC, reduceCtorEq, Nat.reduceEqDiff, Nat.reduceAdd, Nat.reduceLeDiff, Nat.reduceLT, Nat.reduceMul, Nat.reduceSub, ↓reduceIte, Int.reduceLT, Int.reduceLE, Int.reduceNeg, Int.reduceAdd, Int.reduceEq, Nat.reduceBneDiff, Nat.reduceBEq, Int.reduceToNat, Int.reduceMul, Int.reduceSub, Int.reduceBEq, Int.reduceBNe], by simp only [go_sem, Wk_block, Wk_drawnC, reduceCtorEq, Nat.reduceEqDiff, Nat.reduceAdd, Nat.reduceLeDiff, Nat.reduceLT, Nat.reduceMul, Nat.reduceSub, ↓reduceIte, Int.reduceLT, Int.reduceLE, Int.reduceNeg, Int.reduceAdd, Int.reduceEq, Nat.reduceBneDiff, Nat.reduceBEq, Int.reduceToNat, Int.reduceMul, Int.reduceSub, Int.reduceBEq, Int.reduceBNe, g16], by simp only [go_sem, Wk_block, Wk_drawnC, reduceCtorEq, Nat.reduceEqDiff, Nat.reduceAdd, Nat.reduceLeDiff, Nat.reduceLT, Nat.reduceMul, Nat.reduceSub, ↓reduceIte, Int.reduceLT, Int.reduceLE, Int.reduceNeg, Int.reduceAdd, Int.reduceEq, Nat.reduceBneDiff, Nat.reduceBEq, Int.reduceToNat, Int.reduceMul, Int.reduceSub, Int.reduceBEq, Int.reduceBNe, g15], by simp only [go_sem, Wk_block, Wk_drawnC, reduceCtorEq, Nat.reduceEqDiff, Nat.reduceAdd, Nat.reduceLeDiff, Nat.reduceLT, Nat.reduceMul, Nat.reduceSub, ↓reduceIte, Int.reduceLT, Int.reduceLE, Int.reduceNeg, Int.reduceAdd, Int.reduceEq, Nat.reduceBneDiff, Nat.reduceBEq, Int.reduceToNat, Int.reduceMul, Int.reduceSub, Int.reduceBEq, Int.reduceBNe, g14], by simp only [go_sem, Wk_block, Wk_drawnC, reduceCtorEq, Nat.reduceEqDiff, Nat.reduceAdd, Nat.reduceLeDiff, Nat.reduceLT, Nat.reduceMul, Nat.reduceSub, ↓reduceIte, Int.reduceLT, Int.reduceLE, Int.reduceNeg, Int.reduceAdd, Int.reduceEq, Nat.reduceBneDiff, Nat.reduceBEq, Int.reduceToNat, Int.reduceMul, Int.reduceSub, Int.reduceBEq, Int.reduceBNe, g1], by simp only [go_sem, Wk_block, Wk_drawnC, reduceCtorEq, Nat.reduceEqDiff, Nat.reduceAdd, Nat.reduceLeDiff, Nat.reduceLT, Nat.reduceMul, Nat.reduceSub, ↓reduceIte, Int.reduceLT, Int.reduceLE, Int.reduceNeg, Int.reduceAdd, Int.reduceEq, Nat.reduceBneDiff, Nat.reduceBEq, Int.reduceToNat, Int.reduceMul, Int.reduceSub, Int.reduceBEq, Int.reduceBNe, g2], by simp only [go_sem, Wk_block, Wk_drawnC, reduceCtorEq, Nat.reduceEqDiff, Nat.reduceAdd, Nat.reduceLeDiff, Nat.reduceLT, Nat.reduceMul, Nat.reduceSub, ↓reduceIte, Int.reduceLT, Int.reduceLE, Int.reduceNeg, Int.reduceAdd, Int.reduceEq, Nat.reduceBneDiff, Nat.reduceBEq, Int.reduceToNat, Int.reduceMul, Int.reduceSub, Int.reduceBEq, Int.reduceBNe, g3], by simp only [go_sem, Wk_block, Wk_drawnC, reduceCtorEq, Nat.reduceEqDiff, Nat.reduceAdd, Nat.reduceLeDiff, Nat.reduceLT, Nat.reduceMul, Nat.reduceSub, ↓reduceIte, Int.reduceLT, Int.reduceLE, Int.reduceNeg, Int.reduceAdd, Int.reduceEq, Nat.reduceBneDiff, Nat.reduceBEq, Int.reduceToNat, Int.reduceMul, Int.reduceSub, Int.reduceBEq, Int.reduceBNe, g7], by simp only [go_sem, Wk_block, Wk_drawnC, reduceCtorEq, Nat.reduceEqDiff, Nat.reduceAdd, Nat.reduceLeDiff, Nat.reduceLT, Nat.reduceMul, Nat.reduceSub, ↓reduceIte, Int.reduceLT, Int.reduceLE, Int.reduceNeg, Int.reduceAdd, Int.reduceEq, Nat.reduceBneDiff, Nat.reduceBEq, Int.reduceToNat, Int.reduceMul, Int.reduceSub, Int.reduceBEq, Int.reduceBNe], by simp only [go_sem, Wk_block, Wk_drawnC, reduceCtorEq, Nat.reduceEqDiff, Nat.reduceAdd, Nat.reduceLeDiff, Nat.reduceLT, Nat.reduceMul, Nat.reduceSub, ↓reduceIte, Int.reduceLT, Int.reduceLE, Int.reduceNeg, Int.reduceAdd, Int.reduceEq, Nat.reduceBneDiff, Nat.reduceBEq, Int.reduceToNat, Int.reduceMul, Int.reduceSub, Int.reduceBEq, Int.reduceBNe, List.take_zero, List.append_nil], Fr.refl _⟩
    clear g16 g15 g14 g1 g2 g3 g7
    rintro _ ts s6 ⟨e, rfl, he, g27, g26, g25, g16, g15, g14, g1, g2, g3, g7, g9, g10, f6⟩ IH2
    by_cases hel : e < M.length
    rotate_left
    · have hee : e = M.length := by omega
      rw [hee, List.take_length] at g10
      simp -implicitDefEqProofs only [go_sem, Wk_block, Wk_drawnC, reduceCtorEq, Nat.reduceEqDiff, Nat.reduceAdd, Nat.reduceLeDiff, Nat.reduceLT, Nat.reduceMul, Nat.reduceSub, ↓reduceIte, Int.reduceLT, Int.reduceLE, Int.reduceNeg, Int.reduceAdd, Int.reduceEq, Nat.reduceBneDiff, Nat.reduceBEq, Int.reduceToNat, Int.reduceMul, Int.reduceSub, Int.reduceBEq, Int.reduceBNe, g27, g26, hel, ft]
      rw [Wr_nil]
      exact ⟨.inr rfl, rfl, by simp only [go_sem, Wk_block, Wk_drawnC, reduceCtorEq, Nat.reduceEqDiff, Nat.reduceAdd, Nat.reduceLeDiff, Nat.reduceLT, Nat.reduceMul, Nat.reduceSub, ↓reduceIte, Int.reduceLT, Int.reduceLE, Int.reduceNeg, Int.reduceAdd, Int.reduceEq, Nat.reduceBneDiff, Nat.reduceBEq, Int.reduceToNat, Int.reduceMul, Int.reduceSub, Int.reduceBEq, Int.reduceBNe, g16], by simp only [go_sem, Wk_block, Wk_drawnC, reduceCtorEq, Nat.reduceEqDiff, Nat.reduceAdd, Nat.reduceLeDiff, Nat.reduceLT, Nat.reduceMul, Nat.reduceSub, ↓reduceIte, Int.reduceLT, Int.reduceLE, Int.reduceNeg, Int.reduceAdd, Int.reduceEq, Nat.reduceBneDiff, Nat.reduceBEq, Int.reduceToNat, Int.reduceMul, Int.reduceSub, Int.reduceBEq, Int.reduceBNe, g15], by simp only [go_sem, Wk_block, Wk_drawnC, reduceCtorEq, Nat.reduceEqDiff, Nat.reduceAdd, Nat.reduceLeDiff, Nat.reduceLT, Nat.reduceMul, Nat.reduceSub, ↓reduceIte, Int.reduceLT, Int.reduceLE, Int.reduceNeg, Int.reduceAdd, Int.reduceEq, Nat.reduceBneDiff, Nat.reduceBEq, Int.reduceToNat, Int.reduceMul, Int.reduceSub, Int.reduceBEq, Int.reduceBNe, g14], by simp only [go_sem, Wk_block, Wk_drawnC, reduceCtorEq, Nat.reduceEqDiff, Nat.reduceAdd, Nat.reduceLeDiff, Nat.reduceLT, Nat.reduceMul, Nat.reduceSub, ↓reduceIte, Int.reduceLT, Int.reduceLE, Int.reduceNeg, Int.reduceAdd, Int.reduceEq, Nat.reduceBneDiff, Nat.reduceBEq, Int.reduceToNat, Int.reduceMul, Int.reduceSub, Int.reduceBEq, Int.reduceBNe, g1], by simp only [go_sem, Wk_block, Wk_drawnC, reduceCtorEq, Nat.reduceEqDiff, Nat.reduceAdd, Nat.reduceLeDiff, Nat.reduceLT, Nat.reduceMul, Nat.reduceSub, ↓reduceIte, Int.reduceLT, Int.reduceLE, Int.reduceNeg, Int.reduceAdd, Int.reduceEq, Nat.reduceBneDiff, Nat.reduceBEq, Int.reduceToNat, Int.reduceMul, Int.reduceSub, Int.reduceBEq, Int.reduceBNe, g2], by simp only [go_sem, Wk_block, Wk_drawnC, reduceCtorEq, Nat.reduceEqDiff, Nat.reduceAdd, Nat.reduceLeDiff, Nat.reduceLT, Nat.reduceMul, Nat.reduceSub, ↓reduceIte, Int.reduceLT, Int.reduceLE, Int.reduceNeg, Int.reduceAdd, Int.reduceEq, Nat.reduceBneDiff, Nat.reduceBEq, Int.reduceToNat, Int.reduceMul, Int.reduceSub, Int.reduceBEq, Int.reduceBNe, g3], by simp only [go_sem, Wk_block, Wk_drawnC, reduceCtorEq, Nat.reduceEqDiff, Nat.reduceAdd, Nat.reduceLeDiff, Nat.reduceLT, Nat.reduceMul, Nat.reduceSub, ↓reduceIte, Int.reduceLT, Int.reduceLE, Int.reduceNeg, Int.reduceAdd, Int.reduceEq, Nat.reduceBneDiff, Nat.reduceBEq, Int.reduceToNat, Int.reduceMul, Int.reduceSub, Int.reduceBEq, Int.reduceBNe, g7], by simp only [go_sem, Wk_block, Wk_drawnC, reduceCtorEq, Nat.reduceEqDiff, Nat.reduceAdd, Nat.reduceLeDiff, Nat.reduceLT, Nat.reduceMul, Nat.reduceSub, ↓reduceIte, Int.reduceLT, Int.reduceLE, Int.reduceNeg, Int.reduceAdd, Int.reduceEq, Nat.reduceBneDiff, Nat.reduceBEq, Int.reduceToNat, Int.reduceMul, Int.reduceSub, Int.reduceBEq, Int.reduceBNe, g9], by simp only [go_sem, Wk_block, Wk_drawnC, reduceCtorEq, Nat.reduceEqDiff, Nat.reduceAdd, Nat.reduceLeDiff, Nat.reduceLT, Nat.reduceMul, Nat.reduceSub, ↓reduceIte, Int.reduceLT, Int.reduceLE, Int.reduceNeg, Int.reduceAdd, Int.reduceEq, Nat.reduceBneDiff, Nat.reduceBEq, Int.reduceToNat, Int.reduceMul, Int.reduceSub, Int.reduceBEq, Int.reduceBNe, g10], f6⟩
    obtain ⟨b2, o2, vs2, lo2, ro2, z2, hidx2, hg2, hle2, heq3, hbl2⟩ := ((hM.mono hF5).mono f6).at_ (j := e) (by rw [List.length_map]; exact hel)
    rw [List.getElem_map] at heq3
    unfold Lb.enc at heq3
    have q1 : o2 + (e * 2 + 2) ≤ vs2.length := by omega
    have w27 := succ_in (j := e) (by omega)
    have hx6 := (f6.get xa (by omega)).trans hx5
    have hne6 : ¬ xa = s6.next := by have := f6.le; omega
    have hiff : x.l ∈ K ++ M.take (e + 1) ↔ x.l ∈ K ++ M.take e ∨ M[e] = x.l := by
      rw [List.take_succ_eq_append_getElem hel, List.mem_append, List.mem_append, List.mem_append, List.mem_singleton, or_assoc]
      exact or_congr_right (or_congr_right eq_comm)
    have htk2 : decide (x.l ∈ K ++ M.take (e + 1)) = (decide (x.l ∈ K ++ M.take e) || (M[e].e == x.l.e && M[e].q == x.l.q)) := by
      rw [lb_eq, Bool.eq_iff_iff]
      simp only [decide_eq_true_eq, Bool.or_eq_true]
      exact hiff
    cases hm : decide (x.l ∈ K ++ M.take e)
    · rw [hm] at g10 htk2
      rw [Bool.false_or] at htk2
      simp -implicitDefEqProofs only [go_sem, Wk_block, Wk_drawnC, reduceCtorEq, Nat.reduceEqDiff, Nat.reduceAdd, Nat.reduceLeDiff, Nat.reduceLT, Nat.reduceMul, Nat.reduceSub, ↓reduceIte, Int.reduceLT, Int.reduceLE, Int.reduceNeg, Int.reduceAdd, Int.reduceEq, Nat.reduceBneDiff, Nat.reduceBEq, Int.reduceToNat, Int.reduceMul, Int.reduceSub, Int.reduceBEq, Int.reduceBNe, g27, g26, g25, g16, g15, g14, g1, g2, g3, g7, g9, g10, hel, hidx2, hg2, hle2, q1, heq3, hx6, hne6, w27, ft, tf]
      exact IH2 (M.length - (e + 1)) _ _ (by omega) ⟨e + 1, rfl, by omega, by simp only [go_sem, Wk_block, Wk_drawnC, reduceCtorEq, Nat.reduceEqDiff, Nat.reduceAdd, Nat.reduceLeDiff, Nat.reduceLT, Nat.reduceMul, Nat.reduceSub, ↓reduceIte, Int.reduceLT, Int.reduceLE, Int.reduceNeg, Int.reduceAdd, Int.reduceEq, Nat.reduceBneDiff, Nat.reduceBEq, Int.reduceToNat, Int.reduceMul, Int.reduceSub, Int.reduceBEq, Int.reduceBNe], by simp only [go_sem, Wk_block, Wk_drawnC, reduceCtorEq, Nat.reduceEqDiff, Nat.reduceAdd, Nat.reduceLeDiff, Nat.reduceLT, Nat.reduceMul, Nat.reduceSub, ↓reduceIte, Int.reduceLT, Int.reduceLE, Int.reduceNeg, Int.reduceAdd, Int.reduceEq, Nat.reduceBneDiff, Nat.reduceBEq, Int.reduceToNat, Int.reduceMul, Int.reduceSub, Int.reduceBEq, Int.reduceBNe, g26], by simp only [go_sem, Wk_block, Wk_drawnC, reduceCtorEq, Nat.reduceEqDiff, Nat.reduceAdd, Nat.reduceLeDiff, Nat.reduceLT, Nat.reduceMul, Nat.reduceSub, ↓reduceIte, Int.reduceLT, Int.reduceLE, Int.reduceNeg, Int.reduceAdd, Int.reduceEq, Nat.reduceBneDiff, Nat.reduceBEq, Int.reduceToNat, Int.reduceMul, Int.reduceSub, Int.reduceBEq, Int.reduceBNe, g25], by simp only [go_sem, Wk_block, Wk_drawnC, reduceCtorEq, Nat.reduceEqDiff, Nat.reduceAdd, Nat.reduceLeDiff, Nat.reduceLT, Nat.reduceMul, Nat.reduceSub, ↓reduceIte, Int.reduceLT, Int.reduceLE, Int.reduceNeg, Int.reduceAdd, Int.reduceEq, Nat.reduceBneDiff, Nat.reduceBEq, Int.reduceToNat, Int.reduceMul, Int.reduceSub, Int.reduceBEq, Int.reduceBNe, g16], by simp only [go_sem, Wk_block, Wk_drawnC, reduceCtorEq, Nat.reduceEqDiff, Nat.reduceAdd, Nat.reduceLeDiff, Nat.reduceLT, Nat.reduceMul, Nat.reduceSub, ↓reduceIte, Int.reduceLT, Int.reduceLE, Int.reduceNeg, Int.reduceAdd, Int.reduceEq, Nat.reduceBneDiff, Nat.reduceBEq, Int.reduceToNat, Int.reduceMul, Int.reduceSub, Int.reduceBEq, Int.reduceBNe, g15], by simp only [go_sem, Wk_block, Wk_drawnC, reduceCtorEq, Nat.reduceEqDiff, Nat.reduceAdd, Nat.reduceLeDiff, Nat.reduceLT, Nat.reduceMul, Nat.reduceSub, ↓reduceIte, Int.reduceLT, Int.reduceLE, Int.reduceNeg, Int.reduceAdd, Int.reduceEq, Nat.reduceBneDiff, Nat.reduceBEq, Int.reduceToNat, Int.reduceMul, Int.reduceSub, Int.reduceBEq, Int.reduceBNe, g14], by simp only [go_sem, Wk_block, Wk_drawnC, reduceCtorEq, Nat.reduceEqDiff, Nat.reduceAdd, Nat.reduceLeDiff, Nat.reduceLT, Nat.reduceMul, Nat.reduceSub, ↓reduceIte, Int.reduceLT, Int.reduceLE, Int.reduceNeg, Int.reduceAdd, Int.reduceEq, Nat.reduceBneDiff, Nat.reduceBEq, Int.reduceToNat, Int.reduceMul, Int.reduceSub, Int.reduceBEq, Int.reduceBNe, g1], by simp only [go_sem, Wk_block, Wk_drawnC, reduceCtorEq, Nat.reduceEqDiff, Nat.reduceAdd, Nat.reduceLeDiff, Nat.reduceLT, Nat.reduceMul, Nat.reduceSub, ↓reduceIte, Int.reduceLT, Int.reduceLE, Int.reduceNeg, Int.reduceAdd, Int.reduceEq, Nat.reduceBneDiff, Nat.reduceBEq, Int.reduceToNat, Int.reduceMul, Int.reduceSub, Int.reduceBEq, Int.reduceBNe, g2], by simp only [go_sem, Wk_block, Wk_drawnC, reduceCtorEq, Nat.reduceEqDiff, Nat.reduceAdd, Nat.reduceLeDiff, Nat.reduceLT, Nat.reduceMul, Nat.reduceSub, ↓reduceIte, Int.reduceLT, Int.reduceLE, Int.reduceNeg, Int.reduceAdd, Int.reduceEq, Nat.reduceBneDiff, Nat.reduceBEq, Int.reduceToNat, Int.reduceMul, Int.reduceSub, Int.reduceBEq, Int.reduceBNe, g3], by simp only [go_sem, Wk_block, Wk_drawnC, reduceCtorEq, Nat.reduceEqDiff, Nat.reduceAdd, Nat.reduceLeDiff, Nat.reduceLT, Nat.reduceMul, Nat.reduceSub, ↓reduceIte, Int.reduceLT, Int.reduceLE, Int.reduceNeg, Int.reduceAdd, Int.reduceEq, Nat.reduceBneDiff, Nat.reduceBEq, Int.reduceToNat, Int.reduceMul, Int.reduceSub, Int.reduceBEq, Int.reduceBNe, g7], by simp only [go_sem, Wk_block, Wk_drawnC, reduceCtorEq, Nat.reduceEqDiff, Nat.reduceAdd, Nat.reduceLeDiff, Nat.reduceLT, Nat.reduceMul, Nat.reduceSub, ↓reduceIte, Int.reduceLT, Int.reduceLE, Int.reduceNeg, Int.reduceAdd, Int.reduceEq, Nat.reduceBneDiff, Nat.reduceBEq, Int.reduceToNat, Int.reduceMul, Int.reduceSub, Int.reduceBEq, Int.reduceBNe, g9], by rw [htk2]; simp only [go_sem, Wk_block, Wk_drawnC, reduceCtorEq, Nat.reduceEqDiff, Nat.reduceAdd, Nat.reduceLeDiff, Nat.reduceLT, Nat.reduceMul, Nat.reduceSub, ↓reduceIte, Int.reduceLT, Int.reduceLE, Int.reduceNeg, Int.reduceAdd, Int.reduceEq, Nat.reduceBneDiff, Nat.reduceBEq, Int.reduceToNat, Int.reduceMul, Int.reduceSub, Int.reduceBEq, Int.reduceBNe], f6.new _⟩
    · rw [hm] at g10 htk2
      rw [Bool.true_or] at htk2
      simp -implicitDefEqProofs only [go_sem, Wk_block, Wk_drawnC, reduceCtorEq, Nat.reduceEqDiff, Nat.reduceAdd, Nat.reduceLeDiff, Nat.reduceLT, Nat.reduceMul, Nat.reduceSub, ↓reduceIte, Int.reduceLT, Int.reduceLE, Int.reduceNeg, Int.reduceAdd, Int.reduceEq, Nat.reduceBneDiff, Nat.reduceBEq, Int.reduceToNat, Int.reduceMul, Int.reduceSub, Int.reduceBEq, Int.reduceBNe, g27, g26, g25, g16, g15, g14, g1, g2, g3, g7, g9, g10, hel, hidx2, hg2, hle2, q1, heq3, hx6, hne6, w27, ft, tf]
      exact IH2 (M.length - (e + 1)) _ _ (by omega) ⟨e + 1, rfl, by omega, by simp only [go_sem, Wk_block, Wk_drawnC, reduceCtorEq, Nat.reduceEqDiff, Nat.reduceAdd, Nat.reduceLeDiff, Nat.reduceLT, Nat.reduceMul, Nat.reduceSub, ↓reduceIte, Int.reduceLT, Int.reduceLE, Int.reduceNeg, Int.reduceAdd, Int.reduceEq, Nat.reduceBneDiff, Nat.reduceBEq, Int.reduceToNat, Int.reduceMul, Int.reduceSub, Int.reduceBEq, Int.reduceBNe], by simp only [go_sem, Wk_block, Wk_drawnC, reduceCtorEq, Nat.reduceEqDiff, Nat.reduceAdd, Nat.reduceLeDiff, Nat.reduceLT, Nat.reduceMul, Nat.reduceSub, ↓reduceIte, Int.reduceLT, Int.reduceLE, Int.reduceNeg, Int.reduceAdd, Int.reduceEq, Nat.reduceBneDiff, Nat.reduceBEq, Int.reduceToNat, Int.reduceMul, Int.reduceSub, Int.reduceBEq, Int.reduceBNe, g26], by simp only [go_sem, Wk_block, Wk_drawnC, reduceCtorEq, Nat.reduceEqDiff, Nat.reduceAdd, Nat.reduceLeDiff, Nat.reduceLT, Nat.reduceMul, Nat.reduceSub, ↓reduceIte, Int.reduceLT, Int.reduceLE, Int.reduceNeg, Int.reduceAdd, Int.reduceEq, Nat.reduceBneDiff, Nat.reduceBEq, Int.reduceToNat, Int.reduceMul, Int.reduceSub, Int.reduceBEq, Int.reduceBNe, g25], by simp only [go_sem, Wk_block, Wk_drawnC, reduceCtorEq, Nat.reduceEqDiff, Nat.reduceAdd, Nat.reduceLeDiff, Nat.reduceLT, Nat.reduceMul, Nat.reduceSub, ↓reduceIte, Int.reduceLT, Int.reduceLE, Int.reduceNeg, Int.reduceAdd, Int.reduceEq, Nat.reduceBneDiff, Nat.reduceBEq, Int.reduceToNat, Int.reduceMul, Int.reduceSub, Int.reduceBEq, Int.reduceBNe, g16], by simp only [go_sem, Wk_block, Wk_drawnC, reduceCtorEq, Nat.reduceEqDiff, Nat.reduceAdd, Nat.reduceLeDiff, Nat.reduceLT, Nat.reduceMul, Nat.reduceSub, ↓reduceIte, Int.reduceLT, Int.reduceLE, Int.reduceNeg, Int.reduceAdd, Int.reduceEq, Nat.reduceBneDiff, Nat.reduceBEq, Int.reduceToNat, Int.reduceMul, Int.reduceSub, Int.reduceBEq, Int.reduceBNe, g15], by simp only [go_sem, Wk_block, Wk_drawnC, reduceCtorEq, Nat.reduceEqDiff, Nat.reduceAdd, Nat.reduceLeDiff, Nat.reduceLT, Nat.reduceMul, Nat.reduceSub, ↓reduceIte, Int.reduceLT, Int.reduceLE, Int.reduceNeg, Int.reduceAdd, Int.reduceEq, Nat.reduceBneDiff, Nat.reduceBEq, Int.reduceToNat, Int.reduceMul, Int.reduceSub, Int.reduceBEq, Int.reduceBNe, g14], by simp only [go_sem, Wk_block, Wk_drawnC, reduceCtorEq, Nat.reduceEqDiff, Nat.reduceAdd, Nat.reduceLeDiff, Nat.reduceLT, Nat.reduceMul, Nat.reduceSub, ↓reduceIte, Int.reduceLT, Int.reduceLE, Int.reduceNeg, Int.reduceAdd, Int.reduceEq, Nat.reduceBneDiff, Nat.reduceBEq, Int.reduceToNat, Int.reduceMul, Int.reduceSub, Int.reduceBEq, Int.reduceBNe, g1], by simp only [go_sem, Wk_block, Wk_drawnC, reduceCtorEq, Nat.reduceEqDiff, Nat.reduceAdd, Nat.reduceLeDiff, Nat.reduceLT, Nat.reduceMul, Nat.reduceSub, ↓reduceIte, Int.reduceLT, Int.reduceLE, Int.reduceNeg, Int.reduceAdd, Int.reduceEq, Nat.reduceBneDiff, Nat.reduceBEq, Int.reduceToNat, Int.reduceMul, Int.reduceSub, Int.reduceBEq, Int.reduceBNe, g2], by simp only [go_sem, Wk_block, Wk_drawnC, reduceCtorEq, Nat.reduceEqDiff, Nat.reduceAdd, Nat.reduceLeDiff, Nat.reduceLT, Nat.reduceMul, Nat.reduceSub, ↓reduceIte, Int.reduceLT, Int.reduceLE, Int.reduceNeg, Int.reduceAdd, Int.reduceEq, Nat.reduceBneDiff, Nat.reduceBEq, Int.reduceToNat, Int.reduceMul, Int.reduceSub, Int.reduceBEq, Int.reduceBNe, g3], by simp only [go_sem, Wk_block, Wk_drawnC, reduceCtorEq, Nat.reduceEqDiff, Nat.reduceAdd, Nat.reduceLeDiff, Nat.reduceLT, Nat.reduceMul, Nat.reduceSub, ↓reduceIte, Int.reduceLT, Int.reduceLE, Int.reduceNeg, Int.reduceAdd, Int.reduceEq, Nat.reduceBneDiff, Nat.reduceBEq, Int.reduceToNat, Int.reduceMul, Int.reduceSub, Int.reduceBEq, Int.reduceBNe, g7], by simp only [go_sem, Wk_block, Wk_drawnC, reduceCtorEq, Nat.reduceEqDiff, Nat.reduceAdd, Nat.reduceLeDiff, Nat.reduceLT, Nat.reduceMul, Nat.reduceSub, ↓reduceIte, Int.reduceLT, Int.reduceLE, Int.reduceNeg, Int.reduceAdd, Int.reduceEq, Nat.reduceBneDiff, Nat.reduceBEq, Int.reduceToNat, Int.reduceMul, Int.reduceSub, Int.reduceBEq, Int.reduceBNe, g9], by rw [htk2]; simp only [go_sem, Wk_block, Wk_drawnC, reduceCtorEq, Nat.reduceEqDiff, Nat.reduceAdd, Nat.reduceLeDiff, Nat.reduceLT, Nat.reduceMul, Nat.reduceSub, ↓reduceIte, Int.reduceLT, Int.reduceLE, Int.reduceNeg, Int.reduceAdd, Int.reduceEq, Nat.reduceBneDiff, Nat.reduceBEq, Int.reduceToNat, Int.reduceMul, Int.reduceSub, Int.reduceBEq, Int.reduceBNe], f6.new _⟩
  clear g16 g15 g14 g1 g2 g3 g7
  rintro ts s6 ⟨g16, g15, g14, g1, g2, g3, g7, g9, g10, f6⟩
  have hga6 := (f6.get a (by omega)).trans hga5
  have hx6 := (f6.get xa (by omega)).trans hx5
  have hF6 := hF5.trans f6
  have hN6 : a + 1 ≤ s6.next := by have := f6.le; omega
  have ho6 := hoL.fr f6
  have hce := ho6.cell
  cases hin : decide (x.l ∈ K ++ M)
  · rw [hin, if_neg (by simp)] at htk
    rw [hin] at g10
    obtain ⟨w', s7, happ7, ho7, hnx, hfr⟩ := OutG.push (eb := 8) (ho6.fr ((Fr.refl s6).new (.cells [.int .u32 x.l.e, .int .u32 x.l.q] false false 0))) (by simp only [St.next_new]; omega) enc_len (x := x.l.enc) rfl rfl (by rw [List.length_map]; omega)
    unfold Lb.enc at happ7
    simp -implicitDefEqProofs only [go_sem, Wk_block, Wk_drawnC, reduceCtorEq, Nat.reduceEqDiff, Nat.reduceAdd, Nat.reduceLeDiff, Nat.reduceLT, Nat.reduceMul, Nat.reduceSub, ↓reduceIte, Int.reduceLT, Int.reduceLE, Int.reduceNeg, Int.reduceAdd, Int.reduceEq, Nat.reduceBneDiff, Nat.reduceBEq, Int.reduceToNat, Int.reduceMul, Int.reduceSub, Int.reduceBEq, Int.reduceBNe, g16, g15, g14, g1, g2, g3, g7, g9, g10, hx6, w16, hce, srcA, happ7, Bool.not_false, ft]
    simp only [St.next_new] at hnx
    have hl6 : (goesS (K ++ M) (l.take j)).map Lb.enc ++ [x.l.enc] = (goesS (K ++ M) (l.take j) ++ [x.l]).map Lb.enc := by simp
    have ho8 : OutG s7 (a + 1) w' 2 ((goesS (K ++ M) (l.take j)).map Lb.enc ++ [x.l.enc]) := ho7
    rw [hl6, ← htk] at ho8
    refine IH (l.length - (j + 1)) _ _ (by omega) ⟨j + 1, w', rfl, by omega, by simp only [go_sem, Wk_block, Wk_drawnC, reduceCtorEq, Nat.reduceEqDiff, Nat.reduceAdd, Nat.reduceLeDiff, Nat.reduceLT, Nat.reduceMul, Nat.reduceSub, ↓reduceIte, Int.reduceLT, Int.reduceLE, Int.reduceNeg, Int.reduceAdd, Int.reduceEq, Nat.reduceBneDiff, Nat.reduceBEq, Int.reduceToNat, Int.reduceMul, Int.reduceSub, Int.reduceBEq, Int.reduceBNe], by simp only [go_sem, Wk_block, Wk_drawnC, reduceCtorEq, Nat.reduceEqDiff, Nat.reduceAdd, Nat.reduceLeDiff, Nat.reduceLT, Nat.reduceMul, Nat.reduceSub, ↓reduceIte, Int.reduceLT, Int.reduceLE, Int.reduceNeg, Int.reduceAdd, Int.reduceEq, Nat.reduceBneDiff, Nat.reduceBEq, Int.reduceToNat, Int.reduceMul, Int.reduceSub, Int.reduceBEq, Int.reduceBNe, g15], by simp only [go_sem, Wk_block, Wk_drawnC, reduceCtorEq, Nat.reduceEqDiff, Nat.reduceAdd, Nat.reduceLeDiff, Nat.reduceLT, Nat.reduceMul, Nat.reduceSub, ↓reduceIte, Int.reduceLT, Int.reduceLE, Int.reduceNeg, Int.reduceAdd, Int.reduceEq, Nat.reduceBneDiff, Nat.reduceBEq, Int.reduceToNat, Int.reduceMul, Int.reduceSub, Int.reduceBEq, Int.reduceBNe, g14], by simp only [go_sem, Wk_block, Wk_drawnC, reduceCtorEq, Nat.reduceEqDiff, Nat.reduceAdd, Nat.reduceLeDiff, Nat.reduceLT, Nat.reduceMul, Nat.reduceSub, ↓reduceIte, Int.reduceLT, Int.reduceLE, Int.reduceNeg, Int.reduceAdd, Int.reduceEq, Nat.reduceBneDiff, Nat.reduceBEq, Int.reduceToNat, Int.reduceMul, Int.reduceSub, Int.reduceBEq, Int.reduceBNe, g1], by simp only [go_sem, Wk_block, Wk_drawnC, reduceCtorEq, Nat.reduceEqDiff, Nat.reduceAdd, Nat.reduceLeDiff, Nat.reduceLT, Nat.reduceMul, Nat.reduceSub, ↓reduceIte, Int.reduceLT, Int.reduceLE, Int.reduceNeg, Int.reduceAdd, Int.reduceEq, Nat.reduceBneDiff, Nat.reduceBEq, Int.reduceToNat, Int.reduceMul, Int.reduceSub, Int.reduceBEq, Int.reduceBNe, g2], by simp only [go_sem, Wk_block, Wk_drawnC, reduceCtorEq, Nat.reduceEqDiff, Nat.reduceAdd, Nat.reduceLeDiff, Nat.reduceLT, Nat.reduceMul, Nat.reduceSub, ↓reduceIte, Int.reduceLT, Int.reduceLE, Int.reduceNeg, Int.reduceAdd, Int.reduceEq, Nat.reduceBneDiff, Nat.reduceBEq, Int.reduceToNat, Int.reduceMul, Int.reduceSub, Int.reduceBEq, Int.reduceBNe, g3], by simp only [go_sem, Wk_block, Wk_drawnC, reduceCtorEq, Nat.reduceEqDiff, Nat.reduceAdd, Nat.reduceLeDiff, Nat.reduceLT, Nat.reduceMul, Nat.reduceSub, ↓reduceIte, Int.reduceLT, Int.reduceLE, Int.reduceNeg, Int.reduceAdd, Int.reduceEq, Nat.reduceBneDiff, Nat.reduceBEq, Int.reduceToNat, Int.reduceMul, Int.reduceSub, Int.reduceBEq, Int.reduceBNe], ho8, ?_, ⟨?_, fun y hy => ?_⟩, by omega⟩
    · rw [hfr a (by omega), St.get_new, if_neg (by omega)]; exact hga6
    · have := hF6.le; omega
    · have := hF6.le; rw [hfr y (by omega), St.get_new, if_neg (by omega)]; exact hF6.get y hy
  · rw [hin, if_pos rfl] at htk
    rw [hin] at g10
    rw [← htk] at ho6
    simp -implicitDefEqProofs only [go_sem, Wk_block, Wk_drawnC, reduceCtorEq, Nat.reduceEqDiff, Nat.reduceAdd, Nat.reduceLeDiff, Nat.reduceLT, Nat.reduceMul, Nat.reduceSub, ↓reduceIte, Int.reduceLT, Int.reduceLE, Int.reduceNeg, Int.reduceAdd, Int.reduceEq, Nat.reduceBneDiff, Nat.reduceBEq, Int.reduceToNat, Int.reduceMul, Int.reduceSub, Int.reduceBEq, Int.reduceBNe, g16, g15, g14, g1, g2, g3, g7, g10, w16, Bool.not_true, ft]
    exact IH (l.length - (j + 1)) _ _ (by omega) ⟨j + 1, w, rfl, by omega, by simp only [go_sem, Wk_block, Wk_drawnC, reduceCtorEq, Nat.reduceEqDiff, Nat.reduceAdd, Nat.reduceLeDiff, Nat.reduceLT, Nat.reduceMul, Nat.reduceSub, ↓reduceIte, Int.reduceLT, Int.reduceLE, Int.reduceNeg, Int.reduceAdd, Int.reduceEq, Nat.reduceBneDiff, Nat.reduceBEq, Int.reduceToNat, Int.reduceMul, Int.reduceSub, Int.reduceBEq, Int.reduceBNe], by simp only [go_sem, Wk_block, Wk_drawnC, reduceCtorEq, Nat.reduceEqDiff, Nat.reduceAdd, Nat.reduceLeDiff, Nat.reduceLT, Nat.reduceMul, Nat.reduceSub, ↓reduceIte, Int.reduceLT, Int.reduceLE, Int.reduceNeg, Int.reduceAdd, Int.reduceEq, Nat.reduceBneDiff, Nat.reduceBEq, Int.reduceToNat, Int.reduceMul, Int.reduceSub, Int.reduceBEq, Int.reduceBNe, g15], by simp only [go_sem, Wk_block, Wk_drawnC, reduceCtorEq, Nat.reduceEqDiff, Nat.reduceAdd, Nat.reduceLeDiff, Nat.reduceLT, Nat.reduceMul, Nat.reduceSub, ↓reduceIte, Int.reduceLT, Int.reduceLE, Int.reduceNeg, Int.reduceAdd, Int.reduceEq, Nat.reduceBneDiff, Nat.reduceBEq, Int.reduceToNat, Int.reduceMul, Int.reduceSub, Int.reduceBEq, Int.reduceBNe, g14], by simp only [go_sem, Wk_block, Wk_drawnC, reduceCtorEq, Nat.reduceEqDiff, Nat.reduceAdd, Nat.reduceLeDiff, Nat.reduceLT, Nat.reduceMul, Nat.reduceSub, ↓reduceIte, Int.reduceLT, Int.reduceLE, Int.reduceNeg, Int.reduceAdd, Int.reduceEq, Nat.reduceBneDiff, Nat.reduceBEq, Int.reduceToNat, Int.reduceMul, Int.reduceSub, Int.reduceBEq, Int.reduceBNe, g1], by simp only [go_sem, Wk_block, Wk_drawnC, reduceCtorEq, Nat.reduceEqDiff, Nat.reduceAdd, Nat.reduceLeDiff, Nat.reduceLT, Nat.reduceMul, Nat.reduceSub, ↓reduceIte, Int.reduceLT, Int.reduceLE, Int.reduceNeg, Int.reduceAdd, Int.reduceEq, Nat.reduceBneDiff, Nat.reduceBEq, Int.reduceToNat, Int.reduceMul, Int.reduceSub, Int.reduceBEq, Int.reduceBNe, g2], by simp only [go_sem, Wk_block, Wk_drawnC, reduceCtorEq, Nat.reduceEqDiff, Nat.reduceAdd, Nat.reduceLeDiff, Nat.reduceLT, Nat.reduceMul, Nat.reduceSub, ↓reduceIte, Int.reduceLT, Int.reduceLE, Int.reduceNeg, Int.reduceAdd, Int.reduceEq, Nat.reduceBneDiff, Nat.reduceBEq, Int.reduceToNat, Int.reduceMul, Int.reduceSub, Int.reduceBEq, Int.reduceBNe, g3], by simp only [go_sem, Wk_block, Wk_drawnC, reduceCtorEq, Nat.reduceEqDiff, Nat.reduceAdd, Nat.reduceLeDiff, Nat.reduceLT, Nat.reduceMul, Nat.reduceSub, ↓reduceIte, Int.reduceLT, Int.reduceLE, Int.reduceNeg, Int.reduceAdd, Int.reduceEq, Nat.reduceBneDiff, Nat.reduceBEq, Int.reduceToNat, Int.reduceMul, Int.reduceSub, Int.reduceBEq, Int.reduceBNe, g7], ho6, hga6, hF6, hN6⟩
end Go.Proofs.Ytjejgnbdlfkenaa
namespace Go.Proofs.Ytjejgnbdlfkenaa
open D Base
set_option linter.unusedSimpArgs false
set_option linter.unusedVariables false
set_option maxRecDepth 10000

theorem ok_kp {s : St} {v : AV} (h : ArgOk s tyKeep v) : ∃ k : Kp, v = .agg k.enc ∧ KpOk k := by
  obtain ⟨cs, rfl, h⟩ := h
  obtain ⟨_, _, rfl, ⟨e, rfl, h1, h2⟩, k1⟩ := okAll_cons h
  obtain ⟨_, _, rfl, ⟨q, rfl, h3, h4⟩, k2⟩ := okAll_cons k1
  obtain ⟨_, _, rfl, ⟨r, rfl, _, _⟩, k3⟩ := okAll_cons k2
  obtain ⟨_, _, rfl, ⟨t, rfl, _, _⟩, k4⟩ := okAll_cons k3
  rw [okAll_nil k4]
  exact ⟨⟨e, q, r, t⟩, rfl, ⟨h1, h2⟩, h3, h4⟩
theorem keepTells_run : ∀ (s : St) (a : List AV), ArgsOk s [tyKeep, .slice tySn, .slice tyLb] a → Wf mm 3 a s fun v _ => v = .bool true := by
  rintro s a h
  obtain ⟨v0, r0, rfl, h0, h⟩ := argsOk_cons h
  obtain ⟨v1, r1, rfl, h1, h⟩ := argsOk_cons h
  obtain ⟨v2, r2, rfl, h2, h⟩ := argsOk_cons h
  rw [argsOk_nil h]
  obtain ⟨k, rfl, hk⟩ := ok_kp h0
  obtain ⟨l, hR, hok, hS⟩ := sns_arg h1
  obtain ⟨M, hM, hM0⟩ := lbs_arg h2
  refine Wf_enter ft3 (sm (by decide)) (by rfl) ?_
  have ft : (false == true) = false := rfl
  have tf : (true == false) = false := rfl
  have hlen := hR.len
  have hlm := hM.rd.len
  rw [List.length_map] at hlen hlm
  obtain ⟨a, ha⟩ : ∃ a, s.next = a := ⟨_, rfl⟩
  have f0 : Fr s (s.new (.cells k.enc false false 0)) := (Fr.refl s).new _
  have ga : (s.new (.cells k.enc false false 0)).get a = some (.cells k.enc false false 0) := by rw [St.get_new, if_pos ha.symm]
  have hn0 : (s.new (.cells k.enc false false 0)).next = a + 1 := by rw [St.next_new, ha]
  by_cases hl60 : l.length ≤ 60
  rotate_left
  · have c1 : decide ((l.length : Int) > 60) = true := decide_eq_true (by omega)
    simp -implicitDefEqProofs only [go_sem, Wk_block, Wk_drawnC, reduceCtorEq, Nat.reduceEqDiff, Nat.reduceAdd, Nat.reduceLeDiff, Nat.reduceLT, Nat.reduceMul, Nat.reduceSub, ↓reduceIte, Int.reduceLT, Int.reduceLE, Int.reduceNeg, Int.reduceAdd, Int.reduceEq, Nat.reduceBneDiff, Nat.reduceBEq, Int.reduceToNat, Int.reduceMul, Int.reduceSub, Int.reduceBEq, Int.reduceBNe, fd3, Wl_eq (alive_eq _), hlen, c1, Bool.not_true, ft, tf]
  have c1 : decide ((l.length : Int) > 60) = false := decide_eq_false (by omega)
  by_cases hm60 : M.length ≤ 60
  rotate_left
  · have c2 : decide ((M.length : Int) > 60) = true := decide_eq_true (by omega)
    simp -implicitDefEqProofs only [go_sem, Wk_block, Wk_drawnC, reduceCtorEq, Nat.reduceEqDiff, Nat.reduceAdd, Nat.reduceLeDiff, Nat.reduceLT, Nat.reduceMul, Nat.reduceSub, ↓reduceIte, Int.reduceLT, Int.reduceLE, Int.reduceNeg, Int.reduceAdd, Int.reduceEq, Nat.reduceBneDiff, Nat.reduceBEq, Int.reduceToNat, Int.reduceMul, Int.reduceSub, Int.reduceBEq, Int.reduceBNe, fd3, Wl_eq (alive_eq _), hlen, hlm, c1, c2, Bool.not_true, ft, tf]
  have c2 : decide ((M.length : Int) > 60) = false := decide_eq_false (by omega)
  have hS := hS (by omega)
  simp -implicitDefEqProofs only [go_sem, Wk_block, Wk_drawnC, reduceCtorEq, Nat.reduceEqDiff, Nat.reduceAdd, Nat.reduceLeDiff, Nat.reduceLT, Nat.reduceMul, Nat.reduceSub, ↓reduceIte, Int.reduceLT, Int.reduceLE, Int.reduceNeg, Int.reduceAdd, Int.reduceEq, Nat.reduceBneDiff, Nat.reduceBEq, Int.reduceToNat, Int.reduceMul, Int.reduceSub, Int.reduceBEq, Int.reduceBNe, fd3, Wl_eq (alive_eq _), hlen, hlm, c1, c2, ha, Bool.not_true, ft, tf]
  generalize s.new (.cells k.enc false false 0) = s0 at f0 ga hn0 ⊢
  refine Wl_of (Rising_run hl60 (hR.mono f0)) ?_
  rintro w s1 ⟨b, rfl, hb, f1⟩
  cases b
  · simp -implicitDefEqProofs only [go_sem, Wk_block, Wk_drawnC, reduceCtorEq, Nat.reduceEqDiff, Nat.reduceAdd, Nat.reduceLeDiff, Nat.reduceLT, Nat.reduceMul, Nat.reduceSub, ↓reduceIte, Int.reduceLT, Int.reduceLE, Int.reduceNeg, Int.reduceAdd, Int.reduceEq, Nat.reduceBneDiff, Nat.reduceBEq, Int.reduceToNat, Int.reduceMul, Int.reduceSub, Int.reduceBEq, Int.reduceBNe, Bool.not_false, ft, tf]
  have hr := hb rfl
  have F1 := f0.trans f1
  have g1 := (f1.get a (by omega)).trans ga
  have n1 : a + 1 ≤ s1.next := by have := f1.le; omega
  simp -implicitDefEqProofs only [go_sem, Wk_block, Wk_drawnC, reduceCtorEq, Nat.reduceEqDiff, Nat.reduceAdd, Nat.reduceLeDiff, Nat.reduceLT, Nat.reduceMul, Nat.reduceSub, ↓reduceIte, Int.reduceLT, Int.reduceLE, Int.reduceNeg, Int.reduceAdd, Int.reduceEq, Nat.reduceBneDiff, Nat.reduceBEq, Int.reduceToNat, Int.reduceMul, Int.reduceSub, Int.reduceBEq, Int.reduceBNe, g1, Bool.not_true, ft, tf]
  refine Wl_of (Kept_run hk hl60 hr hok (hS.mono F1)) ?_
  rintro w2 s2 ⟨hC, f2⟩
  have F2 := F1.trans f2
  have g2 := (f2.get a (by omega)).trans g1
  have n2 : a + 1 ≤ s2.next := by have := f2.le; omega
  have pl : (pickS k.last k.span k.spans l l).length ≤ 60 := by
    have := (pickS_sub k.last k.span k.spans l l).length_le
    rw [List.length_map] at this
    omega
  have hCr := hC.rd (by unfold maxLen; omega)
  simp -implicitDefEqProofs only [go_sem, Wk_block, Wk_drawnC, reduceCtorEq, Nat.reduceEqDiff, Nat.reduceAdd, Nat.reduceLeDiff, Nat.reduceLT, Nat.reduceMul, Nat.reduceSub, ↓reduceIte, Int.reduceLT, Int.reduceLE, Int.reduceNeg, Int.reduceAdd, Int.reduceEq, Nat.reduceBneDiff, Nat.reduceBEq, Int.reduceToNat, Int.reduceMul, Int.reduceSub, Int.reduceBEq, Int.reduceBNe, g2, ft, tf]
  refine Wl_of (RKept_run hk hl60 hok (hR.mono F2)) ?_
  rintro w3 s3 ⟨hO, f3⟩
  have F3 := F2.trans f3
  have g3 := (f3.get a (by omega)).trans g2
  have n3 : a + 1 ≤ s3.next := by have := f3.le; omega
  have hOr := hO.rd enc_len (by rw [List.length_map]; unfold maxLen; omega)
  simp -implicitDefEqProofs only [go_sem, Wk_block, Wk_drawnC, reduceCtorEq, Nat.reduceEqDiff, Nat.reduceAdd, Nat.reduceLeDiff, Nat.reduceLT, Nat.reduceMul, Nat.reduceSub, ↓reduceIte, Int.reduceLT, Int.reduceLE, Int.reduceNeg, Int.reduceAdd, Int.reduceEq, Nat.reduceBneDiff, Nat.reduceBEq, Int.reduceToNat, Int.reduceMul, Int.reduceSub, Int.reduceBEq, Int.reduceBNe, ft, tf]
  refine Wl_of (Same_run (hCr.mono f3) hOr) ?_
  rintro w4 s4 ⟨rfl, f4⟩
  have F4 := F3.trans f4
  have g4 := (f4.get a (by omega)).trans g3
  have n4 : a + 1 ≤ s4.next := by have := f4.le; omega
  have dd : decide (pickS k.last k.span k.spans l l = pickS k.last k.span k.spans l l) = true := decide_eq_true rfl
  rw [dd]
  simp -implicitDefEqProofs only [go_sem, Wk_block, Wk_drawnC, reduceCtorEq, Nat.reduceEqDiff, Nat.reduceAdd, Nat.reduceLeDiff, Nat.reduceLT, Nat.reduceMul, Nat.reduceSub, ↓reduceIte, Int.reduceLT, Int.reduceLE, Int.reduceNeg, Int.reduceAdd, Int.reduceEq, Nat.reduceBneDiff, Nat.reduceBEq, Int.reduceToNat, Int.reduceMul, Int.reduceSub, Int.reduceBEq, Int.reduceBNe, g4, ft, tf]
  refine Wl_of (Goes_run hk hl60 hr hok (hS.mono F4) (hM.mono F4) (by omega)) ?_
  rintro w5 s5 ⟨hG, f5⟩
  have F5 := F4.trans f5
  have g5 := (f5.get a (by omega)).trans g4
  have n5 : a + 1 ≤ s5.next := by have := f5.le; omega
  simp -implicitDefEqProofs only [go_sem, Wk_block, Wk_drawnC, reduceCtorEq, Nat.reduceEqDiff, Nat.reduceAdd, Nat.reduceLeDiff, Nat.reduceLT, Nat.reduceMul, Nat.reduceSub, ↓reduceIte, Int.reduceLT, Int.reduceLE, Int.reduceNeg, Int.reduceAdd, Int.reduceEq, Nat.reduceBneDiff, Nat.reduceBEq, Int.reduceToNat, Int.reduceMul, Int.reduceSub, Int.reduceBEq, Int.reduceBNe, g5, ft, tf]
  refine Wl_of (RGoes_run hk hl60 hr hok (hR.mono F5) (hM.rd.mono F5) (by omega)) ?_
  rintro w6 s6 ⟨hO6, f6⟩
  have F6 := F5.trans f6
  have g6 := (f6.get a (by omega)).trans g5
  have gl := goesS_len (pickS k.last k.span k.spans l l ++ M) l
  have hGr : Rd s5 w5 2 ((goesS (pickS k.last k.span k.spans l l ++ M) l).map Lb.enc) := by
    rcases hG with ⟨rfl, e⟩ | ⟨p, rfl, h1, h2, h3, h4⟩
    · rw [e]; exact ⟨fun _ => rfl, by simp, fun h => by simp at h⟩
    · exact rd_flat h4 h3 (Nat.le_refl _) List.take_length (by unfold maxLen; omega)
  have hOr6 := hO6.rd enc_len (by rw [List.length_map]; unfold maxLen; omega)
  simp -implicitDefEqProofs only [go_sem, Wk_block, Wk_drawnC, reduceCtorEq, Nat.reduceEqDiff, Nat.reduceAdd, Nat.reduceLeDiff, Nat.reduceLT, Nat.reduceMul, Nat.reduceSub, ↓reduceIte, Int.reduceLT, Int.reduceLE, Int.reduceNeg, Int.reduceAdd, Int.reduceEq, Nat.reduceBneDiff, Nat.reduceBEq, Int.reduceToNat, Int.reduceMul, Int.reduceSub, Int.reduceBEq, Int.reduceBNe, ft, tf]
  refine Wl_of (Same_run (hGr.mono f6) hOr6) ?_
  rintro w7 s7 ⟨rfl, f7⟩
  have g7 := (f7.get a (by have := f6.le; omega)).trans g6
  have dd2 : decide (goesS (pickS k.last k.span k.spans l l ++ M) l = goesS (pickS k.last k.span k.spans l l ++ M) l) = true := decide_eq_true rfl
  rw [dd2]
  simp -implicitDefEqProofs only [go_sem, Wk_block, Wk_drawnC, reduceCtorEq, Nat.reduceEqDiff, Nat.reduceAdd, Nat.reduceLeDiff, Nat.reduceLT, Nat.reduceMul, Nat.reduceSub, ↓reduceIte, Int.reduceLT, Int.reduceLE, Int.reduceNeg, Int.reduceAdd, Int.reduceEq, Nat.reduceBneDiff, Nat.reduceBEq, Int.reduceToNat, Int.reduceMul, Int.reduceSub, Int.reduceBEq, Int.reduceBNe, g1, g2, g3, g4, g5, g6, g7, ft, tf]
end Go.Proofs.Ytjejgnbdlfkenaa
namespace Go.Proofs.Ytjejgnbdlfkenaa
open D Base
set_option linter.unusedSimpArgs false
set_option linter.unusedVariables false
set_option maxRecDepth 10000

theorem snenc_len {L : List Sn} : ∀ x ∈ L.map Sn.enc, x.length = 4 := by
  intro x hx
  obtain ⟨y, _, rfl⟩ := List.mem_map.1 hx
  rfl
theorem sns_of_out {s : St} {N : Nat} {w : AV} {l : List Sn} (h : OutG s N w 4 (l.map Sn.enc)) (hl : l.length < 1000000) (ht : ∀ x ∈ l, 0 ≤ x.t ∧ x.t ≤ 4294967295) : Sns s w l := by
  have hrd := h.rd snenc_len (by rw [List.length_map]; unfold maxLen; omega)
  rcases h with ⟨q, rfl, he, h3, h4, h5⟩ | ⟨p, rfl, h1, h2, h3, h4⟩
  · obtain rfl : l = [] := by simpa using he
    refine ⟨hrd, fun s' f => ?_, fun k hk => ?_⟩
    · have hg := (f.get q h4).trans h5
      unfold readSn
      dsimp only
      have : loadA s' q 0 (0 * 4) = some [] := by unfold loadA; rw [hg]; simp
      rw [if_pos (by omega), this]
      rfl
    · obtain rfl : k = 0 := by simpa using hk
      exact ⟨.slice q 0 0 0 false, rfl, rd_nil fun _ => rfl⟩
  · rw [List.length_map] at h1 hrd ⊢
    have hat : ∀ j (hj : j < l.length), 0 + j * 4 + 4 ≤ (l.map Sn.enc).flatten.length ∧ ((l.map Sn.enc).flatten.drop (0 + j * 4)).take 4 = l[j].enc := fun j hj => by
      have := flat_at snenc_len j (by rw [List.length_map]; exact hj)
      rw [Nat.zero_add]
      rw [List.getElem_map] at this
      exact this
    have hfl : (l.map Sn.enc).flatten.length = l.length * 4 := by rw [flat_len snenc_len, List.length_map]
    refine ⟨hrd, fun s' f => ?_, fun k hk => ?_⟩
    · have hg := (f.get p h3).trans h4
      unfold readSn
      dsimp only
      have : loadA s' p 0 (l.length * 4) = some (l.flatMap Sn.enc ++ []) := by
        unfold loadA
        rw [hg]
        dsimp only
        rw [if_pos (by omega), List.drop_zero, List.take_of_length_le (by omega), List.append_nil]
        rfl
      rw [if_pos hl, this]
      exact decSn_of l [] ht
    · have hbk : boundsA l.length l.length (some (.int .i64 (k : Int))) none none = some (k, l.length, l.length) := by
        unfold boundsA
        dsimp only
        rw [if_pos (Nat.le_refl _)]
        dsimp only
        have : boundA (.int .i64 (k : Int)) l.length = some k := by
          show (if 0 ≤ (k : Int) ∧ (k : Int) ≤ (l.length : Int) then some ((k : Int).toNat) else none) = some k
          rw [if_pos ⟨by omega, by omega⟩]
          simp
        rw [this]
      by_cases hkl : l.length = k
      · refine ⟨.tail p 0 (k * 4), ?_, ?_⟩
        · unfold sliceA
          dsimp only
          rw [hbk]
          dsimp only
          rw [if_pos (by rfl), if_pos hkl]
        · rw [List.drop_eq_nil_of_le (by omega)]
          exact rd_nil fun _ => rfl
      · refine ⟨.slice p (0 + k * 4) (l.length - k) (l.length - k) true, ?_, ?_⟩
        · unfold sliceA
          dsimp only
          rw [hbk]
          dsimp only
          rw [if_pos (by rfl), if_neg hkl]
        · have hdl : (l.drop k).length = l.length - k := List.length_drop
          rw [← hdl]
          refine rd_drop h4 h3 (by rw [hdl]; unfold maxLen; omega) fun j hj => ?_
          rw [hdl] at hj
          rw [List.getElem_drop]
          have := hat (k + j) (by omega)
          rw [show 0 + k * 4 + j * 4 = 0 + (k + j) * 4 by omega]
          exact this
theorem OutG.push2 {s : St} {N : Nat} {w : AV} {sz eb : Nat} {L : List (List AV)} (h : OutG s N w sz L) (hN : N ≤ s.next) (hs : ∀ x ∈ L, x.length = sz) {x : List AV} (hx : x.length = sz) (hc : allCell x = true) (hl : (L.length + 1) * eb ≤ 2 ^ 46) :
    ∃ w' s', appendA sz eb s w 1 x = some (w', s') ∧ OutG s' N w' sz (L ++ [x]) ∧ s.next ≤ s'.next ∧ (∀ b, b < N → s'.get b = s.get b) ∧ ∀ b l z, b < s.next → s.get b = some (.cells l false false z) → s'.get b = some (.cells l false false z) := by
  obtain ⟨w', s', h1, h2, h3, h4⟩ := h.push (eb := eb) hN hs hx hc hl
  refine ⟨w', s', h1, h2, h3, h4, fun b l z hb hg => ?_⟩
  rcases h with ⟨q, rfl, rfl, k3, k4, k5⟩ | ⟨p, rfl, k1, k2, k3, k4⟩
  · unfold appendA at h1
    dsimp only at h1
    have : loadA s q 0 (0 * sz) = some [] := by unfold loadA; rw [k5]; simp
    rw [if_neg (by omega), if_pos (show (0 + 1) * eb ≤ 2 ^ 46 from hl), this] at h1
    have e : s' = s.new (.cells x true false sz) := by
      have := Option.some.inj h1
      exact (Prod.mk.inj this).2.symm
    rw [e, St.get_new, if_neg (by omega)]
    exact hg
  · have hf := flat_len hs
    have hlo : loadA s p 0 (L.length * sz) = some L.flatten := by
      unfold loadA
      rw [k4]
      simp only [hf, Nat.zero_add, Nat.le_refl, if_true, List.drop_zero]
      rw [List.take_of_length_le (by omega)]
    unfold appendA at h1
    simp only [hlo, k4] at h1
    rw [if_neg (by omega), if_pos hl] at h1
    simp only [hf, if_true, hc] at h1
    have hbp : b ≠ p := by
      rintro rfl
      rw [k4] at hg
      cases hg
    have e : s' = (s.drop p).new (.cells (L.flatten ++ x) true false sz) := by
      have h1' : some (AV.slice s.next 0 (L.length + 1) (L.length + 1) true, (s.drop p).new (.cells (L.flatten ++ x) true false sz)) = some (w', s') := h1
      exact (Prod.mk.inj (Option.some.inj h1')).2.symm
    rw [e, St.get_new, if_neg (by simp; omega), St.get_drop, if_neg hbp]
    exact hg
theorem leftS_take {K : List Lb} {l : List Sn} {j : Nat} (hj : j < l.length) : leftS K (l.take (j + 1)) = leftS K (l.take j) ++ (if l[j].l ∈ K then [l[j]] else []) := by
  unfold leftS
  rw [List.take_succ_eq_append_getElem hj, List.filter_append]
  congr 1
  by_cases h : l[j].l ∈ K
  · rw [if_pos h, List.filter_cons_of_pos (by simpa using h)]; rfl
  · rw [if_neg h, List.filter_cons_of_neg (by simpa using h)]; rfl
theorem goes_left {K : List Lb} {l : List Sn} (h : ∀ x ∈ l, x.l ∈ K) : goesS K l = [] := by
  unfold goesS
  rw [List.map_eq_nil_iff, List.filter_eq_nil_iff]
  intro x hx
  simpa using h x hx
theorem keepAgain_run : ∀ (s : St) (a : List AV), ArgsOk s [tyKeep, .slice tySn] a → Wf mm 4 a s fun v _ => v = .bool true := by
  rintro s a h
  obtain ⟨v0, r0, rfl, h0, h⟩ := argsOk_cons h
  obtain ⟨v1, r1, rfl, h1, h⟩ := argsOk_cons h
  rw [argsOk_nil h]
  obtain ⟨k, rfl, hk⟩ := ok_kp h0
  obtain ⟨l, hR, hok, hS⟩ := sns_arg h1
  refine Wf_enter ft4 (sm (by decide)) (by rfl) ?_
  have ft : (false == true) = false := rfl
  have tf : (true == false) = false := rfl
  have hlen := hR.len
  rw [List.length_map] at hlen
  obtain ⟨a, ha⟩ : ∃ a, s.next = a := ⟨_, rfl⟩
  have f0 : Fr s (s.new (.cells k.enc false false 0)) := (Fr.refl s).new _
  have ga : (s.new (.cells k.enc false false 0)).get a = some (.cells k.enc false false 0) := by rw [St.get_new, if_pos ha.symm]
  have hn0 : (s.new (.cells k.enc false false 0)).next = a + 1 := by rw [St.next_new, ha]
  by_cases hl60 : l.length ≤ 60
  rotate_left
  · have c1 : decide ((l.length : Int) > 60) = true := decide_eq_true (by omega)
    simp -implicitDefEqProofs only [go_sem, Wk_block, Wk_drawnC, reduceCtorEq, Nat.reduceEqDiff, Nat.reduceAdd, Nat.reduceLeDiff, Nat.reduceLT, Nat.reduceMul, Nat.reduceSub, ↓reduceIte, Int.reduceLT, Int.reduceLE, Int.reduceNeg, Int.reduceAdd, Int.reduceEq, Nat.reduceBneDiff, Nat.reduceBEq, Int.reduceToNat, Int.reduceMul, Int.reduceSub, Int.reduceBEq, Int.reduceBNe, fd4, Wl_eq (alive_eq _), hlen, c1, Bool.not_true, ft, tf]
  have c1 : decide ((l.length : Int) > 60) = false := decide_eq_false (by omega)
  have hS := hS (by omega)
  simp -implicitDefEqProofs only [go_sem, Wk_block, Wk_drawnC, reduceCtorEq, Nat.reduceEqDiff, Nat.reduceAdd, Nat.reduceLeDiff, Nat.reduceLT, Nat.reduceMul, Nat.reduceSub, ↓reduceIte, Int.reduceLT, Int.reduceLE, Int.reduceNeg, Int.reduceAdd, Int.reduceEq, Nat.reduceBneDiff, Nat.reduceBEq, Int.reduceToNat, Int.reduceMul, Int.reduceSub, Int.reduceBEq, Int.reduceBNe, fd4, Wl_eq (alive_eq _), hlen, c1, ha, Bool.not_true, ft, tf]
  generalize s.new (.cells k.enc false false 0) = s0 at f0 ga hn0 ⊢
  refine Wl_of (Rising_run hl60 (hR.mono f0)) ?_
  rintro w s1 ⟨b, rfl, hb, f1⟩
  cases b
  · simp -implicitDefEqProofs only [go_sem, Wk_block, Wk_drawnC, reduceCtorEq, Nat.reduceEqDiff, Nat.reduceAdd, Nat.reduceLeDiff, Nat.reduceLT, Nat.reduceMul, Nat.reduceSub, ↓reduceIte, Int.reduceLT, Int.reduceLE, Int.reduceNeg, Int.reduceAdd, Int.reduceEq, Nat.reduceBneDiff, Nat.reduceBEq, Int.reduceToNat, Int.reduceMul, Int.reduceSub, Int.reduceBEq, Int.reduceBNe, Bool.not_false, ft, tf]
  have hr := hb rfl
  have F1 := f0.trans f1
  have g1 := (f1.get a (by omega)).trans ga
  have n1 : a + 1 ≤ s1.next := by have := f1.le; omega
  simp -implicitDefEqProofs only [go_sem, Wk_block, Wk_drawnC, reduceCtorEq, Nat.reduceEqDiff, Nat.reduceAdd, Nat.reduceLeDiff, Nat.reduceLT, Nat.reduceMul, Nat.reduceSub, ↓reduceIte, Int.reduceLT, Int.reduceLE, Int.reduceNeg, Int.reduceAdd, Int.reduceEq, Nat.reduceBneDiff, Nat.reduceBEq, Int.reduceToNat, Int.reduceMul, Int.reduceSub, Int.reduceBEq, Int.reduceBNe, g1, Bool.not_true, ft, tf]
  refine Wl_of (Kept_run hk hl60 hr hok (hS.mono F1)) ?_
  rintro w2 s2 ⟨hC, f2⟩
  have F2 := F1.trans f2
  have g2 := (f2.get a (by omega)).trans g1
  have n2 : a + 1 ≤ s2.next := by have := f2.le; omega
  have pl : (pickS k.last k.span k.spans l l).length ≤ 60 := by
    have := (pickS_sub k.last k.span k.spans l l).length_le
    rw [List.length_map] at this
    omega
  have hCr := hC.rd (by unfold maxLen; omega)
  have hnd : (pickS k.last k.span k.spans l l).Nodup := (pickS_pair _ _ _ hr).imp (by rintro a b h rfl; exact lt_irrefl' _ h)
  obtain ⟨hag1, hag2⟩ := again_eq (last := k.last) (span := k.span) (spans := k.spans) hr
  have hpl := fun (h : 0 < k.last) a x e => pick_last (span := k.span) (spans := k.spans) (l := l) h a x e
  have hlr := leftS_rises (K := pickS k.last k.span k.spans l l) hr
  generalize hD : pickS k.last k.span k.spans l l = D at hCr hnd hag1 hag2 hpl hlr pl
  have hlD := hCr.len
  rw [List.length_map] at hlD
  obtain ⟨N, hN⟩ : ∃ N, s2.next = N := ⟨_, rfl⟩
  simp -implicitDefEqProofs only [go_sem, Wk_block, Wk_drawnC, reduceCtorEq, Nat.reduceEqDiff, Nat.reduceAdd, Nat.reduceLeDiff, Nat.reduceLT, Nat.reduceMul, Nat.reduceSub, ↓reduceIte, Int.reduceLT, Int.reduceLE, Int.reduceNeg, Int.reduceAdd, Int.reduceEq, Nat.reduceBneDiff, Nat.reduceBEq, Int.reduceToNat, Int.reduceMul, Int.reduceSub, Int.reduceBEq, Int.reduceBNe, hlen, hN, ft, tf]
  have f3 : Fr s2 (s2.new (.cells [] false false 0)) := (Fr.refl s2).new _
  have ho0 : OutG (s2.new (.cells [] false false 0)) N (.slice N 0 0 0 false) 4 (([] : List Sn).map Sn.enc) := .inl ⟨N, rfl, rfl, Nat.le_refl _, by rw [St.next_new]; omega, by rw [St.get_new, if_pos hN.symm]⟩
  generalize s2.new (.cells [] false false 0) = s3 at f3 ho0 ⊢
  refine Wk_loop_post (fun ts s' => ∃ w, ts.get 6 = some w ∧ ts.get 5 = some w2 ∧ ts.get 1 = some v1 ∧ ts.get 2 = some (.ptr a 0) ∧ OutG s' N w 4 ((leftS D l).map Sn.enc) ∧ Fr s2 s') ?_ ?_
  · refine loop_ind (fun n ts s' => ∃ (j : Nat) (w : AV), n = l.length - j ∧ j ≤ l.length ∧ ts.get 28 = some (.int .i64 (j : Int)) ∧ ts.get 27 = some (.int .i64 (l.length : Int)) ∧ ts.get 26 = some (v1) ∧ ts.get 5 = some (w2) ∧ ts.get 1 = some (v1) ∧ ts.get 2 = some (.ptr a 0) ∧ ts.get 6 = some w ∧ OutG s' N w 4 ((leftS D (l.take j)).map Sn.enc) ∧ Fr s2 s') ?_ (n := l.length)
      ⟨0, .slice N 0 0 0 false, rfl, by omega, by simp only [go_sem, Wk_block, Wk_drawnC, reduceCtorEq, Nat.reduceEqDiff, Nat.reduceAdd, Nat.reduceLeDiff, Nat.reduceLT, Nat.reduceMul, Nat.reduceSub, ↓reduceIte, Int.reduceLT, Int.reduceLE, Int.reduceNeg, Int.reduceAdd, Int.reduceEq, Nat.reduceBneDiff, Nat.reduceBEq, Int.reduceToNat, Int.reduceMul, Int.reduceSub, Int.reduceBEq, Int.reduceBNe], by simp only [go_sem, Wk_block, Wk_drawnC, reduceCtorEq, Nat.reduceEqDiff, Nat.reduceAdd, Nat.reduceLeDiff, Nat.reduceLT, Nat.reduceMul, Nat.reduceSub, ↓reduceIte, Int.reduceLT, Int.reduceLE, Int.reduceNeg, Int.reduceAdd, Int.reduceEq, Nat.reduceBneDiff, Nat.reduceBEq, Int.reduceToNat, Int.reduceMul, Int.reduceSub, Int.reduceBEq, Int.reduceBNe], by simp only [go_sem, Wk_block, Wk_drawnC, reduceCtorEq, Nat.reduceEqDiff, Nat.reduceAdd, Nat.reduceLeDiff, Nat.reduceLT, Nat.reduceMul, Nat.reduceSub, ↓reduceIte, Int.reduceLT, Int.reduceLE, Int.reduceNeg, Int.reduceAdd, Int.reduceEq, Nat.reduceBneDiff, Nat.reduceBEq, Int.reduceToNat, Int.reduceMul, Int.reduceSub, Int.reduceBEq, Int.reduceBNe], by simp only [go_sem, Wk_block, Wk_drawnC, reduceCtorEq, Nat.reduceEqDiff, Nat.reduceAdd, Nat.reduceLeDiff, Nat.reduceLT, Nat.reduceMul, Nat.reduceSub, ↓reduceIte, Int.reduceLT, Int.reduceLE, Int.reduceNeg, Int.reduceAdd, Int.reduceEq, Nat.reduceBneDiff, Nat.reduceBEq, Int.reduceToNat, Int.reduceMul, Int.reduceSub, Int.reduceBEq, Int.reduceBNe], by simp only [go_sem, Wk_block, Wk_drawnC, reduceCtorEq, Nat.reduceEqDiff, Nat.reduceAdd, Nat.reduceLeDiff, Nat.reduceLT, Nat.reduceMul, Nat.reduceSub, ↓reduceIte, Int.reduceLT, Int.reduceLE, Int.reduceNeg, Int.reduceAdd, Int.reduceEq, Nat.reduceBneDiff, Nat.reduceBEq, Int.reduceToNat, Int.reduceMul, Int.reduceSub, Int.reduceBEq, Int.reduceBNe], by simp only [go_sem, Wk_block, Wk_drawnC, reduceCtorEq, Nat.reduceEqDiff, Nat.reduceAdd, Nat.reduceLeDiff, Nat.reduceLT, Nat.reduceMul, Nat.reduceSub, ↓reduceIte, Int.reduceLT, Int.reduceLE, Int.reduceNeg, Int.reduceAdd, Int.reduceEq, Nat.reduceBneDiff, Nat.reduceBEq, Int.reduceToNat, Int.reduceMul, Int.reduceSub, Int.reduceBEq, Int.reduceBNe], by simp only [go_sem, Wk_block, Wk_drawnC, reduceCtorEq, Nat.reduceEqDiff, Nat.reduceAdd, Nat.reduceLeDiff, Nat.reduceLT, Nat.reduceMul, Nat.reduceSub, ↓reduceIte, Int.reduceLT, Int.reduceLE, Int.reduceNeg, Int.reduceAdd, Int.reduceEq, Nat.reduceBneDiff, Nat.reduceBEq, Int.reduceToNat, Int.reduceMul, Int.reduceSub, Int.reduceBEq, Int.reduceBNe], ho0, f3⟩
    clear f3 ho0 s3
    rintro _ ts s3 ⟨j, w, rfl, hj, g28, g27, g26, g5, g1, g2, g6, ho, f3⟩ IH
    by_cases hlt : j < l.length
    rotate_left
    · rw [List.take_of_length_le (by omega)] at ho
      simp -implicitDefEqProofs only [go_sem, Wk_block, Wk_drawnC, reduceCtorEq, Nat.reduceEqDiff, Nat.reduceAdd, Nat.reduceLeDiff, Nat.reduceLT, Nat.reduceMul, Nat.reduceSub, ↓reduceIte, Int.reduceLT, Int.reduceLE, Int.reduceNeg, Int.reduceAdd, Int.reduceEq, Nat.reduceBneDiff, Nat.reduceBEq, Int.reduceToNat, Int.reduceMul, Int.reduceSub, Int.reduceBEq, Int.reduceBNe, g28, g27, g26, g5, g1, g2, hlt, ft]
      rw [Wr_nil]
      exact ⟨.inr rfl, rfl, w, by simp only [go_sem, Wk_block, Wk_drawnC, reduceCtorEq, Nat.reduceEqDiff, Nat.reduceAdd, Nat.reduceLeDiff, Nat.reduceLT, Nat.reduceMul, Nat.reduceSub, ↓reduceIte, Int.reduceLT, Int.reduceLE, Int.reduceNeg, Int.reduceAdd, Int.reduceEq, Nat.reduceBneDiff, Nat.reduceBEq, Int.reduceToNat, Int.reduceMul, Int.reduceSub, Int.reduceBEq, Int.reduceBNe, g6], by simp only [go_sem, Wk_block, Wk_drawnC, reduceCtorEq, Nat.reduceEqDiff, Nat.reduceAdd, Nat.reduceLeDiff, Nat.reduceLT, Nat.reduceMul, Nat.reduceSub, ↓reduceIte, Int.reduceLT, Int.reduceLE, Int.reduceNeg, Int.reduceAdd, Int.reduceEq, Nat.reduceBneDiff, Nat.reduceBEq, Int.reduceToNat, Int.reduceMul, Int.reduceSub, Int.reduceBEq, Int.reduceBNe, g5], by simp only [go_sem, Wk_block, Wk_drawnC, reduceCtorEq, Nat.reduceEqDiff, Nat.reduceAdd, Nat.reduceLeDiff, Nat.reduceLT, Nat.reduceMul, Nat.reduceSub, ↓reduceIte, Int.reduceLT, Int.reduceLE, Int.reduceNeg, Int.reduceAdd, Int.reduceEq, Nat.reduceBneDiff, Nat.reduceBEq, Int.reduceToNat, Int.reduceMul, Int.reduceSub, Int.reduceBEq, Int.reduceBNe, g1], by simp only [go_sem, Wk_block, Wk_drawnC, reduceCtorEq, Nat.reduceEqDiff, Nat.reduceAdd, Nat.reduceLeDiff, Nat.reduceLT, Nat.reduceMul, Nat.reduceSub, ↓reduceIte, Int.reduceLT, Int.reduceLE, Int.reduceNeg, Int.reduceAdd, Int.reduceEq, Nat.reduceBneDiff, Nat.reduceBEq, Int.reduceToNat, Int.reduceMul, Int.reduceSub, Int.reduceBEq, Int.reduceBNe, g2], ho, f3⟩
    have F3 := F2.trans f3
    obtain ⟨b1, o1, vs1, lo3, ro1, z1, hidx1, hg1, hle1, heq1, hbl1⟩ := (hR.mono F3).at_ (j := j) (by rw [List.length_map]; exact hlt)
    rw [List.getElem_map] at heq1
    have w28 := succ_in (j := j) (by omega)
    have hle4 : o1 + (j * 4 + 4) ≤ vs1.length := by omega
    have htk := leftS_take (K := D) hlt
    have hgl : (leftS D (l.take j)).length ≤ 60 := by
      refine Nat.le_trans (List.length_filter_le _ _) ?_
      rw [List.length_take]; omega
    generalize l[j] = x at heq1 htk
    generalize leftS D (l.take j) = A at ho htk hgl
    have heq2 := heq1
    unfold Sn.enc at heq2
    obtain ⟨xa, hxa⟩ : ∃ y, s3.next = y := ⟨_, rfl⟩
    have f5 : Fr s2 (s3.new (.cells [.int .u32 x.l.e, .int .u32 x.l.q, .int .i64 x.r, .int .u32 x.t] false false 0)) := f3.new _
    have hx5 : (s3.new (.cells [.int .u32 x.l.e, .int .u32 x.l.q, .int .i64 x.r, .int .u32 x.t] false false 0)).get xa = some (.cells [.int .u32 x.l.e, .int .u32 x.l.q, .int .i64 x.r, .int .u32 x.t] false false 0) := by rw [St.get_new, if_pos hxa.symm]
    have hn5 : xa < (s3.new (.cells [.int .u32 x.l.e, .int .u32 x.l.q, .int .i64 x.r, .int .u32 x.t] false false 0)).next := by rw [St.next_new]; omega
    have ho5 := ho.fr ((Fr.refl s3).new (.cells [.int .u32 x.l.e, .int .u32 x.l.q, .int .i64 x.r, .int .u32 x.t] false false 0))
    simp -implicitDefEqProofs only [go_sem, Wk_block, Wk_drawnC, reduceCtorEq, Nat.reduceEqDiff, Nat.reduceAdd, Nat.reduceLeDiff, Nat.reduceLT, Nat.reduceMul, Nat.reduceSub, ↓reduceIte, Int.reduceLT, Int.reduceLE, Int.reduceNeg, Int.reduceAdd, Int.reduceEq, Nat.reduceBneDiff, Nat.reduceBEq, Int.reduceToNat, Int.reduceMul, Int.reduceSub, Int.reduceBEq, Int.reduceBNe, g28, g27, g26, g5, g1, g2, g6, hlt, hidx1, hg1, hle1, hle4, heq2, w28, hlD, ft]
    simp only [hxa]
    have hNxa : N ≤ xa := by have := f3.le; omega
    generalize s3.new (.cells [.int .u32 x.l.e, .int .u32 x.l.q, .int .i64 x.r, .int .u32 x.t] false false 0) = s5 at f5 hx5 hn5 ho5 ⊢
    refine Wk_loop_post (fun ts s' => ∃ w, ts.get 28 = some (.int .i64 (j : Int)) ∧ ts.get 27 = some (.int .i64 (l.length : Int)) ∧ ts.get 26 = some (v1) ∧ ts.get 5 = some (w2) ∧ ts.get 1 = some (v1) ∧ ts.get 2 = some (.ptr a 0) ∧ ts.get 8 = some (.ptr xa 0) ∧ ts.get 6 = some w ∧ OutG s' N w 4 ((A ++ (if x.l ∈ D then [x] else [])).map Sn.enc) ∧ Fr s2 s') ?_ ?_
    · refine loop_ind (fun n ts s' => ∃ (e : Nat) (w : AV), n = D.length - e ∧ e ≤ D.length ∧ ts.get 34 = some (.int .i64 (e : Int)) ∧ ts.get 33 = some (.int .i64 (D.length : Int)) ∧ ts.get 32 = some w2 ∧ ts.get 28 = some (.int .i64 (j : Int)) ∧ ts.get 27 = some (.int .i64 (l.length : Int)) ∧ ts.get 26 = some (v1) ∧ ts.get 5 = some (w2) ∧ ts.get 1 = some (v1) ∧ ts.get 2 = some (.ptr a 0) ∧ ts.get 8 = some (.ptr xa 0) ∧ ts.get 6 = some w ∧ OutG s' N w 4 ((A ++ (if x.l ∈ D.take e then [x] else [])).map Sn.enc) ∧ s'.get xa = some (.cells [.int .u32 x.l.e, .int .u32 x.l.q, .int .i64 x.r, .int .u32 x.t] false false 0) ∧ xa < s'.next ∧ Fr s2 s') ?_ (n := D.length) ?_
      rotate_left
      · refine ⟨0, w, rfl, by omega, by simp only [go_sem, Wk_block, Wk_drawnC, reduceCtorEq, Nat.reduceEqDiff, Nat.reduceAdd, Nat.reduceLeDiff, Nat.reduceLT, Nat.reduceMul, Nat.reduceSub, ↓reduceIte, Int.reduceLT, Int.reduceLE, Int.reduceNeg, Int.reduceAdd, Int.reduceEq, Nat.reduceBneDiff, Nat.reduceBEq, Int.reduceToNat, Int.reduceMul, Int.reduceSub, Int.reduceBEq, Int.reduceBNe], by simp only [go_sem, Wk_block, Wk_drawnC, reduceCtorEq, Nat.reduceEqDiff, Nat.reduceAdd, Nat.reduceLeDiff, Nat.reduceLT, Nat.reduceMul, Nat.reduceSub, ↓reduceIte, Int.reduceLT, Int.reduceLE, Int.reduceNeg, Int.reduceAdd, Int.reduceEq, Nat.reduceBneDiff, Nat.reduceBEq, Int.reduceToNat, Int.reduceMul, Int.reduceSub, Int.reduceBEq, Int.reduceBNe], by simp only [go_sem, Wk_block, Wk_drawnC, reduceCtorEq, Nat.reduceEqDiff, Nat.reduceAdd, Nat.reduceLeDiff, Nat.reduceLT, Nat.reduceMul, Nat.reduceSub, ↓reduceIte, Int.reduceLT, Int.reduceLE, Int.reduceNeg, Int.reduceAdd, Int.reduceEq, Nat.reduceBneDiff, Nat.reduceBEq, Int.reduceToNat, Int.reduceMul, Int.reduceSub, Int.reduceBEq, Int.reduceBNe], by simp only [go_sem, Wk_block, Wk_drawnC, reduceCtorEq, Nat.reduceEqDiff, Nat.reduceAdd, Nat.reduceLeDiff, Nat.reduceLT, Nat.reduceMul, Nat.reduceSub, ↓reduceIte, Int.reduceLT, Int.reduceLE, Int.reduceNeg, Int.reduceAdd, Int.reduceEq, Nat.reduceBneDiff, Nat.reduceBEq, Int.reduceToNat, Int.reduceMul, Int.reduceSub, Int.reduceBEq, Int.reduceBNe, g28], by simp only [go_sem, Wk_block, Wk_drawnC, reduceCtorEq, Nat.reduceEqDiff, Nat.reduceAdd, Nat.reduceLeDiff, Nat.reduceLT, Nat.reduceMul, Nat.reduceSub, ↓reduceIte, Int.reduceLT, Int.reduceLE, Int.reduceNeg, Int.reduceAdd, Int.reduceEq, Nat.reduceBneDiff, Nat.reduceBEq, Int.reduceToNat, Int.reduceMul, Int.reduceSub, Int.reduceBEq, Int.reduceBNe, g27], by simp only [go_sem, Wk_block, Wk_drawnC, reduceCtorEq, Nat.reduceEqDiff, Nat.reduceAdd, Nat.reduceLeDiff, Nat.reduceLT, Nat.reduceMul, Nat.reduceSub, ↓reduceIte, Int.reduceLT, Int.reduceLE, Int.reduceNeg, Int.reduceAdd, Int.reduceEq, Nat.reduceBneDiff, Nat.reduceBEq, Int.reduceToNat, Int.reduceMul, Int.reduceSub, Int.reduceBEq, Int.reduceBNe, g26], by simp only [go_sem, Wk_block, Wk_drawnC, reduceCtorEq, Nat.reduceEqDiff, Nat.reduceAdd, Nat.reduceLeDiff, Nat.reduceLT, Nat.reduceMul, Nat.reduceSub, ↓reduceIte, Int.reduceLT, Int.reduceLE, Int.reduceNeg, Int.reduceAdd, Int.reduceEq, Nat.reduceBneDiff, Nat.reduceBEq, Int.reduceToNat, Int.reduceMul, Int.reduceSub, Int.reduceBEq, Int.reduceBNe, g5], by simp only [go_sem, Wk_block, Wk_drawnC, reduceCtorEq, Nat.reduceEqDiff, Nat.reduceAdd, Nat.reduceLeDiff, Nat.reduceLT, Nat.reduceMul, Nat.reduceSub, ↓reduceIte, Int.reduceLT, Int.reduceLE, Int.reduceNeg, Int.reduceAdd, Int.reduceEq, Nat.reduceBneDiff, Nat.reduceBEq, Int.reduceToNat, Int.reduceMul, Int.reduceSub, Int.reduceBEq, Int.reduceBNe, g1], by simp only [go_sem, Wk_block, Wk_drawnC, reduceCtorEq, Nat.reduceEqDiff, Nat.reduceAdd, Nat.reduceLeDiff, Nat.reduceLT, Nat.reduceMul, Nat.reduceSub, ↓reduceIte, Int.reduceLT, Int.reduceLE, Int.reduceNeg, Int.reduceAdd, Int.reduceEq, Nat.reduceBneDiff, Nat.reduceBEq, Int.reduceToNat, Int.reduceMul, Int.reduceSub, Int.reduceBEq, Int.reduceBNe, g2], by simp only [go_sem, Wk_block, Wk_drawnC, reduceCtorEq, Nat.reduceEqDiff, Nat.reduceAdd, Nat.reduceLeDiff, Nat.reduceLT, Nat.reduceMul, Nat.reduceSub, ↓reduceIte, Int.reduceLT, Int.reduceLE, Int.reduceNeg, Int.reduceAdd, Int.reduceEq, Nat.reduceBneDiff, Nat.reduceBEq, Int.reduceToNat, Int.reduceMul, Int.reduceSub, Int.reduceBEq, Int.reduceBNe], by simp only [go_sem, Wk_block, Wk_drawnC, reduceCtorEq, Nat.reduceEqDiff, Nat.reduceAdd, Nat.reduceLeDiff, Nat.reduceLT, Nat.reduceMul, Nat.reduceSub, ↓reduceIte, Int.reduceLT, Int.reduceLE, Int.reduceNeg, Int.reduceAdd, Int.reduceEq, Nat.reduceBneDiff, Nat.reduceBEq, Int.reduceToNat, Int.reduceMul, Int.reduceSub, Int.reduceBEq, Int.reduceBNe, g6], by simpa using ho5, hx5, hn5, f5⟩
      clear g28 g27 g26 g5 g1 g2 g6 ho5 hx5 hn5 f5
      rintro _ ts s6 ⟨e, w', rfl, he, g34, g33, g32, g28, g27, g26, g5, g1, g2, g8, g6, ho6, hx6, hn6, f6⟩ IH2
      by_cases hel : e < D.length
      rotate_left
      · have hee : e = D.length := by omega
        rw [hee, List.take_length] at ho6
        simp -implicitDefEqProofs only [go_sem, Wk_block, Wk_drawnC, reduceCtorEq, Nat.reduceEqDiff, Nat.reduceAdd, Nat.reduceLeDiff, Nat.reduceLT, Nat.reduceMul, Nat.reduceSub, ↓reduceIte, Int.reduceLT, Int.reduceLE, Int.reduceNeg, Int.reduceAdd, Int.reduceEq, Nat.reduceBneDiff, Nat.reduceBEq, Int.reduceToNat, Int.reduceMul, Int.reduceSub, Int.reduceBEq, Int.reduceBNe, g34, g33, hel, ft]
        rw [Wr_nil]
        exact ⟨.inr rfl, rfl, w', by simp only [go_sem, Wk_block, Wk_drawnC, reduceCtorEq, Nat.reduceEqDiff, Nat.reduceAdd, Nat.reduceLeDiff, Nat.reduceLT, Nat.reduceMul, Nat.reduceSub, ↓reduceIte, Int.reduceLT, Int.reduceLE, Int.reduceNeg, Int.reduceAdd, Int.reduceEq, Nat.reduceBneDiff, Nat.reduceBEq, Int.reduceToNat, Int.reduceMul, Int.reduceSub, Int.reduceBEq, Int.reduceBNe, g28], by simp only [go_sem, Wk_block, Wk_drawnC, reduceCtorEq, Nat.reduceEqDiff, Nat.reduceAdd, Nat.reduceLeDiff, Nat.reduceLT, Nat.reduceMul, Nat.reduceSub, ↓reduceIte, Int.reduceLT, Int.reduceLE, Int.reduceNeg, Int.reduceAdd, Int.reduceEq, Nat.reduceBneDiff, Nat.reduceBEq, Int.reduceToNat, Int.reduceMul, Int.reduceSub, Int.reduceBEq, Int.reduceBNe, g27], by simp only [go_sem, Wk_block, Wk_drawnC, reduceCtorEq, Nat.reduceEqDiff, Nat.reduceAdd, Nat.reduceLeDiff, Nat.reduceLT, Nat.reduceMul, Nat.reduceSub, ↓reduceIte, Int.reduceLT, Int.reduceLE, Int.reduceNeg, Int.reduceAdd, Int.reduceEq, Nat.reduceBneDiff, Nat.reduceBEq, Int.reduceToNat, Int.reduceMul, Int.reduceSub, Int.reduceBEq, Int.reduceBNe, g26], by simp only [go_sem, Wk_block, Wk_drawnC, reduceCtorEq, Nat.reduceEqDiff, Nat.reduceAdd, Nat.reduceLeDiff, Nat.reduceLT, Nat.reduceMul, Nat.reduceSub, ↓reduceIte, Int.reduceLT, Int.reduceLE, Int.reduceNeg, Int.reduceAdd, Int.reduceEq, Nat.reduceBneDiff, Nat.reduceBEq, Int.reduceToNat, Int.reduceMul, Int.reduceSub, Int.reduceBEq, Int.reduceBNe, g5], by simp only [go_sem, Wk_block, Wk_drawnC, reduceCtorEq, Nat.reduceEqDiff, Nat.reduceAdd, Nat.reduceLeDiff, Nat.reduceLT, Nat.reduceMul, Nat.reduceSub, ↓reduceIte, Int.reduceLT, Int.reduceLE, Int.reduceNeg, Int.reduceAdd, Int.reduceEq, Nat.reduceBneDiff, Nat.reduceBEq, Int.reduceToNat, Int.reduceMul, Int.reduceSub, Int.reduceBEq, Int.reduceBNe, g1], by simp only [go_sem, Wk_block, Wk_drawnC, reduceCtorEq, Nat.reduceEqDiff, Nat.reduceAdd, Nat.reduceLeDiff, Nat.reduceLT, Nat.reduceMul, Nat.reduceSub, ↓reduceIte, Int.reduceLT, Int.reduceLE, Int.reduceNeg, Int.reduceAdd, Int.reduceEq, Nat.reduceBneDiff, Nat.reduceBEq, Int.reduceToNat, Int.reduceMul, Int.reduceSub, Int.reduceBEq, Int.reduceBNe, g2], by simp only [go_sem, Wk_block, Wk_drawnC, reduceCtorEq, Nat.reduceEqDiff, Nat.reduceAdd, Nat.reduceLeDiff, Nat.reduceLT, Nat.reduceMul, Nat.reduceSub, ↓reduceIte, Int.reduceLT, Int.reduceLE, Int.reduceNeg, Int.reduceAdd, Int.reduceEq, Nat.reduceBneDiff, Nat.reduceBEq, Int.reduceToNat, Int.reduceMul, Int.reduceSub, Int.reduceBEq, Int.reduceBNe, g8], by simp only [go_sem, Wk_block, Wk_drawnC, reduceCtorEq, Nat.reduceEqDiff, Nat.reduceAdd, Nat.reduceLeDiff, Nat.reduceLT, Nat.reduceMul, Nat.reduceSub, ↓reduceIte, Int.reduceLT, Int.reduceLE, Int.reduceNeg, Int.reduceAdd, Int.reduceEq, Nat.reduceBneDiff, Nat.reduceBEq, Int.reduceToNat, Int.reduceMul, Int.reduceSub, Int.reduceBEq, Int.reduceBNe, g6], ho6, f6⟩
      obtain ⟨b2, o2, vs2, lo2, ro2, z2, hidx2, hg2, hle2, heq3, hbl2⟩ := (hCr.mono f6).at_ (j := e) (by rw [List.length_map]; exact hel)
      rw [List.getElem_map] at heq3
      unfold Lb.enc at heq3
      have q1 : o2 + (e * 2 + 2) ≤ vs2.length := by omega
      have w34 := succ_in (j := e) (by omega)
      have hne6 : ¬ xa = s6.next := by omega
      have hlb := lb_eq (a := x.l) (b := D[e])
      have htkD : D.take (e + 1) = D.take e ++ [D[e]] := List.take_succ_eq_append_getElem hel
      have f7 : Fr s2 (s6.new (.cells [.int .u32 D[e].e, .int .u32 D[e].q] false false 0)) := f6.new _
      have hx7 : (s6.new (.cells [.int .u32 D[e].e, .int .u32 D[e].q] false false 0)).get xa = some (.cells [.int .u32 x.l.e, .int .u32 x.l.q, .int .i64 x.r, .int .u32 x.t] false false 0) := by rw [St.get_new, if_neg hne6]; exact hx6
      have ho7 := ho6.fr ((Fr.refl s6).new (.cells [.int .u32 D[e].e, .int .u32 D[e].q] false false 0))
      cases c4 : (x.l.e == D[e].e && x.l.q == D[e].q)
      · rw [c4] at hlb
        have hne : ¬ x.l = D[e] := of_decide_eq_false hlb.symm
        have hsame : (if x.l ∈ D.take (e + 1) then [x] else []) = (if x.l ∈ D.take e then [x] else []) := by
          have : x.l ∈ D.take (e + 1) ↔ x.l ∈ D.take e := by rw [htkD, List.mem_append, List.mem_singleton]; exact ⟨fun h => h.resolve_right hne, .inl⟩
          simp only [this]
        cases c5 : (x.l.e == D[e].e)
        · simp -implicitDefEqProofs only [go_sem, Wk_block, Wk_drawnC, reduceCtorEq, Nat.reduceEqDiff, Nat.reduceAdd, Nat.reduceLeDiff, Nat.reduceLT, Nat.reduceMul, Nat.reduceSub, ↓reduceIte, Int.reduceLT, Int.reduceLE, Int.reduceNeg, Int.reduceAdd, Int.reduceEq, Nat.reduceBneDiff, Nat.reduceBEq, Int.reduceToNat, Int.reduceMul, Int.reduceSub, Int.reduceBEq, Int.reduceBNe, g34, g33, g32, g28, g27, g26, g5, g1, g2, g8, g6, hel, hidx2, hg2, hle2, q1, heq3, hx6, hne6, c5, w34, Bool.false_and, ft]
          exact IH2 (D.length - (e + 1)) _ _ (by omega) ⟨e + 1, w', rfl, by omega, by simp only [go_sem, Wk_block, Wk_drawnC, reduceCtorEq, Nat.reduceEqDiff, Nat.reduceAdd, Nat.reduceLeDiff, Nat.reduceLT, Nat.reduceMul, Nat.reduceSub, ↓reduceIte, Int.reduceLT, Int.reduceLE, Int.reduceNeg, Int.reduceAdd, Int.reduceEq, Nat.reduceBneDiff, Nat.reduceBEq, Int.reduceToNat, Int.reduceMul, Int.reduceSub, Int.reduceBEq, Int.reduceBNe], by simp only [go_sem, Wk_block, Wk_drawnC, reduceCtorEq, Nat.reduceEqDiff, Nat.reduceAdd, Nat.reduceLeDiff, Nat.reduceLT, Nat.reduceMul, Nat.reduceSub, ↓reduceIte, Int.reduceLT, Int.reduceLE, Int.reduceNeg, Int.reduceAdd, Int.reduceEq, Nat.reduceBneDiff, Nat.reduceBEq, Int.reduceToNat, Int.reduceMul, Int.reduceSub, Int.reduceBEq, Int.reduceBNe, g33], by simp only [go_sem, Wk_block, Wk_drawnC, reduceCtorEq, Nat.reduceEqDiff, Nat.reduceAdd, Nat.reduceLeDiff, Nat.reduceLT, Nat.reduceMul, Nat.reduceSub, ↓reduceIte, Int.reduceLT, Int.reduceLE, Int.reduceNeg, Int.reduceAdd, Int.reduceEq, Nat.reduceBneDiff, Nat.reduceBEq, Int.reduceToNat, Int.reduceMul, Int.reduceSub, Int.reduceBEq, Int.reduceBNe, g32], by simp only [go_sem, Wk_block, Wk_drawnC, reduceCtorEq, Nat.reduceEqDiff, Nat.reduceAdd, Nat.reduceLeDiff, Nat.reduceLT, Nat.reduceMul, Nat.reduceSub, ↓reduceIte, Int.reduceLT, Int.reduceLE, Int.reduceNeg, Int.reduceAdd, Int.reduceEq, Nat.reduceBneDiff, Nat.reduceBEq, Int.reduceToNat, Int.reduceMul, Int.reduceSub, Int.reduceBEq, Int.reduceBNe, g28], by simp only [go_sem, Wk_block, Wk_drawnC, reduceCtorEq, Nat.reduceEqDiff, Nat.reduceAdd, Nat.reduceLeDiff, Nat.reduceLT, Nat.reduceMul, Nat.reduceSub, ↓reduceIte, Int.reduceLT, Int.reduceLE, Int.reduceNeg, Int.reduceAdd, Int.reduceEq, Nat.reduceBneDiff, Nat.reduceBEq, Int.reduceToNat, Int.reduceMul, Int.reduceSub, Int.reduceBEq, Int.reduceBNe, g27], by simp only [go_sem, Wk_block, Wk_drawnC, reduceCtorEq, Nat.reduceEqDiff, Nat.reduceAdd, Nat.reduceLeDiff, Nat.reduceLT, Nat.reduceMul, Nat.reduceSub, ↓reduceIte, Int.reduceLT, Int.reduceLE, Int.reduceNeg, Int.reduceAdd, Int.reduceEq, Nat.reduceBneDiff, Nat.reduceBEq, Int.reduceToNat, Int.reduceMul, Int.reduceSub, Int.reduceBEq, Int.reduceBNe, g26], by simp only [go_sem, Wk_block, Wk_drawnC, reduceCtorEq, Nat.reduceEqDiff, Nat.reduceAdd, Nat.reduceLeDiff, Nat.reduceLT, Nat.reduceMul, Nat.reduceSub, ↓reduceIte, Int.reduceLT, Int.reduceLE, Int.reduceNeg, Int.reduceAdd, Int.reduceEq, Nat.reduceBneDiff, Nat.reduceBEq, Int.reduceToNat, Int.reduceMul, Int.reduceSub, Int.reduceBEq, Int.reduceBNe, g5], by simp only [go_sem, Wk_block, Wk_drawnC, reduceCtorEq, Nat.reduceEqDiff, Nat.reduceAdd, Nat.reduceLeDiff, Nat.reduceLT, Nat.reduceMul, Nat.reduceSub, ↓reduceIte, Int.reduceLT, Int.reduceLE, Int.reduceNeg, Int.reduceAdd, Int.reduceEq, Nat.reduceBneDiff, Nat.reduceBEq, Int.reduceToNat, Int.reduceMul, Int.reduceSub, Int.reduceBEq, Int.reduceBNe, g1], by simp only [go_sem, Wk_block, Wk_drawnC, reduceCtorEq, Nat.reduceEqDiff, Nat.reduceAdd, Nat.reduceLeDiff, Nat.reduceLT, Nat.reduceMul, Nat.reduceSub, ↓reduceIte, Int.reduceLT, Int.reduceLE, Int.reduceNeg, Int.reduceAdd, Int.reduceEq, Nat.reduceBneDiff, Nat.reduceBEq, Int.reduceToNat, Int.reduceMul, Int.reduceSub, Int.reduceBEq, Int.reduceBNe, g2], by simp only [go_sem, Wk_block, Wk_drawnC, reduceCtorEq, Nat.reduceEqDiff, Nat.reduceAdd, Nat.reduceLeDiff, Nat.reduceLT, Nat.reduceMul, Nat.reduceSub, ↓reduceIte, Int.reduceLT, Int.reduceLE, Int.reduceNeg, Int.reduceAdd, Int.reduceEq, Nat.reduceBneDiff, Nat.reduceBEq, Int.reduceToNat, Int.reduceMul, Int.reduceSub, Int.reduceBEq, Int.reduceBNe, g8], by simp only [go_sem, Wk_block, Wk_drawnC, reduceCtorEq, Nat.reduceEqDiff, Nat.reduceAdd, Nat.reduceLeDiff, Nat.reduceLT, Nat.reduceMul, Nat.reduceSub, ↓reduceIte, Int.reduceLT, Int.reduceLE, Int.reduceNeg, Int.reduceAdd, Int.reduceEq, Nat.reduceBneDiff, Nat.reduceBEq, Int.reduceToNat, Int.reduceMul, Int.reduceSub, Int.reduceBEq, Int.reduceBNe, g6], by rw [hsame]; exact ho7, hx7, by rw [St.next_new]; omega, f7⟩
        · have c6 : (x.l.q == D[e].q) = false := by rw [c5, Bool.true_and] at c4; exact c4
          simp -implicitDefEqProofs only [go_sem, Wk_block, Wk_drawnC, reduceCtorEq, Nat.reduceEqDiff, Nat.reduceAdd, Nat.reduceLeDiff, Nat.reduceLT, Nat.reduceMul, Nat.reduceSub, ↓reduceIte, Int.reduceLT, Int.reduceLE, Int.reduceNeg, Int.reduceAdd, Int.reduceEq, Nat.reduceBneDiff, Nat.reduceBEq, Int.reduceToNat, Int.reduceMul, Int.reduceSub, Int.reduceBEq, Int.reduceBNe, g34, g33, g32, g28, g27, g26, g5, g1, g2, g8, g6, hel, hidx2, hg2, hle2, q1, heq3, hx6, hne6, c5, c6, w34, Bool.true_and, Bool.false_and, ft]
          exact IH2 (D.length - (e + 1)) _ _ (by omega) ⟨e + 1, w', rfl, by omega, by simp only [go_sem, Wk_block, Wk_drawnC, reduceCtorEq, Nat.reduceEqDiff, Nat.reduceAdd, Nat.reduceLeDiff, Nat.reduceLT, Nat.reduceMul, Nat.reduceSub, ↓reduceIte, Int.reduceLT, Int.reduceLE, Int.reduceNeg, Int.reduceAdd, Int.reduceEq, Nat.reduceBneDiff, Nat.reduceBEq, Int.reduceToNat, Int.reduceMul, Int.reduceSub, Int.reduceBEq, Int.reduceBNe], by simp only [go_sem, Wk_block, Wk_drawnC, reduceCtorEq, Nat.reduceEqDiff, Nat.reduceAdd, Nat.reduceLeDiff, Nat.reduceLT, Nat.reduceMul, Nat.reduceSub, ↓reduceIte, Int.reduceLT, Int.reduceLE, Int.reduceNeg, Int.reduceAdd, Int.reduceEq, Nat.reduceBneDiff, Nat.reduceBEq, Int.reduceToNat, Int.reduceMul, Int.reduceSub, Int.reduceBEq, Int.reduceBNe, g33], by simp only [go_sem, Wk_block, Wk_drawnC, reduceCtorEq, Nat.reduceEqDiff, Nat.reduceAdd, Nat.reduceLeDiff, Nat.reduceLT, Nat.reduceMul, Nat.reduceSub, ↓reduceIte, Int.reduceLT, Int.reduceLE, Int.reduceNeg, Int.reduceAdd, Int.reduceEq, Nat.reduceBneDiff, Nat.reduceBEq, Int.reduceToNat, Int.reduceMul, Int.reduceSub, Int.reduceBEq, Int.reduceBNe, g32], by simp only [go_sem, Wk_block, Wk_drawnC, reduceCtorEq, Nat.reduceEqDiff, Nat.reduceAdd, Nat.reduceLeDiff, Nat.reduceLT, Nat.reduceMul, Nat.reduceSub, ↓reduceIte, Int.reduceLT, Int.reduceLE, Int.reduceNeg, Int.reduceAdd, Int.reduceEq, Nat.reduceBneDiff, Nat.reduceBEq, Int.reduceToNat, Int.reduceMul, Int.reduceSub, Int.reduceBEq, Int.reduceBNe, g28], by simp only [go_sem, Wk_block, Wk_drawnC, reduceCtorEq, Nat.reduceEqDiff, Nat.reduceAdd, Nat.reduceLeDiff, Nat.reduceLT, Nat.reduceMul, Nat.reduceSub, ↓reduceIte, Int.reduceLT, Int.reduceLE, Int.reduceNeg, Int.reduceAdd, Int.reduceEq, Nat.reduceBneDiff, Nat.reduceBEq, Int.reduceToNat, Int.reduceMul, Int.reduceSub, Int.reduceBEq, Int.reduceBNe, g27], by simp only [go_sem, Wk_block, Wk_drawnC, reduceCtorEq, Nat.reduceEqDiff, Nat.reduceAdd, Nat.reduceLeDiff, Nat.reduceLT, Nat.reduceMul, Nat.reduceSub, ↓reduceIte, Int.reduceLT, Int.reduceLE, Int.reduceNeg, Int.reduceAdd, Int.reduceEq, Nat.reduceBneDiff, Nat.reduceBEq, Int.reduceToNat, Int.reduceMul, Int.reduceSub, Int.reduceBEq, Int.reduceBNe, g26], by simp only [go_sem, Wk_block, Wk_drawnC, reduceCtorEq, Nat.reduceEqDiff, Nat.reduceAdd, Nat.reduceLeDiff, Nat.reduceLT, Nat.reduceMul, Nat.reduceSub, ↓reduceIte, Int.reduceLT, Int.reduceLE, Int.reduceNeg, Int.reduceAdd, Int.reduceEq, Nat.reduceBneDiff, Nat.reduceBEq, Int.reduceToNat, Int.reduceMul, Int.reduceSub, Int.reduceBEq, Int.reduceBNe, g5], by simp only [go_sem, Wk_block, Wk_drawnC, reduceCtorEq, Nat.reduceEqDiff, Nat.reduceAdd, Nat.reduceLeDiff, Nat.reduceLT, Nat.reduceMul, Nat.reduceSub, ↓reduceIte, Int.reduceLT, Int.reduceLE, Int.reduceNeg, Int.reduceAdd, Int.reduceEq, Nat.reduceBneDiff, Nat.reduceBEq, Int.reduceToNat, Int.reduceMul, Int.reduceSub, Int.reduceBEq, Int.reduceBNe, g1], by simp only [go_sem, Wk_block, Wk_drawnC, reduceCtorEq, Nat.reduceEqDiff, Nat.reduceAdd, Nat.reduceLeDiff, Nat.reduceLT, Nat.reduceMul, Nat.reduceSub, ↓reduceIte, Int.reduceLT, Int.reduceLE, Int.reduceNeg, Int.reduceAdd, Int.reduceEq, Nat.reduceBneDiff, Nat.reduceBEq, Int.reduceToNat, Int.reduceMul, Int.reduceSub, Int.reduceBEq, Int.reduceBNe, g2], by simp only [go_sem, Wk_block, Wk_drawnC, reduceCtorEq, Nat.reduceEqDiff, Nat.reduceAdd, Nat.reduceLeDiff, Nat.reduceLT, Nat.reduceMul, Nat.reduceSub, ↓reduceIte, Int.reduceLT, Int.reduceLE, Int.reduceNeg, Int.reduceAdd, Int.reduceEq, Nat.reduceBneDiff, Nat.reduceBEq, Int.reduceToNat, Int.reduceMul, Int.reduceSub, Int.reduceBEq, Int.reduceBNe, g8], by simp only [go_sem, Wk_block, Wk_drawnC, reduceCtorEq, Nat.reduceEqDiff, Nat.reduceAdd, Nat.reduceLeDiff, Nat.reduceLT, Nat.reduceMul, Nat.reduceSub, ↓reduceIte, Int.reduceLT, Int.reduceLE, Int.reduceNeg, Int.reduceAdd, Int.reduceEq, Nat.reduceBneDiff, Nat.reduceBEq, Int.reduceToNat, Int.reduceMul, Int.reduceSub, Int.reduceBEq, Int.reduceBNe, g6], by rw [hsame]; exact ho7, hx7, by rw [St.next_new]; omega, f7⟩
      · rw [c4] at hlb
        have heD : x.l = D[e] := of_decide_eq_true hlb.symm
        have c5 : (x.l.e == D[e].e) = true := (Bool.and_eq_true _ _ ▸ c4).1
        have c6 : (x.l.q == D[e].q) = true := (Bool.and_eq_true _ _ ▸ c4).2
        have hni : x.l ∉ D.take e := by
          intro hin
          have hn2 := hnd
          rw [← List.take_append_drop e D, List.nodup_append] at hn2
          exact hn2.2.2 _ hin _ (by rw [List.drop_eq_getElem_cons hel]; exact List.mem_cons_self ..) heD
        have hyes : x.l ∈ D.take (e + 1) := by rw [htkD, heD]; exact List.mem_append_right _ (List.mem_singleton.2 rfl)
        rw [if_neg hni, List.append_nil] at ho7
        have hs6 := f6.le
        obtain ⟨w8, s8, happ, ho8, hnx, hfr, hfr2⟩ := OutG.push2 (eb := 24) (ho7.fr ((Fr.refl _).new (.cells [.int .u32 x.l.e, .int .u32 x.l.q, .int .i64 x.r, .int .u32 x.t] false false 0))) (by simp only [St.next_new]; omega) snenc_len (x := x.enc) rfl rfl (by rw [List.length_map]; omega)
        unfold Sn.enc at happ
        have hce := ho7.cell
        simp -implicitDefEqProofs only [go_sem, Wk_block, Wk_drawnC, reduceCtorEq, Nat.reduceEqDiff, Nat.reduceAdd, Nat.reduceLeDiff, Nat.reduceLT, Nat.reduceMul, Nat.reduceSub, ↓reduceIte, Int.reduceLT, Int.reduceLE, Int.reduceNeg, Int.reduceAdd, Int.reduceEq, Nat.reduceBneDiff, Nat.reduceBEq, Int.reduceToNat, Int.reduceMul, Int.reduceSub, Int.reduceBEq, Int.reduceBNe, g34, g33, g32, g28, g27, g26, g5, g1, g2, g8, g6, hel, hidx2, hg2, hle2, q1, heq3, hx6, hne6, c5, c6, w34, Bool.and_self, hce, srcA, happ, ft]
        simp only [St.next_new] at hnx hfr2
        have hl8 : A.map Sn.enc ++ [x.enc] = (A ++ [x]).map Sn.enc := by simp
        have ho9 : OutG s8 N w8 4 (A.map Sn.enc ++ [x.enc]) := ho8
        rw [hl8] at ho9
        refine IH2 (D.length - (e + 1)) _ _ (by omega) ⟨e + 1, w8, rfl, by omega, by simp only [go_sem, Wk_block, Wk_drawnC, reduceCtorEq, Nat.reduceEqDiff, Nat.reduceAdd, Nat.reduceLeDiff, Nat.reduceLT, Nat.reduceMul, Nat.reduceSub, ↓reduceIte, Int.reduceLT, Int.reduceLE, Int.reduceNeg, Int.reduceAdd, Int.reduceEq, Nat.reduceBneDiff, Nat.reduceBEq, Int.reduceToNat, Int.reduceMul, Int.reduceSub, Int.reduceBEq, Int.reduceBNe], by simp only [go_sem, Wk_block, Wk_drawnC, reduceCtorEq, Nat.reduceEqDiff, Nat.reduceAdd, Nat.reduceLeDiff, Nat.reduceLT, Nat.reduceMul, Nat.reduceSub, ↓reduceIte, Int.reduceLT, Int.reduceLE, Int.reduceNeg, Int.reduceAdd, Int.reduceEq, Nat.reduceBneDiff, Nat.reduceBEq, Int.reduceToNat, Int.reduceMul, Int.reduceSub, Int.reduceBEq, Int.reduceBNe, g33], by simp only [go_sem, Wk_block, Wk_drawnC, reduceCtorEq, Nat.reduceEqDiff, Nat.reduceAdd, Nat.reduceLeDiff, Nat.reduceLT, Nat.reduceMul, Nat.reduceSub, ↓reduceIte, Int.reduceLT, Int.reduceLE, Int.reduceNeg, Int.reduceAdd, Int.reduceEq, Nat.reduceBneDiff, Nat.reduceBEq, Int.reduceToNat, Int.reduceMul, Int.reduceSub, Int.reduceBEq, Int.reduceBNe, g32], by simp only [go_sem, Wk_block, Wk_drawnC, reduceCtorEq, Nat.reduceEqDiff, Nat.reduceAdd, Nat.reduceLeDiff, Nat.reduceLT, Nat.reduceMul, Nat.reduceSub, ↓reduceIte, Int.reduceLT, Int.reduceLE, Int.reduceNeg, Int.reduceAdd, Int.reduceEq, Nat.reduceBneDiff, Nat.reduceBEq, Int.reduceToNat, Int.reduceMul, Int.reduceSub, Int.reduceBEq, Int.reduceBNe, g28], by simp only [go_sem, Wk_block, Wk_drawnC, reduceCtorEq, Nat.reduceEqDiff, Nat.reduceAdd, Nat.reduceLeDiff, Nat.reduceLT, Nat.reduceMul, Nat.reduceSub, ↓reduceIte, Int.reduceLT, Int.reduceLE, Int.reduceNeg, Int.reduceAdd, Int.reduceEq, Nat.reduceBneDiff, Nat.reduceBEq, Int.reduceToNat, Int.reduceMul, Int.reduceSub, Int.reduceBEq, Int.reduceBNe, g27], by simp only [go_sem, Wk_block, Wk_drawnC, reduceCtorEq, Nat.reduceEqDiff, Nat.reduceAdd, Nat.reduceLeDiff, Nat.reduceLT, Nat.reduceMul, Nat.reduceSub, ↓reduceIte, Int.reduceLT, Int.reduceLE, Int.reduceNeg, Int.reduceAdd, Int.reduceEq, Nat.reduceBneDiff, Nat.reduceBEq, Int.reduceToNat, Int.reduceMul, Int.reduceSub, Int.reduceBEq, Int.reduceBNe, g26], by simp only [go_sem, Wk_block, Wk_drawnC, reduceCtorEq, Nat.reduceEqDiff, Nat.reduceAdd, Nat.reduceLeDiff, Nat.reduceLT, Nat.reduceMul, Nat.reduceSub, ↓reduceIte, Int.reduceLT, Int.reduceLE, Int.reduceNeg, Int.reduceAdd, Int.reduceEq, Nat.reduceBneDiff, Nat.reduceBEq, Int.reduceToNat, Int.reduceMul, Int.reduceSub, Int.reduceBEq, Int.reduceBNe, g5], by simp only [go_sem, Wk_block, Wk_drawnC, reduceCtorEq, Nat.reduceEqDiff, Nat.reduceAdd, Nat.reduceLeDiff, Nat.reduceLT, Nat.reduceMul, Nat.reduceSub, ↓reduceIte, Int.reduceLT, Int.reduceLE, Int.reduceNeg, Int.reduceAdd, Int.reduceEq, Nat.reduceBneDiff, Nat.reduceBEq, Int.reduceToNat, Int.reduceMul, Int.reduceSub, Int.reduceBEq, Int.reduceBNe, g1], by simp only [go_sem, Wk_block, Wk_drawnC, reduceCtorEq, Nat.reduceEqDiff, Nat.reduceAdd, Nat.reduceLeDiff, Nat.reduceLT, Nat.reduceMul, Nat.reduceSub, ↓reduceIte, Int.reduceLT, Int.reduceLE, Int.reduceNeg, Int.reduceAdd, Int.reduceEq, Nat.reduceBneDiff, Nat.reduceBEq, Int.reduceToNat, Int.reduceMul, Int.reduceSub, Int.reduceBEq, Int.reduceBNe, g2], by simp only [go_sem, Wk_block, Wk_drawnC, reduceCtorEq, Nat.reduceEqDiff, Nat.reduceAdd, Nat.reduceLeDiff, Nat.reduceLT, Nat.reduceMul, Nat.reduceSub, ↓reduceIte, Int.reduceLT, Int.reduceLE, Int.reduceNeg, Int.reduceAdd, Int.reduceEq, Nat.reduceBneDiff, Nat.reduceBEq, Int.reduceToNat, Int.reduceMul, Int.reduceSub, Int.reduceBEq, Int.reduceBNe, g8], by simp only [go_sem, Wk_block, Wk_drawnC, reduceCtorEq, Nat.reduceEqDiff, Nat.reduceAdd, Nat.reduceLeDiff, Nat.reduceLT, Nat.reduceMul, Nat.reduceSub, ↓reduceIte, Int.reduceLT, Int.reduceLE, Int.reduceNeg, Int.reduceAdd, Int.reduceEq, Nat.reduceBneDiff, Nat.reduceBEq, Int.reduceToNat, Int.reduceMul, Int.reduceSub, Int.reduceBEq, Int.reduceBNe], by rw [if_pos hyes]; exact ho9, ?_, by omega, ⟨by omega, fun y hy => ?_⟩⟩
        · refine hfr2 xa _ _ (by omega) ?_
          rw [St.get_new, if_neg (by rw [St.next_new]; omega)]
          exact hx7
        · rw [hfr y (by omega), St.get_new, if_neg (by rw [St.next_new]; omega), St.get_new, if_neg (by omega)]
          exact f6.get y hy
    clear g28 g27 g26 g5 g1 g2 g6
    rintro ts s6 ⟨w', g28, g27, g26, g5, g1, g2, g8, g6, ho6, f6⟩
    simp -implicitDefEqProofs only [go_sem, Wk_block, Wk_drawnC, reduceCtorEq, Nat.reduceEqDiff, Nat.reduceAdd, Nat.reduceLeDiff, Nat.reduceLT, Nat.reduceMul, Nat.reduceSub, ↓reduceIte, Int.reduceLT, Int.reduceLE, Int.reduceNeg, Int.reduceAdd, Int.reduceEq, Nat.reduceBneDiff, Nat.reduceBEq, Int.reduceToNat, Int.reduceMul, Int.reduceSub, Int.reduceBEq, Int.reduceBNe, g28, g27, g26, g5, g1, g2, g8, g6, w28, ft]
    exact IH (l.length - (j + 1)) _ _ (by omega) ⟨j + 1, w', rfl, by omega, by simp only [go_sem, Wk_block, Wk_drawnC, reduceCtorEq, Nat.reduceEqDiff, Nat.reduceAdd, Nat.reduceLeDiff, Nat.reduceLT, Nat.reduceMul, Nat.reduceSub, ↓reduceIte, Int.reduceLT, Int.reduceLE, Int.reduceNeg, Int.reduceAdd, Int.reduceEq, Nat.reduceBneDiff, Nat.reduceBEq, Int.reduceToNat, Int.reduceMul, Int.reduceSub, Int.reduceBEq, Int.reduceBNe], by simp only [go_sem, Wk_block, Wk_drawnC, reduceCtorEq, Nat.reduceEqDiff, Nat.reduceAdd, Nat.reduceLeDiff, Nat.reduceLT, Nat.reduceMul, Nat.reduceSub, ↓reduceIte, Int.reduceLT, Int.reduceLE, Int.reduceNeg, Int.reduceAdd, Int.reduceEq, Nat.reduceBneDiff, Nat.reduceBEq, Int.reduceToNat, Int.reduceMul, Int.reduceSub, Int.reduceBEq, Int.reduceBNe, g27], by simp only [go_sem, Wk_block, Wk_drawnC, reduceCtorEq, Nat.reduceEqDiff, Nat.reduceAdd, Nat.reduceLeDiff, Nat.reduceLT, Nat.reduceMul, Nat.reduceSub, ↓reduceIte, Int.reduceLT, Int.reduceLE, Int.reduceNeg, Int.reduceAdd, Int.reduceEq, Nat.reduceBneDiff, Nat.reduceBEq, Int.reduceToNat, Int.reduceMul, Int.reduceSub, Int.reduceBEq, Int.reduceBNe, g26], by simp only [go_sem, Wk_block, Wk_drawnC, reduceCtorEq, Nat.reduceEqDiff, Nat.reduceAdd, Nat.reduceLeDiff, Nat.reduceLT, Nat.reduceMul, Nat.reduceSub, ↓reduceIte, Int.reduceLT, Int.reduceLE, Int.reduceNeg, Int.reduceAdd, Int.reduceEq, Nat.reduceBneDiff, Nat.reduceBEq, Int.reduceToNat, Int.reduceMul, Int.reduceSub, Int.reduceBEq, Int.reduceBNe, g5], by simp only [go_sem, Wk_block, Wk_drawnC, reduceCtorEq, Nat.reduceEqDiff, Nat.reduceAdd, Nat.reduceLeDiff, Nat.reduceLT, Nat.reduceMul, Nat.reduceSub, ↓reduceIte, Int.reduceLT, Int.reduceLE, Int.reduceNeg, Int.reduceAdd, Int.reduceEq, Nat.reduceBneDiff, Nat.reduceBEq, Int.reduceToNat, Int.reduceMul, Int.reduceSub, Int.reduceBEq, Int.reduceBNe, g1], by simp only [go_sem, Wk_block, Wk_drawnC, reduceCtorEq, Nat.reduceEqDiff, Nat.reduceAdd, Nat.reduceLeDiff, Nat.reduceLT, Nat.reduceMul, Nat.reduceSub, ↓reduceIte, Int.reduceLT, Int.reduceLE, Int.reduceNeg, Int.reduceAdd, Int.reduceEq, Nat.reduceBneDiff, Nat.reduceBEq, Int.reduceToNat, Int.reduceMul, Int.reduceSub, Int.reduceBEq, Int.reduceBNe, g2], by simp only [go_sem, Wk_block, Wk_drawnC, reduceCtorEq, Nat.reduceEqDiff, Nat.reduceAdd, Nat.reduceLeDiff, Nat.reduceLT, Nat.reduceMul, Nat.reduceSub, ↓reduceIte, Int.reduceLT, Int.reduceLE, Int.reduceNeg, Int.reduceAdd, Int.reduceEq, Nat.reduceBneDiff, Nat.reduceBEq, Int.reduceToNat, Int.reduceMul, Int.reduceSub, Int.reduceBEq, Int.reduceBNe, g6], by rw [htk]; exact ho6, f6⟩
  rintro ts s4 ⟨w, g6, g5, gt1, gt2, ho, f4⟩
  have F4 := F2.trans f4
  have gk4 := (f4.get a (by omega)).trans g2
  have hll : (leftS D l).length ≤ 60 := Nat.le_trans (List.length_filter_le _ _) hl60
  have hok2 : ∀ x ∈ leftS D l, SnOk x := fun x hx => hok x (List.mem_filter.1 hx).1
  have hSl := sns_of_out ho (by omega) fun x hx => (hok2 x hx).t
  have hlw := ho.len
  rw [List.length_map] at hlw
  simp -implicitDefEqProofs only [go_sem, Wk_block, Wk_drawnC, reduceCtorEq, Nat.reduceEqDiff, Nat.reduceAdd, Nat.reduceLeDiff, Nat.reduceLT, Nat.reduceMul, Nat.reduceSub, ↓reduceIte, Int.reduceLT, Int.reduceLE, Int.reduceNeg, Int.reduceAdd, Int.reduceEq, Nat.reduceBneDiff, Nat.reduceBEq, Int.reduceToNat, Int.reduceMul, Int.reduceSub, Int.reduceBEq, Int.reduceBNe, g6, g5, gt1, gt2, gk4, ft, tf]
  refine Wl_of (Kept_run hk hll hlr hok2 hSl) ?_
  rintro w5 s5 ⟨hC5, f5⟩
  rw [hag1, hag2] at hC5
  have f25 := f4.trans f5
  have F5 := F4.trans f5
  have gk5 := (f5.get a (by have := f4.le; omega)).trans gk4
  have hCr5 := hCr.mono f25
  have hR5 := hR.mono F5
  have hlenE : (leftS D l).length = D.length := by have := congrArg List.length hag2; rwa [List.length_map] at this
  have ceq : (((leftS D l).length : Int) == (D.length : Int)) = true := by rw [hlenE]; simp
  have hC5r := hC5.rd (by unfold maxLen; omega)
  have dd : decide (D = D) = true := decide_eq_true rfl
  have hnil : ∀ s', Lbs s' .nilSlice [] := fun s' => ⟨⟨fun _ => rfl, by simp, fun h => by simp at h⟩, fun _ _ => rfl⟩
  have hgo : goesS (pickS k.last k.span k.spans (leftS D l) (leftS D l) ++ []) (leftS D l) = [] := by
    rw [List.append_nil, hag1]
    exact goes_left fun x hx => List.mem_map_of_mem hx
  by_cases hlast : 0 < k.last
  rotate_left
  · have e1 : decide (k.last > 0) = false := decide_eq_false hlast
    have e2 : decide (0 < k.last) = false := decide_eq_false hlast
    simp -implicitDefEqProofs only [go_sem, Wk_block, Wk_drawnC, reduceCtorEq, Nat.reduceEqDiff, Nat.reduceAdd, Nat.reduceLeDiff, Nat.reduceLT, Nat.reduceMul, Nat.reduceSub, ↓reduceIte, Int.reduceLT, Int.reduceLE, Int.reduceNeg, Int.reduceAdd, Int.reduceEq, Nat.reduceBneDiff, Nat.reduceBEq, Int.reduceToNat, Int.reduceMul, Int.reduceSub, Int.reduceBEq, Int.reduceBNe, g6, g5, gt1, gt2, gk5, e1, e2, hlw, hlD, ceq, ft, tf]
    refine Wl_of (Same_run hC5r hCr5) ?_
    rintro w6 s6 ⟨rfl, f6⟩
    rw [dd]
    have gk6 := (f6.get a (by have := f4.le; have := f5.le; omega)).trans gk5
    simp -implicitDefEqProofs only [go_sem, Wk_block, Wk_drawnC, reduceCtorEq, Nat.reduceEqDiff, Nat.reduceAdd, Nat.reduceLeDiff, Nat.reduceLT, Nat.reduceMul, Nat.reduceSub, ↓reduceIte, Int.reduceLT, Int.reduceLE, Int.reduceNeg, Int.reduceAdd, Int.reduceEq, Nat.reduceBneDiff, Nat.reduceBEq, Int.reduceToNat, Int.reduceMul, Int.reduceSub, Int.reduceBEq, Int.reduceBNe, g6, gt2, gk6, ft, tf]
    refine Wl_of (Goes_run hk hll hlr hok2 ((hSl.mono f5).mono f6) (hnil s6) (by simp)) ?_
    rintro w9 s9 ⟨hG, f9⟩
    rw [hgo] at hG
    have hlen9 : len1 (some w9) s9 = some (.int .i64 0, s9) := hG.len s9
    have hz : ((0 : Int) == 0) = true := rfl
    simp -implicitDefEqProofs only [go_sem, Wk_block, Wk_drawnC, reduceCtorEq, Nat.reduceEqDiff, Nat.reduceAdd, Nat.reduceLeDiff, Nat.reduceLT, Nat.reduceMul, Nat.reduceSub, ↓reduceIte, Int.reduceLT, Int.reduceLE, Int.reduceNeg, Int.reduceAdd, Int.reduceEq, Nat.reduceBneDiff, Nat.reduceBEq, Int.reduceToNat, Int.reduceMul, Int.reduceSub, Int.reduceBEq, Int.reduceBNe, hlen9, hz, ft, tf]
  have e1 : decide (k.last > 0) = true := decide_eq_true hlast
  have e2 : decide (0 < k.last) = true := decide_eq_true hlast
  by_cases hl0 : l.length = 0
  · have e3 : decide ((l.length : Int) > 0) = false := decide_eq_false (by omega)
    have e4 : decide (0 < l.length) = false := decide_eq_false (by omega)
    have e5 : decide (0 < (l.length : Int)) = false := decide_eq_false (by omega)
    simp -implicitDefEqProofs only [go_sem, Wk_block, Wk_drawnC, reduceCtorEq, Nat.reduceEqDiff, Nat.reduceAdd, Nat.reduceLeDiff, Nat.reduceLT, Nat.reduceMul, Nat.reduceSub, ↓reduceIte, Int.reduceLT, Int.reduceLE, Int.reduceNeg, Int.reduceAdd, Int.reduceEq, Nat.reduceBneDiff, Nat.reduceBEq, Int.reduceToNat, Int.reduceMul, Int.reduceSub, Int.reduceBEq, Int.reduceBNe, g6, g5, gt1, gt2, gk5, e1, e2, e3, e4, e5, hlen, hlw, hlD, ceq, ft, tf]
    refine Wl_of (Same_run hC5r hCr5) ?_
    rintro w6 s6 ⟨rfl, f6⟩
    rw [dd]
    have gk6 := (f6.get a (by have := f4.le; have := f5.le; omega)).trans gk5
    simp -implicitDefEqProofs only [go_sem, Wk_block, Wk_drawnC, reduceCtorEq, Nat.reduceEqDiff, Nat.reduceAdd, Nat.reduceLeDiff, Nat.reduceLT, Nat.reduceMul, Nat.reduceSub, ↓reduceIte, Int.reduceLT, Int.reduceLE, Int.reduceNeg, Int.reduceAdd, Int.reduceEq, Nat.reduceBneDiff, Nat.reduceBEq, Int.reduceToNat, Int.reduceMul, Int.reduceSub, Int.reduceBEq, Int.reduceBNe, g6, gt2, gk6, ft, tf]
    refine Wl_of (Goes_run hk hll hlr hok2 ((hSl.mono f5).mono f6) (hnil s6) (by simp)) ?_
    rintro w9 s9 ⟨hG, f9⟩
    rw [hgo] at hG
    have hlen9 : len1 (some w9) s9 = some (.int .i64 0, s9) := hG.len s9
    have hz : ((0 : Int) == 0) = true := rfl
    simp -implicitDefEqProofs only [go_sem, Wk_block, Wk_drawnC, reduceCtorEq, Nat.reduceEqDiff, Nat.reduceAdd, Nat.reduceLeDiff, Nat.reduceLT, Nat.reduceMul, Nat.reduceSub, ↓reduceIte, Int.reduceLT, Int.reduceLE, Int.reduceNeg, Int.reduceAdd, Int.reduceEq, Nat.reduceBneDiff, Nat.reduceBEq, Int.reduceToNat, Int.reduceMul, Int.reduceSub, Int.reduceBEq, Int.reduceBNe, hlen9, hz, ft, tf]
  have e3 : decide ((l.length : Int) > 0) = true := decide_eq_true (by omega)
  have e4 : decide (0 < l.length) = true := decide_eq_true (by omega)
  have e5 : decide (0 < (l.length : Int)) = true := decide_eq_true (by omega)
  obtain ⟨n, hn⟩ : ∃ n, l.length = n + 1 := ⟨l.length - 1, by omega⟩
  have hnl : n < l.length := by omega
  obtain ⟨pp, hpp⟩ := hpl hlast (l.take n) l[n] (by
    rw [← List.take_succ_eq_append_getElem hnl, List.take_of_length_le (by omega)])
  have hDl : D.length = pp.length + 1 := by rw [hpp]; simp
  have hpD : pp.length < D.length := by omega
  have hDn : D[pp.length] = l[n].l := by
    have : D[pp.length]? = some l[n].l := by rw [hpp]; simp
    rw [List.getElem?_eq_getElem hpD] at this
    exact Option.some.inj this
  have wn := pred_of hn (by omega)
  have wD := pred_of hDl (by omega)
  have e6 : ((D.length : Int) == 0) = false := by rw [beq_eq_false_iff_ne]; omega
  obtain ⟨b1, o1, vs1, lo1, ro1, z1, hidx1, hg1, hle1, heq1, _⟩ := hR5.at_ (j := n) (by rw [List.length_map]; exact hnl)
  obtain ⟨b2, o2, vs2, lo2, ro2, z2, hidx2, hg2, hle2, heq2, _⟩ := hCr5.at_ (j := pp.length) (by rw [List.length_map]; exact hpD)
  rw [List.getElem_map] at heq1 heq2
  rw [hDn] at heq2
  unfold Lb.enc at heq2
  have hl1 : (vs1.drop (o1 + n * 4)).take 2 = [.int .u32 l[n].l.e, .int .u32 l[n].l.q] := by
    have := congrArg (List.take 2) heq1
    rw [List.take_take] at this
    exact this
  have q1 : o1 + (n * 4 + 2) ≤ vs1.length := by omega
  have q2 : o2 + (pp.length * 2 + 2) ≤ vs2.length := by omega
  have q3 : o1 + n * 4 + 2 ≤ vs1.length := by omega
  simp -implicitDefEqProofs only [go_sem, Wk_block, Wk_drawnC, reduceCtorEq, Nat.reduceEqDiff, Nat.reduceAdd, Nat.reduceLeDiff, Nat.reduceLT, Nat.reduceMul, Nat.reduceSub, ↓reduceIte, Int.reduceLT, Int.reduceLE, Int.reduceNeg, Int.reduceAdd, Int.reduceEq, Nat.reduceBneDiff, Nat.reduceBEq, Int.reduceToNat, Int.reduceMul, Int.reduceSub, Int.reduceBEq, Int.reduceBNe, g6, g5, gt1, gt2, gk5, e1, e2, e3, e4, e5, e6, hlen, hlw, hlD, ceq, wn, wD, hidx1, hidx2, hg1, hg2, hl1, heq2, hle2, q1, q2, q3, BEq.rfl, Bool.and_self, Bool.not_true, ft, tf]
  refine Wl_of (Same_run hC5r hCr5) ?_
  rintro w6 s6 ⟨rfl, f6⟩
  rw [dd]
  have gk6 := (f6.get a (by have := f4.le; have := f5.le; omega)).trans gk5
  simp -implicitDefEqProofs only [go_sem, Wk_block, Wk_drawnC, reduceCtorEq, Nat.reduceEqDiff, Nat.reduceAdd, Nat.reduceLeDiff, Nat.reduceLT, Nat.reduceMul, Nat.reduceSub, ↓reduceIte, Int.reduceLT, Int.reduceLE, Int.reduceNeg, Int.reduceAdd, Int.reduceEq, Nat.reduceBneDiff, Nat.reduceBEq, Int.reduceToNat, Int.reduceMul, Int.reduceSub, Int.reduceBEq, Int.reduceBNe, g6, gt2, gk6, ft, tf]
  refine Wl_of (Goes_run hk hll hlr hok2 ((hSl.mono f5).mono f6) (hnil s6) (by simp)) ?_
  rintro w9 s9 ⟨hG, f9⟩
  rw [hgo] at hG
  have hlen9 : len1 (some w9) s9 = some (.int .i64 0, s9) := hG.len s9
  have hz : ((0 : Int) == 0) = true := rfl
  simp -implicitDefEqProofs only [go_sem, Wk_block, Wk_drawnC, reduceCtorEq, Nat.reduceEqDiff, Nat.reduceAdd, Nat.reduceLeDiff, Nat.reduceLT, Nat.reduceMul, Nat.reduceSub, ↓reduceIte, Int.reduceLT, Int.reduceLE, Int.reduceNeg, Int.reduceAdd, Int.reduceEq, Nat.reduceBneDiff, Nat.reduceBEq, Int.reduceToNat, Int.reduceMul, Int.reduceSub, Int.reduceBEq, Int.reduceBNe, hlen9, hz, ft, tf]
end Go.Proofs.Ytjejgnbdlfkenaa
