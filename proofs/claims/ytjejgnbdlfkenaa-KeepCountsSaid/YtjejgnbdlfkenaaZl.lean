/- keep: which snapshots go.
keep: which snapshots go, after the document.
keep: the laws.
keep: counts: lists joined. -/
import Derived.Test.YtjejgnbdlfkenaaZk
namespace Go.Proofs.Ytjejgnbdlfkenaa
open D Base
set_option linter.unusedSimpArgs false
set_option linter.unusedVariables false
set_option maxRecDepth 10000

/-- The labels of those that are not there. -/
def goesS (K : List Lb) (l : List Sn) : List Lb := (l.filter fun x => !decide (x.l ∈ K)).map (·.l)
theorem goesS_take {K : List Lb} {l : List Sn} {j : Nat} (hj : j < l.length) : goesS K (l.take (j + 1)) = if decide (l[j].l ∈ K) = true then goesS K (l.take j) else goesS K (l.take j) ++ [l[j].l] := by
  unfold goesS
  rw [List.take_succ_eq_append_getElem hj, List.filter_append, List.map_append]
  cases h : decide (l[j].l ∈ K)
  · rw [if_neg (by simp)]
    congr 1
    rw [List.filter_cons_of_pos (by rw [h]; rfl)]
    rfl
  · rw [if_pos rfl, List.filter_cons_of_neg (by rw [h]; simp)]
    simp
theorem goesS_len (K : List Lb) (l : List Sn) : (goesS K l).length ≤ l.length := by
  unfold goesS
  rw [List.length_map]
  exact List.length_filter_le _ _
theorem Goes_run {k : Kp} (hk : KpOk k) {l : List Sn} (hl : l.length ≤ 60) (hr : Rises l) (h0 : ∀ x ∈ l, SnOk x) {v m : AV} {s : St} (hS : Sns s v l) {M : List Lb} (hM : Lbs s m M) (hMl : M.length ≤ 100000) :
    Wf mm 11 [.agg k.enc, v, m] s fun w s' => Out s' s.next w (goesS (pickS k.last k.span k.spans l l ++ M) l) ∧ Fr s s' := by
  refine Wf_enter ft11 (sm (by decide)) (by rfl) ?_
  have ft : (false == true) = false := rfl
  obtain ⟨a, ha⟩ : ∃ a, s.next = a := ⟨_, rfl⟩
  simp -implicitDefEqProofs only [go_sem, Wk_block, Wk_drawnC, reduceCtorEq, Nat.reduceEqDiff, Nat.reduceAdd, Nat.reduceLeDiff, Nat.reduceLT, Nat.reduceMul, Nat.reduceSub, ↓reduceIte, Int.reduceLT, Int.reduceLE, Int.reduceNeg, Int.reduceAdd, Int.reduceEq, Nat.reduceBneDiff, Nat.reduceBEq, Int.reduceToNat, Int.reduceMul, Int.reduceSub, Int.reduceBEq, Int.reduceBNe, fd11, ha, ft]
  have f0 : Fr s (s.new (.cells k.enc false false 0)) := (Fr.refl s).new _
  have hn0 : (s.new (.cells k.enc false false 0)).next = a + 1 := by rw [St.next_new, ha]
  refine Wl_of (Kept_run hk hl hr h0 (hS.mono f0)) ?_
  rintro w1 s1 ⟨hC, f1⟩
  rw [hn0] at hC
  have f01 := f0.trans f1
  have hpl : (pickS k.last k.span k.spans l l).length ≤ l.length := by
    have := (pickS_sub k.last k.span k.spans l l).length_le
    rwa [List.length_map] at this
  obtain ⟨w2, s2, happ, hRd, hn2, hfr2⟩ := hC.append (by have := f1.le; omega) M (by omega)
  have f2 : Fr s s2 := ⟨by have := f01.le; omega, fun b hb => (hfr2 b (by omega)).trans (f01.get b hb)⟩
  have hsrc := hM.src s1 f01
  have hlen := hS.rd.len
  rw [List.length_map] at hlen
  simp -implicitDefEqProofs only [go_sem, Wk_block, Wk_drawnC, reduceCtorEq, Nat.reduceEqDiff, Nat.reduceAdd, Nat.reduceLeDiff, Nat.reduceLT, Nat.reduceMul, Nat.reduceSub, ↓reduceIte, Int.reduceLT, Int.reduceLE, Int.reduceNeg, Int.reduceAdd, Int.reduceEq, Nat.reduceBneDiff, Nat.reduceBEq, Int.reduceToNat, Int.reduceMul, Int.reduceSub, Int.reduceBEq, Int.reduceBNe, hsrc, lflat_len, happ, hlen, ft]
  generalize pickS k.last k.span k.spans l l ++ M = K at hRd ⊢
  have hn2' : a + 1 ≤ s2.next := by have := f1.le; omega
  refine loop_ind (fun n ts s' => ∃ (j : Nat) (w : AV), n = l.length - j ∧ j ≤ l.length ∧ ts.get 18 = some (.int .i64 (j : Int)) ∧ ts.get 17 = some (.int .i64 (l.length : Int)) ∧ ts.get 16 = some v ∧ ts.get 7 = some w2 ∧ ts.get 8 = some w ∧ Out s' s2.next w (goesS K (l.take j)) ∧ Fr s2 s') ?_ (n := l.length)
    ⟨0, .nilSlice, rfl, by omega, by simp only [go_sem, Wk_block, Wk_drawnC, reduceCtorEq, Nat.reduceEqDiff, Nat.reduceAdd, Nat.reduceLeDiff, Nat.reduceLT, Nat.reduceMul, Nat.reduceSub, ↓reduceIte, Int.reduceLT, Int.reduceLE, Int.reduceNeg, Int.reduceAdd, Int.reduceEq, Nat.reduceBneDiff, Nat.reduceBEq, Int.reduceToNat, Int.reduceMul, Int.reduceSub, Int.reduceBEq, Int.reduceBNe], by simp only [go_sem, Wk_block, Wk_drawnC, reduceCtorEq, Nat.reduceEqDiff, Nat.reduceAdd, Nat.reduceLeDiff, Nat.reduceLT, Nat.reduceMul, Nat.reduceSub, ↓reduceIte, Int.reduceLT, Int.reduceLE, Int.reduceNeg, Int.reduceAdd, Int.reduceEq, Nat.reduceBneDiff, Nat.reduceBEq, Int.reduceToNat, Int.reduceMul, Int.reduceSub, Int.reduceBEq, Int.reduceBNe], by simp only [go_sem, Wk_block, Wk_drawnC, reduceCtorEq, Nat.reduceEqDiff, Nat.reduceAdd, Nat.reduceLeDiff, Nat.reduceLT, Nat.reduceMul, Nat.reduceSub, ↓reduceIte, Int.reduceLT, Int.reduceLE, Int.reduceNeg, Int.reduceAdd, Int.reduceEq, Nat.reduceBneDiff, Nat.reduceBEq, Int.reduceToNat, Int.reduceMul, Int.reduceSub, Int.reduceBEq, Int.reduceBNe], by simp only [go_sem, Wk_block, Wk_drawnC, reduceCtorEq, Nat.reduceEqDiff, Nat.reduceAdd, Nat.reduceLeDiff, Nat.reduceLT, Nat.reduceMul, Nat.reduceSub, ↓reduceIte, Int.reduceLT, Int.reduceLE, Int.reduceNeg, Int.reduceAdd, Int.reduceEq, Nat.reduceBneDiff, Nat.reduceBEq, Int.reduceToNat, Int.reduceMul, Int.reduceSub, Int.reduceBEq, Int.reduceBNe], by simp only [go_sem, Wk_block, Wk_drawnC, reduceCtorEq, Nat.reduceEqDiff, Nat.reduceAdd, Nat.reduceLeDiff, Nat.reduceLT, Nat.reduceMul, Nat.reduceSub, ↓reduceIte, Int.reduceLT, Int.reduceLE, Int.reduceNeg, Int.reduceAdd, Int.reduceEq, Nat.reduceBneDiff, Nat.reduceBEq, Int.reduceToNat, Int.reduceMul, Int.reduceSub, Int.reduceBEq, Int.reduceBNe], .inl ⟨rfl, rfl⟩, Fr.refl _⟩
  rintro _ ts s3 ⟨j, w, rfl, hj, g18, g17, g16, g7, g8, ho, f3⟩ IH
  by_cases hlt : j < l.length
  rotate_left
  · rw [List.take_of_length_le (by omega)] at ho
    simp -implicitDefEqProofs only [go_sem, Wk_block, Wk_drawnC, reduceCtorEq, Nat.reduceEqDiff, Nat.reduceAdd, Nat.reduceLeDiff, Nat.reduceLT, Nat.reduceMul, Nat.reduceSub, ↓reduceIte, Int.reduceLT, Int.reduceLE, Int.reduceNeg, Int.reduceAdd, Int.reduceEq, Nat.reduceBneDiff, Nat.reduceBEq, Int.reduceToNat, Int.reduceMul, Int.reduceSub, Int.reduceBEq, Int.reduceBNe, g18, g17, g8, hlt, ft]
    refine ⟨?_, f2.trans f3⟩
    rcases ho with h | ⟨p, h1, h2, h3, h4, h5⟩
    · exact .inl h
    · exact .inr ⟨p, h1, h2, by omega, h4, h5⟩
  have hjl : j < (l.map Sn.enc).length := by rw [List.length_map]; exact hlt
  obtain ⟨b1, o1, vs1, lo3, ro1, z1, hidx1, hg1, hle1, heq1, hbl1⟩ := ((hS.rd.mono f2).mono f3).at_ hjl
  rw [List.getElem_map] at heq1
  have w18 := succ_in (j := j) (by omega)
  have hle4 : o1 + (j * 4 + 4) ≤ vs1.length := by omega
  have htk := goesS_take (K := K) hlt
  have hgl := goesS_len K (l.take j)
  rw [List.length_take] at hgl
  generalize l[j] = x at heq1 htk
  have heq2 := heq1
  unfold Sn.enc at heq2
  have f5 : Fr s2 (s3.new (.cells [.int .u32 x.l.e, .int .u32 x.l.q, .int .i64 x.r, .int .u32 x.t] false false 0)) := f3.new _
  simp -implicitDefEqProofs only [go_sem, Wk_block, Wk_drawnC, reduceCtorEq, Nat.reduceEqDiff, Nat.reduceAdd, Nat.reduceLeDiff, Nat.reduceLT, Nat.reduceMul, Nat.reduceSub, ↓reduceIte, Int.reduceLT, Int.reduceLE, Int.reduceNeg, Int.reduceAdd, Int.reduceEq, Nat.reduceBneDiff, Nat.reduceBEq, Int.reduceToNat, Int.reduceMul, Int.reduceSub, Int.reduceBEq, Int.reduceBNe, g18, g17, g16, g7, g8, hlt, hidx1, hg1, hle1, hle4, heq2, w18, ft]
  refine Wl_of (Has_run (hRd.mono f5) x.l) ?_
  rintro w9 s5 ⟨rfl, f9⟩
  have hF5 := f5.trans f9
  have hN5 : s3.next < s5.next := by have := f9.le; rw [St.next_new] at this; omega
  have hx5 : s5.get s3.next = some (.cells [.int .u32 x.l.e, .int .u32 x.l.q, .int .i64 x.r, .int .u32 x.t] false false 0) := (f9.get s3.next (by rw [St.next_new]; omega)).trans (by rw [St.get_new, if_pos rfl])
  have hoL := (ho.fr ((Fr.refl s3).new (.cells [.int .u32 x.l.e, .int .u32 x.l.q, .int .i64 x.r, .int .u32 x.t] false false 0))).fr f9
  have hce := hoL.cell
  cases hin : decide (x.l ∈ K)
  · rw [hin, if_neg (by simp)] at htk
    have hs2 := f3.le
    obtain ⟨w', s6, happ6, ho6, hnx, hfr⟩ := (hoL.new (.cells [.int .u32 x.l.e, .int .u32 x.l.q] false false 0)).push (by simp only [St.next_new]; omega) (by omega) x.l
    simp -implicitDefEqProofs only [go_sem, Wk_block, Wk_drawnC, reduceCtorEq, Nat.reduceEqDiff, Nat.reduceAdd, Nat.reduceLeDiff, Nat.reduceLT, Nat.reduceMul, Nat.reduceSub, ↓reduceIte, Int.reduceLT, Int.reduceLE, Int.reduceNeg, Int.reduceAdd, Int.reduceEq, Nat.reduceBneDiff, Nat.reduceBEq, Int.reduceToNat, Int.reduceMul, Int.reduceSub, Int.reduceBEq, Int.reduceBNe, g18, g17, g16, g7, g8, hin, hx5, w18, hce, srcA, happ6, Bool.not_false, ft]
    simp only [St.next_new] at hnx
    refine IH (l.length - (j + 1)) _ _ (by omega) ⟨j + 1, w', rfl, by omega, by simp only [go_sem, Wk_block, Wk_drawnC, reduceCtorEq, Nat.reduceEqDiff, Nat.reduceAdd, Nat.reduceLeDiff, Nat.reduceLT, Nat.reduceMul, Nat.reduceSub, ↓reduceIte, Int.reduceLT, Int.reduceLE, Int.reduceNeg, Int.reduceAdd, Int.reduceEq, Nat.reduceBneDiff, Nat.reduceBEq, Int.reduceToNat, Int.reduceMul, Int.reduceSub, Int.reduceBEq, Int.reduceBNe], by simp only [go_sem, Wk_block, Wk_drawnC, reduceCtorEq, Nat.reduceEqDiff, Nat.reduceAdd, Nat.reduceLeDiff, Nat.reduceLT, Nat.reduceMul, Nat.reduceSub, ↓reduceIte, Int.reduceLT, Int.reduceLE, Int.reduceNeg, Int.reduceAdd, Int.reduceEq, Nat.reduceBneDiff, Nat.reduceBEq, Int.reduceToNat, Int.reduceMul, Int.reduceSub, Int.reduceBEq, Int.reduceBNe, g17], by simp only [go_sem, Wk_block, Wk_drawnC, reduceCtorEq, Nat.reduceEqDiff, Nat.reduceAdd, Nat.reduceLeDiff, Nat.reduceLT, Nat.reduceMul, Nat.reduceSub, ↓reduceIte, Int.reduceLT, Int.reduceLE, Int.reduceNeg, Int.reduceAdd, Int.reduceEq, Nat.reduceBneDiff, Nat.reduceBEq, Int.reduceToNat, Int.reduceMul, Int.reduceSub, Int.reduceBEq, Int.reduceBNe, g16], by simp only [go_sem, Wk_block, Wk_drawnC, reduceCtorEq, Nat.reduceEqDiff, Nat.reduceAdd, Nat.reduceLeDiff, Nat.reduceLT, Nat.reduceMul, Nat.reduceSub, ↓reduceIte, Int.reduceLT, Int.reduceLE, Int.reduceNeg, Int.reduceAdd, Int.reduceEq, Nat.reduceBneDiff, Nat.reduceBEq, Int.reduceToNat, Int.reduceMul, Int.reduceSub, Int.reduceBEq, Int.reduceBNe, g7], by simp only [go_sem, Wk_block, Wk_drawnC, reduceCtorEq, Nat.reduceEqDiff, Nat.reduceAdd, Nat.reduceLeDiff, Nat.reduceLT, Nat.reduceMul, Nat.reduceSub, ↓reduceIte, Int.reduceLT, Int.reduceLE, Int.reduceNeg, Int.reduceAdd, Int.reduceEq, Nat.reduceBneDiff, Nat.reduceBEq, Int.reduceToNat, Int.reduceMul, Int.reduceSub, Int.reduceBEq, Int.reduceBNe], by rw [htk]; exact ho6, ⟨by omega, fun y hy => ?_⟩⟩
    rw [hfr y hy, St.get_new, if_neg (by omega)]; exact hF5.get y hy
  · rw [hin, if_pos rfl] at htk
    simp -implicitDefEqProofs only [go_sem, Wk_block, Wk_drawnC, reduceCtorEq, Nat.reduceEqDiff, Nat.reduceAdd, Nat.reduceLeDiff, Nat.reduceLT, Nat.reduceMul, Nat.reduceSub, ↓reduceIte, Int.reduceLT, Int.reduceLE, Int.reduceNeg, Int.reduceAdd, Int.reduceEq, Nat.reduceBneDiff, Nat.reduceBEq, Int.reduceToNat, Int.reduceMul, Int.reduceSub, Int.reduceBEq, Int.reduceBNe, g18, g17, g16, g7, g8, hin, w18, Bool.not_true, ft]
    exact IH (l.length - (j + 1)) _ _ (by omega) ⟨j + 1, w, rfl, by omega, by simp only [go_sem, Wk_block, Wk_drawnC, reduceCtorEq, Nat.reduceEqDiff, Nat.reduceAdd, Nat.reduceLeDiff, Nat.reduceLT, Nat.reduceMul, Nat.reduceSub, ↓reduceIte, Int.reduceLT, Int.reduceLE, Int.reduceNeg, Int.reduceAdd, Int.reduceEq, Nat.reduceBneDiff, Nat.reduceBEq, Int.reduceToNat, Int.reduceMul, Int.reduceSub, Int.reduceBEq, Int.reduceBNe], by simp only [go_sem, Wk_block, Wk_drawnC, reduceCtorEq, Nat.reduceEqDiff, Nat.reduceAdd, Nat.reduceLeDiff, Nat.reduceLT, Nat.reduceMul, Nat.reduceSub, ↓reduceIte, Int.reduceLT, Int.reduceLE, Int.reduceNeg, Int.reduceAdd, Int.reduceEq, Nat.reduceBneDiff, Nat.reduceBEq, Int.reduceToNat, Int.reduceMul, Int.reduceSub, Int.reduceBEq, Int.reduceBNe, g17], by simp only [go_sem, Wk_block, Wk_drawnC, reduceCtorEq, Nat.reduceEqDiff, Nat.reduceAdd, Nat.reduceLeDiff, Nat.reduceLT, Nat.reduceMul, Nat.reduceSub, ↓reduceIte, Int.reduceLT, Int.reduceLE, Int.reduceNeg, Int.reduceAdd, Int.reduceEq, Nat.reduceBneDiff, Nat.reduceBEq, Int.reduceToNat, Int.reduceMul, Int.reduceSub, Int.reduceBEq, Int.reduceBNe, g16], by simp only [go_sem, Wk_block, Wk_drawnC, reduceCtorEq, Nat.reduceEqDiff, Nat.reduceAdd, Nat.reduceLeDiff, Nat.reduceLT, Nat.reduceMul, Nat.reduceSub, ↓reduceIte, Int.reduceLT, Int.reduceLE, Int.reduceNeg, Int.reduceAdd, Int.reduceEq, Nat.reduceBneDiff, Nat.reduceBEq, Int.reduceToNat, Int.reduceMul, Int.reduceSub, Int.reduceBEq, Int.reduceBNe, g7], by simp only [go_sem, Wk_block, Wk_drawnC, reduceCtorEq, Nat.reduceEqDiff, Nat.reduceAdd, Nat.reduceLeDiff, Nat.reduceLT, Nat.reduceMul, Nat.reduceSub, ↓reduceIte, Int.reduceLT, Int.reduceLE, Int.reduceNeg, Int.reduceAdd, Int.reduceEq, Nat.reduceBneDiff, Nat.reduceBEq, Int.reduceToNat, Int.reduceMul, Int.reduceSub, Int.reduceBEq, Int.reduceBNe, g8], by rw [htk]; exact hoL, hF5⟩
end Go.Proofs.Ytjejgnbdlfkenaa
namespace Go.Proofs.Ytjejgnbdlfkenaa
open D Base
set_option linter.unusedSimpArgs false
set_option linter.unusedVariables false
set_option maxRecDepth 10000

theorem kept_in {k : Kp} {l : List Sn} (hr : Rises l) {j : Nat} (hj : j < l.length) : keptB k.last k.span k.spans l (l.length - j) l[j] = decide (l[j].l ∈ pickS k.last k.span k.spans l l) := by
  have e : l = l.take j ++ l[j] :: l.drop (j + 1) := by
    rw [← List.drop_eq_getElem_cons hj, List.take_append_drop]
  have h := in_pick (last := k.last) (span := k.span) (spans := k.spans) hr e
  rw [List.length_drop, show l.length - (j + 1) + 1 = l.length - j by omega] at h
  rw [Bool.eq_iff_iff, decide_eq_true_eq, h]
theorem RGoes_run {k : Kp} (hk : KpOk k) {l : List Sn} (hl : l.length ≤ 60) (hr : Rises l) (h0 : ∀ x ∈ l, SnOk x) {v m : AV} {s : St} (hR : Rd s v 4 (l.map Sn.enc)) {M : List Lb} (hM : Rd s m 2 (M.map Lb.enc)) (hMl : M.length ≤ 100000) :
    Wf mm 12 [.agg k.enc, v, m] s fun w s' => OutG s' s.next w 2 ((goesS (pickS k.last k.span k.spans l l ++ M) l).map Lb.enc) ∧ Fr s s' := by
  refine Wf_enter ft12 (sm (by decide)) (by rfl) ?_
  have ft : (false == true) = false := rfl
  have tf : (true == false) = false := rfl
  have hlen := hR.len
  have hlm := hM.len
  rw [List.length_map] at hlen hlm
  obtain ⟨a, ha⟩ : ∃ a, s.next = a := ⟨_, rfl⟩
  simp -implicitDefEqProofs only [go_sem, Wk_block, Wk_drawnC, reduceCtorEq, Nat.reduceEqDiff, Nat.reduceAdd, Nat.reduceLeDiff, Nat.reduceLT, Nat.reduceMul, Nat.reduceSub, ↓reduceIte, Int.reduceLT, Int.reduceLE, Int.reduceNeg, Int.reduceAdd, Int.reduceEq, Nat.reduceBneDiff, Nat.reduceBEq, Int.reduceToNat, Int.reduceMul, Int.reduceSub, Int.reduceBEq, Int.reduceBNe, fd12, hlen, ha, ft]
  have f0 : Fr s ((s.new (.cells k.enc false false 0)).new (.cells [] false false 0)) := ((Fr.refl s).new _).new _
  have ga : ((s.new (.cells k.enc false false 0)).new (.cells [] false false 0)).get a = some (.cells k.enc false false 0) := by rw [St.get_new, if_neg (by rw [St.next_new]; omega), St.get_new, if_pos ha.symm]
  have gl : OutG ((s.new (.cells k.enc false false 0)).new (.cells [] false false 0)) (a + 1) (.slice (a + 1) 0 0 0 false) 2 (([] : List Lb).map Lb.enc) := .inl ⟨a + 1, rfl, rfl, Nat.le_refl _, by simp only [St.next_new]; omega, by rw [St.get_new, if_pos (by rw [St.next_new, ha])]⟩
  have hn : a + 1 ≤ ((s.new (.cells k.enc false false 0)).new (.cells [] false false 0)).next := by simp only [St.next_new]; omega
  generalize (s.new (.cells k.enc false false 0)).new (.cells [] false false 0) = s0 at f0 ga gl hn ⊢
  have hkin := fun j hj => kept_in (k := k) hr (j := j) hj
  generalize pickS k.last k.span k.spans l l = K at hkin ⊢
  refine loop_ind (fun n ts s' => ∃ (j : Nat) (w : AV), n = l.length - j ∧ j ≤ l.length ∧ ts.get 16 = some (.int .i64 (j : Int)) ∧ ts.get 15 = some (.int .i64 (l.length : Int)) ∧ ts.get 14 = some v ∧ ts.get 1 = some v ∧ ts.get 2 = some m ∧ ts.get 3 = some (.ptr a 0) ∧ ts.get 7 = some w ∧
    OutG s' (a + 1) w 2 ((goesS (K ++ M) (l.take j)).map Lb.enc) ∧ s'.get a = some (.cells k.enc false false 0) ∧ Fr s s' ∧ a + 1 ≤ s'.next) ?_ (n := l.length)
    ⟨0, .slice (a + 1) 0 0 0 false, rfl, by omega, by simp only [go_sem, Wk_block, Wk_drawnC, reduceCtorEq, Nat.reduceEqDiff, Nat.reduceAdd, Nat.reduceLeDiff, Nat.reduceLT, Nat.reduceMul, Nat.reduceSub, ↓reduceIte, Int.reduceLT, Int.reduceLE, Int.reduceNeg, Int.reduceAdd, Int.reduceEq, Nat.reduceBneDiff, Nat.reduceBEq, Int.reduceToNat, Int.reduceMul, Int.reduceSub, Int.reduceBEq, Int.reduceBNe], by simp only [go_sem, Wk_block, Wk_drawnC, reduceCtorEq, Nat.reduceEqDiff, Nat.reduceAdd, Nat.reduceLeDiff, Nat.reduceLT, Nat.reduceMul, Nat.reduceSub, ↓reduceIte, Int.reduceLT, Int.reduceLE, Int.reduceNeg, Int.reduceAdd, Int.reduceEq, Nat.reduceBneDiff, Nat.reduceBEq, Int.reduceToNat, Int.reduceMul, Int.reduceSub, Int.reduceBEq, Int.reduceBNe], by simp only [go_sem, Wk_block, Wk_drawnC, reduceCtorEq, Nat.reduceEqDiff, Nat.reduceAdd, Nat.reduceLeDiff, Nat.reduceLT, Nat.reduceMul, Nat.reduceSub, ↓reduceIte, Int.reduceLT, Int.reduceLE, Int.reduceNeg, Int.reduceAdd, Int.reduceEq, Nat.reduceBneDiff, Nat.reduceBEq, Int.reduceToNat, Int.reduceMul, Int.reduceSub, Int.reduceBEq, Int.reduceBNe], by simp only [go_sem, Wk_block, Wk_drawnC, reduceCtorEq, Nat.reduceEqDiff, Nat.reduceAdd, Nat.reduceLeDiff, Nat.reduceLT, Nat.reduceMul, Nat.reduceSub, ↓reduceIte, Int.reduceLT, Int.reduceLE, Int.reduceNeg, Int.reduceAdd, Int.reduceEq, Nat.reduceBneDiff, Nat.reduceBEq, Int.reduceToNat, Int.reduceMul, Int.reduceSub, Int.reduceBEq, Int.reduceBNe], by simp only [go_sem, Wk_block, Wk_drawnC, reduceCtorEq, Nat.reduceEqDiff, Nat.reduceAdd, Nat.reduceLeDiff, Nat.reduceLT, Nat.reduceMul, Nat.reduceSub, ↓reduceIte, Int.reduceLT, Int.reduceLE, Int.reduceNeg, Int.reduceAdd, Int.reduceEq, Nat.reduceBneDiff, Nat.reduceBEq, Int.reduceToNat, Int.reduceMul, Int.reduceSub, Int.reduceBEq, Int.reduceBNe], by simp only [go_sem, Wk_block, Wk_drawnC, reduceCtorEq, Nat.reduceEqDiff, Nat.reduceAdd, Nat.reduceLeDiff, Nat.reduceLT, Nat.reduceMul, Nat.reduceSub, ↓reduceIte, Int.reduceLT, Int.reduceLE, Int.reduceNeg, Int.reduceAdd, Int.reduceEq, Nat.reduceBneDiff, Nat.reduceBEq, Int.reduceToNat, Int.reduceMul, Int.reduceSub, Int.reduceBEq, Int.reduceBNe], by simp only [go_sem, Wk_block, Wk_drawnC, reduceCtorEq, Nat.reduceEqDiff, Nat.reduceAdd, Nat.reduceLeDiff, Nat.reduceLT, Nat.reduceMul, Nat.reduceSub, ↓reduceIte, Int.reduceLT, Int.reduceLE, Int.reduceNeg, Int.reduceAdd, Int.reduceEq, Nat.reduceBneDiff, Nat.reduceBEq, Int.reduceToNat, Int.reduceMul, Int.reduceSub, Int.reduceBEq, Int.reduceBNe], gl, ga, f0, hn⟩
  rintro _ ts s1 ⟨j, w, rfl, hj, g16, g15, g14, g1, g2, g3, g7, ho, ga1, f1, hn1⟩ IH
  by_cases hlt : j < l.length
  rotate_left
  · rw [List.take_of_length_le (by omega)] at ho
    simp -implicitDefEqProofs only [go_sem, Wk_block, Wk_drawnC, reduceCtorEq, Nat.reduceEqDiff, Nat.reduceAdd, Nat.reduceLeDiff, Nat.reduceLT, Nat.reduceMul, Nat.reduceSub, ↓reduceIte, Int.reduceLT, Int.reduceLE, Int.reduceNeg, Int.reduceAdd, Int.reduceEq, Nat.reduceBneDiff, Nat.reduceBEq, Int.reduceToNat, Int.reduceMul, Int.reduceSub, Int.reduceBEq, Int.reduceBNe, g16, g15, g7, hlt, ft]
    refine ⟨?_, f1⟩
    rcases ho with ⟨q, h1, h2, h3, h4, h5⟩ | ⟨p, h1, h2, h3, h4, h5⟩
    · exact .inl ⟨q, h1, h2, by omega, h4, h5⟩
    · exact .inr ⟨p, h1, h2, by omega, h4, h5⟩
  have hjl : j < (l.map Sn.enc).length := by rw [List.length_map]; exact hlt
  obtain ⟨b1, o1, vs1, lo3, ro1, z1, hidx1, hg1, hle1, heq1, hbl1⟩ := (hR.mono f1).at_ hjl
  rw [List.getElem_map] at heq1
  have w16 := succ_in (j := j) (by omega)
  have hle4 : o1 + (j * 4 + 4) ≤ vs1.length := by omega
  have hne : ¬ a = s1.next := by omega
  have htk := goesS_take (K := K ++ M) hlt
  have hgl := goesS_len (K ++ M) (l.take j)
  rw [List.length_take] at hgl
  have heq2 := heq1
  unfold Sn.enc at heq2
  have f5 : Fr s (s1.new (.cells [.int .u32 l[j].l.e, .int .u32 l[j].l.q, .int .i64 l[j].r, .int .u32 l[j].t] false false 0)) := f1.new _
  simp -implicitDefEqProofs only [go_sem, Wk_block, Wk_drawnC, reduceCtorEq, Nat.reduceEqDiff, Nat.reduceAdd, Nat.reduceLeDiff, Nat.reduceLT, Nat.reduceMul, Nat.reduceSub, ↓reduceIte, Int.reduceLT, Int.reduceLE, Int.reduceNeg, Int.reduceAdd, Int.reduceEq, Nat.reduceBneDiff, Nat.reduceBEq, Int.reduceToNat, Int.reduceMul, Int.reduceSub, Int.reduceBEq, Int.reduceBNe, g16, g15, g14, g1, g2, g3, g7, hlt, hidx1, hg1, hle1, hle4, heq2, w16, ga1, hne, ft]
  refine Wl_of (kept_run hk hl h0 (hR.mono f5) hlt) ?_
  rintro w9 s5 ⟨rfl, f9⟩
  rw [hkin j hlt]
  have hF5 := f5.trans f9
  have hga5 : s5.get a = some (.cells k.enc false false 0) := (f9.get a (by rw [St.next_new]; omega)).trans (by rw [St.get_new, if_neg hne]; exact ga1)
  have hN5 : s1.next < s5.next := by have := f9.le; rw [St.next_new] at this; omega
  have hx5 : s5.get s1.next = some (.cells [.int .u32 l[j].l.e, .int .u32 l[j].l.q, .int .i64 l[j].r, .int .u32 l[j].t] false false 0) := (f9.get s1.next (by rw [St.next_new]; omega)).trans (by rw [St.get_new, if_pos rfl])
  have hoL := (ho.fr ((Fr.refl s1).new (.cells [.int .u32 l[j].l.e, .int .u32 l[j].l.q, .int .i64 l[j].r, .int .u32 l[j].t] false false 0))).fr f9
  generalize l[j] = x at hx5 htk
  obtain ⟨xa, hxa⟩ : ∃ y, s1.next = y := ⟨_, rfl⟩
  rw [hxa] at hx5
  simp -implicitDefEqProofs only [go_sem, Wk_block, Wk_drawnC, reduceCtorEq, Nat.reduceEqDiff, Nat.reduceAdd, Nat.reduceLeDiff, Nat.reduceLT, Nat.reduceMul, Nat.reduceSub, ↓reduceIte, Int.reduceLT, Int.reduceLE, Int.reduceNeg, Int.reduceAdd, Int.reduceEq, Nat.reduceBneDiff, Nat.reduceBEq, Int.reduceToNat, Int.reduceMul, Int.reduceSub, Int.reduceBEq, Int.reduceBNe, g2, hlm, hxa, ft]
  refine Wk_loop_post (fun ts s' => ts.get 16 = some (.int .i64 (j : Int)) ∧ ts.get 15 = some (.int .i64 (l.length : Int)) ∧ ts.get 14 = some v ∧ ts.get 1 = some v ∧ ts.get 2 = some m ∧ ts.get 3 = some (.ptr a 0) ∧ ts.get 7 = some w ∧ ts.get 9 = some (.ptr xa 0) ∧ ts.get 10 = some (.bool (decide (x.l ∈ K ++ M))) ∧ Fr s5 s') ?_ ?_
  · refine loop_ind (fun n ts s' => ∃ e : Nat, n = M.length - e ∧ e ≤ M.length ∧ ts.get 27 = some (.int .i64 (e : Int)) ∧ ts.get 26 = some (.int .i64 (M.length : Int)) ∧ ts.get 25 = some m ∧ ts.get 16 = some (.int .i64 (j : Int)) ∧ ts.get 15 = some (.int .i64 (l.length : Int)) ∧ ts.get 14 = some v ∧ ts.get 1 = some v ∧ ts.get 2 = some m ∧ ts.get 3 = some (.ptr a 0) ∧ ts.get 7 = some w ∧
      ts.get 9 = some (.ptr xa 0) ∧ ts.get 10 = some (.bool (decide (x.l ∈ K ++ M.take e))) ∧ Fr s5 s') ?_ (n := M.length)
      ⟨0, rfl, by omega, by simp only [go_sem, Wk_block, Wk_drawnC, reduceCtorEq, Nat.reduceEqDiff, Nat.reduceAdd, Nat.reduceLeDiff, Nat.reduceLT, Nat.reduceMul, Nat.reduceSub, ↓reduceIte, Int.reduceLT, Int.reduceLE, Int.reduceNeg, Int.reduceAdd, Int.reduceEq, Nat.reduceBneDiff, Nat.reduceBEq, Int.reduceToNat, Int.reduceMul, Int.reduceSub, Int.reduceBEq, Int.reduceBNe], by simp only [go_sem, Wk_block, Wk_drawnC, reduceCtorEq, Nat.reduceEqDiff, Nat.reduceAdd, Nat.reduceLeDiff, Nat.reduceLT, Nat.reduceMul, Nat.reduceSub, ↓reduceIte, Int.reduceLT, Int.reduceLE, Int.reduceNeg, Int.reduceAdd, Int.reduceEq, Nat.reduceBneDiff, Nat.reduceBEq, Int.reduceToNat, Int.reduceMul, Int.reduceSub, Int.reduceBEq, Int.reduceBNe], by simp only [go_sem, Wk_block, Wk_drawnC, reduceCtorEq, Nat.reduceEqDiff, Nat.reduceAdd, Nat.reduceLeDiff, Nat.reduceLT, Nat.reduceMul, Nat.reduceSub, ↓reduceIte, Int.reduceLT, Int.reduceLE, Int.reduceNeg, Int.reduceAdd, Int.reduceEq, Nat.reduceBneDiff, Nat.reduceBEq, Int.reduceToNat, Int.reduceMul, Int.reduceSub, Int.reduceBEq, Int.reduceBNe], by simp only [go_sem, Wk_block, Wk_drawnC, reduceCtorEq, Nat.reduceEqDiff, Nat.reduceAdd, Nat.reduceLeDiff, Nat.reduceLT, Nat.reduceMul, Nat.reduceSub, ↓reduceIte, Int.reduceLT, Int.reduceLE, Int.reduceNeg, Int.reduceAdd, Int.reduceEq, Nat.reduceBneDiff, Nat.reduceBEq, Int.reduceToNat, Int.reduceMul, Int.reduceSub, Int.reduceBEq, Int.reduceBNe, g16], by simp only [go_sem, Wk_block, Wk_drawnC, reduceCtorEq, Nat.reduceEqDiff, Nat.reduceAdd, Nat.reduceLeDiff, Nat.reduceLT, Nat.reduceMul, Nat.reduceSub, ↓reduceIte, Int.reduceLT, Int.reduceLE, Int.reduceNeg, Int.reduceAdd, Int.reduceEq, Nat.reduceBneDiff, Nat.reduceBEq, Int.reduceToNat, Int.reduceMul, Int.reduceSub, Int.reduceBEq, Int.reduceBNe, g15], by simp only [go_sem, Wk_block, Wk_drawnC, reduceCtorEq, Nat.reduceEqDiff, Nat.reduceAdd, Nat.reduceLeDiff, Nat.reduceLT, Nat.reduceMul, Nat.reduceSub, ↓reduceIte, Int.reduceLT, Int.reduceLE, Int.reduceNeg, Int.reduceAdd, Int.reduceEq, Nat.reduceBneDiff, Nat.reduceBEq, Int.reduceToNat, Int.reduceMul, Int.reduceSub, Int.reduceBEq, Int.reduceBNe, g14], by simp only [go_sem, Wk_block, Wk_drawnC, reduceCtorEq, Nat.reduceEqDiff, Nat.reduceAdd, Nat.reduceLeDiff, Nat.reduceLT, Nat.reduceMul, Nat.reduceSub, ↓reduceIte, Int.reduceLT, Int.reduceLE, Int.reduceNeg, Int.reduceAdd, Int.reduceEq, Nat.reduceBneDiff, Nat.reduceBEq, Int.reduceToNat, Int.reduceMul, Int.reduceSub, Int.reduceBEq, Int.reduceBNe, g1], by simp only [go_sem, Wk_block, Wk_drawnC, reduceCtorEq, Nat.reduceEqDiff, Nat.reduceAdd, Nat.reduceLeDiff, Nat.reduceLT, Nat.reduceMul, Nat.reduceSub, ↓reduceIte, Int.reduceLT, Int.reduceLE, Int.reduceNeg, Int.reduceAdd, Int.reduceEq, Nat.reduceBneDiff, Nat.reduceBEq, Int.reduceToNat, Int.reduceMul, Int.reduceSub, Int.reduceBEq, Int.reduceBNe, g2], by simp only [go_sem, Wk_block, Wk_drawnC, reduceCtorEq, Nat.reduceEqDiff, Nat.reduceAdd, Nat.reduceLeDiff, Nat.reduceLT, Nat.reduceMul, Nat.reduceSub, ↓reduceIte, Int.reduceLT, Int.reduceLE, Int.reduceNeg, Int.reduceAdd, Int.reduceEq, Nat.reduceBneDiff, Nat.reduceBEq, Int.reduceToNat, Int.reduceMul, Int.reduceSub, Int.reduceBEq, Int.reduceBNe, g3], by simp only [go_sem, Wk_block, Wk_drawnC, reduceCtorEq, Nat.reduceEqDiff, Nat.reduceAdd, Nat.reduceLeDiff, Nat.reduceLT, Nat.reduceMul, Nat.reduceSub, ↓reduceIte, Int.reduceLT, Int.reduceLE, Int.reduceNeg, Int.reduceAdd, Int.reduceEq, Nat.reduceBneDiff, Nat.reduceBEq, Int.reduceToNat, Int.reduceMul, Int.reduceSub, Int.reduceBEq, Int.reduceBNe, g7], by simp only [go_sem, Wk_block, Wk_drawnC, reduceCtorEq, Nat.reduceEqDiff, Nat.reduceAdd, Nat.reduceLeDiff, Nat.reduceLT, Nat.reduceMul, Nat.reduceSub, ↓reduceIte, Int.reduceLT, Int.reduceLE, Int.reduceNeg, Int.reduceAdd, Int.reduceEq, Nat.reduceBneDiff, Nat.reduceBEq, Int.reduceToNat, Int.reduceMul, Int.reduceSub, Int.reduceBEq, Int.reduceBNe], by simp only [go_sem, Wk_block, Wk_drawnC, reduceCtorEq, Nat.reduceEqDiff, Nat.reduceAdd, Nat.reduceLeDiff, Nat.reduceLT, Nat.reduceMul, Nat.reduceSub, ↓reduceIte, Int.reduceLT, Int.reduceLE, Int.reduceNeg, Int.reduceAdd, Int.reduceEq, Nat.reduceBneDiff, Nat.reduceBEq, Int.reduceToNat, Int.reduceMul, Int.reduceSub, Int.reduceBEq, Int.reduceBNe, List.take_zero, List.append_nil], Fr.refl _⟩
    clear g16 g15 g14 g1 g2 g3 g7
    rintro _ ts s6 ⟨e, rfl, he, g27, g26, g25, g16, g15, g14, g1, g2, g3, g7, g9, g10, f6⟩ IH2
    by_cases hel : e < M.length
    rotate_left
    · have hee : e = M.length := by omega
      rw [hee, List.take_length] at g10
      simp -implicitDefEqProofs only [go_sem, Wk_block, Wk_drawnC, reduceCtorEq, Nat.reduceEqDiff, Nat.reduceAdd, Nat.reduceLeDiff, Nat.reduceLT, Nat.reduceMul, Nat.reduceSub, ↓reduceIte, Int.reduceLT, Int.reduceLE, Int.reduceNeg, Int.reduceAdd, Int.reduceEq, Nat.reduceBneDiff, Nat.reduceBEq, Int.reduceToNat, Int.reduceMul, Int.reduceSub, Int.reduceBEq, Int.reduceBNe, g27, g26, hel, ft]
      rw [Wr_nil]
      exact ⟨.inr rfl, rfl, by simp only [go_sem, Wk_block, Wk_drawnC, reduceCtorEq, Nat.reduceEqDiff, Nat.reduceAdd, Nat.reduceLeDiff, Nat.reduceLT, Nat.reduceMul, Nat.reduceSub, ↓reduceIte, Int.reduceLT, Int.reduceLE, Int.reduceNeg, Int.reduceAdd, Int.reduceEq, Nat.reduceBneDiff, Nat.reduceBEq, Int.reduceToNat, Int.reduceMul, Int.reduceSub, Int.reduceBEq, Int.reduceBNe, g16], by simp only [go_sem, Wk_block, Wk_drawnC, reduceCtorEq, Nat.reduceEqDiff, Nat.reduceAdd, Nat.reduceLeDiff, Nat.reduceLT, Nat.reduceMul, Nat.reduceSub, ↓reduceIte, Int.reduceLT, Int.reduceLE, Int.reduceNeg, Int.reduceAdd, Int.reduceEq, Nat.reduceBneDiff, Nat.reduceBEq, Int.reduceToNat, Int.reduceMul, Int.reduceSub, Int.reduceBEq, Int.reduceBNe, g15], by simp only [go_sem, Wk_block, Wk_drawnC, reduceCtorEq, Nat.reduceEqDiff, Nat.reduceAdd, Nat.reduceLeDiff, Nat.reduceLT, Nat.reduceMul, Nat.reduceSub, ↓reduceIte, Int.reduceLT, Int.reduceLE, Int.reduceNeg, Int.reduceAdd, Int.reduceEq, Nat.reduceBneDiff, Nat.reduceBEq, Int.reduceToNat, Int.reduceMul, Int.reduceSub, Int.reduceBEq, Int.reduceBNe, g14], by simp only [go_sem, Wk_block, Wk_drawnC, reduceCtorEq, Nat.reduceEqDiff, Nat.reduceAdd, Nat.reduceLeDiff, Nat.reduceLT, Nat.reduceMul, Nat.reduceSub, ↓reduceIte, Int.reduceLT, Int.reduceLE, Int.reduceNeg, Int.reduceAdd, Int.reduceEq, Nat.reduceBneDiff, Nat.reduceBEq, Int.reduceToNat, Int.reduceMul, Int.reduceSub, Int.reduceBEq, Int.reduceBNe, g1], by simp only [go_sem, Wk_block, Wk_drawnC, reduceCtorEq, Nat.reduceEqDiff, Nat.reduceAdd, Nat.reduceLeDiff, Nat.reduceLT, Nat.reduceMul, Nat.reduceSub, ↓reduceIte, Int.reduceLT, Int.reduceLE, Int.reduceNeg, Int.reduceAdd, Int.reduceEq, Nat.reduceBneDiff, Nat.reduceBEq, Int.reduceToNat, Int.reduceMul, Int.reduceSub, Int.reduceBEq, Int.reduceBNe, g2], by simp only [go_sem, Wk_block, Wk_drawnC, reduceCtorEq, Nat.reduceEqDiff, Nat.reduceAdd, Nat.reduceLeDiff, Nat.reduceLT, Nat.reduceMul, Nat.reduceSub, ↓reduceIte, Int.reduceLT, Int.reduceLE, Int.reduceNeg, Int.reduceAdd, Int.reduceEq, Nat.reduceBneDiff, Nat.reduceBEq, Int.reduceToNat, Int.reduceMul, Int.reduceSub, Int.reduceBEq, Int.reduceBNe, g3], by simp only [go_sem, Wk_block, Wk_drawnC, reduceCtorEq, Nat.reduceEqDiff, Nat.reduceAdd, Nat.reduceLeDiff, Nat.reduceLT, Nat.reduceMul, Nat.reduceSub, ↓reduceIte, Int.reduceLT, Int.reduceLE, Int.reduceNeg, Int.reduceAdd, Int.reduceEq, Nat.reduceBneDiff, Nat.reduceBEq, Int.reduceToNat, Int.reduceMul, Int.reduceSub, Int.reduceBEq, Int.reduceBNe, g7], by simp only [go_sem, Wk_block, Wk_drawnC, reduceCtorEq, Nat.reduceEqDiff, Nat.reduceAdd, Nat.reduceLeDiff, Nat.reduceLT, Nat.reduceMul, Nat.reduceSub, ↓reduceIte, Int.reduceLT, Int.reduceLE, Int.reduceNeg, Int.reduceAdd, Int.reduceEq, Nat.reduceBneDiff, Nat.reduceBEq, Int.reduceToNat, Int.reduceMul, Int.reduceSub, Int.reduceBEq, Int.reduceBNe, g9], by simp only [go_sem, Wk_block, Wk_drawnC, reduceCtorEq, Nat.reduceEqDiff, Nat.reduceAdd, Nat.reduceLeDiff, Nat.reduceLT, Nat.reduceMul, Nat.reduceSub, ↓reduceIte, Int.reduceLT, Int.reduceLE, Int.reduceNeg, Int.reduceAdd, Int.reduceEq, Nat.reduceBneDiff, Nat.reduceBEq, Int.reduceToNat, Int.reduceMul, Int.reduceSub, Int.reduceBEq, Int.reduceBNe, g10], f6⟩
    obtain ⟨b2, o2, vs2, lo2, ro2, z2, hidx2, hg2, hle2, heq3, hbl2⟩ := ((hM.mono hF5).mono f6).at_ (j := e) (by rw [List.length_map]; exact hel)
    rw [List.getElem_map] at heq3
    unfold Lb.enc at heq3
    have q1 : o2 + (e * 2 + 2) ≤ vs2.length := by omega
    have w27 := succ_in (j := e) (by omega)
    have hx6 := (f6.get xa (by omega)).trans hx5
    have hne6 : ¬ xa = s6.next := by have := f6.le; omega
    have hiff : x.l ∈ K ++ M.take (e + 1) ↔ x.l ∈ K ++ M.take e ∨ M[e] = x.l := by
      rw [List.take_succ_eq_append_getElem hel, List.mem_append, List.mem_append, List.mem_append, List.mem_singleton, or_assoc]
      exact or_congr_right (or_congr_right eq_comm)
    have htk2 : decide (x.l ∈ K ++ M.take (e + 1)) = (decide (x.l ∈ K ++ M.take e) || (M[e].e == x.l.e && M[e].q == x.l.q)) := by
      rw [lb_eq, Bool.eq_iff_iff]
      simp only [decide_eq_true_eq, Bool.or_eq_true]
      exact hiff
    cases hm : decide (x.l ∈ K ++ M.take e)
    · rw [hm] at g10 htk2
      rw [Bool.false_or] at htk2
      simp -implicitDefEqProofs only [go_sem, Wk_block, Wk_drawnC, reduceCtorEq, Nat.reduceEqDiff, Nat.reduceAdd, Nat.reduceLeDiff, Nat.reduceLT, Nat.reduceMul, Nat.reduceSub, ↓reduceIte, Int.reduceLT, Int.reduceLE, Int.reduceNeg, Int.reduceAdd, Int.reduceEq, Nat.reduceBneDiff, Nat.reduceBEq, Int.reduceToNat, Int.reduceMul, Int.reduceSub, Int.reduceBEq, Int.reduceBNe, g27, g26, g25, g16, g15, g14, g1, g2, g3, g7, g9, g10, hel, hidx2, hg2, hle2, q1, heq3, hx6, hne6, w27, ft, tf]
      exact IH2 (M.length - (e + 1)) _ _ (by omega) ⟨e + 1, rfl, by omega, by simp only [go_sem, Wk_block, Wk_drawnC, reduceCtorEq, Nat.reduceEqDiff, Nat.reduceAdd, Nat.reduceLeDiff, Nat.reduceLT, Nat.reduceMul, Nat.reduceSub, ↓reduceIte, Int.reduceLT, Int.reduceLE, Int.reduceNeg, Int.reduceAdd, Int.reduceEq, Nat.reduceBneDiff, Nat.reduceBEq, Int.reduceToNat, Int.reduceMul, Int.reduceSub, Int.reduceBEq, Int.reduceBNe], by simp only [go_sem, Wk_block, Wk_drawnC, reduceCtorEq, Nat.reduceEqDiff, Nat.reduceAdd, Nat.reduceLeDiff, Nat.reduceLT, Nat.reduceMul, Nat.reduceSub, ↓reduceIte, Int.reduceLT, Int.reduceLE, Int.reduceNeg, Int.reduceAdd, Int.reduceEq, Nat.reduceBneDiff, Nat.reduceBEq, Int.reduceToNat, Int.reduceMul, Int.reduceSub, Int.reduceBEq, Int.reduceBNe, g26], by simp only [go_sem, Wk_block, Wk_drawnC, reduceCtorEq, Nat.reduceEqDiff, Nat.reduceAdd, Nat.reduceLeDiff, Nat.reduceLT, Nat.reduceMul, Nat.reduceSub, ↓reduceIte, Int.reduceLT, Int.reduceLE, Int.reduceNeg, Int.reduceAdd, Int.reduceEq, Nat.reduceBneDiff, Nat.reduceBEq, Int.reduceToNat, Int.reduceMul, Int.reduceSub, Int.reduceBEq, Int.reduceBNe, g25], by simp only [go_sem, Wk_block, Wk_drawnC, reduceCtorEq, Nat.reduceEqDiff, Nat.reduceAdd, Nat.reduceLeDiff, Nat.reduceLT, Nat.reduceMul, Nat.reduceSub, ↓reduceIte, Int.reduceLT, Int.reduceLE, Int.reduceNeg, Int.reduceAdd, Int.reduceEq, Nat.reduceBneDiff, Nat.reduceBEq, Int.reduceToNat, Int.reduceMul, Int.reduceSub, Int.reduceBEq, Int.reduceBNe, g16], by simp only [go_sem, Wk_block, Wk_drawnC, reduceCtorEq, Nat.reduceEqDiff, Nat.reduceAdd, Nat.reduceLeDiff, Nat.reduceLT, Nat.reduceMul, Nat.reduceSub, ↓reduceIte, Int.reduceLT, Int.reduceLE, Int.reduceNeg, Int.reduceAdd, Int.reduceEq, Nat.reduceBneDiff, Nat.reduceBEq, Int.reduceToNat, Int.reduceMul, Int.reduceSub, Int.reduceBEq, Int.reduceBNe, g15], by simp only [go_sem, Wk_block, Wk_drawnC, reduceCtorEq, Nat.reduceEqDiff, Nat.reduceAdd, Nat.reduceLeDiff, Nat.reduceLT, Nat.reduceMul, Nat.reduceSub, ↓reduceIte, Int.reduceLT, Int.reduceLE, Int.reduceNeg, Int.reduceAdd, Int.reduceEq, Nat.reduceBneDiff, Nat.reduceBEq, Int.reduceToNat, Int.reduceMul, Int.reduceSub, Int.reduceBEq, Int.reduceBNe, g14], by simp only [go_sem, Wk_block, Wk_drawnC, reduceCtorEq, Nat.reduceEqDiff, Nat.reduceAdd, Nat.reduceLeDiff, Nat.reduceLT, Nat.reduceMul, Nat.reduceSub, ↓reduceIte, Int.reduceLT, Int.reduceLE, Int.reduceNeg, Int.reduceAdd, Int.reduceEq, Nat.reduceBneDiff, Nat.reduceBEq, Int.reduceToNat, Int.reduceMul, Int.reduceSub, Int.reduceBEq, Int.reduceBNe, g1], by simp only [go_sem, Wk_block, Wk_drawnC, reduceCtorEq, Nat.reduceEqDiff, Nat.reduceAdd, Nat.reduceLeDiff, Nat.reduceLT, Nat.reduceMul, Nat.reduceSub, ↓reduceIte, Int.reduceLT, Int.reduceLE, Int.reduceNeg, Int.reduceAdd, Int.reduceEq, Nat.reduceBneDiff, Nat.reduceBEq, Int.reduceToNat, Int.reduceMul, Int.reduceSub, Int.reduceBEq, Int.reduceBNe, g2], by simp only [go_sem, Wk_block, Wk_drawnC, reduceCtorEq, Nat.reduceEqDiff, Nat.reduceAdd, Nat.reduceLeDiff, Nat.reduceLT, Nat.reduceMul, Nat.reduceSub, ↓reduceIte, Int.reduceLT, Int.reduceLE, Int.reduceNeg, Int.reduceAdd, Int.reduceEq, Nat.reduceBneDiff, Nat.reduceBEq, Int.reduceToNat, Int.reduceMul, Int.reduceSub, Int.reduceBEq, Int.reduceBNe, g3], by simp only [go_sem, Wk_block, Wk_drawnC, reduceCtorEq, Nat.reduceEqDiff, Nat.reduceAdd, Nat.reduceLeDiff, Nat.reduceLT, Nat.reduceMul, Nat.reduceSub, ↓reduceIte, Int.reduceLT, Int.reduceLE, Int.reduceNeg, Int.reduceAdd, Int.reduceEq, Nat.reduceBneDiff, Nat.reduceBEq, Int.reduceToNat, Int.reduceMul, Int.reduceSub, Int.reduceBEq, Int.reduceBNe, g7], by simp only [go_sem, Wk_block, Wk_drawnC, reduceCtorEq, Nat.reduceEqDiff, Nat.reduceAdd, Nat.reduceLeDiff, Nat.reduceLT, Nat.reduceMul, Nat.reduceSub, ↓reduceIte, Int.reduceLT, Int.reduceLE, Int.reduceNeg, Int.reduceAdd, Int.reduceEq, Nat.reduceBneDiff, Nat.reduceBEq, Int.reduceToNat, Int.reduceMul, Int.reduceSub, Int.reduceBEq, Int.reduceBNe, g9], by rw [htk2]; simp only [go_sem, Wk_block, Wk_drawnC, reduceCtorEq, Nat.reduceEqDiff, Nat.reduceAdd, Nat.reduceLeDiff, Nat.reduceLT, Nat.reduceMul, Nat.reduceSub, ↓reduceIte, Int.reduceLT, Int.reduceLE, Int.reduceNeg, Int.reduceAdd, Int.reduceEq, Nat.reduceBneDiff, Nat.reduceBEq, Int.reduceToNat, Int.reduceMul, Int.reduceSub, Int.reduceBEq, Int.reduceBNe], f6.new _⟩
    · rw [hm] at g10 htk2
      rw [Bool.true_or] at htk2
      simp -implicitDefEqProofs only [go_sem, Wk_block, Wk_drawnC, reduceCtorEq, Nat.reduceEqDiff, Nat.reduceAdd, Nat.reduceLeDiff, Nat.reduceLT, Nat.reduceMul, Nat.reduceSub, ↓reduceIte, Int.reduceLT, Int.reduceLE, Int.reduceNeg, Int.reduceAdd, Int.reduceEq, Nat.reduceBneDiff, Nat.reduceBEq, Int.reduceToNat, Int.reduceMul, Int.reduceSub, Int.reduceBEq, Int.reduceBNe, g27, g26, g25, g16, g15, g14, g1, g2, g3, g7, g9, g10, hel, hidx2, hg2, hle2, q1, heq3, hx6, hne6, w27, ft, tf]
      exact IH2 (M.length - (e + 1)) _ _ (by omega) ⟨e + 1, rfl, by omega, by simp only [go_sem, Wk_block, Wk_drawnC, reduceCtorEq, Nat.reduceEqDiff, Nat.reduceAdd, Nat.reduceLeDiff, Nat.reduceLT, Nat.reduceMul, Nat.reduceSub, ↓reduceIte, Int.reduceLT, Int.reduceLE, Int.reduceNeg, Int.reduceAdd, Int.reduceEq, Nat.reduceBneDiff, Nat.reduceBEq, Int.reduceToNat, Int.reduceMul, Int.reduceSub, Int.reduceBEq, Int.reduceBNe], by simp only [go_sem, Wk_block, Wk_drawnC, reduceCtorEq, Nat.reduceEqDiff, Nat.reduceAdd, Nat.reduceLeDiff, Nat.reduceLT, Nat.reduceMul, Nat.reduceSub, ↓reduceIte, Int.reduceLT, Int.reduceLE, Int.reduceNeg, Int.reduceAdd, Int.reduceEq, Nat.reduceBneDiff, Nat.reduceBEq, Int.reduceToNat, Int.reduceMul, Int.reduceSub, Int.reduceBEq, Int.reduceBNe, g26], by simp only [go_sem, Wk_block, Wk_drawnC, reduceCtorEq, Nat.reduceEqDiff, Nat.reduceAdd, Nat.reduceLeDiff, Nat.reduceLT, Nat.reduceMul, Nat.reduceSub, ↓reduceIte, Int.reduceLT, Int.reduceLE, Int.reduceNeg, Int.reduceAdd, Int.reduceEq, Nat.reduceBneDiff, Nat.reduceBEq, Int.reduceToNat, Int.reduceMul, Int.reduceSub, Int.reduceBEq, Int.reduceBNe, g25], by simp only [go_sem, Wk_block, Wk_drawnC, reduceCtorEq, Nat.reduceEqDiff, Nat.reduceAdd, Nat.reduceLeDiff, Nat.reduceLT, Nat.reduceMul, Nat.reduceSub, ↓reduceIte, Int.reduceLT, Int.reduceLE, Int.reduceNeg, Int.reduceAdd, Int.reduceEq, Nat.reduceBneDiff, Nat.reduceBEq, Int.reduceToNat, Int.reduceMul, Int.reduceSub, Int.reduceBEq, Int.reduceBNe, g16], by simp only [go_sem, Wk_block, Wk_drawnC, reduceCtorEq, Nat.reduceEqDiff, Nat.reduceAdd, Nat.reduceLeDiff, Nat.reduceLT, Nat.reduceMul, Nat.reduceSub, ↓reduceIte, Int.reduceLT, Int.reduceLE, Int.reduceNeg, Int.reduceAdd, Int.reduceEq, Nat.reduceBneDiff, Nat.reduceBEq, Int.reduceToNat, Int.reduceMul, Int.reduceSub, Int.reduceBEq, Int.reduceBNe, g15], by simp only [go_sem, Wk_block, Wk_drawnC, reduceCtorEq, Nat.reduceEqDiff, Nat.reduceAdd, Nat.reduceLeDiff, Nat.reduceLT, Nat.reduceMul, Nat.reduceSub, ↓reduceIte, Int.reduceLT, Int.reduceLE, Int.reduceNeg, Int.reduceAdd, Int.reduceEq, Nat.reduceBneDiff, Nat.reduceBEq, Int.reduceToNat, Int.reduceMul, Int.reduceSub, Int.reduceBEq, Int.reduceBNe, g14], by simp only [go_sem, Wk_block, Wk_drawnC, reduceCtorEq, Nat.reduceEqDiff, Nat.reduceAdd, Nat.reduceLeDiff, Nat.reduceLT, Nat.reduceMul, Nat.reduceSub, ↓reduceIte, Int.reduceLT, Int.reduceLE, Int.reduceNeg, Int.reduceAdd, Int.reduceEq, Nat.reduceBneDiff, Nat.reduceBEq, Int.reduceToNat, Int.reduceMul, Int.reduceSub, Int.reduceBEq, Int.reduceBNe, g1], by simp only [go_sem, Wk_block, Wk_drawnC, reduceCtorEq, Nat.reduceEqDiff, Nat.reduceAdd, Nat.reduceLeDiff, Nat.reduceLT, Nat.reduceMul, Nat.reduceSub, ↓reduceIte, Int.reduceLT, Int.reduceLE, Int.reduceNeg, Int.reduceAdd, Int.reduceEq, Nat.reduceBneDiff, Nat.reduceBEq, Int.reduceToNat, Int.reduceMul, Int.reduceSub, Int.reduceBEq, Int.reduceBNe, g2], by simp only [go_sem, Wk_block, Wk_drawnC, reduceCtorEq, Nat.reduceEqDiff, Nat.reduceAdd, Nat.reduceLeDiff, Nat.reduceLT, Nat.reduceMul, Nat.reduceSub, ↓reduceIte, Int.reduceLT, Int.reduceLE, Int.reduceNeg, Int.reduceAdd, Int.reduceEq, Nat.reduceBneDiff, Nat.reduceBEq, Int.reduceToNat, Int.reduceMul, Int.reduceSub, Int.reduceBEq, Int.reduceBNe, g3], by simp only [go_sem, Wk_block, Wk_drawnC, reduceCtorEq, Nat.reduceEqDiff, Nat.reduceAdd, Nat.reduceLeDiff, Nat.reduceLT, Nat.reduceMul, Nat.reduceSub, ↓reduceIte, Int.reduceLT, Int.reduceLE, Int.reduceNeg, Int.reduceAdd, Int.reduceEq, Nat.reduceBneDiff, Nat.reduceBEq, Int.reduceToNat, Int.reduceMul, Int.reduceSub, Int.reduceBEq, Int.reduceBNe, g7], by simp only [go_sem, Wk_block, Wk_drawnC, reduceCtorEq, Nat.reduceEqDiff, Nat.reduceAdd, Nat.reduceLeDiff, Nat.reduceLT, Nat.reduceMul, Nat.reduceSub, ↓reduceIte, Int.reduceLT, Int.reduceLE, Int.reduceNeg, Int.reduceAdd, Int.reduceEq, Nat.reduceBneDiff, Nat.reduceBEq, Int.reduceToNat, Int.reduceMul, Int.reduceSub, Int.reduceBEq, Int.reduceBNe, g9], by rw [htk2]; simp only [go_sem, Wk_block, Wk_drawnC, reduceCtorEq, Nat.reduceEqDiff, Nat.reduceAdd, Nat.reduceLeDiff, Nat.reduceLT, Nat.reduceMul, Nat.reduceSub, ↓reduceIte, Int.reduceLT, Int.reduceLE, Int.reduceNeg, Int.reduceAdd, Int.reduceEq, Nat.reduceBneDiff, Nat.reduceBEq, Int.reduceToNat, Int.reduceMul, Int.reduceSub, Int.reduceBEq, Int.reduceBNe], f6.new _⟩
  clear g16 g15 g14 g1 g2 g3 g7
  rintro ts s6 ⟨g16, g15, g14, g1, g2, g3, g7, g9, g10, f6⟩
  have hga6 := (f6.get a (by omega)).trans hga5
  have hx6 := (f6.get xa (by omega)).trans hx5
  have hF6 := hF5.trans f6
  have hN6 : a + 1 ≤ s6.next := by have := f6.le; omega
  have ho6 := hoL.fr f6
  have hce := ho6.cell
  cases hin : decide (x.l ∈ K ++ M)
  · rw [hin, if_neg (by simp)] at htk
    rw [hin] at g10
    obtain ⟨w', s7, happ7, ho7, hnx, hfr⟩ := OutG.push (eb := 8) (ho6.fr ((Fr.refl s6).new (.cells [.int .u32 x.l.e, .int .u32 x.l.q] false false 0))) (by simp only [St.next_new]; omega) enc_len (x := x.l.enc) rfl rfl (by rw [List.length_map]; omega)
    unfold Lb.enc at happ7
    simp -implicitDefEqProofs only [go_sem, Wk_block, Wk_drawnC, reduceCtorEq, Nat.reduceEqDiff, Nat.reduceAdd, Nat.reduceLeDiff, Nat.reduceLT, Nat.reduceMul, Nat.reduceSub, ↓reduceIte, Int.reduceLT, Int.reduceLE, Int.reduceNeg, Int.reduceAdd, Int.reduceEq, Nat.reduceBneDiff, Nat.reduceBEq, Int.reduceToNat, Int.reduceMul, Int.reduceSub, Int.reduceBEq, Int.reduceBNe, g16, g15, g14, g1, g2, g3, g7, g9, g10, hx6, w16, hce, srcA, happ7, Bool.not_false, ft]
    simp only [St.next_new] at hnx
    have hl6 : (goesS (K ++ M) (l.take j)).map Lb.enc ++ [x.l.enc] = (goesS (K ++ M) (l.take j) ++ [x.l]).map Lb.enc := by simp
    have ho8 : OutG s7 (a + 1) w' 2 ((goesS (K ++ M) (l.take j)).map Lb.enc ++ [x.l.enc]) := ho7
    rw [hl6, ← htk] at ho8
    refine IH (l.length - (j + 1)) _ _ (by omega) ⟨j + 1, w', rfl, by omega, by simp only [go_sem, Wk_block, Wk_drawnC, reduceCtorEq, Nat.reduceEqDiff, Nat.reduceAdd, Nat.reduceLeDiff, Nat.reduceLT, Nat.reduceMul, Nat.reduceSub, ↓reduceIte, Int.reduceLT, Int.reduceLE, Int.reduceNeg, Int.reduceAdd, Int.reduceEq, Nat.reduceBneDiff, Nat.reduceBEq, Int.reduceToNat, Int.reduceMul, Int.reduceSub, Int.reduceBEq, Int.reduceBNe], by simp only [go_sem, Wk_block, Wk_drawnC, reduceCtorEq, Nat.reduceEqDiff, Nat.reduceAdd, Nat.reduceLeDiff, Nat.reduceLT, Nat.reduceMul, Nat.reduceSub, ↓reduceIte, Int.reduceLT, Int.reduceLE, Int.reduceNeg, Int.reduceAdd, Int.reduceEq, Nat.reduceBneDiff, Nat.reduceBEq, Int.reduceToNat, Int.reduceMul, Int.reduceSub, Int.reduceBEq, Int.reduceBNe, g15], by simp only [go_sem, Wk_block, Wk_drawnC, reduceCtorEq, Nat.reduceEqDiff, Nat.reduceAdd, Nat.reduceLeDiff, Nat.reduceLT, Nat.reduceMul, Nat.reduceSub, ↓reduceIte, Int.reduceLT, Int.reduceLE, Int.reduceNeg, Int.reduceAdd, Int.reduceEq, Nat.reduceBneDiff, Nat.reduceBEq, Int.reduceToNat, Int.reduceMul, Int.reduceSub, Int.reduceBEq, Int.reduceBNe, g14], by simp only [go_sem, Wk_block, Wk_drawnC, reduceCtorEq, Nat.reduceEqDiff, Nat.reduceAdd, Nat.reduceLeDiff, Nat.reduceLT, Nat.reduceMul, Nat.reduceSub, ↓reduceIte, Int.reduceLT, Int.reduceLE, Int.reduceNeg, Int.reduceAdd, Int.reduceEq, Nat.reduceBneDiff, Nat.reduceBEq, Int.reduceToNat, Int.reduceMul, Int.reduceSub, Int.reduceBEq, Int.reduceBNe, g1], by simp only [go_sem, Wk_block, Wk_drawnC, reduceCtorEq, Nat.reduceEqDiff, Nat.reduceAdd, Nat.reduceLeDiff, Nat.reduceLT, Nat.reduceMul, Nat.reduceSub, ↓reduceIte, Int.reduceLT, Int.reduceLE, Int.reduceNeg, Int.reduceAdd, Int.reduceEq, Nat.reduceBneDiff, Nat.reduceBEq, Int.reduceToNat, Int.reduceMul, Int.reduceSub, Int.reduceBEq, Int.reduceBNe, g2], by simp only [go_sem, Wk_block, Wk_drawnC, reduceCtorEq, Nat.reduceEqDiff, Nat.reduceAdd, Nat.reduceLeDiff, Nat.reduceLT, Nat.reduceMul, Nat.reduceSub, ↓reduceIte, Int.reduceLT, Int.reduceLE, Int.reduceNeg, Int.reduceAdd, Int.reduceEq, Nat.reduceBneDiff, Nat.reduceBEq, Int.reduceToNat, Int.reduceMul, Int.reduceSub, Int.reduceBEq, Int.reduceBNe, g3], by simp only [go_sem, Wk_block, Wk_drawnC, reduceCtorEq, Nat.reduceEqDiff, Nat.reduceAdd, Nat.reduceLeDiff, Nat.reduceLT, Nat.reduceMul, Nat.reduceSub, ↓reduceIte, Int.reduceLT, Int.reduceLE, Int.reduceNeg, Int.reduceAdd, Int.reduceEq, Nat.reduceBneDiff, Nat.reduceBEq, Int.reduceToNat, Int.reduceMul, Int.reduceSub, Int.reduceBEq, Int.reduceBNe], ho8, ?_, ⟨?_, fun y hy => ?_⟩, by omega⟩
    · rw [hfr a (by omega), St.get_new, if_neg (by omega)]; exact hga6
    · have := hF6.le; omega
    · have := hF6.le; rw [hfr y (by omega), St.get_new, if_neg (by omega)]; exact hF6.get y hy
  · rw [hin, if_pos rfl] at htk
    rw [hin] at g10
    rw [← htk] at ho6
    simp -implicitDefEqProofs only [go_sem, Wk_block, Wk_drawnC, reduceCtorEq, Nat.reduceEqDiff, Nat.reduceAdd, Nat.reduceLeDiff, Nat.reduceLT, Nat.reduceMul, Nat.reduceSub, ↓reduceIte, Int.reduceLT, Int.reduceLE, Int.reduceNeg, Int.reduceAdd, Int.reduceEq, Nat.reduceBneDiff, Nat.reduceBEq, Int.reduceToNat, Int.reduceMul, Int.reduceSub, Int.reduceBEq, Int.reduceBNe, g16, g15, g14, g1, g2, g3, g7, g10, w16, Bool.not_true, ft]
    exact IH (l.length - (j + 1)) _ _ (by omega) ⟨j + 1, w, rfl, by omega, by simp only [go_sem, Wk_block, Wk_drawnC, reduceCtorEq, Nat.reduceEqDiff, Nat.reduceAdd, Nat.reduceLeDiff, Nat.reduceLT, Nat.reduceMul, Nat.reduceSub, ↓reduceIte, Int.reduceLT, Int.reduceLE, Int.reduceNeg, Int.reduceAdd, Int.reduceEq, Nat.reduceBneDiff, Nat.reduceBEq, Int.reduceToNat, Int.reduceMul, Int.reduceSub, Int.reduceBEq, Int.reduceBNe], by simp only [go_sem, Wk_block, Wk_drawnC, reduceCtorEq, Nat.reduceEqDiff, Nat.reduceAdd, Nat.reduceLeDiff, Nat.reduceLT, Nat.reduceMul, Nat.reduceSub, ↓reduceIte, Int.reduceLT, Int.reduceLE, Int.reduceNeg, Int.reduceAdd, Int.reduceEq, Nat.reduceBneDiff, Nat.reduceBEq, Int.reduceToNat, Int.reduceMul, Int.reduceSub, Int.reduceBEq, Int.reduceBNe, g15], by simp only [go_sem, Wk_block, Wk_drawnC, reduceCtorEq, Nat.reduceEqDiff, Nat.reduceAdd, Nat.reduceLeDiff, Nat.reduceLT, Nat.reduceMul, Nat.reduceSub, ↓reduceIte, Int.reduceLT, Int.reduceLE, Int.reduceNeg, Int.reduceAdd, Int.reduceEq, Nat.reduceBneDiff, Nat.reduceBEq, Int.reduceToNat, Int.reduceMul, Int.reduceSub, Int.reduceBEq, Int.reduceBNe, g14], by simp only [go_sem, Wk_block, Wk_drawnC, reduceCtorEq, Nat.reduceEqDiff, Nat.reduceAdd, Nat.reduceLeDiff, Nat.reduceLT, Nat.reduceMul, Nat.reduceSub, ↓reduceIte, Int.reduceLT, Int.reduceLE, Int.reduceNeg, Int.reduceAdd, Int.reduceEq, Nat.reduceBneDiff, Nat.reduceBEq, Int.reduceToNat, Int.reduceMul, Int.reduceSub, Int.reduceBEq, Int.reduceBNe, g1], by simp only [go_sem, Wk_block, Wk_drawnC, reduceCtorEq, Nat.reduceEqDiff, Nat.reduceAdd, Nat.reduceLeDiff, Nat.reduceLT, Nat.reduceMul, Nat.reduceSub, ↓reduceIte, Int.reduceLT, Int.reduceLE, Int.reduceNeg, Int.reduceAdd, Int.reduceEq, Nat.reduceBneDiff, Nat.reduceBEq, Int.reduceToNat, Int.reduceMul, Int.reduceSub, Int.reduceBEq, Int.reduceBNe, g2], by simp only [go_sem, Wk_block, Wk_drawnC, reduceCtorEq, Nat.reduceEqDiff, Nat.reduceAdd, Nat.reduceLeDiff, Nat.reduceLT, Nat.reduceMul, Nat.reduceSub, ↓reduceIte, Int.reduceLT, Int.reduceLE, Int.reduceNeg, Int.reduceAdd, Int.reduceEq, Nat.reduceBneDiff, Nat.reduceBEq, Int.reduceToNat, Int.reduceMul, Int.reduceSub, Int.reduceBEq, Int.reduceBNe, g3], by simp only [go_sem, Wk_block, Wk_drawnC, reduceCtorEq, Nat.reduceEqDiff, Nat.reduceAdd, Nat.reduceLeDiff, Nat.reduceLT, Nat.reduceMul, Nat.reduceSub, ↓reduceIte, Int.reduceLT, Int.reduceLE, Int.reduceNeg, Int.reduceAdd, Int.reduceEq, Nat.reduceBneDiff, Nat.reduceBEq, Int.reduceToNat, Int.reduceMul, Int.reduceSub, Int.reduceBEq, Int.reduceBNe, g7], ho6, hga6, hF6, hN6⟩
end Go.Proofs.Ytjejgnbdlfkenaa
namespace Go.Proofs.Ytjejgnbdlfkenaa
open D Base
set_option linter.unusedSimpArgs false
set_option linter.unusedVariables false
set_option maxRecDepth 10000

theorem ok_kp {s : St} {v : AV} (h : ArgOk s tyKeep v) : ∃ k : Kp, v = .agg k.enc ∧ KpOk k := by
  obtain ⟨cs, rfl, h⟩ := h
  obtain ⟨_, _, rfl, ⟨e, rfl, h1, h2⟩, k1⟩ := okAll_cons h
  obtain ⟨_, _, rfl, ⟨q, rfl, h3, h4⟩, k2⟩ := okAll_cons k1
  obtain ⟨_, _, rfl, ⟨r, rfl, _, _⟩, k3⟩ := okAll_cons k2
  obtain ⟨_, _, rfl, ⟨t, rfl, _, _⟩, k4⟩ := okAll_cons k3
  rw [okAll_nil k4]
  exact ⟨⟨e, q, r, t⟩, rfl, ⟨h1, h2⟩, h3, h4⟩
theorem keepTells_run : ∀ (s : St) (a : List AV), ArgsOk s [tyKeep, .slice tySn, .slice tyLb] a → Wf mm 3 a s fun v _ => v = .bool true := by
  rintro s a h
  obtain ⟨v0, r0, rfl, h0, h⟩ := argsOk_cons h
  obtain ⟨v1, r1, rfl, h1, h⟩ := argsOk_cons h
  obtain ⟨v2, r2, rfl, h2, h⟩ := argsOk_cons h
  rw [argsOk_nil h]
  obtain ⟨k, rfl, hk⟩ := ok_kp h0
  obtain ⟨l, hR, hok, hS⟩ := sns_arg h1
  obtain ⟨M, hM, hM0⟩ := lbs_arg h2
  refine Wf_enter ft3 (sm (by decide)) (by rfl) ?_
  have ft : (false == true) = false := rfl
  have tf : (true == false) = false := rfl
  have hlen := hR.len
  have hlm := hM.rd.len
  rw [List.length_map] at hlen hlm
  obtain ⟨a, ha⟩ : ∃ a, s.next = a := ⟨_, rfl⟩
  have f0 : Fr s (s.new (.cells k.enc false false 0)) := (Fr.refl s).new _
  have ga : (s.new (.cells k.enc false false 0)).get a = some (.cells k.enc false false 0) := by rw [St.get_new, if_pos ha.symm]
  have hn0 : (s.new (.cells k.enc false false 0)).next = a + 1 := by rw [St.next_new, ha]
  by_cases hl60 : l.length ≤ 60
  rotate_left
  · have c1 : decide ((l.length : Int) > 60) = true := decide_eq_true (by omega)
    simp -implicitDefEqProofs only [go_sem, Wk_block, Wk_drawnC, reduceCtorEq, Nat.reduceEqDiff, Nat.reduceAdd, Nat.reduceLeDiff, Nat.reduceLT, Nat.reduceMul, Nat.reduceSub, ↓reduceIte, Int.reduceLT, Int.reduceLE, Int.reduceNeg, Int.reduceAdd, Int.reduceEq, Nat.reduceBneDiff, Nat.reduceBEq, Int.reduceToNat, Int.reduceMul, Int.reduceSub, Int.reduceBEq, Int.reduceBNe, fd3, Wl_eq (alive_eq _), hlen, c1, Bool.not_true, ft, tf]
  have c1 : decide ((l.length : Int) > 60) = false := decide_eq_false (by omega)
  by_cases hm60 : M.length ≤ 60
  rotate_left
  · have c2 : decide ((M.length : Int) > 60) = true := decide_eq_true (by omega)
    simp -implicitDefEqProofs only [go_sem, Wk_block, Wk_drawnC, reduceCtorEq, Nat.reduceEqDiff, Nat.reduceAdd, Nat.reduceLeDiff, Nat.reduceLT, Nat.reduceMul, Nat.reduceSub, ↓reduceIte, Int.reduceLT, Int.reduceLE, Int.reduceNeg, Int.reduceAdd, Int.reduceEq, Nat.reduceBneDiff, Nat.reduceBEq, Int.reduceToNat, Int.reduceMul, Int.reduceSub, Int.reduceBEq, Int.reduceBNe, fd3, Wl_eq (alive_eq _), hlen, hlm, c1, c2, Bool.not_true, ft, tf]
  have c2 : decide ((M.length : Int) > 60) = false := decide_eq_false (by omega)
  have hS := hS (by omega)
  simp -implicitDefEqProofs only [go_sem, Wk_block, Wk_drawnC, reduceCtorEq, Nat.reduceEqDiff, Nat.reduceAdd, Nat.reduceLeDiff, Nat.reduceLT, Nat.reduceMul, Nat.reduceSub, ↓reduceIte, Int.reduceLT, Int.reduceLE, Int.reduceNeg, Int.reduceAdd, Int.reduceEq, Nat.reduceBneDiff, Nat.reduceBEq, Int.reduceToNat, Int.reduceMul, Int.reduceSub, Int.reduceBEq, Int.reduceBNe, fd3, Wl_eq (alive_eq _), hlen, hlm, c1, c2, ha, Bool.not_true, ft, tf]
  generalize s.new (.cells k.enc false false 0) = s0 at f0 ga hn0 ⊢
  refine Wl_of (Rising_run hl60 (hR.mono f0)) ?_
  rintro w s1 ⟨b, rfl, hb, f1⟩
  cases b
  · simp -implicitDefEqProofs only [go_sem, Wk_block, Wk_drawnC, reduceCtorEq, Nat.reduceEqDiff, Nat.reduceAdd, Nat.reduceLeDiff, Nat.reduceLT, Nat.reduceMul, Nat.reduceSub, ↓reduceIte, Int.reduceLT, Int.reduceLE, Int.reduceNeg, Int.reduceAdd, Int.reduceEq, Nat.reduceBneDiff, Nat.reduceBEq, Int.reduceToNat, Int.reduceMul, Int.reduceSub, Int.reduceBEq, Int.reduceBNe, Bool.not_false, ft, tf]
  have hr := hb rfl
  have F1 := f0.trans f1
  have g1 := (f1.get a (by omega)).trans ga
  have n1 : a + 1 ≤ s1.next := by have := f1.le; omega
  simp -implicitDefEqProofs only [go_sem, Wk_block, Wk_drawnC, reduceCtorEq, Nat.reduceEqDiff, Nat.reduceAdd, Nat.reduceLeDiff, Nat.reduceLT, Nat.reduceMul, Nat.reduceSub, ↓reduceIte, Int.reduceLT, Int.reduceLE, Int.reduceNeg, Int.reduceAdd, Int.reduceEq, Nat.reduceBneDiff, Nat.reduceBEq, Int.reduceToNat, Int.reduceMul, Int.reduceSub, Int.reduceBEq, Int.reduceBNe, g1, Bool.not_true, ft, tf]
  refine Wl_of (Kept_run hk hl60 hr hok (hS.mono F1)) ?_
  rintro w2 s2 ⟨hC, f2⟩
  have F2 := F1.trans f2
  have g2 := (f2.get a (by omega)).trans g1
  have n2 : a + 1 ≤ s2.next := by have := f2.le; omega
  have pl : (pickS k.last k.span k.spans l l).length ≤ 60 := by
    have := (pickS_sub k.last k.span k.spans l l).length_le
    rw [List.length_map] at this
    omega
  have hCr := hC.rd (by unfold maxLen; omega)
  simp -implicitDefEqProofs only [go_sem, Wk_block, Wk_drawnC, reduceCtorEq, Nat.reduceEqDiff, Nat.reduceAdd, Nat.reduceLeDiff, Nat.reduceLT, Nat.reduceMul, Nat.reduceSub, ↓reduceIte, Int.reduceLT, Int.reduceLE, Int.reduceNeg, Int.reduceAdd, Int.reduceEq, Nat.reduceBneDiff, Nat.reduceBEq, Int.reduceToNat, Int.reduceMul, Int.reduceSub, Int.reduceBEq, Int.reduceBNe, g2, ft, tf]
  refine Wl_of (RKept_run hk hl60 hok (hR.mono F2)) ?_
  rintro w3 s3 ⟨hO, f3⟩
  have F3 := F2.trans f3
  have g3 := (f3.get a (by omega)).trans g2
  have n3 : a + 1 ≤ s3.next := by have := f3.le; omega
  have hOr := hO.rd enc_len (by rw [List.length_map]; unfold maxLen; omega)
  simp -implicitDefEqProofs only [go_sem, Wk_block, Wk_drawnC, reduceCtorEq, Nat.reduceEqDiff, Nat.reduceAdd, Nat.reduceLeDiff, Nat.reduceLT, Nat.reduceMul, Nat.reduceSub, ↓reduceIte, Int.reduceLT, Int.reduceLE, Int.reduceNeg, Int.reduceAdd, Int.reduceEq, Nat.reduceBneDiff, Nat.reduceBEq, Int.reduceToNat, Int.reduceMul, Int.reduceSub, Int.reduceBEq, Int.reduceBNe, ft, tf]
  refine Wl_of (Same_run (hCr.mono f3) hOr) ?_
  rintro w4 s4 ⟨rfl, f4⟩
  have F4 := F3.trans f4
  have g4 := (f4.get a (by omega)).trans g3
  have n4 : a + 1 ≤ s4.next := by have := f4.le; omega
  have dd : decide (pickS k.last k.span k.spans l l = pickS k.last k.span k.spans l l) = true := decide_eq_true rfl
  rw [dd]
  simp -implicitDefEqProofs only [go_sem, Wk_block, Wk_drawnC, reduceCtorEq, Nat.reduceEqDiff, Nat.reduceAdd, Nat.reduceLeDiff, Nat.reduceLT, Nat.reduceMul, Nat.reduceSub, ↓reduceIte, Int.reduceLT, Int.reduceLE, Int.reduceNeg, Int.reduceAdd, Int.reduceEq, Nat.reduceBneDiff, Nat.reduceBEq, Int.reduceToNat, Int.reduceMul, Int.reduceSub, Int.reduceBEq, Int.reduceBNe, g4, ft, tf]
  refine Wl_of (Goes_run hk hl60 hr hok (hS.mono F4) (hM.mono F4) (by omega)) ?_
  rintro w5 s5 ⟨hG, f5⟩
  have F5 := F4.trans f5
  have g5 := (f5.get a (by omega)).trans g4
  have n5 : a + 1 ≤ s5.next := by have := f5.le; omega
  simp -implicitDefEqProofs only [go_sem, Wk_block, Wk_drawnC, reduceCtorEq, Nat.reduceEqDiff, Nat.reduceAdd, Nat.reduceLeDiff, Nat.reduceLT, Nat.reduceMul, Nat.reduceSub, ↓reduceIte, Int.reduceLT, Int.reduceLE, Int.reduceNeg, Int.reduceAdd, Int.reduceEq, Nat.reduceBneDiff, Nat.reduceBEq, Int.reduceToNat, Int.reduceMul, Int.reduceSub, Int.reduceBEq, Int.reduceBNe, g5, ft, tf]
  refine Wl_of (RGoes_run hk hl60 hr hok (hR.mono F5) (hM.rd.mono F5) (by omega)) ?_
  rintro w6 s6 ⟨hO6, f6⟩
  have F6 := F5.trans f6
  have g6 := (f6.get a (by omega)).trans g5
  have gl := goesS_len (pickS k.last k.span k.spans l l ++ M) l
  have hGr : Rd s5 w5 2 ((goesS (pickS k.last k.span k.spans l l ++ M) l).map Lb.enc) := by
    rcases hG with ⟨rfl, e⟩ | ⟨p, rfl, h1, h2, h3, h4⟩
    · rw [e]; exact ⟨fun _ => rfl, by simp, fun h => by simp at h⟩
    · exact rd_flat h4 h3 (Nat.le_refl _) List.take_length (by unfold maxLen; omega)
  have hOr6 := hO6.rd enc_len (by rw [List.length_map]; unfold maxLen; omega)
  simp -implicitDefEqProofs only [go_sem, Wk_block, Wk_drawnC, reduceCtorEq, Nat.reduceEqDiff, Nat.reduceAdd, Nat.reduceLeDiff, Nat.reduceLT, Nat.reduceMul, Nat.reduceSub, ↓reduceIte, Int.reduceLT, Int.reduceLE, Int.reduceNeg, Int.reduceAdd, Int.reduceEq, Nat.reduceBneDiff, Nat.reduceBEq, Int.reduceToNat, Int.reduceMul, Int.reduceSub, Int.reduceBEq, Int.reduceBNe, ft, tf]
  refine Wl_of (Same_run (hGr.mono f6) hOr6) ?_
  rintro w7 s7 ⟨rfl, f7⟩
  have g7 := (f7.get a (by have := f6.le; omega)).trans g6
  have dd2 : decide (goesS (pickS k.last k.span k.spans l l ++ M) l = goesS (pickS k.last k.span k.spans l l ++ M) l) = true := decide_eq_true rfl
  rw [dd2]
  simp -implicitDefEqProofs only [go_sem, Wk_block, Wk_drawnC, reduceCtorEq, Nat.reduceEqDiff, Nat.reduceAdd, Nat.reduceLeDiff, Nat.reduceLT, Nat.reduceMul, Nat.reduceSub, ↓reduceIte, Int.reduceLT, Int.reduceLE, Int.reduceNeg, Int.reduceAdd, Int.reduceEq, Nat.reduceBneDiff, Nat.reduceBEq, Int.reduceToNat, Int.reduceMul, Int.reduceSub, Int.reduceBEq, Int.reduceBNe, g1, g2, g3, g4, g5, g6, g7, ft, tf]
end Go.Proofs.Ytjejgnbdlfkenaa
namespace Go.Proofs.Ytjejgnbdlfkenaa
open D Base
set_option linter.unusedSimpArgs false
set_option linter.unusedVariables false
set_option maxRecDepth 10000

/-- A list joined to one that began as an empty array. -/
theorem OutG.pushL {s : St} {N : Nat} {w : AV} {L : List Lb} (h : OutG s N w 2 (L.map Lb.enc)) (hN : N ≤ s.next) (M : List Lb) (hl : L.length + M.length < 1000000) :
    ∃ w' s', appendA 2 8 s w M.length (M.flatMap Lb.enc) = some (w', s') ∧ OutG s' N w' 2 ((L ++ M).map Lb.enc) ∧ s.next ≤ s'.next ∧ ∀ b, b < N → s'.get b = s.get b := by
  rcases Nat.eq_zero_or_pos M.length with hM | hM
  · obtain rfl : M = [] := List.eq_nil_of_length_eq_zero hM
    refine ⟨w, s, ?_, by rw [List.append_nil]; exact h, Nat.le_refl _, fun _ _ => rfl⟩
    rcases h with ⟨q, rfl, h2, h3, h4, h5⟩ | ⟨p, rfl, h1, h2, h3, h4⟩
    · rfl
    · unfold appendA
      simp
  have hfl : ∀ X : List Lb, (X.map Lb.enc).flatten = X.flatMap Lb.enc := fun X => (List.flatMap_def ..).symm
  rcases h with ⟨q, rfl, h2, h3, h4, h5⟩ | ⟨p, rfl, h1, h2, h3, h4⟩
  · obtain rfl : L = [] := by simpa using h2
    simp only [List.length_nil, Nat.zero_add] at hl
    refine ⟨.slice s.next 0 M.length M.length true, s.new (.cells (M.flatMap Lb.enc) true false 2), ?_, .inr ⟨s.next, by simp, by simpa using hM, hN, Nat.lt_succ_self _, ?_⟩, Nat.le_succ _, fun b hb => ?_⟩
    · unfold appendA
      dsimp only
      have : loadA s q 0 (0 * 2) = some [] := by unfold loadA; rw [h5]; simp
      rw [if_neg (by omega), if_pos (by omega), this, Nat.zero_add]
      rfl
    · rw [St.get_new, if_pos rfl, List.nil_append, hfl]
    · rw [St.get_new, if_neg (by omega)]
  · rw [List.length_map] at h1
    rw [hfl] at h4
    have hf := lflat_len L
    have hlo : loadA s p 0 (L.length * 2) = some (L.flatMap Lb.enc) := by
      unfold loadA
      rw [h4]
      dsimp only
      rw [if_pos (by omega), List.drop_zero, List.take_of_length_le (by omega)]
    refine ⟨.slice s.next 0 (L.length + M.length) (L.length + M.length) true, (s.drop p).new (.cells (L.flatMap Lb.enc ++ M.flatMap Lb.enc) true false 2), ?_, .inr ⟨s.next, by simp, by simp; omega, hN, Nat.lt_succ_self _, ?_⟩, Nat.le_succ _, fun b hb => ?_⟩
    · unfold appendA
      simp only [List.length_map, hlo, h4]
      rw [if_neg (by omega), if_pos (by omega)]
      simp only [hf, if_true, lb_cells]
      rfl
    · rw [St.get_new, if_pos (by simp), hfl, List.flatMap_append]
    · rw [St.get_new, if_neg (by simp; omega), St.get_drop, if_neg (by omega)]
/-- What an answer gives to an append. -/
theorem Cut.src {s : St} {N : Nat} {w : AV} {D : List Lb} (h : Cut s N w D) : srcA s 2 w = some (D.length, D.flatMap Lb.enc) := by
  rcases h with ⟨rfl, rfl⟩ | ⟨p, C, rfl, h1, h2, h3, h4, h5, h6⟩
  · rfl
  · have hla : loadA s p 0 (D.length * 2) = some (D.flatMap Lb.enc) := by
      unfold loadA
      rw [h6]
      dsimp only
      rw [if_pos (by rw [lflat_len]; omega), List.drop_zero, lflat_take, h3]
    unfold srcA
    dsimp only
    rw [hla]
theorem Cut.fr {s s' : St} {N : Nat} {w : AV} {D : List Lb} (h : Cut s N w D) (f : Fr s s') : Cut s' N w D := by
  rcases h with h | ⟨p, C, h1, h2, h3, h4, h5, h6, h7⟩
  · exact .inl h
  · exact .inr ⟨p, C, h1, h2, h3, h4, h5, Nat.lt_of_lt_of_le h6 f.le, (f.get p h6).trans h7⟩
theorem Out.src {s : St} {N : Nat} {w : AV} {L : List Lb} (h : Out s N w L) : srcA s 2 w = some (L.length, L.flatMap Lb.enc) := by
  rcases h with ⟨rfl, rfl⟩ | ⟨p, rfl, h1, h2, h3, h4⟩
  · rfl
  · have hla : loadA s p 0 (L.length * 2) = some (L.flatMap Lb.enc) := by
      unfold loadA
      rw [h4]
      dsimp only
      rw [if_pos (by rw [lflat_len]; omega), List.drop_zero, List.take_of_length_le (by rw [lflat_len]; omega)]
    unfold srcA
    dsimp only
    rw [hla]
end Go.Proofs.Ytjejgnbdlfkenaa
