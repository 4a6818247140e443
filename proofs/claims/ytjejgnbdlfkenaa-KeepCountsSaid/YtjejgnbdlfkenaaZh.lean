/- slices.Sort over numbers of 32 bits. Last part: the sort.
keep.spans: what it answers.
keep.spans: what is known of it. -/
import Derived.Test.YtjejgnbdlfkenaaZg
namespace Go.Proofs.Ytjejgnbdlfkenaa.Base
open D
set_option linter.unusedSimpArgs false
set_option linter.unusedVariables false
set_option maxRecDepth 10000

theorem Wk_cut2 {M : Mach} {ro : Option Nat} {k : List Fk} {c : PC} {ts : Tr AV} {ds : List Nat} {s : St} {Q : Post} (e : AExit) (I J : Tr AV → St → Prop) (h1 : Wk M ro [] c ts ds s fun x ts' ds' s' => ds' = ds ∧ (x = .normal ∧ I ts' s' ∨ x = e ∧ J ts' s'))
    (hn : ∀ ts' s', I ts' s' → Wr M ro k .normal ts' ds s' Q) (he : ∀ ts' s', J ts' s' → Wr M ro k e ts' ds s' Q) : Wk M ro k c ts ds s Q := by
  obtain ⟨x, ts', ds', s', h, h2⟩ := h1
  rw [Wr_nil] at h2
  obtain ⟨rfl, ⟨rfl, hI⟩ | ⟨rfl, hJ⟩⟩ := h2
  · exact ⟨_, _, _, _, h, hn _ _ hI⟩
  · exact ⟨_, _, _, _, h, he _ _ hJ⟩
abbrev PermI (a b : Nat) (d d' : Array Int) : Prop := Go.Sort.PermIn a b d d'
abbrev SortI (a b : Nat) (d : Array Int) : Prop := Go.Sort.SortedIn Go.Sort.ltInt a b d
abbrev BelowI (a b : Nat) (d : Array Int) : Prop := Go.Sort.Below Go.Sort.ltInt a b d
theorem Pdq_run : ∀ (N : Nat) {d0 : Array Int} {n a b p : Nat} {lim : Int} {s : St}, b - a < N → Arr s p d0 → d0.size = n → a ≤ b → b ≤ n → n < 1000000 → p < s.next → BelowI a b d0 →
    Wf mm 30 [.slice p 0 n n true, .int .i64 (a : Int), .int .i64 (b : Int), .int .i64 lim] s fun _ s' => ∃ d, PermI a b d0 d ∧ SortI a b d ∧ Arr s' p d ∧ FrX p s s' ∧ s'.next ≤ s.next + 2 * (b - a)
  | 0, _, _, _, _, _, _, _, h, _, _, _, _, _, _, _ => by omega
  | N + 1, d0, n, a, b, p, lim, s, hN, hA0, hn0, hab0, hbn0, hn9, hp, hB0 => by
    refine Wf_enter ft30 (sm (by decide)) (by rfl) ?_
    have ft : (false == true) = false := rfl
    simp -implicitDefEqProofs only [fd30, go_sem, Wk_block, Wk_drawnC, reduceCtorEq, Nat.reduceEqDiff, Nat.reduceAdd, Nat.reduceLeDiff, Nat.reduceLT, Nat.reduceMul, Nat.reduceSub, ↓reduceIte, Int.reduceLT, Int.reduceLE, Int.reduceNeg, Int.reduceAdd, Int.reduceEq, Nat.reduceBneDiff, Nat.reduceBEq, Int.reduceToNat, Int.reduceMul, Int.reduceSub, Int.reduceBEq, Int.reduceBNe]
    refine loop_ind (fun m ts s' => ∃ (a' b' : Nat) (lim' : Int) (wb wp : Bool) (d : Array Int), m = b' - a' ∧ b' - a' ≤ b - a ∧ a' ≤ b' ∧ b' ≤ n ∧ ts.get 0 = some (.slice p 0 n n true) ∧ ts.get 1 = some (.int .i64 (a' : Int)) ∧ ts.get 2 = some (.int .i64 (b' : Int)) ∧ ts.get 3 = some (.int .i64 lim') ∧ ts.get 8 = some (.bool wb) ∧ ts.get 9 = some (.bool wp) ∧ Arr s' p d ∧ d.size = n ∧ BelowI a' b' d ∧
      (∀ d', PermI a' b' d d' → SortI a' b' d' → PermI a b d0 d' ∧ SortI a b d') ∧ FrX p s s' ∧ s'.next + 2 * (b' - a') ≤ s.next + 2 * (b - a)) ?_ (n := b - a)
      ⟨a, b, lim, true, true, d0, rfl, Nat.le_refl _, hab0, hbn0, by simp only [Tr.get_set, Nat.reduceEqDiff, ↓reduceIte, Int.cast_ofNat_Int], by simp only [Tr.get_set, Nat.reduceEqDiff, ↓reduceIte, Int.cast_ofNat_Int], by simp only [Tr.get_set, Nat.reduceEqDiff, ↓reduceIte, Int.cast_ofNat_Int], by simp only [Tr.get_set, Nat.reduceEqDiff, ↓reduceIte, Int.cast_ofNat_Int], by simp only [Tr.get_set, Nat.reduceEqDiff, ↓reduceIte, Int.cast_ofNat_Int], by simp only [Tr.get_set, Nat.reduceEqDiff, ↓reduceIte, Int.cast_ofNat_Int], hA0, hn0, hB0, fun d' h1 h2 => ⟨h1, h2⟩, FrX.refl _ _, Nat.le_refl _⟩
    rintro _ ts s1 ⟨a', b', lim', wb, wp, d, rfl, hle, hab, hbn, g0, g1, g2, g3, g8, g9, hA, hd, hB, hG, hF, hX⟩ IH
    have wab := sub_in (i := b') (j := a') hab (by omega)
    have hp1 := Nat.lt_of_lt_of_le hp hF.le
    by_cases h12 : b' - a' ≤ 12
    · have c1 : decide (((b' - a' : Nat) : Int) ≤ 12) = true := decide_eq_true (by omega)
      simp -implicitDefEqProofs only [go_sem, Wk_block, Wk_drawnC, reduceCtorEq, Nat.reduceEqDiff, Nat.reduceAdd, Nat.reduceLeDiff, Nat.reduceLT, Nat.reduceMul, Nat.reduceSub, ↓reduceIte, Int.reduceLT, Int.reduceLE, Int.reduceNeg, Int.reduceAdd, Int.reduceEq, Nat.reduceBneDiff, Nat.reduceBEq, Int.reduceToNat, Int.reduceMul, Int.reduceSub, Int.reduceBEq, Int.reduceBNe, g0, g1, g2, g3, g8, g9, wab, c1, ft]
      refine Wl_of (Ins_run hA hd hab hbn hn9) ?_
      rintro w s2 ⟨hA2, hF2, hX2⟩
      simp -implicitDefEqProofs only [go_sem, Wk_block, Wk_drawnC, reduceCtorEq, Nat.reduceEqDiff, Nat.reduceAdd, Nat.reduceLeDiff, Nat.reduceLT, Nat.reduceMul, Nat.reduceSub, ↓reduceIte, Int.reduceLT, Int.reduceLE, Int.reduceNeg, Int.reduceAdd, Int.reduceEq, Nat.reduceBneDiff, Nat.reduceBEq, Int.reduceToNat, Int.reduceMul, Int.reduceSub, Int.reduceBEq, Int.reduceBNe, ft]
      obtain ⟨q1, q2⟩ := Go.Sort.insertionSort_holds (lt := lt) Go.Sort.swo_ltInt d a' b' hab (by omega)
      obtain ⟨q3, q4⟩ := hG _ q1 q2
      exact ⟨_, q3, q4, hA2, hF.trans hF2, by omega⟩
    have c1 : decide (((b' - a' : Nat) : Int) ≤ 12) = false := decide_eq_false (by omega)
    simp -implicitDefEqProofs only [go_sem, Wk_block, Wk_drawnC, reduceCtorEq, Nat.reduceEqDiff, Nat.reduceAdd, Nat.reduceLeDiff, Nat.reduceLT, Nat.reduceMul, Nat.reduceSub, ↓reduceIte, Int.reduceLT, Int.reduceLE, Int.reduceNeg, Int.reduceAdd, Int.reduceEq, Nat.reduceBneDiff, Nat.reduceBEq, Int.reduceToNat, Int.reduceMul, Int.reduceSub, Int.reduceBEq, Int.reduceBNe, g0, g1, g2, g3, g8, g9, wab, c1, ft]
    refine Wi_split (fun hv => ?_) (fun hv => ?_)
    · simp -implicitDefEqProofs only [go_sem, Wk_block, Wk_drawnC, reduceCtorEq, Nat.reduceEqDiff, Nat.reduceAdd, Nat.reduceLeDiff, Nat.reduceLT, Nat.reduceMul, Nat.reduceSub, ↓reduceIte, Int.reduceLT, Int.reduceLE, Int.reduceNeg, Int.reduceAdd, Int.reduceEq, Nat.reduceBneDiff, Nat.reduceBEq, Int.reduceToNat, Int.reduceMul, Int.reduceSub, Int.reduceBEq, Int.reduceBNe, g0, g1, g2, g3, g8, g9, ft]
      refine Wl_of (Heap_run hA hd (by omega) hbn hn9) ?_
      rintro w s2 ⟨hA2, hF2, hX2⟩
      simp -implicitDefEqProofs only [go_sem, Wk_block, Wk_drawnC, reduceCtorEq, Nat.reduceEqDiff, Nat.reduceAdd, Nat.reduceLeDiff, Nat.reduceLT, Nat.reduceMul, Nat.reduceSub, ↓reduceIte, Int.reduceLT, Int.reduceLE, Int.reduceNeg, Int.reduceAdd, Int.reduceEq, Nat.reduceBneDiff, Nat.reduceBEq, Int.reduceToNat, Int.reduceMul, Int.reduceSub, Int.reduceBEq, Int.reduceBNe, ft]
      obtain ⟨q1, q2⟩ := Go.Sort.heapSort_holds (lt := lt) Go.Sort.swo_ltInt d a' b' hab (by omega)
      obtain ⟨q3, q4⟩ := hG _ q1 q2
      exact ⟨_, q3, q4, hA2, hF.trans hF2, by omega⟩
    clear hv c1
    rw [Wk_skip, Wr_sq, Wk_seq]
    refine Wk_cut (fun ts s' => ∃ (lim' : Int) (d1 : Array Int), ts.get 0 = some (.slice p 0 n n true) ∧ ts.get 1 = some (.int .i64 (a' : Int)) ∧ ts.get 2 = some (.int .i64 (b' : Int)) ∧ ts.get 3 = some (.int .i64 lim') ∧ ts.get 8 = some (.bool wb) ∧ ts.get 9 = some (.bool wp) ∧ ts.get 10 = some (.int .i64 ((b' - a' : Nat) : Int)) ∧ PermI a' b' d d1 ∧ Arr s' p d1 ∧ FrX p s s' ∧ s'.next + 2 * (b' - a') ≤ s.next + 2 * (b - a) + 1) ?_ ?_
    · simp -implicitDefEqProofs only [go_sem, Wk_block, Wk_drawnC, reduceCtorEq, Nat.reduceEqDiff, Nat.reduceAdd, Nat.reduceLeDiff, Nat.reduceLT, Nat.reduceMul, Nat.reduceSub, ↓reduceIte, Int.reduceLT, Int.reduceLE, Int.reduceNeg, Int.reduceAdd, Int.reduceEq, Nat.reduceBneDiff, Nat.reduceBEq, Int.reduceToNat, Int.reduceMul, Int.reduceSub, Int.reduceBEq, Int.reduceBNe, g0, g1, g2, g3, g8, g9, ft]
      refine Wi_split (fun hv => ?_) (fun hv => ?_)
      · simp -implicitDefEqProofs only [go_sem, Wk_block, Wk_drawnC, reduceCtorEq, Nat.reduceEqDiff, Nat.reduceAdd, Nat.reduceLeDiff, Nat.reduceLT, Nat.reduceMul, Nat.reduceSub, ↓reduceIte, Int.reduceLT, Int.reduceLE, Int.reduceNeg, Int.reduceAdd, Int.reduceEq, Nat.reduceBneDiff, Nat.reduceBEq, Int.reduceToNat, Int.reduceMul, Int.reduceSub, Int.reduceBEq, Int.reduceBNe, g0, g1, g2, g3, g8, g9, ft]
        refine Wl_of (Break_run hA hd (by omega) hbn hn9 hp1) ?_
        rintro w s2 ⟨d1, hP, hA2, hF2, hX2⟩
        simp -implicitDefEqProofs only [go_sem, Wk_block, Wk_drawnC, reduceCtorEq, Nat.reduceEqDiff, Nat.reduceAdd, Nat.reduceLeDiff, Nat.reduceLT, Nat.reduceMul, Nat.reduceSub, ↓reduceIte, Int.reduceLT, Int.reduceLE, Int.reduceNeg, Int.reduceAdd, Int.reduceEq, Nat.reduceBneDiff, Nat.reduceBEq, Int.reduceToNat, Int.reduceMul, Int.reduceSub, Int.reduceBEq, Int.reduceBNe, g0, g1, g2, g3, g8, g9, ft]
        rw [Wr_nil]
        exact ⟨rfl, rfl, IntKind.i64.wrap (lim' - 1), d1, by simp only [Tr.get_set, Nat.reduceEqDiff, ↓reduceIte, Int.cast_ofNat_Int, g0], by simp only [Tr.get_set, Nat.reduceEqDiff, ↓reduceIte, Int.cast_ofNat_Int, g1], by simp only [Tr.get_set, Nat.reduceEqDiff, ↓reduceIte, Int.cast_ofNat_Int, g2], by simp only [Tr.get_set, Nat.reduceEqDiff, ↓reduceIte, Int.cast_ofNat_Int], by simp only [Tr.get_set, Nat.reduceEqDiff, ↓reduceIte, Int.cast_ofNat_Int, g8], by simp only [Tr.get_set, Nat.reduceEqDiff, ↓reduceIte, Int.cast_ofNat_Int, g9], by simp only [Tr.get_set, Nat.reduceEqDiff, ↓reduceIte, Int.cast_ofNat_Int], hP, hA2, hF.trans hF2, by omega⟩
      · rw [Wk_skip, Wr_nil]
        exact ⟨rfl, rfl, lim', d, by simp only [Tr.get_set, Nat.reduceEqDiff, ↓reduceIte, Int.cast_ofNat_Int, g0], by simp only [Tr.get_set, Nat.reduceEqDiff, ↓reduceIte, Int.cast_ofNat_Int, g1], by simp only [Tr.get_set, Nat.reduceEqDiff, ↓reduceIte, Int.cast_ofNat_Int, g2], by simp only [Tr.get_set, Nat.reduceEqDiff, ↓reduceIte, Int.cast_ofNat_Int, g3], by simp only [Tr.get_set, Nat.reduceEqDiff, ↓reduceIte, Int.cast_ofNat_Int, g8], by simp only [Tr.get_set, Nat.reduceEqDiff, ↓reduceIte, Int.cast_ofNat_Int, g9], by simp only [Tr.get_set, Nat.reduceEqDiff, ↓reduceIte, Int.cast_ofNat_Int], Go.Sort.permIn_refl _ _ _, hA, hF, by omega⟩
    clear g0 g1 g2 g3 g8 g9 hA hF hp1 lim' hX
    rintro ts s2 ⟨lim', d1, g0, g1, g2, g3, g8, g9, g10, hP1, hA, hF, hX⟩
    have hd1 : d1.size = n := by rw [hP1.1]; exact hd
    have hB1 : BelowI a' b' d1 := hB.perm (by omega) hP1
    have hp1 := Nat.lt_of_lt_of_le hp hF.le
    simp -implicitDefEqProofs only [go_sem, Wk_block, Wk_drawnC, reduceCtorEq, Nat.reduceEqDiff, Nat.reduceAdd, Nat.reduceLeDiff, Nat.reduceLT, Nat.reduceMul, Nat.reduceSub, ↓reduceIte, Int.reduceLT, Int.reduceLE, Int.reduceNeg, Int.reduceAdd, Int.reduceEq, Nat.reduceBneDiff, Nat.reduceBEq, Int.reduceToNat, Int.reduceMul, Int.reduceSub, Int.reduceBEq, Int.reduceBNe, g0, g1, g2, g3, g8, g9, g10, ft]
    refine Wl_of (Choose_run hA hd1 (by omega) hbn hn9 hp1) ?_
    rintro w s3 ⟨v, hint, hv1, hv2, rfl, hF2, hX2⟩
    have hA2 := arr_of hA hp1 hF2
    have hF3 : FrX p s s3 := hF.trans (hF2.x p)
    have wvb := sub_in (i := v) (j := a') hv1 (by omega)
    obtain ⟨z, hz⟩ : ∃ z, b' = z + 1 := ⟨b' - 1, by omega⟩
    have wb1 := pred_of hz (by omega)
    have wzv := sub_in (i := z) (j := v - a') (by omega) (by omega)
    simp -implicitDefEqProofs only [go_sem, Wk_block, Wk_drawnC, reduceCtorEq, Nat.reduceEqDiff, Nat.reduceAdd, Nat.reduceLeDiff, Nat.reduceLT, Nat.reduceMul, Nat.reduceSub, ↓reduceIte, Int.reduceLT, Int.reduceLE, Int.reduceNeg, Int.reduceAdd, Int.reduceEq, Nat.reduceBneDiff, Nat.reduceBEq, Int.reduceToNat, Int.reduceMul, Int.reduceSub, Int.reduceBEq, Int.reduceBNe, g0, g1, g2, g3, g8, g9, g10, ft]
    refine Wi_cut (fun ts s' => ∃ (v : Nat) (hint : Int) (d2 : Array Int), a' ≤ v ∧ v < b' ∧ ts.get 0 = some (.slice p 0 n n true) ∧ ts.get 1 = some (.int .i64 (a' : Int)) ∧ ts.get 2 = some (.int .i64 (b' : Int)) ∧ ts.get 3 = some (.int .i64 lim') ∧ ts.get 8 = some (.bool wb) ∧ ts.get 9 = some (.bool wp) ∧ ts.get 10 = some (.int .i64 ((b' - a' : Nat) : Int)) ∧ ts.get 11 = some (.int .i64 (v : Int)) ∧ ts.get 12 = some (.int .i64 hint) ∧ PermI a' b' d d2 ∧ Arr s' p d2 ∧ FrX p s s' ∧ s'.next + 2 * (b' - a') ≤ s.next + 2 * (b - a) + 2) ?_ ?_ ?_
    · intro hv
      simp -implicitDefEqProofs only [go_sem, Wk_block, Wk_drawnC, reduceCtorEq, Nat.reduceEqDiff, Nat.reduceAdd, Nat.reduceLeDiff, Nat.reduceLT, Nat.reduceMul, Nat.reduceSub, ↓reduceIte, Int.reduceLT, Int.reduceLE, Int.reduceNeg, Int.reduceAdd, Int.reduceEq, Nat.reduceBneDiff, Nat.reduceBEq, Int.reduceToNat, Int.reduceMul, Int.reduceSub, Int.reduceBEq, Int.reduceBNe, g0, g1, g2, g3, g8, g9, g10, ft]
      refine Wl_of (Rev_run hA2 hd1 (by omega) hbn hn9) ?_
      rintro w s4 ⟨hA4, hF4, hX4⟩
      simp -implicitDefEqProofs only [go_sem, Wk_block, Wk_drawnC, reduceCtorEq, Nat.reduceEqDiff, Nat.reduceAdd, Nat.reduceLeDiff, Nat.reduceLT, Nat.reduceMul, Nat.reduceSub, ↓reduceIte, Int.reduceLT, Int.reduceLE, Int.reduceNeg, Int.reduceAdd, Int.reduceEq, Nat.reduceBneDiff, Nat.reduceBEq, Int.reduceToNat, Int.reduceMul, Int.reduceSub, Int.reduceBEq, Int.reduceBNe, g0, g1, g2, g3, g8, g9, g10, wb1, wvb, wzv, ft]
      rw [Wr_nil]
      exact ⟨rfl, rfl, z - (v - a'), 1, _, by omega, by omega, by simp only [Tr.get_set, Nat.reduceEqDiff, ↓reduceIte, Int.cast_ofNat_Int, g0], by simp only [Tr.get_set, Nat.reduceEqDiff, ↓reduceIte, Int.cast_ofNat_Int, g1], by simp only [Tr.get_set, Nat.reduceEqDiff, ↓reduceIte, Int.cast_ofNat_Int, g2], by simp only [Tr.get_set, Nat.reduceEqDiff, ↓reduceIte, Int.cast_ofNat_Int, g3], by simp only [Tr.get_set, Nat.reduceEqDiff, ↓reduceIte, Int.cast_ofNat_Int, g8], by simp only [Tr.get_set, Nat.reduceEqDiff, ↓reduceIte, Int.cast_ofNat_Int, g9], by simp only [Tr.get_set, Nat.reduceEqDiff, ↓reduceIte, Int.cast_ofNat_Int, g10], by simp only [Tr.get_set, Nat.reduceEqDiff, ↓reduceIte, Int.cast_ofNat_Int], by simp only [Tr.get_set, Nat.reduceEqDiff, ↓reduceIte, Int.cast_ofNat_Int], Go.Sort.permIn_trans _ _ _ _ _ hP1 (Go.Sort.reverseRange_holds d1 a' b' hab (by omega)), hA4, hF3.trans hF4, by omega⟩
    · intro hv
      rw [Wk_skip, Wr_nil]
      exact ⟨rfl, rfl, v, hint, d1, hv1, hv2, by simp only [Tr.get_set, Nat.reduceEqDiff, ↓reduceIte, Int.cast_ofNat_Int, g0], by simp only [Tr.get_set, Nat.reduceEqDiff, ↓reduceIte, Int.cast_ofNat_Int, g1], by simp only [Tr.get_set, Nat.reduceEqDiff, ↓reduceIte, Int.cast_ofNat_Int, g2], by simp only [Tr.get_set, Nat.reduceEqDiff, ↓reduceIte, Int.cast_ofNat_Int, g3], by simp only [Tr.get_set, Nat.reduceEqDiff, ↓reduceIte, Int.cast_ofNat_Int, g8], by simp only [Tr.get_set, Nat.reduceEqDiff, ↓reduceIte, Int.cast_ofNat_Int, g9], by simp only [Tr.get_set, Nat.reduceEqDiff, ↓reduceIte, Int.cast_ofNat_Int, g10], by simp only [Tr.get_set, Nat.reduceEqDiff, ↓reduceIte, Int.cast_ofNat_Int], by simp only [Tr.get_set, Nat.reduceEqDiff, ↓reduceIte, Int.cast_ofNat_Int], hP1, hA2, hF3, by omega⟩
    clear g0 g1 g2 g3 g8 g9 g10 hA2 hF2 hF3 hp1 hv1 hv2 wvb wzv hP1 hd1 hB1 hA hF hX hX2
    clear v hint d1 s2 s3
    rintro ts s3 ⟨v, hint, d2, hv1, hv2, g0, g1, g2, g3, g8, g9, g10, g11, g12, hP2, hA2, hF2, hX⟩
    have hd2 : d2.size = n := by rw [hP2.1]; exact hd
    have hB2 : BelowI a' b' d2 := hB.perm (by omega) hP2
    rw [Wr_sq, Wk_seq]
    refine Wk_cut2 .ret (fun ts s' => ∃ d3 : Array Int, ts.get 0 = some (.slice p 0 n n true) ∧ ts.get 1 = some (.int .i64 (a' : Int)) ∧ ts.get 2 = some (.int .i64 (b' : Int)) ∧ ts.get 3 = some (.int .i64 lim') ∧ ts.get 8 = some (.bool wb) ∧ ts.get 9 = some (.bool wp) ∧ ts.get 10 = some (.int .i64 ((b' - a' : Nat) : Int)) ∧ ts.get 11 = some (.int .i64 (v : Int)) ∧ PermI a' b' d d3 ∧ Arr s' p d3 ∧ FrX p s s' ∧ s'.next + 2 * (b' - a') ≤ s.next + 2 * (b - a) + 2) (fun ts s' => ∃ d3 : Array Int, PermI a' b' d d3 ∧ SortI a' b' d3 ∧ Arr s' p d3 ∧ FrX p s s' ∧ s'.next + 2 * (b' - a') ≤ s.next + 2 * (b - a) + 2) ?_ ?_ ?_
    · cases wb
      · simp -implicitDefEqProofs only [go_sem, Wk_block, Wk_drawnC, reduceCtorEq, Nat.reduceEqDiff, Nat.reduceAdd, Nat.reduceLeDiff, Nat.reduceLT, Nat.reduceMul, Nat.reduceSub, ↓reduceIte, Int.reduceLT, Int.reduceLE, Int.reduceNeg, Int.reduceAdd, Int.reduceEq, Nat.reduceBneDiff, Nat.reduceBEq, Int.reduceToNat, Int.reduceMul, Int.reduceSub, Int.reduceBEq, Int.reduceBNe, g0, g1, g2, g3, g8, g9, g10, g11, g12, ft]
        rw [Wr_nil]
        exact ⟨rfl, .inl ⟨rfl, d2, by simp only [Tr.get_set, Nat.reduceEqDiff, ↓reduceIte, Int.cast_ofNat_Int, g0], by simp only [Tr.get_set, Nat.reduceEqDiff, ↓reduceIte, Int.cast_ofNat_Int, g1], by simp only [Tr.get_set, Nat.reduceEqDiff, ↓reduceIte, Int.cast_ofNat_Int, g2], by simp only [Tr.get_set, Nat.reduceEqDiff, ↓reduceIte, Int.cast_ofNat_Int, g3], by simp only [Tr.get_set, Nat.reduceEqDiff, ↓reduceIte, Int.cast_ofNat_Int, g8], by simp only [Tr.get_set, Nat.reduceEqDiff, ↓reduceIte, Int.cast_ofNat_Int, g9], by simp only [Tr.get_set, Nat.reduceEqDiff, ↓reduceIte, Int.cast_ofNat_Int, g10], by simp only [Tr.get_set, Nat.reduceEqDiff, ↓reduceIte, Int.cast_ofNat_Int, g11], hP2, hA2, hF2, hX⟩⟩
      cases wp
      · simp -implicitDefEqProofs only [go_sem, Wk_block, Wk_drawnC, reduceCtorEq, Nat.reduceEqDiff, Nat.reduceAdd, Nat.reduceLeDiff, Nat.reduceLT, Nat.reduceMul, Nat.reduceSub, ↓reduceIte, Int.reduceLT, Int.reduceLE, Int.reduceNeg, Int.reduceAdd, Int.reduceEq, Nat.reduceBneDiff, Nat.reduceBEq, Int.reduceToNat, Int.reduceMul, Int.reduceSub, Int.reduceBEq, Int.reduceBNe, g0, g1, g2, g3, g8, g9, g10, g11, g12, ft]
        rw [Wr_nil]
        exact ⟨rfl, .inl ⟨rfl, d2, by simp only [Tr.get_set, Nat.reduceEqDiff, ↓reduceIte, Int.cast_ofNat_Int, g0], by simp only [Tr.get_set, Nat.reduceEqDiff, ↓reduceIte, Int.cast_ofNat_Int, g1], by simp only [Tr.get_set, Nat.reduceEqDiff, ↓reduceIte, Int.cast_ofNat_Int, g2], by simp only [Tr.get_set, Nat.reduceEqDiff, ↓reduceIte, Int.cast_ofNat_Int, g3], by simp only [Tr.get_set, Nat.reduceEqDiff, ↓reduceIte, Int.cast_ofNat_Int, g8], by simp only [Tr.get_set, Nat.reduceEqDiff, ↓reduceIte, Int.cast_ofNat_Int, g9], by simp only [Tr.get_set, Nat.reduceEqDiff, ↓reduceIte, Int.cast_ofNat_Int, g10], by simp only [Tr.get_set, Nat.reduceEqDiff, ↓reduceIte, Int.cast_ofNat_Int, g11], hP2, hA2, hF2, hX⟩⟩
      simp -implicitDefEqProofs only [go_sem, Wk_block, Wk_drawnC, reduceCtorEq, Nat.reduceEqDiff, Nat.reduceAdd, Nat.reduceLeDiff, Nat.reduceLT, Nat.reduceMul, Nat.reduceSub, ↓reduceIte, Int.reduceLT, Int.reduceLE, Int.reduceNeg, Int.reduceAdd, Int.reduceEq, Nat.reduceBneDiff, Nat.reduceBEq, Int.reduceToNat, Int.reduceMul, Int.reduceSub, Int.reduceBEq, Int.reduceBNe, g0, g1, g2, g3, g8, g9, g10, g11, g12, ft]
      refine Wi_split (fun hv => ?_) (fun hv => ?_)
      · simp -implicitDefEqProofs only [go_sem, Wk_block, Wk_drawnC, reduceCtorEq, Nat.reduceEqDiff, Nat.reduceAdd, Nat.reduceLeDiff, Nat.reduceLT, Nat.reduceMul, Nat.reduceSub, ↓reduceIte, Int.reduceLT, Int.reduceLE, Int.reduceNeg, Int.reduceAdd, Int.reduceEq, Nat.reduceBneDiff, Nat.reduceBEq, Int.reduceToNat, Int.reduceMul, Int.reduceSub, Int.reduceBEq, Int.reduceBNe, g0, g1, g2, g3, g8, g9, g10, g11, g12, ft]
        refine Wl_of (Pins_run hA2 hd2 (by omega) hbn hn9) ?_
        rintro w s4 ⟨rfl, hA4, hF4, hX4⟩
        obtain ⟨q1, q2⟩ := Go.Sort.partialInsertionSort_holds (lt := lt) Go.Sort.swo_ltInt d2 a' b' (by omega) (by omega) hB2
        simp -implicitDefEqProofs only [go_sem, Wk_block, Wk_drawnC, reduceCtorEq, Nat.reduceEqDiff, Nat.reduceAdd, Nat.reduceLeDiff, Nat.reduceLT, Nat.reduceMul, Nat.reduceSub, ↓reduceIte, Int.reduceLT, Int.reduceLE, Int.reduceNeg, Int.reduceAdd, Int.reduceEq, Nat.reduceBneDiff, Nat.reduceBEq, Int.reduceToNat, Int.reduceMul, Int.reduceSub, Int.reduceBEq, Int.reduceBNe, ft]
        refine Wi_split (fun hv => ?_) (fun hv => ?_)
        · rw [Wk_ret, Wr_nil]
          exact ⟨rfl, .inr ⟨rfl, _, Go.Sort.permIn_trans _ _ _ _ _ hP2 q1, q2 hv, hA4, hF2.trans hF4, by omega⟩⟩
        · rw [Wk_skip, Wr_nil]
          exact ⟨rfl, .inl ⟨rfl, _, by simp only [Tr.get_set, Nat.reduceEqDiff, ↓reduceIte, Int.cast_ofNat_Int, g0], by simp only [Tr.get_set, Nat.reduceEqDiff, ↓reduceIte, Int.cast_ofNat_Int, g1], by simp only [Tr.get_set, Nat.reduceEqDiff, ↓reduceIte, Int.cast_ofNat_Int, g2], by simp only [Tr.get_set, Nat.reduceEqDiff, ↓reduceIte, Int.cast_ofNat_Int, g3], by simp only [Tr.get_set, Nat.reduceEqDiff, ↓reduceIte, Int.cast_ofNat_Int, g8], by simp only [Tr.get_set, Nat.reduceEqDiff, ↓reduceIte, Int.cast_ofNat_Int, g9], by simp only [Tr.get_set, Nat.reduceEqDiff, ↓reduceIte, Int.cast_ofNat_Int, g10], by simp only [Tr.get_set, Nat.reduceEqDiff, ↓reduceIte, Int.cast_ofNat_Int, g11], Go.Sort.permIn_trans _ _ _ _ _ hP2 q1, hA4, hF2.trans hF4, by omega⟩⟩
      · rw [Wk_skip, Wr_nil]
        exact ⟨rfl, .inl ⟨rfl, d2, by simp only [Tr.get_set, Nat.reduceEqDiff, ↓reduceIte, Int.cast_ofNat_Int, g0], by simp only [Tr.get_set, Nat.reduceEqDiff, ↓reduceIte, Int.cast_ofNat_Int, g1], by simp only [Tr.get_set, Nat.reduceEqDiff, ↓reduceIte, Int.cast_ofNat_Int, g2], by simp only [Tr.get_set, Nat.reduceEqDiff, ↓reduceIte, Int.cast_ofNat_Int, g3], by simp only [Tr.get_set, Nat.reduceEqDiff, ↓reduceIte, Int.cast_ofNat_Int, g8], by simp only [Tr.get_set, Nat.reduceEqDiff, ↓reduceIte, Int.cast_ofNat_Int, g9], by simp only [Tr.get_set, Nat.reduceEqDiff, ↓reduceIte, Int.cast_ofNat_Int, g10], by simp only [Tr.get_set, Nat.reduceEqDiff, ↓reduceIte, Int.cast_ofNat_Int, g11], hP2, hA2, hF2, hX⟩⟩
    rotate_left
    · rintro ts s4 ⟨d3, hP3, hS3, hA3, hF3, hX3⟩
      simp -implicitDefEqProofs only [go_sem, Wk_block, Wk_drawnC, reduceCtorEq, Nat.reduceEqDiff, Nat.reduceAdd, Nat.reduceLeDiff, Nat.reduceLT, Nat.reduceMul, Nat.reduceSub, ↓reduceIte, Int.reduceLT, Int.reduceLE, Int.reduceNeg, Int.reduceAdd, Int.reduceEq, Nat.reduceBneDiff, Nat.reduceBEq, Int.reduceToNat, Int.reduceMul, Int.reduceSub, Int.reduceBEq, Int.reduceBNe, ft]
      obtain ⟨q3, q4⟩ := hG _ hP3 hS3
      exact ⟨_, q3, q4, hA3, hF3, by omega⟩
    clear g0 g1 g2 g3 g8 g9 g10 g11 g12 hA2 hF2 hP2 hd2 hB2 hX hint d2 s3
    rintro ts s3 ⟨d3, g0, g1, g2, g3, g8, g9, g10, g11, hP3, hA3, hF3, hX⟩
    have hd3 : d3.size = n := by rw [hP3.1]; exact hd
    have hB3 : BelowI a' b' d3 := hB.perm (by omega) hP3
    have hp1 := Nat.lt_of_lt_of_le hp hF3.le
    have xv := idxA (p := p) (n := n) (i := v) (by omega)
    have av := ar_get (d := d3) (i := v) (by omega)
    rw [Wr_sq, Wk_seq]
    refine Wk_cut2 (.exit 1) (fun ts s' => ts.get 0 = some (.slice p 0 n n true) ∧ ts.get 1 = some (.int .i64 (a' : Int)) ∧ ts.get 2 = some (.int .i64 (b' : Int)) ∧ ts.get 3 = some (.int .i64 lim') ∧ ts.get 8 = some (.bool wb) ∧ ts.get 9 = some (.bool wp) ∧ ts.get 10 = some (.int .i64 ((b' - a' : Nat) : Int)) ∧ ts.get 11 = some (.int .i64 (v : Int)) ∧ s' = s3) (fun ts s' => ∃ (m : Nat) (d4 : Array Int), (∃ q, Go.Sort.partitionEqual lt d3 a' b' v = (m, d4) ∧ q = m) ∧ 0 < a' ∧ lt d3[a' - 1]! d3[v]! = false ∧ ts.get 0 = some (.slice p 0 n n true) ∧ ts.get 1 = some (.int .i64 (m : Int)) ∧ ts.get 2 = some (.int .i64 (b' : Int)) ∧ ts.get 3 = some (.int .i64 lim') ∧ ts.get 8 = some (.bool wb) ∧ ts.get 9 = some (.bool wp) ∧ Arr s' p d4 ∧ FrX p s s' ∧ s'.next = s3.next) ?_ ?_ ?_
    · by_cases ha0 : 0 < a'
      · have e1 : decide ((a' : Int) > 0) = true := decide_eq_true (by omega)
        have e2 : decide (0 < (a' : Int)) = true := decide_eq_true (by omega)
        have e3 : decide (0 < a') = true := decide_eq_true ha0
        obtain ⟨y, hy⟩ : ∃ y, a' = y + 1 := ⟨a' - 1, by omega⟩
        have wy := pred_of hy (by omega)
        have xy := idxA (p := p) (n := n) (i := y) (by omega)
        have ay := ar_get (d := d3) (i := y) (by omega)
        rw [show a' - 1 = y by omega]
        cases hl : lt d3[y]! d3[v]!
        · simp -implicitDefEqProofs only [go_sem, Wk_block, Wk_drawnC, reduceCtorEq, Nat.reduceEqDiff, Nat.reduceAdd, Nat.reduceLeDiff, Nat.reduceLT, Nat.reduceMul, Nat.reduceSub, ↓reduceIte, Int.reduceLT, Int.reduceLE, Int.reduceNeg, Int.reduceAdd, Int.reduceEq, Nat.reduceBneDiff, Nat.reduceBEq, Int.reduceToNat, Int.reduceMul, Int.reduceSub, Int.reduceBEq, Int.reduceBNe, g0, g1, g2, g3, g8, g9, g10, g11, e1, e2, e3, wy, xy, xv, ay, av, hA3, Wl_eq (less_run _ _ _), hl, Bool.not_false, Bool.not_true, ft]
          refine Wl_of (PartEq_run hA3 hd3 hv1 hv2 hbn hn9) ?_
          rintro w s4 ⟨rfl, hA4, hF4, hX4⟩
          simp -implicitDefEqProofs only [go_sem, Wk_block, Wk_drawnC, reduceCtorEq, Nat.reduceEqDiff, Nat.reduceAdd, Nat.reduceLeDiff, Nat.reduceLT, Nat.reduceMul, Nat.reduceSub, ↓reduceIte, Int.reduceLT, Int.reduceLE, Int.reduceNeg, Int.reduceAdd, Int.reduceEq, Nat.reduceBneDiff, Nat.reduceBEq, Int.reduceToNat, Int.reduceMul, Int.reduceSub, Int.reduceBEq, Int.reduceBNe, g0, g1, g2, g3, g8, g9, g10, g11, ft]
          rw [Wr_nil]
          exact ⟨rfl, .inr ⟨rfl, (Go.Sort.partitionEqual lt d3 a' b' v).1, (Go.Sort.partitionEqual lt d3 a' b' v).2, ⟨_, rfl, rfl⟩, ha0, by simp only [Tr.get_set, Nat.reduceEqDiff, ↓reduceIte, Int.cast_ofNat_Int, g0], by simp only [Tr.get_set, Nat.reduceEqDiff, ↓reduceIte, Int.cast_ofNat_Int], by simp only [Tr.get_set, Nat.reduceEqDiff, ↓reduceIte, Int.cast_ofNat_Int, g2], by simp only [Tr.get_set, Nat.reduceEqDiff, ↓reduceIte, Int.cast_ofNat_Int, g3], by simp only [Tr.get_set, Nat.reduceEqDiff, ↓reduceIte, Int.cast_ofNat_Int, g8], by simp only [Tr.get_set, Nat.reduceEqDiff, ↓reduceIte, Int.cast_ofNat_Int, g9], hA4, hF3.trans hF4, hX4⟩⟩
        · simp -implicitDefEqProofs only [go_sem, Wk_block, Wk_drawnC, reduceCtorEq, Nat.reduceEqDiff, Nat.reduceAdd, Nat.reduceLeDiff, Nat.reduceLT, Nat.reduceMul, Nat.reduceSub, ↓reduceIte, Int.reduceLT, Int.reduceLE, Int.reduceNeg, Int.reduceAdd, Int.reduceEq, Nat.reduceBneDiff, Nat.reduceBEq, Int.reduceToNat, Int.reduceMul, Int.reduceSub, Int.reduceBEq, Int.reduceBNe, g0, g1, g2, g3, g8, g9, g10, g11, e1, e2, e3, wy, xy, xv, ay, av, hA3, Wl_eq (less_run _ _ _), hl, Bool.not_false, Bool.not_true, ft]
          rw [Wr_nil]
          exact ⟨rfl, .inl ⟨rfl, by simp only [Tr.get_set, Nat.reduceEqDiff, ↓reduceIte, Int.cast_ofNat_Int, g0], by simp only [Tr.get_set, Nat.reduceEqDiff, ↓reduceIte, Int.cast_ofNat_Int, g1], by simp only [Tr.get_set, Nat.reduceEqDiff, ↓reduceIte, Int.cast_ofNat_Int, g2], by simp only [Tr.get_set, Nat.reduceEqDiff, ↓reduceIte, Int.cast_ofNat_Int, g3], by simp only [Tr.get_set, Nat.reduceEqDiff, ↓reduceIte, Int.cast_ofNat_Int, g8], by simp only [Tr.get_set, Nat.reduceEqDiff, ↓reduceIte, Int.cast_ofNat_Int, g9], by simp only [Tr.get_set, Nat.reduceEqDiff, ↓reduceIte, Int.cast_ofNat_Int, g10], by simp only [Tr.get_set, Nat.reduceEqDiff, ↓reduceIte, Int.cast_ofNat_Int, g11], rfl⟩⟩
      · have e1 : decide ((a' : Int) > 0) = false := decide_eq_false (by omega)
        have e2 : decide (0 < (a' : Int)) = false := decide_eq_false (by omega)
        have e3 : decide (0 < a') = false := decide_eq_false ha0
        simp -implicitDefEqProofs only [go_sem, Wk_block, Wk_drawnC, reduceCtorEq, Nat.reduceEqDiff, Nat.reduceAdd, Nat.reduceLeDiff, Nat.reduceLT, Nat.reduceMul, Nat.reduceSub, ↓reduceIte, Int.reduceLT, Int.reduceLE, Int.reduceNeg, Int.reduceAdd, Int.reduceEq, Nat.reduceBneDiff, Nat.reduceBEq, Int.reduceToNat, Int.reduceMul, Int.reduceSub, Int.reduceBEq, Int.reduceBNe, g0, g1, g2, g3, g8, g9, g10, g11, e1, e2, e3, ft]
        rw [Wr_nil]
        exact ⟨rfl, .inl ⟨rfl, by simp only [Tr.get_set, Nat.reduceEqDiff, ↓reduceIte, Int.cast_ofNat_Int, g0], by simp only [Tr.get_set, Nat.reduceEqDiff, ↓reduceIte, Int.cast_ofNat_Int, g1], by simp only [Tr.get_set, Nat.reduceEqDiff, ↓reduceIte, Int.cast_ofNat_Int, g2], by simp only [Tr.get_set, Nat.reduceEqDiff, ↓reduceIte, Int.cast_ofNat_Int, g3], by simp only [Tr.get_set, Nat.reduceEqDiff, ↓reduceIte, Int.cast_ofNat_Int, g8], by simp only [Tr.get_set, Nat.reduceEqDiff, ↓reduceIte, Int.cast_ofNat_Int, g9], by simp only [Tr.get_set, Nat.reduceEqDiff, ↓reduceIte, Int.cast_ofNat_Int, g10], by simp only [Tr.get_set, Nat.reduceEqDiff, ↓reduceIte, Int.cast_ofNat_Int, g11], rfl⟩⟩
    rotate_left
    · clear g0 g1 g2 g3 g8 g9 g10 g11
      rintro ts s4 ⟨m, d4, ⟨_, hx, _⟩, ha0, hl, g0, g1, g2, g3, g8, g9, hA4, hF4, hX4⟩
      obtain ⟨r1, r2, r3, r4, r5⟩ := Go.Sort.round_eq (lt := lt) Go.Sort.swo_ltInt (Go.Sort.partitionEqual_holds (lt := lt)) ha0 hv1 hv2 (by omega) hB3 hl hx
      simp -implicitDefEqProofs only [go_sem, Wk_block, Wk_drawnC, reduceCtorEq, Nat.reduceEqDiff, Nat.reduceAdd, Nat.reduceLeDiff, Nat.reduceLT, Nat.reduceMul, Nat.reduceSub, ↓reduceIte, Int.reduceLT, Int.reduceLE, Int.reduceNeg, Int.reduceAdd, Int.reduceEq, Nat.reduceBneDiff, Nat.reduceBEq, Int.reduceToNat, Int.reduceMul, Int.reduceSub, Int.reduceBEq, Int.reduceBNe, ft]
      exact IH (b' - m) _ _ (by omega) ⟨m, b', lim', wb, wp, d4, rfl, by omega, r2, hbn, g0, g1, g2, g3, g8, g9, hA4, by rw [r3]; exact hd3, r4, fun d' h1 h2 => by
        obtain ⟨t1, t2⟩ := r5 d' h1 h2
        exact hG d' (Go.Sort.permIn_trans _ _ _ _ _ hP3 t1) t2, hF4, by omega⟩
    clear g0 g1 g2 g3 g8 g9 g10 g11
    rintro ts _ ⟨g0, g1, g2, g3, g8, g9, g10, g11, rfl⟩
    simp -implicitDefEqProofs only [go_sem, Wk_block, Wk_drawnC, reduceCtorEq, Nat.reduceEqDiff, Nat.reduceAdd, Nat.reduceLeDiff, Nat.reduceLT, Nat.reduceMul, Nat.reduceSub, ↓reduceIte, Int.reduceLT, Int.reduceLE, Int.reduceNeg, Int.reduceAdd, Int.reduceEq, Nat.reduceBneDiff, Nat.reduceBEq, Int.reduceToNat, Int.reduceMul, Int.reduceSub, Int.reduceBEq, Int.reduceBNe, g0, g1, g2, g3, g8, g9, g10, g11, ft]
    refine Wl_of (Part_run hA3 hd3 hv1 hv2 hbn hn9) ?_
    rintro w s4 ⟨ap, rfl, hA4, hF4, hX4⟩
    obtain ⟨m, ap2, d4, hx⟩ : ∃ m ap2 d4, Go.Sort.partition lt d3 a' b' v = (m, ap2, d4) := ⟨_, _, _, rfl⟩
    rw [hx] at hA4 ⊢
    dsimp only at hA4 ⊢
    obtain ⟨r1, r2, r3, r4, r5, r6, r7⟩ := Go.Sort.round_part (lt := lt) Go.Sort.swo_ltInt (Go.Sort.partition_holds (lt := lt)) hv1 hv2 (by omega) hB3 hx
    have hd4 : d4.size = n := by rw [r3]; exact hd3
    have w1 := sub_in (i := m) (j := a') r1 (by omega)
    have w2 := sub_in (i := b') (j := m) (by omega) (by omega)
    have w3 := succ_in (j := m) (by omega)
    have w4 : IntKind.i64.wrap (((b' - a' : Nat) : Int).tdiv 8) = (((b' - a') / 8 : Nat) : Int) := quo_in (k := 8) (by omega)
    have hF5 := hF3.trans hF4
    have hp4 := Nat.lt_of_lt_of_le hp hF5.le
    by_cases hlr : m - a' < b' - m
    · have c1 : decide (m - a' < b' - m) = true := decide_eq_true hlr
      simp -implicitDefEqProofs only [go_sem, Wk_block, Wk_drawnC, reduceCtorEq, Nat.reduceEqDiff, Nat.reduceAdd, Nat.reduceLeDiff, Nat.reduceLT, Nat.reduceMul, Nat.reduceSub, ↓reduceIte, Int.reduceLT, Int.reduceLE, Int.reduceNeg, Int.reduceAdd, Int.reduceEq, Nat.reduceBneDiff, Nat.reduceBEq, Int.reduceToNat, Int.reduceMul, Int.reduceSub, Int.reduceBEq, Int.reduceBNe, g0, g1, g2, g3, g8, g9, g10, g11, w1, w2, w4, c1, ft]
      refine Wl_of (Pdq_run N (by omega) hA4 hd4 r1 (by omega) hn9 hp4 r4) ?_
      rintro w s5 ⟨d5, k1, k2, hA5, hF6, hX6⟩
      obtain ⟨j1, j2⟩ := r6 d5 k1 k2
      simp -implicitDefEqProofs only [go_sem, Wk_block, Wk_drawnC, reduceCtorEq, Nat.reduceEqDiff, Nat.reduceAdd, Nat.reduceLeDiff, Nat.reduceLT, Nat.reduceMul, Nat.reduceSub, ↓reduceIte, Int.reduceLT, Int.reduceLE, Int.reduceNeg, Int.reduceAdd, Int.reduceEq, Nat.reduceBneDiff, Nat.reduceBEq, Int.reduceToNat, Int.reduceMul, Int.reduceSub, Int.reduceBEq, Int.reduceBNe, g0, g1, g2, g3, g8, g9, g10, g11, w3, ft]
      exact IH (b' - (m + 1)) _ _ (by omega) ⟨m + 1, b', lim', decide ((b' - a') / 8 ≤ m - a'), ap, d5, rfl, by omega, by omega, hbn, by simp only [Tr.get_set, Nat.reduceEqDiff, ↓reduceIte, Int.cast_ofNat_Int, g0], by simp only [Tr.get_set, Nat.reduceEqDiff, ↓reduceIte, Int.cast_ofNat_Int], by simp only [Tr.get_set, Nat.reduceEqDiff, ↓reduceIte, Int.cast_ofNat_Int, g2], by simp only [Tr.get_set, Nat.reduceEqDiff, ↓reduceIte, Int.cast_ofNat_Int, g3], by simp only [Tr.get_set, Nat.reduceEqDiff, ↓reduceIte, Int.cast_ofNat_Int], by simp only [Tr.get_set, Nat.reduceEqDiff, ↓reduceIte, Int.cast_ofNat_Int], hA5, by rw [k1.1]; exact hd4, j1, fun d' h1 h2 => by
        obtain ⟨t1, t2⟩ := j2 d' h1 h2
        exact hG d' (Go.Sort.permIn_trans _ _ _ _ _ hP3 t1) t2, hF5.trans hF6, by omega⟩
    · have c1 : decide (m - a' < b' - m) = false := decide_eq_false hlr
      simp -implicitDefEqProofs only [go_sem, Wk_block, Wk_drawnC, reduceCtorEq, Nat.reduceEqDiff, Nat.reduceAdd, Nat.reduceLeDiff, Nat.reduceLT, Nat.reduceMul, Nat.reduceSub, ↓reduceIte, Int.reduceLT, Int.reduceLE, Int.reduceNeg, Int.reduceAdd, Int.reduceEq, Nat.reduceBneDiff, Nat.reduceBEq, Int.reduceToNat, Int.reduceMul, Int.reduceSub, Int.reduceBEq, Int.reduceBNe, g0, g1, g2, g3, g8, g9, g10, g11, w1, w2, w3, w4, c1, ft]
      refine Wl_of (Pdq_run N (a := m + 1) (by omega) hA4 hd4 (by omega) hbn hn9 hp4 r5) ?_
      rintro w s5 ⟨d5, k1, k2, hA5, hF6, hX6⟩
      obtain ⟨j1, j2⟩ := r7 d5 k1 k2
      simp -implicitDefEqProofs only [go_sem, Wk_block, Wk_drawnC, reduceCtorEq, Nat.reduceEqDiff, Nat.reduceAdd, Nat.reduceLeDiff, Nat.reduceLT, Nat.reduceMul, Nat.reduceSub, ↓reduceIte, Int.reduceLT, Int.reduceLE, Int.reduceNeg, Int.reduceAdd, Int.reduceEq, Nat.reduceBneDiff, Nat.reduceBEq, Int.reduceToNat, Int.reduceMul, Int.reduceSub, Int.reduceBEq, Int.reduceBNe, g0, g1, g2, g3, g8, g9, g10, g11, ft]
      exact IH (m - a') _ _ (by omega) ⟨a', m, lim', decide ((b' - a') / 8 ≤ b' - m), ap, d5, rfl, by omega, r1, by omega, by simp only [Tr.get_set, Nat.reduceEqDiff, ↓reduceIte, Int.cast_ofNat_Int, g0], by simp only [Tr.get_set, Nat.reduceEqDiff, ↓reduceIte, Int.cast_ofNat_Int, g1], by simp only [Tr.get_set, Nat.reduceEqDiff, ↓reduceIte, Int.cast_ofNat_Int], by simp only [Tr.get_set, Nat.reduceEqDiff, ↓reduceIte, Int.cast_ofNat_Int, g3], by simp only [Tr.get_set, Nat.reduceEqDiff, ↓reduceIte, Int.cast_ofNat_Int], by simp only [Tr.get_set, Nat.reduceEqDiff, ↓reduceIte, Int.cast_ofNat_Int], hA5, by rw [k1.1]; exact hd4, j1, fun d' h1 h2 => by
        obtain ⟨t1, t2⟩ := j2 d' h1 h2
        exact hG d' (Go.Sort.permIn_trans _ _ _ _ _ hP3 t1) t2, hF5.trans hF6, by omega⟩
theorem SortU_run (X : List Int) (hX : X.length < 1000000) {s : St} {p : Nat} (hp : s.get p = some (.cells (X.map uI) true false 1)) (hpl : p < s.next) :
    Wf mm 22 [.slice p 0 X.length X.length true] s fun w s' => (∃ Y : List Int, Y.Perm X ∧ Y.Pairwise (· ≤ ·) ∧ s'.get p = some (.cells (Y.map uI) true false 1)) ∧ FrX p s s' ∧ s'.next ≤ s.next + 2 * X.length := by
  refine Wf_enter ft22 (sm (by decide)) (by rfl) ?_
  have ft : (false == true) = false := rfl
  have wn : IntKind.u64.wrap (X.length : Int) = (X.length : Int) := u64_in (by omega) (by omega)
  obtain ⟨r, _, _, hr⟩ := Len_run (n := X.length) (by omega) s
  simp -implicitDefEqProofs only [go_sem, Wk_block, Wk_drawnC, reduceCtorEq, Nat.reduceEqDiff, Nat.reduceAdd, Nat.reduceLeDiff, Nat.reduceLT, Nat.reduceMul, Nat.reduceSub, ↓reduceIte, Int.reduceLT, Int.reduceLE, Int.reduceNeg, Int.reduceAdd, Int.reduceEq, Nat.reduceBneDiff, Nat.reduceBEq, Int.reduceToNat, Int.reduceMul, Int.reduceSub, Int.reduceBEq, Int.reduceBNe, fd22, wn, Wl_eq hr, ft]
  refine Wl_of (Pdq_run (X.length + 1) (d0 := X.toArray) (a := 0) (b := X.length) (by omega) hp (by simp) (by omega) (by omega) hX hpl (.inl rfl)) ?_
  rintro w s1 ⟨d, hP, hS, hA, hF, hN⟩
  simp -implicitDefEqProofs only [go_sem, Wk_block, Wk_drawnC, reduceCtorEq, Nat.reduceEqDiff, Nat.reduceAdd, Nat.reduceLeDiff, Nat.reduceLT, Nat.reduceMul, Nat.reduceSub, ↓reduceIte, Int.reduceLT, Int.reduceLE, Int.reduceNeg, Int.reduceAdd, Int.reduceEq, Nat.reduceBneDiff, Nat.reduceBEq, Int.reduceToNat, Int.reduceMul, Int.reduceSub, Int.reduceBEq, Int.reduceBNe, ft]
  have hsz : d.size = X.length := by rw [hP.1]; simp
  refine ⟨⟨d.toList, ?_, ?_, hA⟩, hF, by omega⟩
  · have h := hP.2.2
    have e1 : (d.extract 0 X.length).toList = d.toList := by rw [← hsz]; simp
    have e2 : (X.toArray.extract 0 X.length).toList = X := by simp
    rwa [e1, e2] at h
  · rw [List.pairwise_iff_getElem]
    intro i j hi hj hij
    have h := hS i j (by omega) hij (by simpa [hsz] using hj)
    simp only [Array.length_toList] at hi hj
    rw [getElem!_pos d i (by omega), getElem!_pos d j (by omega)] at h
    have h2 : ¬ d[j] < d[i] := of_decide_eq_false h
    simp only [Array.getElem_toList]
    omega
set_option maxRecDepth 100000 in
theorem SortU_nil (s : St) : mm.L.call 22 [.nilSlice] s = some (.tup [], s) := call_of_eng (fuel := 60) (by kernel_rfl)
end Go.Proofs.Ytjejgnbdlfkenaa.Base
namespace Go.Proofs.Ytjejgnbdlfkenaa.Base
open D
set_option linter.unusedSimpArgs false
set_option linter.unusedVariables false
set_option maxRecDepth 10000

def insU (x : Int) : List Int → List Int
  | [] => [x]
  | y :: r => if x ≤ y then x :: y :: r else y :: insU x r
def isU : List Int → List Int
  | [] => []
  | x :: r => insU x (isU r)
theorem insU_perm (x : Int) : ∀ l, (insU x l).Perm (x :: l)
  | [] => List.Perm.refl _
  | y :: r => by
    unfold insU
    split
    · exact List.Perm.refl _
    · exact ((insU_perm x r).cons y).trans (List.Perm.swap x y r)
theorem isU_perm : ∀ l, (isU l).Perm l
  | [] => List.Perm.refl _
  | x :: r => (insU_perm x (isU r)).trans ((isU_perm r).cons x)
theorem insU_pair (x : Int) : ∀ l, l.Pairwise (· ≤ ·) → (insU x l).Pairwise (· ≤ ·)
  | [], _ => List.pairwise_singleton _ _
  | y :: r, h => by
    have h' := List.pairwise_cons.1 h
    unfold insU
    split
    · rename_i hxy
      refine List.pairwise_cons.2 ⟨fun a ha => ?_, h⟩
      rcases List.mem_cons.1 ha with rfl | ha
      · exact hxy
      · exact Int.le_trans hxy (h'.1 a ha)
    · rename_i hxy
      refine List.pairwise_cons.2 ⟨fun a ha => ?_, insU_pair x r h'.2⟩
      rcases List.mem_cons.1 ((insU_perm x r).mem_iff.1 ha) with rfl | ha
      · omega
      · exact h'.1 a ha
theorem isU_pair : ∀ l, (isU l).Pairwise (· ≤ ·)
  | [] => List.Pairwise.nil
  | x :: r => insU_pair x _ (isU_pair r)
def keysS (b : List (Int × Lb)) : List Int := isU (b.map (·.1))
def spansV (span : Int) (l : List Sn) : List Lb := ((keysS (bestOf span l)).reverse).map (gB (bestOf span l))
theorem keysS_perm (b : List (Int × Lb)) : (keysS b).Perm (b.map (·.1)) := isU_perm _
theorem keysS_pair (b : List (Int × Lb)) : (keysS b).Pairwise (· ≤ ·) := isU_pair _
theorem keysS_eq {b : List (Int × Lb)} {Y : List Int} (h : Y.Perm (b.map (·.1))) (hs : Y.Pairwise (· ≤ ·)) : Y = keysS b :=
  List.Perm.eq_of_pairwise (le := (· ≤ ·)) (fun a b _ _ h1 h2 => Int.le_antisymm h1 h2) hs (keysS_pair b) (h.trans (keysS_perm b).symm)

/-- A slice that append made, of numbers; of labels. -/
def OutU (s : St) (N : Nat) (w : AV) (L : List Int) : Prop := (w = .nilSlice ∧ L = []) ∨ ∃ p, w = .slice p 0 L.length L.length true ∧ 0 < L.length ∧ N ≤ p ∧ p < s.next ∧ s.get p = some (.cells (L.map uI) true false 1)
def OutL (s : St) (N : Nat) (w : AV) (L : List Lb) : Prop := (w = .nilSlice ∧ L = []) ∨ ∃ p, w = .slice p 0 L.length L.length true ∧ 0 < L.length ∧ N ≤ p ∧ p < s.next ∧ s.get p = some (.cells (L.flatMap Lb.enc) true false 2)
theorem OutU.cell {s : St} {N : Nat} {w : AV} {L : List Int} (h : OutU s N w L) : w.cell = true ∧ w.cells = [w] := by
  rcases h with ⟨rfl, _⟩ | ⟨p, rfl, _⟩ <;> exact ⟨rfl, rfl⟩
theorem OutL.cell {s : St} {N : Nat} {w : AV} {L : List Lb} (h : OutL s N w L) : w.cell = true ∧ w.cells = [w] := by
  rcases h with ⟨rfl, _⟩ | ⟨p, rfl, _⟩ <;> exact ⟨rfl, rfl⟩
theorem OutU.new {s : St} {N : Nat} {w : AV} {L : List Int} (h : OutU s N w L) (o : AObj) : OutU (s.new o) N w L := by
  rcases h with h | ⟨p, h1, h2, h3, h4, h5⟩
  · exact .inl h
  · exact .inr ⟨p, h1, h2, h3, by simp only [St.next_new]; omega, by rw [St.get_new, if_neg (by omega)]; exact h5⟩
theorem OutL.new {s : St} {N : Nat} {w : AV} {L : List Lb} (h : OutL s N w L) (o : AObj) : OutL (s.new o) N w L := by
  rcases h with h | ⟨p, h1, h2, h3, h4, h5⟩
  · exact .inl h
  · exact .inr ⟨p, h1, h2, h3, by simp only [St.next_new]; omega, by rw [St.get_new, if_neg (by omega)]; exact h5⟩
theorem OutU.put {s : St} {N : Nat} {w : AV} {L : List Int} (h : OutU s N w L) {b : Nat} (hb : b < N) (o : AObj) : OutU (s.put b o) N w L := by
  rcases h with h | ⟨p, h1, h2, h3, h4, h5⟩
  · exact .inl h
  · exact .inr ⟨p, h1, h2, h3, h4, by rw [St.get_put, if_neg (by omega)]; exact h5⟩
theorem OutL.put {s : St} {N : Nat} {w : AV} {L : List Lb} (h : OutL s N w L) {b : Nat} (hb : b < N) (o : AObj) : OutL (s.put b o) N w L := by
  rcases h with h | ⟨p, h1, h2, h3, h4, h5⟩
  · exact .inl h
  · exact .inr ⟨p, h1, h2, h3, h4, by rw [St.get_put, if_neg (by omega)]; exact h5⟩
theorem OutU.push {s : St} {N : Nat} {w : AV} {L : List Int} (h : OutU s N w L) (hN : N ≤ s.next) (hl : L.length < 1000000) (x : Int) :
    ∃ w' s', appendA 1 4 s w 1 [.int .u32 x] = some (w', s') ∧ OutU s' N w' (L ++ [x]) ∧ s'.next = s.next + 1 ∧ ∀ b, b < N → s'.get b = s.get b := by
  rcases h with ⟨rfl, rfl⟩ | ⟨p, rfl, h1, h2, h3, h4⟩
  · refine ⟨.slice s.next 0 1 1 true, s.new (.cells [.int .u32 x] true false 1), rfl, .inr ⟨s.next, rfl, by simp, hN, Nat.lt_succ_self _, ?_⟩, rfl, fun b hb => ?_⟩
    · rw [St.get_new, if_pos rfl]; rfl
    · rw [St.get_new, if_neg (by omega)]
  · refine ⟨.slice s.next 0 (L.length + 1) (L.length + 1) true, (s.drop p).new (.cells (L.map uI ++ [.int .u32 x]) true false 1), ?_, .inr ⟨s.next, by simp, by simp, hN, Nat.lt_succ_self _, ?_⟩, rfl, fun b hb => ?_⟩
    · have hlo : loadA s p 0 (L.length * 1) = some (L.map uI) := by
        unfold loadA
        rw [h4]
        simp [List.take_of_length_le]
      unfold appendA
      simp only [hlo, h4]
      rw [if_neg (by omega), if_pos (by omega)]
      simp only [List.length_map, Nat.mul_one, if_true, allCell]
      rfl
    · rw [St.get_new, if_pos (by simp)]
      simp [uI]
    · rw [St.get_new, if_neg (by simp; omega), St.get_drop, if_neg (by omega)]
theorem lflat_len (L : List Lb) : (L.flatMap Lb.enc).length = L.length * 2 := by
  induction L with
  | nil => rfl
  | cons a l ih => rw [List.flatMap_cons, List.length_append, ih, List.length_cons]; simp [Lb.enc]; omega
theorem OutL.push {s : St} {N : Nat} {w : AV} {L : List Lb} (h : OutL s N w L) (hN : N ≤ s.next) (hl : L.length < 1000000) (x : Lb) :
    ∃ w' s', appendA 2 8 s w 1 [.int .u32 x.e, .int .u32 x.q] = some (w', s') ∧ OutL s' N w' (L ++ [x]) ∧ s'.next = s.next + 1 ∧ ∀ b, b < N → s'.get b = s.get b := by
  rcases h with ⟨rfl, rfl⟩ | ⟨p, rfl, h1, h2, h3, h4⟩
  · refine ⟨.slice s.next 0 1 1 true, s.new (.cells [.int .u32 x.e, .int .u32 x.q] true false 2), rfl, .inr ⟨s.next, rfl, by simp, hN, Nat.lt_succ_self _, ?_⟩, rfl, fun b hb => ?_⟩
    · rw [St.get_new, if_pos rfl]; rfl
    · rw [St.get_new, if_neg (by omega)]
  · have hf := lflat_len L
    refine ⟨.slice s.next 0 (L.length + 1) (L.length + 1) true, (s.drop p).new (.cells (L.flatMap Lb.enc ++ [.int .u32 x.e, .int .u32 x.q]) true false 2), ?_, .inr ⟨s.next, by simp, by simp, hN, Nat.lt_succ_self _, ?_⟩, rfl, fun b hb => ?_⟩
    · have hlo : loadA s p 0 (L.length * 2) = some (L.flatMap Lb.enc) := by
        unfold loadA
        rw [h4]
        simp only [hf, Nat.zero_add, Nat.le_refl, if_true, List.drop_zero]
        rw [List.take_of_length_le (by omega)]
      unfold appendA
      simp only [hlo, h4]
      rw [if_neg (by omega), if_pos (by omega)]
      simp only [hf, if_true, allCell]
      rfl
    · rw [St.get_new, if_pos (by simp)]
      simp [Lb.enc]
    · rw [St.get_new, if_neg (by simp; omega), St.get_drop, if_neg (by omega)]

theorem encF_mem : ∀ {b : List (Int × Lb)} {i : Nat} {e : AV × AV × Nat}, e ∈ encF i b → ∃ k, ∃ h : k < b.length, e = (.int .u32 b[k].1, .agg b[k].2.enc, i + k)
  | [], _, _, h => by cases h
  | x :: r, i, e, h => by
    rcases List.mem_cons.1 h with rfl | h
    · exact ⟨0, by simp, rfl⟩
    · obtain ⟨k, hk, he⟩ := encF_mem h
      exact ⟨k + 1, by simpa using hk, by rw [he]; simp; omega⟩
theorem encF_get : ∀ {b : List (Int × Lb)} {i k : Nat} (h : k < b.length), (AV.int .u32 b[k].1, AV.agg b[k].2.enc, i + k) ∈ encF i b
  | x :: r, i, 0, _ => List.mem_cons_self ..
  | x :: r, i, k + 1, h => by
    have := encF_get (b := r) (i := i + 1) (k := k) (by simpa using h)
    refine List.mem_cons_of_mem _ ?_
    rw [show i + (k + 1) = i + 1 + k by omega]
    exact this
theorem encF_find : ∀ {b : List (Int × Lb)} {i k : Nat} (h : k < b.length), (encF i b).find? (fun e => e.2.2 == i + k) = some (AV.int .u32 b[k].1, AV.agg b[k].2.enc, i + k)
  | x :: r, i, 0, _ => by rw [encF, List.find?_cons_of_pos (by simp)]; rfl
  | x :: r, i, k + 1, h => by
    have := encF_find (b := r) (i := i + 1) (k := k) (by simpa using h)
    rw [encF, List.find?_cons_of_neg (by simp)]
    rw [show i + (k + 1) = i + 1 + k by omega]
    exact this

/-- What a loop over a map has gathered. -/
def keyAt (b : List (Int × Lb)) (i : Nat) : Int := (b.getD i (0, ⟨0, 0⟩)).1
theorem all_seen {b : List (Int × Lb)} {seen : List Nat} (hn : seen.Nodup) (hlt : ∀ i ∈ seen, i < b.length) (hall : ∀ i, i < b.length → i ∈ seen) : (seen.map (keyAt b)).Perm (b.map (·.1)) := by
  have hp : seen.Perm (List.range b.length) := by
    rw [List.perm_ext_iff_of_nodup hn List.nodup_range]
    intro a
    rw [List.mem_range]
    exact ⟨hlt a, hall a⟩
  have := hp.map (keyAt b)
  refine this.trans ?_
  have e : (List.range b.length).map (keyAt b) = b.map (·.1) := by
    apply List.ext_getElem
    · simp
    · intro i h1 h2
      simp only [List.getElem_map, List.getElem_range, keyAt]
      simp at h1
      rw [List.getD_eq_getElem?_getD, List.getElem?_eq_getElem h1]; rfl
  rw [e]

theorem nodup_len' {α : Type} [DecidableEq α] : ∀ (a b : List α), a.Nodup → (∀ x ∈ a, x ∈ b) → a.length ≤ b.length
  | [], b, _, _ => by simp
  | x :: a, b, hn, hs => by
    have hx := hs x (List.mem_cons_self ..)
    rw [List.nodup_cons] at hn
    have := nodup_len' a (b.erase x) hn.2 fun y hy => (List.mem_erase_of_ne (fun e : y = x => hn.1 (by rw [← e]; exact hy))).2 (hs y (List.mem_cons_of_mem _ hy))
    rw [List.length_erase_of_mem hx] at this
    have hb : 0 < b.length := List.length_pos_of_mem hx
    simp
    omega

theorem pB_len (b : List (Int × Lb)) (n : Int) (v : Lb) : (pB b n v).length ≤ b.length + 1 := by
  unfold pB
  split
  · rw [List.length_set]; omega
  · simp
theorem best_len (span : Int) (l : List Sn) : (bestOf span l).length ≤ l.length := by
  have h : ∀ (l : List Sn) (b : List (Int × Lb)), (l.foldl (stepB span) b).length ≤ b.length + l.length := by
    intro l
    induction l with
    | nil => intro b; simp
    | cons x r ih => intro b; rw [List.foldl_cons, List.length_cons]; have := ih (stepB span b x); have := pB_len b (x.t.tdiv span) (mxL (gB b (x.t.tdiv span)) x.l); unfold stepB at *; omega
  have := h l []
  unfold bestOf
  simpa using this
/-- The loop that goes through numbers from behind. -/
theorem Back_run (Y : List Int) (hY : Y.length < 1000000) {v : AV} {r p : Nat} {s : St} (Inv : Nat → St → Prop)
    (hI : ∀ j s1, Inv j s1 → Lies s1 p [v] ∧ Rd s1 v 1 (Y.map fun x => [uI x]))
    (hrd : ∀ j (hj : j < Y.length) s1, s.next ≤ s1.next → Inv j s1 → Round mm r [.int .i64 ((Y.length - 1 - j : Nat) : Int), uI (Y[Y.length - 1 - j]'(by omega))] s1 fun b s2 => b = true ∧ s1.next ≤ s2.next ∧ Inv (j + 1) s2)
    (h0 : Inv 0 s) : Wf mm 31 [.yld r, .ptr p 0] s fun _ s' => s.next ≤ s'.next ∧ Inv Y.length s' := by
  refine Wf_enter ft31 (sm (by decide)) (by rfl) ?_
  obtain ⟨hp, hv⟩ := hI 0 s h0
  unfold Lies at hp
  have hl := hv.len
  simp only [List.length_map] at hl
  simp -implicitDefEqProofs only [go_sem, Wk_block, Wk_drawnC, reduceCtorEq, Nat.reduceEqDiff, Nat.reduceAdd, Nat.reduceLeDiff, Nat.reduceLT, Nat.reduceMul, Nat.reduceSub, ↓reduceIte, Int.reduceLT, Int.reduceLE, Int.reduceNeg, Int.reduceAdd, Int.reduceEq, Nat.reduceBneDiff, Nat.reduceBEq, Int.reduceToNat, Int.reduceMul, Int.reduceSub, Int.reduceBEq, Int.reduceBNe, fd31, hp, hl]
  refine loop_ind (fun m ts s' => ∃ j : Nat, m = Y.length - j ∧ j ≤ Y.length ∧ ts.get 3 = some (.int .i64 ((Y.length : Int) - 1 - (j : Int))) ∧ ts.get 0 = some (.yld r) ∧ ts.get 1 = some (.ptr p 0) ∧ s.next ≤ s'.next ∧ Inv j s') ?_ (n := Y.length)
    ⟨0, rfl, by omega, by simp only [go_sem, Wk_block, Wk_drawnC, reduceCtorEq, Nat.reduceEqDiff, Nat.reduceAdd, Nat.reduceLeDiff, Nat.reduceLT, Nat.reduceMul, Nat.reduceSub, ↓reduceIte, Int.reduceLT, Int.reduceLE, Int.reduceNeg, Int.reduceAdd, Int.reduceEq, Nat.reduceBneDiff, Nat.reduceBEq, Int.reduceToNat, Int.reduceMul, Int.reduceSub, Int.reduceBEq, Int.reduceBNe]; rw [i64_in (by omega) (by omega)]; simp, by simp only [go_sem, Wk_block, Wk_drawnC, reduceCtorEq, Nat.reduceEqDiff, Nat.reduceAdd, Nat.reduceLeDiff, Nat.reduceLT, Nat.reduceMul, Nat.reduceSub, ↓reduceIte, Int.reduceLT, Int.reduceLE, Int.reduceNeg, Int.reduceAdd, Int.reduceEq, Nat.reduceBneDiff, Nat.reduceBEq, Int.reduceToNat, Int.reduceMul, Int.reduceSub, Int.reduceBEq, Int.reduceBNe], by simp only [go_sem, Wk_block, Wk_drawnC, reduceCtorEq, Nat.reduceEqDiff, Nat.reduceAdd, Nat.reduceLeDiff, Nat.reduceLT, Nat.reduceMul, Nat.reduceSub, ↓reduceIte, Int.reduceLT, Int.reduceLE, Int.reduceNeg, Int.reduceAdd, Int.reduceEq, Nat.reduceBneDiff, Nat.reduceBEq, Int.reduceToNat, Int.reduceMul, Int.reduceSub, Int.reduceBEq, Int.reduceBNe], Nat.le_refl _, h0⟩
  rintro m ts s1 ⟨j, rfl, hj, g3, g0, g1, hn, hi⟩ IH
  by_cases hlt : j < Y.length
  · obtain ⟨hp1, hv1⟩ := hI j s1 hi
    unfold Lies at hp1
    obtain ⟨i, hie⟩ : ∃ i : Nat, i = Y.length - 1 - j := ⟨_, rfl⟩
    have hic : ((Y.length : Int) - 1 - (j : Int)) = (i : Int) := by omega
    rw [hic] at g3
    have hil : i < (Y.map fun x => [uI x]).length := by rw [List.length_map]; omega
    obtain ⟨b, o, vs, lo2, ro, z, hidx, hg, hle, heq, hbl⟩ := hv1.at_ hil
    rw [List.getElem_map] at heq
    have hgi : vs[o + i * 1]? = some (uI (Y[i]'(by omega))) := by
      have := congrArg (fun l => l[0]?) heq
      simpa [List.getElem?_take, List.getElem?_drop] using this
    have hge : decide ((i : Int) ≥ 0) = true := decide_eq_true (by omega)
    have wi : IntKind.i64.wrap ((i : Int) - 1) = (i : Int) - 1 := i64_in (by omega) (by omega)
    have hr1 := hrd j hlt s1 hn hi
    simp -implicitDefEqProofs only [go_sem, Wk_block, Wk_drawnC, reduceCtorEq, Nat.reduceEqDiff, Nat.reduceAdd, Nat.reduceLeDiff, Nat.reduceLT, Nat.reduceMul, Nat.reduceSub, ↓reduceIte, Int.reduceLT, Int.reduceLE, Int.reduceNeg, Int.reduceAdd, Int.reduceEq, Nat.reduceBneDiff, Nat.reduceBEq, Int.reduceToNat, Int.reduceMul, Int.reduceSub, Int.reduceBEq, Int.reduceBNe, g3, g0, g1, hp1, hge, hidx, hg, hgi]
    refine Wc_yld ?_
    have e1 : Y.length - 1 - j = i := hie.symm
    simp only [e1] at hr1
    refine hr1.mono ?_
    rintro bb s2 ⟨rfl, hn2, hi2⟩
    simp -implicitDefEqProofs only [go_sem, Wk_block, Wk_drawnC, reduceCtorEq, Nat.reduceEqDiff, Nat.reduceAdd, Nat.reduceLeDiff, Nat.reduceLT, Nat.reduceMul, Nat.reduceSub, ↓reduceIte, Int.reduceLT, Int.reduceLE, Int.reduceNeg, Int.reduceAdd, Int.reduceEq, Nat.reduceBneDiff, Nat.reduceBEq, Int.reduceToNat, Int.reduceMul, Int.reduceSub, Int.reduceBEq, Int.reduceBNe, g3, wi]
    refine IH (Y.length - (j + 1)) _ _ (by omega) ⟨j + 1, rfl, by omega, ?_, ?_, ?_, by omega, hi2⟩
    · rw [show ((Y.length : Int) - 1 - ((j + 1 : Nat) : Int)) = (i : Int) - 1 by omega]
      simp only [go_sem, Wk_block, Wk_drawnC, reduceCtorEq, Nat.reduceEqDiff, Nat.reduceAdd, Nat.reduceLeDiff, Nat.reduceLT, Nat.reduceMul, Nat.reduceSub, ↓reduceIte, Int.reduceLT, Int.reduceLE, Int.reduceNeg, Int.reduceAdd, Int.reduceEq, Nat.reduceBneDiff, Nat.reduceBEq, Int.reduceToNat, Int.reduceMul, Int.reduceSub, Int.reduceBEq, Int.reduceBNe]
    · simp only [go_sem, Wk_block, Wk_drawnC, reduceCtorEq, Nat.reduceEqDiff, Nat.reduceAdd, Nat.reduceLeDiff, Nat.reduceLT, Nat.reduceMul, Nat.reduceSub, ↓reduceIte, Int.reduceLT, Int.reduceLE, Int.reduceNeg, Int.reduceAdd, Int.reduceEq, Nat.reduceBneDiff, Nat.reduceBEq, Int.reduceToNat, Int.reduceMul, Int.reduceSub, Int.reduceBEq, Int.reduceBNe, g0]
    · simp only [go_sem, Wk_block, Wk_drawnC, reduceCtorEq, Nat.reduceEqDiff, Nat.reduceAdd, Nat.reduceLeDiff, Nat.reduceLT, Nat.reduceMul, Nat.reduceSub, ↓reduceIte, Int.reduceLT, Int.reduceLE, Int.reduceNeg, Int.reduceAdd, Int.reduceEq, Nat.reduceBneDiff, Nat.reduceBEq, Int.reduceToNat, Int.reduceMul, Int.reduceSub, Int.reduceBEq, Int.reduceBNe, g1]
  · have : j = Y.length := by omega
    subst this
    have hge : decide ((Y.length : Int) - 1 - (Y.length : Int) ≥ 0) = false := decide_eq_false (by omega)
    simp -implicitDefEqProofs only [go_sem, Wk_block, Wk_drawnC, reduceCtorEq, Nat.reduceEqDiff, Nat.reduceAdd, Nat.reduceLeDiff, Nat.reduceLT, Nat.reduceMul, Nat.reduceSub, ↓reduceIte, Int.reduceLT, Int.reduceLE, Int.reduceNeg, Int.reduceAdd, Int.reduceEq, Nat.reduceBneDiff, Nat.reduceBEq, Int.reduceToNat, Int.reduceMul, Int.reduceSub, Int.reduceBEq, Int.reduceBNe, g3, hge]
    exact ⟨hn, hi⟩

/-- The code behind the sort. -/
def restC : PC := (PC.region [⟨some 11, (.alloc [.nilSlice]), none⟩]).seq
  (((PC.region [⟨some 47, (.move (.t 9)), none⟩, ⟨some 48, (.call (.c (.fn (.func 23) [] [])) [(.t 47)]), none⟩]).seq
    (.block 4 (.rangeF (.t 48) [49, 50] (.region [⟨some 13, (.move (.t 50)), none⟩])
      (.block 5 (.region [⟨some 51, (.load1 (.t 11)), none⟩, ⟨some 52, (.load1 (.t 5)), none⟩, ⟨some 53, (.move (.t 13)), none⟩, ⟨some 54, (.lookup (.agg [(.int .u32 0), (.int .u32 0)]) (.t 52) (.t 53) false), none⟩,
        ⟨some 55, (.buildSlice [(.int .u32 0), (.int .u32 0)] 1 [(0, 2, (.t 54))] 2), none⟩, ⟨some 56, (.append 2 8 [(.int .u32 0), (.int .u32 0)] (.t 51) (.t 55)), none⟩, ⟨none, (.store 1 (.t 11) (.t 56)), none⟩]))))).seq
    ((PC.region [⟨some 57, (.load1 (.t 11)), none⟩, ⟨some 4, (.move (.t 57)), none⟩]).seq .ret))

theorem Wk_mono0 {M : Mach} {ro : Option Nat} {c : PC} {ts : Tr AV} {ds : List Nat} {s : St} {Q Q' : Post} (h : Wk M ro [] c ts ds s Q') (hq : ∀ x ts ds s, Q' x ts ds s → Q x ts ds s) : Wk M ro [] c ts ds s Q := by
  obtain ⟨x, t, d, s1, h1, h2⟩ := h
  rw [Wr_nil] at h2
  exact ⟨x, t, d, s1, h1, by rw [Wr_nil]; exact hq _ _ _ _ h2⟩
theorem Fin_mono {rs : List PRes} {P P' : AV → St → Prop} {x : AExit} {ts : Tr AV} {ds : List Nat} {s : St} (h : D.Fin rs P x ts ds s) (hp : ∀ v s, P v s → P' v s) : D.Fin rs P' x ts ds s := by
  obtain ⟨h1, s', h2, vs, h3, h4⟩ := h
  exact ⟨h1, s', h2, vs, h3, hp _ _ h4⟩
theorem rev_take (L : List Int) {j : Nat} (h : j < L.length) : (L.reverse).take (j + 1) = (L.reverse).take j ++ [L[L.length - 1 - j]'(by omega)] := by
  rw [List.take_succ_eq_append_getElem (by rw [List.length_reverse]; exact h), List.getElem_reverse]
theorem OutL.low {s : St} {N N' : Nat} {w : AV} {L : List Lb} (h : OutL s N w L) (hN : N' ≤ N) : OutL s N' w L := by
  rcases h with h | ⟨p, h1, h2, h3, h4, h5⟩
  · exact .inl h
  · exact .inr ⟨p, h1, h2, by omega, h4, h5⟩
theorem OutL.drop {s : St} {N : Nat} {w : AV} {L : List Lb} (h : OutL s N w L) {b : Nat} (hb : b < N) : OutL (s.drop b) N w L := by
  rcases h with h | ⟨p, h1, h2, h3, h4, h5⟩
  · exact .inl h
  · exact .inr ⟨p, h1, h2, h3, h4, by rw [St.get_drop, if_neg (by omega)]; exact h5⟩

theorem Backward_eq (v : AV) (s : St) (hc : v.cells = [v]) : mm.L.call 23 [v] s = some (.fn (.func 31) [] [.ptr s.next 0], s.new (.cells [v] false false 0)) := by
  refine of_Wf (Wf_enter ft23 (sm (by decide)) (by rfl) ?_)
  simp -implicitDefEqProofs only [go_sem, Wk_block, Wk_drawnC, reduceCtorEq, Nat.reduceEqDiff, Nat.reduceAdd, Nat.reduceLeDiff, Nat.reduceLT, Nat.reduceMul, Nat.reduceSub, ↓reduceIte, Int.reduceLT, Int.reduceLE, Int.reduceNeg, Int.reduceAdd, Int.reduceEq, Nat.reduceBneDiff, Nat.reduceBEq, Int.reduceToNat, Int.reduceMul, Int.reduceSub, Int.reduceBEq, Int.reduceBNe, fd23, hc]

theorem rest_run (best : List (Int × Lb)) (h12 : (keysS best).length < 1000000) {w2 : AV} {ts : Tr AV} {s4 : St} {c : Nat} (g9 : ts.get 9 = some w2) (g5 : ts.get 5 = some (.ptr (c + 1) 0)) (hc0 : s4.get c = some (.map (encF 0 best) best.length))
    (hc1 : s4.get (c + 1) = some (.cells [.map c] false false 0)) (hcl : c + 1 < s4.next) (hce : w2.cells = [w2]) (hRd : Rd s4 w2 1 ((keysS best).map fun x => [uI x])) :
    Wk mm none [] restC ts [] s4 fun x ts' ds' s' => s'.next ≤ s4.next + 2 * (keysS best).length + 6 ∧ D.Fin [PRes.tmp 4] (fun w s'' => OutL s'' s4.next w (List.map (gB best) (keysS best).reverse) ∧ Fr s4 s'' ∧ s''.next ≤ s4.next + 2 * (keysS best).length + 6) x ts' ds' s' := by
  unfold restC
  obtain ⟨a, ha⟩ : ∃ a, s4.next = a := ⟨_, rfl⟩
  simp -implicitDefEqProofs only [go_sem, Wk_block, Wk_drawnC, reduceCtorEq, Nat.reduceEqDiff, Nat.reduceAdd, Nat.reduceLeDiff, Nat.reduceLT, Nat.reduceMul, Nat.reduceSub, ↓reduceIte, Int.reduceLT, Int.reduceLE, Int.reduceNeg, Int.reduceAdd, Int.reduceEq, Nat.reduceBneDiff, Nat.reduceBEq, Int.reduceToNat, Int.reduceMul, Int.reduceSub, Int.reduceBEq, Int.reduceBNe, g9, Wl_eq (Backward_eq w2 _ hce)]
  refine Wk_envs (fun ts => ts.get 11 = some (.ptr a 0) ∧ ts.get 5 = some (.ptr (c + 1) 0) ∧ ts.get 48 = some (.fn (.func 31) [] [.ptr (a + 1) 0])) ⟨by simp only [go_sem, Wk_block, Wk_drawnC, reduceCtorEq, Nat.reduceEqDiff, Nat.reduceAdd, Nat.reduceLeDiff, Nat.reduceLT, Nat.reduceMul, Nat.reduceSub, ↓reduceIte, Int.reduceLT, Int.reduceLE, Int.reduceNeg, Int.reduceAdd, Int.reduceEq, Nat.reduceBneDiff, Nat.reduceBEq, Int.reduceToNat, Int.reduceMul, Int.reduceSub, Int.reduceBEq, Int.reduceBNe, ha], by simp only [go_sem, Wk_block, Wk_drawnC, reduceCtorEq, Nat.reduceEqDiff, Nat.reduceAdd, Nat.reduceLeDiff, Nat.reduceLT, Nat.reduceMul, Nat.reduceSub, ↓reduceIte, Int.reduceLT, Int.reduceLE, Int.reduceNeg, Int.reduceAdd, Int.reduceEq, Nat.reduceBneDiff, Nat.reduceBEq, Int.reduceToNat, Int.reduceMul, Int.reduceSub, Int.reduceBEq, Int.reduceBNe, g5], by simp only [go_sem, Wk_block, Wk_drawnC, reduceCtorEq, Nat.reduceEqDiff, Nat.reduceAdd, Nat.reduceLeDiff, Nat.reduceLT, Nat.reduceMul, Nat.reduceSub, ↓reduceIte, Int.reduceLT, Int.reduceLE, Int.reduceNeg, Int.reduceAdd, Int.reduceEq, Nat.reduceBneDiff, Nat.reduceBEq, Int.reduceToNat, Int.reduceMul, Int.reduceSub, Int.reduceBEq, Int.reduceBNe, ha]⟩ ?_
  rintro ts0 ⟨g11, g5, g48⟩
  have f1 : Fr s4 ((s4.new (.cells [.nilSlice] false false 0)).new (.cells [w2] false false 0)) := ((Fr.refl s4).new _).new _
  have hn1 : ((s4.new (.cells [.nilSlice] false false 0)).new (.cells [w2] false false 0)).next = a + 2 := by simp only [St.next_new]; omega
  have ha1 : ((s4.new (.cells [.nilSlice] false false 0)).new (.cells [w2] false false 0)).get a = some (.cells [.nilSlice] false false 0) := by rw [St.get_new, if_neg (by simp only [St.next_new]; omega), St.get_new, if_pos ha.symm]
  have hb1 : ((s4.new (.cells [.nilSlice] false false 0)).new (.cells [w2] false false 0)).get (a + 1) = some (.cells [w2] false false 0) := by rw [St.get_new, if_pos (by simp only [St.next_new]; omega)]
  have hc01 := (f1.get c (by omega)).trans hc0
  have hc11 := (f1.get (c + 1) (by omega)).trans hc1
  have hRd1 := hRd.mono f1
  generalize (s4.new (.cells [.nilSlice] false false 0)).new (.cells [w2] false false 0) = s1 at f1 hn1 ha1 hb1 hc01 hc11 hRd1 ⊢
  refine Wk_range g48 ?_
  rw [hn1]
  generalize hasn : PC.region [⟨some 13, POp.move (X.t 50), none⟩] = asn
  generalize hbd : PC.block 5 _ = bd
  have f2 : Fr s4 ((s1.new .defd).new (.loop .ready .normal ts0 [49, 50] asn bd (a + 2))) := (f1.new _).new _
  have hg2 : ∀ b, b < a + 2 → ((s1.new .defd).new (.loop .ready .normal ts0 [49, 50] asn bd (a + 2))).get b = s1.get b := fun b hb => by
    rw [St.get_new, if_neg (by simp only [St.next_new]; omega), St.get_new, if_neg (by omega)]
  have hd2 : ((s1.new .defd).new (.loop .ready .normal ts0 [49, 50] asn bd (a + 2))).get (a + 2) = some .defd := by rw [St.get_new, if_neg (by simp only [St.next_new]; omega), St.get_new, if_pos hn1.symm]
  have hl2 : ((s1.new .defd).new (.loop .ready .normal ts0 [49, 50] asn bd (a + 2))).get (a + 3) = some (.loop .ready .normal ts0 [49, 50] asn bd (a + 2)) := by rw [St.get_new, if_pos (by simp only [St.next_new]; omega)]
  have hn2 : ((s1.new .defd).new (.loop .ready .normal ts0 [49, 50] asn bd (a + 2))).next = a + 4 := by simp only [St.next_new]; omega
  have hr2 := hRd1.mono (((Fr.refl s1).new .defd).new (.loop .ready .normal ts0 [49, 50] asn bd (a + 2)))
  generalize ((s1.new .defd).new (.loop .ready .normal ts0 [49, 50] asn bd (a + 2))) = s2 at f2 hg2 hd2 hl2 hn2 hr2 ⊢
  refine (Back_run (keysS best) h12 (v := w2) (r := a + 3) (p := a + 1) (s := s2)
    (fun j s' => s'.get (a + 3) = some (.loop .ready .normal ts0 [49, 50] asn bd (a + 2)) ∧ s'.get (a + 2) = some .defd ∧ Lies s' (a + 1) [w2] ∧ s'.get c = some (.map (encF 0 best) best.length) ∧ s'.get (c + 1) = some (.cells [.map c] false false 0) ∧ Rd s' w2 1 ((keysS best).map fun x => [uI x]) ∧ Fr s4 s' ∧
      s'.next ≤ a + 4 + 2 * j ∧ a + 4 ≤ s'.next ∧ ∃ w, Lies s' a [w] ∧ OutL s' (a + 4) w ((((keysS best).reverse).take j).map (gB best))) (fun j s' h => ⟨h.2.2.1, h.2.2.2.2.2.1⟩) ?_ ?_).mono ?_
  · rintro j hj s3 hn3 ⟨h1, h2, h3, h4, h5, h6, h7, h8, h9, w, h10, h11⟩
    refine Round_of h1 rfl ?_
    rw [← hasn]
    have hrt := rev_take (keysS best) hj
    generalize hkey : (keysS best)[(keysS best).length - 1 - j]'(by omega) = key at hrt ⊢
    unfold uI
    simp -implicitDefEqProofs only [go_sem, Wk_block, Wk_drawnC, reduceCtorEq, Nat.reduceEqDiff, Nat.reduceAdd, Nat.reduceLeDiff, Nat.reduceLT, Nat.reduceMul, Nat.reduceSub, ↓reduceIte, Int.reduceLT, Int.reduceLE, Int.reduceNeg, Int.reduceAdd, Int.reduceEq, Nat.reduceBneDiff, Nat.reduceBEq, Int.reduceToNat, Int.reduceMul, Int.reduceSub, Int.reduceBEq, Int.reduceBNe, Wr_nil, h1, setTs]
    refine ⟨_, _, _, _, _, _, rfl, ?_⟩
    unfold Lies at h10
    have k1 : a + 3 ≠ a := by omega
    have g10 : ∀ o, (s3.put (a + 3) o).get a = some (.cells [w] false false 0) := fun o => by rw [St.get_put, if_neg (by omega)]; exact h10
    have gc1 : ∀ o, (s3.put (a + 3) o).get (c + 1) = some (.cells [.map c] false false 0) := fun o => by rw [St.get_put, if_neg (by omega)]; exact h5
    have gc0 : ∀ o, (s3.put (a + 3) o).get c = some (.map (encF 0 best) best.length) := fun o => by rw [St.get_put, if_neg (by omega)]; exact h4
    have gl : ∀ o, (s3.put (a + 3) o).get (a + 3) = some o := fun o => by rw [St.get_put, if_pos rfl]
    have gd : ∀ o, (s3.put (a + 3) o).get (a + 2) = some .defd := fun o => by rw [St.get_put, if_neg (by omega)]; exact h2
    have gb : ∀ o, (s3.put (a + 3) o).get (a + 1) = some (.cells [w2] false false 0) := fun o => by rw [St.get_put, if_neg (by omega)]; exact h3
    have fr : ∀ o, Fr s4 (s3.put (a + 3) o) := fun o => h7.put (by omega) o
    have ho := fun o => h11.put (show a + 3 < a + 4 by omega) o
    have hnx : ∀ o, (s3.put (a + 3) o).next = s3.next := fun o => rfl
    generalize hO : AObj.loop LoopState.busy _ _ _ _ _ _ = O
    have hOO : (s3.put (a + 3) O).get (a + 3) = some (AObj.loop LoopState.busy .normal ts0 [49, 50] asn bd (a + 2)) := by rw [gl, ← hO]
    have g10 := g10 O
    have gc1 := gc1 O
    have gc0 := gc0 O
    have gd := gd O
    have gb := gb O
    have fr := fr O
    have ho := ho O
    have hnx := hnx O
    generalize s3.put (a + 3) O = s5 at *
    rw [← hbd]
    have hfa := findA_enc best 0 0 key
    have hce2 := ho.cell
    have hgk : ∃ g : Lb, gB best key = g ∧ ((findA .u32 key (encF 0 best) 0 = some none ∧ g = ⟨0, 0⟩) ∨ ∃ i, findA .u32 key (encF 0 best) 0 = some (some (i, .agg g.enc))) := by
      cases hfb : findB best key 0 with
      | none => exact ⟨⟨0, 0⟩, by unfold gB; rw [hfb], .inl ⟨by rw [hfa, hfb]; rfl, rfl⟩⟩
      | some jv => exact ⟨jv.2, by unfold gB; rw [hfb], .inr ⟨jv.1, by rw [hfa, hfb]; rfl⟩⟩
    obtain ⟨g, hg, hgc⟩ := hgk
    obtain ⟨w', s6, happ, ho6, hn6, hfr6⟩ := (ho.new (.cells [.int .u32 g.e, .int .u32 g.q] false false 0)).push (by simp only [St.next_new]; omega) (by simp; omega) g
    simp only [St.next_new] at hn6
    have hca : ¬ c + 1 = s5.next := by omega
    have hcc : ¬ c = s5.next := by omega
    have haa : ¬ a = s5.next := by omega
    have g6 : ∀ b, b < a + 4 → s6.get b = s5.get b := fun b hb => by rw [hfr6 b hb, St.get_new, if_neg (by omega)]
    have g6a := (g6 a (by omega)).trans g10
    have hce6 := ho6.cell
    have hcells : ∀ x : AV, x.cell = true → x.cells = [x] → True := fun _ _ _ => trivial
    have hend : (s6.put a (.cells [w'] false false 0)).get (a + 3) = some (AObj.loop LoopState.busy .normal ts0 [49, 50] asn bd (a + 2)) := by rw [St.get_put, if_neg (by omega), g6 _ (by omega)]; exact hOO
    rcases hgc with ⟨hf, rfl⟩ | ⟨i, hf⟩
    · simp -implicitDefEqProofs only [go_sem, Wk_block, Wk_drawnC, reduceCtorEq, Nat.reduceEqDiff, Nat.reduceAdd, Nat.reduceLeDiff, Nat.reduceLT, Nat.reduceMul, Nat.reduceSub, ↓reduceIte, Int.reduceLT, Int.reduceLE, Int.reduceNeg, Int.reduceAdd, Int.reduceEq, Nat.reduceBneDiff, Nat.reduceBEq, Int.reduceToNat, Int.reduceMul, Int.reduceSub, Int.reduceBEq, Int.reduceBNe, g11, g5, g10, gc1, gc0, hf, srcA, happ, hce6, g6a, Wr_nil, Lb.enc]
      refine ⟨_, _, _, _, _, _, _, hend, ?_⟩
      have hf7 : Fr s4 ((s6.put a (.cells [w'] false false 0)).put (a + 3) (.loop .ready .normal ts0 [49, 50] asn bd (a + 2))) := by
        refine ⟨by simp only [St.next_put]; omega, fun b hb => ?_⟩
        rw [St.get_put, if_neg (by omega), St.get_put, if_neg (by omega), g6 b (by omega)]
        exact fr.get b hb
      refine ⟨rfl, by simp only [St.next_put]; omega, by rw [St.get_put, if_pos rfl, hasn, hbd], ?_, ?_, ?_, ?_, hRd.mono hf7, hf7, by simp only [St.next_put]; omega, by simp only [St.next_put]; omega, w', ?_, ?_⟩
      · rw [St.get_put, if_neg (by omega), St.get_put, if_neg (by omega), g6 _ (by omega)]; exact gd
      · rw [Lies, St.get_put, if_neg (by omega), St.get_put, if_neg (by omega), g6 _ (by omega)]; exact gb
      · rw [St.get_put, if_neg (by omega), St.get_put, if_neg (by omega), g6 _ (by omega)]; exact gc0
      · rw [St.get_put, if_neg (by omega), St.get_put, if_neg (by omega), g6 _ (by omega)]; exact gc1
      · rw [Lies, St.get_put, if_neg (by omega), St.get_put, if_pos rfl]
      · rw [hrt, List.map_append, List.map_singleton, hg]
        exact (ho6.put (by omega) _).put (by omega) _
    · simp -implicitDefEqProofs only [go_sem, Wk_block, Wk_drawnC, reduceCtorEq, Nat.reduceEqDiff, Nat.reduceAdd, Nat.reduceLeDiff, Nat.reduceLT, Nat.reduceMul, Nat.reduceSub, ↓reduceIte, Int.reduceLT, Int.reduceLE, Int.reduceNeg, Int.reduceAdd, Int.reduceEq, Nat.reduceBneDiff, Nat.reduceBEq, Int.reduceToNat, Int.reduceMul, Int.reduceSub, Int.reduceBEq, Int.reduceBNe, g11, g5, g10, gc1, gc0, hf, srcA, happ, hce6, g6a, Wr_nil, Lb.enc]
      refine ⟨_, _, _, _, _, _, _, hend, ?_⟩
      have hf7 : Fr s4 ((s6.put a (.cells [w'] false false 0)).put (a + 3) (.loop .ready .normal ts0 [49, 50] asn bd (a + 2))) := by
        refine ⟨by simp only [St.next_put]; omega, fun b hb => ?_⟩
        rw [St.get_put, if_neg (by omega), St.get_put, if_neg (by omega), g6 b (by omega)]
        exact fr.get b hb
      refine ⟨rfl, by simp only [St.next_put]; omega, by rw [St.get_put, if_pos rfl, hasn, hbd], ?_, ?_, ?_, ?_, hRd.mono hf7, hf7, by simp only [St.next_put]; omega, by simp only [St.next_put]; omega, w', ?_, ?_⟩
      · rw [St.get_put, if_neg (by omega), St.get_put, if_neg (by omega), g6 _ (by omega)]; exact gd
      · rw [Lies, St.get_put, if_neg (by omega), St.get_put, if_neg (by omega), g6 _ (by omega)]; exact gb
      · rw [St.get_put, if_neg (by omega), St.get_put, if_neg (by omega), g6 _ (by omega)]; exact gc0
      · rw [St.get_put, if_neg (by omega), St.get_put, if_neg (by omega), g6 _ (by omega)]; exact gc1
      · rw [Lies, St.get_put, if_neg (by omega), St.get_put, if_pos rfl]
      · rw [hrt, List.map_append, List.map_singleton, hg]
        exact (ho6.put (by omega) _).put (by omega) _
  · exact ⟨hl2, hd2, (hg2 _ (by omega)).trans hb1, (hg2 _ (by omega)).trans hc01, (hg2 _ (by omega)).trans hc11, hr2, f2, by omega, by omega, .nilSlice, (hg2 _ (by omega)).trans ha1, .inl ⟨rfl, rfl⟩⟩
  · rintro w s3 ⟨hle, h1, h2, h3, h4, h5, h6, h7, h8, h9, w, h10, h11⟩
    refine ⟨_, _, _, _, _, _, _, h1, (by intro h; cases h), ?_⟩
    unfold Lies at h10
    have g10 : (s3.put (a + 2 + 1) (AObj.loop LoopState.exhausted AExit.normal ts0 [49, 50] asn bd (a + 2))).get a = some (.cells [w] false false 0) := by rw [St.get_put, if_neg (by omega)]; exact h10
    have gd : (s3.put (a + 2 + 1) (AObj.loop LoopState.exhausted AExit.normal ts0 [49, 50] asn bd (a + 2))).get (a + 2) = some .defd := by rw [St.get_put, if_neg (by omega)]; exact h2
    have ho := h11.put (show a + 2 + 1 < a + 4 by omega) (AObj.loop LoopState.exhausted AExit.normal ts0 [49, 50] asn bd (a + 2))
    have fr : Fr s4 (s3.put (a + 2 + 1) (AObj.loop LoopState.exhausted AExit.normal ts0 [49, 50] asn bd (a + 2))) := h7.put (by omega) _
    have hnx : (s3.put (a + 2 + 1) (AObj.loop LoopState.exhausted AExit.normal ts0 [49, 50] asn bd (a + 2))).next = s3.next := rfl
    generalize s3.put (a + 2 + 1) (AObj.loop LoopState.exhausted AExit.normal ts0 [49, 50] asn bd (a + 2)) = s5 at g10 gd ho fr hnx ⊢
    simp -implicitDefEqProofs only [go_sem, Wk_block, Wk_drawnC, reduceCtorEq, Nat.reduceEqDiff, Nat.reduceAdd, Nat.reduceLeDiff, Nat.reduceLT, Nat.reduceMul, Nat.reduceSub, ↓reduceIte, Int.reduceLT, Int.reduceLE, Int.reduceNeg, Int.reduceAdd, Int.reduceEq, Nat.reduceBneDiff, Nat.reduceBEq, Int.reduceToNat, Int.reduceMul, Int.reduceSub, Int.reduceBEq, Int.reduceBNe, g11, g10, Wr_nil]
    refine ⟨by omega, fun _ h => (by cases h), s5.drop (a + 2), by unfold takeAll; rw [gd]; rfl, ?_⟩
    simp only [go_sem, Wk_block, Wk_drawnC, reduceCtorEq, Nat.reduceEqDiff, Nat.reduceAdd, Nat.reduceLeDiff, Nat.reduceLT, Nat.reduceMul, Nat.reduceSub, ↓reduceIte, Int.reduceLT, Int.reduceLE, Int.reduceNeg, Int.reduceAdd, Int.reduceEq, Nat.reduceBneDiff, Nat.reduceBEq, Int.reduceToNat, Int.reduceMul, Int.reduceSub, Int.reduceBEq, Int.reduceBNe]
    rw [List.take_of_length_le (by rw [List.length_reverse]; omega)] at ho
    exact ⟨(ho.drop (by omega)).low (by omega), fr.drop (by omega), by show s5.next ≤ _; omega⟩

theorem spans_run {span : Int} (hs : 0 < span) (l : List Sn) (ht : ∀ x ∈ l, 0 ≤ x.t ∧ x.t ≤ 4294967295) (hl : l.length < 1000000) {s : St} {v : AV} (hR : Rd s v 4 (l.map Sn.enc)) {R : Nat} (hN : s.next + 16 * l.length + 100 ≤ R) :
    Nf Try.prog R 15 [.int .u32 span, v] s fun w s' => OutL s' s.next w (spansV span l) ∧ Fr s s' ∧ s'.next ≤ s.next + 16 * l.length + 100 := by
  refine Nf.enter mm_ft ft15 (by rfl) ?_
  simp only [fd15]
  obtain ⟨c, hc⟩ : ∃ c, s.next = c := ⟨_, rfl⟩
  refine Nk.seq (Nk.of_Wk mm_mixed mm_ft mm_sm mm_sn ?_)
  simp -implicitDefEqProofs only [go_sem, Wk_block, Wk_drawnC, reduceCtorEq, Nat.reduceEqDiff, Nat.reduceAdd, Nat.reduceLeDiff, Nat.reduceLT, Nat.reduceMul, Nat.reduceSub, ↓reduceIte, Int.reduceLT, Int.reduceLE, Int.reduceNeg, Int.reduceAdd, Int.reduceEq, Nat.reduceBneDiff, Nat.reduceBEq, Int.reduceToNat, Int.reduceMul, Int.reduceSub, Int.reduceBEq, Int.reduceBNe, Wr_nil]
  refine ⟨by omega, Nk.seq (Nk.of_Wk mm_mixed mm_ft mm_sm mm_sn ?_)⟩
  simp -implicitDefEqProofs only [go_sem, Wk_block, Wk_drawnC, reduceCtorEq, Nat.reduceEqDiff, Nat.reduceAdd, Nat.reduceLeDiff, Nat.reduceLT, Nat.reduceMul, Nat.reduceSub, ↓reduceIte, Int.reduceLT, Int.reduceLE, Int.reduceNeg, Int.reduceAdd, Int.reduceEq, Nat.reduceBneDiff, Nat.reduceBEq, Int.reduceToNat, Int.reduceMul, Int.reduceSub, Int.reduceBEq, Int.reduceBNe, Wr_nil]
  refine ⟨by omega, Nk.seq (Nk.of_Wk mm_mixed mm_ft mm_sm mm_sn ?_)⟩
  have f0 : Fr s ((s.new (.map [] 0)).new (.cells [.map s.next] false false 0)) := ((Fr.refl s).new _).new _
  have hn0 : ((s.new (.map [] 0)).new (.cells [.map s.next] false false 0)).next = c + 2 := by simp only [St.next_new]; omega
  have hm0 : ((s.new (.map [] 0)).new (.cells [.map s.next] false false 0)).get c = some (.map [] 0) := by rw [St.get_new, if_neg (by simp only [St.next_new]; omega), St.get_new, if_pos hc.symm]
  have hc0 : Lies ((s.new (.map [] 0)).new (.cells [.map s.next] false false 0)) (c + 1) [.map c] := by rw [Lies, St.get_new, if_pos (by simp only [St.next_new]; omega), hc]
  rw [hc] at f0 hn0 hm0 hc0 ⊢
  generalize (s.new (.map [] 0)).new (.cells [.map c] false false 0) = s0 at f0 hn0 hm0 hc0 ⊢
  refine Wk_cut (fun ts1 s1 => ts1.get 0 = some (.int .u32 span) ∧ ts1.get 5 = some (.ptr (c + 1) 0) ∧ Fr s s1 ∧ s1.next ≤ c + 2 + 8 * l.length ∧ c + 2 ≤ s1.next ∧ s1.get c = some (.map (encF 0 (bestOf span l)) (bestOf span l).length) ∧ Lies s1 (c + 1) [.map c]) ?_ ?_
  · simp -implicitDefEqProofs only [go_sem, Wk_block, Wk_drawnC, reduceCtorEq, Nat.reduceEqDiff, Nat.reduceAdd, Nat.reduceLeDiff, Nat.reduceLT, Nat.reduceMul, Nat.reduceSub, ↓reduceIte, Int.reduceLT, Int.reduceLE, Int.reduceNeg, Int.reduceAdd, Int.reduceEq, Nat.reduceBneDiff, Nat.reduceBEq, Int.reduceToNat, Int.reduceMul, Int.reduceSub, Int.reduceBEq, Int.reduceBNe, hR.len, List.length_map]
    refine loop_ind (fun m ts s' => ∃ j : Nat, m = l.length - j ∧ j ≤ l.length ∧ ts.get 17 = some (.int .i64 (j : Int)) ∧ ts.get 16 = some (.int .i64 (l.length : Int)) ∧ ts.get 15 = some v ∧ ts.get 0 = some (.int .u32 span) ∧ ts.get 5 = some (.ptr (c + 1) 0) ∧ Fr s s' ∧
      s'.next ≤ c + 2 + 8 * j ∧ c + 2 ≤ s'.next ∧ s'.get c = some (.map (encF 0 (bestOf span (l.take j))) (bestOf span (l.take j)).length) ∧ Lies s' (c + 1) [.map c]) ?_ (n := l.length)
      ⟨0, rfl, by omega, by simp only [go_sem, Wk_block, Wk_drawnC, reduceCtorEq, Nat.reduceEqDiff, Nat.reduceAdd, Nat.reduceLeDiff, Nat.reduceLT, Nat.reduceMul, Nat.reduceSub, ↓reduceIte, Int.reduceLT, Int.reduceLE, Int.reduceNeg, Int.reduceAdd, Int.reduceEq, Nat.reduceBneDiff, Nat.reduceBEq, Int.reduceToNat, Int.reduceMul, Int.reduceSub, Int.reduceBEq, Int.reduceBNe], by simp only [go_sem, Wk_block, Wk_drawnC, reduceCtorEq, Nat.reduceEqDiff, Nat.reduceAdd, Nat.reduceLeDiff, Nat.reduceLT, Nat.reduceMul, Nat.reduceSub, ↓reduceIte, Int.reduceLT, Int.reduceLE, Int.reduceNeg, Int.reduceAdd, Int.reduceEq, Nat.reduceBneDiff, Nat.reduceBEq, Int.reduceToNat, Int.reduceMul, Int.reduceSub, Int.reduceBEq, Int.reduceBNe], by simp only [go_sem, Wk_block, Wk_drawnC, reduceCtorEq, Nat.reduceEqDiff, Nat.reduceAdd, Nat.reduceLeDiff, Nat.reduceLT, Nat.reduceMul, Nat.reduceSub, ↓reduceIte, Int.reduceLT, Int.reduceLE, Int.reduceNeg, Int.reduceAdd, Int.reduceEq, Nat.reduceBneDiff, Nat.reduceBEq, Int.reduceToNat, Int.reduceMul, Int.reduceSub, Int.reduceBEq, Int.reduceBNe], by simp only [go_sem, Wk_block, Wk_drawnC, reduceCtorEq, Nat.reduceEqDiff, Nat.reduceAdd, Nat.reduceLeDiff, Nat.reduceLT, Nat.reduceMul, Nat.reduceSub, ↓reduceIte, Int.reduceLT, Int.reduceLE, Int.reduceNeg, Int.reduceAdd, Int.reduceEq, Nat.reduceBneDiff, Nat.reduceBEq, Int.reduceToNat, Int.reduceMul, Int.reduceSub, Int.reduceBEq, Int.reduceBNe], by simp only [go_sem, Wk_block, Wk_drawnC, reduceCtorEq, Nat.reduceEqDiff, Nat.reduceAdd, Nat.reduceLeDiff, Nat.reduceLT, Nat.reduceMul, Nat.reduceSub, ↓reduceIte, Int.reduceLT, Int.reduceLE, Int.reduceNeg, Int.reduceAdd, Int.reduceEq, Nat.reduceBneDiff, Nat.reduceBEq, Int.reduceToNat, Int.reduceMul, Int.reduceSub, Int.reduceBEq, Int.reduceBNe], f0, by omega, by omega, hm0, hc0⟩
    rintro m ts s1 ⟨j, rfl, hj, g17, g16, g15, g0, g5, f1, hn1, hn2, hm1, hc1⟩ IH
    by_cases hlt : j < l.length
    · have hjl : j < (l.map Sn.enc).length := by rw [List.length_map]; exact hlt
      obtain ⟨b, o, vs, lo2, ro, z, hidx, hg, hle, heq, hbl⟩ := (hR.mono f1).at_ hjl
      rw [List.getElem_map] at heq
      have htx := ht l[j] (List.getElem_mem hlt)
      have hbt := bestOf_take (span := span) hlt
      generalize l[j] = x at heq htx hbt
      unfold Sn.enc at heq
      rw [Nat.add_assoc] at hle
      generalize bestOf span (l.take j) = best at hm1 hbt
      have hs0 : ¬ span = 0 := by omega
      have hq0 : 0 ≤ x.t.tdiv span := Int.tdiv_nonneg htx.1 (by omega)
      have hq1 : x.t.tdiv span ≤ x.t := by
        rw [Int.tdiv_eq_ediv_of_nonneg htx.1]
        exact Int.ediv_le_self _ htx.1
      have wq : IntKind.u32.wrap (x.t.tdiv span) = x.t.tdiv span := u32_in hq0 (by omega)
      unfold stepB at hbt
      obtain ⟨n, hnn⟩ : ∃ n, x.t.tdiv span = n := ⟨_, rfl⟩
      rw [hnn] at wq hbt
      obtain ⟨q, hq⟩ : ∃ q, s1.next = q := ⟨_, rfl⟩
      have hcq : c + 1 < s1.next := by omega
      have hcq0 : c < s1.next := by omega
      have hfa := findA_enc best 0 0 n
      unfold Lies at hc1
      have wj := succ_in (j := j) (by omega)
      have fin : ∀ (g : Lb), gB best n = g → ∀ s2, (Fr ((s1.new (.cells [.int .u32 x.l.e, .int .u32 x.l.q, .int .i64 x.r, .int .u32 x.t] false false 0)).new (.cells [.int .u32 g.e, .int .u32 g.q, .int .u32 x.l.e, .int .u32 x.l.q] false false 0)) s2) →
          s2.get (c + 1) = some (.cells [.map c] false false 0) ∧ s2.get c = some (.map (encF 0 best) best.length) := fun g _ s2 f => by
        refine ⟨(f.get _ (by simp only [St.next_new]; omega)).trans ?_, (f.get _ (by simp only [St.next_new]; omega)).trans ?_⟩
        · rw [St.get_new, if_neg (by simp only [St.next_new]; omega), St.get_new, if_neg (by omega)]; exact hc1
        · rw [St.get_new, if_neg (by simp only [St.next_new]; omega), St.get_new, if_neg (by omega)]; exact hm1
      cases hfb : findB best n 0 with
      | none =>
        rw [hfb] at hfa
        simp only [Option.map_none] at hfa
        have hgb : gB best n = ⟨0, 0⟩ := by unfold gB; rw [hfb]
        have hpb : ∀ v, pB best n v = best ++ [(n, v)] := fun v => by unfold pB; rw [hfb]
        rw [hgb, hpb] at hbt
        simp -implicitDefEqProofs only [go_sem, Wk_block, Wk_drawnC, reduceCtorEq, Nat.reduceEqDiff, Nat.reduceAdd, Nat.reduceLeDiff, Nat.reduceLT, Nat.reduceMul, Nat.reduceSub, ↓reduceIte, Int.reduceLT, Int.reduceLE, Int.reduceNeg, Int.reduceAdd, Int.reduceEq, Nat.reduceBneDiff, Nat.reduceBEq, Int.reduceToNat, Int.reduceMul, Int.reduceSub, Int.reduceBEq, Int.reduceBNe, g17, g16, g15, g0, g5, hlt, hidx, hg, hle, heq, hs0, hnn, wq, hc1, hm1, hfa, hcq, hcq0, eq_next_f hcq, eq_next_f' hcq, eq_next_f hcq0, eq_next_f' hcq0, eq_next_k hcq, eq_next_k' hcq, eq_next_k hcq0, eq_next_k' hcq0, hbl, eq_next_f hbl]
        have hpp : Lies ((s1.new (.cells [.int .u32 x.l.e, .int .u32 x.l.q, .int .i64 x.r, .int .u32 x.t] false false 0)).new (.cells [.int .u32 0, .int .u32 0, .int .u32 x.l.e, .int .u32 x.l.q] false false 0)) (s1.next + 1) [.int .u32 (⟨0, 0⟩ : Lb).e, .int .u32 (⟨0, 0⟩ : Lb).q, .int .u32 x.l.e, .int .u32 x.l.q] := by rw [Lies, St.get_new, if_pos (by simp only [St.next_new])]
        refine Wl_of (LastL_run ⟨0, 0⟩ x.l hpp (by simp only [St.next_new]; omega)) ?_
        rintro _ s2 ⟨rfl, f2, fn2⟩
        obtain ⟨hc2, hm2⟩ := fin ⟨0, 0⟩ hgb s2 f2
        simp only [St.next_new] at fn2
        have f02 : Fr s s2 := ((f1.new _).new _).trans f2
        have hle2 := f2.le
        simp only [St.next_new] at hle2
        generalize mxL ⟨0, 0⟩ x.l = nv at hbt ⊢
        have hap := encF_append best 0 (n, nv)
        rw [Nat.zero_add] at hap
        simp -implicitDefEqProofs only [go_sem, Wk_block, Wk_drawnC, reduceCtorEq, Nat.reduceEqDiff, Nat.reduceAdd, Nat.reduceLeDiff, Nat.reduceLT, Nat.reduceMul, Nat.reduceSub, ↓reduceIte, Int.reduceLT, Int.reduceLE, Int.reduceNeg, Int.reduceAdd, Int.reduceEq, Nat.reduceBneDiff, Nat.reduceBEq, Int.reduceToNat, Int.reduceMul, Int.reduceSub, Int.reduceBEq, Int.reduceBNe, g17, g16, g15, g0, g5, hlt, hidx, hg, hle, heq, hs0, hnn, wq, hc1, hm1, hfa, hcq, hcq0, eq_next_f hcq, eq_next_f' hcq, eq_next_f hcq0, eq_next_f' hcq0, eq_next_k hcq, eq_next_k' hcq, eq_next_k hcq0, eq_next_k' hcq0, hbl, eq_next_f hbl, hc2, hm2, hap]
        refine IH (l.length - (j + 1)) _ _ (by omega) ⟨j + 1, rfl, by omega, ?_, ?_, ?_, ?_, ?_, f02.put (by omega) _, by simp only [St.next_put]; omega, by simp only [St.next_put]; omega, ?_, ?_⟩
        · simp only [go_sem, Wk_block, Wk_drawnC, reduceCtorEq, Nat.reduceEqDiff, Nat.reduceAdd, Nat.reduceLeDiff, Nat.reduceLT, Nat.reduceMul, Nat.reduceSub, ↓reduceIte, Int.reduceLT, Int.reduceLE, Int.reduceNeg, Int.reduceAdd, Int.reduceEq, Nat.reduceBneDiff, Nat.reduceBEq, Int.reduceToNat, Int.reduceMul, Int.reduceSub, Int.reduceBEq, Int.reduceBNe, wj]
        · simp only [go_sem, Wk_block, Wk_drawnC, reduceCtorEq, Nat.reduceEqDiff, Nat.reduceAdd, Nat.reduceLeDiff, Nat.reduceLT, Nat.reduceMul, Nat.reduceSub, ↓reduceIte, Int.reduceLT, Int.reduceLE, Int.reduceNeg, Int.reduceAdd, Int.reduceEq, Nat.reduceBneDiff, Nat.reduceBEq, Int.reduceToNat, Int.reduceMul, Int.reduceSub, Int.reduceBEq, Int.reduceBNe, g16]
        · simp only [go_sem, Wk_block, Wk_drawnC, reduceCtorEq, Nat.reduceEqDiff, Nat.reduceAdd, Nat.reduceLeDiff, Nat.reduceLT, Nat.reduceMul, Nat.reduceSub, ↓reduceIte, Int.reduceLT, Int.reduceLE, Int.reduceNeg, Int.reduceAdd, Int.reduceEq, Nat.reduceBneDiff, Nat.reduceBEq, Int.reduceToNat, Int.reduceMul, Int.reduceSub, Int.reduceBEq, Int.reduceBNe, g15]
        · simp only [go_sem, Wk_block, Wk_drawnC, reduceCtorEq, Nat.reduceEqDiff, Nat.reduceAdd, Nat.reduceLeDiff, Nat.reduceLT, Nat.reduceMul, Nat.reduceSub, ↓reduceIte, Int.reduceLT, Int.reduceLE, Int.reduceNeg, Int.reduceAdd, Int.reduceEq, Nat.reduceBneDiff, Nat.reduceBEq, Int.reduceToNat, Int.reduceMul, Int.reduceSub, Int.reduceBEq, Int.reduceBNe, g0]
        · simp only [go_sem, Wk_block, Wk_drawnC, reduceCtorEq, Nat.reduceEqDiff, Nat.reduceAdd, Nat.reduceLeDiff, Nat.reduceLT, Nat.reduceMul, Nat.reduceSub, ↓reduceIte, Int.reduceLT, Int.reduceLE, Int.reduceNeg, Int.reduceAdd, Int.reduceEq, Nat.reduceBneDiff, Nat.reduceBEq, Int.reduceToNat, Int.reduceMul, Int.reduceSub, Int.reduceBEq, Int.reduceBNe, g5]
        · rw [hbt, St.get_put, if_pos rfl]; rw [hap, List.length_append]; rfl
        · rw [Lies, St.get_put, if_neg (by omega)]; exact hc2
      | some jv =>
        rw [hfb] at hfa
        simp only [Option.map_some] at hfa
        have hgb : gB best n = jv.2 := by unfold gB; rw [hfb]
        have hpb : ∀ v, pB best n v = best.set jv.1 (n, v) := fun v => by unfold pB; rw [hfb]
        have hjl2 := (findB_lt best n 0 jv.1 jv.2 hfb).2.1
        rw [hgb, hpb] at hbt
        simp -implicitDefEqProofs only [go_sem, Wk_block, Wk_drawnC, reduceCtorEq, Nat.reduceEqDiff, Nat.reduceAdd, Nat.reduceLeDiff, Nat.reduceLT, Nat.reduceMul, Nat.reduceSub, ↓reduceIte, Int.reduceLT, Int.reduceLE, Int.reduceNeg, Int.reduceAdd, Int.reduceEq, Nat.reduceBneDiff, Nat.reduceBEq, Int.reduceToNat, Int.reduceMul, Int.reduceSub, Int.reduceBEq, Int.reduceBNe, g17, g16, g15, g0, g5, hlt, hidx, hg, hle, heq, hs0, hnn, wq, hc1, hm1, hfa, hcq, hcq0, eq_next_f hcq, eq_next_f' hcq, eq_next_f hcq0, eq_next_f' hcq0, eq_next_k hcq, eq_next_k' hcq, eq_next_k hcq0, eq_next_k' hcq0, hbl, eq_next_f hbl, Lb.enc]
        have hpp : Lies ((s1.new (.cells [.int .u32 x.l.e, .int .u32 x.l.q, .int .i64 x.r, .int .u32 x.t] false false 0)).new (.cells [.int .u32 jv.2.e, .int .u32 jv.2.q, .int .u32 x.l.e, .int .u32 x.l.q] false false 0)) (s1.next + 1) [.int .u32 (jv.2 : Lb).e, .int .u32 (jv.2 : Lb).q, .int .u32 x.l.e, .int .u32 x.l.q] := by rw [Lies, St.get_new, if_pos (by simp only [St.next_new])]
        refine Wl_of (LastL_run jv.2 x.l hpp (by simp only [St.next_new]; omega)) ?_
        rintro _ s2 ⟨rfl, f2, fn2⟩
        obtain ⟨hc2, hm2⟩ := fin jv.2 hgb s2 f2
        simp only [St.next_new] at fn2
        have f02 : Fr s s2 := ((f1.new _).new _).trans f2
        have hle2 := f2.le
        simp only [St.next_new] at hle2
        generalize mxL jv.2 x.l = nv at hbt ⊢
        have hap := encF_set best 0 jv.1 (n, nv) (by omega)
        simp -implicitDefEqProofs only [go_sem, Wk_block, Wk_drawnC, reduceCtorEq, Nat.reduceEqDiff, Nat.reduceAdd, Nat.reduceLeDiff, Nat.reduceLT, Nat.reduceMul, Nat.reduceSub, ↓reduceIte, Int.reduceLT, Int.reduceLE, Int.reduceNeg, Int.reduceAdd, Int.reduceEq, Nat.reduceBneDiff, Nat.reduceBEq, Int.reduceToNat, Int.reduceMul, Int.reduceSub, Int.reduceBEq, Int.reduceBNe, g17, g16, g15, g0, g5, hlt, hidx, hg, hle, heq, hs0, hnn, wq, hc1, hm1, hfa, hcq, hcq0, eq_next_f hcq, eq_next_f' hcq, eq_next_f hcq0, eq_next_f' hcq0, eq_next_k hcq, eq_next_k' hcq, eq_next_k hcq0, eq_next_k' hcq0, hbl, eq_next_f hbl, Lb.enc, hc2, hm2, hap]
        refine IH (l.length - (j + 1)) _ _ (by omega) ⟨j + 1, rfl, by omega, ?_, ?_, ?_, ?_, ?_, f02.put (by omega) _, by simp only [St.next_put]; omega, by simp only [St.next_put]; omega, ?_, ?_⟩
        · simp only [go_sem, Wk_block, Wk_drawnC, reduceCtorEq, Nat.reduceEqDiff, Nat.reduceAdd, Nat.reduceLeDiff, Nat.reduceLT, Nat.reduceMul, Nat.reduceSub, ↓reduceIte, Int.reduceLT, Int.reduceLE, Int.reduceNeg, Int.reduceAdd, Int.reduceEq, Nat.reduceBneDiff, Nat.reduceBEq, Int.reduceToNat, Int.reduceMul, Int.reduceSub, Int.reduceBEq, Int.reduceBNe, wj]
        · simp only [go_sem, Wk_block, Wk_drawnC, reduceCtorEq, Nat.reduceEqDiff, Nat.reduceAdd, Nat.reduceLeDiff, Nat.reduceLT, Nat.reduceMul, Nat.reduceSub, ↓reduceIte, Int.reduceLT, Int.reduceLE, Int.reduceNeg, Int.reduceAdd, Int.reduceEq, Nat.reduceBneDiff, Nat.reduceBEq, Int.reduceToNat, Int.reduceMul, Int.reduceSub, Int.reduceBEq, Int.reduceBNe, g16]
        · simp only [go_sem, Wk_block, Wk_drawnC, reduceCtorEq, Nat.reduceEqDiff, Nat.reduceAdd, Nat.reduceLeDiff, Nat.reduceLT, Nat.reduceMul, Nat.reduceSub, ↓reduceIte, Int.reduceLT, Int.reduceLE, Int.reduceNeg, Int.reduceAdd, Int.reduceEq, Nat.reduceBneDiff, Nat.reduceBEq, Int.reduceToNat, Int.reduceMul, Int.reduceSub, Int.reduceBEq, Int.reduceBNe, g15]
        · simp only [go_sem, Wk_block, Wk_drawnC, reduceCtorEq, Nat.reduceEqDiff, Nat.reduceAdd, Nat.reduceLeDiff, Nat.reduceLT, Nat.reduceMul, Nat.reduceSub, ↓reduceIte, Int.reduceLT, Int.reduceLE, Int.reduceNeg, Int.reduceAdd, Int.reduceEq, Nat.reduceBneDiff, Nat.reduceBEq, Int.reduceToNat, Int.reduceMul, Int.reduceSub, Int.reduceBEq, Int.reduceBNe, g0]
        · simp only [go_sem, Wk_block, Wk_drawnC, reduceCtorEq, Nat.reduceEqDiff, Nat.reduceAdd, Nat.reduceLeDiff, Nat.reduceLT, Nat.reduceMul, Nat.reduceSub, ↓reduceIte, Int.reduceLT, Int.reduceLE, Int.reduceNeg, Int.reduceAdd, Int.reduceEq, Nat.reduceBneDiff, Nat.reduceBEq, Int.reduceToNat, Int.reduceMul, Int.reduceSub, Int.reduceBEq, Int.reduceBNe, g5]
        · rw [hbt, St.get_put, if_pos rfl, List.length_set, ← hap]; rfl
        · rw [Lies, St.get_put, if_neg (by omega)]; exact hc2
    · have : j = l.length := by omega
      subst this
      rw [List.take_length] at hm1
      have hlf : decide ((l.length : Int) < (l.length : Int)) = false := decide_eq_false (by omega)
      simp -implicitDefEqProofs only [go_sem, Wk_block, Wk_drawnC, reduceCtorEq, Nat.reduceEqDiff, Nat.reduceAdd, Nat.reduceLeDiff, Nat.reduceLT, Nat.reduceMul, Nat.reduceSub, ↓reduceIte, Int.reduceLT, Int.reduceLE, Int.reduceNeg, Int.reduceAdd, Int.reduceEq, Nat.reduceBneDiff, Nat.reduceBEq, Int.reduceToNat, Int.reduceMul, Int.reduceSub, Int.reduceBEq, Int.reduceBNe, g17, g16, hlf, hlt, Wr_nil]
      exact ⟨g0, g5, f1, by omega, hn2, hm1, hc1⟩
  · rintro ts1 s1 ⟨g0, g5, f1, hn1, hn2, hm1, hc1⟩
    rw [Wr_nil]
    unfold Lies at hc1
    have hV : spansV span l = ((keysS (bestOf span l)).reverse).map (gB (bestOf span l)) := rfl
    rw [hV]
    clear hV
    have hb := best_len span l
    generalize bestOf span l = best at hb hm1 ⊢
    refine ⟨by omega, Nk.seq (Nk.of_Wk mm_mixed mm_ft mm_sm mm_sn ?_)⟩
    simp -implicitDefEqProofs only [go_sem, Wk_block, Wk_drawnC, reduceCtorEq, Nat.reduceEqDiff, Nat.reduceAdd, Nat.reduceLeDiff, Nat.reduceLT, Nat.reduceMul, Nat.reduceSub, ↓reduceIte, Int.reduceLT, Int.reduceLE, Int.reduceNeg, Int.reduceAdd, Int.reduceEq, Nat.reduceBneDiff, Nat.reduceBEq, Int.reduceToNat, Int.reduceMul, Int.reduceSub, Int.reduceBEq, Int.reduceBNe, Wr_nil]
    refine ⟨by omega, Nk.seq (Nk.seq (Nk.of_Wk mm_mixed mm_ft mm_sm mm_sn ?_))⟩
    obtain ⟨it, hit⟩ : ∃ it, s1.next = it := ⟨_, rfl⟩
    simp -implicitDefEqProofs only [go_sem, Wk_block, Wk_drawnC, reduceCtorEq, Nat.reduceEqDiff, Nat.reduceAdd, Nat.reduceLeDiff, Nat.reduceLT, Nat.reduceMul, Nat.reduceSub, ↓reduceIte, Int.reduceLT, Int.reduceLE, Int.reduceNeg, Int.reduceAdd, Int.reduceEq, Nat.reduceBneDiff, Nat.reduceBEq, Int.reduceToNat, Int.reduceMul, Int.reduceSub, Int.reduceBEq, Int.reduceBNe, g5, hc1, hm1, Wr_nil, hit]
    refine ⟨by omega, Nk.block (Nk.loop ?_)⟩
    have f2 : Fr s (s1.new (.miter (some c) best.length [] best.length)) := f1.new _
    have hi2 : (s1.new (.miter (some c) best.length [] best.length)).get it = some (.miter (some c) best.length [] best.length) := by rw [St.get_new, if_pos hit.symm]
    have hm2 : (s1.new (.miter (some c) best.length [] best.length)).get c = some (.map (encF 0 best) best.length) := by rw [St.get_new, if_neg (by omega)]; exact hm1
    have hc2 : (s1.new (.miter (some c) best.length [] best.length)).get (c + 1) = some (.cells [.map c] false false 0) := by rw [St.get_new, if_neg (by omega)]; exact hc1
    have hn3 : (s1.new (.miter (some c) best.length [] best.length)).next = it + 1 := by simp only [St.next_new]; omega
    generalize s1.new (.miter (some c) best.length [] best.length) = s2 at f2 hi2 hm2 hc2 hn3 ⊢
    refine Nl.ind (fun m ts s' => ∃ (seen : List Nat) (w : AV), m = best.length - seen.length ∧ ts.get 36 = some (.ptr it 0) ∧ ts.get 9 = some w ∧ ts.get 5 = some (.ptr (c + 1) 0) ∧ s'.get it = some (.miter (some c) best.length seen best.length) ∧ s'.get c = some (.map (encF 0 best) best.length) ∧
      s'.get (c + 1) = some (.cells [.map c] false false 0) ∧ Fr s s' ∧ it < s'.next ∧ s'.next ≤ it + 1 + 2 * seen.length ∧ seen.Nodup ∧ (∀ i ∈ seen, i < best.length) ∧ seen.length ≤ best.length ∧ OutU s' (it + 1) w (seen.map (keyAt best))) ?_ (n := best.length)
      ⟨[], .nilSlice, rfl, by simp only [go_sem, Wk_block, Wk_drawnC, reduceCtorEq, Nat.reduceEqDiff, Nat.reduceAdd, Nat.reduceLeDiff, Nat.reduceLT, Nat.reduceMul, Nat.reduceSub, ↓reduceIte, Int.reduceLT, Int.reduceLE, Int.reduceNeg, Int.reduceAdd, Int.reduceEq, Nat.reduceBneDiff, Nat.reduceBEq, Int.reduceToNat, Int.reduceMul, Int.reduceSub, Int.reduceBEq, Int.reduceBNe], by simp only [go_sem, Wk_block, Wk_drawnC, reduceCtorEq, Nat.reduceEqDiff, Nat.reduceAdd, Nat.reduceLeDiff, Nat.reduceLT, Nat.reduceMul, Nat.reduceSub, ↓reduceIte, Int.reduceLT, Int.reduceLE, Int.reduceNeg, Int.reduceAdd, Int.reduceEq, Nat.reduceBneDiff, Nat.reduceBEq, Int.reduceToNat, Int.reduceMul, Int.reduceSub, Int.reduceBEq, Int.reduceBNe], by simp only [go_sem, Wk_block, Wk_drawnC, reduceCtorEq, Nat.reduceEqDiff, Nat.reduceAdd, Nat.reduceLeDiff, Nat.reduceLT, Nat.reduceMul, Nat.reduceSub, ↓reduceIte, Int.reduceLT, Int.reduceLE, Int.reduceNeg, Int.reduceAdd, Int.reduceEq, Nat.reduceBneDiff, Nat.reduceBEq, Int.reduceToNat, Int.reduceMul, Int.reduceSub, Int.reduceBEq, Int.reduceBNe, g5], hi2, hm2, hc2, f2, by omega, by simp; omega, List.nodup_nil, by simp, by simp, .inl ⟨rfl, rfl⟩⟩
    clear hi2 hm2 hc2 f2 hn3
    rintro m ts s3 ⟨seen, w, rfl, g36, g9, g5, hi3, hm3, hc3, f3, hn3, hn4, hnd, hlt, hlen, ho⟩ IH
    refine Nk.seq (Nk.next mm_mixed mm_ft mm_sm mm_sn g36 hi3 hm3 (fun e he => ?_) (Nat.le_refl _) (by omega) (fun hall => ?_) (fun e he hns => ?_))
    · obtain ⟨k, hk, rfl⟩ := encF_mem he
      simpa using hk
    · simp -implicitDefEqProofs only [go_sem, Wk_block, Wk_drawnC, reduceCtorEq, Nat.reduceEqDiff, Nat.reduceAdd, Nat.reduceLeDiff, Nat.reduceLT, Nat.reduceMul, Nat.reduceSub, ↓reduceIte, Int.reduceLT, Int.reduceLE, Int.reduceNeg, Int.reduceAdd, Int.reduceEq, Nat.reduceBneDiff, Nat.reduceBEq, Int.reduceToNat, Int.reduceMul, Int.reduceSub, Int.reduceBEq, Int.reduceBNe, Wr_nil]
      refine ⟨by omega, Nk.seq (Nk.of_Wk mm_mixed mm_ft mm_sm mm_sn ?_)⟩
      simp -implicitDefEqProofs only [go_sem, Wk_block, Wk_drawnC, reduceCtorEq, Nat.reduceEqDiff, Nat.reduceAdd, Nat.reduceLeDiff, Nat.reduceLT, Nat.reduceMul, Nat.reduceSub, ↓reduceIte, Int.reduceLT, Int.reduceLE, Int.reduceNeg, Int.reduceAdd, Int.reduceEq, Nat.reduceBneDiff, Nat.reduceBEq, Int.reduceToNat, Int.reduceMul, Int.reduceSub, Int.reduceBEq, Int.reduceBNe, Wr_nil]
      have hpm := all_seen hnd hlt fun i hi => by
        have := hall _ (encF_get (i := 0) hi)
        simpa using this
      generalize seen.map (keyAt best) = L at hpm ho
      refine ⟨by omega, Nk.of_Wk mm_mixed mm_ft mm_sm mm_sn ?_⟩
      have hLl : L.length ≤ l.length := by rw [hpm.length_eq, List.length_map]; exact hb
      have hKl : (keysS best).length ≤ l.length := by rw [(keysS_perm best).length_eq, List.length_map]; exact hb
      change Wk mm none [] ((PC.region [⟨some 45, .move (.t 9), none⟩, ⟨some 46, .call (.c (.fn (.func 22) [] [])) [.t 45], none⟩]).seq restC) _ _ _ _
      rcases ho with ⟨rfl, rfl⟩ | ⟨p, rfl, h1, h2, h3, h4⟩
      · have hk0 : keysS best = [] := (keysS_eq hpm List.Pairwise.nil).symm
        simp -implicitDefEqProofs only [go_sem, Wk_block, Wk_drawnC, reduceCtorEq, Nat.reduceEqDiff, Nat.reduceAdd, Nat.reduceLeDiff, Nat.reduceLT, Nat.reduceMul, Nat.reduceSub, ↓reduceIte, Int.reduceLT, Int.reduceLE, Int.reduceNeg, Int.reduceAdd, Int.reduceEq, Nat.reduceBneDiff, Nat.reduceBEq, Int.reduceToNat, Int.reduceMul, Int.reduceSub, Int.reduceBEq, Int.reduceBNe, g9, Wl_eq (SortU_nil _)]
        refine Wk_mono0 (rest_run best (by rw [hk0]; simp) (w2 := .nilSlice) (c := c) ?_ ?_ hm3 hc3 (by omega) rfl ⟨fun s' => by rw [hk0]; rfl, by rw [hk0]; simp, fun h => by rw [hk0] at h; simp at h⟩) ?_
        · simp only [go_sem, Wk_block, Wk_drawnC, reduceCtorEq, Nat.reduceEqDiff, Nat.reduceAdd, Nat.reduceLeDiff, Nat.reduceLT, Nat.reduceMul, Nat.reduceSub, ↓reduceIte, Int.reduceLT, Int.reduceLE, Int.reduceNeg, Int.reduceAdd, Int.reduceEq, Nat.reduceBneDiff, Nat.reduceBEq, Int.reduceToNat, Int.reduceMul, Int.reduceSub, Int.reduceBEq, Int.reduceBNe, g9]
        · simp only [go_sem, Wk_block, Wk_drawnC, reduceCtorEq, Nat.reduceEqDiff, Nat.reduceAdd, Nat.reduceLeDiff, Nat.reduceLT, Nat.reduceMul, Nat.reduceSub, ↓reduceIte, Int.reduceLT, Int.reduceLE, Int.reduceNeg, Int.reduceAdd, Int.reduceEq, Nat.reduceBneDiff, Nat.reduceBEq, Int.reduceToNat, Int.reduceMul, Int.reduceSub, Int.reduceBEq, Int.reduceBNe, g5]
        · rintro x ts' ds' s' ⟨q1, q2⟩
          refine ⟨by omega, by omega, Fin_mono q2 ?_⟩
          rintro w s'' ⟨r1, r2, r3⟩
          exact ⟨r1.low (by omega), f3.trans r2, by omega⟩
      · simp -implicitDefEqProofs only [go_sem, Wk_block, Wk_drawnC, reduceCtorEq, Nat.reduceEqDiff, Nat.reduceAdd, Nat.reduceLeDiff, Nat.reduceLT, Nat.reduceMul, Nat.reduceSub, ↓reduceIte, Int.reduceLT, Int.reduceLE, Int.reduceNeg, Int.reduceAdd, Int.reduceEq, Nat.reduceBneDiff, Nat.reduceBEq, Int.reduceToNat, Int.reduceMul, Int.reduceSub, Int.reduceBEq, Int.reduceBNe, g9]
        refine Wl_of (SortU_run L (by omega) h4 h3) ?_
        rintro w4 s4 ⟨⟨Y, hYp, hYs, hY⟩, f4, hn5⟩
        have hf4 := f4.le
        have hYk : Y = keysS best := keysS_eq (hYp.trans hpm) hYs
        have hYl := hYp.length_eq
        rw [hYk] at hY hYl
        simp -implicitDefEqProofs only [go_sem, Wk_block, Wk_drawnC, reduceCtorEq, Nat.reduceEqDiff, Nat.reduceAdd, Nat.reduceLeDiff, Nat.reduceLT, Nat.reduceMul, Nat.reduceSub, ↓reduceIte, Int.reduceLT, Int.reduceLE, Int.reduceNeg, Int.reduceAdd, Int.reduceEq, Nat.reduceBneDiff, Nat.reduceBEq, Int.reduceToNat, Int.reduceMul, Int.reduceSub, Int.reduceBEq, Int.reduceBNe, g9]
        refine Wk_mono0 (rest_run best (by omega) (w2 := .slice p 0 L.length L.length true) (c := c) ?_ ?_ ((f4.get c (by omega) (by omega)).trans hm3) ((f4.get (c + 1) (by omega) (by omega)).trans hc3) (by omega) rfl
          ⟨fun s' => by rw [List.length_map, hYl]; rfl, by rw [List.length_map]; unfold maxLen; omega, fun h => ⟨p, 0, L.length, true, _, true, false, 1, by rw [List.length_map, hYl], hY, by omega, fun j hj => ?_⟩⟩) ?_
        · simp only [go_sem, Wk_block, Wk_drawnC, reduceCtorEq, Nat.reduceEqDiff, Nat.reduceAdd, Nat.reduceLeDiff, Nat.reduceLT, Nat.reduceMul, Nat.reduceSub, ↓reduceIte, Int.reduceLT, Int.reduceLE, Int.reduceNeg, Int.reduceAdd, Int.reduceEq, Nat.reduceBneDiff, Nat.reduceBEq, Int.reduceToNat, Int.reduceMul, Int.reduceSub, Int.reduceBEq, Int.reduceBNe, g9]
        · simp only [go_sem, Wk_block, Wk_drawnC, reduceCtorEq, Nat.reduceEqDiff, Nat.reduceAdd, Nat.reduceLeDiff, Nat.reduceLT, Nat.reduceMul, Nat.reduceSub, ↓reduceIte, Int.reduceLT, Int.reduceLE, Int.reduceNeg, Int.reduceAdd, Int.reduceEq, Nat.reduceBneDiff, Nat.reduceBEq, Int.reduceToNat, Int.reduceMul, Int.reduceSub, Int.reduceBEq, Int.reduceBNe, g5]
        · rw [List.length_map] at hj
          refine ⟨by rw [List.length_map]; omega, ?_⟩
          rw [Nat.mul_one, Nat.zero_add, List.getElem_map, ← List.map_drop, ← List.map_take, List.drop_eq_getElem_cons hj]
          rfl
        · rintro x ts' ds' s' ⟨q1, q2⟩
          refine ⟨by omega, by omega, Fin_mono q2 ?_⟩
          rintro w s'' ⟨r1, r2, r3⟩
          refine ⟨r1.low (by omega), ⟨by have := f3.le; have := r2.le; omega, fun b hb => ?_⟩, by omega⟩
          rw [r2.get b (by omega), f4.get b (by omega) (by omega)]
          exact f3.get b hb
    · obtain ⟨k, hk, rfl⟩ := encF_mem he
      simp only [Nat.zero_add] at hns ⊢
      have hks : k ∉ seen := by simpa using hns
      have hgl : (seen ++ [k]).getLast? = some k := by simp
      have hfd : (encF 0 best).find? (fun e => e.2.2 == k) = some (AV.int .u32 best[k].1, AV.agg best[k].2.enc, k) := by simpa only [Nat.zero_add] using encF_find (i := 0) hk
      have hka : keyAt best k = best[k].1 := by unfold keyAt; rw [List.getD_eq_getElem?_getD, List.getElem?_eq_getElem hk]; rfl
      have hsl : seen.length < best.length := by
        have h1 : (k :: seen).Nodup := List.nodup_cons.2 ⟨hks, hnd⟩
        have h2 : ∀ i ∈ k :: seen, i < best.length := fun i hi => by
          rcases List.mem_cons.1 hi with rfl | hi
          · exact hk
          · exact hlt i hi
        have := nodup_len' (k :: seen) (List.range best.length) h1 fun i hi => List.mem_range.2 (h2 i hi)
        simp at this
        omega
      generalize best[k].1 = key at hfd hka ⊢
      generalize best[k].2 = lb at hfd ⊢
      simp -implicitDefEqProofs only [go_sem, Wk_block, Wk_drawnC, reduceCtorEq, Nat.reduceEqDiff, Nat.reduceAdd, Nat.reduceLeDiff, Nat.reduceLT, Nat.reduceMul, Nat.reduceSub, ↓reduceIte, Int.reduceLT, Int.reduceLE, Int.reduceNeg, Int.reduceAdd, Int.reduceEq, Nat.reduceBneDiff, Nat.reduceBEq, Int.reduceToNat, Int.reduceMul, Int.reduceSub, Int.reduceBEq, Int.reduceBNe, Wr_nil]
      refine ⟨by omega, Nk.of_Wk mm_mixed mm_ft mm_sm mm_sn ?_⟩
      have hce := ho.cell
      have hci : c ≠ it := by omega
      obtain ⟨w', s4, happ, ho4, hnx, hfr⟩ := OutU.push (((ho.put (Nat.lt_succ_self it) (.miter (some c) best.length (seen ++ [k]) best.length))).new (.cells [.int .u32 key] false false 0)) (by simp only [St.next_new, St.next_put]; omega) (by rw [List.length_map]; omega) key
      have happ2 := happ
      simp -implicitDefEqProofs only [go_sem, Wk_block, Wk_drawnC, reduceCtorEq, Nat.reduceEqDiff, Nat.reduceAdd, Nat.reduceLeDiff, Nat.reduceLT, Nat.reduceMul, Nat.reduceSub, ↓reduceIte, Int.reduceLT, Int.reduceLE, Int.reduceNeg, Int.reduceAdd, Int.reduceEq, Nat.reduceBneDiff, Nat.reduceBEq, Int.reduceToNat, Int.reduceMul, Int.reduceSub, Int.reduceBEq, Int.reduceBNe, g36, g9, hi3, hm3, hci, hgl, hfd, eq_self, srcA, happ, Wr_nil, hn3, eq_next_f hn3, eq_next_f' hn3]
      simp only [St.next_new, St.next_put] at hnx
      have hgt : ∀ b, b < it + 1 → b ≠ it → s4.get b = s3.get b := fun b h1 h2 => by
        rw [hfr b h1, St.get_new, if_neg (by simp only [St.next_put]; omega), St.get_put, if_neg h2]
      refine ⟨by omega, IH (best.length - (seen.length + 1)) _ _ (by omega) ⟨seen ++ [k], w', by simp, ?_, ?_, ?_, ?_, ?_, ?_, ⟨?_, ?_⟩, by omega, by simp; omega, ?_, ?_, by simp; omega, ?_⟩⟩
      · simp only [go_sem, Wk_block, Wk_drawnC, reduceCtorEq, Nat.reduceEqDiff, Nat.reduceAdd, Nat.reduceLeDiff, Nat.reduceLT, Nat.reduceMul, Nat.reduceSub, ↓reduceIte, Int.reduceLT, Int.reduceLE, Int.reduceNeg, Int.reduceAdd, Int.reduceEq, Nat.reduceBneDiff, Nat.reduceBEq, Int.reduceToNat, Int.reduceMul, Int.reduceSub, Int.reduceBEq, Int.reduceBNe, g36]
      · simp only [go_sem, Wk_block, Wk_drawnC, reduceCtorEq, Nat.reduceEqDiff, Nat.reduceAdd, Nat.reduceLeDiff, Nat.reduceLT, Nat.reduceMul, Nat.reduceSub, ↓reduceIte, Int.reduceLT, Int.reduceLE, Int.reduceNeg, Int.reduceAdd, Int.reduceEq, Nat.reduceBneDiff, Nat.reduceBEq, Int.reduceToNat, Int.reduceMul, Int.reduceSub, Int.reduceBEq, Int.reduceBNe]
      · simp only [go_sem, Wk_block, Wk_drawnC, reduceCtorEq, Nat.reduceEqDiff, Nat.reduceAdd, Nat.reduceLeDiff, Nat.reduceLT, Nat.reduceMul, Nat.reduceSub, ↓reduceIte, Int.reduceLT, Int.reduceLE, Int.reduceNeg, Int.reduceAdd, Int.reduceEq, Nat.reduceBneDiff, Nat.reduceBEq, Int.reduceToNat, Int.reduceMul, Int.reduceSub, Int.reduceBEq, Int.reduceBNe, g5]
      · rw [hfr it (by omega), St.get_new, if_neg (by simp only [St.next_put]; omega), St.get_put, if_pos rfl]
      · rw [hgt c (by omega) (by omega)]; exact hm3
      · rw [hgt (c + 1) (by omega) (by omega)]; exact hc3
      · have := f3.le; omega
      · intro b hb
        rw [hgt b (by omega) (by omega)]; exact f3.get b hb
      · rw [List.nodup_append]
        exact ⟨hnd, by simp, fun a ha b hb => by simp at hb; subst hb; exact fun e => hks (e ▸ ha)⟩
      · intro i hi
        rcases List.mem_append.1 hi with hi | hi
        · exact hlt i hi
        · simp at hi; subst hi; exact hk
      · rw [List.map_append, List.map_singleton, hka]; exact ho4
end Go.Proofs.Ytjejgnbdlfkenaa.Base
namespace Go.Proofs.Ytjejgnbdlfkenaa.Base
open D
set_option linter.unusedSimpArgs false
set_option linter.unusedVariables false
set_option maxRecDepth 10000

def decSn : Nat → List AV → Option (List Sn)
  | 0, _ => some []
  | n + 1, l => match l with
    | .int .u32 e :: .int .u32 q :: .int .i64 r :: .int .u32 t :: l => if 0 ≤ t ∧ t ≤ 4294967295 then match decSn n l with
        | some xs => some (⟨⟨e, q⟩, r, t⟩ :: xs)
        | none => none
      else none
    | _ => none
noncomputable def readSn (s : St) : AV → Option (List Sn)
  | .nilSlice => some []
  | .raw (.slice _ 0 _) => some []
  | .slice b o len _ _ => if len < 1000000 then match loadA s b o (len * 4) with
      | some l => decSn len l
      | none => none
    else none
  | _ => none
theorem decSn_some : ∀ {n : Nat} {l : List AV} {xs : List Sn}, decSn n l = some xs → xs.length = n ∧ (∀ x ∈ xs, 0 ≤ x.t ∧ x.t ≤ 4294967295) ∧ ∀ j (h : j < xs.length), j * 4 + 4 ≤ l.length ∧ (l.drop (j * 4)).take 4 = xs[j].enc
  | 0, _, _, h => by cases h; exact ⟨rfl, by simp, fun j h => by simp at h⟩
  | n + 1, l, xs, h => by
    simp only [decSn] at h
    split at h
    · rename_i e q r t l'
      split at h
      · rename_i ht
        split at h
        · rename_i ys hys
          cases h
          obtain ⟨h1, h2, h3⟩ := decSn_some hys
          refine ⟨by simp [h1], ?_, ?_⟩
          · intro x hx
            rcases List.mem_cons.1 hx with rfl | hx
            · exact ht
            · exact h2 x hx
          · intro j hj
            cases j with
            | zero => exact ⟨by simp, rfl⟩
            | succ j =>
              obtain ⟨q1, q2⟩ := h3 j (by simpa using hj)
              refine ⟨by simp; omega, ?_⟩
              rw [Nat.succ_mul, List.getElem_cons_succ, ← q2, show j * 4 + 4 = (j * 4) + 1 + 1 + 1 + 1 by omega]
              simp only [List.drop_succ_cons]
        · cases h
      · cases h
    · cases h

theorem readSn_rd {R : Nat} {μ : D.Place} {s : St} {w : World} {v : AV} {xs : List Sn} (h : readSn s v = some xs) (hr : HR Try.prog R μ s w) : Rd s v 4 (xs.map Sn.enc) ∧ xs.length < 1000000 ∧ ∀ x ∈ xs, 0 ≤ x.t ∧ x.t ≤ 4294967295 := by
  unfold readSn at h
  split at h
  · cases h; exact ⟨⟨fun _ => rfl, by simp, fun h => by simp at h⟩, by simp, by simp⟩
  · cases h; exact ⟨⟨fun _ => rfl, by simp, fun h => by simp at h⟩, by simp, by simp⟩
  · rename_i b o len cap lo
    split at h
    · rename_i hlen
      split at h
      · rename_i l hl
        obtain ⟨h1, h2, h3⟩ := decSn_some h
        obtain ⟨vs, lo2, ro, z, g1, g2, rfl⟩ := loadA_some hl
        refine ⟨⟨fun s' => by rw [List.length_map, h1]; rfl, by rw [List.length_map, h1]; unfold maxLen; omega, fun _ => ⟨b, o, cap, lo, vs, lo2, ro, z, by rw [List.length_map, h1], g1, hr.dom _ _ g1, fun j hj => ?_⟩⟩, by omega, h2⟩
        rw [List.length_map] at hj
        obtain ⟨q1, q2⟩ := h3 j hj
        rw [List.length_take, List.length_drop] at q1
        refine ⟨by omega, ?_⟩
        rw [List.getElem_map, ← q2, List.drop_take, List.take_take, List.drop_drop, Nat.min_eq_left (by omega)]
      · cases h
    · cases h
  · cases h

/-- What keep.spans answers. -/
noncomputable def sumSpans : List AV → St → Option (AV × St)
  | [.int .u32 span, v], s => if 0 < span then match readSn s v with
      | some l => match spansV span l with
          | [] => some (.nilSlice, s.skip (16 * l.length + 100))
          | x :: r => some (.slice (s.next + (16 * l.length + 100)) 0 (r.length + 1) (r.length + 1) true, (s.skip (16 * l.length + 100)).new (.cells ((x :: r).flatMap Lb.enc) true false 2))
      | none => none
    else none
  | _, _ => none

theorem concs_ints (μ : D.Place) : ∀ L : List Lb, concs μ (L.flatMap Lb.enc) = some (L.flatMap fun x => [Value.int .u32 x.e, Value.int .u32 x.q])
  | [] => rfl
  | x :: r => by rw [List.flatMap_cons, List.flatMap_cons]; exact concs_append rfl (concs_ints μ r)

theorem sumSpans_ok {args : List AV} {s s' : St} {v : AV} {R : Nat} {μ : D.Place} {w : World} {cargs : List Value} (hx : sumSpans args s = some (v, s')) (hR : s'.next ≤ R) (h : HR Try.prog R μ s w) (hc : concs μ args = some cargs) :
    ∀ n, CallsIn Fence.wide n Try.prog 15 cargs.toArray w (Rets Try.prog R μ s w v s') := by
  unfold sumSpans at hx
  split at hx
  case h_2 => cases hx
  rename_i span u
  split at hx
  case isFalse => cases hx
  rename_i hsp
  split at hx
  case h_2 => cases hx
  rename_i l hl
  obtain ⟨hrd, hl2, ht⟩ := readSn_rd hl h
  have hnx : s.next + 16 * l.length + 100 ≤ R := by
    split at hx <;> cases hx
    · simp only [St.next_skip] at hR; omega
    · simp only [St.next_new, St.next_skip] at hR; omega
  intro n
  refine (spans_run hsp l ht hl2 hrd hnx μ w cargs h hc n).mono ?_
  rintro e w' ⟨v1, s1, ⟨ho, hf, hn⟩, hr⟩
  cases e with
  | panicked _ => exact hr.elim
  | outgrown => exact hr.elim
  | returned c =>
    split at hx
    · rename_i hV
      cases hx
      rw [hV] at ho
      rcases ho with ⟨rfl, _⟩ | ⟨p, _, h1, _⟩
      · exact canon0 h hr hf (by omega) (by omega) fun ν h => h
      · simp at h1
    · rename_i x r hV
      cases hx
      rw [hV] at ho
      rcases ho with ⟨_, h1⟩ | ⟨p, rfl, h1, h2, h3, h4⟩
      · cases h1
      · refine canon h hr hf (by omega) (by simp only [St.next_new, St.next_skip] at hR; omega) h2 h4 fun ν ν' hle hp hv => ?_
        simp only [conc, hp] at hv ⊢
        exact hv
theorem sumSpans_next (args : List AV) (s : St) (v : AV) (s' : St) (hx : sumSpans args s = some (v, s')) : s.next ≤ s'.next := by
  unfold sumSpans at hx
  repeat' split at hx
  all_goals first
    | (cases hx; done)
    | (cases hx; simp only [St.next_new, St.next_skip]; omega)
end Go.Proofs.Ytjejgnbdlfkenaa.Base
