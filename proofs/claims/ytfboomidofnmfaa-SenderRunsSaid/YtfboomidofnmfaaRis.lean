/- SenderRises, walked on the abstract machine. -/
import Derived.Test.YtfboomidofnmfaaRisP
namespace Go.Proofs.Ytfboomidofnmfaa
open D
set_option linter.unusedSimpArgs false
set_option linter.unusedVariables false
set_option maxRecDepth 10000

theorem great_run (l : List Act) {v : AV} {ba oa : Nat} {s : St} (hA : Acc s v 17 (l.map Act.enc) ba oa) (hk : ∀ a ∈ l, ActOk s a) :
    Wf mm 19 [v] s fun r s' => (∃ g : Bool, r = .bool g) ∧ Fr s s' := by
  refine Wf_enter ft19 (sm (by decide)) (by rfl) ?_
  simp only [fd19, go_sem, Wk_block, reduceCtorEq, Nat.reduceEqDiff, Nat.reduceAdd, Nat.reduceLeDiff, Nat.reduceLT, Nat.reduceMul, Nat.reduceSub, ↓reduceIte, Int.reduceLT, Int.reduceLE, Int.reduceNeg, Int.reduceAdd, Int.reduceEq, Nat.reduceBneDiff, Nat.reduceBEq, Int.reduceToNat, Int.reduceMul, Int.reduceSub, Int.reduceBEq, Int.reduceBNe, Int.cast_ofNat_Int, Int.toNat_natCast_add_one, Nat.add_left_cancel_iff, Nat.left_eq_add, Nat.add_eq_left, Int.toNat_natCast, Nat.add_assoc, Int.ofNat_lt, Int.ofNat_le, hA.len]
  refine Wi_split (fun hg => ?_) (fun hg => ?_)
  · simp only [go_sem, Wk_block, reduceCtorEq, Nat.reduceEqDiff, Nat.reduceAdd, Nat.reduceLeDiff, Nat.reduceLT, Nat.reduceMul, Nat.reduceSub, ↓reduceIte, Int.reduceLT, Int.reduceLE, Int.reduceNeg, Int.reduceAdd, Int.reduceEq, Nat.reduceBneDiff, Nat.reduceBEq, Int.reduceToNat, Int.reduceMul, Int.reduceSub, Int.reduceBEq, Int.reduceBNe, Int.cast_ofNat_Int, Int.toNat_natCast_add_one, Nat.add_left_cancel_iff, Nat.left_eq_add, Nat.add_eq_left, Int.toNat_natCast, Nat.add_assoc, Int.ofNat_lt, Int.ofNat_le]
    exact ⟨⟨true, rfl⟩, Fr.refl s⟩
  simp only [go_sem, Wk_block, reduceCtorEq, Nat.reduceEqDiff, Nat.reduceAdd, Nat.reduceLeDiff, Nat.reduceLT, Nat.reduceMul, Nat.reduceSub, ↓reduceIte, Int.reduceLT, Int.reduceLE, Int.reduceNeg, Int.reduceAdd, Int.reduceEq, Nat.reduceBneDiff, Nat.reduceBEq, Int.reduceToNat, Int.reduceMul, Int.reduceSub, Int.reduceBEq, Int.reduceBNe, Int.cast_ofNat_Int, Int.toNat_natCast_add_one, Nat.add_left_cancel_iff, Nat.left_eq_add, Nat.add_eq_left, Int.toNat_natCast, Nat.add_assoc, Int.ofNat_lt, Int.ofNat_le, hA.len]
  have hmax := hA.max
  rw [List.length_map] at hmax
  refine loop_ind (fun m ts s' => ∃ j : Nat, m = l.length - j ∧ j ≤ l.length ∧ ts.get 10 = some (.int .i64 j) ∧ ts.get 9 = some (.int .i64 l.length) ∧ ts.get 8 = some v ∧ Fr s s') ?_ (n := l.length)
    ⟨0, by omega, by omega, by simp only [go_sem, Wk_block, reduceCtorEq, Nat.reduceEqDiff, Nat.reduceAdd, Nat.reduceLeDiff, Nat.reduceLT, Nat.reduceMul, Nat.reduceSub, ↓reduceIte, Int.reduceLT, Int.reduceLE, Int.reduceNeg, Int.reduceAdd, Int.reduceEq, Nat.reduceBneDiff, Nat.reduceBEq, Int.reduceToNat, Int.reduceMul, Int.reduceSub, Int.reduceBEq, Int.reduceBNe, Int.cast_ofNat_Int, Int.toNat_natCast_add_one, Nat.add_left_cancel_iff, Nat.left_eq_add, Nat.add_eq_left, Int.toNat_natCast, Nat.add_assoc, Int.ofNat_lt, Int.ofNat_le], by simp only [go_sem, Wk_block, reduceCtorEq, Nat.reduceEqDiff, Nat.reduceAdd, Nat.reduceLeDiff, Nat.reduceLT, Nat.reduceMul, Nat.reduceSub, ↓reduceIte, Int.reduceLT, Int.reduceLE, Int.reduceNeg, Int.reduceAdd, Int.reduceEq, Nat.reduceBneDiff, Nat.reduceBEq, Int.reduceToNat, Int.reduceMul, Int.reduceSub, Int.reduceBEq, Int.reduceBNe, Int.cast_ofNat_Int, Int.toNat_natCast_add_one, Nat.add_left_cancel_iff, Nat.left_eq_add, Nat.add_eq_left, Int.toNat_natCast, Nat.add_assoc, Int.ofNat_lt, Int.ofNat_le, List.length_map], by simp only [go_sem, Wk_block, reduceCtorEq, Nat.reduceEqDiff, Nat.reduceAdd, Nat.reduceLeDiff, Nat.reduceLT, Nat.reduceMul, Nat.reduceSub, ↓reduceIte, Int.reduceLT, Int.reduceLE, Int.reduceNeg, Int.reduceAdd, Int.reduceEq, Nat.reduceBneDiff, Nat.reduceBEq, Int.reduceToNat, Int.reduceMul, Int.reduceSub, Int.reduceBEq, Int.reduceBNe, Int.cast_ofNat_Int, Int.toNat_natCast_add_one, Nat.add_left_cancel_iff, Nat.left_eq_add, Nat.add_eq_left, Int.toNat_natCast, Nat.add_assoc, Int.ofNat_lt, Int.ofNat_le], Fr.refl s⟩
  rintro m ts s1 ⟨j, rfl, hj, g10, g9, g8, f1⟩ IH
  by_cases hlt : j < l.length
  · have hjl : j < (l.map Act.enc).length := by rw [List.length_map]; exact hlt
    have hA1 := hA.mono f1
    obtain ⟨vs, hv, hle, he⟩ := hA1.at_ j hjl
    have hok := (hk l[j] (List.getElem_mem hlt)).mono f1
    rw [List.getElem_map] at he
    generalize l[j] = a at he hok
    unfold Act.enc at he
    have hn2 : j < 9223372036854775807 := by unfold maxLen at hmax; omega
    simp -implicitDefEqProofs only [go_sem, Wk_block, reduceCtorEq, Nat.reduceEqDiff, Nat.reduceAdd, Nat.reduceLeDiff, Nat.reduceLT, Nat.reduceMul, Nat.reduceSub, ↓reduceIte, Int.reduceLT, Int.reduceLE, Int.reduceNeg, Int.reduceAdd, Int.reduceEq, Nat.reduceBneDiff, Nat.reduceBEq, Int.reduceToNat, Int.reduceMul, Int.reduceSub, Int.reduceBEq, Int.reduceBNe, Int.cast_ofNat_Int, Int.toNat_natCast_add_one, Nat.add_left_cancel_iff, Nat.left_eq_add, Nat.add_eq_left, Int.toNat_natCast, Nat.add_assoc, Int.ofNat_lt, Int.ofNat_le, Nat.lt_add_one_of_lt, Nat.lt_add_one, Nat.lt_add_right, Nat.lt_add_right_iff_pos, Nat.add_lt_add_iff_left, g10, g9, g8, hlt, hA1.idx _ _ hjl, hv, hle, he, hok.ic, hok.h.cell, hok.o.cell, hok.o.len]
    repeat' (first | (refine Wg_split (fun hg => ?_) (fun hg => ?_) <;> simp -implicitDefEqProofs only [go_sem, Wk_block, reduceCtorEq, Nat.reduceEqDiff, Nat.reduceAdd, Nat.reduceLeDiff, Nat.reduceLT, Nat.reduceMul, Nat.reduceSub, ↓reduceIte, Int.reduceLT, Int.reduceLE, Int.reduceNeg, Int.reduceAdd, Int.reduceEq, Nat.reduceBneDiff, Nat.reduceBEq, Int.reduceToNat, Int.reduceMul, Int.reduceSub, Int.reduceBEq, Int.reduceBNe, Int.cast_ofNat_Int, Int.toNat_natCast_add_one, Nat.add_left_cancel_iff, Nat.left_eq_add, Nat.add_eq_left, Int.toNat_natCast, Nat.add_assoc, Int.ofNat_lt, Int.ofNat_le, Nat.lt_add_one_of_lt, Nat.lt_add_one, Nat.lt_add_right, Nat.lt_add_right_iff_pos, Nat.add_lt_add_iff_left, hok.h.len, succ_in hn2, g10, g9, g8, hg]) | (refine Wi_split (fun hg => ?_) (fun hg => ?_) <;> simp -implicitDefEqProofs only [go_sem, Wk_block, reduceCtorEq, Nat.reduceEqDiff, Nat.reduceAdd, Nat.reduceLeDiff, Nat.reduceLT, Nat.reduceMul, Nat.reduceSub, ↓reduceIte, Int.reduceLT, Int.reduceLE, Int.reduceNeg, Int.reduceAdd, Int.reduceEq, Nat.reduceBneDiff, Nat.reduceBEq, Int.reduceToNat, Int.reduceMul, Int.reduceSub, Int.reduceBEq, Int.reduceBNe, Int.cast_ofNat_Int, Int.toNat_natCast_add_one, Nat.add_left_cancel_iff, Nat.left_eq_add, Nat.add_eq_left, Int.toNat_natCast, Nat.add_assoc, Int.ofNat_lt, Int.ofNat_le, Nat.lt_add_one_of_lt, Nat.lt_add_one, Nat.lt_add_right, Nat.lt_add_right_iff_pos, Nat.add_lt_add_iff_left, hok.h.len, succ_in hn2, g10, g9, g8, hg]))
    · exact ⟨⟨true, rfl⟩, f1.new _⟩
    · exact ⟨⟨true, rfl⟩, f1.new _⟩
    · refine IH (l.length - (j + 1)) _ _ (by omega) ⟨j + 1, rfl, by omega, ?_, ?_, ?_, f1.new _⟩
      all_goals simp only [go_sem, Wk_block, reduceCtorEq, Nat.reduceEqDiff, Nat.reduceAdd, Nat.reduceLeDiff, Nat.reduceLT, Nat.reduceMul, Nat.reduceSub, ↓reduceIte, Int.reduceLT, Int.reduceLE, Int.reduceNeg, Int.reduceAdd, Int.reduceEq, Nat.reduceBneDiff, Nat.reduceBEq, Int.reduceToNat, Int.reduceMul, Int.reduceSub, Int.reduceBEq, Int.reduceBNe, Int.cast_ofNat_Int, Int.toNat_natCast_add_one, Nat.add_left_cancel_iff, Nat.left_eq_add, Nat.add_eq_left, Int.toNat_natCast, Nat.add_assoc, Int.ofNat_lt, Int.ofNat_le, g10, g9, g8]
  · simp only [go_sem, Wk_block, reduceCtorEq, Nat.reduceEqDiff, Nat.reduceAdd, Nat.reduceLeDiff, Nat.reduceLT, Nat.reduceMul, Nat.reduceSub, ↓reduceIte, Int.reduceLT, Int.reduceLE, Int.reduceNeg, Int.reduceAdd, Int.reduceEq, Nat.reduceBneDiff, Nat.reduceBEq, Int.reduceToNat, Int.reduceMul, Int.reduceSub, Int.reduceBEq, Int.reduceBNe, Int.cast_ofNat_Int, Int.toNat_natCast_add_one, Nat.add_left_cancel_iff, Nat.left_eq_add, Nat.add_eq_left, Int.toNat_natCast, Nat.add_assoc, Int.ofNat_lt, Int.ofNat_le, g10, g9, g8, hlt]
    exact ⟨⟨false, rfl⟩, f1⟩

/-- What the loop leans on. -/
structure RI (s : St) (b c d : Nat) (S : Snd) (D : Lb) (last : Mg) (l : List Act) (v : AV) (ba oa : Nat) : Prop where
  lb : Lies s b S.enc
  lc : Lies s c D.enc
  ld : Lies s d last.enc
  hA : Acc s v 17 (l.map Act.enc) ba oa
  hk : ∀ a ∈ l, ActOk s a
  ltb : b < s.next
  ltc : c < s.next
  ltd : d < s.next
  bc : c ≠ b
  bd : d ≠ b
  cd : d ≠ c
  li : last.items = .nilSlice
  lh : last.haves = .nilSlice

theorem RI.mono {s s' : St} {b c d : Nat} {S : Snd} {D : Lb} {last : Mg} {l : List Act} {v : AV} {ba oa : Nat} (h : RI s b c d S D last l v ba oa) (f : Fr s s') : RI s' b c d S D last l v ba oa :=
  ⟨(f.get b h.ltb).trans h.lb, (f.get c h.ltc).trans h.lc, (f.get d h.ltd).trans h.ld, h.hA.mono f, fun a ha => (h.hk a ha).mono f, Nat.lt_of_lt_of_le h.ltb f.le, Nat.lt_of_lt_of_le h.ltc f.le, Nat.lt_of_lt_of_le h.ltd f.le, h.bc, h.bd, h.cd, h.li, h.lh⟩
theorem RI.x {s s' : St} {b c d : Nat} {S S' : Snd} {D : Lb} {last : Mg} {l : List Act} {v : AV} {ba oa : Nat} (h : RI s b c d S D last l v ba oa) (f : FrX b s s') (hb : Lies s' b S'.enc) : RI s' b c d S' D last l v ba oa :=
  ⟨hb, (f.get c h.ltc h.bc).trans h.lc, (f.get d h.ltd h.bd).trans h.ld, h.hA.monoX f h.lb, fun a ha => (h.hk a ha).monoX f h.lb, Nat.lt_of_lt_of_le h.ltb f.le, Nat.lt_of_lt_of_le h.ltc f.le, Nat.lt_of_lt_of_le h.ltd f.le, h.bc, h.bd, h.cd, h.li, h.lh⟩
theorem RI.c {s s' : St} {b c d : Nat} {S : Snd} {D D' : Lb} {last : Mg} {l : List Act} {v : AV} {ba oa : Nat} (h : RI s b c d S D last l v ba oa) (f : FrX c s s') (hc : Lies s' c D'.enc) : RI s' b c d S D' last l v ba oa :=
  ⟨(f.get b h.ltb h.bc.symm).trans h.lb, hc, (f.get d h.ltd h.cd).trans h.ld, h.hA.monoX f h.lc, fun a ha => (h.hk a ha).monoX f h.lc, Nat.lt_of_lt_of_le h.ltb f.le, Nat.lt_of_lt_of_le h.ltc f.le, Nat.lt_of_lt_of_le h.ltd f.le, h.bc, h.bd, h.cd, h.li, h.lh⟩
theorem RI.d {s s' : St} {b c d : Nat} {S : Snd} {D : Lb} {last last' : Mg} {l : List Act} {v : AV} {ba oa : Nat} (h : RI s b c d S D last l v ba oa) (f : FrX d s s') (hd : Lies s' d last'.enc) (li : last'.items = .nilSlice) (lh : last'.haves = .nilSlice) : RI s' b c d S D last' l v ba oa :=
  ⟨(f.get b h.ltb h.bd.symm).trans h.lb, (f.get c h.ltc h.cd.symm).trans h.lc, hd, h.hA.monoX f h.ld, fun a ha => (h.hk a ha).monoX f h.ld, Nat.lt_of_lt_of_le h.ltb f.le, Nat.lt_of_lt_of_le h.ltc f.le, Nat.lt_of_lt_of_le h.ltd f.le, h.bc, h.bd, h.cd, li, lh⟩

theorem rises_run : ∀ s a, ArgsOk s [.int .u32, .int .i64, .slice tyAct] a → Wf mm 6 a s fun v _ => v = .bool true := by
  intro s a ha
  obtain ⟨_, _, rfl, h0, ha⟩ := argsOk_cons ha
  obtain ⟨_, _, rfl, h1, ha⟩ := argsOk_cons ha
  obtain ⟨v, _, rfl, h2, ha⟩ := argsOk_cons ha
  obtain rfl := argsOk_nil ha
  obtain ⟨boot, rfl, hb1, hb2⟩ := argOk_int h0
  obtain ⟨retry, rfl, _, _⟩ := argOk_int h1
  obtain ⟨l, ba, oa, hA, hk⟩ := acts_of h2
  clear ha h1 h2
  have hb1 : 0 ≤ boot := hb1
  have hb2 : boot ≤ 4294967295 := hb2
  refine Wf_enter ft6 (sm (by decide)) (by rfl) ?_
  simp -implicitDefEqProofs only [go_sem, Wk_block, reduceCtorEq, Nat.reduceEqDiff, Nat.reduceAdd, Nat.reduceLeDiff, Nat.reduceLT, Nat.reduceMul, Nat.reduceSub, ↓reduceIte, Int.reduceLT, Int.reduceLE, Int.reduceNeg, Int.reduceAdd, Int.reduceEq, Nat.reduceBneDiff, Nat.reduceBEq, Int.reduceToNat, Int.reduceMul, Int.reduceSub, Int.reduceBEq, Int.reduceBNe, Int.cast_ofNat_Int, Int.toNat_natCast_add_one, Nat.add_left_cancel_iff, Nat.left_eq_add, Nat.add_eq_left, Int.toNat_natCast, Nat.add_assoc, Int.ofNat_lt, Int.ofNat_le, Nat.lt_add_one_of_lt, Nat.lt_add_one, Nat.lt_add_right, Nat.lt_add_right_iff_pos, Nat.add_lt_add_iff_left, fd6, Wl_eq (alive_eq _)]
  refine Wl_of (great_run l hA hk) ?_
  rintro _ s1 ⟨⟨g, rfl⟩, f1⟩
  simp only [go_sem, Wk_block, reduceCtorEq, Nat.reduceEqDiff, Nat.reduceAdd, Nat.reduceLeDiff, Nat.reduceLT, Nat.reduceMul, Nat.reduceSub, ↓reduceIte, Int.reduceLT, Int.reduceLE, Int.reduceNeg, Int.reduceAdd, Int.reduceEq, Nat.reduceBneDiff, Nat.reduceBEq, Int.reduceToNat, Int.reduceMul, Int.reduceSub, Int.reduceBEq, Int.reduceBNe, Int.cast_ofNat_Int, Int.toNat_natCast_add_one, Nat.add_left_cancel_iff, Nat.left_eq_add, Nat.add_eq_left, Int.toNat_natCast, Nat.add_assoc, Int.ofNat_lt, Int.ofNat_le]
  refine Wi_split (fun hg => ?_) (fun hg => ?_)
  · simp only [go_sem, Wk_block, reduceCtorEq, Nat.reduceEqDiff, Nat.reduceAdd, Nat.reduceLeDiff, Nat.reduceLT, Nat.reduceMul, Nat.reduceSub, ↓reduceIte, Int.reduceLT, Int.reduceLE, Int.reduceNeg, Int.reduceAdd, Int.reduceEq, Nat.reduceBneDiff, Nat.reduceBEq, Int.reduceToNat, Int.reduceMul, Int.reduceSub, Int.reduceBEq, Int.reduceBNe, Int.cast_ofNat_Int, Int.toNat_natCast_add_one, Nat.add_left_cancel_iff, Nat.left_eq_add, Nat.add_eq_left, Int.toNat_natCast, Nat.add_assoc, Int.ofNat_lt, Int.ofNat_le]
  simp only [go_sem, Wk_block, reduceCtorEq, Nat.reduceEqDiff, Nat.reduceAdd, Nat.reduceLeDiff, Nat.reduceLT, Nat.reduceMul, Nat.reduceSub, ↓reduceIte, Int.reduceLT, Int.reduceLE, Int.reduceNeg, Int.reduceAdd, Int.reduceEq, Nat.reduceBneDiff, Nat.reduceBEq, Int.reduceToNat, Int.reduceMul, Int.reduceSub, Int.reduceBEq, Int.reduceBNe, Int.cast_ofNat_Int, Int.toNat_natCast_add_one, Nat.add_left_cancel_iff, Nat.left_eq_add, Nat.add_eq_left, Int.toNat_natCast, Nat.add_assoc, Int.ofNat_lt, Int.ofNat_le]
  refine Wl_of (new_run boot retry hb1 hb2 s1) ?_
  rintro _ s2 ⟨rfl, hL2, f2, hlt2⟩
  have hA := (hA.mono f1).mono f2
  have hk := fun a ha => ((hk a ha).mono f1).mono f2
  obtain ⟨b, hb⟩ : ∃ b, s1.next = b := ⟨_, rfl⟩
  rw [hb] at hL2 hlt2 ⊢
  clear f1 f2 hb
  simp -implicitDefEqProofs only [go_sem, Wk_block, reduceCtorEq, Nat.reduceEqDiff, Nat.reduceAdd, Nat.reduceLeDiff, Nat.reduceLT, Nat.reduceMul, Nat.reduceSub, ↓reduceIte, Int.reduceLT, Int.reduceLE, Int.reduceNeg, Int.reduceAdd, Int.reduceEq, Nat.reduceBneDiff, Nat.reduceBEq, Int.reduceToNat, Int.reduceMul, Int.reduceSub, Int.reduceBEq, Int.reduceBNe, Int.cast_ofNat_Int, Int.toNat_natCast_add_one, Nat.add_left_cancel_iff, Nat.left_eq_add, Nat.add_eq_left, Int.toNat_natCast, Nat.add_assoc, Int.ofNat_lt, Int.ofNat_le, Nat.lt_add_one_of_lt, Nat.lt_add_one, Nat.lt_add_right, Nat.lt_add_right_iff_pos, Nat.add_lt_add_iff_left, hA.len, hlt2]
  obtain ⟨c, hc⟩ : ∃ c, s2.next = c := ⟨_, rfl⟩
  have hI : RI ((s2.new (.cells [.int .u32 0, .int .u32 0] false false 0)).new (.cells Mg.none.enc false false 0)) b c (c + 1) (Snd.new boot retry) ⟨0, 0⟩ Mg.none l v ba oa := by
    have f := ((Fr.refl s2).new (.cells [.int .u32 0, .int .u32 0] false false 0)).new (.cells Mg.none.enc false false 0)
    refine ⟨(f.get b hlt2).trans hL2, ?_, ?_, hA.mono f, fun a ha => (hk a ha).mono f, ?_, ?_, ?_, by omega, by omega, by omega, rfl, rfl⟩
    · rw [← hc]; simp -implicitDefEqProofs only [go_sem, Wk_block, reduceCtorEq, Nat.reduceEqDiff, Nat.reduceAdd, Nat.reduceLeDiff, Nat.reduceLT, Nat.reduceMul, Nat.reduceSub, ↓reduceIte, Int.reduceLT, Int.reduceLE, Int.reduceNeg, Int.reduceAdd, Int.reduceEq, Nat.reduceBneDiff, Nat.reduceBEq, Int.reduceToNat, Int.reduceMul, Int.reduceSub, Int.reduceBEq, Int.reduceBNe, Int.cast_ofNat_Int, Int.toNat_natCast_add_one, Nat.add_left_cancel_iff, Nat.left_eq_add, Nat.add_eq_left, Int.toNat_natCast, Nat.add_assoc, Int.ofNat_lt, Int.ofNat_le, Nat.lt_add_one_of_lt, Nat.lt_add_one, Nat.lt_add_right, Nat.lt_add_right_iff_pos, Nat.add_lt_add_iff_left, Lies, Lb.enc]
    · rw [← hc]; simp -implicitDefEqProofs only [go_sem, Wk_block, reduceCtorEq, Nat.reduceEqDiff, Nat.reduceAdd, Nat.reduceLeDiff, Nat.reduceLT, Nat.reduceMul, Nat.reduceSub, ↓reduceIte, Int.reduceLT, Int.reduceLE, Int.reduceNeg, Int.reduceAdd, Int.reduceEq, Nat.reduceBneDiff, Nat.reduceBEq, Int.reduceToNat, Int.reduceMul, Int.reduceSub, Int.reduceBEq, Int.reduceBNe, Int.cast_ofNat_Int, Int.toNat_natCast_add_one, Nat.add_left_cancel_iff, Nat.left_eq_add, Nat.add_eq_left, Int.toNat_natCast, Nat.add_assoc, Int.ofNat_lt, Int.ofNat_le, Nat.lt_add_one_of_lt, Nat.lt_add_one, Nat.lt_add_right, Nat.lt_add_right_iff_pos, Nat.add_lt_add_iff_left, Lies]
    · simp -implicitDefEqProofs only [go_sem, Wk_block, reduceCtorEq, Nat.reduceEqDiff, Nat.reduceAdd, Nat.reduceLeDiff, Nat.reduceLT, Nat.reduceMul, Nat.reduceSub, ↓reduceIte, Int.reduceLT, Int.reduceLE, Int.reduceNeg, Int.reduceAdd, Int.reduceEq, Nat.reduceBneDiff, Nat.reduceBEq, Int.reduceToNat, Int.reduceMul, Int.reduceSub, Int.reduceBEq, Int.reduceBNe, Int.cast_ofNat_Int, Int.toNat_natCast_add_one, Nat.add_left_cancel_iff, Nat.left_eq_add, Nat.add_eq_left, Int.toNat_natCast, Nat.add_assoc, Int.ofNat_lt, Int.ofNat_le, Nat.lt_add_one_of_lt, Nat.lt_add_one, Nat.lt_add_right, Nat.lt_add_right_iff_pos, Nat.add_lt_add_iff_left, hlt2]
    · rw [← hc]; simp -implicitDefEqProofs only [go_sem, Wk_block, reduceCtorEq, Nat.reduceEqDiff, Nat.reduceAdd, Nat.reduceLeDiff, Nat.reduceLT, Nat.reduceMul, Nat.reduceSub, ↓reduceIte, Int.reduceLT, Int.reduceLE, Int.reduceNeg, Int.reduceAdd, Int.reduceEq, Nat.reduceBneDiff, Nat.reduceBEq, Int.reduceToNat, Int.reduceMul, Int.reduceSub, Int.reduceBEq, Int.reduceBNe, Int.cast_ofNat_Int, Int.toNat_natCast_add_one, Nat.add_left_cancel_iff, Nat.left_eq_add, Nat.add_eq_left, Int.toNat_natCast, Nat.add_assoc, Int.ofNat_lt, Int.ofNat_le, Nat.lt_add_one_of_lt, Nat.lt_add_one, Nat.lt_add_right, Nat.lt_add_right_iff_pos, Nat.add_lt_add_iff_left, hlt2]
    · rw [← hc]; simp -implicitDefEqProofs only [go_sem, Wk_block, reduceCtorEq, Nat.reduceEqDiff, Nat.reduceAdd, Nat.reduceLeDiff, Nat.reduceLT, Nat.reduceMul, Nat.reduceSub, ↓reduceIte, Int.reduceLT, Int.reduceLE, Int.reduceNeg, Int.reduceAdd, Int.reduceEq, Nat.reduceBneDiff, Nat.reduceBEq, Int.reduceToNat, Int.reduceMul, Int.reduceSub, Int.reduceBEq, Int.reduceBNe, Int.cast_ofNat_Int, Int.toNat_natCast_add_one, Nat.add_left_cancel_iff, Nat.left_eq_add, Nat.add_eq_left, Int.toNat_natCast, Nat.add_assoc, Int.ofNat_lt, Int.ofNat_le, Nat.lt_add_one_of_lt, Nat.lt_add_one, Nat.lt_add_right, Nat.lt_add_right_iff_pos, Nat.add_lt_add_iff_left, hlt2]
  have hR := RInv.new hb1 hb2 retry
  have hLast : LInv (Snd.new boot retry) Mg.none := ⟨by simp [Snd.cur, Snd.new, Mg.none]; omega, fun h => (h rfl).elim⟩
  rw [hc]
  have hmax := hA.max
  rw [List.length_map] at hmax
  refine loop_ind (fun m ts s' => ∃ (j : Nat) (S : Snd) (last : Mg), m = l.length - j ∧ j ≤ l.length ∧ ts.get 25 = some (.int .i64 j) ∧ ts.get 24 = some (.int .i64 l.length) ∧ ts.get 23 = some v ∧ ts.get 7 = some (.ptr b 0) ∧ ts.get 8 = some (.ptr c 0) ∧ ts.get 9 = some (.ptr (c + 1) 0) ∧
    RI s' b c (c + 1) S S.done last l v ba oa ∧ RInv S ∧ LInv S last) ?_ (n := l.length)
    ⟨0, _, _, by omega, by omega, by simp only [go_sem, Wk_block, reduceCtorEq, Nat.reduceEqDiff, Nat.reduceAdd, Nat.reduceLeDiff, Nat.reduceLT, Nat.reduceMul, Nat.reduceSub, ↓reduceIte, Int.reduceLT, Int.reduceLE, Int.reduceNeg, Int.reduceAdd, Int.reduceEq, Nat.reduceBneDiff, Nat.reduceBEq, Int.reduceToNat, Int.reduceMul, Int.reduceSub, Int.reduceBEq, Int.reduceBNe, Int.cast_ofNat_Int, Int.toNat_natCast_add_one, Nat.add_left_cancel_iff, Nat.left_eq_add, Nat.add_eq_left, Int.toNat_natCast, Nat.add_assoc, Int.ofNat_lt, Int.ofNat_le], by simp only [go_sem, Wk_block, reduceCtorEq, Nat.reduceEqDiff, Nat.reduceAdd, Nat.reduceLeDiff, Nat.reduceLT, Nat.reduceMul, Nat.reduceSub, ↓reduceIte, Int.reduceLT, Int.reduceLE, Int.reduceNeg, Int.reduceAdd, Int.reduceEq, Nat.reduceBneDiff, Nat.reduceBEq, Int.reduceToNat, Int.reduceMul, Int.reduceSub, Int.reduceBEq, Int.reduceBNe, Int.cast_ofNat_Int, Int.toNat_natCast_add_one, Nat.add_left_cancel_iff, Nat.left_eq_add, Nat.add_eq_left, Int.toNat_natCast, Nat.add_assoc, Int.ofNat_lt, Int.ofNat_le, List.length_map], by simp only [go_sem, Wk_block, reduceCtorEq, Nat.reduceEqDiff, Nat.reduceAdd, Nat.reduceLeDiff, Nat.reduceLT, Nat.reduceMul, Nat.reduceSub, ↓reduceIte, Int.reduceLT, Int.reduceLE, Int.reduceNeg, Int.reduceAdd, Int.reduceEq, Nat.reduceBneDiff, Nat.reduceBEq, Int.reduceToNat, Int.reduceMul, Int.reduceSub, Int.reduceBEq, Int.reduceBNe, Int.cast_ofNat_Int, Int.toNat_natCast_add_one, Nat.add_left_cancel_iff, Nat.left_eq_add, Nat.add_eq_left, Int.toNat_natCast, Nat.add_assoc, Int.ofNat_lt, Int.ofNat_le], by simp only [go_sem, Wk_block, reduceCtorEq, Nat.reduceEqDiff, Nat.reduceAdd, Nat.reduceLeDiff, Nat.reduceLT, Nat.reduceMul, Nat.reduceSub, ↓reduceIte, Int.reduceLT, Int.reduceLE, Int.reduceNeg, Int.reduceAdd, Int.reduceEq, Nat.reduceBneDiff, Nat.reduceBEq, Int.reduceToNat, Int.reduceMul, Int.reduceSub, Int.reduceBEq, Int.reduceBNe, Int.cast_ofNat_Int, Int.toNat_natCast_add_one, Nat.add_left_cancel_iff, Nat.left_eq_add, Nat.add_eq_left, Int.toNat_natCast, Nat.add_assoc, Int.ofNat_lt, Int.ofNat_le], by simp only [go_sem, Wk_block, reduceCtorEq, Nat.reduceEqDiff, Nat.reduceAdd, Nat.reduceLeDiff, Nat.reduceLT, Nat.reduceMul, Nat.reduceSub, ↓reduceIte, Int.reduceLT, Int.reduceLE, Int.reduceNeg, Int.reduceAdd, Int.reduceEq, Nat.reduceBneDiff, Nat.reduceBEq, Int.reduceToNat, Int.reduceMul, Int.reduceSub, Int.reduceBEq, Int.reduceBNe, Int.cast_ofNat_Int, Int.toNat_natCast_add_one, Nat.add_left_cancel_iff, Nat.left_eq_add, Nat.add_eq_left, Int.toNat_natCast, Nat.add_assoc, Int.ofNat_lt, Int.ofNat_le], by simp only [go_sem, Wk_block, reduceCtorEq, Nat.reduceEqDiff, Nat.reduceAdd, Nat.reduceLeDiff, Nat.reduceLT, Nat.reduceMul, Nat.reduceSub, ↓reduceIte, Int.reduceLT, Int.reduceLE, Int.reduceNeg, Int.reduceAdd, Int.reduceEq, Nat.reduceBneDiff, Nat.reduceBEq, Int.reduceToNat, Int.reduceMul, Int.reduceSub, Int.reduceBEq, Int.reduceBNe, Int.cast_ofNat_Int, Int.toNat_natCast_add_one, Nat.add_left_cancel_iff, Nat.left_eq_add, Nat.add_eq_left, Int.toNat_natCast, Nat.add_assoc, Int.ofNat_lt, Int.ofNat_le], hI, hR, hLast⟩
  clear hI hR hLast hA hk hL2 hlt2
  rintro m ts s3 ⟨j, S, last, rfl, hj, g25, g24, g23, g7, g8, g9, I3, hR, hLast⟩ IH
  by_cases hlt : j < l.length
  · have hjl : j < (l.map Act.enc).length := by rw [List.length_map]; exact hlt
    obtain ⟨vs, hv, hle, he⟩ := I3.hA.at_ j hjl
    have hok := I3.hk l[j] (List.getElem_mem hlt)
    rw [List.getElem_map] at he
    have hin : l[j] ∈ l := List.getElem_mem hlt
    generalize l[j] = a at he hok hin
    have he' := he
    unfold Act.enc at he'
    have hn2 : j < 9223372036854775807 := by unfold maxLen at hmax; omega
    simp -implicitDefEqProofs only [go_sem, reduceCtorEq, Nat.reduceEqDiff, Nat.reduceAdd, Nat.reduceLeDiff, Nat.reduceLT, Nat.reduceMul, Nat.reduceSub, ↓reduceIte, Int.reduceLT, Int.reduceLE, Int.reduceNeg, Int.reduceAdd, Int.reduceEq, Nat.reduceBneDiff, Nat.reduceBEq, Int.reduceToNat, Int.reduceMul, Int.reduceSub, Int.reduceBEq, Int.reduceBNe, Int.cast_ofNat_Int, Int.toNat_natCast_add_one, Nat.add_left_cancel_iff, Nat.left_eq_add, Nat.add_eq_left, Int.toNat_natCast, Nat.add_assoc, Int.ofNat_lt, Int.ofNat_le, Nat.lt_add_one_of_lt, Nat.lt_add_one, Nat.lt_add_right, Nat.lt_add_right_iff_pos, Nat.add_lt_add_iff_left, Wk_block (id := 1), g25, g24, g23, g7, g8, g9, hlt, I3.hA.idx _ _ hjl, hv, hle, he', hok.ic, hok.h.cell, hok.o.cell]
    have I4 := I3.mono ((Fr.refl s3).new (.cells a.enc false false 0))
    have hok4 := hok.mono ((Fr.refl s3).new (.cells a.enc false false 0))
    obtain ⟨q, hq⟩ : ∃ q, s3.next = q := ⟨_, rfl⟩
    have hqa : (s3.new (.cells a.enc false false 0)).get q = some (.cells a.enc false false 0) := by rw [← hq]; simp only [St.get_new, if_true]
    have hqb : q ≠ b := by have := I3.ltb; omega
    have hqn : q < (s3.new (.cells a.enc false false 0)).next := by rw [← hq]; exact Nat.lt_succ_self _
    unfold Act.enc at I4 hok4 hqa hqn
    rw [hq]
    generalize s3.new (.cells [.int .i64 a.kind, .int .i64 a.n, .int .u32 a.label.e, .int .u32 a.label.q, .int .i64 a.msg.kind, .int .u32 a.msg.epoch, .int .u64 a.msg.sess, .int .u32 a.msg.target.e, .int .u32 a.msg.target.q, .int .u32 a.msg.base.e, .int .u32 a.msg.base.q,
      .int .i64 a.msg.index, .int .i64 a.msg.total, .int .u32 a.msg.tick, a.msg.items, a.msg.haves, a.own] false false 0) = s4 at I4 hok4 hqa hqn ⊢
    clear I3 hok hv hle he he' hq
    refine Wk_cut (fun ts' s' => ts'.get 25 = some (.int .i64 j) ∧ ts'.get 24 = some (.int .i64 l.length) ∧ ts'.get 23 = some v ∧ ts'.get 7 = some (.ptr b 0) ∧ ts'.get 8 = some (.ptr c 0) ∧ ts'.get 9 = some (.ptr (c + 1) 0) ∧
      RI s' b c (c + 1) (S.step a) S.done last l v ba oa) ?_ ?_
    · simp only [go_sem, Wk_block, reduceCtorEq, Nat.reduceEqDiff, Nat.reduceAdd, Nat.reduceLeDiff, Nat.reduceLT, Nat.reduceMul, Nat.reduceSub, ↓reduceIte, Int.reduceLT, Int.reduceLE, Int.reduceNeg, Int.reduceAdd, Int.reduceEq, Nat.reduceBneDiff, Nat.reduceBEq, Int.reduceToNat, Int.reduceMul, Int.reduceSub, Int.reduceBEq, Int.reduceBNe, Int.cast_ofNat_Int, Int.toNat_natCast_add_one, Nat.add_left_cancel_iff, Nat.left_eq_add, Nat.add_eq_left, Int.toNat_natCast, Nat.add_assoc, Int.ofNat_lt, Int.ofNat_le]
      refine Wi_split (fun hg => ?_) (fun hg => ?_)
      · have h0 : a.kind = 0 := by simpa using hg
        simp only [go_sem, Wk_block, reduceCtorEq, Nat.reduceEqDiff, Nat.reduceAdd, Nat.reduceLeDiff, Nat.reduceLT, Nat.reduceMul, Nat.reduceSub, ↓reduceIte, Int.reduceLT, Int.reduceLE, Int.reduceNeg, Int.reduceAdd, Int.reduceEq, Nat.reduceBneDiff, Nat.reduceBEq, Int.reduceToNat, Int.reduceMul, Int.reduceSub, Int.reduceBEq, Int.reduceBNe, Int.cast_ofNat_Int, Int.toNat_natCast_add_one, Nat.add_left_cancel_iff, Nat.left_eq_add, Nat.add_eq_left, Int.toNat_natCast, Nat.add_assoc, Int.ofNat_lt, Int.ofNat_le, g7, hqa]
        refine Wl_of (Start_run S hR.wf a.label I4.lb I4.ltb) ?_
        rintro _ s5 ⟨rfl, h5, f5⟩
        simp only [go_sem, Wk_block, reduceCtorEq, Nat.reduceEqDiff, Nat.reduceAdd, Nat.reduceLeDiff, Nat.reduceLT, Nat.reduceMul, Nat.reduceSub, ↓reduceIte, Int.reduceLT, Int.reduceLE, Int.reduceNeg, Int.reduceAdd, Int.reduceEq, Nat.reduceBneDiff, Nat.reduceBEq, Int.reduceToNat, Int.reduceMul, Int.reduceSub, Int.reduceBEq, Int.reduceBNe, Int.cast_ofNat_Int, Int.toNat_natCast_add_one, Nat.add_left_cancel_iff, Nat.left_eq_add, Nat.add_eq_left, Int.toNat_natCast, Nat.add_assoc, Int.ofNat_lt, Int.ofNat_le, Wr_nil, g25, g24, g23, g7, g8, g9]
        exact I4.x f5 (by rw [Snd.step, if_pos h0]; exact h5)
      have h0 : ¬ a.kind = 0 := by simpa using hg
      simp only [go_sem, Wk_block, reduceCtorEq, Nat.reduceEqDiff, Nat.reduceAdd, Nat.reduceLeDiff, Nat.reduceLT, Nat.reduceMul, Nat.reduceSub, ↓reduceIte, Int.reduceLT, Int.reduceLE, Int.reduceNeg, Int.reduceAdd, Int.reduceEq, Nat.reduceBneDiff, Nat.reduceBEq, Int.reduceToNat, Int.reduceMul, Int.reduceSub, Int.reduceBEq, Int.reduceBNe, Int.cast_ofNat_Int, Int.toNat_natCast_add_one, Nat.add_left_cancel_iff, Nat.left_eq_add, Nat.add_eq_left, Int.toNat_natCast, Nat.add_assoc, Int.ofNat_lt, Int.ofNat_le, g7, hqa]
      refine Wi_split (fun hg => ?_) (fun hg => ?_)
      · have h1 : a.kind = 1 := by simpa using hg
        simp only [go_sem, Wk_block, reduceCtorEq, Nat.reduceEqDiff, Nat.reduceAdd, Nat.reduceLeDiff, Nat.reduceLT, Nat.reduceMul, Nat.reduceSub, ↓reduceIte, Int.reduceLT, Int.reduceLE, Int.reduceNeg, Int.reduceAdd, Int.reduceEq, Nat.reduceBneDiff, Nat.reduceBEq, Int.reduceToNat, Int.reduceMul, Int.reduceSub, Int.reduceBEq, Int.reduceBNe, Int.cast_ofNat_Int, Int.toNat_natCast_add_one, Nat.add_left_cancel_iff, Nat.left_eq_add, Nat.add_eq_left, Int.toNat_natCast, Nat.add_assoc, Int.ofNat_lt, Int.ofNat_le, g7, hqa]
        refine Wl_of (Have_run S a.msg a.hs a.ow a.own I4.lb I4.ltb hok4.h hok4.o) ?_
        rintro _ s5 ⟨rfl, h5, f5⟩
        have hqa5 := (f5.get q hqn hqb).trans hqa
        simp only [go_sem, Wk_block, reduceCtorEq, Nat.reduceEqDiff, Nat.reduceAdd, Nat.reduceLeDiff, Nat.reduceLT, Nat.reduceMul, Nat.reduceSub, ↓reduceIte, Int.reduceLT, Int.reduceLE, Int.reduceNeg, Int.reduceAdd, Int.reduceEq, Nat.reduceBneDiff, Nat.reduceBEq, Int.reduceToNat, Int.reduceMul, Int.reduceSub, Int.reduceBEq, Int.reduceBNe, Int.cast_ofNat_Int, Int.toNat_natCast_add_one, Nat.add_left_cancel_iff, Nat.left_eq_add, Nat.add_eq_left, Int.toNat_natCast, Nat.add_assoc, Int.ofNat_lt, Int.ofNat_le]
        refine Wi_split (fun hg => ?_) (fun hg => ?_)
        · simp only [go_sem, Wk_block, reduceCtorEq, Nat.reduceEqDiff, Nat.reduceAdd, Nat.reduceLeDiff, Nat.reduceLT, Nat.reduceMul, Nat.reduceSub, ↓reduceIte, Int.reduceLT, Int.reduceLE, Int.reduceNeg, Int.reduceAdd, Int.reduceEq, Nat.reduceBneDiff, Nat.reduceBEq, Int.reduceToNat, Int.reduceMul, Int.reduceSub, Int.reduceBEq, Int.reduceBNe, Int.cast_ofNat_Int, Int.toNat_natCast_add_one, Nat.add_left_cancel_iff, Nat.left_eq_add, Nat.add_eq_left, Int.toNat_natCast, Nat.add_assoc, Int.ofNat_lt, Int.ofNat_le, g7, hqa5]
          refine Wl_of (Plan_run _ a.msg a.n h5 (Nat.lt_of_lt_of_le I4.ltb f5.le)) ?_
          rintro _ s6 ⟨h6, f6⟩
          simp only [go_sem, Wk_block, reduceCtorEq, Nat.reduceEqDiff, Nat.reduceAdd, Nat.reduceLeDiff, Nat.reduceLT, Nat.reduceMul, Nat.reduceSub, ↓reduceIte, Int.reduceLT, Int.reduceLE, Int.reduceNeg, Int.reduceAdd, Int.reduceEq, Nat.reduceBneDiff, Nat.reduceBEq, Int.reduceToNat, Int.reduceMul, Int.reduceSub, Int.reduceBEq, Int.reduceBNe, Int.cast_ofNat_Int, Int.toNat_natCast_add_one, Nat.add_left_cancel_iff, Nat.left_eq_add, Nat.add_eq_left, Int.toNat_natCast, Nat.add_assoc, Int.ofNat_lt, Int.ofNat_le, Wr_nil, g25, g24, g23, g7, g8, g9]
          exact I4.x (f5.trans f6) (by rw [Snd.step, if_neg h0, if_pos h1, if_pos hg]; exact h6)
        · simp only [go_sem, Wk_block, reduceCtorEq, Nat.reduceEqDiff, Nat.reduceAdd, Nat.reduceLeDiff, Nat.reduceLT, Nat.reduceMul, Nat.reduceSub, ↓reduceIte, Int.reduceLT, Int.reduceLE, Int.reduceNeg, Int.reduceAdd, Int.reduceEq, Nat.reduceBneDiff, Nat.reduceBEq, Int.reduceToNat, Int.reduceMul, Int.reduceSub, Int.reduceBEq, Int.reduceBNe, Int.cast_ofNat_Int, Int.toNat_natCast_add_one, Nat.add_left_cancel_iff, Nat.left_eq_add, Nat.add_eq_left, Int.toNat_natCast, Nat.add_assoc, Int.ofNat_lt, Int.ofNat_le, Wr_nil, g25, g24, g23, g7, g8, g9]
          exact I4.x f5 (by rw [Snd.step, if_neg h0, if_pos h1, if_neg (by rw [hg]; decide)]; exact h5)
      have h1 : ¬ a.kind = 1 := by simpa using hg
      simp only [go_sem, Wk_block, reduceCtorEq, Nat.reduceEqDiff, Nat.reduceAdd, Nat.reduceLeDiff, Nat.reduceLT, Nat.reduceMul, Nat.reduceSub, ↓reduceIte, Int.reduceLT, Int.reduceLE, Int.reduceNeg, Int.reduceAdd, Int.reduceEq, Nat.reduceBneDiff, Nat.reduceBEq, Int.reduceToNat, Int.reduceMul, Int.reduceSub, Int.reduceBEq, Int.reduceBNe, Int.cast_ofNat_Int, Int.toNat_natCast_add_one, Nat.add_left_cancel_iff, Nat.left_eq_add, Nat.add_eq_left, Int.toNat_natCast, Nat.add_assoc, Int.ofNat_lt, Int.ofNat_le, g7, hqa]
      refine Wi_split (fun hg => ?_) (fun hg => ?_)
      · have h3 : a.kind = 3 := by simpa using hg
        simp only [go_sem, Wk_block, reduceCtorEq, Nat.reduceEqDiff, Nat.reduceAdd, Nat.reduceLeDiff, Nat.reduceLT, Nat.reduceMul, Nat.reduceSub, ↓reduceIte, Int.reduceLT, Int.reduceLE, Int.reduceNeg, Int.reduceAdd, Int.reduceEq, Nat.reduceBneDiff, Nat.reduceBEq, Int.reduceToNat, Int.reduceMul, Int.reduceSub, Int.reduceBEq, Int.reduceBNe, Int.cast_ofNat_Int, Int.toNat_natCast_add_one, Nat.add_left_cancel_iff, Nat.left_eq_add, Nat.add_eq_left, Int.toNat_natCast, Nat.add_assoc, Int.ofNat_lt, Int.ofNat_le, g7, hqa]
        refine Wl_of (Ack_run S a.msg I4.lb I4.ltb) ?_
        rintro _ s5 ⟨rfl, h5, f5⟩
        simp only [go_sem, Wk_block, reduceCtorEq, Nat.reduceEqDiff, Nat.reduceAdd, Nat.reduceLeDiff, Nat.reduceLT, Nat.reduceMul, Nat.reduceSub, ↓reduceIte, Int.reduceLT, Int.reduceLE, Int.reduceNeg, Int.reduceAdd, Int.reduceEq, Nat.reduceBneDiff, Nat.reduceBEq, Int.reduceToNat, Int.reduceMul, Int.reduceSub, Int.reduceBEq, Int.reduceBNe, Int.cast_ofNat_Int, Int.toNat_natCast_add_one, Nat.add_left_cancel_iff, Nat.left_eq_add, Nat.add_eq_left, Int.toNat_natCast, Nat.add_assoc, Int.ofNat_lt, Int.ofNat_le, Wr_nil, g25, g24, g23, g7, g8, g9]
        exact I4.x f5 (by rw [Snd.step, if_neg h0, if_neg h1, if_pos h3]; exact h5)
      have h3 : ¬ a.kind = 3 := by simpa using hg
      simp only [go_sem, Wk_block, reduceCtorEq, Nat.reduceEqDiff, Nat.reduceAdd, Nat.reduceLeDiff, Nat.reduceLT, Nat.reduceMul, Nat.reduceSub, ↓reduceIte, Int.reduceLT, Int.reduceLE, Int.reduceNeg, Int.reduceAdd, Int.reduceEq, Nat.reduceBneDiff, Nat.reduceBEq, Int.reduceToNat, Int.reduceMul, Int.reduceSub, Int.reduceBEq, Int.reduceBNe, Int.cast_ofNat_Int, Int.toNat_natCast_add_one, Nat.add_left_cancel_iff, Nat.left_eq_add, Nat.add_eq_left, Int.toNat_natCast, Nat.add_assoc, Int.ofNat_lt, Int.ofNat_le, g7, hqa]
      refine Wi_split (fun hg => ?_) (fun hg => ?_)
      · have h4 : a.kind = 4 := by simpa using hg
        simp only [go_sem, Wk_block, reduceCtorEq, Nat.reduceEqDiff, Nat.reduceAdd, Nat.reduceLeDiff, Nat.reduceLT, Nat.reduceMul, Nat.reduceSub, ↓reduceIte, Int.reduceLT, Int.reduceLE, Int.reduceNeg, Int.reduceAdd, Int.reduceEq, Nat.reduceBneDiff, Nat.reduceBEq, Int.reduceToNat, Int.reduceMul, Int.reduceSub, Int.reduceBEq, Int.reduceBNe, Int.cast_ofNat_Int, Int.toNat_natCast_add_one, Nat.add_left_cancel_iff, Nat.left_eq_add, Nat.add_eq_left, Int.toNat_natCast, Nat.add_assoc, Int.ofNat_lt, Int.ofNat_le, g7, hqa]
        refine Wl_of (Nack_run S hR.wf a.msg I4.lb I4.ltb) ?_
        rintro _ s5 ⟨rfl, h5, f5⟩
        simp only [go_sem, Wk_block, reduceCtorEq, Nat.reduceEqDiff, Nat.reduceAdd, Nat.reduceLeDiff, Nat.reduceLT, Nat.reduceMul, Nat.reduceSub, ↓reduceIte, Int.reduceLT, Int.reduceLE, Int.reduceNeg, Int.reduceAdd, Int.reduceEq, Nat.reduceBneDiff, Nat.reduceBEq, Int.reduceToNat, Int.reduceMul, Int.reduceSub, Int.reduceBEq, Int.reduceBNe, Int.cast_ofNat_Int, Int.toNat_natCast_add_one, Nat.add_left_cancel_iff, Nat.left_eq_add, Nat.add_eq_left, Int.toNat_natCast, Nat.add_assoc, Int.ofNat_lt, Int.ofNat_le, Wr_nil, g25, g24, g23, g7, g8, g9]
        exact I4.x f5 (by rw [Snd.step, if_neg h0, if_neg h1, if_neg h3, if_pos h4]; exact h5)
      have h4 : ¬ a.kind = 4 := by simpa using hg
      simp only [go_sem, Wk_block, reduceCtorEq, Nat.reduceEqDiff, Nat.reduceAdd, Nat.reduceLeDiff, Nat.reduceLT, Nat.reduceMul, Nat.reduceSub, ↓reduceIte, Int.reduceLT, Int.reduceLE, Int.reduceNeg, Int.reduceAdd, Int.reduceEq, Nat.reduceBneDiff, Nat.reduceBEq, Int.reduceToNat, Int.reduceMul, Int.reduceSub, Int.reduceBEq, Int.reduceBNe, Int.cast_ofNat_Int, Int.toNat_natCast_add_one, Nat.add_left_cancel_iff, Nat.left_eq_add, Nat.add_eq_left, Int.toNat_natCast, Nat.add_assoc, Int.ofNat_lt, Int.ofNat_le, g7, hqa]
      refine Wi_split (fun hg => ?_) (fun hg => ?_)
      · have h5' : a.kind = 5 := by simpa using hg
        simp only [go_sem, Wk_block, reduceCtorEq, Nat.reduceEqDiff, Nat.reduceAdd, Nat.reduceLeDiff, Nat.reduceLT, Nat.reduceMul, Nat.reduceSub, ↓reduceIte, Int.reduceLT, Int.reduceLE, Int.reduceNeg, Int.reduceAdd, Int.reduceEq, Nat.reduceBneDiff, Nat.reduceBEq, Int.reduceToNat, Int.reduceMul, Int.reduceSub, Int.reduceBEq, Int.reduceBNe, Int.cast_ofNat_Int, Int.toNat_natCast_add_one, Nat.add_left_cancel_iff, Nat.left_eq_add, Nat.add_eq_left, Int.toNat_natCast, Nat.add_assoc, Int.ofNat_lt, Int.ofNat_le, g7, hqa]
        refine Wl_of (Tick_run S hR.wf I4.lb) ?_
        rintro _ s5 ⟨rfl, h5, f5⟩
        simp only [go_sem, Wk_block, reduceCtorEq, Nat.reduceEqDiff, Nat.reduceAdd, Nat.reduceLeDiff, Nat.reduceLT, Nat.reduceMul, Nat.reduceSub, ↓reduceIte, Int.reduceLT, Int.reduceLE, Int.reduceNeg, Int.reduceAdd, Int.reduceEq, Nat.reduceBneDiff, Nat.reduceBEq, Int.reduceToNat, Int.reduceMul, Int.reduceSub, Int.reduceBEq, Int.reduceBNe, Int.cast_ofNat_Int, Int.toNat_natCast_add_one, Nat.add_left_cancel_iff, Nat.left_eq_add, Nat.add_eq_left, Int.toNat_natCast, Nat.add_assoc, Int.ofNat_lt, Int.ofNat_le, Wr_nil, g25, g24, g23, g7, g8, g9]
        exact I4.x f5 (by rw [Snd.step, if_neg h0, if_neg h1, if_neg h3, if_neg h4, if_pos h5']; exact h5)
      have h5 : ¬ a.kind = 5 := by simpa using hg
      simp only [go_sem, Wk_block, reduceCtorEq, Nat.reduceEqDiff, Nat.reduceAdd, Nat.reduceLeDiff, Nat.reduceLT, Nat.reduceMul, Nat.reduceSub, ↓reduceIte, Int.reduceLT, Int.reduceLE, Int.reduceNeg, Int.reduceAdd, Int.reduceEq, Nat.reduceBneDiff, Nat.reduceBEq, Int.reduceToNat, Int.reduceMul, Int.reduceSub, Int.reduceBEq, Int.reduceBNe, Int.cast_ofNat_Int, Int.toNat_natCast_add_one, Nat.add_left_cancel_iff, Nat.left_eq_add, Nat.add_eq_left, Int.toNat_natCast, Nat.add_assoc, Int.ofNat_lt, Int.ofNat_le, g7, hqa]
      refine Wi_split (fun hg => ?_) (fun hg => ?_)
      · have h6 : a.kind = 6 := by simpa using hg
        simp only [go_sem, Wk_block, reduceCtorEq, Nat.reduceEqDiff, Nat.reduceAdd, Nat.reduceLeDiff, Nat.reduceLT, Nat.reduceMul, Nat.reduceSub, ↓reduceIte, Int.reduceLT, Int.reduceLE, Int.reduceNeg, Int.reduceAdd, Int.reduceEq, Nat.reduceBneDiff, Nat.reduceBEq, Int.reduceToNat, Int.reduceMul, Int.reduceSub, Int.reduceBEq, Int.reduceBNe, Int.cast_ofNat_Int, Int.toNat_natCast_add_one, Nat.add_left_cancel_iff, Nat.left_eq_add, Nat.add_eq_left, Int.toNat_natCast, Nat.add_assoc, Int.ofNat_lt, Int.ofNat_le, g7, hqa]
        refine Wl_of (Stop_run S I4.lb) ?_
        rintro _ s5 ⟨h5', f5⟩
        simp only [go_sem, Wk_block, reduceCtorEq, Nat.reduceEqDiff, Nat.reduceAdd, Nat.reduceLeDiff, Nat.reduceLT, Nat.reduceMul, Nat.reduceSub, ↓reduceIte, Int.reduceLT, Int.reduceLE, Int.reduceNeg, Int.reduceAdd, Int.reduceEq, Nat.reduceBneDiff, Nat.reduceBEq, Int.reduceToNat, Int.reduceMul, Int.reduceSub, Int.reduceBEq, Int.reduceBNe, Int.cast_ofNat_Int, Int.toNat_natCast_add_one, Nat.add_left_cancel_iff, Nat.left_eq_add, Nat.add_eq_left, Int.toNat_natCast, Nat.add_assoc, Int.ofNat_lt, Int.ofNat_le, Wr_nil, g25, g24, g23, g7, g8, g9]
        exact I4.x f5 (by rw [Snd.step, if_neg h0, if_neg h1, if_neg h3, if_neg h4, if_neg h5, if_pos h6]; exact h5')
      have h6 : ¬ a.kind = 6 := by simpa using hg
      simp only [go_sem, Wk_block, reduceCtorEq, Nat.reduceEqDiff, Nat.reduceAdd, Nat.reduceLeDiff, Nat.reduceLT, Nat.reduceMul, Nat.reduceSub, ↓reduceIte, Int.reduceLT, Int.reduceLE, Int.reduceNeg, Int.reduceAdd, Int.reduceEq, Nat.reduceBneDiff, Nat.reduceBEq, Int.reduceToNat, Int.reduceMul, Int.reduceSub, Int.reduceBEq, Int.reduceBNe, Int.cast_ofNat_Int, Int.toNat_natCast_add_one, Nat.add_left_cancel_iff, Nat.left_eq_add, Nat.add_eq_left, Int.toNat_natCast, Nat.add_assoc, Int.ofNat_lt, Int.ofNat_le, Wr_nil, g25, g24, g23, g7, g8, g9]
      exact I4.x (FrX.refl _ _) (by rw [Snd.step, if_neg h0, if_neg h1, if_neg h3, if_neg h4, if_neg h5, if_neg h6]; exact I4.lb)
    · have hpos : a.label.pos := ⟨hok4.le, hok4.lq⟩
      have hR' := hR.step a hpos
      have hL' := Later.step hR a
      have hLast' := hLast.later hL'
      have hdone := hL'.done
      clear I4 hok4 hqa hqb hqn hR hLast g25 g24 g23 g7 g8 g9 hL'
      generalize S.step a = S' at *
      rintro ts s5 ⟨g25, g24, g23, g7, g8, g9, I5⟩
      have next : ∀ (ts' : Tr AV) (s' : St) (last' : Mg), ts'.get 25 = some (.int .i64 ((j + 1 : Nat) : Int)) → ts'.get 24 = some (.int .i64 l.length) → ts'.get 23 = some v → ts'.get 7 = some (.ptr b 0) → ts'.get 8 = some (.ptr c 0) → ts'.get 9 = some (.ptr (c + 1) 0) →
          RI s' b c (c + 1) S' S'.done last' l v ba oa → LInv S' last' → _ := fun ts' s' last' a1 a2 a3 a4 a5 a6 a7 a8 => IH (l.length - (j + 1)) ts' s' (by omega) ⟨j + 1, S', last', rfl, by omega, a1, a2, a3, a4, a5, a6, a7, hR', a8⟩
      clear IH
      simp only [go_sem, Wk_block, reduceCtorEq, Nat.reduceEqDiff, Nat.reduceAdd, Nat.reduceLeDiff, Nat.reduceLT, Nat.reduceMul, Nat.reduceSub, ↓reduceIte, Int.reduceLT, Int.reduceLE, Int.reduceNeg, Int.reduceAdd, Int.reduceEq, Nat.reduceBneDiff, Nat.reduceBEq, Int.reduceToNat, Int.reduceMul, Int.reduceSub, Int.reduceBEq, Int.reduceBNe, Int.cast_ofNat_Int, Int.toNat_natCast_add_one, Nat.add_left_cancel_iff, Nat.left_eq_add, Nat.add_eq_left, Int.toNat_natCast, Nat.add_assoc, Int.ofNat_lt, Int.ofNat_le, g7]
      refine Wl_of (Done_run S' I5.lb I5.ltb) ?_
      rintro _ s6 ⟨rfl, f6⟩
      have I6 := I5.mono f6
      have c5 := I5.lc
      have c6 := I6.lc
      unfold Lies Lb.enc at c5 c6
      simp only [go_sem, Wk_block, reduceCtorEq, Nat.reduceEqDiff, Nat.reduceAdd, Nat.reduceLeDiff, Nat.reduceLT, Nat.reduceMul, Nat.reduceSub, ↓reduceIte, Int.reduceLT, Int.reduceLE, Int.reduceNeg, Int.reduceAdd, Int.reduceEq, Nat.reduceBneDiff, Nat.reduceBEq, Int.reduceToNat, Int.reduceMul, Int.reduceSub, Int.reduceBEq, Int.reduceBNe, Int.cast_ofNat_Int, Int.toNat_natCast_add_one, Nat.add_left_cancel_iff, Nat.left_eq_add, Nat.add_eq_left, Int.toNat_natCast, Nat.add_assoc, Int.ofNat_lt, Int.ofNat_le, Lb.enc, g8, c6]
      refine Wl_of (less_run S'.done S.done _) ?_
      rintro _ s7 ⟨rfl, f7⟩
      have I7 := I6.mono f7
      simp only [go_sem, Wk_block, reduceCtorEq, Nat.reduceEqDiff, Nat.reduceAdd, Nat.reduceLeDiff, Nat.reduceLT, Nat.reduceMul, Nat.reduceSub, ↓reduceIte, Int.reduceLT, Int.reduceLE, Int.reduceNeg, Int.reduceAdd, Int.reduceEq, Nat.reduceBneDiff, Nat.reduceBEq, Int.reduceToNat, Int.reduceMul, Int.reduceSub, Int.reduceBEq, Int.reduceBNe, Int.cast_ofNat_Int, Int.toNat_natCast_add_one, Nat.add_left_cancel_iff, Nat.left_eq_add, Nat.add_eq_left, Int.toNat_natCast, Nat.add_assoc, Int.ofNat_lt, Int.ofNat_le, g7, g8, c5, c6, hdone]
      clear I5 f6 f7 I6 c5 c6
      refine Wl_of (Done_run S' I7.lb I7.ltb) ?_
      rintro _ s8 ⟨rfl, f8⟩
      have I8 := I7.mono f8
      have c8 := I8.lc
      unfold Lies Lb.enc at c8
      simp only [go_sem, Wk_block, reduceCtorEq, Nat.reduceEqDiff, Nat.reduceAdd, Nat.reduceLeDiff, Nat.reduceLT, Nat.reduceMul, Nat.reduceSub, ↓reduceIte, Int.reduceLT, Int.reduceLE, Int.reduceNeg, Int.reduceAdd, Int.reduceEq, Nat.reduceBneDiff, Nat.reduceBEq, Int.reduceToNat, Int.reduceMul, Int.reduceSub, Int.reduceBEq, Int.reduceBNe, Int.cast_ofNat_Int, Int.toNat_natCast_add_one, Nat.add_left_cancel_iff, Nat.left_eq_add, Nat.add_eq_left, Int.toNat_natCast, Nat.add_assoc, Int.ofNat_lt, Int.ofNat_le, Lb.enc, g7, g8, c8]
      have I9 : RI (s8.put c (.cells S'.done.enc false false 0)) b c (c + 1) S' S'.done last l v ba oa := I8.c ((FrX.refl c s8).put (.inl rfl) _) (by simp only [Lies, St.get_put, if_true])
      clear I7 f8 I8 c8
      unfold Lb.enc at I9
      generalize s8.put c (.cells [.int .u32 S'.done.e, .int .u32 S'.done.q] false false 0) = s9 at I9 ⊢
      refine Wl_of (Out_run S' 1 I9.lb I9.ltb) ?_
      rintro _ s10 ⟨rfl, f10⟩
      have I10 := I9.mono f10
      have hnil : (S'.out 1).1.items = .nilSlice ∧ (S'.out 1).1.haves = .nilSlice := by
        unfold Snd.out
        split
        · exact ⟨rfl, rfl⟩
        · split <;> exact ⟨rfl, rfl⟩
      have hsay := said_ok (e := 1) hR' hLast'
      clear I9 f10
      generalize S'.out 1 = o at *
      obtain ⟨m, k⟩ := o
      dsimp only at hnil hsay
      obtain ⟨e, he⟩ : ∃ e, s10.next = e := ⟨_, rfl⟩
      have hec : c < e := by have := I10.ltc; omega
      have hed : c + 1 < e := by have := I10.ltd; omega
      have heb : b < e := by have := I10.ltb; omega
      have I11 := I10.mono ((Fr.refl s10).new (.cells m.enc false false 0))
      have hm : (s10.new (.cells m.enc false false 0)).get e = some (.cells m.enc false false 0) := by rw [← he]; simp only [St.get_new, if_true]
      have hen : e < (s10.new (.cells m.enc false false 0)).next := by rw [← he]; exact Nat.lt_succ_self _
      clear I10
      unfold Mg.enc at I11 hm hen
      rw [hnil.1, hnil.2] at I11 hm hen
      simp only [go_sem, Wk_block, reduceCtorEq, Nat.reduceEqDiff, Nat.reduceAdd, Nat.reduceLeDiff, Nat.reduceLT, Nat.reduceMul, Nat.reduceSub, ↓reduceIte, Int.reduceLT, Int.reduceLE, Int.reduceNeg, Int.reduceAdd, Int.reduceEq, Nat.reduceBneDiff, Nat.reduceBEq, Int.reduceToNat, Int.reduceMul, Int.reduceSub, Int.reduceBEq, Int.reduceBNe, Int.cast_ofNat_Int, Int.toNat_natCast_add_one, Nat.add_left_cancel_iff, Nat.left_eq_add, Nat.add_eq_left, Int.toNat_natCast, Nat.add_assoc, Int.ofNat_lt, Int.ofNat_le, Mg.enc, hnil.1, hnil.2]
      rw [he]
      generalize s10.new (.cells [.int .i64 m.kind, .int .u32 m.epoch, .int .u64 m.sess, .int .u32 m.target.e, .int .u32 m.target.q, .int .u32 m.base.e, .int .u32 m.base.q, .int .i64 m.index, .int .i64 m.total, .int .u32 m.tick, .nilSlice, .nilSlice] false false 0) = s11 at I11 hm hen ⊢
      clear he
      refine Wi_split (fun hg => ?_) (fun hg => ?_)
      · simp only [go_sem, Wk_block, reduceCtorEq, Nat.reduceEqDiff, Nat.reduceAdd, Nat.reduceLeDiff, Nat.reduceLT, Nat.reduceMul, Nat.reduceSub, ↓reduceIte, Int.reduceLT, Int.reduceLE, Int.reduceNeg, Int.reduceAdd, Int.reduceEq, Nat.reduceBneDiff, Nat.reduceBEq, Int.reduceToNat, Int.reduceMul, Int.reduceSub, Int.reduceBEq, Int.reduceBNe, Int.cast_ofNat_Int, Int.toNat_natCast_add_one, Nat.add_left_cancel_iff, Nat.left_eq_add, Nat.add_eq_left, Int.toNat_natCast, Nat.add_assoc, Int.ofNat_lt, Int.ofNat_le, g25, succ_in hn2]
        refine next _ _ last ?_ ?_ ?_ ?_ ?_ ?_ I11 hLast'
        all_goals simp only [go_sem, Wk_block, reduceCtorEq, Nat.reduceEqDiff, Nat.reduceAdd, Nat.reduceLeDiff, Nat.reduceLT, Nat.reduceMul, Nat.reduceSub, ↓reduceIte, Int.reduceLT, Int.reduceLE, Int.reduceNeg, Int.reduceAdd, Int.reduceEq, Nat.reduceBneDiff, Nat.reduceBEq, Int.reduceToNat, Int.reduceMul, Int.reduceSub, Int.reduceBEq, Int.reduceBNe, Int.cast_ofNat_Int, Int.toNat_natCast_add_one, Nat.add_left_cancel_iff, Nat.left_eq_add, Nat.add_eq_left, Int.toNat_natCast, Nat.add_assoc, Int.ofNat_lt, Int.ofNat_le, g25, g24, g23, g7, g8, g9]
      obtain ⟨y1, y2, y3, y4, y5, y6⟩ := hsay (by simpa using hg)
      have ld := I11.ld
      have lc := I11.lc
      unfold Lies Mg.enc at ld
      unfold Lies Lb.enc at lc
      rw [I11.li, I11.lh] at ld
      have d1 : decide (m.sess < last.sess) = false := decide_eq_false y1
      have d6 : decide (m.target.lt m.base) = false := decide_eq_false y4
      have d7 : decide (S'.done.lt m.target) = true := decide_eq_true y5
      by_cases hs : m.sess = last.sess
      · have d2 : (m.sess == last.sess) = true := by simpa using hs
        have dt : (m.target.e == last.target.e && m.target.q == last.target.q) = true := by rw [y2 hs]; simp
        by_cases hk : m.kind = 3
        · have d3 : (m.kind == 3) = true := by simpa using hk
          have d4 : decide (m.index < 0) = false := decide_eq_false (by have := y3 hk; omega)
          have d5 : decide (m.index ≥ m.total) = false := decide_eq_false (by have := y3 hk; omega)
          simp -implicitDefEqProofs only [go_sem, Wk_block, reduceCtorEq, Nat.reduceEqDiff, Nat.reduceAdd, Nat.reduceLeDiff, Nat.reduceLT, Nat.reduceMul, Nat.reduceSub, ↓reduceIte, Int.reduceLT, Int.reduceLE, Int.reduceNeg, Int.reduceAdd, Int.reduceEq, Nat.reduceBneDiff, Nat.reduceBEq, Int.reduceToNat, Int.reduceMul, Int.reduceSub, Int.reduceBEq, Int.reduceBNe, Int.cast_ofNat_Int, Int.toNat_natCast_add_one, Nat.add_left_cancel_iff, Nat.left_eq_add, Nat.add_eq_left, Int.toNat_natCast, Nat.add_assoc, Int.ofNat_lt, Int.ofNat_le, Nat.lt_add_one_of_lt, Nat.lt_add_one, Nat.lt_add_right, Nat.lt_add_right_iff_pos, Nat.add_lt_add_iff_left, hm, ld, lc, g25, g24, g23, g7, g8, g9, d1, d2, d3, dt, d4, d5]
          refine Wl_of (less_run m.target m.base _) ?_
          rintro _ s12 ⟨rfl, f12⟩
          have I12 := I11.mono f12
          have hm12 := (f12.get e hen).trans hm
          have hen12 := Nat.lt_of_lt_of_le hen f12.le
          have lc12 := I12.lc
          unfold Lies Lb.enc at lc12
          simp -implicitDefEqProofs only [go_sem, Wk_block, reduceCtorEq, Nat.reduceEqDiff, Nat.reduceAdd, Nat.reduceLeDiff, Nat.reduceLT, Nat.reduceMul, Nat.reduceSub, ↓reduceIte, Int.reduceLT, Int.reduceLE, Int.reduceNeg, Int.reduceAdd, Int.reduceEq, Nat.reduceBneDiff, Nat.reduceBEq, Int.reduceToNat, Int.reduceMul, Int.reduceSub, Int.reduceBEq, Int.reduceBNe, Int.cast_ofNat_Int, Int.toNat_natCast_add_one, Nat.add_left_cancel_iff, Nat.left_eq_add, Nat.add_eq_left, Int.toNat_natCast, Nat.add_assoc, Int.ofNat_lt, Int.ofNat_le, Nat.lt_add_one_of_lt, Nat.lt_add_one, Nat.lt_add_right, Nat.lt_add_right_iff_pos, Nat.add_lt_add_iff_left, hm12, lc12, g25, g24, g23, g7, g8, g9, d6]
          refine Wl_of (less_run S'.done m.target _) ?_
          rintro _ s13 ⟨rfl, f13⟩
          have I13 := I12.mono f13
          have hm13 := (f13.get e hen12).trans hm12
          have ld13 := I13.ld
          unfold Lies Mg.enc at ld13
          rw [I13.li, I13.lh] at ld13
          simp -implicitDefEqProofs only [go_sem, Wk_block, reduceCtorEq, Nat.reduceEqDiff, Nat.reduceAdd, Nat.reduceLeDiff, Nat.reduceLT, Nat.reduceMul, Nat.reduceSub, ↓reduceIte, Int.reduceLT, Int.reduceLE, Int.reduceNeg, Int.reduceAdd, Int.reduceEq, Nat.reduceBneDiff, Nat.reduceBEq, Int.reduceToNat, Int.reduceMul, Int.reduceSub, Int.reduceBEq, Int.reduceBNe, Int.cast_ofNat_Int, Int.toNat_natCast_add_one, Nat.add_left_cancel_iff, Nat.left_eq_add, Nat.add_eq_left, Int.toNat_natCast, Nat.add_assoc, Int.ofNat_lt, Int.ofNat_le, Nat.lt_add_one_of_lt, Nat.lt_add_one, Nat.lt_add_right, Nat.lt_add_right_iff_pos, Nat.add_lt_add_iff_left, hm13, ld13, g25, g24, g23, g7, g8, g9, d7, succ_in hn2]
          refine next _ _ m ?_ ?_ ?_ ?_ ?_ ?_ (I13.d (last' := m) ((FrX.refl (c + 1) s13).put (.inl rfl) _) (by simp only [Lies, St.get_put, if_true, Mg.enc, hnil.1, hnil.2]) hnil.1 hnil.2) y6
          all_goals simp only [go_sem, Wk_block, reduceCtorEq, Nat.reduceEqDiff, Nat.reduceAdd, Nat.reduceLeDiff, Nat.reduceLT, Nat.reduceMul, Nat.reduceSub, ↓reduceIte, Int.reduceLT, Int.reduceLE, Int.reduceNeg, Int.reduceAdd, Int.reduceEq, Nat.reduceBneDiff, Nat.reduceBEq, Int.reduceToNat, Int.reduceMul, Int.reduceSub, Int.reduceBEq, Int.reduceBNe, Int.cast_ofNat_Int, Int.toNat_natCast_add_one, Nat.add_left_cancel_iff, Nat.left_eq_add, Nat.add_eq_left, Int.toNat_natCast, Nat.add_assoc, Int.ofNat_lt, Int.ofNat_le, g25, g24, g23, g7, g8, g9]
        · have d3 : (m.kind == 3) = false := by simpa using hk
          simp -implicitDefEqProofs only [go_sem, Wk_block, reduceCtorEq, Nat.reduceEqDiff, Nat.reduceAdd, Nat.reduceLeDiff, Nat.reduceLT, Nat.reduceMul, Nat.reduceSub, ↓reduceIte, Int.reduceLT, Int.reduceLE, Int.reduceNeg, Int.reduceAdd, Int.reduceEq, Nat.reduceBneDiff, Nat.reduceBEq, Int.reduceToNat, Int.reduceMul, Int.reduceSub, Int.reduceBEq, Int.reduceBNe, Int.cast_ofNat_Int, Int.toNat_natCast_add_one, Nat.add_left_cancel_iff, Nat.left_eq_add, Nat.add_eq_left, Int.toNat_natCast, Nat.add_assoc, Int.ofNat_lt, Int.ofNat_le, Nat.lt_add_one_of_lt, Nat.lt_add_one, Nat.lt_add_right, Nat.lt_add_right_iff_pos, Nat.add_lt_add_iff_left, hm, ld, lc, g25, g24, g23, g7, g8, g9, d1, d2, d3, dt]
          refine Wl_of (less_run m.target m.base _) ?_
          rintro _ s12 ⟨rfl, f12⟩
          have I12 := I11.mono f12
          have hm12 := (f12.get e hen).trans hm
          have hen12 := Nat.lt_of_lt_of_le hen f12.le
          have lc12 := I12.lc
          unfold Lies Lb.enc at lc12
          simp -implicitDefEqProofs only [go_sem, Wk_block, reduceCtorEq, Nat.reduceEqDiff, Nat.reduceAdd, Nat.reduceLeDiff, Nat.reduceLT, Nat.reduceMul, Nat.reduceSub, ↓reduceIte, Int.reduceLT, Int.reduceLE, Int.reduceNeg, Int.reduceAdd, Int.reduceEq, Nat.reduceBneDiff, Nat.reduceBEq, Int.reduceToNat, Int.reduceMul, Int.reduceSub, Int.reduceBEq, Int.reduceBNe, Int.cast_ofNat_Int, Int.toNat_natCast_add_one, Nat.add_left_cancel_iff, Nat.left_eq_add, Nat.add_eq_left, Int.toNat_natCast, Nat.add_assoc, Int.ofNat_lt, Int.ofNat_le, Nat.lt_add_one_of_lt, Nat.lt_add_one, Nat.lt_add_right, Nat.lt_add_right_iff_pos, Nat.add_lt_add_iff_left, hm12, lc12, g25, g24, g23, g7, g8, g9, d6]
          refine Wl_of (less_run S'.done m.target _) ?_
          rintro _ s13 ⟨rfl, f13⟩
          have I13 := I12.mono f13
          have hm13 := (f13.get e hen12).trans hm12
          have ld13 := I13.ld
          unfold Lies Mg.enc at ld13
          rw [I13.li, I13.lh] at ld13
          simp -implicitDefEqProofs only [go_sem, Wk_block, reduceCtorEq, Nat.reduceEqDiff, Nat.reduceAdd, Nat.reduceLeDiff, Nat.reduceLT, Nat.reduceMul, Nat.reduceSub, ↓reduceIte, Int.reduceLT, Int.reduceLE, Int.reduceNeg, Int.reduceAdd, Int.reduceEq, Nat.reduceBneDiff, Nat.reduceBEq, Int.reduceToNat, Int.reduceMul, Int.reduceSub, Int.reduceBEq, Int.reduceBNe, Int.cast_ofNat_Int, Int.toNat_natCast_add_one, Nat.add_left_cancel_iff, Nat.left_eq_add, Nat.add_eq_left, Int.toNat_natCast, Nat.add_assoc, Int.ofNat_lt, Int.ofNat_le, Nat.lt_add_one_of_lt, Nat.lt_add_one, Nat.lt_add_right, Nat.lt_add_right_iff_pos, Nat.add_lt_add_iff_left, hm13, ld13, g25, g24, g23, g7, g8, g9, d7, succ_in hn2]
          refine next _ _ m ?_ ?_ ?_ ?_ ?_ ?_ (I13.d (last' := m) ((FrX.refl (c + 1) s13).put (.inl rfl) _) (by simp only [Lies, St.get_put, if_true, Mg.enc, hnil.1, hnil.2]) hnil.1 hnil.2) y6
          all_goals simp only [go_sem, Wk_block, reduceCtorEq, Nat.reduceEqDiff, Nat.reduceAdd, Nat.reduceLeDiff, Nat.reduceLT, Nat.reduceMul, Nat.reduceSub, ↓reduceIte, Int.reduceLT, Int.reduceLE, Int.reduceNeg, Int.reduceAdd, Int.reduceEq, Nat.reduceBneDiff, Nat.reduceBEq, Int.reduceToNat, Int.reduceMul, Int.reduceSub, Int.reduceBEq, Int.reduceBNe, Int.cast_ofNat_Int, Int.toNat_natCast_add_one, Nat.add_left_cancel_iff, Nat.left_eq_add, Nat.add_eq_left, Int.toNat_natCast, Nat.add_assoc, Int.ofNat_lt, Int.ofNat_le, g25, g24, g23, g7, g8, g9]
      · have d2 : (m.sess == last.sess) = false := by simpa using hs
        by_cases hk : m.kind = 3
        · have d3 : (m.kind == 3) = true := by simpa using hk
          have d4 : decide (m.index < 0) = false := decide_eq_false (by have := y3 hk; omega)
          have d5 : decide (m.index ≥ m.total) = false := decide_eq_false (by have := y3 hk; omega)
          simp -implicitDefEqProofs only [go_sem, Wk_block, reduceCtorEq, Nat.reduceEqDiff, Nat.reduceAdd, Nat.reduceLeDiff, Nat.reduceLT, Nat.reduceMul, Nat.reduceSub, ↓reduceIte, Int.reduceLT, Int.reduceLE, Int.reduceNeg, Int.reduceAdd, Int.reduceEq, Nat.reduceBneDiff, Nat.reduceBEq, Int.reduceToNat, Int.reduceMul, Int.reduceSub, Int.reduceBEq, Int.reduceBNe, Int.cast_ofNat_Int, Int.toNat_natCast_add_one, Nat.add_left_cancel_iff, Nat.left_eq_add, Nat.add_eq_left, Int.toNat_natCast, Nat.add_assoc, Int.ofNat_lt, Int.ofNat_le, Nat.lt_add_one_of_lt, Nat.lt_add_one, Nat.lt_add_right, Nat.lt_add_right_iff_pos, Nat.add_lt_add_iff_left, hm, ld, lc, g25, g24, g23, g7, g8, g9, d1, d2, d3, d4, d5]
          refine Wl_of (less_run m.target m.base _) ?_
          rintro _ s12 ⟨rfl, f12⟩
          have I12 := I11.mono f12
          have hm12 := (f12.get e hen).trans hm
          have hen12 := Nat.lt_of_lt_of_le hen f12.le
          have lc12 := I12.lc
          unfold Lies Lb.enc at lc12
          simp -implicitDefEqProofs only [go_sem, Wk_block, reduceCtorEq, Nat.reduceEqDiff, Nat.reduceAdd, Nat.reduceLeDiff, Nat.reduceLT, Nat.reduceMul, Nat.reduceSub, ↓reduceIte, Int.reduceLT, Int.reduceLE, Int.reduceNeg, Int.reduceAdd, Int.reduceEq, Nat.reduceBneDiff, Nat.reduceBEq, Int.reduceToNat, Int.reduceMul, Int.reduceSub, Int.reduceBEq, Int.reduceBNe, Int.cast_ofNat_Int, Int.toNat_natCast_add_one, Nat.add_left_cancel_iff, Nat.left_eq_add, Nat.add_eq_left, Int.toNat_natCast, Nat.add_assoc, Int.ofNat_lt, Int.ofNat_le, Nat.lt_add_one_of_lt, Nat.lt_add_one, Nat.lt_add_right, Nat.lt_add_right_iff_pos, Nat.add_lt_add_iff_left, hm12, lc12, g25, g24, g23, g7, g8, g9, d6]
          refine Wl_of (less_run S'.done m.target _) ?_
          rintro _ s13 ⟨rfl, f13⟩
          have I13 := I12.mono f13
          have hm13 := (f13.get e hen12).trans hm12
          have ld13 := I13.ld
          unfold Lies Mg.enc at ld13
          rw [I13.li, I13.lh] at ld13
          simp -implicitDefEqProofs only [go_sem, Wk_block, reduceCtorEq, Nat.reduceEqDiff, Nat.reduceAdd, Nat.reduceLeDiff, Nat.reduceLT, Nat.reduceMul, Nat.reduceSub, ↓reduceIte, Int.reduceLT, Int.reduceLE, Int.reduceNeg, Int.reduceAdd, Int.reduceEq, Nat.reduceBneDiff, Nat.reduceBEq, Int.reduceToNat, Int.reduceMul, Int.reduceSub, Int.reduceBEq, Int.reduceBNe, Int.cast_ofNat_Int, Int.toNat_natCast_add_one, Nat.add_left_cancel_iff, Nat.left_eq_add, Nat.add_eq_left, Int.toNat_natCast, Nat.add_assoc, Int.ofNat_lt, Int.ofNat_le, Nat.lt_add_one_of_lt, Nat.lt_add_one, Nat.lt_add_right, Nat.lt_add_right_iff_pos, Nat.add_lt_add_iff_left, hm13, ld13, g25, g24, g23, g7, g8, g9, d7, succ_in hn2]
          refine next _ _ m ?_ ?_ ?_ ?_ ?_ ?_ (I13.d (last' := m) ((FrX.refl (c + 1) s13).put (.inl rfl) _) (by simp only [Lies, St.get_put, if_true, Mg.enc, hnil.1, hnil.2]) hnil.1 hnil.2) y6
          all_goals simp only [go_sem, Wk_block, reduceCtorEq, Nat.reduceEqDiff, Nat.reduceAdd, Nat.reduceLeDiff, Nat.reduceLT, Nat.reduceMul, Nat.reduceSub, ↓reduceIte, Int.reduceLT, Int.reduceLE, Int.reduceNeg, Int.reduceAdd, Int.reduceEq, Nat.reduceBneDiff, Nat.reduceBEq, Int.reduceToNat, Int.reduceMul, Int.reduceSub, Int.reduceBEq, Int.reduceBNe, Int.cast_ofNat_Int, Int.toNat_natCast_add_one, Nat.add_left_cancel_iff, Nat.left_eq_add, Nat.add_eq_left, Int.toNat_natCast, Nat.add_assoc, Int.ofNat_lt, Int.ofNat_le, g25, g24, g23, g7, g8, g9]
        · have d3 : (m.kind == 3) = false := by simpa using hk
          simp -implicitDefEqProofs only [go_sem, Wk_block, reduceCtorEq, Nat.reduceEqDiff, Nat.reduceAdd, Nat.reduceLeDiff, Nat.reduceLT, Nat.reduceMul, Nat.reduceSub, ↓reduceIte, Int.reduceLT, Int.reduceLE, Int.reduceNeg, Int.reduceAdd, Int.reduceEq, Nat.reduceBneDiff, Nat.reduceBEq, Int.reduceToNat, Int.reduceMul, Int.reduceSub, Int.reduceBEq, Int.reduceBNe, Int.cast_ofNat_Int, Int.toNat_natCast_add_one, Nat.add_left_cancel_iff, Nat.left_eq_add, Nat.add_eq_left, Int.toNat_natCast, Nat.add_assoc, Int.ofNat_lt, Int.ofNat_le, Nat.lt_add_one_of_lt, Nat.lt_add_one, Nat.lt_add_right, Nat.lt_add_right_iff_pos, Nat.add_lt_add_iff_left, hm, ld, lc, g25, g24, g23, g7, g8, g9, d1, d2, d3]
          refine Wl_of (less_run m.target m.base _) ?_
          rintro _ s12 ⟨rfl, f12⟩
          have I12 := I11.mono f12
          have hm12 := (f12.get e hen).trans hm
          have hen12 := Nat.lt_of_lt_of_le hen f12.le
          have lc12 := I12.lc
          unfold Lies Lb.enc at lc12
          simp -implicitDefEqProofs only [go_sem, Wk_block, reduceCtorEq, Nat.reduceEqDiff, Nat.reduceAdd, Nat.reduceLeDiff, Nat.reduceLT, Nat.reduceMul, Nat.reduceSub, ↓reduceIte, Int.reduceLT, Int.reduceLE, Int.reduceNeg, Int.reduceAdd, Int.reduceEq, Nat.reduceBneDiff, Nat.reduceBEq, Int.reduceToNat, Int.reduceMul, Int.reduceSub, Int.reduceBEq, Int.reduceBNe, Int.cast_ofNat_Int, Int.toNat_natCast_add_one, Nat.add_left_cancel_iff, Nat.left_eq_add, Nat.add_eq_left, Int.toNat_natCast, Nat.add_assoc, Int.ofNat_lt, Int.ofNat_le, Nat.lt_add_one_of_lt, Nat.lt_add_one, Nat.lt_add_right, Nat.lt_add_right_iff_pos, Nat.add_lt_add_iff_left, hm12, lc12, g25, g24, g23, g7, g8, g9, d6]
          refine Wl_of (less_run S'.done m.target _) ?_
          rintro _ s13 ⟨rfl, f13⟩
          have I13 := I12.mono f13
          have hm13 := (f13.get e hen12).trans hm12
          have ld13 := I13.ld
          unfold Lies Mg.enc at ld13
          rw [I13.li, I13.lh] at ld13
          simp -implicitDefEqProofs only [go_sem, Wk_block, reduceCtorEq, Nat.reduceEqDiff, Nat.reduceAdd, Nat.reduceLeDiff, Nat.reduceLT, Nat.reduceMul, Nat.reduceSub, ↓reduceIte, Int.reduceLT, Int.reduceLE, Int.reduceNeg, Int.reduceAdd, Int.reduceEq, Nat.reduceBneDiff, Nat.reduceBEq, Int.reduceToNat, Int.reduceMul, Int.reduceSub, Int.reduceBEq, Int.reduceBNe, Int.cast_ofNat_Int, Int.toNat_natCast_add_one, Nat.add_left_cancel_iff, Nat.left_eq_add, Nat.add_eq_left, Int.toNat_natCast, Nat.add_assoc, Int.ofNat_lt, Int.ofNat_le, Nat.lt_add_one_of_lt, Nat.lt_add_one, Nat.lt_add_right, Nat.lt_add_right_iff_pos, Nat.add_lt_add_iff_left, hm13, ld13, g25, g24, g23, g7, g8, g9, d7, succ_in hn2]
          refine next _ _ m ?_ ?_ ?_ ?_ ?_ ?_ (I13.d (last' := m) ((FrX.refl (c + 1) s13).put (.inl rfl) _) (by simp only [Lies, St.get_put, if_true, Mg.enc, hnil.1, hnil.2]) hnil.1 hnil.2) y6
          all_goals simp only [go_sem, Wk_block, reduceCtorEq, Nat.reduceEqDiff, Nat.reduceAdd, Nat.reduceLeDiff, Nat.reduceLT, Nat.reduceMul, Nat.reduceSub, ↓reduceIte, Int.reduceLT, Int.reduceLE, Int.reduceNeg, Int.reduceAdd, Int.reduceEq, Nat.reduceBneDiff, Nat.reduceBEq, Int.reduceToNat, Int.reduceMul, Int.reduceSub, Int.reduceBEq, Int.reduceBNe, Int.cast_ofNat_Int, Int.toNat_natCast_add_one, Nat.add_left_cancel_iff, Nat.left_eq_add, Nat.add_eq_left, Int.toNat_natCast, Nat.add_assoc, Int.ofNat_lt, Int.ofNat_le, g25, g24, g23, g7, g8, g9]
  · simp only [go_sem, Wk_block, reduceCtorEq, Nat.reduceEqDiff, Nat.reduceAdd, Nat.reduceLeDiff, Nat.reduceLT, Nat.reduceMul, Nat.reduceSub, ↓reduceIte, Int.reduceLT, Int.reduceLE, Int.reduceNeg, Int.reduceAdd, Int.reduceEq, Nat.reduceBneDiff, Nat.reduceBEq, Int.reduceToNat, Int.reduceMul, Int.reduceSub, Int.reduceBEq, Int.reduceBNe, Int.cast_ofNat_Int, Int.toNat_natCast_add_one, Nat.add_left_cancel_iff, Nat.left_eq_add, Nat.add_eq_left, Int.toNat_natCast, Nat.add_assoc, Int.ofNat_lt, Int.ofNat_le, g25, g24, hlt]
end Go.Proofs.Ytfboomidofnmfaa
