/- Whether what is exposed rises. -/
import Derived.Test.YteffppdkofdmdaaPst2
namespace Go.Proofs.Yteffppdkofdmdaa
open D
set_option linter.unusedSimpArgs false
set_option linter.unusedVariables false
set_option maxRecDepth 10000

theorem steps_run (v : AV) (s : St) (hc : v.cells = [v]) : mm.L.call 17 [v] s = some (.fn (.func 26) [] [.ptr s.next 0], s.new (.cells [v] false false 0)) := by
  refine of_Wf (Wf_enter ft17 (sm (by decide)) (by rfl) ?_)
  simp only [fd17, go_sem, Wk_block, Wk_drawnC, reduceCtorEq, Nat.reduceEqDiff, Nat.reduceAdd, Nat.reduceLeDiff, Nat.reduceLT, Nat.reduceMul, Nat.reduceSub, ↓reduceIte, Int.reduceLT, Int.reduceLE, Int.reduceNeg, Int.reduceAdd, Int.reduceEq, Nat.reduceBneDiff, Nat.reduceBEq, Int.reduceToNat, Int.reduceMul, Int.reduceSub, Int.reduceBEq, Int.reduceBNe, Int.cast_ofNat_Int, Int.toNat_natCast_add_one, Nat.add_left_cancel_iff, Nat.left_eq_add, Nat.add_eq_left, Int.toNat_natCast, Nat.add_assoc, Int.ofNat_lt, Int.ofNat_le, hc]

def okR (la : Vw × Vw) (m : Mo) : Bool := !(m.v0.up && decide (m.v0.ex.lt la.1.ex)) && !(m.v1.up && decide (m.v1.ex.lt la.2.ex))

theorem Rises_run (ms : List Mo) (hm : ∀ m ∈ ms, MoOk m) {v : AV} {ba oa : Nat} {s : St} (hA : Acc s v 58 (ms.map Mo.cells) ba oa) :
    Wf mm 8 [v] s fun w s' => (∃ b : Bool, w = .bool b ∧ (b = true ↔ ∀ j (h : j < ms.length), okR (lastV (ms.take j)) ms[j] = true)) ∧ Fr s s' := by
  refine Wf_enter ft8 (sm (by decide)) (by rfl) ?_
  simp only [fd8, go_sem, Wk_block, Wk_drawnC, reduceCtorEq, Nat.reduceEqDiff, Nat.reduceAdd, Nat.reduceLeDiff, Nat.reduceLT, Nat.reduceMul, Nat.reduceSub, ↓reduceIte, Int.reduceLT, Int.reduceLE, Int.reduceNeg, Int.reduceAdd, Int.reduceEq, Nat.reduceBneDiff, Nat.reduceBEq, Int.reduceToNat, Int.reduceMul, Int.reduceSub, Int.reduceBEq, Int.reduceBNe, Int.cast_ofNat_Int, Int.toNat_natCast_add_one, Nat.add_left_cancel_iff, Nat.left_eq_add, Nat.add_eq_left, Int.toNat_natCast, Nat.add_assoc, Int.ofNat_lt, Int.ofNat_le, Wl_eq (steps_run v _ hA.cells)]
  obtain ⟨c, hc⟩ : ∃ c, s.next = c := ⟨_, rfl⟩
  refine Wk_envs (fun ts => ts.get 2 = some (.ptr c 0) ∧ ts.get 8 = some (.fn (.func 26) [] [.ptr (c + 1) 0])) ⟨by simp only [go_sem, Wk_block, Wk_drawnC, reduceCtorEq, Nat.reduceEqDiff, Nat.reduceAdd, Nat.reduceLeDiff, Nat.reduceLT, Nat.reduceMul, Nat.reduceSub, ↓reduceIte, Int.reduceLT, Int.reduceLE, Int.reduceNeg, Int.reduceAdd, Int.reduceEq, Nat.reduceBneDiff, Nat.reduceBEq, Int.reduceToNat, Int.reduceMul, Int.reduceSub, Int.reduceBEq, Int.reduceBNe, Int.cast_ofNat_Int, Int.toNat_natCast_add_one, Nat.add_left_cancel_iff, Nat.left_eq_add, Nat.add_eq_left, Int.toNat_natCast, Nat.add_assoc, Int.ofNat_lt, Int.ofNat_le, hc], by simp only [go_sem, Wk_block, Wk_drawnC, reduceCtorEq, Nat.reduceEqDiff, Nat.reduceAdd, Nat.reduceLeDiff, Nat.reduceLT, Nat.reduceMul, Nat.reduceSub, ↓reduceIte, Int.reduceLT, Int.reduceLE, Int.reduceNeg, Int.reduceAdd, Int.reduceEq, Nat.reduceBneDiff, Nat.reduceBEq, Int.reduceToNat, Int.reduceMul, Int.reduceSub, Int.reduceBEq, Int.reduceBNe, Int.cast_ofNat_Int, Int.toNat_natCast_add_one, Nat.add_left_cancel_iff, Nat.left_eq_add, Nat.add_eq_left, Int.toNat_natCast, Nat.add_assoc, Int.ofNat_lt, Int.ofNat_le, hc]⟩ ?_
  rintro ts0 ⟨g2, g8⟩
  have f1 : Fr s ((s.new (.cells [.bool false] false false 0)).new (.cells [v] false false 0)) := ((Fr.refl s).new _).new _
  have hA1 := hA.mono f1
  have hc1 : ((s.new (.cells [.bool false] false false 0)).new (.cells [v] false false 0)).get c = some (.cells [.bool false] false false 0) := by rw [← hc]; simp -implicitDefEqProofs only [go_sem, Wk_block, Wk_drawnC, reduceCtorEq, Nat.reduceEqDiff, Nat.reduceAdd, Nat.reduceLeDiff, Nat.reduceLT, Nat.reduceMul, Nat.reduceSub, ↓reduceIte, Int.reduceLT, Int.reduceLE, Int.reduceNeg, Int.reduceAdd, Int.reduceEq, Nat.reduceBneDiff, Nat.reduceBEq, Int.reduceToNat, Int.reduceMul, Int.reduceSub, Int.reduceBEq, Int.reduceBNe, Int.cast_ofNat_Int, Int.toNat_natCast_add_one, Nat.add_left_cancel_iff, Nat.left_eq_add, Nat.add_eq_left, Int.toNat_natCast, Nat.add_assoc, Int.ofNat_lt, Int.ofNat_le, Nat.lt_add_one_of_lt, Nat.lt_add_one, Nat.lt_add_right, Nat.lt_add_right_iff_pos, Nat.add_lt_add_iff_left, hc]
  have hp1 : ((s.new (.cells [.bool false] false false 0)).new (.cells [v] false false 0)).get (c + 1) = some (.cells [v] false false 0) := by rw [← hc]; simp -implicitDefEqProofs only [go_sem, Wk_block, Wk_drawnC, reduceCtorEq, Nat.reduceEqDiff, Nat.reduceAdd, Nat.reduceLeDiff, Nat.reduceLT, Nat.reduceMul, Nat.reduceSub, ↓reduceIte, Int.reduceLT, Int.reduceLE, Int.reduceNeg, Int.reduceAdd, Int.reduceEq, Nat.reduceBneDiff, Nat.reduceBEq, Int.reduceToNat, Int.reduceMul, Int.reduceSub, Int.reduceBEq, Int.reduceBNe, Int.cast_ofNat_Int, Int.toNat_natCast_add_one, Nat.add_left_cancel_iff, Nat.left_eq_add, Nat.add_eq_left, Int.toNat_natCast, Nat.add_assoc, Int.ofNat_lt, Int.ofNat_le, Nat.lt_add_one_of_lt, Nat.lt_add_one, Nat.lt_add_right, Nat.lt_add_right_iff_pos, Nat.add_lt_add_iff_left, hc]
  have hn1 : c + 1 < ((s.new (.cells [.bool false] false false 0)).new (.cells [v] false false 0)).next := by rw [← hc]; simp -implicitDefEqProofs only [go_sem, Wk_block, Wk_drawnC, reduceCtorEq, Nat.reduceEqDiff, Nat.reduceAdd, Nat.reduceLeDiff, Nat.reduceLT, Nat.reduceMul, Nat.reduceSub, ↓reduceIte, Int.reduceLT, Int.reduceLE, Int.reduceNeg, Int.reduceAdd, Int.reduceEq, Nat.reduceBneDiff, Nat.reduceBEq, Int.reduceToNat, Int.reduceMul, Int.reduceSub, Int.reduceBEq, Int.reduceBNe, Int.cast_ofNat_Int, Int.toNat_natCast_add_one, Nat.add_left_cancel_iff, Nat.left_eq_add, Nat.add_eq_left, Int.toNat_natCast, Nat.add_assoc, Int.ofNat_lt, Int.ofNat_le, Nat.lt_add_one_of_lt, Nat.lt_add_one, Nat.lt_add_right, Nat.lt_add_right_iff_pos, Nat.add_lt_add_iff_left, hc]
  generalize (s.new (.cells [.bool false] false false 0)).new (.cells [v] false false 0) = s1 at *
  refine Wk_range g8 ?_
  obtain ⟨e, he⟩ : ∃ e, s1.next = e := ⟨_, rfl⟩
  rw [he]
  generalize hasn : PC.seq (PC.region [⟨some 3, _, none⟩, _]) _ = asn
  generalize hbd : PC.block 1 _ = bd
  have hmn : ∀ (s' : St), Fr s s' → Acc s' v 58 (ms.map Mo.cells) ba oa := fun s' f => hA.mono f
  have hN : ((s1.new .defd).new (.loop .ready .normal ts0 [9, 10] asn bd e)).next = e + 2 := by simp only [St.next_new]; omega
  have f2 : Fr s ((s1.new .defd).new (.loop .ready .normal ts0 [9, 10] asn bd e)) := (f1.new _).new _
  have hp2 : ((s1.new .defd).new (.loop .ready .normal ts0 [9, 10] asn bd e)).get (c + 1) = some (.cells [v] false false 0) := by
    rw [St.get_new, if_neg (by simp only [St.next_new]; omega), St.get_new, if_neg (by omega)]; exact hp1
  have hsn : s.next ≤ e := by have := f1.le; omega
  refine (gen_run ms hm (r := e + 1) (hmn _ f2) hp2 (by rw [hN]; omega)
    (fun j s' => s'.get (e + 1) = some (.loop .ready .normal ts0 [9, 10] asn bd e) ∧ s'.get e = some .defd ∧ Lies s' c [.bool false] ∧ Fr s s' ∧ ∀ i (h : i < ms.length), i < j → okR (lastV (ms.take i)) ms[i] = true)
    (fun s' => s'.get (e + 1) = some (.loop .done .ret ts0 [9, 10] asn bd e) ∧ s'.get e = some .defd ∧ Lies s' c [.bool false] ∧ Fr s s' ∧ ∃ i, ∃ h : i < ms.length, okR (lastV (ms.take i)) ms[i] = false) ?_ ?_ ?_ ?_).mono ?_
  · rintro j s3 s4 ⟨h1, h2, h3, h4, h5⟩ u
    rw [hN] at u
    exact ⟨(u.get _ (by omega)).trans h1, (u.get _ (by omega)).trans h2, (u.get _ (by omega)).trans h3, ⟨Nat.le_trans h4.le u.le, fun b hb => (u.get b (by omega)).trans (h4.get b hb)⟩, h5⟩
  · rintro j s3 ⟨_, _, _, h4, _⟩
    exact hmn _ h4
  · rintro j hj s3 hn3 ⟨h1, h2, h3, h4, h5⟩
    rw [hN] at hn3
    refine Round_of h1 rfl ?_
    rw [← hasn]
    have hok := hm ms[j] (List.getElem_mem hj)
    generalize hx : ms[j] = x at hok
    generalize hla : lastV (ms.take j) = la
    have hlen := hok.len
    have hcell := hok.cell
    have hc3 : c < s3.next := by omega
    have he3 : e < s3.next := by omega
    have he4 : e + 1 < s3.next := by omega
    simp -implicitDefEqProofs only [go_sem, Wk_block, Wk_drawnC, reduceCtorEq, Nat.reduceEqDiff, Nat.reduceAdd, Nat.reduceLeDiff, Nat.reduceLT, Nat.reduceMul, Nat.reduceSub, ↓reduceIte, Int.reduceLT, Int.reduceLE, Int.reduceNeg, Int.reduceAdd, Int.reduceEq, Nat.reduceBneDiff, Nat.reduceBEq, Int.reduceToNat, Int.reduceMul, Int.reduceSub, Int.reduceBEq, Int.reduceBNe, Int.cast_ofNat_Int, Int.toNat_natCast_add_one, Nat.add_left_cancel_iff, Nat.left_eq_add, Nat.add_eq_left, Int.toNat_natCast, Nat.add_assoc, Int.ofNat_lt, Int.ofNat_le, Nat.lt_add_one_of_lt, Nat.lt_add_one, Nat.lt_add_right, Nat.lt_add_right_iff_pos, Nat.add_lt_add_iff_left, hlen, hcell, enc2, Vw.enc, Wr_nil, h1, hc3, he3, he4, eq_next_f he4, eq_next_k he4, eq_next_f' he4, eq_next_k' he4]
    refine ⟨_, _, _, _, _, _, rfl, ?_⟩
    obtain ⟨q, hq⟩ : ∃ q, s3.next = q := ⟨_, rfl⟩
    have hv := hok.v
    unfold Vw.enc at hv
    have hl1 : 44 + 14 ≤ x.cells.length := by omega
    have hl2 : 58 ≤ x.cells.length := by omega
    have f34 : ∀ b, b < s3.next → b ≠ e + 1 → (((s3.new (.cells x.cells false false 0)).new (.cells [.bool la.1.up, .bool la.1.prim, .int .u32 la.1.epoch, .int .u32 la.1.ex.e, .int .u32 la.1.ex.q, .int .u32 la.1.nw.e, .int .u32 la.1.nw.q, .bool la.2.up, .bool la.2.prim, .int .u32 la.2.epoch, .int .u32 la.2.ex.e, .int .u32 la.2.ex.q, .int .u32 la.2.nw.e, .int .u32 la.2.nw.q] false false 0)).put (e + 1) (.loop .busy .normal ts0 [9, 10] asn bd e)).get b = s3.get b := fun b hb hne => by
      rw [St.get_put, if_neg hne, St.get_new, if_neg (by simp only [St.next_new]; omega), St.get_new, if_neg (by omega)]
    have hr4 : (((s3.new (.cells x.cells false false 0)).new (.cells [.bool la.1.up, .bool la.1.prim, .int .u32 la.1.epoch, .int .u32 la.1.ex.e, .int .u32 la.1.ex.q, .int .u32 la.1.nw.e, .int .u32 la.1.nw.q, .bool la.2.up, .bool la.2.prim, .int .u32 la.2.epoch, .int .u32 la.2.ex.e, .int .u32 la.2.ex.q, .int .u32 la.2.nw.e, .int .u32 la.2.nw.q] false false 0)).put (e + 1) (.loop .busy .normal ts0 [9, 10] asn bd e)).get (e + 1) = some (.loop .busy .normal ts0 [9, 10] asn bd e) := by rw [St.get_put, if_pos rfl]
    have hx4 : (((s3.new (.cells x.cells false false 0)).new (.cells [.bool la.1.up, .bool la.1.prim, .int .u32 la.1.epoch, .int .u32 la.1.ex.e, .int .u32 la.1.ex.q, .int .u32 la.1.nw.e, .int .u32 la.1.nw.q, .bool la.2.up, .bool la.2.prim, .int .u32 la.2.epoch, .int .u32 la.2.ex.e, .int .u32 la.2.ex.q, .int .u32 la.2.nw.e, .int .u32 la.2.nw.q] false false 0)).put (e + 1) (.loop .busy .normal ts0 [9, 10] asn bd e)).get q = some (.cells x.cells false false 0) := by
      rw [St.get_put, if_neg (by omega), St.get_new, if_neg (by simp only [St.next_new]; omega), St.get_new, if_pos (by omega)]
    have hl4 : (((s3.new (.cells x.cells false false 0)).new (.cells [.bool la.1.up, .bool la.1.prim, .int .u32 la.1.epoch, .int .u32 la.1.ex.e, .int .u32 la.1.ex.q, .int .u32 la.1.nw.e, .int .u32 la.1.nw.q, .bool la.2.up, .bool la.2.prim, .int .u32 la.2.epoch, .int .u32 la.2.ex.e, .int .u32 la.2.ex.q, .int .u32 la.2.nw.e, .int .u32 la.2.nw.q] false false 0)).put (e + 1) (.loop .busy .normal ts0 [9, 10] asn bd e)).get (q + 1) = some (.cells [.bool la.1.up, .bool la.1.prim, .int .u32 la.1.epoch, .int .u32 la.1.ex.e, .int .u32 la.1.ex.q, .int .u32 la.1.nw.e, .int .u32 la.1.nw.q, .bool la.2.up, .bool la.2.prim, .int .u32 la.2.epoch, .int .u32 la.2.ex.e, .int .u32 la.2.ex.q, .int .u32 la.2.nw.e, .int .u32 la.2.nw.q] false false 0) := by
      rw [St.get_put, if_neg (by omega), St.get_new, if_pos (by simp only [St.next_new]; omega)]
    have hn4 : (((s3.new (.cells x.cells false false 0)).new (.cells [.bool la.1.up, .bool la.1.prim, .int .u32 la.1.epoch, .int .u32 la.1.ex.e, .int .u32 la.1.ex.q, .int .u32 la.1.nw.e, .int .u32 la.1.nw.q, .bool la.2.up, .bool la.2.prim, .int .u32 la.2.epoch, .int .u32 la.2.ex.e, .int .u32 la.2.ex.q, .int .u32 la.2.nw.e, .int .u32 la.2.nw.q] false false 0)).put (e + 1) (.loop .busy .normal ts0 [9, 10] asn bd e)).next = q + 2 := by simp only [St.next_put, St.next_new]; omega
    rw [hq]
    generalize ((s3.new (.cells x.cells false false 0)).new (.cells [.bool la.1.up, .bool la.1.prim, .int .u32 la.1.epoch, .int .u32 la.1.ex.e, .int .u32 la.1.ex.q, .int .u32 la.1.nw.e, .int .u32 la.1.nw.q, .bool la.2.up, .bool la.2.prim, .int .u32 la.2.epoch, .int .u32 la.2.ex.e, .int .u32 la.2.ex.q, .int .u32 la.2.nw.e, .int .u32 la.2.nw.q] false false 0)).put (e + 1) (.loop .busy .normal ts0 [9, 10] asn bd e) = s4 at *
    rw [← hbd]
    simp -implicitDefEqProofs only [go_sem, Wk_block, Wk_drawnC, reduceCtorEq, Nat.reduceEqDiff, Nat.reduceAdd, Nat.reduceLeDiff, Nat.reduceLT, Nat.reduceMul, Nat.reduceSub, ↓reduceIte, Int.reduceLT, Int.reduceLE, Int.reduceNeg, Int.reduceAdd, Int.reduceEq, Nat.reduceBneDiff, Nat.reduceBEq, Int.reduceToNat, Int.reduceMul, Int.reduceSub, Int.reduceBEq, Int.reduceBNe, Int.cast_ofNat_Int, Int.toNat_natCast_add_one, Nat.add_left_cancel_iff, Nat.left_eq_add, Nat.add_eq_left, Int.toNat_natCast, Nat.add_assoc, Int.ofNat_lt, Int.ofNat_le, Nat.lt_add_one_of_lt, Nat.lt_add_one, Nat.lt_add_right, Nat.lt_add_right_iff_pos, Nat.add_lt_add_iff_left, g2, hx4, hl1, hl2, hv]
    have hc4 : Lies s4 c [.bool false] := (f34 c (by omega) (by omega)).trans h3
    have he5 : s4.get e = some .defd := (f34 e (by omega) (by omega)).trans h2
    have fin : ∀ s5, Fr s4 s5 → s3.next ≤ s5.next ∧ (∀ a, s1.next + 2 ≤ a → a < s3.next → s5.get a = s3.get a) ∧ s5.get e = some .defd ∧ Lies s5 c [.bool false] ∧ (∀ b, b < s.next → s5.get b = s.get b) := fun s5 f5 =>
      ⟨by have := f5.le; omega, fun a ha1 ha2 => (f5.get a (by omega)).trans (f34 a ha2 (by omega)), (f5.get e (by omega)).trans he5, (f5.get c (by omega)).trans hc4, fun b hb => (f5.get b (by omega)).trans ((f34 b (by omega) (by omega)).trans (h4.get b hb))⟩
    refine loop_ind (fun n ts s5 => ∃ i : Int, n = (2 - i).toNat ∧ (i = 0 ∨ i = 1 ∨ i = 2) ∧ ts.get 13 = some (.int .i64 i) ∧ ts.get 12 = some (.agg (x.v0.enc ++ x.v1.enc)) ∧ ts.get 3 = some (.ptr q 0) ∧ ts.get 4 = some (.ptr (q + 1) 0) ∧ ts.get 2 = some (.ptr c 0) ∧
      Fr s4 s5 ∧ (1 ≤ i → (x.v0.up && decide (x.v0.ex.lt la.1.ex)) = false) ∧ (2 ≤ i → (x.v1.up && decide (x.v1.ex.lt la.2.ex)) = false)) ?_ (n := 2)
      ⟨0, rfl, .inl rfl, by simp only [go_sem, Wk_block, Wk_drawnC, reduceCtorEq, Nat.reduceEqDiff, Nat.reduceAdd, Nat.reduceLeDiff, Nat.reduceLT, Nat.reduceMul, Nat.reduceSub, ↓reduceIte, Int.reduceLT, Int.reduceLE, Int.reduceNeg, Int.reduceAdd, Int.reduceEq, Nat.reduceBneDiff, Nat.reduceBEq, Int.reduceToNat, Int.reduceMul, Int.reduceSub, Int.reduceBEq, Int.reduceBNe, Int.cast_ofNat_Int, Int.toNat_natCast_add_one, Nat.add_left_cancel_iff, Nat.left_eq_add, Nat.add_eq_left, Int.toNat_natCast, Nat.add_assoc, Int.ofNat_lt, Int.ofNat_le], by simp only [go_sem, Wk_block, Wk_drawnC, reduceCtorEq, Nat.reduceEqDiff, Nat.reduceAdd, Nat.reduceLeDiff, Nat.reduceLT, Nat.reduceMul, Nat.reduceSub, ↓reduceIte, Int.reduceLT, Int.reduceLE, Int.reduceNeg, Int.reduceAdd, Int.reduceEq, Nat.reduceBneDiff, Nat.reduceBEq, Int.reduceToNat, Int.reduceMul, Int.reduceSub, Int.reduceBEq, Int.reduceBNe, Int.cast_ofNat_Int, Int.toNat_natCast_add_one, Nat.add_left_cancel_iff, Nat.left_eq_add, Nat.add_eq_left, Int.toNat_natCast, Nat.add_assoc, Int.ofNat_lt, Int.ofNat_le, Vw.enc], by simp only [go_sem, Wk_block, Wk_drawnC, reduceCtorEq, Nat.reduceEqDiff, Nat.reduceAdd, Nat.reduceLeDiff, Nat.reduceLT, Nat.reduceMul, Nat.reduceSub, ↓reduceIte, Int.reduceLT, Int.reduceLE, Int.reduceNeg, Int.reduceAdd, Int.reduceEq, Nat.reduceBneDiff, Nat.reduceBEq, Int.reduceToNat, Int.reduceMul, Int.reduceSub, Int.reduceBEq, Int.reduceBNe, Int.cast_ofNat_Int, Int.toNat_natCast_add_one, Nat.add_left_cancel_iff, Nat.left_eq_add, Nat.add_eq_left, Int.toNat_natCast, Nat.add_assoc, Int.ofNat_lt, Int.ofNat_le], by simp only [go_sem, Wk_block, Wk_drawnC, reduceCtorEq, Nat.reduceEqDiff, Nat.reduceAdd, Nat.reduceLeDiff, Nat.reduceLT, Nat.reduceMul, Nat.reduceSub, ↓reduceIte, Int.reduceLT, Int.reduceLE, Int.reduceNeg, Int.reduceAdd, Int.reduceEq, Nat.reduceBneDiff, Nat.reduceBEq, Int.reduceToNat, Int.reduceMul, Int.reduceSub, Int.reduceBEq, Int.reduceBNe, Int.cast_ofNat_Int, Int.toNat_natCast_add_one, Nat.add_left_cancel_iff, Nat.left_eq_add, Nat.add_eq_left, Int.toNat_natCast, Nat.add_assoc, Int.ofNat_lt, Int.ofNat_le], by simp only [go_sem, Wk_block, Wk_drawnC, reduceCtorEq, Nat.reduceEqDiff, Nat.reduceAdd, Nat.reduceLeDiff, Nat.reduceLT, Nat.reduceMul, Nat.reduceSub, ↓reduceIte, Int.reduceLT, Int.reduceLE, Int.reduceNeg, Int.reduceAdd, Int.reduceEq, Nat.reduceBneDiff, Nat.reduceBEq, Int.reduceToNat, Int.reduceMul, Int.reduceSub, Int.reduceBEq, Int.reduceBNe, Int.cast_ofNat_Int, Int.toNat_natCast_add_one, Nat.add_left_cancel_iff, Nat.left_eq_add, Nat.add_eq_left, Int.toNat_natCast, Nat.add_assoc, Int.ofNat_lt, Int.ofNat_le, g2], Fr.refl _, fun h => by omega, fun h => by omega⟩
    rintro n ts s5 ⟨i, rfl, hi, g13, g12, g3, g4, g2, f5, ok0, ok1⟩ IH
    obtain ⟨k1, k2, k3, k4, k5⟩ := fin s5 f5
    have hl5 := (f5.get (q + 1) (by omega)).trans hl4
    have hr5 := (f5.get (e + 1) (by omega)).trans hr4
    have hqn : q + 1 < s5.next := by have := f5.le; omega
    have hcn : c < s5.next := by omega
    have w1 : IntKind.i64.wrap 1 = 1 := rfl
    have w2 : IntKind.i64.wrap 2 = 2 := rfl
    unfold Vw.enc at g12
    rcases hi with rfl | rfl | rfl
    · cases hu : x.v0.up
      · simp -implicitDefEqProofs only [go_sem, Wk_block, Wk_drawnC, reduceCtorEq, Nat.reduceEqDiff, Nat.reduceAdd, Nat.reduceLeDiff, Nat.reduceLT, Nat.reduceMul, Nat.reduceSub, ↓reduceIte, Int.reduceLT, Int.reduceLE, Int.reduceNeg, Int.reduceAdd, Int.reduceEq, Nat.reduceBneDiff, Nat.reduceBEq, Int.reduceToNat, Int.reduceMul, Int.reduceSub, Int.reduceBEq, Int.reduceBNe, Int.cast_ofNat_Int, Int.toNat_natCast_add_one, Nat.add_left_cancel_iff, Nat.left_eq_add, Nat.add_eq_left, Int.toNat_natCast, Nat.add_assoc, Int.ofNat_lt, Int.ofNat_le, Nat.lt_add_one_of_lt, Nat.lt_add_one, Nat.lt_add_right, Nat.lt_add_right_iff_pos, Nat.add_lt_add_iff_left, g13, g12, g3, g4, g2, hu, hqn, w1, eq_next_f hqn, eq_next_f' hqn]
        refine IH (1 : Int).toNat _ _ (by decide) ⟨1, rfl, by simp, ?_, ?_, ?_, ?_, ?_, by (repeat (first | exact FrX.refl _ _ | exact Fr.refl _ | assumption | exact Fr.x (by assumption) _ | refine FrX.put ?_ (.inl rfl) _ | refine FrX.put ?_ (.inr (by first | omega | (simp; done) | (simp; omega))) _ | refine FrX.new ?_ _ | refine Fr.put ?_ (by first | omega | (simp; done) | (simp; omega)) _ | refine Fr.new ?_ _ | refine FrX.then ?_ (by assumption) | refine Fr.trans ?_ (by assumption))), fun _ => by rw [hu]; rfl, fun h => by omega⟩
        all_goals simp only [go_sem, Wk_block, Wk_drawnC, reduceCtorEq, Nat.reduceEqDiff, Nat.reduceAdd, Nat.reduceLeDiff, Nat.reduceLT, Nat.reduceMul, Nat.reduceSub, ↓reduceIte, Int.reduceLT, Int.reduceLE, Int.reduceNeg, Int.reduceAdd, Int.reduceEq, Nat.reduceBneDiff, Nat.reduceBEq, Int.reduceToNat, Int.reduceMul, Int.reduceSub, Int.reduceBEq, Int.reduceBNe, Int.cast_ofNat_Int, Int.toNat_natCast_add_one, Nat.add_left_cancel_iff, Nat.left_eq_add, Nat.add_eq_left, Int.toNat_natCast, Nat.add_assoc, Int.ofNat_lt, Int.ofNat_le, g13, g12, g3, g4, g2, Vw.enc, hu]
      · simp -implicitDefEqProofs only [go_sem, Wk_block, Wk_drawnC, reduceCtorEq, Nat.reduceEqDiff, Nat.reduceAdd, Nat.reduceLeDiff, Nat.reduceLT, Nat.reduceMul, Nat.reduceSub, ↓reduceIte, Int.reduceLT, Int.reduceLE, Int.reduceNeg, Int.reduceAdd, Int.reduceEq, Nat.reduceBneDiff, Nat.reduceBEq, Int.reduceToNat, Int.reduceMul, Int.reduceSub, Int.reduceBEq, Int.reduceBNe, Int.cast_ofNat_Int, Int.toNat_natCast_add_one, Nat.add_left_cancel_iff, Nat.left_eq_add, Nat.add_eq_left, Int.toNat_natCast, Nat.add_assoc, Int.ofNat_lt, Int.ofNat_le, Nat.lt_add_one_of_lt, Nat.lt_add_one, Nat.lt_add_right, Nat.lt_add_right_iff_pos, Nat.add_lt_add_iff_left, g13, g12, g3, g4, g2, hu, hqn, hl5, w1, eq_next_f hqn, eq_next_f' hqn]
        refine Wl_of (Compare_run x.v0.ex la.1.ex _) ?_
        rintro _ s6 ⟨rfl, f6⟩
        have f56 := ((Fr.refl s5).new (.cells [.bool true, .bool x.v0.prim, .int .u32 x.v0.epoch, .int .u32 x.v0.ex.e, .int .u32 x.v0.ex.q, .int .u32 x.v0.nw.e, .int .u32 x.v0.nw.q] false false 0)).trans f6
        have f06 := f5.trans f56
        obtain ⟨m1, m2, m3, m4, m5⟩ := fin s6 f06
        have m4' := m4
        unfold Lies at m4'
        simp only [go_sem, Wk_block, Wk_drawnC, reduceCtorEq, Nat.reduceEqDiff, Nat.reduceAdd, Nat.reduceLeDiff, Nat.reduceLT, Nat.reduceMul, Nat.reduceSub, ↓reduceIte, Int.reduceLT, Int.reduceLE, Int.reduceNeg, Int.reduceAdd, Int.reduceEq, Nat.reduceBneDiff, Nat.reduceBEq, Int.reduceToNat, Int.reduceMul, Int.reduceSub, Int.reduceBEq, Int.reduceBNe, Int.cast_ofNat_Int, Int.toNat_natCast_add_one, Nat.add_left_cancel_iff, Nat.left_eq_add, Nat.add_eq_left, Int.toNat_natCast, Nat.add_assoc, Int.ofNat_lt, Int.ofNat_le]
        refine Wi_split (fun hg => ?_) (fun hg => ?_)
        · have hlt : x.v0.ex.lt la.1.ex := cmp_lt0.1 (of_decide_eq_true hg)
          simp -implicitDefEqProofs only [go_sem, Wk_block, Wk_drawnC, reduceCtorEq, Nat.reduceEqDiff, Nat.reduceAdd, Nat.reduceLeDiff, Nat.reduceLT, Nat.reduceMul, Nat.reduceSub, ↓reduceIte, Int.reduceLT, Int.reduceLE, Int.reduceNeg, Int.reduceAdd, Int.reduceEq, Nat.reduceBneDiff, Nat.reduceBEq, Int.reduceToNat, Int.reduceMul, Int.reduceSub, Int.reduceBEq, Int.reduceBNe, Int.cast_ofNat_Int, Int.toNat_natCast_add_one, Nat.add_left_cancel_iff, Nat.left_eq_add, Nat.add_eq_left, Int.toNat_natCast, Nat.add_assoc, Int.ofNat_lt, Int.ofNat_le, Nat.lt_add_one_of_lt, Nat.lt_add_one, Nat.lt_add_right, Nat.lt_add_right_iff_pos, Nat.add_lt_add_iff_left, g2, m4', Wr_nil]
          have hr6 := (f06.get (e + 1) (by omega)).trans hr4
          refine ⟨_, _, _, _, _, _, _, (St.get_put _ _ _ _).trans ((if_neg (by omega)).trans hr6), ?_⟩
          refine ⟨by simp only [St.next_put]; omega, fun a ha1 ha2 => ?_, fun h => (by cases h), fun _ => ⟨?_, ?_, ?_, ?_, ?_⟩⟩
          · rw [St.get_put, if_neg (by omega), St.get_put, if_neg (by omega)]; exact m2 a ha1 (by omega)
          · rw [St.get_put, if_pos rfl, hasn, hbd]
          · rw [St.get_put, if_neg (by omega), St.get_put, if_neg (by omega)]; exact m3
          · rw [Lies, St.get_put, if_neg (by omega), St.get_put, if_pos rfl]
          · refine ⟨by simp only [St.next_put]; omega, fun b hb => ?_⟩
            rw [St.get_put, if_neg (by omega), St.get_put, if_neg (by omega)]; exact m5 b hb
          · refine ⟨j, hj, ?_⟩
            rw [hx, hla]
            simp [okR, hu, hlt]
        · have hlt : ¬ x.v0.ex.lt la.1.ex := fun h => by have := cmp_lt0.2 h; have := of_decide_eq_false hg; omega
          simp -implicitDefEqProofs only [go_sem, Wk_block, Wk_drawnC, reduceCtorEq, Nat.reduceEqDiff, Nat.reduceAdd, Nat.reduceLeDiff, Nat.reduceLT, Nat.reduceMul, Nat.reduceSub, ↓reduceIte, Int.reduceLT, Int.reduceLE, Int.reduceNeg, Int.reduceAdd, Int.reduceEq, Nat.reduceBneDiff, Nat.reduceBEq, Int.reduceToNat, Int.reduceMul, Int.reduceSub, Int.reduceBEq, Int.reduceBNe, Int.cast_ofNat_Int, Int.toNat_natCast_add_one, Nat.add_left_cancel_iff, Nat.left_eq_add, Nat.add_eq_left, Int.toNat_natCast, Nat.add_assoc, Int.ofNat_lt, Int.ofNat_le, Nat.lt_add_one_of_lt, Nat.lt_add_one, Nat.lt_add_right, Nat.lt_add_right_iff_pos, Nat.add_lt_add_iff_left, g13, g12, g3, g4, g2, w1]
          refine IH (1 : Int).toNat _ _ (by decide) ⟨1, rfl, by simp, ?_, ?_, ?_, ?_, ?_, f06, fun _ => by simp [hlt], fun h => by omega⟩
          all_goals simp only [go_sem, Wk_block, Wk_drawnC, reduceCtorEq, Nat.reduceEqDiff, Nat.reduceAdd, Nat.reduceLeDiff, Nat.reduceLT, Nat.reduceMul, Nat.reduceSub, ↓reduceIte, Int.reduceLT, Int.reduceLE, Int.reduceNeg, Int.reduceAdd, Int.reduceEq, Nat.reduceBneDiff, Nat.reduceBEq, Int.reduceToNat, Int.reduceMul, Int.reduceSub, Int.reduceBEq, Int.reduceBNe, Int.cast_ofNat_Int, Int.toNat_natCast_add_one, Nat.add_left_cancel_iff, Nat.left_eq_add, Nat.add_eq_left, Int.toNat_natCast, Nat.add_assoc, Int.ofNat_lt, Int.ofNat_le, g13, g12, g3, g4, g2, Vw.enc, hu]
    · cases hu : x.v1.up
      · simp -implicitDefEqProofs only [go_sem, Wk_block, Wk_drawnC, reduceCtorEq, Nat.reduceEqDiff, Nat.reduceAdd, Nat.reduceLeDiff, Nat.reduceLT, Nat.reduceMul, Nat.reduceSub, ↓reduceIte, Int.reduceLT, Int.reduceLE, Int.reduceNeg, Int.reduceAdd, Int.reduceEq, Nat.reduceBneDiff, Nat.reduceBEq, Int.reduceToNat, Int.reduceMul, Int.reduceSub, Int.reduceBEq, Int.reduceBNe, Int.cast_ofNat_Int, Int.toNat_natCast_add_one, Nat.add_left_cancel_iff, Nat.left_eq_add, Nat.add_eq_left, Int.toNat_natCast, Nat.add_assoc, Int.ofNat_lt, Int.ofNat_le, Nat.lt_add_one_of_lt, Nat.lt_add_one, Nat.lt_add_right, Nat.lt_add_right_iff_pos, Nat.add_lt_add_iff_left, g13, g12, g3, g4, g2, hu, hqn, w2, eq_next_f hqn, eq_next_f' hqn]
        refine IH (0 : Int).toNat _ _ (by decide) ⟨2, rfl, by simp, ?_, ?_, ?_, ?_, ?_, by (repeat (first | exact FrX.refl _ _ | exact Fr.refl _ | assumption | exact Fr.x (by assumption) _ | refine FrX.put ?_ (.inl rfl) _ | refine FrX.put ?_ (.inr (by first | omega | (simp; done) | (simp; omega))) _ | refine FrX.new ?_ _ | refine Fr.put ?_ (by first | omega | (simp; done) | (simp; omega)) _ | refine Fr.new ?_ _ | refine FrX.then ?_ (by assumption) | refine Fr.trans ?_ (by assumption))), fun _ => ok0 (by omega), fun _ => by rw [hu]; rfl⟩
        all_goals simp only [go_sem, Wk_block, Wk_drawnC, reduceCtorEq, Nat.reduceEqDiff, Nat.reduceAdd, Nat.reduceLeDiff, Nat.reduceLT, Nat.reduceMul, Nat.reduceSub, ↓reduceIte, Int.reduceLT, Int.reduceLE, Int.reduceNeg, Int.reduceAdd, Int.reduceEq, Nat.reduceBneDiff, Nat.reduceBEq, Int.reduceToNat, Int.reduceMul, Int.reduceSub, Int.reduceBEq, Int.reduceBNe, Int.cast_ofNat_Int, Int.toNat_natCast_add_one, Nat.add_left_cancel_iff, Nat.left_eq_add, Nat.add_eq_left, Int.toNat_natCast, Nat.add_assoc, Int.ofNat_lt, Int.ofNat_le, g13, g12, g3, g4, g2, Vw.enc, hu]
      · simp -implicitDefEqProofs only [go_sem, Wk_block, Wk_drawnC, reduceCtorEq, Nat.reduceEqDiff, Nat.reduceAdd, Nat.reduceLeDiff, Nat.reduceLT, Nat.reduceMul, Nat.reduceSub, ↓reduceIte, Int.reduceLT, Int.reduceLE, Int.reduceNeg, Int.reduceAdd, Int.reduceEq, Nat.reduceBneDiff, Nat.reduceBEq, Int.reduceToNat, Int.reduceMul, Int.reduceSub, Int.reduceBEq, Int.reduceBNe, Int.cast_ofNat_Int, Int.toNat_natCast_add_one, Nat.add_left_cancel_iff, Nat.left_eq_add, Nat.add_eq_left, Int.toNat_natCast, Nat.add_assoc, Int.ofNat_lt, Int.ofNat_le, Nat.lt_add_one_of_lt, Nat.lt_add_one, Nat.lt_add_right, Nat.lt_add_right_iff_pos, Nat.add_lt_add_iff_left, g13, g12, g3, g4, g2, hu, hqn, hl5, w2, eq_next_f hqn, eq_next_f' hqn]
        refine Wl_of (Compare_run x.v1.ex la.2.ex _) ?_
        rintro _ s6 ⟨rfl, f6⟩
        have f56 := ((Fr.refl s5).new (.cells [.bool true, .bool x.v1.prim, .int .u32 x.v1.epoch, .int .u32 x.v1.ex.e, .int .u32 x.v1.ex.q, .int .u32 x.v1.nw.e, .int .u32 x.v1.nw.q] false false 0)).trans f6
        have f06 := f5.trans f56
        obtain ⟨m1, m2, m3, m4, m5⟩ := fin s6 f06
        have m4' := m4
        unfold Lies at m4'
        simp only [go_sem, Wk_block, Wk_drawnC, reduceCtorEq, Nat.reduceEqDiff, Nat.reduceAdd, Nat.reduceLeDiff, Nat.reduceLT, Nat.reduceMul, Nat.reduceSub, ↓reduceIte, Int.reduceLT, Int.reduceLE, Int.reduceNeg, Int.reduceAdd, Int.reduceEq, Nat.reduceBneDiff, Nat.reduceBEq, Int.reduceToNat, Int.reduceMul, Int.reduceSub, Int.reduceBEq, Int.reduceBNe, Int.cast_ofNat_Int, Int.toNat_natCast_add_one, Nat.add_left_cancel_iff, Nat.left_eq_add, Nat.add_eq_left, Int.toNat_natCast, Nat.add_assoc, Int.ofNat_lt, Int.ofNat_le]
        refine Wi_split (fun hg => ?_) (fun hg => ?_)
        · have hlt : x.v1.ex.lt la.2.ex := cmp_lt0.1 (of_decide_eq_true hg)
          simp -implicitDefEqProofs only [go_sem, Wk_block, Wk_drawnC, reduceCtorEq, Nat.reduceEqDiff, Nat.reduceAdd, Nat.reduceLeDiff, Nat.reduceLT, Nat.reduceMul, Nat.reduceSub, ↓reduceIte, Int.reduceLT, Int.reduceLE, Int.reduceNeg, Int.reduceAdd, Int.reduceEq, Nat.reduceBneDiff, Nat.reduceBEq, Int.reduceToNat, Int.reduceMul, Int.reduceSub, Int.reduceBEq, Int.reduceBNe, Int.cast_ofNat_Int, Int.toNat_natCast_add_one, Nat.add_left_cancel_iff, Nat.left_eq_add, Nat.add_eq_left, Int.toNat_natCast, Nat.add_assoc, Int.ofNat_lt, Int.ofNat_le, Nat.lt_add_one_of_lt, Nat.lt_add_one, Nat.lt_add_right, Nat.lt_add_right_iff_pos, Nat.add_lt_add_iff_left, g2, m4', Wr_nil]
          have hr6 := (f06.get (e + 1) (by omega)).trans hr4
          refine ⟨_, _, _, _, _, _, _, (St.get_put _ _ _ _).trans ((if_neg (by omega)).trans hr6), ?_⟩
          refine ⟨by simp only [St.next_put]; omega, fun a ha1 ha2 => ?_, fun h => (by cases h), fun _ => ⟨?_, ?_, ?_, ?_, ?_⟩⟩
          · rw [St.get_put, if_neg (by omega), St.get_put, if_neg (by omega)]; exact m2 a ha1 (by omega)
          · rw [St.get_put, if_pos rfl, hasn, hbd]
          · rw [St.get_put, if_neg (by omega), St.get_put, if_neg (by omega)]; exact m3
          · rw [Lies, St.get_put, if_neg (by omega), St.get_put, if_pos rfl]
          · refine ⟨by simp only [St.next_put]; omega, fun b hb => ?_⟩
            rw [St.get_put, if_neg (by omega), St.get_put, if_neg (by omega)]; exact m5 b hb
          · refine ⟨j, hj, ?_⟩
            rw [hx, hla]
            simp [okR, hu, hlt]
        · have hlt : ¬ x.v1.ex.lt la.2.ex := fun h => by have := cmp_lt0.2 h; have := of_decide_eq_false hg; omega
          simp -implicitDefEqProofs only [go_sem, Wk_block, Wk_drawnC, reduceCtorEq, Nat.reduceEqDiff, Nat.reduceAdd, Nat.reduceLeDiff, Nat.reduceLT, Nat.reduceMul, Nat.reduceSub, ↓reduceIte, Int.reduceLT, Int.reduceLE, Int.reduceNeg, Int.reduceAdd, Int.reduceEq, Nat.reduceBneDiff, Nat.reduceBEq, Int.reduceToNat, Int.reduceMul, Int.reduceSub, Int.reduceBEq, Int.reduceBNe, Int.cast_ofNat_Int, Int.toNat_natCast_add_one, Nat.add_left_cancel_iff, Nat.left_eq_add, Nat.add_eq_left, Int.toNat_natCast, Nat.add_assoc, Int.ofNat_lt, Int.ofNat_le, Nat.lt_add_one_of_lt, Nat.lt_add_one, Nat.lt_add_right, Nat.lt_add_right_iff_pos, Nat.add_lt_add_iff_left, g13, g12, g3, g4, g2, w2]
          refine IH (0 : Int).toNat _ _ (by decide) ⟨2, rfl, by simp, ?_, ?_, ?_, ?_, ?_, f06, fun _ => ok0 (by omega), fun _ => by simp [hlt]⟩
          all_goals simp only [go_sem, Wk_block, Wk_drawnC, reduceCtorEq, Nat.reduceEqDiff, Nat.reduceAdd, Nat.reduceLeDiff, Nat.reduceLT, Nat.reduceMul, Nat.reduceSub, ↓reduceIte, Int.reduceLT, Int.reduceLE, Int.reduceNeg, Int.reduceAdd, Int.reduceEq, Nat.reduceBneDiff, Nat.reduceBEq, Int.reduceToNat, Int.reduceMul, Int.reduceSub, Int.reduceBEq, Int.reduceBNe, Int.cast_ofNat_Int, Int.toNat_natCast_add_one, Nat.add_left_cancel_iff, Nat.left_eq_add, Nat.add_eq_left, Int.toNat_natCast, Nat.add_assoc, Int.ofNat_lt, Int.ofNat_le, g13, g12, g3, g4, g2, Vw.enc, hu]
    · simp -implicitDefEqProofs only [go_sem, Wk_block, Wk_drawnC, reduceCtorEq, Nat.reduceEqDiff, Nat.reduceAdd, Nat.reduceLeDiff, Nat.reduceLT, Nat.reduceMul, Nat.reduceSub, ↓reduceIte, Int.reduceLT, Int.reduceLE, Int.reduceNeg, Int.reduceAdd, Int.reduceEq, Nat.reduceBneDiff, Nat.reduceBEq, Int.reduceToNat, Int.reduceMul, Int.reduceSub, Int.reduceBEq, Int.reduceBNe, Int.cast_ofNat_Int, Int.toNat_natCast_add_one, Nat.add_left_cancel_iff, Nat.left_eq_add, Nat.add_eq_left, Int.toNat_natCast, Nat.add_assoc, Int.ofNat_lt, Int.ofNat_le, Nat.lt_add_one_of_lt, Nat.lt_add_one, Nat.lt_add_right, Nat.lt_add_right_iff_pos, Nat.add_lt_add_iff_left, g13, Wr_nil]
      refine ⟨_, _, _, _, _, _, _, hr5, ?_⟩
      refine ⟨by simp only [St.next_put]; omega, fun a ha1 ha2 => ?_, fun _ => ⟨?_, ?_, ?_, ?_, ?_⟩, fun h => (by cases h)⟩
      · rw [St.get_put, if_neg (by omega)]; exact k2 a ha1 (by omega)
      · rw [St.get_put, if_pos rfl, hasn, hbd]
      · rw [St.get_put, if_neg (by omega)]; exact k3
      · rw [Lies, St.get_put, if_neg (by omega)]; exact k4
      · refine ⟨by simp only [St.next_put]; omega, fun b hb => ?_⟩
        rw [St.get_put, if_neg (by omega)]; exact k5 b hb
      · intro i hi hij
        by_cases hie : i = j
        · subst hie
          rw [hx, hla]
          simp only [okR, ok0 (by omega), ok1 (by omega)]
          rfl
        · exact h5 i hi (by omega)
  · refine ⟨?_, ?_, ?_, f2, fun i _ h => by omega⟩
    · rw [St.get_new, if_pos (by simp only [St.next_new]; omega)]
    · rw [St.get_new, if_neg (by simp only [St.next_new]; omega), St.get_new, if_pos (by omega)]
    · rw [Lies, St.get_new, if_neg (by simp only [St.next_new]; omega), St.get_new, if_neg (by omega)]; exact hc1
  · rintro w s3 ⟨hle, ⟨h1, h2, h3, h4, h5⟩ | ⟨h1, h2, h3, h4, i, hi, h5⟩⟩
    · refine ⟨_, _, _, _, _, _, _, h1, (by intro h; cases h), ?_⟩
      have hce : c ≠ e + 1 := by omega
      have hce' : c ≠ e := by omega
      unfold Lies at h3
      simp -implicitDefEqProofs only [go_sem, Wk_block, Wk_drawnC, reduceCtorEq, Nat.reduceEqDiff, Nat.reduceAdd, Nat.reduceLeDiff, Nat.reduceLT, Nat.reduceMul, Nat.reduceSub, ↓reduceIte, Int.reduceLT, Int.reduceLE, Int.reduceNeg, Int.reduceAdd, Int.reduceEq, Nat.reduceBneDiff, Nat.reduceBEq, Int.reduceToNat, Int.reduceMul, Int.reduceSub, Int.reduceBEq, Int.reduceBNe, Int.cast_ofNat_Int, Int.toNat_natCast_add_one, Nat.add_left_cancel_iff, Nat.left_eq_add, Nat.add_eq_left, Int.toNat_natCast, Nat.add_assoc, Int.ofNat_lt, Int.ofNat_le, Nat.lt_add_one_of_lt, Nat.lt_add_one, Nat.lt_add_right, Nat.lt_add_right_iff_pos, Nat.add_lt_add_iff_left, g2, h3, h2, hce, hce', Ne.symm hce, Ne.symm hce', Nat.add_eq_left]
      refine ⟨⟨true, rfl, by simpa using fun j hj => h5 j hj hj⟩, ⟨by simp only [St.next_drop, St.next_put]; exact h4.le, fun b hb => ?_⟩⟩
      rw [St.get_drop, if_neg (by omega), St.get_put, if_neg (by omega), St.get_put, if_neg (by omega)]
      exact h4.get b hb
    · refine ⟨_, _, _, _, _, _, _, h1, (by intro h; cases h), ?_⟩
      have hce : c ≠ e + 1 := by omega
      have hce' : c ≠ e := by omega
      unfold Lies at h3
      simp -implicitDefEqProofs only [go_sem, Wk_block, Wk_drawnC, reduceCtorEq, Nat.reduceEqDiff, Nat.reduceAdd, Nat.reduceLeDiff, Nat.reduceLT, Nat.reduceMul, Nat.reduceSub, ↓reduceIte, Int.reduceLT, Int.reduceLE, Int.reduceNeg, Int.reduceAdd, Int.reduceEq, Nat.reduceBneDiff, Nat.reduceBEq, Int.reduceToNat, Int.reduceMul, Int.reduceSub, Int.reduceBEq, Int.reduceBNe, Int.cast_ofNat_Int, Int.toNat_natCast_add_one, Nat.add_left_cancel_iff, Nat.left_eq_add, Nat.add_eq_left, Int.toNat_natCast, Nat.add_assoc, Int.ofNat_lt, Int.ofNat_le, Nat.lt_add_one_of_lt, Nat.lt_add_one, Nat.lt_add_right, Nat.lt_add_right_iff_pos, Nat.add_lt_add_iff_left, g2, h3, h2, hce, hce', Ne.symm hce, Ne.symm hce', Nat.add_eq_left]
      refine ⟨⟨false, rfl, ⟨fun h => (by cases h), fun h => (by rw [h i hi] at h5; cases h5)⟩⟩, ⟨by simp only [St.next_drop, St.next_put]; exact h4.le, fun b hb => ?_⟩⟩
      rw [St.get_drop, if_neg (by omega), St.get_put, if_neg (by omega)]
      exact h4.get b hb
end Go.Proofs.Yteffppdkofdmdaa
