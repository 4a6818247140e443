/- Scripts. An op read: the document's answer.
Scripts. The script of bytes: the document's answer.
The law of the script of any bytes. -/
import Derived.Test.YteiiblpnegjjlaaGreatZn
namespace Go.Proofs.YteiiblpnegjjlaaGreat.Lw
open D
set_option linter.unusedSimpArgs false
set_option linter.unusedVariables false
set_option maxRecDepth 10000

def z25 : List AV := [.int .i64 0, .int .i64 0, .int .i64 0, .nilSlice, .int .u8 0, .int .u8 0, .int .u8 0, .int .u8 0, .int .u8 0, .int .u8 0, .int .u8 0, .int .u8 0, .int .u8 0, .int .u8 0, .int .u8 0, .int .u8 0, .int .u8 0, .int .u8 0, .int .u8 0, .int .u8 0, .int .u32 0, .int .u32 0, .int .i64 0, .int .u8 0, .nilSlice]
def blkAt (B : List Nat) (j : Nat) : List Nat := B.take j ++ (List.replicate 16 0).drop j
theorem blk_len (B : List Nat) (hB : B.length = 16) (j : Nat) : (blkAt B j).length = 16 := by
  unfold blkAt
  rw [List.length_append, List.length_take, List.length_drop, List.length_replicate]
  omega
theorem blk_set (B : List Nat) (hB : B.length = 16) (j : Nat) (hj : j < 16) : (blkAt B j).set j B[j] = blkAt B (j + 1) := by
  unfold blkAt
  apply List.ext_getElem?
  intro i
  rw [List.getElem?_set]
  have h1 : (B.take j).length = j := by rw [List.length_take]; omega
  have h2 : (B.take (j + 1)).length = j + 1 := by rw [List.length_take]; omega
  by_cases e : j = i
  · subst e
    rw [if_pos rfl, if_pos (by rw [List.length_append, h1, List.length_drop, List.length_replicate]; omega), List.getElem?_append_left (by omega), List.getElem?_take_of_lt (by omega), List.getElem?_eq_getElem]
  · rw [if_neg e]
    by_cases hl : i < j
    · rw [List.getElem?_append_left (by omega), List.getElem?_append_left (by omega), List.getElem?_take_of_lt hl, List.getElem?_take_of_lt (by omega)]
    · rw [List.getElem?_append_right (by omega), List.getElem?_append_right (by omega), h1, h2, List.getElem?_drop, List.getElem?_drop]
      congr 1
      omega

theorem refOp_run {s0 s : St} {q : Nat} {vb : AV} {L : List Nat} {r : Rr} (h : RdR s q vb L r) (f0 : Fr s0 s) (d0 : Dom s0) (sl : SlOk s0 vb L) (bs : Bs s0 vb L) (len : L.length < 1000000000) (hq0 : s0.next ≤ q) (hd : Dom s) :
    Wf mm 25 [.ptr q 0] s fun v s' => ∃ kv wv, v = .agg (cellsC (rOp r).2 kv wv) ∧ OutI s' s.next kv (rOp r).2.keys ∧ OutB s' s.next wv ((rOp r).2.keep.map u8) ∧ RdR s' q vb L (rOp r).1 ∧ FrX q s s' ∧ Dom s' := by
  refine Wf_enter ft25 (sm (by decide)) (by rfl) ?_
  have ft : (false == true) = false := rfl
  have hlt0 := h.lt bs.lt
  have h0 := oqi_start h f0 d0 sl bs len hq0 hd z25 z25
  unfold z25 at h0
  simp -implicitDefEqProofs only [go_sem, Wk_block, Wk_drawnC, reduceCtorEq, Nat.reduceEqDiff, Nat.reduceAdd, Nat.reduceLeDiff, Nat.reduceLT, Nat.reduceMul, Nat.reduceSub, ↓reduceIte, Int.reduceLT, Int.reduceLE, Int.reduceNeg, Int.reduceAdd, Int.reduceEq, Nat.reduceBneDiff, Nat.reduceBEq, Int.reduceToNat, Int.reduceMul, Int.reduceSub, Int.reduceBEq, Int.reduceBNe, fd25, ft]
  refine Wl_of (h0.num (w := 1) (.inl rfl)) ?_
  rintro _ s1 ⟨rfl, h1, -⟩
  have e3 := h1.g3
  simp -implicitDefEqProofs only [go_sem, Wk_block, Wk_drawnC, reduceCtorEq, Nat.reduceEqDiff, Nat.reduceAdd, Nat.reduceLeDiff, Nat.reduceLT, Nat.reduceMul, Nat.reduceSub, ↓reduceIte, Int.reduceLT, Int.reduceLE, Int.reduceNeg, Int.reduceAdd, Int.reduceEq, Nat.reduceBneDiff, Nat.reduceBEq, Int.reduceToNat, Int.reduceMul, Int.reduceSub, Int.reduceBEq, Int.reduceBNe, e3, ft]
  refine Wl_of ((h1.store _).num (w := 1) (.inl rfl)) ?_
  clear e3
  rintro _ s2 ⟨rfl, h2, -⟩
  have e3 := h2.g3
  simp -implicitDefEqProofs only [go_sem, Wk_block, Wk_drawnC, reduceCtorEq, Nat.reduceEqDiff, Nat.reduceAdd, Nat.reduceLeDiff, Nat.reduceLT, Nat.reduceMul, Nat.reduceSub, ↓reduceIte, Int.reduceLT, Int.reduceLE, Int.reduceNeg, Int.reduceAdd, Int.reduceEq, Nat.reduceBneDiff, Nat.reduceBEq, Int.reduceToNat, Int.reduceMul, Int.reduceSub, Int.reduceBEq, Int.reduceBNe, e3, ft]
  refine Wl_of ((h2.store _).num (w := 1) (.inl rfl)) ?_
  clear e3
  rintro _ s3 ⟨rfl, h3, -⟩
  have e3 := h3.g3
  simp -implicitDefEqProofs only [go_sem, Wk_block, Wk_drawnC, reduceCtorEq, Nat.reduceEqDiff, Nat.reduceAdd, Nat.reduceLeDiff, Nat.reduceLT, Nat.reduceMul, Nat.reduceSub, ↓reduceIte, Int.reduceLT, Int.reduceLE, Int.reduceNeg, Int.reduceAdd, Int.reduceEq, Nat.reduceBneDiff, Nat.reduceBEq, Int.reduceToNat, Int.reduceMul, Int.reduceSub, Int.reduceBEq, Int.reduceBNe, e3, ft]
  refine Wl_of ((h3.store _).num (w := 1) (.inl rfl)) ?_
  clear e3
  rintro _ s4 ⟨rfl, h4, -⟩
  obtain ⟨a1', a2'⟩ := rNum_lt (w := 1) hlt0
  obtain ⟨b1', b2'⟩ := rNum_lt (w := 1) a2'
  obtain ⟨c1', c2'⟩ := rNum_lt (w := 1) b2'
  obtain ⟨m1', m2'⟩ := rNum_lt (w := 1) c2'
  have ro : rOp r = rOp r := rfl
  conv at ro => rhs; unfold rOp
  dsimp only at ro
  rw [ro]
  generalize (rNum r 1).2 = n1 at *
  generalize (rNum (rNum r 1).1 1).2 = n2 at *
  generalize (rNum (rNum (rNum r 1).1 1).1 1).2 = n3 at *
  generalize rNum (rNum (rNum (rNum r 1).1 1).1 1).1 1 = m at *
  have hm : m.2 < 256 := by simpa using m1'
  simp -implicitDefEqProofs only [go_sem, Wk_block, Wk_drawnC, reduceCtorEq, Nat.reduceEqDiff, Nat.reduceAdd, Nat.reduceLeDiff, Nat.reduceLT, Nat.reduceMul, Nat.reduceSub, ↓reduceIte, Int.reduceLT, Int.reduceLE, Int.reduceNeg, Int.reduceAdd, Int.reduceEq, Nat.reduceBneDiff, Nat.reduceBEq, Int.reduceToNat, Int.reduceMul, Int.reduceSub, Int.reduceBEq, Int.reduceBNe, ft]
  have hk0 : OutI s4 s.next .nilSlice ([] : List Int) := .inl ⟨rfl, rfl⟩
  refine Wk_loop_post (fun ts s' => ∃ kv : AV, ts.get 0 = some (.ptr q 0) ∧ ts.get 3 = some (.ptr (s.next + 1) 0) ∧ ts.get 2 = some (.ptr s.next 0) ∧ OutI s' s.next kv ((rNums m.2 m.1).2.map fun n : Nat => (n : Int)) ∧
      Oqi s0 s q s.next (s.next + 1) vb L z25 ([.int .i64 n1, .int .i64 n2, .int .i64 n3, kv] ++ (blkAt (List.replicate 16 0) 0).map u8 ++ [.int .u32 0, .int .u32 0, .int .i64 0, .int .u8 0, .nilSlice]) (rNums m.2 m.1).1 s') ?_ ?_
  · refine loop_ind (fun k ts s' => ∃ (i : Nat) (kv : AV), k = m.2 - i ∧ i ≤ m.2 ∧ ts.get 5 = some (.int .i64 (i : Int)) ∧ ts.get 4 = some (.int .i64 (m.2 : Int)) ∧ ts.get 0 = some (.ptr q 0) ∧ ts.get 3 = some (.ptr (s.next + 1) 0) ∧ ts.get 2 = some (.ptr s.next 0) ∧ OutI s' s.next kv ((rNums i m.1).2.map fun n : Nat => (n : Int)) ∧
        Oqi s0 s q s.next (s.next + 1) vb L z25 [.int .i64 n1, .int .i64 n2, .int .i64 n3, kv, .int .u8 0, .int .u8 0, .int .u8 0, .int .u8 0, .int .u8 0, .int .u8 0, .int .u8 0, .int .u8 0, .int .u8 0, .int .u8 0, .int .u8 0, .int .u8 0, .int .u8 0, .int .u8 0, .int .u8 0, .int .u8 0, .int .u32 0, .int .u32 0, .int .i64 0, .int .u8 0, .nilSlice] (rNums i m.1).1 s') ?_ (n := m.2)
      ⟨0, .nilSlice, rfl, by omega, by simp only [Tr.get_set, Nat.reduceEqDiff, ↓reduceIte, Int.cast_ofNat_Int], by simp only [Tr.get_set, Nat.reduceEqDiff, ↓reduceIte, Int.cast_ofNat_Int], by simp only [Tr.get_set, Nat.reduceEqDiff, ↓reduceIte, Int.cast_ofNat_Int], by simp only [Tr.get_set, Nat.reduceEqDiff, ↓reduceIte, Int.cast_ofNat_Int], by simp only [Tr.get_set, Nat.reduceEqDiff, ↓reduceIte, Int.cast_ofNat_Int], hk0, h4⟩
    clear h0 h1 h2 h3 h4 hk0
    rintro _ ts t0 ⟨i, kv, rfl, hi, g5, g4, g0, g3, g2, ho, hO⟩ IH
    have e2 := hO.g2
    have e3 := hO.g3
    have hqs := hO.hq2
    by_cases hlt : i < m.2
    · have hkc := ho.cell
      simp -implicitDefEqProofs only [go_sem, Wk_block, Wk_drawnC, reduceCtorEq, Nat.reduceEqDiff, Nat.reduceAdd, Nat.reduceLeDiff, Nat.reduceLT, Nat.reduceMul, Nat.reduceSub, ↓reduceIte, Int.reduceLT, Int.reduceLE, Int.reduceNeg, Int.reduceAdd, Int.reduceEq, Nat.reduceBneDiff, Nat.reduceBEq, Int.reduceToNat, Int.reduceMul, Int.reduceSub, Int.reduceBEq, Int.reduceBNe, g5, g4, g0, g3, g2, e3, hlt, ft]
      refine Wl_of (hO.num (w := 1) (.inl rfl)) ?_
      rintro _ t1 ⟨rfl, hO1, fx1⟩
      have ho1 := ho.frx hqs fx1
      have hrl : (rNums i m.1).2.length = i := (rNums_lt m2' i).2.2
      obtain ⟨kv', t2, happ, ho2, st2, hb2, hk2⟩ := (ho1.new (.cells [.int .i64 ((rNum (rNums i m.1).1 1).2 : Int)] false false 0)).push (by have := hO1.fx.le; simp only [St.next_new]; omega) (by rw [List.length_map, hrl]; omega) ((rNum (rNums i m.1).1 1).2 : Int)
      have hO2 := (hO1.new (.cells [.int .i64 ((rNum (rNums i m.1).1 1).2 : Int)] false false 0)).grow st2 hb2 (hk2 (dom_new hO1.dom _))
      have e3' := hO2.g3
      have hkc' := ho2.cell
      have wi := succ_in (j := i) (by omega)
      have e31 := hO1.g3
      have hsk := ho.same
      have hne : ¬ s.next + 1 = t1.next := by have := hO1.dom _ _ e31; omega
      simp -implicitDefEqProofs only [go_sem, Wk_block, Wk_drawnC, reduceCtorEq, Nat.reduceEqDiff, Nat.reduceAdd, Nat.reduceLeDiff, Nat.reduceLT, Nat.reduceMul, Nat.reduceSub, ↓reduceIte, Int.reduceLT, Int.reduceLE, Int.reduceNeg, Int.reduceAdd, Int.reduceEq, Nat.reduceBneDiff, Nat.reduceBEq, Int.reduceToNat, Int.reduceMul, Int.reduceSub, Int.reduceBEq, Int.reduceBNe, g5, g4, g0, g3, g2, e3, e31, e3', srcA, happ, hkc', hsk, hne, wi, Nat.mul_one, eq_self, Bool.and_self, Bool.and_true, ft]
      refine IH (m.2 - (i + 1)) _ _ (by omega) ⟨i + 1, kv', rfl, by omega, ?_, ?_, ?_, ?_, ?_, ?_, hO2.store _⟩
      · simp only [Tr.get_set, Nat.reduceEqDiff, ↓reduceIte, Int.cast_ofNat_Int]
      · simp only [Tr.get_set, Nat.reduceEqDiff, ↓reduceIte, Int.cast_ofNat_Int, g4]
      · simp only [Tr.get_set, Nat.reduceEqDiff, ↓reduceIte, Int.cast_ofNat_Int, g0]
      · simp only [Tr.get_set, Nat.reduceEqDiff, ↓reduceIte, Int.cast_ofNat_Int, g3]
      · simp only [Tr.get_set, Nat.reduceEqDiff, ↓reduceIte, Int.cast_ofNat_Int, g2]
      · refine OutI.put ?_ e3' _
        rw [rNums, List.map_append]
        exact ho2
    · have : i = m.2 := by omega
      subst this
      have hlf : decide ((m.2 : Int) < (m.2 : Int)) = false := decide_eq_false (by omega)
      simp -implicitDefEqProofs only [go_sem, Wk_block, Wk_drawnC, reduceCtorEq, Nat.reduceEqDiff, Nat.reduceAdd, Nat.reduceLeDiff, Nat.reduceLT, Nat.reduceMul, Nat.reduceSub, ↓reduceIte, Int.reduceLT, Int.reduceLE, Int.reduceNeg, Int.reduceAdd, Int.reduceEq, Nat.reduceBneDiff, Nat.reduceBEq, Int.reduceToNat, Int.reduceMul, Int.reduceSub, Int.reduceBEq, Int.reduceBNe, g5, g4, g0, g3, g2, hlf, hlt, ft]
      rw [Wr_nil]
      refine ⟨.inr rfl, rfl, kv, ?_, ?_, ?_, ho, hO⟩
      · simp only [Tr.get_set, Nat.reduceEqDiff, ↓reduceIte, Int.cast_ofNat_Int, g0]
      · simp only [Tr.get_set, Nat.reduceEqDiff, ↓reduceIte, Int.cast_ofNat_Int, g3]
      · simp only [Tr.get_set, Nat.reduceEqDiff, ↓reduceIte, Int.cast_ofNat_Int, g2]
  · clear h0 h1 h2 h3 h4 hk0
    rintro ts t0 ⟨kv, g0, g3, g2, ho, hO⟩
    have hqs := hO.hq2
    simp -implicitDefEqProofs only [go_sem, Wk_block, Wk_drawnC, reduceCtorEq, Nat.reduceEqDiff, Nat.reduceAdd, Nat.reduceLeDiff, Nat.reduceLT, Nat.reduceMul, Nat.reduceSub, ↓reduceIte, Int.reduceLT, Int.reduceLE, Int.reduceNeg, Int.reduceAdd, Int.reduceEq, Nat.reduceBneDiff, Nat.reduceBEq, Int.reduceToNat, Int.reduceMul, Int.reduceSub, Int.reduceBEq, Int.reduceBNe, g0, g3, g2, ft]
    refine Wl_of (hO.take (n := 16) (by omega)) ?_
    rintro bv t1 ⟨hbv, hO1, fx1⟩
    have ho1 := ho.frx hqs fx1
    obtain ⟨x1, x2, x3⟩ := rTake_lt (r := (rNums m.2 m.1).1) (w := 16) (rNums_lt m2' m.2).2.1
    have hbl := hbv.len
    rw [List.length_map] at hbl
    have hx4 : (rTake (rNums m.2 m.1).1 16).2.length ≤ 16 := by rcases x3 with x3 | x3 <;> simp [x3]
    have hpd : blkAt (rTake (rNums m.2 m.1).1 16).2 (rTake (rNums m.2 m.1).1 16).2.length = pad16 (rTake (rNums m.2 m.1).1 16).2 := by
      unfold blkAt pad16
      rcases x3 with x3 | x3
      · simp [x3]
      · rw [x3, List.take_of_length_le (by omega), List.drop_of_length_le (by simp), if_neg (by intro e; rw [e] at x3; cases x3), List.append_nil]
    have hb0 : blkAt (rTake (rNums m.2 m.1).1 16).2 0 = blkAt (List.replicate 16 0) 0 := by simp [blkAt]
    rw [← hb0] at hO1
    generalize hB : (rTake (rNums m.2 m.1).1 16).2 = B at *
    have hbv1 : OutB t1 s.next bv (B.map u8) := hbv.le hO.fx.le
    simp -implicitDefEqProofs only [go_sem, Wk_block, Wk_drawnC, reduceCtorEq, Nat.reduceEqDiff, Nat.reduceAdd, Nat.reduceLeDiff, Nat.reduceLT, Nat.reduceMul, Nat.reduceSub, ↓reduceIte, Int.reduceLT, Int.reduceLE, Int.reduceNeg, Int.reduceAdd, Int.reduceEq, Nat.reduceBneDiff, Nat.reduceBEq, Int.reduceToNat, Int.reduceMul, Int.reduceSub, Int.reduceBEq, Int.reduceBNe, g0, g3, g2, hbl, ft]
    refine Wk_loop_post (fun ts s' => ts.get 0 = some (.ptr q 0) ∧ ts.get 3 = some (.ptr (s.next + 1) 0) ∧ ts.get 2 = some (.ptr s.next 0) ∧ OutI s' s.next kv ((rNums m.2 m.1).2.map fun n : Nat => (n : Int)) ∧
      Oqi s0 s q s.next (s.next + 1) vb L z25 ([.int .i64 n1, .int .i64 n2, .int .i64 n3, kv] ++ (pad16 B).map u8 ++ [.int .u32 0, .int .u32 0, .int .i64 0, .int .u8 0, .nilSlice]) (rTake (rNums m.2 m.1).1 16).1 s') ?_ ?_
    · refine loop_ind (fun k ts s' => ∃ j : Nat, k = B.length - j ∧ j ≤ B.length ∧ ts.get 35 = some (.int .i64 (j : Int)) ∧ ts.get 34 = some (.int .i64 (B.length : Int)) ∧ ts.get 33 = some bv ∧ ts.get 0 = some (.ptr q 0) ∧ ts.get 3 = some (.ptr (s.next + 1) 0) ∧ ts.get 2 = some (.ptr s.next 0) ∧ OutI s' s.next kv ((rNums m.2 m.1).2.map fun n : Nat => (n : Int)) ∧ OutB s' s.next bv (B.map u8) ∧
          Oqi s0 s q s.next (s.next + 1) vb L z25 ([.int .i64 n1, .int .i64 n2, .int .i64 n3, kv] ++ (blkAt B j).map u8 ++ [.int .u32 0, .int .u32 0, .int .i64 0, .int .u8 0, .nilSlice]) (rTake (rNums m.2 m.1).1 16).1 s') ?_ (n := B.length)
        ⟨0, rfl, by omega, by simp only [Tr.get_set, Nat.reduceEqDiff, ↓reduceIte, Int.cast_ofNat_Int], by simp only [Tr.get_set, Nat.reduceEqDiff, ↓reduceIte, Int.cast_ofNat_Int], by simp only [Tr.get_set, Nat.reduceEqDiff, ↓reduceIte, Int.cast_ofNat_Int], by simp only [Tr.get_set, Nat.reduceEqDiff, ↓reduceIte, Int.cast_ofNat_Int, g0], by simp only [Tr.get_set, Nat.reduceEqDiff, ↓reduceIte, Int.cast_ofNat_Int, g3], by simp only [Tr.get_set, Nat.reduceEqDiff, ↓reduceIte, Int.cast_ofNat_Int, g2], ho1, hbv1, hO1⟩
      clear ho1 hO1 hbv hbv1 hbl g0 g3 g2 ho hO
      rintro _ ts t2 ⟨j, rfl, hj, g35, g34, g33, g0, g3, g2, ho, hbv, hO⟩ IH
      have hob := hbv.bs x1
      have hbl := hob.len
      by_cases hlt : j < B.length
      · obtain ⟨b, o, vs, lo, ro, z, hidx, hg, hv⟩ := hob.at_ j hlt
        have e3 := hO.g3
        have wj := succ_in (j := j) (by omega)
        have h16 : (0 ≤ (j : Int) ∧ (j : Int) < 16) = True := eq_true ⟨by omega, by omega⟩
        have hB16 : B.length = 16 := by
          rcases x3 with x3 | x3
          · rw [x3] at hlt; simp at hlt
          · exact x3
        have hbl16 := blk_len B hB16 j
        have hset := blk_set B hB16 j (by omega)
        generalize hC : ([AV.int .i64 n1, .int .i64 n2, .int .i64 n3, kv] ++ (blkAt B j).map u8 ++ [.int .u32 0, .int .u32 0, .int .i64 0, .int .u8 0, .nilSlice]) = C at e3 hO
        have hCl : C.length = 25 := by rw [← hC]; simp [hbl16]
        have hle1 : 4 + (j + 1) ≤ 25 := by omega
        have hu8 : ∀ b, (u8 b).cell = true := fun _ => rfl
        have hu8c : ∀ b, (u8 b).cells = [u8 b] := fun _ => rfl
        have hsp : List.take (4 + j) C ++ [u8 B[j]] ++ List.drop (4 + (j + 1)) C = [AV.int .i64 n1, .int .i64 n2, .int .i64 n3, kv] ++ (blkAt B (j + 1)).map u8 ++ [.int .u32 0, .int .u32 0, .int .i64 0, .int .u8 0, .nilSlice] := by
          rw [← hset, ← hC]
          have hlm : ((blkAt B j).map u8).length = 16 := by rw [List.length_map, hbl16]
          rw [List.set_eq_take_append_cons_drop, if_pos (by omega), List.map_append, List.map_cons, List.map_take, List.map_drop]
          generalize (blkAt B j).map u8 = M at hlm ⊢
          have h1 : List.take (4 + j) ([AV.int .i64 n1, .int .i64 n2, .int .i64 n3, kv] ++ M ++ [.int .u32 0, .int .u32 0, .int .i64 0, .int .u8 0, .nilSlice]) = [AV.int .i64 n1, .int .i64 n2, .int .i64 n3, kv] ++ M.take j := by
            rw [List.take_append_of_le_length (by simp; omega), Nat.add_comm 4 j]
            rfl
          have h2 : List.drop (4 + (j + 1)) ([AV.int .i64 n1, .int .i64 n2, .int .i64 n3, kv] ++ M ++ [.int .u32 0, .int .u32 0, .int .i64 0, .int .u8 0, .nilSlice]) = M.drop (j + 1) ++ [.int .u32 0, .int .u32 0, .int .i64 0, .int .u8 0, .nilSlice] := by
            rw [List.drop_append_of_le_length (by simp; omega), List.drop_append]
            simp
          rw [h1, h2]
          simp
        simp -implicitDefEqProofs only [go_sem, Wk_block, Wk_drawnC, reduceCtorEq, Nat.reduceEqDiff, Nat.reduceAdd, Nat.reduceLeDiff, Nat.reduceLT, Nat.reduceMul, Nat.reduceSub, ↓reduceIte, Int.reduceLT, Int.reduceLE, Int.reduceNeg, Int.reduceAdd, Int.reduceEq, Nat.reduceBneDiff, Nat.reduceBEq, Int.reduceToNat, Int.reduceMul, Int.reduceSub, Int.reduceBEq, Int.reduceBNe, g35, g34, g33, g0, g3, g2, hlt, hidx, hg, hv, e3, h16, hCl, hle1, hu8, hu8c, wj, Nat.mul_one, Bool.and_true, ft]
        rw [hsp]
        refine IH (B.length - (j + 1)) _ _ (by omega) ⟨j + 1, rfl, by omega, ?_, ?_, ?_, ?_, ?_, ?_, ho.put e3 _, hbv.put2 e3 (by rw [← hC]; simp) _, hO.store _⟩
        · simp only [Tr.get_set, Nat.reduceEqDiff, ↓reduceIte, Int.cast_ofNat_Int]
        · simp only [Tr.get_set, Nat.reduceEqDiff, ↓reduceIte, Int.cast_ofNat_Int, g34]
        · simp only [Tr.get_set, Nat.reduceEqDiff, ↓reduceIte, Int.cast_ofNat_Int, g33]
        · simp only [Tr.get_set, Nat.reduceEqDiff, ↓reduceIte, Int.cast_ofNat_Int, g0]
        · simp only [Tr.get_set, Nat.reduceEqDiff, ↓reduceIte, Int.cast_ofNat_Int, g3]
        · simp only [Tr.get_set, Nat.reduceEqDiff, ↓reduceIte, Int.cast_ofNat_Int, g2]
      · have : j = B.length := by omega
        subst this
        have hlf : decide ((B.length : Int) < (B.length : Int)) = false := decide_eq_false (by omega)
        simp -implicitDefEqProofs only [go_sem, Wk_block, Wk_drawnC, reduceCtorEq, Nat.reduceEqDiff, Nat.reduceAdd, Nat.reduceLeDiff, Nat.reduceLT, Nat.reduceMul, Nat.reduceSub, ↓reduceIte, Int.reduceLT, Int.reduceLE, Int.reduceNeg, Int.reduceAdd, Int.reduceEq, Nat.reduceBneDiff, Nat.reduceBEq, Int.reduceToNat, Int.reduceMul, Int.reduceSub, Int.reduceBEq, Int.reduceBNe, g35, g34, g33, hlf, hlt, ft]
        rw [Wr_nil]
        refine ⟨.inr rfl, rfl, ?_, ?_, ?_, ho, by rw [hpd] at hO; exact hO⟩
        · simp only [Tr.get_set, Nat.reduceEqDiff, ↓reduceIte, Int.cast_ofNat_Int, g0]
        · simp only [Tr.get_set, Nat.reduceEqDiff, ↓reduceIte, Int.cast_ofNat_Int, g3]
        · simp only [Tr.get_set, Nat.reduceEqDiff, ↓reduceIte, Int.cast_ofNat_Int, g2]
    · clear ho1 hO1 hbv hbv1 hbl g0 g3 g2 ho hO
      rintro ts t2 ⟨g0, g3, g2, ho2, hO2⟩
      have hbl16 : (pad16 B).length = 16 := by
        unfold pad16
        split
        · simp
        · rename_i hne
          rcases x3 with x3 | x3
          · exact absurd x3 hne
          · exact x3
      generalize hPB : pad16 B = PB at *
      match PB, hbl16 with
      | [b0, b1, b2, b3, b4, b5, b6, b7, b8, b9, b10, b11, b12, b13, b14, b15], _ =>
      have e3 := hO2.g3
      simp only [List.map_cons, List.map_nil, List.cons_append, List.nil_append] at e3
      obtain ⟨p1, p2⟩ := rNum_lt (w := 4) (hO2.rd.lt hO2.bs.lt)
      obtain ⟨q1, q2⟩ := rNum_lt (w := 4) p2
      obtain ⟨t1', t2'⟩ := rNum_lt (w := 2) q2
      obtain ⟨m1'', m2''⟩ := rNum_lt (w := 1) t2'
      obtain ⟨k1', k2'⟩ := rNum_lt (w := 1) m2''
      have wp := u32_of p1
      have wq := u32_of q1
      simp -implicitDefEqProofs only [go_sem, Wk_block, Wk_drawnC, reduceCtorEq, Nat.reduceEqDiff, Nat.reduceAdd, Nat.reduceLeDiff, Nat.reduceLT, Nat.reduceMul, Nat.reduceSub, ↓reduceIte, Int.reduceLT, Int.reduceLE, Int.reduceNeg, Int.reduceAdd, Int.reduceEq, Nat.reduceBneDiff, Nat.reduceBEq, Int.reduceToNat, Int.reduceMul, Int.reduceSub, Int.reduceBEq, Int.reduceBNe, g0, g3, g2, ft]
      refine Wl_of (hO2.num (w := 4) (.inr (.inr rfl))) ?_
      rintro _ t3 ⟨rfl, hO3, fx3⟩
      have ho3 := ho2.frx hqs fx3
      clear e3
      have e3 := hO3.g3
      simp only [List.map_cons, List.map_nil, List.cons_append, List.nil_append] at e3
      simp -implicitDefEqProofs only [go_sem, Wk_block, Wk_drawnC, reduceCtorEq, Nat.reduceEqDiff, Nat.reduceAdd, Nat.reduceLeDiff, Nat.reduceLT, Nat.reduceMul, Nat.reduceSub, ↓reduceIte, Int.reduceLT, Int.reduceLE, Int.reduceNeg, Int.reduceAdd, Int.reduceEq, Nat.reduceBneDiff, Nat.reduceBEq, Int.reduceToNat, Int.reduceMul, Int.reduceSub, Int.reduceBEq, Int.reduceBNe, g0, g3, g2, e3, wp, ft]
      refine Wl_of ((hO3.store _).num (w := 4) (.inr (.inr rfl))) ?_
      rintro _ t4 ⟨rfl, hO4, fx4⟩
      have ho4 := (ho3.put e3 _).frx hqs fx4
      clear e3
      have e3 := hO4.g3
      simp -implicitDefEqProofs only [go_sem, Wk_block, Wk_drawnC, reduceCtorEq, Nat.reduceEqDiff, Nat.reduceAdd, Nat.reduceLeDiff, Nat.reduceLT, Nat.reduceMul, Nat.reduceSub, ↓reduceIte, Int.reduceLT, Int.reduceLE, Int.reduceNeg, Int.reduceAdd, Int.reduceEq, Nat.reduceBneDiff, Nat.reduceBEq, Int.reduceToNat, Int.reduceMul, Int.reduceSub, Int.reduceBEq, Int.reduceBNe, g0, g3, g2, e3, wq, ft]
      refine Wl_of ((hO4.store _).num (w := 2) (.inr (.inl rfl))) ?_
      rintro _ t5 ⟨rfl, hO5, fx5⟩
      have ho5 := (ho4.put e3 _).frx hqs fx5
      clear e3
      have e3 := hO5.g3
      generalize hRT : rNum (rNum (rNum (rTake (rNums m.2 m.1).1 16).1 4).1 4).1 2 = rt at *
      have wt : IntKind.i64.wrap ((rt.2 : Int) - 1) = (rt.2 : Int) - 1 := i64_in (by omega) (by simp at t1'; omega)
      simp -implicitDefEqProofs only [go_sem, Wk_block, Wk_drawnC, reduceCtorEq, Nat.reduceEqDiff, Nat.reduceAdd, Nat.reduceLeDiff, Nat.reduceLT, Nat.reduceMul, Nat.reduceSub, ↓reduceIte, Int.reduceLT, Int.reduceLE, Int.reduceNeg, Int.reduceAdd, Int.reduceEq, Nat.reduceBneDiff, Nat.reduceBEq, Int.reduceToNat, Int.reduceMul, Int.reduceSub, Int.reduceBEq, Int.reduceBNe, g0, g3, g2, e3, wt, ft]
      refine Wl_of ((hO5.store _).num (w := 1) (.inl rfl)) ?_
      rintro _ t6 ⟨rfl, hO6, fx6⟩
      have ho6 := (ho5.put e3 _).frx hqs fx6
      clear e3
      have e3 := hO6.g3
      have wm : IntKind.u8.wrap ((rNum rt.1 1).2 : Int) = ((rNum rt.1 1).2 : Int) := u8_in (by omega) (by simp at m1''; omega)
      simp -implicitDefEqProofs only [go_sem, Wk_block, Wk_drawnC, reduceCtorEq, Nat.reduceEqDiff, Nat.reduceAdd, Nat.reduceLeDiff, Nat.reduceLT, Nat.reduceMul, Nat.reduceSub, ↓reduceIte, Int.reduceLT, Int.reduceLE, Int.reduceNeg, Int.reduceAdd, Int.reduceEq, Nat.reduceBneDiff, Nat.reduceBEq, Int.reduceToNat, Int.reduceMul, Int.reduceSub, Int.reduceBEq, Int.reduceBNe, g0, g3, g2, e3, wm, ft]
      refine Wl_of ((hO6.store _).num (w := 1) (.inl rfl)) ?_
      rintro _ t7 ⟨rfl, hO7, fx7⟩
      have ho7 := (ho6.put e3 _).frx hqs fx7
      clear e3
      simp -implicitDefEqProofs only [go_sem, Wk_block, Wk_drawnC, reduceCtorEq, Nat.reduceEqDiff, Nat.reduceAdd, Nat.reduceLeDiff, Nat.reduceLT, Nat.reduceMul, Nat.reduceSub, ↓reduceIte, Int.reduceLT, Int.reduceLE, Int.reduceNeg, Int.reduceAdd, Int.reduceEq, Nat.reduceBneDiff, Nat.reduceBEq, Int.reduceToNat, Int.reduceMul, Int.reduceSub, Int.reduceBEq, Int.reduceBNe, g0, g3, g2, ft]
      refine Wl_of (hO7.take (n := (rNum (rNum rt.1 1).1 1).2) (by simp at k1'; omega)) ?_
      rintro wv t8 ⟨hwv, hO8, fx8⟩
      have ho8 := ho7.frx hqs fx8
      have e2 := hO8.g2
      unfold z25 at e2
      have e3 := hO8.g3
      have hwc := hwv.cell
      have hkc := ho8.cell
      have hu8 : ∀ b, (u8 b).cell = true := fun _ => rfl
      simp -implicitDefEqProofs only [go_sem, Wk_block, Wk_drawnC, reduceCtorEq, Nat.reduceEqDiff, Nat.reduceAdd, Nat.reduceLeDiff, Nat.reduceLT, Nat.reduceMul, Nat.reduceSub, ↓reduceIte, Int.reduceLT, Int.reduceLE, Int.reduceNeg, Int.reduceAdd, Int.reduceEq, Nat.reduceBneDiff, Nat.reduceBEq, Int.reduceToNat, Int.reduceMul, Int.reduceSub, Int.reduceBEq, Int.reduceBNe, g0, g3, g2, e3, e2, hwc, hkc, hu8, Bool.and_self, Bool.and_true, ft]
      have hO9 := hO8.store [AV.int IntKind.i64 n1, AV.int IntKind.i64 n2, AV.int IntKind.i64 n3, kv, u8 b0, u8 b1, u8 b2, u8 b3, u8 b4, u8 b5, u8 b6, u8 b7, u8 b8, u8 b9, u8 b10, u8 b11, u8 b12, u8 b13, u8 b14, u8 b15, AV.int IntKind.u32 (rNum (rTake (rNums m.2 m.1).1 16).1 4).2,
        AV.int IntKind.u32 (rNum (rNum (rTake (rNums m.2 m.1).1 16).1 4).1 4).2, AV.int IntKind.i64 (rt.2 - 1), AV.int IntKind.u8 (rNum rt.1 1).2, wv]
      refine ⟨kv, wv, rfl, (ho8.put e3 _).put hO9.g2 _, ((hwv.le hO7.fx.le).put2 e3 (by simp) _).put2 hO9.g2 (by simp [z25]) _, hO9.fin (Nat.le_refl _) _⟩
end Go.Proofs.YteiiblpnegjjlaaGreat.Lw
namespace Go.Proofs.YteiiblpnegjjlaaGreat.Lw
open D
set_option linter.unusedSimpArgs false
set_option linter.unusedVariables false
set_option maxRecDepth 10000

theorem rNum_fail {r : Rr} {w : Nat} (h : (rNum r w).1.2 = true) : (rNum r w).2 = 0 := by
  unfold rNum rTake at *
  split at h
  · rename_i hb
    rw [if_pos hb]; rfl
  · cases h

theorem refRead_run {s : St} {v : AV} {L : List Nat} (hS : SlOk s v L) (hB : Bs s v L) (hT : Tx s v L) (hL : L.length < 10000000) (hd : Dom s) :
    Wf mm 8 [v] s fun w s' => (okB L = true → ∃ u l, w = .tup [.agg (parse L).1.enc, u, .int .i64 0] ∧ RdS s' u l ∧ (∀ x ∈ l, SopOk s' x ∧ ConRd x.con) ∧ l.map Sop.con = (parse L).2) ∧ (okB L = false → w = .tup [.agg zeroCfg, .nilSlice, .int .i64 241]) ∧ Fr s s' ∧ Dom s' := by
  refine Wf_enter ft8 (sm (by decide)) (by rfl) ?_
  have ft : (false == true) = false := rfl
  have tf : (true == false) = false := rfl
  have hc := hB.cell
  have d1 := dom_new (dom_new hd (.cells zeroCfg false false 0)) (.cells [v, .int .i64 0, .bool false] false false 0)
  have d1' := dom_new d1 (.cells zeroCfg false false 0)
  have h0 : Oqi s ((s.new (.cells zeroCfg false false 0)).new (.cells [v, .int .i64 0, .bool false] false false 0)) (s.next + 1) s.next (s.next + 2) v L zeroCfg zeroCfg (L, false) (((s.new (.cells zeroCfg false false 0)).new (.cells [v, .int .i64 0, .bool false] false false 0)).new (.cells zeroCfg false false 0)) :=
    ⟨⟨0, by rw [St.get_new, if_neg (by simp only [St.next_new]; omega), St.get_new, if_pos (by simp only [St.next_new])]; rfl, by omega, rfl⟩, (FrX.refl _ _).new _, d1', by rw [St.get_new, if_neg (by simp only [St.next_new]; omega), St.get_new, if_neg (by simp only [St.next_new]; omega), St.get_new, if_pos rfl], by rw [St.get_new, if_pos (by simp only [St.next_new])],
      (((Fr.refl s).new _).new _).new _, hd, hS, hB, by omega, by omega, by simp only [St.next_new]; omega, by omega, by simp only [St.next_new]; omega, by omega⟩
  unfold zeroCfg at h0
  have hsn : ((s.new (.cells [.int .i64 0, .int .u32 0, .int .u32 0, .int .i64 0, .int .i64 0, .int .i64 0, .int .i64 0] false false 0)).new (.cells [v, .int .i64 0, .bool false] false false 0)).next = s.next + 2 := rfl
  obtain ⟨b1, b2⟩ := rNum_lt (r := (L, false)) (w := 2) hB.lt
  obtain ⟨c1, c2⟩ := rNum_lt (w := 4) b2
  obtain ⟨e1, e2⟩ := rNum_lt (w := 4) c2
  have wc := u32_of c1
  have we := u32_of e1
  simp -implicitDefEqProofs only [go_sem, Wk_block, Wk_drawnC, reduceCtorEq, Nat.reduceEqDiff, Nat.reduceAdd, Nat.reduceLeDiff, Nat.reduceLT, Nat.reduceMul, Nat.reduceSub, ↓reduceIte, Int.reduceLT, Int.reduceLE, Int.reduceNeg, Int.reduceAdd, Int.reduceEq, Nat.reduceBneDiff, Nat.reduceBEq, Int.reduceToNat, Int.reduceMul, Int.reduceSub, Int.reduceBEq, Int.reduceBNe, fd8, hc, ft, tf]
  generalize (s.new (.cells [.int .i64 0, .int .u32 0, .int .u32 0, .int .i64 0, .int .i64 0, .int .i64 0, .int .i64 0] false false 0)).new (.cells [v, .int .i64 0, .bool false] false false 0) = sb at h0 hsn ⊢
  refine Wl_of ((h0.store _).num (w := 2) (.inr (.inl rfl))) ?_
  rintro _ s1 ⟨rfl, h1, -⟩
  have g3 := h1.g3
  simp -implicitDefEqProofs only [go_sem, Wk_block, Wk_drawnC, reduceCtorEq, Nat.reduceEqDiff, Nat.reduceAdd, Nat.reduceLeDiff, Nat.reduceLT, Nat.reduceMul, Nat.reduceSub, ↓reduceIte, Int.reduceLT, Int.reduceLE, Int.reduceNeg, Int.reduceAdd, Int.reduceEq, Nat.reduceBneDiff, Nat.reduceBEq, Int.reduceToNat, Int.reduceMul, Int.reduceSub, Int.reduceBEq, Int.reduceBNe, g3, ft]
  refine Wl_of ((h1.store _).num (w := 4) (.inr (.inr rfl))) ?_
  clear g3
  rintro _ s2 ⟨rfl, h2, -⟩
  have g3 := h2.g3
  simp -implicitDefEqProofs only [go_sem, Wk_block, Wk_drawnC, reduceCtorEq, Nat.reduceEqDiff, Nat.reduceAdd, Nat.reduceLeDiff, Nat.reduceLT, Nat.reduceMul, Nat.reduceSub, ↓reduceIte, Int.reduceLT, Int.reduceLE, Int.reduceNeg, Int.reduceAdd, Int.reduceEq, Nat.reduceBneDiff, Nat.reduceBEq, Int.reduceToNat, Int.reduceMul, Int.reduceSub, Int.reduceBEq, Int.reduceBNe, g3, wc, ft]
  refine Wl_of ((h2.store _).num (w := 4) (.inr (.inr rfl))) ?_
  clear g3
  rintro _ s3 ⟨rfl, h3, -⟩
  have g3 := h3.g3
  simp -implicitDefEqProofs only [go_sem, Wk_block, Wk_drawnC, reduceCtorEq, Nat.reduceEqDiff, Nat.reduceAdd, Nat.reduceLeDiff, Nat.reduceLT, Nat.reduceMul, Nat.reduceSub, ↓reduceIte, Int.reduceLT, Int.reduceLE, Int.reduceNeg, Int.reduceAdd, Int.reduceEq, Nat.reduceBneDiff, Nat.reduceBEq, Int.reduceToNat, Int.reduceMul, Int.reduceSub, Int.reduceBEq, Int.reduceBNe, g3, we, ft]
  refine Wl_of ((h3.store _).num (w := 2) (.inr (.inl rfl))) ?_
  clear g3
  rintro _ s4 ⟨rfl, h4, -⟩
  have g3 := h4.g3
  simp -implicitDefEqProofs only [go_sem, Wk_block, Wk_drawnC, reduceCtorEq, Nat.reduceEqDiff, Nat.reduceAdd, Nat.reduceLeDiff, Nat.reduceLT, Nat.reduceMul, Nat.reduceSub, ↓reduceIte, Int.reduceLT, Int.reduceLE, Int.reduceNeg, Int.reduceAdd, Int.reduceEq, Nat.reduceBneDiff, Nat.reduceBEq, Int.reduceToNat, Int.reduceMul, Int.reduceSub, Int.reduceBEq, Int.reduceBNe, g3, ft]
  refine Wl_of ((h4.store _).num (w := 2) (.inr (.inl rfl))) ?_
  clear g3
  rintro _ s5 ⟨rfl, h5, -⟩
  have g3 := h5.g3
  simp -implicitDefEqProofs only [go_sem, Wk_block, Wk_drawnC, reduceCtorEq, Nat.reduceEqDiff, Nat.reduceAdd, Nat.reduceLeDiff, Nat.reduceLT, Nat.reduceMul, Nat.reduceSub, ↓reduceIte, Int.reduceLT, Int.reduceLE, Int.reduceNeg, Int.reduceAdd, Int.reduceEq, Nat.reduceBneDiff, Nat.reduceBEq, Int.reduceToNat, Int.reduceMul, Int.reduceSub, Int.reduceBEq, Int.reduceBNe, g3, ft]
  refine Wl_of ((h5.store _).num (w := 2) (.inr (.inl rfl))) ?_
  clear g3
  rintro _ s6 ⟨rfl, h6, -⟩
  have g3 := h6.g3
  simp -implicitDefEqProofs only [go_sem, Wk_block, Wk_drawnC, reduceCtorEq, Nat.reduceEqDiff, Nat.reduceAdd, Nat.reduceLeDiff, Nat.reduceLT, Nat.reduceMul, Nat.reduceSub, ↓reduceIte, Int.reduceLT, Int.reduceLE, Int.reduceNeg, Int.reduceAdd, Int.reduceEq, Nat.reduceBneDiff, Nat.reduceBEq, Int.reduceToNat, Int.reduceMul, Int.reduceSub, Int.reduceBEq, Int.reduceBNe, g3, ft]
  refine Wl_of ((h6.store _).num (w := 2) (.inr (.inl rfl))) ?_
  clear g3
  rintro _ s7 ⟨rfl, h7, -⟩
  have g3 := h7.g3
  simp -implicitDefEqProofs only [go_sem, Wk_block, Wk_drawnC, reduceCtorEq, Nat.reduceEqDiff, Nat.reduceAdd, Nat.reduceLeDiff, Nat.reduceLT, Nat.reduceMul, Nat.reduceSub, ↓reduceIte, Int.reduceLT, Int.reduceLE, Int.reduceNeg, Int.reduceAdd, Int.reduceEq, Nat.reduceBneDiff, Nat.reduceBEq, Int.reduceToNat, Int.reduceMul, Int.reduceSub, Int.reduceBEq, Int.reduceBNe, g3, ft]
  refine Wl_of ((h7.store _).num (w := 2) (.inr (.inl rfl))) ?_
  clear g3
  rintro _ s8 ⟨rfl, h8, -⟩
  have h8' : Oqi s sb (s.next + 1) s.next (s.next + 2) v L zeroCfg (rHead (L, false)).2.enc (rMany L).1 s8 := h8
  have hmf := rNum_fail (r := (rHead (L, false)).1) (w := 2)
  have hmv : (rNum (rHead (L, false)).1 2) = rMany L := rfl
  rw [hmv] at hmf
  have hpar : (parse L).1 = (rHead (L, false)).2 := rfl
  have hpar2 : (parse L).2 = rOps (min (rMany L).2 400) (rMany L).1 := rfl
  have hm16 : (rMany L).2 < 65536 := by
    have := (rNum_lt (w := 2) (rHead_ok (r := (L, false)) hB.lt).2.2).1
    rw [hmv] at this
    simpa using this
  have hcok : CfgOk (rHead (L, false)).2 := (rHead_ok (r := (L, false)) hB.lt).1
  show Wo _ _ _ _ _ (putT _ (AV.int IntKind.i64 ((rMany L).2 : Int)) _) _ _ _
  clear h0 h1 h2 h3 h4 h5 h6 h7 h8
  generalize hcc : (rHead (L, false)).2 = c at *
  generalize rMany L = mn at *
  have hO0 : OutO (s8.new (.cells [] false false 0)) s8.next (.slice s8.next 0 0 0 false) [] := .inr (.inl ⟨s8.next, rfl, rfl, Nat.le_refl _, by simp, by rw [St.get_new, if_pos rfl]⟩)
  have h9 := h8'.new (.cells [] false false 0)
  simp -implicitDefEqProofs only [go_sem, Wk_block, Wk_drawnC, reduceCtorEq, Nat.reduceEqDiff, Nat.reduceAdd, Nat.reduceLeDiff, Nat.reduceLT, Nat.reduceMul, Nat.reduceSub, ↓reduceIte, Int.reduceLT, Int.reduceLE, Int.reduceNeg, Int.reduceAdd, Int.reduceEq, Nat.reduceBneDiff, Nat.reduceBEq, Int.reduceToNat, Int.reduceMul, Int.reduceSub, Int.reduceBEq, Int.reduceBNe, ft, tf]
  have hq8 : s.next + 1 < s8.next := by
    obtain ⟨_, h1, _⟩ := h8'.rd.get
    exact h8'.dom _ _ h1
  refine Wk_loop_post (fun ts s' => ∃ (u : AV) (l : List Sop) (r' : Rr), ts.get 8 = some u ∧ ts.get 6 = some (.ptr (s.next + 2) 0) ∧ ts.get 2 = some (.ptr s.next 0) ∧ ts.get 0 = some v ∧ OutO s' s8.next u l ∧ (∀ x ∈ l, OpIn s' s8.next x) ∧ l.map Sop.con = rOps (min mn.2 400) mn.1 ∧ Oqi s sb (s.next + 1) s.next (s.next + 2) v L zeroCfg c.enc r' s' ∧ s8.next ≤ s'.next) ?_ ?_
  · refine loop_ind (fun m ts s' => ∃ (i : Nat) (u : AV) (l : List Sop) (r' : Rr), m = min mn.2 400 - i ∧ i ≤ min mn.2 400 ∧ ts.get 9 = some (.int .i64 (i : Int)) ∧ ts.get 7 = some (.int .i64 (mn.2 : Int)) ∧ ts.get 5 = some (.ptr (s.next + 1) 0) ∧ ts.get 8 = some u ∧ ts.get 6 = some (.ptr (s.next + 2) 0) ∧ ts.get 2 = some (.ptr s.next 0) ∧ ts.get 0 = some v ∧
        OutO s' s8.next u l ∧ (∀ x ∈ l, OpIn s' s8.next x) ∧ l.map Sop.con ++ (if r'.2 then [] else rOps (min mn.2 400 - i) r') = rOps (min mn.2 400) mn.1 ∧ l.length = i ∧ Oqi s sb (s.next + 1) s.next (s.next + 2) v L zeroCfg c.enc r' s' ∧ s8.next ≤ s'.next) ?_ (n := min mn.2 400)
      ⟨0, .slice s8.next 0 0 0 false, [], mn.1, rfl, by omega, by simp only [Tr.get_set, Nat.reduceEqDiff, ↓reduceIte, Int.cast_ofNat_Int], by simp only [Tr.get_set, Nat.reduceEqDiff, ↓reduceIte, Int.cast_ofNat_Int], by simp only [Tr.get_set, Nat.reduceEqDiff, ↓reduceIte, Int.cast_ofNat_Int], by simp only [Tr.get_set, Nat.reduceEqDiff, ↓reduceIte, Int.cast_ofNat_Int], by simp only [Tr.get_set, Nat.reduceEqDiff, ↓reduceIte, Int.cast_ofNat_Int], by simp only [Tr.get_set, Nat.reduceEqDiff, ↓reduceIte, Int.cast_ofNat_Int], by simp only [Tr.get_set, Nat.reduceEqDiff, ↓reduceIte, Int.cast_ofNat_Int], hO0, by simp, by
        cases hf : mn.1.2
        · rfl
        · rw [hmf hf]; rfl, rfl, h9, by simp⟩
    rintro _ ts t0 ⟨i, u, l, r', rfl, hi, g9, g7, g5, g8, g6, g2, g0, hO, hops, hcon, hll, hq, hn8⟩ IH
    obtain ⟨at_, hR1, hR2, hR3⟩ := hq.rd.get
    by_cases hlt : i < min mn.2 400
    · have c1 : decide ((i : Int) < (mn.2 : Int)) = true := decide_eq_true (by omega)
      have c2 : decide ((i : Int) < 400) = true := decide_eq_true (by omega)
      have c3 : decide (i < mn.2) = true := decide_eq_true (by omega)
      have c4 : decide (i < 400) = true := decide_eq_true (by omega)
      cases hf : r'.2
      rotate_left
      · rw [hf] at hR1 hcon
        simp -implicitDefEqProofs only [go_sem, Wk_block, Wk_drawnC, reduceCtorEq, Nat.reduceEqDiff, Nat.reduceAdd, Nat.reduceLeDiff, Nat.reduceLT, Nat.reduceMul, Nat.reduceSub, ↓reduceIte, Int.reduceLT, Int.reduceLE, Int.reduceNeg, Int.reduceAdd, Int.reduceEq, Nat.reduceBneDiff, Nat.reduceBEq, Int.reduceToNat, Int.reduceMul, Int.reduceSub, Int.reduceBEq, Int.reduceBNe, g9, g7, g5, g8, c1, c2, c3, c4, hR1, ft, tf]
        rw [Wr_nil]
        refine ⟨.inr rfl, rfl, u, l, r', ?_, ?_, ?_, ?_, hO, hops, by simpa using hcon, hq, hn8⟩
        · simp only [Tr.get_set, Nat.reduceEqDiff, ↓reduceIte, Int.cast_ofNat_Int, g8]
        · simp only [Tr.get_set, Nat.reduceEqDiff, ↓reduceIte, Int.cast_ofNat_Int, g6]
        · simp only [Tr.get_set, Nat.reduceEqDiff, ↓reduceIte, Int.cast_ofNat_Int, g2]
        · simp only [Tr.get_set, Nat.reduceEqDiff, ↓reduceIte, Int.cast_ofNat_Int, g0]
      rw [hf] at hR1 hcon
      have hle := hq.fx.le
      simp -implicitDefEqProofs only [go_sem, Wk_block, Wk_drawnC, reduceCtorEq, Nat.reduceEqDiff, Nat.reduceAdd, Nat.reduceLeDiff, Nat.reduceLT, Nat.reduceMul, Nat.reduceSub, ↓reduceIte, Int.reduceLT, Int.reduceLE, Int.reduceNeg, Int.reduceAdd, Int.reduceEq, Nat.reduceBneDiff, Nat.reduceBEq, Int.reduceToNat, Int.reduceMul, Int.reduceSub, Int.reduceBEq, Int.reduceBNe, g9, g7, g5, g8, c1, c2, c3, c4, hR1, ft, tf]
      refine Wl_of (refOp_run hq.rd hq.f0 hd hS hB (by omega) (by omega) hq.dom) ?_
      rintro _ t1 ⟨kv, wv, rfl, hkv, hwv, hrd1, fx1, dd1⟩
      have hq1 := hq.step hrd1 fx1 dd1
      have hx : OpIn t1 t0.next (sopOf (rOp r').2 kv wv) := ⟨⟨kv, wv, rfl, hkv, hwv⟩, (rOp_ok (hq.rd.lt hB.lt)).1⟩
      have hxo := hx.ok
      have hXl := hxo.len
      have hXc := hxo.cell
      have hXe : (sopOf (rOp r').2 kv wv).cells = cellsC (rOp r').2 kv wv := rfl
      have hXn : (sopOf (rOp r').2 kv wv).con = (rOp r').2 := rfl
      rw [← hXe]
      generalize sopOf (rOp r').2 kv wv = x at *
      have h25 : ∀ y ∈ l, y.cells.length = 25 := fun y hy => (hops y hy).ok.len
      have hs8 : s8.next ≤ t1.next := Nat.le_trans hn8 fx1.le
      have hqs : s.next + 1 < s8.next := hq8
      obtain ⟨u', t2, happ, hO2, st2, hb2, hk2⟩ := ((hO.frx hqs fx1).new (.cells x.cells false false 0)).push (by simp only [St.next_new]; omega) (by omega) h25 x hXc
      have hk2 := hk2 (dom_new dd1 _)
      have hsrc : srcA (t1.new (.cells x.cells false false 0)) 25 (.slice t1.next 0 1 1 false) = some (1, x.cells) := by
        show (match loadA (t1.new (.cells x.cells false false 0)) t1.next 0 (1 * 25) with | some l => some (1, l) | none => none) = _
        have : loadA (t1.new (.cells x.cells false false 0)) t1.next 0 (1 * 25) = some x.cells := by
          unfold loadA
          rw [St.get_new, if_pos rfl]
          simp [hXl, List.take_of_length_le]
        rw [this]
      have hq2 := (hq1.new (.cells x.cells false false 0)).grow st2 (fun b hb => hb2 b (by have := h8'.fx.le; omega)) fun b vs ro z hb => hk2 b _ hb (by simp)
      have hops2 : ∀ y ∈ l ++ [x], OpIn t2 s8.next y := by
        intro y hy
        rcases List.mem_append.1 hy with hy | hy
        · exact (((hops y hy).frx hqs fx1).new _).keep st2.le hk2
        · rw [List.mem_singleton.1 hy]
          exact ((hx.le hn8).new _).keep st2.le hk2
      have wi := succ_in (j := i) (by omega)
      have hrs : rOps (min mn.2 400 - i) r' = x.con :: (if (rOp r').1.2 then [] else rOps (min mn.2 400 - (i + 1)) (rOp r').1) := by
        rw [show min mn.2 400 - i = (min mn.2 400 - (i + 1)) + 1 by omega, rOps, ← hXn]
      have huc := hO2.cell
      simp -implicitDefEqProofs only [go_sem, Wk_block, Wk_drawnC, reduceCtorEq, Nat.reduceEqDiff, Nat.reduceAdd, Nat.reduceLeDiff, Nat.reduceLT, Nat.reduceMul, Nat.reduceSub, ↓reduceIte, Int.reduceLT, Int.reduceLE, Int.reduceNeg, Int.reduceAdd, Int.reduceEq, Nat.reduceBneDiff, Nat.reduceBEq, Int.reduceToNat, Int.reduceMul, Int.reduceSub, Int.reduceBEq, Int.reduceBNe, g9, g7, g5, g8, hsrc, happ, hXl, List.append_nil, List.drop_succ_cons, List.drop_zero, wi, Nat.mul_one, Nat.one_mul, eq_self, ft]
      refine IH (min mn.2 400 - (i + 1)) _ _ (by omega) ⟨i + 1, u', l ++ [x], (rOp r').1, rfl, by omega, ?_, ?_, ?_, ?_, ?_, ?_, ?_, hO2, hops2, ?_, by simp [hll], hq2, Nat.le_trans hs8 (Nat.le_trans (Nat.le_succ _) st2.le)⟩
      · simp only [Tr.get_set, Nat.reduceEqDiff, ↓reduceIte, Int.cast_ofNat_Int]
      · simp only [Tr.get_set, Nat.reduceEqDiff, ↓reduceIte, Int.cast_ofNat_Int, g7]
      · simp only [Tr.get_set, Nat.reduceEqDiff, ↓reduceIte, Int.cast_ofNat_Int, g5]
      · simp only [Tr.get_set, Nat.reduceEqDiff, ↓reduceIte, Int.cast_ofNat_Int]
      · simp only [Tr.get_set, Nat.reduceEqDiff, ↓reduceIte, Int.cast_ofNat_Int, g6]
      · simp only [Tr.get_set, Nat.reduceEqDiff, ↓reduceIte, Int.cast_ofNat_Int, g2]
      · simp only [Tr.get_set, Nat.reduceEqDiff, ↓reduceIte, Int.cast_ofNat_Int, g0]
      · rw [← hcon, hrs]
        simp
    · have hie : i = min mn.2 400 := by omega
      have hcl : l.map Sop.con = rOps (min mn.2 400) mn.1 := by
        rw [← hcon, hie, Nat.sub_self]
        split <;> simp [rOps]
      by_cases hlm : i < mn.2
      · have c1 : decide ((i : Int) < (mn.2 : Int)) = true := decide_eq_true (by omega)
        have c2 : decide ((i : Int) < 400) = false := decide_eq_false (by omega)
        have c3 : decide (i < mn.2) = true := decide_eq_true (by omega)
        have c4 : decide (i < 400) = false := decide_eq_false (by omega)
        simp -implicitDefEqProofs only [go_sem, Wk_block, Wk_drawnC, reduceCtorEq, Nat.reduceEqDiff, Nat.reduceAdd, Nat.reduceLeDiff, Nat.reduceLT, Nat.reduceMul, Nat.reduceSub, ↓reduceIte, Int.reduceLT, Int.reduceLE, Int.reduceNeg, Int.reduceAdd, Int.reduceEq, Nat.reduceBneDiff, Nat.reduceBEq, Int.reduceToNat, Int.reduceMul, Int.reduceSub, Int.reduceBEq, Int.reduceBNe, g9, g7, g5, g8, c1, c2, c3, c4, ft, tf]
        rw [Wr_nil]
        refine ⟨.inr rfl, rfl, u, l, r', ?_, ?_, ?_, ?_, hO, hops, hcl, hq, hn8⟩
        · simp only [Tr.get_set, Nat.reduceEqDiff, ↓reduceIte, Int.cast_ofNat_Int, g8]
        · simp only [Tr.get_set, Nat.reduceEqDiff, ↓reduceIte, Int.cast_ofNat_Int, g6]
        · simp only [Tr.get_set, Nat.reduceEqDiff, ↓reduceIte, Int.cast_ofNat_Int, g2]
        · simp only [Tr.get_set, Nat.reduceEqDiff, ↓reduceIte, Int.cast_ofNat_Int, g0]
      · have c1 : decide ((i : Int) < (mn.2 : Int)) = false := decide_eq_false (by omega)
        have c3 : decide (i < mn.2) = false := decide_eq_false (by omega)
        simp -implicitDefEqProofs only [go_sem, Wk_block, Wk_drawnC, reduceCtorEq, Nat.reduceEqDiff, Nat.reduceAdd, Nat.reduceLeDiff, Nat.reduceLT, Nat.reduceMul, Nat.reduceSub, ↓reduceIte, Int.reduceLT, Int.reduceLE, Int.reduceNeg, Int.reduceAdd, Int.reduceEq, Nat.reduceBneDiff, Nat.reduceBEq, Int.reduceToNat, Int.reduceMul, Int.reduceSub, Int.reduceBEq, Int.reduceBNe, g9, g7, g5, g8, c1, c3, ft, tf]
        rw [Wr_nil]
        refine ⟨.inr rfl, rfl, u, l, r', ?_, ?_, ?_, ?_, hO, hops, hcl, hq, hn8⟩
        · simp only [Tr.get_set, Nat.reduceEqDiff, ↓reduceIte, Int.cast_ofNat_Int, g8]
        · simp only [Tr.get_set, Nat.reduceEqDiff, ↓reduceIte, Int.cast_ofNat_Int, g6]
        · simp only [Tr.get_set, Nat.reduceEqDiff, ↓reduceIte, Int.cast_ofNat_Int, g2]
        · simp only [Tr.get_set, Nat.reduceEqDiff, ↓reduceIte, Int.cast_ofNat_Int, g0]
  · rintro ts t0 ⟨u, l, r', g8, g6, g2, g0, hO, hops, hcon, hq, hn8⟩
    have e6 := hq.g3
    have e2 := hq.g2
    have fs := hq.f0
    have dd := hq.dom
    have h25 : ∀ y ∈ l, y.cells.length = 25 := fun y hy => (hops y hy).ok.len
    have hRd := hO.rds h25
    have hll : l.length ≤ 400 := by
      have := congrArg List.length hcon
      rw [List.length_map] at this
      have := rOps_con (min mn.2 400) mn.1
      omega
    have hce : c.enc.length = 7 := rfl
    have hce2 : 7 ≤ c.enc.length := Nat.le_refl 7
    have hce3 : c.enc.length ≤ 7 := Nat.le_refl 7
    have hct : List.take 7 c.enc = c.enc := rfl
    have hca : allCell c.enc = true := rfl
    unfold zeroCfg at e2
    simp -implicitDefEqProofs only [go_sem, Wk_block, Wk_drawnC, reduceCtorEq, Nat.reduceEqDiff, Nat.reduceAdd, Nat.reduceLeDiff, Nat.reduceLT, Nat.reduceMul, Nat.reduceSub, ↓reduceIte, Int.reduceLT, Int.reduceLE, Int.reduceNeg, Int.reduceAdd, Int.reduceEq, Nat.reduceBneDiff, Nat.reduceBEq, Int.reduceToNat, Int.reduceMul, Int.reduceSub, Int.reduceBEq, Int.reduceBNe, g8, g6, g2, g0, e6, hce2, hct, ft]
    refine Wl_of (refBytes_run c l hRd (fun y hy => (hops y hy).ok) (fun y hy => by have := (hops y hy).rd.ksl; have e : y.keys.length = y.con.keys.length := rfl; omega) dd (by omega) hcok) ?_
    rintro w1 t1 ⟨hw1, hw0, fa, da⟩
    have e61 := (fa.get _ (dd _ _ e6)).trans e6
    have e21 := (fa.get _ (dd _ _ e2)).trans e2
    have fs1 := fs.trans fa
    have hpl : plainS c l = plainA (parse L).1 (parse L).2 := by rw [plain_cons, hcon, ← hpar2, hpar]
    have hokB : okB L = (plainS c l && (encA c (l.map Sop.con) == L)) := by
      unfold okB
      rw [hpl, hcon, ← hpar2, hpar]
    cases hp : plainS c l
    · rw [hw0 hp]
      rw [hp, Bool.false_and] at hokB
      simp -implicitDefEqProofs only [go_sem, Wk_block, Wk_drawnC, reduceCtorEq, Nat.reduceEqDiff, Nat.reduceAdd, Nat.reduceLeDiff, Nat.reduceLT, Nat.reduceMul, Nat.reduceSub, ↓reduceIte, Int.reduceLT, Int.reduceLE, Int.reduceNeg, Int.reduceAdd, Int.reduceEq, Nat.reduceBneDiff, Nat.reduceBEq, Int.reduceToNat, Int.reduceMul, Int.reduceSub, Int.reduceBEq, Int.reduceBNe, g8, g6, g2, g0, e61, e21, hce2, hct, ft]
      exact ⟨fun h => (by rw [hokB] at h; cases h), fun _ => rfl, fs1.put (by omega) _, (Stp.put e21 _).dom da⟩
    · obtain ⟨u1, rfl, ho1⟩ := hw1 hp
      rw [hp, Bool.true_and] at hokB
      have hE : ∀ b ∈ encA c (l.map Sop.con), b < 256 := encA_lt (by
        intro x hx
        obtain ⟨y, hy, rfl⟩ := List.mem_map.1 hx
        exact ⟨(hops y hy).rd.blt, (hops y hy).rd.klt⟩)
      have ht1 := ho1.tx t1 (fun _ _ h => h) 0 (Tr.lf.set 0 u1) (by simp only [Tr.get_set, Nat.reduceEqDiff, ↓reduceIte, Int.cast_ofNat_Int])
      have ht2 := hT t1 (fr_keeps fs1 hd) 0 (Tr.lf.set 0 v) (by simp only [Tr.get_set, Nat.reduceEqDiff, ↓reduceIte, Int.cast_ofNat_Int])
      simp -implicitDefEqProofs only [go_sem, Wk_block, Wk_drawnC, reduceCtorEq, Nat.reduceEqDiff, Nat.reduceAdd, Nat.reduceLeDiff, Nat.reduceLT, Nat.reduceMul, Nat.reduceSub, ↓reduceIte, Int.reduceLT, Int.reduceLE, Int.reduceNeg, Int.reduceAdd, Int.reduceEq, Nat.reduceBneDiff, Nat.reduceBEq, Int.reduceToNat, Int.reduceMul, Int.reduceSub, Int.reduceBEq, Int.reduceBNe, Nat.lt_add_one] at ht1 ht2
      have hsb : strBin BinOp.neq (txt (encA c (l.map Sop.con))) (txt L) = some (.bool (!(encA c (l.map Sop.con) == L))) := by
        show some (AV.bool (!((txt (encA c (l.map Sop.con))).toList == (txt L).toList))) = _
        rw [txt_eq hE hB.lt]
      cases hq' : (encA c (l.map Sop.con) == L)
      · rw [hq'] at hokB hsb
        simp -implicitDefEqProofs only [go_sem, Wk_block, Wk_drawnC, reduceCtorEq, Nat.reduceEqDiff, Nat.reduceAdd, Nat.reduceLeDiff, Nat.reduceLT, Nat.reduceMul, Nat.reduceSub, ↓reduceIte, Int.reduceLT, Int.reduceLE, Int.reduceNeg, Int.reduceAdd, Int.reduceEq, Nat.reduceBneDiff, Nat.reduceBEq, Int.reduceToNat, Int.reduceMul, Int.reduceSub, Int.reduceBEq, Int.reduceBNe, g8, g6, g2, g0, e61, e21, ht1, ht2, hsb, hce2, hct, Bool.not_false, ft]
        exact ⟨fun h => (by rw [hokB] at h; cases h), fun _ => rfl, fs1.put (by omega) _, (Stp.put e21 _).dom da⟩
      · rw [hq'] at hokB hsb
        simp -implicitDefEqProofs only [go_sem, Wk_block, Wk_drawnC, reduceCtorEq, Nat.reduceEqDiff, Nat.reduceAdd, Nat.reduceLeDiff, Nat.reduceLT, Nat.reduceMul, Nat.reduceSub, ↓reduceIte, Int.reduceLT, Int.reduceLE, Int.reduceNeg, Int.reduceAdd, Int.reduceEq, Nat.reduceBneDiff, Nat.reduceBEq, Int.reduceToNat, Int.reduceMul, Int.reduceSub, Int.reduceBEq, Int.reduceBNe, g8, g6, g2, g0, e61, e21, ht1, ht2, hsb, hce, hce2, hce3, hct, hca, List.append_nil, List.drop_succ_cons, List.drop_zero, Bool.not_true, ft]
        have ha23 : s.next < s8.next := by omega
        have fx2 : FrX s.next t0 (t1.put s.next (.cells c.enc false false 0)) := (fa.x s.next).put (.inl rfl) _
        exact ⟨fun _ => ⟨u, l, by rw [hpar], (hO.frx ha23 fx2).rds h25, fun x hx => ⟨((hops x hx).frx ha23 fx2).ok, (hops x hx).rd⟩, by rw [hcon, hpar2]⟩, fun h => (by rw [hokB] at h; cases h), fs1.put (by omega) _, (Stp.put e21 _).dom da⟩
end Go.Proofs.YteiiblpnegjjlaaGreat.Lw
namespace Go.Proofs.YteiiblpnegjjlaaGreat.Lw
open D
set_option linter.unusedSimpArgs false
set_option linter.unusedVariables false
set_option maxRecDepth 10000

theorem sameOp_con {x y : Sop} (h : x.con = y.con) : sameOp x y = true := by
  have h' := h
  simp only [Sop.con, Con.mk.injEq] at h'
  obtain ⟨h1, h2, h3, h4, h5, h6, h7, h8, h9, h10⟩ := h'
  unfold sameOp
  simp [h1, h2, h3, h4, h5, h6, h7, h8, h9, h10]
theorem SameOps_run {l k : List Sop} {v w : AV} {s : St} (hv : RdS s v l) (hw : RdS s w k) (hl : ∀ x ∈ l, SopOk s x) (hk : ∀ x ∈ k, SopOk s x) (hz : ∀ x ∈ l, x.keys.length ≤ 1000 ∧ x.keep.length ≤ 1000) (hd : Dom s) (hL : l.length < 1000000) (he : l.map Sop.con = k.map Sop.con) :
    Wf mm 9 [v, w] s fun b s' => b = .bool true ∧ Fr s s' ∧ Dom s' := by
  refine Wf_enter ft9 (sm (by decide)) (by rfl) ?_
  have ft : (false == true) = false := rfl
  have tf : (true == false) = false := rfl
  have hlen : l.length = k.length := by simpa using congrArg List.length he
  have h1 := hv.len
  have h2 := hw.len
  rw [← hlen] at h2
  have hne : ((l.length : Int) != (l.length : Int)) = false := by simp
  have hne2 : (l.length != l.length) = false := by simp
  simp -implicitDefEqProofs only [go_sem, Wk_block, Wk_drawnC, reduceCtorEq, Nat.reduceEqDiff, Nat.reduceAdd, Nat.reduceLeDiff, Nat.reduceLT, Nat.reduceMul, Nat.reduceSub, ↓reduceIte, Int.reduceLT, Int.reduceLE, Int.reduceNeg, Int.reduceAdd, Int.reduceEq, Nat.reduceBneDiff, Nat.reduceBEq, Int.reduceToNat, Int.reduceMul, Int.reduceSub, Int.reduceBEq, Int.reduceBNe, fd9, h1, h2, hne, hne2, bne_self_eq_false, ft, tf]
  refine loop_ind (fun m ts s' => ∃ j : Nat, m = l.length - j ∧ j ≤ l.length ∧ ts.get 13 = some (.int .i64 (j : Int)) ∧ ts.get 12 = some (.int .i64 (l.length : Int)) ∧ ts.get 0 = some v ∧ ts.get 1 = some w ∧ Fr s s' ∧ Dom s') ?_ (n := l.length)
    ⟨0, rfl, by omega, by simp only [Tr.get_set, Nat.reduceEqDiff, ↓reduceIte, Int.cast_ofNat_Int], by simp only [Tr.get_set, Nat.reduceEqDiff, ↓reduceIte, Int.cast_ofNat_Int], by simp only [Tr.get_set, Nat.reduceEqDiff, ↓reduceIte, Int.cast_ofNat_Int], by simp only [Tr.get_set, Nat.reduceEqDiff, ↓reduceIte, Int.cast_ofNat_Int], Fr.refl _, hd⟩
  rintro _ ts s1 ⟨j, rfl, hj, g13, g12, g0, g1, f, dd⟩ IH
  by_cases hlt : j < l.length
  · obtain ⟨b, o, vs, lo, ro, z, hidx, hg, hbl, hle, he1⟩ := (hv.mono f).at_ j hlt
    obtain ⟨b', o', vs', lo', ro', z', hidx', hg', hbl', hle', he1'⟩ := (hw.mono f).at_ j (by omega)
    have hm1 := List.getElem_mem hlt
    have hm2 := List.getElem_mem (show j < k.length by omega)
    have hx := (hl _ hm1).mono (fr_keeps f hd)
    have hy := (hk _ hm2).mono (fr_keeps f hd)
    have hzz := hz _ hm1
    have hcc : l[j].con = (k[j]'(by omega)).con := by
      have := congrArg (fun L => L[j]?) he
      simpa [List.getElem?_map, List.getElem?_eq_getElem hlt, List.getElem?_eq_getElem (show j < k.length by omega)] using this
    generalize l[j] = x at he1 hx hzz hcc
    generalize k[j]'(by omega) = y at he1' hy hcc
    have wj := succ_in (j := j) (by omega)
    have hsm := sameOp_con hcc
    simp -implicitDefEqProofs only [go_sem, Wk_block, Wk_drawnC, reduceCtorEq, Nat.reduceEqDiff, Nat.reduceAdd, Nat.reduceLeDiff, Nat.reduceLT, Nat.reduceMul, Nat.reduceSub, ↓reduceIte, Int.reduceLT, Int.reduceLE, Int.reduceNeg, Int.reduceAdd, Int.reduceEq, Nat.reduceBneDiff, Nat.reduceBEq, Int.reduceToNat, Int.reduceMul, Int.reduceSub, Int.reduceBEq, Int.reduceBNe, g13, g12, g0, g1, hlt, hidx, hg, hle, he1, hidx', hg', hle', he1', ft, tf]
    refine Wl_of (refSame_run hx hy dd hzz.1 hzz.2) ?_
    rintro _ s2 ⟨rfl, f2, d2⟩
    simp -implicitDefEqProofs only [go_sem, Wk_block, Wk_drawnC, reduceCtorEq, Nat.reduceEqDiff, Nat.reduceAdd, Nat.reduceLeDiff, Nat.reduceLT, Nat.reduceMul, Nat.reduceSub, ↓reduceIte, Int.reduceLT, Int.reduceLE, Int.reduceNeg, Int.reduceAdd, Int.reduceEq, Nat.reduceBneDiff, Nat.reduceBEq, Int.reduceToNat, Int.reduceMul, Int.reduceSub, Int.reduceBEq, Int.reduceBNe, g13, g12, g0, g1, hsm, wj, ft, tf]
    refine IH (l.length - (j + 1)) _ _ (by omega) ⟨j + 1, rfl, by omega, ?_, ?_, ?_, ?_, f.trans f2, d2⟩
    · simp only [Tr.get_set, Nat.reduceEqDiff, ↓reduceIte, Int.cast_ofNat_Int]
    · simp only [Tr.get_set, Nat.reduceEqDiff, ↓reduceIte, Int.cast_ofNat_Int, g12]
    · simp only [Tr.get_set, Nat.reduceEqDiff, ↓reduceIte, Int.cast_ofNat_Int, g0]
    · simp only [Tr.get_set, Nat.reduceEqDiff, ↓reduceIte, Int.cast_ofNat_Int, g1]
  · have : j = l.length := by omega
    subst this
    have hlf : decide ((l.length : Int) < (l.length : Int)) = false := decide_eq_false (by omega)
    simp -implicitDefEqProofs only [go_sem, Wk_block, Wk_drawnC, reduceCtorEq, Nat.reduceEqDiff, Nat.reduceAdd, Nat.reduceLeDiff, Nat.reduceLT, Nat.reduceMul, Nat.reduceSub, ↓reduceIte, Int.reduceLT, Int.reduceLE, Int.reduceNeg, Int.reduceAdd, Int.reduceEq, Nat.reduceBneDiff, Nat.reduceBEq, Int.reduceToNat, Int.reduceMul, Int.reduceSub, Int.reduceBEq, Int.reduceBNe, g13, g12, hlf, hlt, ft, tf]
    exact ⟨f, dd⟩

theorem bytes_arg {s : St} {v : AV} (h : ArgOk s (.slice (.int .u8)) v) : ∃ L : List Nat, Bs s v L ∧ Tx s v L ∧ SlOk s v L ∧ Sr s v L ∧ L.length ≤ maxLen ∧ (L.length < 100000000 → Cl s v L) := by
  obtain ⟨L, hB, hl⟩ := keep_of h
  exact ⟨L, hB, keep_txt h hB, slOk_arg h hB, keep_src h hB, hl, cl_arg h hB⟩

theorem scriptReads_run : ∀ (s : St) (a : List AV), Dom s → ArgsOk s [.slice (.int .u8)] a → Wf mm 3 a s fun v _ => v = .bool true := by
  rintro s a hd h
  obtain ⟨v, rfl, h0⟩ := argsOk1 h
  obtain ⟨L, hB, hT, hS, hSr, hml, hCl⟩ := bytes_arg h0
  refine Wf_enter ft3 (sm (by decide)) (by rfl) ?_
  have ft : (false == true) = false := rfl
  have tf : (true == false) = false := rfl
  have hlen := hB.len
  cases c1 : decide (12000 < L.length)
  rotate_left
  · have c2 : decide ((L.length : Int) > 12000) = true := by simp at c1 ⊢; omega
    simp -implicitDefEqProofs only [go_sem, Wk_block, Wk_drawnC, reduceCtorEq, Nat.reduceEqDiff, Nat.reduceAdd, Nat.reduceLeDiff, Nat.reduceLT, Nat.reduceMul, Nat.reduceSub, ↓reduceIte, Int.reduceLT, Int.reduceLE, Int.reduceNeg, Int.reduceAdd, Int.reduceEq, Nat.reduceBneDiff, Nat.reduceBEq, Int.reduceToNat, Int.reduceMul, Int.reduceSub, Int.reduceBEq, Int.reduceBNe, fd3, Wl_eq (alive_eq _), hlen, c1, c2, ft, tf]
  have c2 : decide ((L.length : Int) > 12000) = false := by simp at c1 ⊢; omega
  have hL : L.length ≤ 12000 := by simpa using c1
  have g0 : (s.new (.cells [] false false 0)).get s.next = some (.cells [] false false 0) := by rw [St.get_new, if_pos rfl]
  have ho0 : OutB (s.new (.cells [] false false 0)) s.next (.slice s.next 0 0 0 false) ([] : List AV) := .inr (.inl ⟨s.next, rfl, rfl, Nat.le_refl _, by simp, g0⟩)
  obtain ⟨u1, s1, happ, ho1, hn1, hfr, st, -⟩ := ho0.app (by simp) L (by simp; omega)
  rw [List.nil_append] at ho1
  have hsrc := hSr (s.new (.cells [] false false 0)) (keeps_new hd _)
  have hll : (L.map u8).length = L.length := List.length_map _
  have d1 : Dom s1 := st.dom (dom_new hd _)
  have f1 : Fr s s1 := ⟨by simp only [St.next_new] at hn1; omega, fun b hb => by rw [hfr b hb, St.get_new, if_neg (by omega)]⟩
  simp -implicitDefEqProofs only [go_sem, Wk_block, Wk_drawnC, reduceCtorEq, Nat.reduceEqDiff, Nat.reduceAdd, Nat.reduceLeDiff, Nat.reduceLT, Nat.reduceMul, Nat.reduceSub, ↓reduceIte, Int.reduceLT, Int.reduceLE, Int.reduceNeg, Int.reduceAdd, Int.reduceEq, Nat.reduceBneDiff, Nat.reduceBEq, Int.reduceToNat, Int.reduceMul, Int.reduceSub, Int.reduceBEq, Int.reduceBNe, fd3, Wl_eq (alive_eq _), hlen, c1, c2, hsrc, hll, happ, Nat.mul_one, eq_self, ft, tf]
  refine Wl_of (Read_run (ho1.cl (by omega)) (ho1.bs hB.lt) (by omega) d1) ?_
  rintro w1 s2 ⟨ha1, ha2, fa, da⟩
  have ft1 := ((ho1.tx).mono (fr_keeps fa d1))
  have hz7 : List.drop 7 zeroCfg = [] := rfl
  have hzl : zeroCfg.length = 7 := rfl
  have hzc : allCell zeroCfg = true := rfl
  have hzt : List.take 7 zeroCfg = zeroCfg := rfl
  have hze : cellsEq [1, 1, 1, 1, 1, 1, 1] zeroCfg zeroCfg = some true := by simp [zeroCfg, cellsEq, leafEq]
  cases hok : okB L
  · rw [ha2 hok]
    simp -implicitDefEqProofs only [go_sem, Wk_block, Wk_drawnC, reduceCtorEq, Nat.reduceEqDiff, Nat.reduceAdd, Nat.reduceLeDiff, Nat.reduceLT, Nat.reduceMul, Nat.reduceSub, ↓reduceIte, Int.reduceLT, Int.reduceLE, Int.reduceNeg, Int.reduceAdd, Int.reduceEq, Nat.reduceBneDiff, Nat.reduceBEq, Int.reduceToNat, Int.reduceMul, Int.reduceSub, Int.reduceBEq, Int.reduceBNe, hzl, hzc, hzt, ft, tf]
    have fs3 : Fr s (s2.new (.cells zeroCfg false false 0)) := (f1.trans fa).new _
    have hex := fr_keeps fs3 hd
    refine Wl_of (refRead_run (hS.mono hex) (hB.mono hex) (hT.mono hex) (by omega) (dom_new da _)) ?_
    rintro w2 s3 ⟨hb1, hb2, fb, db⟩
    have g4 : s3.get s2.next = some (.cells zeroCfg false false 0) := (fb.get _ (by simp only [St.next_new]; omega)).trans (by rw [St.get_new, if_pos rfl])
    have hn4 : ¬ s2.next = s3.next := by have := db _ _ g4; omega
    have g4' : (s3.new (.cells zeroCfg false false 0)).get s2.next = some (.cells zeroCfg false false 0) := by rw [St.get_new, if_neg hn4]; exact g4
    have g5' : (s3.new (.cells zeroCfg false false 0)).get s3.next = some (.cells zeroCfg false false 0) := by rw [St.get_new, if_pos rfl]
    have fs4 : Fr s (s3.new (.cells zeroCfg false false 0)) := (fs3.trans fb).new _
    rw [hb2 hok]
    simp -implicitDefEqProofs only [go_sem, Wk_block, Wk_drawnC, reduceCtorEq, Nat.reduceEqDiff, Nat.reduceAdd, Nat.reduceLeDiff, Nat.reduceLT, Nat.reduceMul, Nat.reduceSub, ↓reduceIte, Int.reduceLT, Int.reduceLE, Int.reduceNeg, Int.reduceAdd, Int.reduceEq, Nat.reduceBneDiff, Nat.reduceBEq, Int.reduceToNat, Int.reduceMul, Int.reduceSub, Int.reduceBEq, Int.reduceBNe, hzl, hzc, hzt, hze, g4, g4', g5', hn4, ft, tf]
    refine Wl_of (SameOps_run (l := []) (k := []) ⟨fun _ => rfl, fun j h => by simp at h, rfl, rfl⟩ ⟨fun _ => rfl, fun j h => by simp at h, rfl, rfl⟩ (by simp) (by simp) (by simp) (dom_new db _) (by simp) rfl) ?_
    rintro _ s5 ⟨rfl, fc, dc⟩
    have ht1 := (ho1.tx) s5 (fr_keeps (((fa.trans ((Fr.refl s2).new (.cells zeroCfg false false 0))).trans fb).trans (((Fr.refl s3).new (.cells zeroCfg false false 0)).trans fc)) d1) 0 (Tr.lf.set 0 u1) (by simp only [Tr.get_set, Nat.reduceEqDiff, ↓reduceIte, Int.cast_ofNat_Int])
    have ht2 := hT s5 (fr_keeps (fs4.trans fc) hd) 0 (Tr.lf.set 0 v) (by simp only [Tr.get_set, Nat.reduceEqDiff, ↓reduceIte, Int.cast_ofNat_Int])
    simp -implicitDefEqProofs only [go_sem, Wk_block, Wk_drawnC, reduceCtorEq, Nat.reduceEqDiff, Nat.reduceAdd, Nat.reduceLeDiff, Nat.reduceLT, Nat.reduceMul, Nat.reduceSub, ↓reduceIte, Int.reduceLT, Int.reduceLE, Int.reduceNeg, Int.reduceAdd, Int.reduceEq, Nat.reduceBneDiff, Nat.reduceBEq, Int.reduceToNat, Int.reduceMul, Int.reduceSub, Int.reduceBEq, Int.reduceBNe, Nat.lt_add_one] at ht1 ht2
    have hsb : strBin BinOp.eql (txt L) (txt L) = some (.bool true) := by
      show some (AV.bool ((txt L).toList == (txt L).toList)) = _
      simp
    simp -implicitDefEqProofs only [go_sem, Wk_block, Wk_drawnC, reduceCtorEq, Nat.reduceEqDiff, Nat.reduceAdd, Nat.reduceLeDiff, Nat.reduceLT, Nat.reduceMul, Nat.reduceSub, ↓reduceIte, Int.reduceLT, Int.reduceLE, Int.reduceNeg, Int.reduceAdd, Int.reduceEq, Nat.reduceBneDiff, Nat.reduceBEq, Int.reduceToNat, Int.reduceMul, Int.reduceSub, Int.reduceBEq, Int.reduceBNe, ht1, ht2, hsb, ft, tf]
  · obtain ⟨u2, l, rfl, hv2, hl2, hcl2⟩ := ha1 hok
    have hzl : (parse L).1.enc.length = 7 := rfl
    have hzl3 : (parse L).1.enc.length ≤ 7 := Nat.le_refl 7
    have hzl2 : 7 ≤ (parse L).1.enc.length := Nat.le_refl 7
    have hzc : allCell (parse L).1.enc = true := rfl
    have hzt : List.take 7 (parse L).1.enc = (parse L).1.enc := rfl
    have hze : cellsEq [1, 1, 1, 1, 1, 1, 1] (parse L).1.enc (parse L).1.enc = some true := by simp [Cfg.enc, cellsEq, leafEq]
    simp -implicitDefEqProofs only [go_sem, Wk_block, Wk_drawnC, reduceCtorEq, Nat.reduceEqDiff, Nat.reduceAdd, Nat.reduceLeDiff, Nat.reduceLT, Nat.reduceMul, Nat.reduceSub, ↓reduceIte, Int.reduceLT, Int.reduceLE, Int.reduceNeg, Int.reduceAdd, Int.reduceEq, Nat.reduceBneDiff, Nat.reduceBEq, Int.reduceToNat, Int.reduceMul, Int.reduceSub, Int.reduceBEq, Int.reduceBNe, hzl, hzl2, hzl3, hzc, hzt, List.append_nil, List.drop_succ_cons, List.drop_zero, ft, tf]
    have fs3 : Fr s (s2.new (.cells (parse L).1.enc false false 0)) := (f1.trans fa).new _
    have hex := fr_keeps fs3 hd
    refine Wl_of (refRead_run (hS.mono hex) (hB.mono hex) (hT.mono hex) (by omega) (dom_new da _)) ?_
    rintro w2 s3 ⟨hb1, hb2, fb, db⟩
    have g4 : s3.get s2.next = some (.cells (parse L).1.enc false false 0) := (fb.get _ (by simp only [St.next_new]; omega)).trans (by rw [St.get_new, if_pos rfl])
    have hn4 : ¬ s2.next = s3.next := by have := db _ _ g4; omega
    have g4' : (s3.new (.cells (parse L).1.enc false false 0)).get s2.next = some (.cells (parse L).1.enc false false 0) := by rw [St.get_new, if_neg hn4]; exact g4
    have g5' : (s3.new (.cells (parse L).1.enc false false 0)).get s3.next = some (.cells (parse L).1.enc false false 0) := by rw [St.get_new, if_pos rfl]
    have fs4 : Fr s (s3.new (.cells (parse L).1.enc false false 0)) := (fs3.trans fb).new _
    obtain ⟨u3, k, rfl, hv3, hl3, hcl3⟩ := hb1 hok
    simp -implicitDefEqProofs only [go_sem, Wk_block, Wk_drawnC, reduceCtorEq, Nat.reduceEqDiff, Nat.reduceAdd, Nat.reduceLeDiff, Nat.reduceLT, Nat.reduceMul, Nat.reduceSub, ↓reduceIte, Int.reduceLT, Int.reduceLE, Int.reduceNeg, Int.reduceAdd, Int.reduceEq, Nat.reduceBneDiff, Nat.reduceBEq, Int.reduceToNat, Int.reduceMul, Int.reduceSub, Int.reduceBEq, Int.reduceBNe, hzl, hzl2, hzl3, hzc, hzt, hze, g4, g4', g5', hn4, List.append_nil, List.drop_succ_cons, List.drop_zero, ft, tf]
    have fl4 : Fr s2 (s3.new (.cells (parse L).1.enc false false 0)) := (((Fr.refl s2).new _).trans fb).new _
    have hll : l.length ≤ 400 := by
      have := congrArg List.length hcl2
      rw [List.length_map] at this
      have h2 : (parse L).2 = rOps (min (rMany L).2 400) (rMany L).1 := rfl
      rw [h2] at this
      have := rOps_con (min (rMany L).2 400) (rMany L).1
      omega
    refine Wl_of (SameOps_run (l := l) (k := k) (hv2.mono fl4) (hv3.mono ((Fr.refl s3).new _)) (fun x hx => (hl2 x hx).1.mono (fr_keeps fl4 da)) (fun x hx => (hl3 x hx).1.mono (keeps_new db _)) (fun x hx => by
      have h1 : x.keys.length < 256 := (hl2 x hx).2.ksl
      have h2 : x.keep.length < 256 := (hl2 x hx).2.kl
      omega) (dom_new db _) (by omega) (hcl2.trans hcl3.symm)) ?_
    rintro _ s5 ⟨rfl, fc, dc⟩
    have ht1 := (ho1.tx) s5 (fr_keeps (((fa.trans ((Fr.refl s2).new (.cells (parse L).1.enc false false 0))).trans fb).trans (((Fr.refl s3).new (.cells (parse L).1.enc false false 0)).trans fc)) d1) 0 (Tr.lf.set 0 u1) (by simp only [Tr.get_set, Nat.reduceEqDiff, ↓reduceIte, Int.cast_ofNat_Int])
    have ht2 := hT s5 (fr_keeps (fs4.trans fc) hd) 0 (Tr.lf.set 0 v) (by simp only [Tr.get_set, Nat.reduceEqDiff, ↓reduceIte, Int.cast_ofNat_Int])
    simp -implicitDefEqProofs only [go_sem, Wk_block, Wk_drawnC, reduceCtorEq, Nat.reduceEqDiff, Nat.reduceAdd, Nat.reduceLeDiff, Nat.reduceLT, Nat.reduceMul, Nat.reduceSub, ↓reduceIte, Int.reduceLT, Int.reduceLE, Int.reduceNeg, Int.reduceAdd, Int.reduceEq, Nat.reduceBneDiff, Nat.reduceBEq, Int.reduceToNat, Int.reduceMul, Int.reduceSub, Int.reduceBEq, Int.reduceBNe, Nat.lt_add_one] at ht1 ht2
    have hsb : strBin BinOp.eql (txt L) (txt L) = some (.bool true) := by
      show some (AV.bool ((txt L).toList == (txt L).toList)) = _
      simp
    simp -implicitDefEqProofs only [go_sem, Wk_block, Wk_drawnC, reduceCtorEq, Nat.reduceEqDiff, Nat.reduceAdd, Nat.reduceLeDiff, Nat.reduceLT, Nat.reduceMul, Nat.reduceSub, ↓reduceIte, Int.reduceLT, Int.reduceLE, Int.reduceNeg, Int.reduceAdd, Int.reduceEq, Nat.reduceBneDiff, Nat.reduceBEq, Int.reduceToNat, Int.reduceMul, Int.reduceSub, Int.reduceBEq, Int.reduceBNe, ht1, ht2, hsb, ft, tf]
end Go.Proofs.YteiiblpnegjjlaaGreat.Lw
