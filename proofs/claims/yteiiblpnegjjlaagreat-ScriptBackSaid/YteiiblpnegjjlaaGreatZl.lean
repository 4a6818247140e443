/- Scripts. Whether two ops are the same: the program's answer.
Scripts. Whether two ops are the same: the document's answer.
Scripts. Whether ops are too great to be looked at.
Scripts. Which numbers can be written.
Scripts. Which ops can be written.
Scripts. Which scripts can be: the ops.
Scripts. Which scripts can be.
Scripts. The document's small tests.
Scripts. Which scripts can be: the document's answer.
Scripts. Their bytes, and what is read of bytes: the plain law. -/
import Derived.Test.YteiiblpnegjjlaaGreatZk
namespace Go.Proofs.YteiiblpnegjjlaaGreat.Lw
open D
set_option linter.unusedSimpArgs false
set_option linter.unusedVariables false
set_option maxRecDepth 10000

/-- The same op. -/
def sameOp (x y : Sop) : Bool :=
  x.kind == y.kind && x.node == y.node && x.key == y.key && x.at_ == y.at_ && x.mask == y.mask && x.blk == y.blk && (x.e == y.e && x.q == y.q) && x.keys == y.keys && x.keep == y.keep

/-- All that lies has a number that is given out. -/
abbrev Dom (s : St) : Prop := ∀ b o, s.get b = some o → b < s.next
theorem cells_u8 : ∀ (n : Nat) (l m : List Nat), l.length = n → m.length = n → cellsEq (List.replicate n 1) (l.map u8) (m.map u8) = some (l == m)
  | 0, [], [], _, _ => rfl
  | n + 1, a :: l, b :: m, hl, hm => by
    have h1 := cells_u8 n l m (by simpa using hl) (by simpa using hm)
    rw [List.replicate_succ, List.map_cons, List.map_cons]
    show (match leafEq 1 (u8 a) (u8 b) with | some true => cellsEq (List.replicate n 1) (l.map u8) (m.map u8) | some false => (if (l.map u8).length = (List.replicate n 1).length ∧ (m.map u8).length = (List.replicate n 1).length then some false else none) | none => none) = _
    have h2 : leafEq 1 (u8 a) (u8 b) = some (a == b) := by
      show (if IntKind.u8 = IntKind.u8 then some ((a : Int) == (b : Int)) else none) = _
      rw [if_pos rfl]
      congr 1
      rw [Bool.eq_iff_iff]
      simp
      omega
    rw [h2]
    cases hab : (a == b) with
    | true =>
      dsimp only
      rw [h1]
      simp [List.cons_beq_cons, hab]
    | false =>
      dsimp only
      rw [if_pos (by simp at hl hm; simp [hl, hm])]
      simp [List.cons_beq_cons, hab]
  | 0, _ :: _, _, hl, _ => by simp at hl
  | 0, [], _ :: _, _, hm => by simp at hm
  | _ + 1, [], _, hl, _ => by simp at hl
  | _ + 1, _ :: _, [], _, hm => by simp at hm
theorem eqA_blk {l m : List Nat} (hl : l.length = 16) (hm : m.length = 16) : eqA (.cells [1, 1, 1, 1, 1, 1, 1, 1, 1, 1, 1, 1, 1, 1, 1, 1]) (.agg (l.map u8)) (.agg (m.map u8)) = some (l == m) :=
  cells_u8 16 l m hl hm
theorem eqA_lab (a b c d : Nat) : eqA (.cells [1, 1]) (.agg [.int .u32 (a : Int), .int .u32 (b : Int)]) (.agg [.int .u32 (c : Int), .int .u32 (d : Int)]) = some (a == c && b == d) := by
  have h (x y : Nat) : leafEq 1 (.int .u32 (x : Int)) (.int .u32 (y : Int)) = some (x == y) := by
    show (if IntKind.u32 = IntKind.u32 then some ((x : Int) == (y : Int)) else none) = _
    rw [if_pos rfl]
    congr 1
    rw [Bool.eq_iff_iff]
    simp
    omega
  show cellsEq [1, 1] _ _ = _
  simp only [cellsEq, h]
  cases a == c <;> cases b == d <;> simp

theorem Same_run {x y : Sop} {s : St} (hx : SopOk s x) (hy : SopOk s y) (hd : ∀ b o, s.get b = some o → b < s.next) (hkl : x.keys.length ≤ 1000) (hwl : x.keep.length ≤ 1000) :
    Wf mm 12 [.agg x.cells, .agg y.cells] s fun v s' => v = .bool (sameOp x y) ∧ Fr s s' ∧ Dom s' := by
  refine Wf_enter ft12 (sm (by decide)) (by rfl) ?_
  have ft : (false == true) = false := rfl
  have tf : (true == false) = false := rfl
  have hn : ∀ b o, s.get b = some o → ((s.new (.cells x.cells false false 0)).new (.cells y.cells false false 0)).get b = some o := fun b o h => keeps_new (dom_new hd _) _ b o (keeps_new hd _ b o h)
  have eqI := fun (s' : St) (h : ∀ b o, s.get b = some o → s'.get b = some o) => EqI_run (hx.keys.mono h) (hy.keys.mono h) (by omega)
  have eqB := fun (s' : St) (h : ∀ b o, s.get b = some o → s'.get b = some o) => EqB_run (hx.keep.rw.mono h) (hy.keep.rw.mono h) (by omega)
  have eb : cellsEq [1, 1, 1, 1, 1, 1, 1, 1, 1, 1, 1, 1, 1, 1, 1, 1] (x.blk.map u8) (y.blk.map u8) = some (x.blk == y.blk) := eqA_blk hx.blen hy.blen
  have el : cellsEq [1, 1] [.int .u32 (x.e : Int), .int .u32 (x.q : Int)] [.int .u32 (y.e : Int), .int .u32 (y.q : Int)] = some (x.e == y.e && x.q == y.q) := eqA_lab x.e x.q y.e y.q
  have dd : Dom ((s.new (.cells x.cells false false 0)).new (.cells y.cells false false 0)) := dom_new (dom_new hd _) _
  have f0 : Fr s ((s.new (.cells x.cells false false 0)).new (.cells y.cells false false 0)) := by (repeat (first | exact FrX.refl _ _ | exact Fr.refl _ | assumption | exact Fr.x (by assumption) _ | refine FrX.put ?_ (.inl rfl) _ | refine FrX.put ?_ (.inr (by first | omega | (simp; done) | (simp; omega))) _ | refine FrX.new ?_ _ | refine Fr.put ?_ (by first | omega | (simp; done) | (simp; omega)) _ | refine Fr.new ?_ _ | refine FrX.then ?_ (by assumption) | refine Fr.trans ?_ (by assumption)))
  have hm : ((x.mask : Int) == (y.mask : Int)) = (x.mask == y.mask) := by rw [Bool.eq_iff_iff]; simp; omega
  cases c1 : (x.kind == y.kind)
  · simp -implicitDefEqProofs only [go_sem, Wk_block, Wk_drawnC, reduceCtorEq, Nat.reduceEqDiff, Nat.reduceAdd, Nat.reduceLeDiff, Nat.reduceLT, Nat.reduceMul, Nat.reduceSub, ↓reduceIte, Int.reduceLT, Int.reduceLE, Int.reduceNeg, Int.reduceAdd, Int.reduceEq, Nat.reduceBneDiff, Nat.reduceBEq, Int.reduceToNat, Int.reduceMul, Int.reduceSub, Int.reduceBEq, Int.reduceBNe, fd12, hx.len, hy.len, hx.c0, hy.c0, hx.c1, hy.c1, hx.c2, hy.c2, hx.c3, hy.c3, hx.blk, hy.blk, hx.lab, hy.lab, hx.c22, hy.c22, hx.c23, hy.c23, hx.c24, hy.c24, eb, el, ft, tf, Wl_eq (eqI _ hn), Wl_eq (eqB _ hn), c1]
    exact ⟨by simp [sameOp, ← hm, c1], f0, dd⟩
  cases c2 : (x.node == y.node)
  · simp -implicitDefEqProofs only [go_sem, Wk_block, Wk_drawnC, reduceCtorEq, Nat.reduceEqDiff, Nat.reduceAdd, Nat.reduceLeDiff, Nat.reduceLT, Nat.reduceMul, Nat.reduceSub, ↓reduceIte, Int.reduceLT, Int.reduceLE, Int.reduceNeg, Int.reduceAdd, Int.reduceEq, Nat.reduceBneDiff, Nat.reduceBEq, Int.reduceToNat, Int.reduceMul, Int.reduceSub, Int.reduceBEq, Int.reduceBNe, fd12, hx.len, hy.len, hx.c0, hy.c0, hx.c1, hy.c1, hx.c2, hy.c2, hx.c3, hy.c3, hx.blk, hy.blk, hx.lab, hy.lab, hx.c22, hy.c22, hx.c23, hy.c23, hx.c24, hy.c24, eb, el, ft, tf, Wl_eq (eqI _ hn), Wl_eq (eqB _ hn), c1, c2]
    exact ⟨by simp [sameOp, ← hm, c1, c2], f0, dd⟩
  cases c3 : (x.key == y.key)
  · simp -implicitDefEqProofs only [go_sem, Wk_block, Wk_drawnC, reduceCtorEq, Nat.reduceEqDiff, Nat.reduceAdd, Nat.reduceLeDiff, Nat.reduceLT, Nat.reduceMul, Nat.reduceSub, ↓reduceIte, Int.reduceLT, Int.reduceLE, Int.reduceNeg, Int.reduceAdd, Int.reduceEq, Nat.reduceBneDiff, Nat.reduceBEq, Int.reduceToNat, Int.reduceMul, Int.reduceSub, Int.reduceBEq, Int.reduceBNe, fd12, hx.len, hy.len, hx.c0, hy.c0, hx.c1, hy.c1, hx.c2, hy.c2, hx.c3, hy.c3, hx.blk, hy.blk, hx.lab, hy.lab, hx.c22, hy.c22, hx.c23, hy.c23, hx.c24, hy.c24, eb, el, ft, tf, Wl_eq (eqI _ hn), Wl_eq (eqB _ hn), c1, c2, c3]
    exact ⟨by simp [sameOp, ← hm, c1, c2, c3], f0, dd⟩
  cases c4 : (x.at_ == y.at_)
  · simp -implicitDefEqProofs only [go_sem, Wk_block, Wk_drawnC, reduceCtorEq, Nat.reduceEqDiff, Nat.reduceAdd, Nat.reduceLeDiff, Nat.reduceLT, Nat.reduceMul, Nat.reduceSub, ↓reduceIte, Int.reduceLT, Int.reduceLE, Int.reduceNeg, Int.reduceAdd, Int.reduceEq, Nat.reduceBneDiff, Nat.reduceBEq, Int.reduceToNat, Int.reduceMul, Int.reduceSub, Int.reduceBEq, Int.reduceBNe, fd12, hx.len, hy.len, hx.c0, hy.c0, hx.c1, hy.c1, hx.c2, hy.c2, hx.c3, hy.c3, hx.blk, hy.blk, hx.lab, hy.lab, hx.c22, hy.c22, hx.c23, hy.c23, hx.c24, hy.c24, eb, el, ft, tf, Wl_eq (eqI _ hn), Wl_eq (eqB _ hn), c1, c2, c3, c4]
    exact ⟨by simp [sameOp, ← hm, c1, c2, c3, c4], f0, dd⟩
  cases c5 : (((x.mask : Int) == (y.mask : Int)))
  · simp -implicitDefEqProofs only [go_sem, Wk_block, Wk_drawnC, reduceCtorEq, Nat.reduceEqDiff, Nat.reduceAdd, Nat.reduceLeDiff, Nat.reduceLT, Nat.reduceMul, Nat.reduceSub, ↓reduceIte, Int.reduceLT, Int.reduceLE, Int.reduceNeg, Int.reduceAdd, Int.reduceEq, Nat.reduceBneDiff, Nat.reduceBEq, Int.reduceToNat, Int.reduceMul, Int.reduceSub, Int.reduceBEq, Int.reduceBNe, fd12, hx.len, hy.len, hx.c0, hy.c0, hx.c1, hy.c1, hx.c2, hy.c2, hx.c3, hy.c3, hx.blk, hy.blk, hx.lab, hy.lab, hx.c22, hy.c22, hx.c23, hy.c23, hx.c24, hy.c24, eb, el, ft, tf, Wl_eq (eqI _ hn), Wl_eq (eqB _ hn), c1, c2, c3, c4, c5]
    exact ⟨by simp [sameOp, ← hm, c1, c2, c3, c4, c5], f0, dd⟩
  cases c6 : (x.blk == y.blk)
  · simp -implicitDefEqProofs only [go_sem, Wk_block, Wk_drawnC, reduceCtorEq, Nat.reduceEqDiff, Nat.reduceAdd, Nat.reduceLeDiff, Nat.reduceLT, Nat.reduceMul, Nat.reduceSub, ↓reduceIte, Int.reduceLT, Int.reduceLE, Int.reduceNeg, Int.reduceAdd, Int.reduceEq, Nat.reduceBneDiff, Nat.reduceBEq, Int.reduceToNat, Int.reduceMul, Int.reduceSub, Int.reduceBEq, Int.reduceBNe, fd12, hx.len, hy.len, hx.c0, hy.c0, hx.c1, hy.c1, hx.c2, hy.c2, hx.c3, hy.c3, hx.blk, hy.blk, hx.lab, hy.lab, hx.c22, hy.c22, hx.c23, hy.c23, hx.c24, hy.c24, eb, el, ft, tf, Wl_eq (eqI _ hn), Wl_eq (eqB _ hn), c1, c2, c3, c4, c5, c6]
    exact ⟨by simp [sameOp, ← hm, c1, c2, c3, c4, c5, c6], f0, dd⟩
  cases c7 : ((x.e == y.e && x.q == y.q))
  · simp -implicitDefEqProofs only [go_sem, Wk_block, Wk_drawnC, reduceCtorEq, Nat.reduceEqDiff, Nat.reduceAdd, Nat.reduceLeDiff, Nat.reduceLT, Nat.reduceMul, Nat.reduceSub, ↓reduceIte, Int.reduceLT, Int.reduceLE, Int.reduceNeg, Int.reduceAdd, Int.reduceEq, Nat.reduceBneDiff, Nat.reduceBEq, Int.reduceToNat, Int.reduceMul, Int.reduceSub, Int.reduceBEq, Int.reduceBNe, fd12, hx.len, hy.len, hx.c0, hy.c0, hx.c1, hy.c1, hx.c2, hy.c2, hx.c3, hy.c3, hx.blk, hy.blk, hx.lab, hy.lab, hx.c22, hy.c22, hx.c23, hy.c23, hx.c24, hy.c24, eb, el, ft, tf, Wl_eq (eqI _ hn), Wl_eq (eqB _ hn), c1, c2, c3, c4, c5, c6, c7]
    exact ⟨by simp [sameOp, ← hm, c1, c2, c3, c4, c5, c6, c7], f0, dd⟩
  cases c8 : (x.keys == y.keys)
  · simp -implicitDefEqProofs only [go_sem, Wk_block, Wk_drawnC, reduceCtorEq, Nat.reduceEqDiff, Nat.reduceAdd, Nat.reduceLeDiff, Nat.reduceLT, Nat.reduceMul, Nat.reduceSub, ↓reduceIte, Int.reduceLT, Int.reduceLE, Int.reduceNeg, Int.reduceAdd, Int.reduceEq, Nat.reduceBneDiff, Nat.reduceBEq, Int.reduceToNat, Int.reduceMul, Int.reduceSub, Int.reduceBEq, Int.reduceBNe, fd12, hx.len, hy.len, hx.c0, hy.c0, hx.c1, hy.c1, hx.c2, hy.c2, hx.c3, hy.c3, hx.blk, hy.blk, hx.lab, hy.lab, hx.c22, hy.c22, hx.c23, hy.c23, hx.c24, hy.c24, eb, el, ft, tf, Wl_eq (eqI _ hn), Wl_eq (eqB _ hn), c1, c2, c3, c4, c5, c6, c7, c8]
    exact ⟨by simp [sameOp, ← hm, c1, c2, c3, c4, c5, c6, c7, c8], f0, dd⟩
  simp -implicitDefEqProofs only [go_sem, Wk_block, Wk_drawnC, reduceCtorEq, Nat.reduceEqDiff, Nat.reduceAdd, Nat.reduceLeDiff, Nat.reduceLT, Nat.reduceMul, Nat.reduceSub, ↓reduceIte, Int.reduceLT, Int.reduceLE, Int.reduceNeg, Int.reduceAdd, Int.reduceEq, Nat.reduceBneDiff, Nat.reduceBEq, Int.reduceToNat, Int.reduceMul, Int.reduceSub, Int.reduceBEq, Int.reduceBNe, fd12, hx.len, hy.len, hx.c0, hy.c0, hx.c1, hy.c1, hx.c2, hy.c2, hx.c3, hy.c3, hx.blk, hy.blk, hx.lab, hy.lab, hx.c22, hy.c22, hx.c23, hy.c23, hx.c24, hy.c24, eb, el, ft, tf, Wl_eq (eqI _ hn), Wl_eq (eqB _ hn), c1, c2, c3, c4, c5, c6, c7, c8]
  exact ⟨by simp [sameOp, ← hm, c1, c2, c3, c4, c5, c6, c7, c8], f0, dd⟩
end Go.Proofs.YteiiblpnegjjlaaGreat.Lw
namespace Go.Proofs.YteiiblpnegjjlaaGreat.Lw
open D
set_option linter.unusedSimpArgs false
set_option linter.unusedVariables false
set_option maxRecDepth 10000

theorem txt_eq {L M : List Nat} (hL : ∀ c ∈ L, c < 256) (hM : ∀ c ∈ M, c < 256) : ((txt L).toList == (txt M).toList) = (L == M) := by
  have hd : ∀ L : List Nat, (txt L).toList = L.map UInt8.ofNat := fun L => by
    simp [txt]
  rw [hd, hd, Bool.eq_iff_iff, beq_iff_eq, beq_iff_eq]
  refine ⟨fun h => ?_, fun h => by rw [h]⟩
  have h2 := congrArg (List.map UInt8.toNat) h
  rw [List.map_map, List.map_map] at h2
  have key : ∀ L : List Nat, (∀ c ∈ L, c < 256) → L.map (UInt8.toNat ∘ UInt8.ofNat) = L := fun L hL => by
    have : L.map (UInt8.toNat ∘ UInt8.ofNat) = L.map id := List.map_congr_left fun c hc => by
      show (UInt8.ofNat c).toNat = c
      rw [UInt8.toNat_ofNat']
      exact Nat.mod_eq_of_lt (hL c hc)
    rw [this, List.map_id]
  rwa [key L hL, key M hM] at h2

theorem refSame_run {x y : Sop} {s : St} (hx : SopOk s x) (hy : SopOk s y) (hd : ∀ b o, s.get b = some o → b < s.next) (hkl : x.keys.length ≤ 1000) (hwl : x.keep.length ≤ 1000) :
    Wf mm 13 [.agg x.cells, .agg y.cells] s fun v s' => v = .bool (sameOp x y) ∧ Fr s s' ∧ Dom s' := by
  refine Wf_enter ft13 (sm (by decide)) (by rfl) ?_
  have ft : (false == true) = false := rfl
  have tf : (true == false) = false := rfl
  have hn : ∀ b o, s.get b = some o → ((s.new (.cells x.cells false false 0)).new (.cells y.cells false false 0)).get b = some o := fun b o h => keeps_new (dom_new hd _) _ b o (keeps_new hd _ b o h)
  have eb : cellsEq [1, 1, 1, 1, 1, 1, 1, 1, 1, 1, 1, 1, 1, 1, 1, 1] (x.blk.map u8) (y.blk.map u8) = some (x.blk == y.blk) := eqA_blk hx.blen hy.blen
  have el : cellsEq [1, 1] [.int .u32 (x.e : Int), .int .u32 (x.q : Int)] [.int .u32 (y.e : Int), .int .u32 (y.q : Int)] = some (x.e == y.e && x.q == y.q) := eqA_lab x.e x.q y.e y.q
  have dd : Dom ((s.new (.cells x.cells false false 0)).new (.cells y.cells false false 0)) := dom_new (dom_new hd _) _
  have f0 : Fr s ((s.new (.cells x.cells false false 0)).new (.cells y.cells false false 0)) := by (repeat (first | exact FrX.refl _ _ | exact Fr.refl _ | assumption | exact Fr.x (by assumption) _ | refine FrX.put ?_ (.inl rfl) _ | refine FrX.put ?_ (.inr (by first | omega | (simp; done) | (simp; omega))) _ | refine FrX.new ?_ _ | refine Fr.put ?_ (by first | omega | (simp; done) | (simp; omega)) _ | refine Fr.new ?_ _ | refine FrX.then ?_ (by assumption) | refine Fr.trans ?_ (by assumption)))
  have hm : ((x.mask : Int) == (y.mask : Int)) = (x.mask == y.mask) := by rw [Bool.eq_iff_iff]; simp; omega
  have ht := hx.txt _ hn 0 (Tr.lf.set 0 x.wv) (by simp only [Tr.get_set, Nat.reduceEqDiff, ↓reduceIte, Int.cast_ofNat_Int])
  have ht2 := hy.txt _ hn 0 (Tr.lf.set 0 y.wv) (by simp only [Tr.get_set, Nat.reduceEqDiff, ↓reduceIte, Int.cast_ofNat_Int])
  simp -implicitDefEqProofs only [go_sem, Wk_block, Wk_drawnC, reduceCtorEq, Nat.reduceEqDiff, Nat.reduceAdd, Nat.reduceLeDiff, Nat.reduceLT, Nat.reduceMul, Nat.reduceSub, ↓reduceIte, Int.reduceLT, Int.reduceLE, Int.reduceNeg, Int.reduceAdd, Int.reduceEq, Nat.reduceBneDiff, Nat.reduceBEq, Int.reduceToNat, Int.reduceMul, Int.reduceSub, Int.reduceBEq, Int.reduceBNe, Nat.lt_add_one] at ht ht2
  have hlx := hx.keys.len
  have hly := hy.keys.len
  simp only [List.length_map] at hlx hly
  cases c1 : (x.kind == y.kind)
  · simp -implicitDefEqProofs only [go_sem, Wk_block, Wk_drawnC, reduceCtorEq, Nat.reduceEqDiff, Nat.reduceAdd, Nat.reduceLeDiff, Nat.reduceLT, Nat.reduceMul, Nat.reduceSub, ↓reduceIte, Int.reduceLT, Int.reduceLE, Int.reduceNeg, Int.reduceAdd, Int.reduceEq, Nat.reduceBneDiff, Nat.reduceBEq, Int.reduceToNat, Int.reduceMul, Int.reduceSub, Int.reduceBEq, Int.reduceBNe, fd13, hx.len, hy.len, hx.c0, hy.c0, hx.c1, hy.c1, hx.c2, hy.c2, hx.c3, hy.c3, hx.blk, hy.blk, hx.lab, hy.lab, hx.c22, hy.c22, hx.c23, hy.c23, hx.c24, hy.c24, eb, el, ft, tf, bne, hlx, hly, Bool.not_true, Bool.not_false, c1]
    exact ⟨by simp [sameOp, ← hm, c1], f0, dd⟩
  cases c2 : (x.node == y.node)
  · simp -implicitDefEqProofs only [go_sem, Wk_block, Wk_drawnC, reduceCtorEq, Nat.reduceEqDiff, Nat.reduceAdd, Nat.reduceLeDiff, Nat.reduceLT, Nat.reduceMul, Nat.reduceSub, ↓reduceIte, Int.reduceLT, Int.reduceLE, Int.reduceNeg, Int.reduceAdd, Int.reduceEq, Nat.reduceBneDiff, Nat.reduceBEq, Int.reduceToNat, Int.reduceMul, Int.reduceSub, Int.reduceBEq, Int.reduceBNe, fd13, hx.len, hy.len, hx.c0, hy.c0, hx.c1, hy.c1, hx.c2, hy.c2, hx.c3, hy.c3, hx.blk, hy.blk, hx.lab, hy.lab, hx.c22, hy.c22, hx.c23, hy.c23, hx.c24, hy.c24, eb, el, ft, tf, bne, hlx, hly, Bool.not_true, Bool.not_false, c1, c2]
    exact ⟨by simp [sameOp, ← hm, c1, c2], f0, dd⟩
  cases c3 : (x.key == y.key)
  · simp -implicitDefEqProofs only [go_sem, Wk_block, Wk_drawnC, reduceCtorEq, Nat.reduceEqDiff, Nat.reduceAdd, Nat.reduceLeDiff, Nat.reduceLT, Nat.reduceMul, Nat.reduceSub, ↓reduceIte, Int.reduceLT, Int.reduceLE, Int.reduceNeg, Int.reduceAdd, Int.reduceEq, Nat.reduceBneDiff, Nat.reduceBEq, Int.reduceToNat, Int.reduceMul, Int.reduceSub, Int.reduceBEq, Int.reduceBNe, fd13, hx.len, hy.len, hx.c0, hy.c0, hx.c1, hy.c1, hx.c2, hy.c2, hx.c3, hy.c3, hx.blk, hy.blk, hx.lab, hy.lab, hx.c22, hy.c22, hx.c23, hy.c23, hx.c24, hy.c24, eb, el, ft, tf, bne, hlx, hly, Bool.not_true, Bool.not_false, c1, c2, c3]
    exact ⟨by simp [sameOp, ← hm, c1, c2, c3], f0, dd⟩
  cases c4 : (x.at_ == y.at_)
  · simp -implicitDefEqProofs only [go_sem, Wk_block, Wk_drawnC, reduceCtorEq, Nat.reduceEqDiff, Nat.reduceAdd, Nat.reduceLeDiff, Nat.reduceLT, Nat.reduceMul, Nat.reduceSub, ↓reduceIte, Int.reduceLT, Int.reduceLE, Int.reduceNeg, Int.reduceAdd, Int.reduceEq, Nat.reduceBneDiff, Nat.reduceBEq, Int.reduceToNat, Int.reduceMul, Int.reduceSub, Int.reduceBEq, Int.reduceBNe, fd13, hx.len, hy.len, hx.c0, hy.c0, hx.c1, hy.c1, hx.c2, hy.c2, hx.c3, hy.c3, hx.blk, hy.blk, hx.lab, hy.lab, hx.c22, hy.c22, hx.c23, hy.c23, hx.c24, hy.c24, eb, el, ft, tf, bne, hlx, hly, Bool.not_true, Bool.not_false, c1, c2, c3, c4]
    exact ⟨by simp [sameOp, ← hm, c1, c2, c3, c4], f0, dd⟩
  cases c5 : (((x.mask : Int) == (y.mask : Int)))
  · simp -implicitDefEqProofs only [go_sem, Wk_block, Wk_drawnC, reduceCtorEq, Nat.reduceEqDiff, Nat.reduceAdd, Nat.reduceLeDiff, Nat.reduceLT, Nat.reduceMul, Nat.reduceSub, ↓reduceIte, Int.reduceLT, Int.reduceLE, Int.reduceNeg, Int.reduceAdd, Int.reduceEq, Nat.reduceBneDiff, Nat.reduceBEq, Int.reduceToNat, Int.reduceMul, Int.reduceSub, Int.reduceBEq, Int.reduceBNe, fd13, hx.len, hy.len, hx.c0, hy.c0, hx.c1, hy.c1, hx.c2, hy.c2, hx.c3, hy.c3, hx.blk, hy.blk, hx.lab, hy.lab, hx.c22, hy.c22, hx.c23, hy.c23, hx.c24, hy.c24, eb, el, ft, tf, bne, hlx, hly, Bool.not_true, Bool.not_false, c1, c2, c3, c4, c5]
    exact ⟨by simp [sameOp, ← hm, c1, c2, c3, c4, c5], f0, dd⟩
  cases c6 : (x.blk == y.blk)
  · simp -implicitDefEqProofs only [go_sem, Wk_block, Wk_drawnC, reduceCtorEq, Nat.reduceEqDiff, Nat.reduceAdd, Nat.reduceLeDiff, Nat.reduceLT, Nat.reduceMul, Nat.reduceSub, ↓reduceIte, Int.reduceLT, Int.reduceLE, Int.reduceNeg, Int.reduceAdd, Int.reduceEq, Nat.reduceBneDiff, Nat.reduceBEq, Int.reduceToNat, Int.reduceMul, Int.reduceSub, Int.reduceBEq, Int.reduceBNe, fd13, hx.len, hy.len, hx.c0, hy.c0, hx.c1, hy.c1, hx.c2, hy.c2, hx.c3, hy.c3, hx.blk, hy.blk, hx.lab, hy.lab, hx.c22, hy.c22, hx.c23, hy.c23, hx.c24, hy.c24, eb, el, ft, tf, bne, hlx, hly, Bool.not_true, Bool.not_false, c1, c2, c3, c4, c5, c6]
    exact ⟨by simp [sameOp, ← hm, c1, c2, c3, c4, c5, c6], f0, dd⟩
  cases c7 : ((x.e == y.e && x.q == y.q))
  · simp -implicitDefEqProofs only [go_sem, Wk_block, Wk_drawnC, reduceCtorEq, Nat.reduceEqDiff, Nat.reduceAdd, Nat.reduceLeDiff, Nat.reduceLT, Nat.reduceMul, Nat.reduceSub, ↓reduceIte, Int.reduceLT, Int.reduceLE, Int.reduceNeg, Int.reduceAdd, Int.reduceEq, Nat.reduceBneDiff, Nat.reduceBEq, Int.reduceToNat, Int.reduceMul, Int.reduceSub, Int.reduceBEq, Int.reduceBNe, fd13, hx.len, hy.len, hx.c0, hy.c0, hx.c1, hy.c1, hx.c2, hy.c2, hx.c3, hy.c3, hx.blk, hy.blk, hx.lab, hy.lab, hx.c22, hy.c22, hx.c23, hy.c23, hx.c24, hy.c24, eb, el, ft, tf, bne, hlx, hly, Bool.not_true, Bool.not_false, c1, c2, c3, c4, c5, c6, c7]
    exact ⟨by simp [sameOp, ← hm, c1, c2, c3, c4, c5, c6, c7], f0, dd⟩
  cases c8 : (((x.keys.length : Int) == (y.keys.length : Int)))
  · have hk : (x.keys == y.keys) = false := by
      rw [beq_eq_false_iff_ne]
      intro e
      rw [e] at c8
      simp at c8
    simp -implicitDefEqProofs only [go_sem, Wk_block, Wk_drawnC, reduceCtorEq, Nat.reduceEqDiff, Nat.reduceAdd, Nat.reduceLeDiff, Nat.reduceLT, Nat.reduceMul, Nat.reduceSub, ↓reduceIte, Int.reduceLT, Int.reduceLE, Int.reduceNeg, Int.reduceAdd, Int.reduceEq, Nat.reduceBneDiff, Nat.reduceBEq, Int.reduceToNat, Int.reduceMul, Int.reduceSub, Int.reduceBEq, Int.reduceBNe, fd13, hx.len, hy.len, hx.c0, hy.c0, hx.c1, hy.c1, hx.c2, hy.c2, hx.c3, hy.c3, hx.blk, hy.blk, hx.lab, hy.lab, hx.c22, hy.c22, hx.c23, hy.c23, hx.c24, hy.c24, eb, el, ft, tf, bne, hlx, hly, Bool.not_true, Bool.not_false, c1, c2, c3, c4, c5, c6, c7, c8]
    exact ⟨by simp [sameOp, ← hm, hk, c1, c2, c3, c4, c5, c6, c7], f0, dd⟩
  have g2 : ((s.new (.cells x.cells false false 0)).new (.cells y.cells false false 0)).get s.next = some (.cells x.cells false false 0) := by
    rw [St.get_new, if_neg (by simp), St.get_new, if_pos rfl]
  have g3 : ((s.new (.cells x.cells false false 0)).new (.cells y.cells false false 0)).get (s.next + 1) = some (.cells y.cells false false 0) := by
    rw [St.get_new, if_pos (by simp)]
  have kx := hx.keys.mono hn
  have ky := hy.keys.mono hn
  have hkl2 : x.keys.length = y.keys.length := by simp at c8; omega
  cases c9 : (x.keep == y.keep)
  · simp -implicitDefEqProofs only [go_sem, Wk_block, Wk_drawnC, reduceCtorEq, Nat.reduceEqDiff, Nat.reduceAdd, Nat.reduceLeDiff, Nat.reduceLT, Nat.reduceMul, Nat.reduceSub, ↓reduceIte, Int.reduceLT, Int.reduceLE, Int.reduceNeg, Int.reduceAdd, Int.reduceEq, Nat.reduceBneDiff, Nat.reduceBEq, Int.reduceToNat, Int.reduceMul, Int.reduceSub, Int.reduceBEq, Int.reduceBNe, fd13, hx.len, hy.len, hx.c0, hy.c0, hx.c1, hy.c1, hx.c2, hy.c2, hx.c3, hy.c3, hx.blk, hy.blk, hx.lab, hy.lab, hx.c22, hy.c22, hx.c23, hy.c23, hx.c24, hy.c24, eb, el, ft, tf, bne, hlx, hly, Bool.not_true, Bool.not_false, ht, ht2, strBin, txt_eq hx.keep.lt hy.keep.lt, c1, c2, c3, c4, c5, c6, c7, c8, c9]
    exact ⟨by simp [sameOp, ← hm, c1, c2, c3, c4, c5, c6, c7, c9], f0, dd⟩
  simp -implicitDefEqProofs only [go_sem, Wk_block, Wk_drawnC, reduceCtorEq, Nat.reduceEqDiff, Nat.reduceAdd, Nat.reduceLeDiff, Nat.reduceLT, Nat.reduceMul, Nat.reduceSub, ↓reduceIte, Int.reduceLT, Int.reduceLE, Int.reduceNeg, Int.reduceAdd, Int.reduceEq, Nat.reduceBneDiff, Nat.reduceBEq, Int.reduceToNat, Int.reduceMul, Int.reduceSub, Int.reduceBEq, Int.reduceBNe, fd13, hx.len, hy.len, hx.c0, hy.c0, hx.c1, hy.c1, hx.c2, hy.c2, hx.c3, hy.c3, hx.blk, hy.blk, hx.lab, hy.lab, hx.c22, hy.c22, hx.c23, hy.c23, hx.c24, hy.c24, eb, el, ft, tf, bne, hlx, hly, Bool.not_true, Bool.not_false, ht, ht2, strBin, txt_eq hx.keep.lt hy.keep.lt, c1, c2, c3, c4, c5, c6, c7, c8, c9]
  clear ht ht2 hn
  generalize (s.new (.cells x.cells false false 0)).new (.cells y.cells false false 0) = s2 at *
  refine loop_ind (fun m ts s' => ∃ j : Nat, m = x.keys.length - j ∧ j ≤ x.keys.length ∧ ts.get 74 = some (.int .i64 (j : Int)) ∧ ts.get 73 = some (.int .i64 (x.keys.length : Int)) ∧ ts.get 2 = some (.ptr s.next 0) ∧ ts.get 3 = some (.ptr (s.next + 1) 0) ∧ (∀ i, i < j → x.keys[i]? = y.keys[i]?) ∧ s' = s2) ?_ (n := x.keys.length)
    ⟨0, rfl, by omega, by simp only [Tr.get_set, Nat.reduceEqDiff, ↓reduceIte, Int.cast_ofNat_Int], by simp only [Tr.get_set, Nat.reduceEqDiff, ↓reduceIte, Int.cast_ofNat_Int], by simp only [Tr.get_set, Nat.reduceEqDiff, ↓reduceIte, Int.cast_ofNat_Int], by simp only [Tr.get_set, Nat.reduceEqDiff, ↓reduceIte, Int.cast_ofNat_Int], by intro i hi; omega, rfl⟩
  rintro m ts s' ⟨j, rfl, hj, g74, g73, gt2, gt3, hpre, rfl⟩ IH
  by_cases hlt : j < x.keys.length
  · obtain ⟨b, o, vs, lo, ro, z, hidx, hg, hvj⟩ := kx.at_ j (by rw [List.length_map]; exact hlt)
    obtain ⟨b2, o2, vs2, lo2, ro2, z2, hidx2, hg2, hvj2⟩ := ky.at_ j (by rw [List.length_map]; omega)
    rw [List.getElem_map] at hvj hvj2
    have hxj : x.keys[j]? = some x.keys[j] := List.getElem?_eq_getElem hlt
    have hyj : y.keys[j]? = some (y.keys[j]'(by omega)) := List.getElem?_eq_getElem _
    generalize x.keys[j] = p at hvj hxj
    generalize y.keys[j]'(by omega) = q at hvj2 hyj
    have wj := succ_in (j := j) (by omega)
    by_cases hpq : p = q
    · subst hpq
      have hne : (p != p) = false := by simp
      simp -implicitDefEqProofs only [go_sem, Wk_block, Wk_drawnC, reduceCtorEq, Nat.reduceEqDiff, Nat.reduceAdd, Nat.reduceLeDiff, Nat.reduceLT, Nat.reduceMul, Nat.reduceSub, ↓reduceIte, Int.reduceLT, Int.reduceLE, Int.reduceNeg, Int.reduceAdd, Int.reduceEq, Nat.reduceBneDiff, Nat.reduceBEq, Int.reduceToNat, Int.reduceMul, Int.reduceSub, Int.reduceBEq, Int.reduceBNe, g74, g73, gt2, gt3, g2, g3, hx.c3, hy.c3, hlt, hidx, hg, hvj, hidx2, hg2, hvj2, wj, hne, bne_self_eq_false]
      refine IH (x.keys.length - (j + 1)) _ _ (by omega) ⟨j + 1, rfl, by omega, ?_, ?_, ?_, ?_, ?_, rfl⟩
      · simp only [Tr.get_set, Nat.reduceEqDiff, ↓reduceIte, Int.cast_ofNat_Int]
      · simp only [Tr.get_set, Nat.reduceEqDiff, ↓reduceIte, Int.cast_ofNat_Int, g73]
      · simp only [go_sem, Wk_block, Wk_drawnC, reduceCtorEq, Nat.reduceEqDiff, Nat.reduceAdd, Nat.reduceLeDiff, Nat.reduceLT, Nat.reduceMul, Nat.reduceSub, ↓reduceIte, Int.reduceLT, Int.reduceLE, Int.reduceNeg, Int.reduceAdd, Int.reduceEq, Nat.reduceBneDiff, Nat.reduceBEq, Int.reduceToNat, Int.reduceMul, Int.reduceSub, Int.reduceBEq, Int.reduceBNe, gt2]
      · simp only [go_sem, Wk_block, Wk_drawnC, reduceCtorEq, Nat.reduceEqDiff, Nat.reduceAdd, Nat.reduceLeDiff, Nat.reduceLT, Nat.reduceMul, Nat.reduceSub, ↓reduceIte, Int.reduceLT, Int.reduceLE, Int.reduceNeg, Int.reduceAdd, Int.reduceEq, Nat.reduceBneDiff, Nat.reduceBEq, Int.reduceToNat, Int.reduceMul, Int.reduceSub, Int.reduceBEq, Int.reduceBNe, gt3]
      · intro i hi
        by_cases e : i = j
        · rw [e, hxj, hyj]
        · exact hpre i (by omega)
    · have hne : (p != q) = true := by simpa using hpq
      have hb : (x.keys == y.keys) = false := by
        rw [beq_eq_false_iff_ne]
        intro e
        rw [e, hyj] at hxj
        cases hxj
        exact hpq rfl
      simp -implicitDefEqProofs only [go_sem, Wk_block, Wk_drawnC, reduceCtorEq, Nat.reduceEqDiff, Nat.reduceAdd, Nat.reduceLeDiff, Nat.reduceLT, Nat.reduceMul, Nat.reduceSub, ↓reduceIte, Int.reduceLT, Int.reduceLE, Int.reduceNeg, Int.reduceAdd, Int.reduceEq, Nat.reduceBneDiff, Nat.reduceBEq, Int.reduceToNat, Int.reduceMul, Int.reduceSub, Int.reduceBEq, Int.reduceBNe, g74, g73, gt2, gt3, g2, g3, hx.c3, hy.c3, hlt, hidx, hg, hvj, hidx2, hg2, hvj2, wj, hne]
      exact ⟨by simp [sameOp, hb], f0, dd⟩
  · have : j = x.keys.length := by omega
    subst this
    have hb : (x.keys == y.keys) = true := by
      rw [beq_iff_eq]
      apply List.ext_getElem?
      intro i
      by_cases hi : i < x.keys.length
      · exact hpre i hi
      · rw [List.getElem?_eq_none (by omega), List.getElem?_eq_none (by omega)]
    have hlf : decide ((x.keys.length : Int) < (x.keys.length : Int)) = false := decide_eq_false (by omega)
    simp -implicitDefEqProofs only [go_sem, Wk_block, Wk_drawnC, reduceCtorEq, Nat.reduceEqDiff, Nat.reduceAdd, Nat.reduceLeDiff, Nat.reduceLT, Nat.reduceMul, Nat.reduceSub, ↓reduceIte, Int.reduceLT, Int.reduceLE, Int.reduceNeg, Int.reduceAdd, Int.reduceEq, Nat.reduceBneDiff, Nat.reduceBEq, Int.reduceToNat, Int.reduceMul, Int.reduceSub, Int.reduceBEq, Int.reduceBNe, g74, g73, hlf, hlt, gt2, gt3]
    exact ⟨by simp [sameOp, ← hm, c1, c2, c3, c4, c5, c6, c7, c9, hb], f0, dd⟩
end Go.Proofs.YteiiblpnegjjlaaGreat.Lw
namespace Go.Proofs.YteiiblpnegjjlaaGreat.Lw
open D
set_option linter.unusedSimpArgs false
set_option linter.unusedVariables false
set_option maxRecDepth 10000

/-- Too great an op. -/
def bigOp (x : Sop) : Bool := decide (100 < x.keys.length) || decide (400 < x.keep.length)
/-- Too great ops. -/
def great (l : List Sop) : Bool := decide (420 < l.length) || l.any bigOp

theorem great_run (l : List Sop) {v : AV} {s : St} (hA : RdS s v l) (hl : ∀ x ∈ l, SopOk s x) (hd : Dom s) : Wf mm 10 [v] s fun w s' => w = .bool (great l) ∧ Fr s s' ∧ Dom s' := by
  refine Wf_enter ft10 (sm (by decide)) (by rfl) ?_
  have ft : (false == true) = false := rfl
  have tf : (true == false) = false := rfl
  have hlen := hA.len
  cases c1 : decide (420 < l.length)
  rotate_left
  · have c2 : decide ((l.length : Int) > 420) = true := by simp at c1 ⊢; omega
    simp -implicitDefEqProofs only [go_sem, Wk_block, Wk_drawnC, reduceCtorEq, Nat.reduceEqDiff, Nat.reduceAdd, Nat.reduceLeDiff, Nat.reduceLT, Nat.reduceMul, Nat.reduceSub, ↓reduceIte, Int.reduceLT, Int.reduceLE, Int.reduceNeg, Int.reduceAdd, Int.reduceEq, Nat.reduceBneDiff, Nat.reduceBEq, Int.reduceToNat, Int.reduceMul, Int.reduceSub, Int.reduceBEq, Int.reduceBNe, fd10, hlen, c1, c2, ft, tf]
    exact ⟨by simp [great, c1], Fr.refl _, hd⟩
  have c2 : decide ((l.length : Int) > 420) = false := by simp at c1 ⊢; omega
  have hl420 : l.length ≤ 420 := by simpa using c1
  simp -implicitDefEqProofs only [go_sem, Wk_block, Wk_drawnC, reduceCtorEq, Nat.reduceEqDiff, Nat.reduceAdd, Nat.reduceLeDiff, Nat.reduceLT, Nat.reduceMul, Nat.reduceSub, ↓reduceIte, Int.reduceLT, Int.reduceLE, Int.reduceNeg, Int.reduceAdd, Int.reduceEq, Nat.reduceBneDiff, Nat.reduceBEq, Int.reduceToNat, Int.reduceMul, Int.reduceSub, Int.reduceBEq, Int.reduceBNe, fd10, hlen, c1, c2, ft, tf]
  refine loop_ind (fun m ts s' => ∃ j : Nat, m = l.length - j ∧ j ≤ l.length ∧ ts.get 10 = some (.int .i64 (j : Int)) ∧ ts.get 9 = some (.int .i64 (l.length : Int)) ∧ ts.get 8 = some v ∧ (l.take j).any bigOp = false ∧ Fr s s' ∧ Dom s') ?_ (n := l.length)
    ⟨0, rfl, by omega, by simp only [Tr.get_set, Nat.reduceEqDiff, ↓reduceIte, Int.cast_ofNat_Int], by simp only [Tr.get_set, Nat.reduceEqDiff, ↓reduceIte, Int.cast_ofNat_Int], by simp only [Tr.get_set, Nat.reduceEqDiff, ↓reduceIte, Int.cast_ofNat_Int], rfl, Fr.refl s, hd⟩
  rintro m ts s1 ⟨j, rfl, hj, g10, g9, g8, hpre, f, dd⟩ IH
  by_cases hlt : j < l.length
  · have hA1 := hA.mono f
    obtain ⟨b, o, vs, lo, ro, z, hidx, hv, hbl, hle, he⟩ := hA1.at_ j hlt
    have hok := hl l[j] (List.getElem_mem hlt)
    have htk : (l.take (j + 1)).any bigOp = bigOp l[j] := by
      rw [List.take_succ_eq_append_getElem hlt, List.any_append, hpre]
      simp
    have hmem : l[j] ∈ l := List.getElem_mem hlt
    generalize l[j] = x at he hok htk hmem
    have wj := succ_in (j := j) (by omega)
    have ht : x.cells.take 25 = x.cells := List.take_of_length_le (by rw [hok.len]; omega)
    have hkl := hok.keys.len
    have hwl := hok.keep.len
    simp only [List.length_map] at hkl
    have d1 : decide ((x.keys.length : Int) > 100) = decide (100 < x.keys.length) := by rw [Bool.eq_iff_iff]; simp; omega
    have d2 : decide ((x.keep.length : Int) > 400) = decide (400 < x.keep.length) := by rw [Bool.eq_iff_iff]; simp; omega
    have e1 : Fr s1 (s1.new (.cells x.cells false false 0)) := by (repeat (first | exact FrX.refl _ _ | exact Fr.refl _ | assumption | exact Fr.x (by assumption) _ | refine FrX.put ?_ (.inl rfl) _ | refine FrX.put ?_ (.inr (by first | omega | (simp; done) | (simp; omega))) _ | refine FrX.new ?_ _ | refine Fr.put ?_ (by first | omega | (simp; done) | (simp; omega)) _ | refine Fr.new ?_ _ | refine FrX.then ?_ (by assumption) | refine Fr.trans ?_ (by assumption)))
    have f1 := f.trans e1
    have dd1 : Dom (s1.new (.cells x.cells false false 0)) := dom_new dd _
    cases c3 : decide (100 < x.keys.length)
    · cases c4 : decide (400 < x.keep.length)
      · have hb : bigOp x = false := by simp only [bigOp, c3, c4, Bool.or_false]
        simp -implicitDefEqProofs only [go_sem, Wk_block, Wk_drawnC, reduceCtorEq, Nat.reduceEqDiff, Nat.reduceAdd, Nat.reduceLeDiff, Nat.reduceLT, Nat.reduceMul, Nat.reduceSub, ↓reduceIte, Int.reduceLT, Int.reduceLE, Int.reduceNeg, Int.reduceAdd, Int.reduceEq, Nat.reduceBneDiff, Nat.reduceBEq, Int.reduceToNat, Int.reduceMul, Int.reduceSub, Int.reduceBEq, Int.reduceBNe, g10, g9, g8, hlt, hidx, hv, hle, he, hok.len, hok.cell, hok.c3, hok.c24, hkl, hwl, d1, d2, c3, c4, ht, wj, ft, tf]
        refine IH (l.length - (j + 1)) _ _ (by omega) ⟨j + 1, rfl, by omega, ?_, ?_, ?_, by rw [htk, hb], f1, dd1⟩
        · simp only [Tr.get_set, Nat.reduceEqDiff, ↓reduceIte, Int.cast_ofNat_Int]
        · simp only [Tr.get_set, Nat.reduceEqDiff, ↓reduceIte, Int.cast_ofNat_Int, g9]
        · simp only [Tr.get_set, Nat.reduceEqDiff, ↓reduceIte, Int.cast_ofNat_Int, g8]
      · have hb : great l = true := by
          unfold great
          rw [Bool.or_eq_true]
          refine .inr (List.any_eq_true.2 ⟨x, hmem, ?_⟩)
          simp only [bigOp, c4, Bool.or_true]
        simp -implicitDefEqProofs only [go_sem, Wk_block, Wk_drawnC, reduceCtorEq, Nat.reduceEqDiff, Nat.reduceAdd, Nat.reduceLeDiff, Nat.reduceLT, Nat.reduceMul, Nat.reduceSub, ↓reduceIte, Int.reduceLT, Int.reduceLE, Int.reduceNeg, Int.reduceAdd, Int.reduceEq, Nat.reduceBneDiff, Nat.reduceBEq, Int.reduceToNat, Int.reduceMul, Int.reduceSub, Int.reduceBEq, Int.reduceBNe, g10, g9, g8, hlt, hidx, hv, hle, he, hok.len, hok.cell, hok.c3, hok.c24, hkl, hwl, d1, d2, c3, c4, ht, wj, ft, tf]
        exact ⟨by rw [hb], f1, dd1⟩
    · have hb : great l = true := by
        unfold great
        rw [Bool.or_eq_true]
        refine .inr (List.any_eq_true.2 ⟨x, hmem, ?_⟩)
        simp only [bigOp, c3, Bool.true_or]
      simp -implicitDefEqProofs only [go_sem, Wk_block, Wk_drawnC, reduceCtorEq, Nat.reduceEqDiff, Nat.reduceAdd, Nat.reduceLeDiff, Nat.reduceLT, Nat.reduceMul, Nat.reduceSub, ↓reduceIte, Int.reduceLT, Int.reduceLE, Int.reduceNeg, Int.reduceAdd, Int.reduceEq, Nat.reduceBneDiff, Nat.reduceBEq, Int.reduceToNat, Int.reduceMul, Int.reduceSub, Int.reduceBEq, Int.reduceBNe, g10, g9, g8, hlt, hidx, hv, hle, he, hok.len, hok.cell, hok.c3, hok.c24, hkl, hwl, d1, d2, c3, ht, wj, ft, tf]
      exact ⟨by rw [hb], f1, dd1⟩
  · have : j = l.length := by omega
    subst this
    rw [List.take_length] at hpre
    have hlf : decide ((l.length : Int) < (l.length : Int)) = false := decide_eq_false (by omega)
    have hb : great l = false := by simp only [great, c1, hpre, Bool.or_false]
    simp -implicitDefEqProofs only [go_sem, Wk_block, Wk_drawnC, reduceCtorEq, Nat.reduceEqDiff, Nat.reduceAdd, Nat.reduceLeDiff, Nat.reduceLT, Nat.reduceMul, Nat.reduceSub, ↓reduceIte, Int.reduceLT, Int.reduceLE, Int.reduceNeg, Int.reduceAdd, Int.reduceEq, Nat.reduceBneDiff, Nat.reduceBEq, Int.reduceToNat, Int.reduceMul, Int.reduceSub, Int.reduceBEq, Int.reduceBNe, g10, g9, hlf, hlt, g8]
    exact ⟨by rw [hb], f, dd⟩
end Go.Proofs.YteiiblpnegjjlaaGreat.Lw
namespace Go.Proofs.YteiiblpnegjjlaaGreat.Lw
open D
set_option linter.unusedSimpArgs false
set_option linter.unusedVariables false
set_option maxRecDepth 10000

/-- A number that is not from nought to an end. -/
def bad (most a : Int) : Bool := decide (a < 0) || decide (a > most)

theorem within1_eq {p : Nat} {lo ro : Bool} {z : Nat} {s : St} (a most : Int) (hp : s.get p = some (.cells [.int .i64 most] lo ro z)) :
    mm.L.call 49 [.int .i64 a, .ptr p 0] s = some (.bool (bad most a), s) := by
  refine of_Wf (Wf_enter ft49 (sm (by decide)) (by rfl) ?_)
  have ft : (false == true) = false := rfl
  have tf : (true == false) = false := rfl
  cases c1 : decide (a < 0)
  · simp -implicitDefEqProofs only [go_sem, Wk_block, Wk_drawnC, reduceCtorEq, Nat.reduceEqDiff, Nat.reduceAdd, Nat.reduceLeDiff, Nat.reduceLT, Nat.reduceMul, Nat.reduceSub, ↓reduceIte, Int.reduceLT, Int.reduceLE, Int.reduceNeg, Int.reduceAdd, Int.reduceEq, Nat.reduceBneDiff, Nat.reduceBEq, Int.reduceToNat, Int.reduceMul, Int.reduceSub, Int.reduceBEq, Int.reduceBNe, fd49, hp, c1, ft, tf]
    simp [bad, c1]
  · simp -implicitDefEqProofs only [go_sem, Wk_block, Wk_drawnC, reduceCtorEq, Nat.reduceEqDiff, Nat.reduceAdd, Nat.reduceLeDiff, Nat.reduceLT, Nat.reduceMul, Nat.reduceSub, ↓reduceIte, Int.reduceLT, Int.reduceLE, Int.reduceNeg, Int.reduceAdd, Int.reduceEq, Nat.reduceBneDiff, Nat.reduceBEq, Int.reduceToNat, Int.reduceMul, Int.reduceSub, Int.reduceBEq, Int.reduceBNe, fd49, hp, c1, ft, tf]
    simp [bad, c1]

theorem IndexI_eq {L : List Int} {v : AV} {p : Nat} {lo ro : Bool} {z : Nat} {s : St} {most : Int} (hv : Rw s v (L.map (AV.int .i64))) (hL : L.length < 1000000000) (hp : s.get p = some (.cells [.int .i64 most] lo ro z)) :
    Wf mm 60 [v, .fn (.func 49) [] [.ptr p 0]] s fun w s' => (∃ r : Int, w = .int .i64 r ∧ decide (r ≥ 0) = L.any (bad most)) ∧ s' = s := by
  refine Wf_enter ft60 (sm (by decide)) (by rfl) ?_
  have ft : (false == true) = false := rfl
  have tf : (true == false) = false := rfl
  have hlv := hv.len
  simp only [List.length_map] at hlv
  simp -implicitDefEqProofs only [go_sem, Wk_block, Wk_drawnC, reduceCtorEq, Nat.reduceEqDiff, Nat.reduceAdd, Nat.reduceLeDiff, Nat.reduceLT, Nat.reduceMul, Nat.reduceSub, ↓reduceIte, Int.reduceLT, Int.reduceLE, Int.reduceNeg, Int.reduceAdd, Int.reduceEq, Nat.reduceBneDiff, Nat.reduceBEq, Int.reduceToNat, Int.reduceMul, Int.reduceSub, Int.reduceBEq, Int.reduceBNe, fd60, hlv]
  refine loop_ind (fun m ts s' => ∃ j : Nat, m = L.length - j ∧ j ≤ L.length ∧ ts.get 8 = some (.int .i64 (j : Int)) ∧ ts.get 7 = some (.int .i64 (L.length : Int)) ∧ ts.get 0 = some v ∧ ts.get 1 = some (.fn (.func 49) [] [.ptr p 0]) ∧ (L.take j).any (bad most) = false ∧ s' = s) ?_ (n := L.length)
    ⟨0, rfl, by omega, by simp only [Tr.get_set, Nat.reduceEqDiff, ↓reduceIte, Int.cast_ofNat_Int], by simp only [Tr.get_set, Nat.reduceEqDiff, ↓reduceIte, Int.cast_ofNat_Int], by simp only [Tr.get_set, Nat.reduceEqDiff, ↓reduceIte, Int.cast_ofNat_Int], by simp only [Tr.get_set, Nat.reduceEqDiff, ↓reduceIte, Int.cast_ofNat_Int], rfl, rfl⟩
  rintro m ts s' ⟨j, rfl, hj, g8, g7, g0, g1, hpre, rfl⟩ IH
  by_cases hlt : j < L.length
  · obtain ⟨b, o, vs, lo, ro, z, hidx, hg, hvj⟩ := hv.at_ j (by rw [List.length_map]; exact hlt)
    rw [List.getElem_map] at hvj
    have htk : (L.take (j + 1)).any (bad most) = bad most L[j] := by
      rw [List.take_succ_eq_append_getElem hlt, List.any_append, hpre]
      simp
    have hmem : L[j] ∈ L := List.getElem_mem hlt
    generalize L[j] = a at hvj htk hmem
    have wj := succ_in (j := j) (by omega)
    cases c1 : bad most a
    · simp -implicitDefEqProofs only [go_sem, Wk_block, Wk_drawnC, reduceCtorEq, Nat.reduceEqDiff, Nat.reduceAdd, Nat.reduceLeDiff, Nat.reduceLT, Nat.reduceMul, Nat.reduceSub, ↓reduceIte, Int.reduceLT, Int.reduceLE, Int.reduceNeg, Int.reduceAdd, Int.reduceEq, Nat.reduceBneDiff, Nat.reduceBEq, Int.reduceToNat, Int.reduceMul, Int.reduceSub, Int.reduceBEq, Int.reduceBNe, g8, g7, g0, g1, hlt, hidx, hg, hvj, wj, Wl_eq (within1_eq a most hp), c1, ft, tf]
      refine IH (L.length - (j + 1)) _ _ (by omega) ⟨j + 1, rfl, by omega, ?_, ?_, ?_, ?_, by rw [htk, c1], rfl⟩
      · simp only [Tr.get_set, Nat.reduceEqDiff, ↓reduceIte, Int.cast_ofNat_Int]
      · simp only [Tr.get_set, Nat.reduceEqDiff, ↓reduceIte, Int.cast_ofNat_Int, g7]
      · simp only [Tr.get_set, Nat.reduceEqDiff, ↓reduceIte, Int.cast_ofNat_Int, g0]
      · simp only [Tr.get_set, Nat.reduceEqDiff, ↓reduceIte, Int.cast_ofNat_Int, g1]
    · have hb : L.any (bad most) = true := List.any_eq_true.2 ⟨a, hmem, c1⟩
      simp -implicitDefEqProofs only [go_sem, Wk_block, Wk_drawnC, reduceCtorEq, Nat.reduceEqDiff, Nat.reduceAdd, Nat.reduceLeDiff, Nat.reduceLT, Nat.reduceMul, Nat.reduceSub, ↓reduceIte, Int.reduceLT, Int.reduceLE, Int.reduceNeg, Int.reduceAdd, Int.reduceEq, Nat.reduceBneDiff, Nat.reduceBEq, Int.reduceToNat, Int.reduceMul, Int.reduceSub, Int.reduceBEq, Int.reduceBNe, g8, g7, g0, g1, hlt, hidx, hg, hvj, wj, Wl_eq (within1_eq a most hp), c1, ft, tf]
      exact ⟨_, rfl, by rw [hb]; simp⟩
  · have : j = L.length := by omega
    subst this
    rw [List.take_length] at hpre
    have hlf : decide ((L.length : Int) < (L.length : Int)) = false := decide_eq_false (by omega)
    simp -implicitDefEqProofs only [go_sem, Wk_block, Wk_drawnC, reduceCtorEq, Nat.reduceEqDiff, Nat.reduceAdd, Nat.reduceLeDiff, Nat.reduceLT, Nat.reduceMul, Nat.reduceSub, ↓reduceIte, Int.reduceLT, Int.reduceLE, Int.reduceNeg, Int.reduceAdd, Int.reduceEq, Nat.reduceBneDiff, Nat.reduceBEq, Int.reduceToNat, Int.reduceMul, Int.reduceSub, Int.reduceBEq, Int.reduceBNe, g8, g7, hlf, hlt, g0, g1]
    exact ⟨_, rfl, by rw [hpre]; rfl⟩

theorem within_run {L : List Int} {v : AV} {s : St} (most : Int) (hv : Rw s v (L.map (AV.int .i64))) (hL : L.length < 1000000000) (hd : ∀ b o, s.get b = some o → b < s.next) :
    Wf mm 34 [.int .i64 most, v] s fun w s' => w = .bool (!L.any (bad most)) ∧ s' = s.new (.cells [.int .i64 most] false false 0) := by
  refine Wf_enter ft34 (sm (by decide)) (by rfl) ?_
  have ft : (false == true) = false := rfl
  have tf : (true == false) = false := rfl
  have hp : (s.new (.cells [.int .i64 most] false false 0)).get s.next = some (.cells [.int .i64 most] false false 0) := by rw [St.get_new, if_pos rfl]
  have hv2 := hv.mono (keeps_new hd (.cells [.int .i64 most] false false 0))
  have hc : Wf mm 48 [v, .fn (.func 49) [] [.ptr s.next 0]] (s.new (.cells [.int .i64 most] false false 0)) fun w s' => w = .bool (L.any (bad most)) ∧ s' = s.new (.cells [.int .i64 most] false false 0) := by
    refine Wf_enter ft48 (sm (by decide)) (by rfl) ?_
    simp -implicitDefEqProofs only [go_sem, Wk_block, Wk_drawnC, reduceCtorEq, Nat.reduceEqDiff, Nat.reduceAdd, Nat.reduceLeDiff, Nat.reduceLT, Nat.reduceMul, Nat.reduceSub, ↓reduceIte, Int.reduceLT, Int.reduceLE, Int.reduceNeg, Int.reduceAdd, Int.reduceEq, Nat.reduceBneDiff, Nat.reduceBEq, Int.reduceToNat, Int.reduceMul, Int.reduceSub, Int.reduceBEq, Int.reduceBNe, fd48, ft, tf]
    refine Wl_of (IndexI_eq hv2 hL hp) ?_
    rintro _ s' ⟨⟨r, rfl, hr⟩, rfl⟩
    simp -implicitDefEqProofs only [go_sem, Wk_block, Wk_drawnC, reduceCtorEq, Nat.reduceEqDiff, Nat.reduceAdd, Nat.reduceLeDiff, Nat.reduceLT, Nat.reduceMul, Nat.reduceSub, ↓reduceIte, Int.reduceLT, Int.reduceLE, Int.reduceNeg, Int.reduceAdd, Int.reduceEq, Nat.reduceBneDiff, Nat.reduceBEq, Int.reduceToNat, Int.reduceMul, Int.reduceSub, Int.reduceBEq, Int.reduceBNe, hr, ft, tf]
  simp -implicitDefEqProofs only [go_sem, Wk_block, Wk_drawnC, reduceCtorEq, Nat.reduceEqDiff, Nat.reduceAdd, Nat.reduceLeDiff, Nat.reduceLT, Nat.reduceMul, Nat.reduceSub, ↓reduceIte, Int.reduceLT, Int.reduceLE, Int.reduceNeg, Int.reduceAdd, Int.reduceEq, Nat.reduceBneDiff, Nat.reduceBEq, Int.reduceToNat, Int.reduceMul, Int.reduceSub, Int.reduceBEq, Int.reduceBNe, fd34, ft, tf]
  refine Wl_of hc ?_
  rintro _ s' ⟨rfl, rfl⟩
  simp -implicitDefEqProofs only [go_sem, Wk_block, Wk_drawnC, reduceCtorEq, Nat.reduceEqDiff, Nat.reduceAdd, Nat.reduceLeDiff, Nat.reduceLT, Nat.reduceMul, Nat.reduceSub, ↓reduceIte, Int.reduceLT, Int.reduceLE, Int.reduceNeg, Int.reduceAdd, Int.reduceEq, Nat.reduceBneDiff, Nat.reduceBEq, Int.reduceToNat, Int.reduceMul, Int.reduceSub, Int.reduceBEq, Int.reduceBNe, ft, tf]
end Go.Proofs.YteiiblpnegjjlaaGreat.Lw
namespace Go.Proofs.YteiiblpnegjjlaaGreat.Lw
open D
set_option linter.unusedSimpArgs false
set_option linter.unusedVariables false
set_option maxRecDepth 10000

/-- Such a kind, such a node there is. -/
def rightOp (x : Sop) : Bool := decide (x.kind ≥ 0) && decide (x.kind ≤ 18) && decide (x.node ≥ 0) && decide (x.node < 2)
/-- The lists of an op that can be written. -/
def listsOp (x : Sop) : Bool := decide (x.keys.length ≤ 64) && !x.keys.any (bad 255) && decide (x.keep.length ≤ 255)
/-- An op that can be written. -/
def plainOp (x : Sop) : Bool := rightOp x && listsOp x && !bad 255 x.key && decide (x.at_ ≥ -1) && decide (x.at_ < 65535)

theorem Right_run {x : Sop} {s : St} (hx : SopOk s x) : Wf mm 47 [.agg x.cells] s fun w s' => w = .bool (rightOp x) ∧ s' = s.new (.cells x.cells false false 0) := by
  refine Wf_enter ft47 (sm (by decide)) (by rfl) ?_
  have ft : (false == true) = false := rfl
  have tf : (true == false) = false := rfl
  cases c1 : decide (x.kind ≥ 0)
  · simp -implicitDefEqProofs only [go_sem, Wk_block, Wk_drawnC, reduceCtorEq, Nat.reduceEqDiff, Nat.reduceAdd, Nat.reduceLeDiff, Nat.reduceLT, Nat.reduceMul, Nat.reduceSub, ↓reduceIte, Int.reduceLT, Int.reduceLE, Int.reduceNeg, Int.reduceAdd, Int.reduceEq, Nat.reduceBneDiff, Nat.reduceBEq, Int.reduceToNat, Int.reduceMul, Int.reduceSub, Int.reduceBEq, Int.reduceBNe, fd47, hx.len, hx.c0, hx.c1, c1, ft, tf]
    simp [rightOp, c1]
  cases c2 : decide (x.kind ≤ 18)
  · simp -implicitDefEqProofs only [go_sem, Wk_block, Wk_drawnC, reduceCtorEq, Nat.reduceEqDiff, Nat.reduceAdd, Nat.reduceLeDiff, Nat.reduceLT, Nat.reduceMul, Nat.reduceSub, ↓reduceIte, Int.reduceLT, Int.reduceLE, Int.reduceNeg, Int.reduceAdd, Int.reduceEq, Nat.reduceBneDiff, Nat.reduceBEq, Int.reduceToNat, Int.reduceMul, Int.reduceSub, Int.reduceBEq, Int.reduceBNe, fd47, hx.len, hx.c0, hx.c1, c1, c2, ft, tf]
    simp [rightOp, c1, c2]
  cases c3 : decide (x.node ≥ 0)
  · simp -implicitDefEqProofs only [go_sem, Wk_block, Wk_drawnC, reduceCtorEq, Nat.reduceEqDiff, Nat.reduceAdd, Nat.reduceLeDiff, Nat.reduceLT, Nat.reduceMul, Nat.reduceSub, ↓reduceIte, Int.reduceLT, Int.reduceLE, Int.reduceNeg, Int.reduceAdd, Int.reduceEq, Nat.reduceBneDiff, Nat.reduceBEq, Int.reduceToNat, Int.reduceMul, Int.reduceSub, Int.reduceBEq, Int.reduceBNe, fd47, hx.len, hx.c0, hx.c1, c1, c2, c3, ft, tf]
    simp [rightOp, c1, c2, c3]
  cases c4 : decide (x.node < 2)
  · simp -implicitDefEqProofs only [go_sem, Wk_block, Wk_drawnC, reduceCtorEq, Nat.reduceEqDiff, Nat.reduceAdd, Nat.reduceLeDiff, Nat.reduceLT, Nat.reduceMul, Nat.reduceSub, ↓reduceIte, Int.reduceLT, Int.reduceLE, Int.reduceNeg, Int.reduceAdd, Int.reduceEq, Nat.reduceBneDiff, Nat.reduceBEq, Int.reduceToNat, Int.reduceMul, Int.reduceSub, Int.reduceBEq, Int.reduceBNe, fd47, hx.len, hx.c0, hx.c1, c1, c2, c3, c4, ft, tf]
    simp [rightOp, c1, c2, c3, c4]
  · simp -implicitDefEqProofs only [go_sem, Wk_block, Wk_drawnC, reduceCtorEq, Nat.reduceEqDiff, Nat.reduceAdd, Nat.reduceLeDiff, Nat.reduceLT, Nat.reduceMul, Nat.reduceSub, ↓reduceIte, Int.reduceLT, Int.reduceLE, Int.reduceNeg, Int.reduceAdd, Int.reduceEq, Nat.reduceBneDiff, Nat.reduceBEq, Int.reduceToNat, Int.reduceMul, Int.reduceSub, Int.reduceBEq, Int.reduceBNe, fd47, hx.len, hx.c0, hx.c1, c1, c2, c3, c4, ft, tf]
    simp [rightOp, c1, c2, c3, c4]

/-- A row of one new cell. -/
theorem rw_one {s : St} {p : Nat} {a : AV} {lo ro : Bool} {z : Nat} (h : s.get p = some (.cells [a] lo ro z)) (c : Nat) (x : Bool) : Rw s (.slice p 0 1 c x) [a] where
  len _ := rfl
  at_ j hj := by
    have : j = 0 := by simpa using hj
    subst this
    exact ⟨p, 0, _, _, _, _, fun s' => by rw [idx1_slice (by omega)], h, rfl⟩
  cell := ⟨rfl, rfl⟩

theorem plain_run {x : Sop} {s : St} (hx : SopOk s x) (hd : ∀ b o, s.get b = some o → b < s.next) (hkl : x.keys.length ≤ 1000) :
    Wf mm 33 [.agg x.cells] s fun w s' => w = .bool (plainOp x) ∧ Fr s s' ∧ Dom s' := by
  refine Wf_enter ft33 (sm (by decide)) (by rfl) ?_
  have ft : (false == true) = false := rfl
  have tf : (true == false) = false := rfl
  have hkn := hx.keys.len
  have hwn := hx.keep.len
  simp only [List.length_map] at hkn
  have d1 : decide ((x.keys.length : Int) ≤ 64) = decide (x.keys.length ≤ 64) := by rw [Bool.eq_iff_iff]; simp; omega
  have d2 : decide ((x.keep.length : Int) ≤ 255) = decide (x.keep.length ≤ 255) := by rw [Bool.eq_iff_iff]; simp; omega
  have n1 := keeps_new hd (.cells x.cells false false 0)
  have m1 := dom_new hd (.cells x.cells false false 0)
  have g1 : (s.new (.cells x.cells false false 0)).get s.next = some (.cells x.cells false false 0) := by rw [St.get_new, if_pos rfl]
  have f1 : Fr s (s.new (.cells x.cells false false 0)) := by (repeat (first | exact FrX.refl _ _ | exact Fr.refl _ | assumption | exact Fr.x (by assumption) _ | refine FrX.put ?_ (.inl rfl) _ | refine FrX.put ?_ (.inr (by first | omega | (simp; done) | (simp; omega))) _ | refine FrX.new ?_ _ | refine Fr.put ?_ (by first | omega | (simp; done) | (simp; omega)) _ | refine Fr.new ?_ _ | refine FrX.then ?_ (by assumption) | refine Fr.trans ?_ (by assumption)))
  have k1 : SopOk (s.new (.cells x.cells false false 0)) x := hx.mono n1
  have ht : x.cells.take 25 = x.cells := List.take_of_length_le (by rw [hx.len]; omega)
  cases c1 : decide (x.keys.length ≤ 64)
  · have hb : listsOp x = false := by simp only [listsOp, c1, Bool.false_and]
    simp -implicitDefEqProofs only [go_sem, Wk_block, Wk_drawnC, reduceCtorEq, Nat.reduceEqDiff, Nat.reduceAdd, Nat.reduceLeDiff, Nat.reduceLT, Nat.reduceMul, Nat.reduceSub, ↓reduceIte, Int.reduceLT, Int.reduceLE, Int.reduceNeg, Int.reduceAdd, Int.reduceEq, Nat.reduceBneDiff, Nat.reduceBEq, Int.reduceToNat, Int.reduceMul, Int.reduceSub, Int.reduceBEq, Int.reduceBNe, fd33, hx.len, hx.c3, hkn, hx.c24, hwn, d1, d2, ht, ft, tf, c1]
    refine Wl_of (Right_run k1) ?_
    rintro _ s9 ⟨rfl, rfl⟩
    cases c9 : rightOp x
    · simp -implicitDefEqProofs only [go_sem, Wk_block, Wk_drawnC, reduceCtorEq, Nat.reduceEqDiff, Nat.reduceAdd, Nat.reduceLeDiff, Nat.reduceLT, Nat.reduceMul, Nat.reduceSub, ↓reduceIte, Int.reduceLT, Int.reduceLE, Int.reduceNeg, Int.reduceAdd, Int.reduceEq, Nat.reduceBneDiff, Nat.reduceBEq, Int.reduceToNat, Int.reduceMul, Int.reduceSub, Int.reduceBEq, Int.reduceBNe, c9, hx.len, ft, tf]
      exact ⟨by simp [plainOp, c9], by (repeat (first | exact FrX.refl _ _ | exact Fr.refl _ | assumption | exact Fr.x (by assumption) _ | refine FrX.put ?_ (.inl rfl) _ | refine FrX.put ?_ (.inr (by first | omega | (simp; done) | (simp; omega))) _ | refine FrX.new ?_ _ | refine Fr.put ?_ (by first | omega | (simp; done) | (simp; omega)) _ | refine Fr.new ?_ _ | refine FrX.then ?_ (by assumption) | refine Fr.trans ?_ (by assumption))), (by repeat (first | assumption | refine dom_new ?_ _))⟩
    · simp -implicitDefEqProofs only [go_sem, Wk_block, Wk_drawnC, reduceCtorEq, Nat.reduceEqDiff, Nat.reduceAdd, Nat.reduceLeDiff, Nat.reduceLT, Nat.reduceMul, Nat.reduceSub, ↓reduceIte, Int.reduceLT, Int.reduceLE, Int.reduceNeg, Int.reduceAdd, Int.reduceEq, Nat.reduceBneDiff, Nat.reduceBEq, Int.reduceToNat, Int.reduceMul, Int.reduceSub, Int.reduceBEq, Int.reduceBNe, c9, hx.len, ft, tf]
      exact ⟨by simp [plainOp, hb], by (repeat (first | exact FrX.refl _ _ | exact Fr.refl _ | assumption | exact Fr.x (by assumption) _ | refine FrX.put ?_ (.inl rfl) _ | refine FrX.put ?_ (.inr (by first | omega | (simp; done) | (simp; omega))) _ | refine FrX.new ?_ _ | refine Fr.put ?_ (by first | omega | (simp; done) | (simp; omega)) _ | refine Fr.new ?_ _ | refine FrX.then ?_ (by assumption) | refine Fr.trans ?_ (by assumption))), (by repeat (first | assumption | refine dom_new ?_ _))⟩
  simp -implicitDefEqProofs only [go_sem, Wk_block, Wk_drawnC, reduceCtorEq, Nat.reduceEqDiff, Nat.reduceAdd, Nat.reduceLeDiff, Nat.reduceLT, Nat.reduceMul, Nat.reduceSub, ↓reduceIte, Int.reduceLT, Int.reduceLE, Int.reduceNeg, Int.reduceAdd, Int.reduceEq, Nat.reduceBneDiff, Nat.reduceBEq, Int.reduceToNat, Int.reduceMul, Int.reduceSub, Int.reduceBEq, Int.reduceBNe, fd33, hx.len, hx.c3, hkn, hx.c24, hwn, d1, d2, ht, ft, tf, c1]
  refine Wl_of (within_run 255 k1.keys (by omega) m1) ?_
  rintro _ s2 ⟨rfl, hs2⟩
  have n2 : ∀ b o, (s.new (.cells x.cells false false 0)).get b = some o → s2.get b = some o := by rw [hs2]; exact keeps_new m1 _
  have m2 : ∀ b o, s2.get b = some o → b < s2.next := by rw [hs2]; exact dom_new m1 _
  have g2 := n2 _ _ g1
  have k2 := k1.mono n2
  have f2 : Fr s s2 := by rw [hs2]; (repeat (first | exact FrX.refl _ _ | exact Fr.refl _ | assumption | exact Fr.x (by assumption) _ | refine FrX.put ?_ (.inl rfl) _ | refine FrX.put ?_ (.inr (by first | omega | (simp; done) | (simp; omega))) _ | refine FrX.new ?_ _ | refine Fr.put ?_ (by first | omega | (simp; done) | (simp; omega)) _ | refine Fr.new ?_ _ | refine FrX.then ?_ (by assumption) | refine Fr.trans ?_ (by assumption)))
  have l2 : s.next + 2 ≤ s2.next := by rw [hs2]; simp
  clear hs2
  cases c2 : x.keys.any (bad 255)
  rotate_left
  · have hb : listsOp x = false := by simp only [listsOp, c2, Bool.not_true, Bool.and_false, Bool.false_and]
    simp -implicitDefEqProofs only [go_sem, Wk_block, Wk_drawnC, reduceCtorEq, Nat.reduceEqDiff, Nat.reduceAdd, Nat.reduceLeDiff, Nat.reduceLT, Nat.reduceMul, Nat.reduceSub, ↓reduceIte, Int.reduceLT, Int.reduceLE, Int.reduceNeg, Int.reduceAdd, Int.reduceEq, Nat.reduceBneDiff, Nat.reduceBEq, Int.reduceToNat, Int.reduceMul, Int.reduceSub, Int.reduceBEq, Int.reduceBNe, c2, Bool.not_true, Bool.not_false, g2, hx.len, hx.c3, hkn, hx.c24, hwn, d1, d2, ht, ft, tf]
    refine Wl_of (Right_run k2) ?_
    rintro _ s9 ⟨rfl, rfl⟩
    cases c9 : rightOp x
    · simp -implicitDefEqProofs only [go_sem, Wk_block, Wk_drawnC, reduceCtorEq, Nat.reduceEqDiff, Nat.reduceAdd, Nat.reduceLeDiff, Nat.reduceLT, Nat.reduceMul, Nat.reduceSub, ↓reduceIte, Int.reduceLT, Int.reduceLE, Int.reduceNeg, Int.reduceAdd, Int.reduceEq, Nat.reduceBneDiff, Nat.reduceBEq, Int.reduceToNat, Int.reduceMul, Int.reduceSub, Int.reduceBEq, Int.reduceBNe, c9, hx.len, ft, tf]
      exact ⟨by simp [plainOp, c9], by (repeat (first | exact FrX.refl _ _ | exact Fr.refl _ | assumption | exact Fr.x (by assumption) _ | refine FrX.put ?_ (.inl rfl) _ | refine FrX.put ?_ (.inr (by first | omega | (simp; done) | (simp; omega))) _ | refine FrX.new ?_ _ | refine Fr.put ?_ (by first | omega | (simp; done) | (simp; omega)) _ | refine Fr.new ?_ _ | refine FrX.then ?_ (by assumption) | refine Fr.trans ?_ (by assumption))), (by repeat (first | assumption | refine dom_new ?_ _))⟩
    · simp -implicitDefEqProofs only [go_sem, Wk_block, Wk_drawnC, reduceCtorEq, Nat.reduceEqDiff, Nat.reduceAdd, Nat.reduceLeDiff, Nat.reduceLT, Nat.reduceMul, Nat.reduceSub, ↓reduceIte, Int.reduceLT, Int.reduceLE, Int.reduceNeg, Int.reduceAdd, Int.reduceEq, Nat.reduceBneDiff, Nat.reduceBEq, Int.reduceToNat, Int.reduceMul, Int.reduceSub, Int.reduceBEq, Int.reduceBNe, c9, hx.len, ft, tf]
      exact ⟨by simp [plainOp, hb], by (repeat (first | exact FrX.refl _ _ | exact Fr.refl _ | assumption | exact Fr.x (by assumption) _ | refine FrX.put ?_ (.inl rfl) _ | refine FrX.put ?_ (.inr (by first | omega | (simp; done) | (simp; omega))) _ | refine FrX.new ?_ _ | refine Fr.put ?_ (by first | omega | (simp; done) | (simp; omega)) _ | refine Fr.new ?_ _ | refine FrX.then ?_ (by assumption) | refine Fr.trans ?_ (by assumption))), (by repeat (first | assumption | refine dom_new ?_ _))⟩
  cases c3 : decide (x.keep.length ≤ 255)
  · have hb : listsOp x = false := by simp only [listsOp, c3, Bool.and_false]
    simp -implicitDefEqProofs only [go_sem, Wk_block, Wk_drawnC, reduceCtorEq, Nat.reduceEqDiff, Nat.reduceAdd, Nat.reduceLeDiff, Nat.reduceLT, Nat.reduceMul, Nat.reduceSub, ↓reduceIte, Int.reduceLT, Int.reduceLE, Int.reduceNeg, Int.reduceAdd, Int.reduceEq, Nat.reduceBneDiff, Nat.reduceBEq, Int.reduceToNat, Int.reduceMul, Int.reduceSub, Int.reduceBEq, Int.reduceBNe, c2, c3, Bool.not_true, Bool.not_false, g2, hx.len, hx.c3, hkn, hx.c24, hwn, d1, d2, ht, ft, tf]
    refine Wl_of (Right_run k2) ?_
    rintro _ s9 ⟨rfl, rfl⟩
    cases c9 : rightOp x
    · simp -implicitDefEqProofs only [go_sem, Wk_block, Wk_drawnC, reduceCtorEq, Nat.reduceEqDiff, Nat.reduceAdd, Nat.reduceLeDiff, Nat.reduceLT, Nat.reduceMul, Nat.reduceSub, ↓reduceIte, Int.reduceLT, Int.reduceLE, Int.reduceNeg, Int.reduceAdd, Int.reduceEq, Nat.reduceBneDiff, Nat.reduceBEq, Int.reduceToNat, Int.reduceMul, Int.reduceSub, Int.reduceBEq, Int.reduceBNe, c9, hx.len, ft, tf]
      exact ⟨by simp [plainOp, c9], by (repeat (first | exact FrX.refl _ _ | exact Fr.refl _ | assumption | exact Fr.x (by assumption) _ | refine FrX.put ?_ (.inl rfl) _ | refine FrX.put ?_ (.inr (by first | omega | (simp; done) | (simp; omega))) _ | refine FrX.new ?_ _ | refine Fr.put ?_ (by first | omega | (simp; done) | (simp; omega)) _ | refine Fr.new ?_ _ | refine FrX.then ?_ (by assumption) | refine Fr.trans ?_ (by assumption))), (by repeat (first | assumption | refine dom_new ?_ _))⟩
    · simp -implicitDefEqProofs only [go_sem, Wk_block, Wk_drawnC, reduceCtorEq, Nat.reduceEqDiff, Nat.reduceAdd, Nat.reduceLeDiff, Nat.reduceLT, Nat.reduceMul, Nat.reduceSub, ↓reduceIte, Int.reduceLT, Int.reduceLE, Int.reduceNeg, Int.reduceAdd, Int.reduceEq, Nat.reduceBneDiff, Nat.reduceBEq, Int.reduceToNat, Int.reduceMul, Int.reduceSub, Int.reduceBEq, Int.reduceBNe, c9, hx.len, ft, tf]
      exact ⟨by simp [plainOp, hb], by (repeat (first | exact FrX.refl _ _ | exact Fr.refl _ | assumption | exact Fr.x (by assumption) _ | refine FrX.put ?_ (.inl rfl) _ | refine FrX.put ?_ (.inr (by first | omega | (simp; done) | (simp; omega))) _ | refine FrX.new ?_ _ | refine Fr.put ?_ (by first | omega | (simp; done) | (simp; omega)) _ | refine Fr.new ?_ _ | refine FrX.then ?_ (by assumption) | refine Fr.trans ?_ (by assumption))), (by repeat (first | assumption | refine dom_new ?_ _))⟩
  have hb : listsOp x = true := by simp only [listsOp, c1, c2, c3, Bool.not_false, Bool.and_true]
  simp -implicitDefEqProofs only [go_sem, Wk_block, Wk_drawnC, reduceCtorEq, Nat.reduceEqDiff, Nat.reduceAdd, Nat.reduceLeDiff, Nat.reduceLT, Nat.reduceMul, Nat.reduceSub, ↓reduceIte, Int.reduceLT, Int.reduceLE, Int.reduceNeg, Int.reduceAdd, Int.reduceEq, Nat.reduceBneDiff, Nat.reduceBEq, Int.reduceToNat, Int.reduceMul, Int.reduceSub, Int.reduceBEq, Int.reduceBNe, c2, c3, Bool.not_true, Bool.not_false, g2, hx.len, hx.c3, hkn, hx.c24, hwn, d1, d2, ht, ft, tf]
  refine Wl_of (Right_run k2) ?_
  rintro _ s3 ⟨rfl, hs3⟩
  have n3 : ∀ b o, s2.get b = some o → s3.get b = some o := by rw [hs3]; exact keeps_new m2 _
  have m3 : ∀ b o, s3.get b = some o → b < s3.next := by rw [hs3]; exact dom_new m2 _
  have g3 := n3 _ _ g2
  have f3 : Fr s s3 := by rw [hs3]; exact f2.trans (by (repeat (first | exact FrX.refl _ _ | exact Fr.refl _ | assumption | exact Fr.x (by assumption) _ | refine FrX.put ?_ (.inl rfl) _ | refine FrX.put ?_ (.inr (by first | omega | (simp; done) | (simp; omega))) _ | refine FrX.new ?_ _ | refine Fr.put ?_ (by first | omega | (simp; done) | (simp; omega)) _ | refine Fr.new ?_ _ | refine FrX.then ?_ (by assumption) | refine Fr.trans ?_ (by assumption))))
  clear hs3
  cases c4 : rightOp x
  · simp -implicitDefEqProofs only [go_sem, Wk_block, Wk_drawnC, reduceCtorEq, Nat.reduceEqDiff, Nat.reduceAdd, Nat.reduceLeDiff, Nat.reduceLT, Nat.reduceMul, Nat.reduceSub, ↓reduceIte, Int.reduceLT, Int.reduceLE, Int.reduceNeg, Int.reduceAdd, Int.reduceEq, Nat.reduceBneDiff, Nat.reduceBEq, Int.reduceToNat, Int.reduceMul, Int.reduceSub, Int.reduceBEq, Int.reduceBNe, c4, hx.len, ft, tf]
    exact ⟨by simp [plainOp, c4], f3, m3⟩
  simp -implicitDefEqProofs only [go_sem, Wk_block, Wk_drawnC, reduceCtorEq, Nat.reduceEqDiff, Nat.reduceAdd, Nat.reduceLeDiff, Nat.reduceLT, Nat.reduceMul, Nat.reduceSub, ↓reduceIte, Int.reduceLT, Int.reduceLE, Int.reduceNeg, Int.reduceAdd, Int.reduceEq, Nat.reduceBneDiff, Nat.reduceBEq, Int.reduceToNat, Int.reduceMul, Int.reduceSub, Int.reduceBEq, Int.reduceBNe, c4, g3, hx.len, hx.c2, ft, tf]
  refine Wl_of (within_run (L := [x.key]) 255 (rw_one (by rw [St.get_new, if_pos rfl]) 1 false) (by simp) (dom_new m3 _)) ?_
  rintro _ s4 ⟨rfl, hs4⟩
  have g4 : s4.get s.next = some (.cells x.cells false false 0) := by rw [hs4]; exact keeps_new (dom_new m3 _) _ _ _ (keeps_new m3 _ _ _ g3)
  have f4 : Fr s s4 := by rw [hs4]; exact f3.trans (by (repeat (first | exact FrX.refl _ _ | exact Fr.refl _ | assumption | exact Fr.x (by assumption) _ | refine FrX.put ?_ (.inl rfl) _ | refine FrX.put ?_ (.inr (by first | omega | (simp; done) | (simp; omega))) _ | refine FrX.new ?_ _ | refine Fr.put ?_ (by first | omega | (simp; done) | (simp; omega)) _ | refine Fr.new ?_ _ | refine FrX.then ?_ (by assumption) | refine Fr.trans ?_ (by assumption))))
  have m4 : Dom s4 := by rw [hs4]; exact dom_new (dom_new m3 _) _
  clear hs4
  have hany : [x.key].any (bad 255) = bad 255 x.key := by simp
  cases c5 : bad 255 x.key
  rotate_left
  · simp -implicitDefEqProofs only [go_sem, Wk_block, Wk_drawnC, reduceCtorEq, Nat.reduceEqDiff, Nat.reduceAdd, Nat.reduceLeDiff, Nat.reduceLT, Nat.reduceMul, Nat.reduceSub, ↓reduceIte, Int.reduceLT, Int.reduceLE, Int.reduceNeg, Int.reduceAdd, Int.reduceEq, Nat.reduceBneDiff, Nat.reduceBEq, Int.reduceToNat, Int.reduceMul, Int.reduceSub, Int.reduceBEq, Int.reduceBNe, hany, c5, Bool.not_true, Bool.not_false, ft, tf]
    exact ⟨by simp [plainOp, c5], f4, m4⟩
  cases c6 : decide (x.at_ ≥ -1)
  · simp -implicitDefEqProofs only [go_sem, Wk_block, Wk_drawnC, reduceCtorEq, Nat.reduceEqDiff, Nat.reduceAdd, Nat.reduceLeDiff, Nat.reduceLT, Nat.reduceMul, Nat.reduceSub, ↓reduceIte, Int.reduceLT, Int.reduceLE, Int.reduceNeg, Int.reduceAdd, Int.reduceEq, Nat.reduceBneDiff, Nat.reduceBEq, Int.reduceToNat, Int.reduceMul, Int.reduceSub, Int.reduceBEq, Int.reduceBNe, hany, c5, c6, g4, hx.len, hx.c22, Bool.not_true, Bool.not_false, ft, tf]
    exact ⟨by simp [plainOp, c6], f4, m4⟩
  cases c7 : decide (x.at_ < 65535)
  · simp -implicitDefEqProofs only [go_sem, Wk_block, Wk_drawnC, reduceCtorEq, Nat.reduceEqDiff, Nat.reduceAdd, Nat.reduceLeDiff, Nat.reduceLT, Nat.reduceMul, Nat.reduceSub, ↓reduceIte, Int.reduceLT, Int.reduceLE, Int.reduceNeg, Int.reduceAdd, Int.reduceEq, Nat.reduceBneDiff, Nat.reduceBEq, Int.reduceToNat, Int.reduceMul, Int.reduceSub, Int.reduceBEq, Int.reduceBNe, hany, c5, c6, c7, g4, hx.len, hx.c22, Bool.not_true, Bool.not_false, ft, tf]
    exact ⟨by simp [plainOp, c7], f4, m4⟩
  · simp -implicitDefEqProofs only [go_sem, Wk_block, Wk_drawnC, reduceCtorEq, Nat.reduceEqDiff, Nat.reduceAdd, Nat.reduceLeDiff, Nat.reduceLT, Nat.reduceMul, Nat.reduceSub, ↓reduceIte, Int.reduceLT, Int.reduceLE, Int.reduceNeg, Int.reduceAdd, Int.reduceEq, Nat.reduceBneDiff, Nat.reduceBEq, Int.reduceToNat, Int.reduceMul, Int.reduceSub, Int.reduceBEq, Int.reduceBNe, hany, c5, c6, c7, g4, hx.len, hx.c22, Bool.not_true, Bool.not_false, ft, tf]
    exact ⟨by simp [plainOp, hb, c4, c5, c6, c7], f4, m4⟩
end Go.Proofs.YteiiblpnegjjlaaGreat.Lw
namespace Go.Proofs.YteiiblpnegjjlaaGreat.Lw
open D
set_option linter.unusedSimpArgs false
set_option linter.unusedVariables false
set_option maxRecDepth 10000

theorem PlainC_run {x : Sop} {s : St} (hx : SopOk s x) (hd : Dom s) (hkl : x.keys.length ≤ 1000) :
    Wf mm 32 [.agg x.cells] s fun w s' => w = .bool (!plainOp x) ∧ Fr s s' ∧ Dom s' := by
  refine Wf_enter ft32 (sm (by decide)) (by rfl) ?_
  have ht : x.cells.take 25 = x.cells := List.take_of_length_le (by rw [hx.len]; omega)
  have hn := keeps_new hd (.cells x.cells false false 0)
  have hd2 := dom_new hd (.cells x.cells false false 0)
  have f1 : Fr s (s.new (.cells x.cells false false 0)) := by (repeat (first | exact FrX.refl _ _ | exact Fr.refl _ | assumption | exact Fr.x (by assumption) _ | refine FrX.put ?_ (.inl rfl) _ | refine FrX.put ?_ (.inr (by first | omega | (simp; done) | (simp; omega))) _ | refine FrX.new ?_ _ | refine Fr.put ?_ (by first | omega | (simp; done) | (simp; omega)) _ | refine Fr.new ?_ _ | refine FrX.then ?_ (by assumption) | refine Fr.trans ?_ (by assumption)))
  simp -implicitDefEqProofs only [go_sem, Wk_block, Wk_drawnC, reduceCtorEq, Nat.reduceEqDiff, Nat.reduceAdd, Nat.reduceLeDiff, Nat.reduceLT, Nat.reduceMul, Nat.reduceSub, ↓reduceIte, Int.reduceLT, Int.reduceLE, Int.reduceNeg, Int.reduceAdd, Int.reduceEq, Nat.reduceBneDiff, Nat.reduceBEq, Int.reduceToNat, Int.reduceMul, Int.reduceSub, Int.reduceBEq, Int.reduceBNe, fd32, hx.len, ht]
  refine Wl_of (plain_run (hx.mono hn) hd2 hkl) ?_
  rintro _ s2 ⟨rfl, f2, d2⟩
  simp -implicitDefEqProofs only [go_sem, Wk_block, Wk_drawnC, reduceCtorEq, Nat.reduceEqDiff, Nat.reduceAdd, Nat.reduceLeDiff, Nat.reduceLT, Nat.reduceMul, Nat.reduceSub, ↓reduceIte, Int.reduceLT, Int.reduceLE, Int.reduceNeg, Int.reduceAdd, Int.reduceEq, Nat.reduceBneDiff, Nat.reduceBEq, Int.reduceToNat, Int.reduceMul, Int.reduceSub, Int.reduceBEq, Int.reduceBNe, ht]
  exact ⟨f1.trans f2, d2⟩

theorem fr_keeps {s s' : St} (f : Fr s s') (hd : Dom s) : ∀ b o, s.get b = some o → s'.get b = some o := fun b o h => (f.get b (hd b o h)).trans h

theorem IndexO_run (l : List Sop) {v : AV} {s : St} (hA : RdS s v l) (hl : ∀ x ∈ l, SopOk s x) (hk : ∀ x ∈ l, x.keys.length ≤ 1000) (hd : Dom s) (hL : l.length < 1000000000) :
    Wf mm 46 [v, .fn (.func 32) [] []] s fun w s' => (∃ r : Int, w = .int .i64 r ∧ decide (r ≥ 0) = l.any (fun x => !plainOp x)) ∧ Fr s s' ∧ Dom s' := by
  refine Wf_enter ft46 (sm (by decide)) (by rfl) ?_
  have ft : (false == true) = false := rfl
  have tf : (true == false) = false := rfl
  have hlen := hA.len
  simp -implicitDefEqProofs only [go_sem, Wk_block, Wk_drawnC, reduceCtorEq, Nat.reduceEqDiff, Nat.reduceAdd, Nat.reduceLeDiff, Nat.reduceLT, Nat.reduceMul, Nat.reduceSub, ↓reduceIte, Int.reduceLT, Int.reduceLE, Int.reduceNeg, Int.reduceAdd, Int.reduceEq, Nat.reduceBneDiff, Nat.reduceBEq, Int.reduceToNat, Int.reduceMul, Int.reduceSub, Int.reduceBEq, Int.reduceBNe, fd46, hlen]
  refine loop_ind (fun m ts s' => ∃ j : Nat, m = l.length - j ∧ j ≤ l.length ∧ ts.get 8 = some (.int .i64 (j : Int)) ∧ ts.get 7 = some (.int .i64 (l.length : Int)) ∧ ts.get 0 = some v ∧ ts.get 1 = some (.fn (.func 32) [] []) ∧ (l.take j).any (fun x => !plainOp x) = false ∧ Fr s s' ∧ Dom s') ?_ (n := l.length)
    ⟨0, rfl, by omega, by simp only [Tr.get_set, Nat.reduceEqDiff, ↓reduceIte, Int.cast_ofNat_Int], by simp only [Tr.get_set, Nat.reduceEqDiff, ↓reduceIte, Int.cast_ofNat_Int], by simp only [Tr.get_set, Nat.reduceEqDiff, ↓reduceIte, Int.cast_ofNat_Int], by simp only [Tr.get_set, Nat.reduceEqDiff, ↓reduceIte, Int.cast_ofNat_Int], rfl, Fr.refl s, hd⟩
  rintro m ts s1 ⟨j, rfl, hj, g8, g7, g0, g1, hpre, f, dd⟩ IH
  by_cases hlt : j < l.length
  · have hA1 := hA.mono f
    obtain ⟨b, o, vs, lo, ro, z, hidx, hv, hbl, hle, he⟩ := hA1.at_ j hlt
    have hok := (hl l[j] (List.getElem_mem hlt)).mono (fr_keeps f hd)
    have hk1 := hk l[j] (List.getElem_mem hlt)
    have htk : (l.take (j + 1)).any (fun x => !plainOp x) = !plainOp l[j] := by
      rw [List.take_succ_eq_append_getElem hlt, List.any_append, hpre]
      simp
    have hmem : l[j] ∈ l := List.getElem_mem hlt
    generalize l[j] = x at he hok htk hmem hk1
    have wj := succ_in (j := j) (by omega)
    simp -implicitDefEqProofs only [go_sem, Wk_block, Wk_drawnC, reduceCtorEq, Nat.reduceEqDiff, Nat.reduceAdd, Nat.reduceLeDiff, Nat.reduceLT, Nat.reduceMul, Nat.reduceSub, ↓reduceIte, Int.reduceLT, Int.reduceLE, Int.reduceNeg, Int.reduceAdd, Int.reduceEq, Nat.reduceBneDiff, Nat.reduceBEq, Int.reduceToNat, Int.reduceMul, Int.reduceSub, Int.reduceBEq, Int.reduceBNe, g8, g7, g0, g1, hlt, hidx, hv, hle, he, ft, tf]
    refine Wl_of (PlainC_run hok dd hk1) ?_
    rintro _ s2 ⟨rfl, f2, d2⟩
    cases c1 : plainOp x
    · have hb : l.any (fun x => !plainOp x) = true := List.any_eq_true.2 ⟨x, hmem, by rw [c1]; rfl⟩
      simp -implicitDefEqProofs only [go_sem, Wk_block, Wk_drawnC, reduceCtorEq, Nat.reduceEqDiff, Nat.reduceAdd, Nat.reduceLeDiff, Nat.reduceLT, Nat.reduceMul, Nat.reduceSub, ↓reduceIte, Int.reduceLT, Int.reduceLE, Int.reduceNeg, Int.reduceAdd, Int.reduceEq, Nat.reduceBneDiff, Nat.reduceBEq, Int.reduceToNat, Int.reduceMul, Int.reduceSub, Int.reduceBEq, Int.reduceBNe, g8, g7, g0, g1, Bool.not_true, Bool.not_false, ft, tf]
      exact ⟨⟨_, rfl, by rw [hb]; simp⟩, f.trans f2, d2⟩
    · simp -implicitDefEqProofs only [go_sem, Wk_block, Wk_drawnC, reduceCtorEq, Nat.reduceEqDiff, Nat.reduceAdd, Nat.reduceLeDiff, Nat.reduceLT, Nat.reduceMul, Nat.reduceSub, ↓reduceIte, Int.reduceLT, Int.reduceLE, Int.reduceNeg, Int.reduceAdd, Int.reduceEq, Nat.reduceBneDiff, Nat.reduceBEq, Int.reduceToNat, Int.reduceMul, Int.reduceSub, Int.reduceBEq, Int.reduceBNe, g8, g7, g0, g1, Bool.not_true, Bool.not_false, wj, ft, tf]
      refine IH (l.length - (j + 1)) _ _ (by omega) ⟨j + 1, rfl, by omega, ?_, ?_, ?_, ?_, by rw [htk, c1]; rfl, f.trans f2, d2⟩
      · simp only [Tr.get_set, Nat.reduceEqDiff, ↓reduceIte, Int.cast_ofNat_Int]
      · simp only [Tr.get_set, Nat.reduceEqDiff, ↓reduceIte, Int.cast_ofNat_Int, g7]
      · simp only [Tr.get_set, Nat.reduceEqDiff, ↓reduceIte, Int.cast_ofNat_Int, g0]
      · simp only [Tr.get_set, Nat.reduceEqDiff, ↓reduceIte, Int.cast_ofNat_Int, g1]
  · have : j = l.length := by omega
    subst this
    rw [List.take_length] at hpre
    have hlf : decide ((l.length : Int) < (l.length : Int)) = false := decide_eq_false (by omega)
    simp -implicitDefEqProofs only [go_sem, Wk_block, Wk_drawnC, reduceCtorEq, Nat.reduceEqDiff, Nat.reduceAdd, Nat.reduceLeDiff, Nat.reduceLT, Nat.reduceMul, Nat.reduceSub, ↓reduceIte, Int.reduceLT, Int.reduceLE, Int.reduceNeg, Int.reduceAdd, Int.reduceEq, Nat.reduceBneDiff, Nat.reduceBEq, Int.reduceToNat, Int.reduceMul, Int.reduceSub, Int.reduceBEq, Int.reduceBNe, g8, g7, hlf, hlt, g0, g1]
    exact ⟨⟨_, rfl, by rw [hpre]; rfl⟩, f, dd⟩

theorem ContainsO_run (l : List Sop) {v : AV} {s : St} (hA : RdS s v l) (hl : ∀ x ∈ l, SopOk s x) (hk : ∀ x ∈ l, x.keys.length ≤ 1000) (hd : Dom s) (hL : l.length < 1000000000) :
    Wf mm 31 [v, .fn (.func 32) [] []] s fun w s' => w = .bool (l.any (fun x => !plainOp x)) ∧ Fr s s' ∧ Dom s' := by
  refine Wf_enter ft31 (sm (by decide)) (by rfl) ?_
  have ft : (false == true) = false := rfl
  have tf : (true == false) = false := rfl
  simp -implicitDefEqProofs only [go_sem, Wk_block, Wk_drawnC, reduceCtorEq, Nat.reduceEqDiff, Nat.reduceAdd, Nat.reduceLeDiff, Nat.reduceLT, Nat.reduceMul, Nat.reduceSub, ↓reduceIte, Int.reduceLT, Int.reduceLE, Int.reduceNeg, Int.reduceAdd, Int.reduceEq, Nat.reduceBneDiff, Nat.reduceBEq, Int.reduceToNat, Int.reduceMul, Int.reduceSub, Int.reduceBEq, Int.reduceBNe, fd31, ft, tf]
  refine Wl_of (IndexO_run l hA hl hk hd hL) ?_
  rintro _ s' ⟨⟨r, rfl, hr⟩, f, dd⟩
  simp -implicitDefEqProofs only [go_sem, Wk_block, Wk_drawnC, reduceCtorEq, Nat.reduceEqDiff, Nat.reduceAdd, Nat.reduceLeDiff, Nat.reduceLT, Nat.reduceMul, Nat.reduceSub, ↓reduceIte, Int.reduceLT, Int.reduceLE, Int.reduceNeg, Int.reduceAdd, Int.reduceEq, Nat.reduceBneDiff, Nat.reduceBEq, Int.reduceToNat, Int.reduceMul, Int.reduceSub, Int.reduceBEq, Int.reduceBNe, hr, ft, tf]
  exact ⟨f, dd⟩
end Go.Proofs.YteiiblpnegjjlaaGreat.Lw
namespace Go.Proofs.YteiiblpnegjjlaaGreat.Lw
open D
set_option linter.unusedSimpArgs false
set_option linter.unusedVariables false
set_option maxRecDepth 10000

/-- The settings of a pair. -/
structure Cfg where
  pages : Int
  every : Nat
  span : Nat
  last : Int
  spans : Int
  chunk : Int
  retry : Int
def Cfg.enc (c : Cfg) : List AV := [.int .i64 c.pages, .int .u32 (c.every : Int), .int .u32 (c.span : Int), .int .i64 c.last, .int .i64 c.spans, .int .i64 c.chunk, .int .i64 c.retry]
def Cfg.nums (c : Cfg) : List Int := [c.pages, c.last, c.spans, c.chunk, c.retry]
/-- A script that can be. -/
def plainS (c : Cfg) (l : List Sop) : Bool := !(decide (400 < l.length) || l.any (fun x => !plainOp x)) && !c.nums.any (bad 65535)

theorem rw_row {s : St} {p : Nat} {l : List AV} {lo ro : Bool} {z n : Nat} (h : s.get p = some (.cells l lo ro z)) (hn : l.length = n) (c : Nat) (x : Bool) : Rw s (.slice p 0 n c x) l where
  len _ := by subst hn; rfl
  at_ j hj := ⟨p, 0, _, _, _, _, fun s' => by rw [idx1_slice (by omega), Nat.mul_one], h, by rw [Nat.zero_add, List.getElem?_eq_getElem hj]⟩
  cell := ⟨rfl, rfl⟩

theorem PlainS_run (c : Cfg) (l : List Sop) {v : AV} {s : St} (hA : RdS s v l) (hl : ∀ x ∈ l, SopOk s x) (hk : ∀ x ∈ l, x.keys.length ≤ 1000) (hd : Dom s) (hL : l.length < 1000000000) :
    Wf mm 15 [.agg c.enc, v] s fun w s' => w = .bool (plainS c l) ∧ Fr s s' ∧ Dom s' := by
  refine Wf_enter ft15 (sm (by decide)) (by rfl) ?_
  have ft : (false == true) = false := rfl
  have tf : (true == false) = false := rfl
  have hlen := hA.len
  have hn := keeps_new hd (.cells c.enc false false 0)
  have hd2 := dom_new hd (.cells c.enc false false 0)
  have f1 : Fr s (s.new (.cells c.enc false false 0)) := by (repeat (first | exact FrX.refl _ _ | exact Fr.refl _ | assumption | exact Fr.x (by assumption) _ | refine FrX.put ?_ (.inl rfl) _ | refine FrX.put ?_ (.inr (by first | omega | (simp; done) | (simp; omega))) _ | refine FrX.new ?_ _ | refine Fr.put ?_ (by first | omega | (simp; done) | (simp; omega)) _ | refine Fr.new ?_ _ | refine FrX.then ?_ (by assumption) | refine Fr.trans ?_ (by assumption)))
  have g1 : (s.new (.cells c.enc false false 0)).get s.next = some (.cells c.enc false false 0) := by rw [St.get_new, if_pos rfl]
  have d1 : decide ((l.length : Int) > 400) = decide (400 < l.length) := by rw [Bool.eq_iff_iff]; simp; omega
  cases c1 : decide (400 < l.length)
  rotate_left
  · simp -implicitDefEqProofs only [go_sem, Wk_block, Wk_drawnC, reduceCtorEq, Nat.reduceEqDiff, Nat.reduceAdd, Nat.reduceLeDiff, Nat.reduceLT, Nat.reduceMul, Nat.reduceSub, ↓reduceIte, Int.reduceLT, Int.reduceLE, Int.reduceNeg, Int.reduceAdd, Int.reduceEq, Nat.reduceBneDiff, Nat.reduceBEq, Int.reduceToNat, Int.reduceMul, Int.reduceSub, Int.reduceBEq, Int.reduceBNe, fd15, hlen, d1, c1, ft, tf]
    exact ⟨by simp [plainS, c1], f1, hd2⟩
  simp -implicitDefEqProofs only [go_sem, Wk_block, Wk_drawnC, reduceCtorEq, Nat.reduceEqDiff, Nat.reduceAdd, Nat.reduceLeDiff, Nat.reduceLT, Nat.reduceMul, Nat.reduceSub, ↓reduceIte, Int.reduceLT, Int.reduceLE, Int.reduceNeg, Int.reduceAdd, Int.reduceEq, Nat.reduceBneDiff, Nat.reduceBEq, Int.reduceToNat, Int.reduceMul, Int.reduceSub, Int.reduceBEq, Int.reduceBNe, fd15, hlen, d1, c1, ft, tf]
  refine Wl_of (ContainsO_run l (hA.mono f1) (fun x hx => (hl x hx).mono hn) hk hd2 hL) ?_
  rintro _ s2 ⟨rfl, f2, d2⟩
  have g2 := (fr_keeps f2 hd2) _ _ g1
  unfold Cfg.enc at g2
  cases c2 : l.any (fun x => !plainOp x)
  rotate_left
  · simp -implicitDefEqProofs only [go_sem, Wk_block, Wk_drawnC, reduceCtorEq, Nat.reduceEqDiff, Nat.reduceAdd, Nat.reduceLeDiff, Nat.reduceLT, Nat.reduceMul, Nat.reduceSub, ↓reduceIte, Int.reduceLT, Int.reduceLE, Int.reduceNeg, Int.reduceAdd, Int.reduceEq, Nat.reduceBneDiff, Nat.reduceBEq, Int.reduceToNat, Int.reduceMul, Int.reduceSub, Int.reduceBEq, Int.reduceBNe, ft, tf]
    exact ⟨by simp [plainS, c1, c2], f1.trans f2, d2⟩
  simp -implicitDefEqProofs only [go_sem, Wk_block, Wk_drawnC, reduceCtorEq, Nat.reduceEqDiff, Nat.reduceAdd, Nat.reduceLeDiff, Nat.reduceLT, Nat.reduceMul, Nat.reduceSub, ↓reduceIte, Int.reduceLT, Int.reduceLE, Int.reduceNeg, Int.reduceAdd, Int.reduceEq, Nat.reduceBneDiff, Nat.reduceBEq, Int.reduceToNat, Int.reduceMul, Int.reduceSub, Int.reduceBEq, Int.reduceBNe, g2, ft, tf]
  have hs : (s2.new (.cells [.int .i64 c.pages, .int .i64 c.last, .int .i64 c.spans, .int .i64 c.chunk, .int .i64 c.retry] false false 0)).get s2.next = some (.cells (c.nums.map (AV.int .i64)) false false 0) := by rw [St.get_new, if_pos rfl]; rfl
  refine Wl_of (within_run (L := c.nums) 65535 (rw_row hs rfl 5 false) (by simp [Cfg.nums]) (dom_new d2 _)) ?_
  rintro _ s3 ⟨rfl, hs3⟩
  have d3 : Dom s3 := by rw [hs3]; exact dom_new (dom_new d2 _) _
  have f3 : Fr s s3 := by rw [hs3]; exact (f1.trans f2).trans (by (repeat (first | exact FrX.refl _ _ | exact Fr.refl _ | assumption | exact Fr.x (by assumption) _ | refine FrX.put ?_ (.inl rfl) _ | refine FrX.put ?_ (.inr (by first | omega | (simp; done) | (simp; omega))) _ | refine FrX.new ?_ _ | refine Fr.put ?_ (by first | omega | (simp; done) | (simp; omega)) _ | refine Fr.new ?_ _ | refine FrX.then ?_ (by assumption) | refine Fr.trans ?_ (by assumption))))
  clear hs3
  simp -implicitDefEqProofs only [go_sem, Wk_block, Wk_drawnC, reduceCtorEq, Nat.reduceEqDiff, Nat.reduceAdd, Nat.reduceLeDiff, Nat.reduceLT, Nat.reduceMul, Nat.reduceSub, ↓reduceIte, Int.reduceLT, Int.reduceLE, Int.reduceNeg, Int.reduceAdd, Int.reduceEq, Nat.reduceBneDiff, Nat.reduceBEq, Int.reduceToNat, Int.reduceMul, Int.reduceSub, Int.reduceBEq, Int.reduceBNe, ft, tf]
  exact ⟨by simp [plainS, c1, c2], f3, d3⟩
end Go.Proofs.YteiiblpnegjjlaaGreat.Lw
namespace Go.Proofs.YteiiblpnegjjlaaGreat.Lw
open D
set_option linter.unusedSimpArgs false
set_option linter.unusedVariables false
set_option maxRecDepth 10000

theorem bad_ge (most a : Int) : (decide (a ≥ 0) && decide (a ≤ most)) = !bad most a := by
  rw [Bool.eq_iff_iff]
  simp [bad]

theorem tiny_eq (a : Int) (s : St) : mm.L.call 37 [.int .i64 a] s = some (.bool (!bad 255 a), s) := by
  rw [← bad_ge]
  refine of_Wf (Wf_enter ft37 (sm (by decide)) (by rfl) ?_)
  have ft : (false == true) = false := rfl
  have tf : (true == false) = false := rfl
  cases c1 : decide (a ≥ 0)
  · simp -implicitDefEqProofs only [go_sem, Wk_block, Wk_drawnC, reduceCtorEq, Nat.reduceEqDiff, Nat.reduceAdd, Nat.reduceLeDiff, Nat.reduceLT, Nat.reduceMul, Nat.reduceSub, ↓reduceIte, Int.reduceLT, Int.reduceLE, Int.reduceNeg, Int.reduceAdd, Int.reduceEq, Nat.reduceBneDiff, Nat.reduceBEq, Int.reduceToNat, Int.reduceMul, Int.reduceSub, Int.reduceBEq, Int.reduceBNe, fd37, c1, ft, tf]
    simp
  · simp -implicitDefEqProofs only [go_sem, Wk_block, Wk_drawnC, reduceCtorEq, Nat.reduceEqDiff, Nat.reduceAdd, Nat.reduceLeDiff, Nat.reduceLT, Nat.reduceMul, Nat.reduceSub, ↓reduceIte, Int.reduceLT, Int.reduceLE, Int.reduceNeg, Int.reduceAdd, Int.reduceEq, Nat.reduceBneDiff, Nat.reduceBEq, Int.reduceToNat, Int.reduceMul, Int.reduceSub, Int.reduceBEq, Int.reduceBNe, fd37, c1, ft, tf]
theorem short_eq (a : Int) (s : St) : mm.L.call 35 [.int .i64 a] s = some (.bool (!bad 65535 a), s) := by
  rw [← bad_ge]
  refine of_Wf (Wf_enter ft35 (sm (by decide)) (by rfl) ?_)
  have ft : (false == true) = false := rfl
  have tf : (true == false) = false := rfl
  cases c1 : decide (a ≥ 0)
  · simp -implicitDefEqProofs only [go_sem, Wk_block, Wk_drawnC, reduceCtorEq, Nat.reduceEqDiff, Nat.reduceAdd, Nat.reduceLeDiff, Nat.reduceLT, Nat.reduceMul, Nat.reduceSub, ↓reduceIte, Int.reduceLT, Int.reduceLE, Int.reduceNeg, Int.reduceAdd, Int.reduceEq, Nat.reduceBneDiff, Nat.reduceBEq, Int.reduceToNat, Int.reduceMul, Int.reduceSub, Int.reduceBEq, Int.reduceBNe, fd35, c1, ft, tf]
    simp
  · simp -implicitDefEqProofs only [go_sem, Wk_block, Wk_drawnC, reduceCtorEq, Nat.reduceEqDiff, Nat.reduceAdd, Nat.reduceLeDiff, Nat.reduceLT, Nat.reduceMul, Nat.reduceSub, ↓reduceIte, Int.reduceLT, Int.reduceLE, Int.reduceNeg, Int.reduceAdd, Int.reduceEq, Nat.reduceBneDiff, Nat.reduceBEq, Int.reduceToNat, Int.reduceMul, Int.reduceSub, Int.reduceBEq, Int.reduceBNe, fd35, c1, ft, tf]

theorem refRight_run {x : Sop} {s : St} (hx : SopOk s x) : Wf mm 36 [.agg x.cells] s fun w s' => w = .bool (rightOp x) ∧ s' = s.new (.cells x.cells false false 0) := by
  refine Wf_enter ft36 (sm (by decide)) (by rfl) ?_
  have ft : (false == true) = false := rfl
  have tf : (true == false) = false := rfl
  cases c1 : decide (x.kind ≥ 0)
  · simp -implicitDefEqProofs only [go_sem, Wk_block, Wk_drawnC, reduceCtorEq, Nat.reduceEqDiff, Nat.reduceAdd, Nat.reduceLeDiff, Nat.reduceLT, Nat.reduceMul, Nat.reduceSub, ↓reduceIte, Int.reduceLT, Int.reduceLE, Int.reduceNeg, Int.reduceAdd, Int.reduceEq, Nat.reduceBneDiff, Nat.reduceBEq, Int.reduceToNat, Int.reduceMul, Int.reduceSub, Int.reduceBEq, Int.reduceBNe, fd36, hx.len, hx.c0, hx.c1, c1, ft, tf]
    simp [rightOp, c1]
  cases c2 : decide (x.kind ≤ 18)
  · simp -implicitDefEqProofs only [go_sem, Wk_block, Wk_drawnC, reduceCtorEq, Nat.reduceEqDiff, Nat.reduceAdd, Nat.reduceLeDiff, Nat.reduceLT, Nat.reduceMul, Nat.reduceSub, ↓reduceIte, Int.reduceLT, Int.reduceLE, Int.reduceNeg, Int.reduceAdd, Int.reduceEq, Nat.reduceBneDiff, Nat.reduceBEq, Int.reduceToNat, Int.reduceMul, Int.reduceSub, Int.reduceBEq, Int.reduceBNe, fd36, hx.len, hx.c0, hx.c1, c1, c2, ft, tf]
    simp [rightOp, c1, c2]
  cases c3 : (x.node == 0)
  · cases c4 : (x.node == 1)
    · have hb : rightOp x = false := by
        simp at c3 c4
        simp [rightOp]
        omega
      simp -implicitDefEqProofs only [go_sem, Wk_block, Wk_drawnC, reduceCtorEq, Nat.reduceEqDiff, Nat.reduceAdd, Nat.reduceLeDiff, Nat.reduceLT, Nat.reduceMul, Nat.reduceSub, ↓reduceIte, Int.reduceLT, Int.reduceLE, Int.reduceNeg, Int.reduceAdd, Int.reduceEq, Nat.reduceBneDiff, Nat.reduceBEq, Int.reduceToNat, Int.reduceMul, Int.reduceSub, Int.reduceBEq, Int.reduceBNe, fd36, hx.len, hx.c0, hx.c1, c1, c2, c3, c4, ft, tf]
      simp [hb]
    · have hb : rightOp x = true := by
        simp at c1 c2 c4
        simp [rightOp]
        omega
      simp -implicitDefEqProofs only [go_sem, Wk_block, Wk_drawnC, reduceCtorEq, Nat.reduceEqDiff, Nat.reduceAdd, Nat.reduceLeDiff, Nat.reduceLT, Nat.reduceMul, Nat.reduceSub, ↓reduceIte, Int.reduceLT, Int.reduceLE, Int.reduceNeg, Int.reduceAdd, Int.reduceEq, Nat.reduceBneDiff, Nat.reduceBEq, Int.reduceToNat, Int.reduceMul, Int.reduceSub, Int.reduceBEq, Int.reduceBNe, fd36, hx.len, hx.c0, hx.c1, c1, c2, c3, c4, ft, tf]
      simp [hb]
  · have hb : rightOp x = true := by
      simp at c1 c2 c3
      simp [rightOp]
      omega
    simp -implicitDefEqProofs only [go_sem, Wk_block, Wk_drawnC, reduceCtorEq, Nat.reduceEqDiff, Nat.reduceAdd, Nat.reduceLeDiff, Nat.reduceLT, Nat.reduceMul, Nat.reduceSub, ↓reduceIte, Int.reduceLT, Int.reduceLE, Int.reduceNeg, Int.reduceAdd, Int.reduceEq, Nat.reduceBneDiff, Nat.reduceBEq, Int.reduceToNat, Int.reduceMul, Int.reduceSub, Int.reduceBEq, Int.reduceBNe, fd36, hx.len, hx.c0, hx.c1, c1, c2, c3, ft, tf]
    simp [hb]
end Go.Proofs.YteiiblpnegjjlaaGreat.Lw
namespace Go.Proofs.YteiiblpnegjjlaaGreat.Lw
open D
set_option linter.unusedSimpArgs false
set_option linter.unusedVariables false
set_option maxRecDepth 10000

theorem refPlain_run (c : Cfg) (l : List Sop) {v : AV} {s : St} (hA : RdS s v l) (hl : ∀ x ∈ l, SopOk s x) (hk : ∀ x ∈ l, x.keys.length ≤ 1000) (hd : Dom s) (hL : l.length < 1000000000) :
    Wf mm 16 [.agg c.enc, v] s fun w s' => w = .bool (plainS c l) ∧ Fr s s' ∧ Dom s' := by
  refine Wf_enter ft16 (sm (by decide)) (by rfl) ?_
  have ft : (false == true) = false := rfl
  have tf : (true == false) = false := rfl
  have hlen := hA.len
  have hd2 := dom_new hd (.cells c.enc false false 0)
  have f1 : Fr s (s.new (.cells c.enc false false 0)) := by (repeat (first | exact FrX.refl _ _ | exact Fr.refl _ | assumption | exact Fr.x (by assumption) _ | refine FrX.put ?_ (.inl rfl) _ | refine FrX.put ?_ (.inr (by first | omega | (simp; done) | (simp; omega))) _ | refine FrX.new ?_ _ | refine Fr.put ?_ (by first | omega | (simp; done) | (simp; omega)) _ | refine Fr.new ?_ _ | refine FrX.then ?_ (by assumption) | refine Fr.trans ?_ (by assumption)))
  unfold Cfg.enc at hd2 f1 ⊢
  have d1 : decide ((l.length : Int) > 400) = decide (400 < l.length) := by rw [Bool.eq_iff_iff]; simp; omega
  have hn : c.nums.any (bad 65535) = (bad 65535 c.pages || bad 65535 c.last || bad 65535 c.spans || bad 65535 c.chunk || bad 65535 c.retry) := by simp [Cfg.nums, Bool.or_assoc]
  cases c1 : decide (400 < l.length)
  rotate_left
  · simp -implicitDefEqProofs only [go_sem, Wk_block, Wk_drawnC, reduceCtorEq, Nat.reduceEqDiff, Nat.reduceAdd, Nat.reduceLeDiff, Nat.reduceLT, Nat.reduceMul, Nat.reduceSub, ↓reduceIte, Int.reduceLT, Int.reduceLE, Int.reduceNeg, Int.reduceAdd, Int.reduceEq, Nat.reduceBneDiff, Nat.reduceBEq, Int.reduceToNat, Int.reduceMul, Int.reduceSub, Int.reduceBEq, Int.reduceBNe, fd16, hlen, d1, c1, ft, tf]
    exact ⟨by simp [plainS, c1], f1, hd2⟩
  cases p1 : bad 65535 c.pages
  rotate_left
  · simp -implicitDefEqProofs only [go_sem, Wk_block, Wk_drawnC, reduceCtorEq, Nat.reduceEqDiff, Nat.reduceAdd, Nat.reduceLeDiff, Nat.reduceLT, Nat.reduceMul, Nat.reduceSub, ↓reduceIte, Int.reduceLT, Int.reduceLE, Int.reduceNeg, Int.reduceAdd, Int.reduceEq, Nat.reduceBneDiff, Nat.reduceBEq, Int.reduceToNat, Int.reduceMul, Int.reduceSub, Int.reduceBEq, Int.reduceBNe, fd16, hlen, d1, c1, Wl_eq (short_eq c.pages _), p1, Bool.not_true, Bool.not_false, ft, tf]
    exact ⟨by simp [plainS, hn, p1], f1, hd2⟩
  cases p2 : bad 65535 c.last
  rotate_left
  · simp -implicitDefEqProofs only [go_sem, Wk_block, Wk_drawnC, reduceCtorEq, Nat.reduceEqDiff, Nat.reduceAdd, Nat.reduceLeDiff, Nat.reduceLT, Nat.reduceMul, Nat.reduceSub, ↓reduceIte, Int.reduceLT, Int.reduceLE, Int.reduceNeg, Int.reduceAdd, Int.reduceEq, Nat.reduceBneDiff, Nat.reduceBEq, Int.reduceToNat, Int.reduceMul, Int.reduceSub, Int.reduceBEq, Int.reduceBNe, fd16, hlen, d1, c1, Wl_eq (short_eq c.pages _), Wl_eq (short_eq c.last _), p1, p2, Bool.not_true, Bool.not_false, ft, tf]
    exact ⟨by simp [plainS, hn, p2], f1, hd2⟩
  cases p3 : bad 65535 c.spans
  rotate_left
  · simp -implicitDefEqProofs only [go_sem, Wk_block, Wk_drawnC, reduceCtorEq, Nat.reduceEqDiff, Nat.reduceAdd, Nat.reduceLeDiff, Nat.reduceLT, Nat.reduceMul, Nat.reduceSub, ↓reduceIte, Int.reduceLT, Int.reduceLE, Int.reduceNeg, Int.reduceAdd, Int.reduceEq, Nat.reduceBneDiff, Nat.reduceBEq, Int.reduceToNat, Int.reduceMul, Int.reduceSub, Int.reduceBEq, Int.reduceBNe, fd16, hlen, d1, c1, Wl_eq (short_eq c.pages _), Wl_eq (short_eq c.last _), Wl_eq (short_eq c.spans _), p1, p2, p3, Bool.not_true, Bool.not_false, ft, tf]
    exact ⟨by simp [plainS, hn, p3], f1, hd2⟩
  cases p4 : bad 65535 c.chunk
  rotate_left
  · simp -implicitDefEqProofs only [go_sem, Wk_block, Wk_drawnC, reduceCtorEq, Nat.reduceEqDiff, Nat.reduceAdd, Nat.reduceLeDiff, Nat.reduceLT, Nat.reduceMul, Nat.reduceSub, ↓reduceIte, Int.reduceLT, Int.reduceLE, Int.reduceNeg, Int.reduceAdd, Int.reduceEq, Nat.reduceBneDiff, Nat.reduceBEq, Int.reduceToNat, Int.reduceMul, Int.reduceSub, Int.reduceBEq, Int.reduceBNe, fd16, hlen, d1, c1, Wl_eq (short_eq c.pages _), Wl_eq (short_eq c.last _), Wl_eq (short_eq c.spans _), Wl_eq (short_eq c.chunk _), p1, p2, p3, p4, Bool.not_true, Bool.not_false, ft, tf]
    exact ⟨by simp [plainS, hn, p4], f1, hd2⟩
  cases p5 : bad 65535 c.retry
  rotate_left
  · simp -implicitDefEqProofs only [go_sem, Wk_block, Wk_drawnC, reduceCtorEq, Nat.reduceEqDiff, Nat.reduceAdd, Nat.reduceLeDiff, Nat.reduceLT, Nat.reduceMul, Nat.reduceSub, ↓reduceIte, Int.reduceLT, Int.reduceLE, Int.reduceNeg, Int.reduceAdd, Int.reduceEq, Nat.reduceBneDiff, Nat.reduceBEq, Int.reduceToNat, Int.reduceMul, Int.reduceSub, Int.reduceBEq, Int.reduceBNe, fd16, hlen, d1, c1, Wl_eq (short_eq c.pages _), Wl_eq (short_eq c.last _), Wl_eq (short_eq c.spans _), Wl_eq (short_eq c.chunk _), Wl_eq (short_eq c.retry _), p1, p2, p3, p4, p5, Bool.not_true, Bool.not_false, ft, tf]
    exact ⟨by simp [plainS, hn, p5], f1, hd2⟩
  simp -implicitDefEqProofs only [go_sem, Wk_block, Wk_drawnC, reduceCtorEq, Nat.reduceEqDiff, Nat.reduceAdd, Nat.reduceLeDiff, Nat.reduceLT, Nat.reduceMul, Nat.reduceSub, ↓reduceIte, Int.reduceLT, Int.reduceLE, Int.reduceNeg, Int.reduceAdd, Int.reduceEq, Nat.reduceBneDiff, Nat.reduceBEq, Int.reduceToNat, Int.reduceMul, Int.reduceSub, Int.reduceBEq, Int.reduceBNe, fd16, hlen, d1, c1, Wl_eq (short_eq c.pages _), Wl_eq (short_eq c.last _), Wl_eq (short_eq c.spans _), Wl_eq (short_eq c.chunk _), Wl_eq (short_eq c.retry _), p1, p2, p3, p4, p5, Bool.not_true, Bool.not_false, ft, tf]
  generalize s.new _ = s0 at hd2 f1 ⊢
  have hno : ∀ x ∈ l, plainOp x = false → plainS c l = false := fun x hx h => by
    have : l.any (fun x => !plainOp x) = true := List.any_eq_true.2 ⟨x, hx, by rw [h]; rfl⟩
    simp [plainS, this]
  refine loop_ind (fun m ts s' => ∃ j : Nat, m = l.length - j ∧ j ≤ l.length ∧ ts.get 50 = some (.int .i64 (j : Int)) ∧ ts.get 49 = some (.int .i64 (l.length : Int)) ∧ ts.get 48 = some v ∧ (l.take j).any (fun x => !plainOp x) = false ∧ Fr s s' ∧ Dom s') ?_ (n := l.length)
    ⟨0, rfl, by omega, by simp only [Tr.get_set, Nat.reduceEqDiff, ↓reduceIte, Int.cast_ofNat_Int], by simp only [Tr.get_set, Nat.reduceEqDiff, ↓reduceIte, Int.cast_ofNat_Int], by simp only [Tr.get_set, Nat.reduceEqDiff, ↓reduceIte, Int.cast_ofNat_Int], rfl, f1, hd2⟩
  rintro m ts s1 ⟨j, rfl, hj, g50, g49, g48, hpre, f, dd⟩ IH
  by_cases hlt : j < l.length
  · have hA1 := hA.mono f
    obtain ⟨b, o, vs, lo, ro, z, hidx, hv, hbl, hle, he⟩ := hA1.at_ j hlt
    have hok := (hl l[j] (List.getElem_mem hlt)).mono (fr_keeps f hd)
    have hk1 := hk l[j] (List.getElem_mem hlt)
    have htk : (l.take (j + 1)).any (fun x => !plainOp x) = !plainOp l[j] := by
      rw [List.take_succ_eq_append_getElem hlt, List.any_append, hpre]
      simp
    have hno1 := hno l[j] (List.getElem_mem hlt)
    generalize l[j] = x at he hok htk hno1 hk1
    have wj := succ_in (j := j) (by omega)
    have ht : x.cells.take 25 = x.cells := List.take_of_length_le (by rw [hok.len]; omega)
    have k1 := hok.mono (keeps_new dd (.cells x.cells false false 0))
    have m1 := dom_new dd (.cells x.cells false false 0)
    have n1 : Fr s (s1.new (.cells x.cells false false 0)) := f.trans (by (repeat (first | exact FrX.refl _ _ | exact Fr.refl _ | assumption | exact Fr.x (by assumption) _ | refine FrX.put ?_ (.inl rfl) _ | refine FrX.put ?_ (.inr (by first | omega | (simp; done) | (simp; omega))) _ | refine FrX.new ?_ _ | refine Fr.put ?_ (by first | omega | (simp; done) | (simp; omega)) _ | refine Fr.new ?_ _ | refine FrX.then ?_ (by assumption) | refine Fr.trans ?_ (by assumption))))
    have q1 : (s1.new (.cells x.cells false false 0)).get s1.next = some (.cells x.cells false false 0) := by rw [St.get_new, if_pos rfl]
    simp -implicitDefEqProofs only [go_sem, Wk_block, Wk_drawnC, reduceCtorEq, Nat.reduceEqDiff, Nat.reduceAdd, Nat.reduceLeDiff, Nat.reduceLT, Nat.reduceMul, Nat.reduceSub, ↓reduceIte, Int.reduceLT, Int.reduceLE, Int.reduceNeg, Int.reduceAdd, Int.reduceEq, Nat.reduceBneDiff, Nat.reduceBEq, Int.reduceToNat, Int.reduceMul, Int.reduceSub, Int.reduceBEq, Int.reduceBNe, g50, g49, g48, hlt, hidx, hv, hle, he, hok.len, hok.cell, ht, ft, tf]
    refine Wl_of (refRight_run k1) ?_
    rintro _ s2 ⟨rfl, hs2⟩
    have q2 : s2.get s1.next = some (.cells x.cells false false 0) := by rw [hs2]; exact keeps_new m1 _ _ _ q1
    have m2 : Dom s2 := by rw [hs2]; exact dom_new m1 _
    have n2 : Fr s s2 := by rw [hs2]; exact n1.trans (by (repeat (first | exact FrX.refl _ _ | exact Fr.refl _ | assumption | exact Fr.x (by assumption) _ | refine FrX.put ?_ (.inl rfl) _ | refine FrX.put ?_ (.inr (by first | omega | (simp; done) | (simp; omega))) _ | refine FrX.new ?_ _ | refine Fr.put ?_ (by first | omega | (simp; done) | (simp; omega)) _ | refine Fr.new ?_ _ | refine FrX.then ?_ (by assumption) | refine Fr.trans ?_ (by assumption))))
    have k2 : SopOk s2 x := by rw [hs2]; exact k1.mono (keeps_new m1 _)
    clear hs2
    have hkl := hok.keys.len
    have hwl := hok.keep.len
    simp only [List.length_map] at hkl
    have e64 : decide ((x.keys.length : Int) > 64) = decide (64 < x.keys.length) := by rw [Bool.eq_iff_iff]; simp; omega
    have e255 : decide ((x.keep.length : Int) > 255) = decide (255 < x.keep.length) := by rw [Bool.eq_iff_iff]; simp; omega
    cases c3 : rightOp x
    · simp -implicitDefEqProofs only [go_sem, Wk_block, Wk_drawnC, reduceCtorEq, Nat.reduceEqDiff, Nat.reduceAdd, Nat.reduceLeDiff, Nat.reduceLT, Nat.reduceMul, Nat.reduceSub, ↓reduceIte, Int.reduceLT, Int.reduceLE, Int.reduceNeg, Int.reduceAdd, Int.reduceEq, Nat.reduceBneDiff, Nat.reduceBEq, Int.reduceToNat, Int.reduceMul, Int.reduceSub, Int.reduceBEq, Int.reduceBNe, c3, q2, hok.len, hok.c2, hok.c3, hok.c24, hok.c22, hkl, hwl, Wl_eq (tiny_eq x.key _), e64, e255, Bool.not_true, Bool.not_false, ft, tf]
      exact ⟨by rw [hno1 (by simp [plainOp, c3])], n2, m2⟩
    cases c4 : bad 255 x.key
    rotate_left
    · simp -implicitDefEqProofs only [go_sem, Wk_block, Wk_drawnC, reduceCtorEq, Nat.reduceEqDiff, Nat.reduceAdd, Nat.reduceLeDiff, Nat.reduceLT, Nat.reduceMul, Nat.reduceSub, ↓reduceIte, Int.reduceLT, Int.reduceLE, Int.reduceNeg, Int.reduceAdd, Int.reduceEq, Nat.reduceBneDiff, Nat.reduceBEq, Int.reduceToNat, Int.reduceMul, Int.reduceSub, Int.reduceBEq, Int.reduceBNe, c3, c4, q2, hok.len, hok.c2, hok.c3, hok.c24, hok.c22, hkl, hwl, Wl_eq (tiny_eq x.key _), e64, e255, Bool.not_true, Bool.not_false, ft, tf]
      exact ⟨by rw [hno1 (by simp [plainOp, c4])], n2, m2⟩
    cases c5 : decide (64 < x.keys.length)
    rotate_left
    · have hb : decide (x.keys.length ≤ 64) = false := by simp at c5 ⊢; omega
      simp -implicitDefEqProofs only [go_sem, Wk_block, Wk_drawnC, reduceCtorEq, Nat.reduceEqDiff, Nat.reduceAdd, Nat.reduceLeDiff, Nat.reduceLT, Nat.reduceMul, Nat.reduceSub, ↓reduceIte, Int.reduceLT, Int.reduceLE, Int.reduceNeg, Int.reduceAdd, Int.reduceEq, Nat.reduceBneDiff, Nat.reduceBEq, Int.reduceToNat, Int.reduceMul, Int.reduceSub, Int.reduceBEq, Int.reduceBNe, c3, c4, c5, q2, hok.len, hok.c2, hok.c3, hok.c24, hok.c22, hkl, hwl, Wl_eq (tiny_eq x.key _), e64, e255, Bool.not_true, Bool.not_false, ft, tf]
      exact ⟨by rw [hno1 (by simp only [plainOp, listsOp, hb, Bool.false_and, Bool.and_false])], n2, m2⟩
    cases c6 : decide (255 < x.keep.length)
    rotate_left
    · have hb : decide (x.keep.length ≤ 255) = false := by simp at c6 ⊢; omega
      simp -implicitDefEqProofs only [go_sem, Wk_block, Wk_drawnC, reduceCtorEq, Nat.reduceEqDiff, Nat.reduceAdd, Nat.reduceLeDiff, Nat.reduceLT, Nat.reduceMul, Nat.reduceSub, ↓reduceIte, Int.reduceLT, Int.reduceLE, Int.reduceNeg, Int.reduceAdd, Int.reduceEq, Nat.reduceBneDiff, Nat.reduceBEq, Int.reduceToNat, Int.reduceMul, Int.reduceSub, Int.reduceBEq, Int.reduceBNe, c3, c4, c5, c6, q2, hok.len, hok.c2, hok.c3, hok.c24, hok.c22, hkl, hwl, Wl_eq (tiny_eq x.key _), e64, e255, Bool.not_true, Bool.not_false, ft, tf]
      exact ⟨by rw [hno1 (by simp only [plainOp, listsOp, hb, Bool.false_and, Bool.and_false])], n2, m2⟩
    cases c7 : decide (x.at_ < -1)
    rotate_left
    · have hb : decide (x.at_ ≥ -1) = false := by simp at c7 ⊢; omega
      simp -implicitDefEqProofs only [go_sem, Wk_block, Wk_drawnC, reduceCtorEq, Nat.reduceEqDiff, Nat.reduceAdd, Nat.reduceLeDiff, Nat.reduceLT, Nat.reduceMul, Nat.reduceSub, ↓reduceIte, Int.reduceLT, Int.reduceLE, Int.reduceNeg, Int.reduceAdd, Int.reduceEq, Nat.reduceBneDiff, Nat.reduceBEq, Int.reduceToNat, Int.reduceMul, Int.reduceSub, Int.reduceBEq, Int.reduceBNe, c3, c4, c5, c6, c7, q2, hok.len, hok.c2, hok.c3, hok.c24, hok.c22, hkl, hwl, Wl_eq (tiny_eq x.key _), e64, e255, Bool.not_true, Bool.not_false, ft, tf]
      exact ⟨by rw [hno1 (by simp only [plainOp, hb, Bool.false_and, Bool.and_false])], n2, m2⟩
    cases c8 : decide (x.at_ > 65534)
    rotate_left
    · have hb : decide (x.at_ < 65535) = false := by simp at c8 ⊢; omega
      simp -implicitDefEqProofs only [go_sem, Wk_block, Wk_drawnC, reduceCtorEq, Nat.reduceEqDiff, Nat.reduceAdd, Nat.reduceLeDiff, Nat.reduceLT, Nat.reduceMul, Nat.reduceSub, ↓reduceIte, Int.reduceLT, Int.reduceLE, Int.reduceNeg, Int.reduceAdd, Int.reduceEq, Nat.reduceBneDiff, Nat.reduceBEq, Int.reduceToNat, Int.reduceMul, Int.reduceSub, Int.reduceBEq, Int.reduceBNe, c3, c4, c5, c6, c7, c8, q2, hok.len, hok.c2, hok.c3, hok.c24, hok.c22, hkl, hwl, Wl_eq (tiny_eq x.key _), e64, e255, Bool.not_true, Bool.not_false, ft, tf]
      exact ⟨by rw [hno1 (by simp only [plainOp, hb, Bool.and_false])], n2, m2⟩
    simp -implicitDefEqProofs only [go_sem, Wk_block, Wk_drawnC, reduceCtorEq, Nat.reduceEqDiff, Nat.reduceAdd, Nat.reduceLeDiff, Nat.reduceLT, Nat.reduceMul, Nat.reduceSub, ↓reduceIte, Int.reduceLT, Int.reduceLE, Int.reduceNeg, Int.reduceAdd, Int.reduceEq, Nat.reduceBneDiff, Nat.reduceBEq, Int.reduceToNat, Int.reduceMul, Int.reduceSub, Int.reduceBEq, Int.reduceBNe, c3, c4, c5, c6, c7, c8, q2, hok.len, hok.c2, hok.c3, hok.c24, hok.c22, hkl, hwl, Wl_eq (tiny_eq x.key _), e64, e255, Bool.not_true, Bool.not_false, ft, tf]
    have kx := k2.keys
    refine loop_ind (fun m ts' s' => ∃ i : Nat, m = x.keys.length - i ∧ i ≤ x.keys.length ∧ ts'.get 88 = some (.int .i64 (i : Int)) ∧ ts'.get 87 = some (.int .i64 (x.keys.length : Int)) ∧ ts'.get 86 = some x.kv ∧ ts'.get 50 = some (.int .i64 (j : Int)) ∧ ts'.get 49 = some (.int .i64 (l.length : Int)) ∧ ts'.get 48 = some v ∧ (x.keys.take i).any (bad 255) = false ∧ s' = s2) ?_ (n := x.keys.length)
      ⟨0, rfl, by omega, by simp only [Tr.get_set, Nat.reduceEqDiff, ↓reduceIte, Int.cast_ofNat_Int], by simp only [Tr.get_set, Nat.reduceEqDiff, ↓reduceIte, Int.cast_ofNat_Int], by simp only [Tr.get_set, Nat.reduceEqDiff, ↓reduceIte, Int.cast_ofNat_Int], by simp only [Tr.get_set, Nat.reduceEqDiff, ↓reduceIte, Int.cast_ofNat_Int, g50], by simp only [Tr.get_set, Nat.reduceEqDiff, ↓reduceIte, Int.cast_ofNat_Int, g49], by simp only [Tr.get_set, Nat.reduceEqDiff, ↓reduceIte, Int.cast_ofNat_Int, g48], rfl, rfl⟩
    rintro m ts' s' ⟨i, rfl, hi, h88, h87, h86, h50, h49, h48, hpre2, rfl⟩ IH2
    by_cases hlt2 : i < x.keys.length
    · obtain ⟨b2, o2, vs2, lo2, ro2, z2, hidx, hg, hvj⟩ := kx.at_ i (by rw [List.length_map]; exact hlt2)
      rw [List.getElem_map] at hvj
      have htk2 : (x.keys.take (i + 1)).any (bad 255) = bad 255 x.keys[i] := by
        rw [List.take_succ_eq_append_getElem hlt2, List.any_append, hpre2]
        simp
      have hmem2 : x.keys[i] ∈ x.keys := List.getElem_mem hlt2
      generalize x.keys[i] = a at hvj htk2 hmem2
      have wi := succ_in (j := i) (by omega)
      cases c9 : bad 255 a
      · simp -implicitDefEqProofs only [go_sem, Wk_block, Wk_drawnC, reduceCtorEq, Nat.reduceEqDiff, Nat.reduceAdd, Nat.reduceLeDiff, Nat.reduceLT, Nat.reduceMul, Nat.reduceSub, ↓reduceIte, Int.reduceLT, Int.reduceLE, Int.reduceNeg, Int.reduceAdd, Int.reduceEq, Nat.reduceBneDiff, Nat.reduceBEq, Int.reduceToNat, Int.reduceMul, Int.reduceSub, Int.reduceBEq, Int.reduceBNe, h88, h87, h86, hlt2, hidx, hg, hvj, Wl_eq (tiny_eq a _), c9, wi, Bool.not_true, Bool.not_false, ft, tf]
        refine IH2 (x.keys.length - (i + 1)) _ _ (by omega) ⟨i + 1, rfl, by omega, ?_, ?_, ?_, ?_, ?_, ?_, by rw [htk2, c9], rfl⟩
        · simp only [Tr.get_set, Nat.reduceEqDiff, ↓reduceIte, Int.cast_ofNat_Int]
        · simp only [go_sem, Wk_block, Wk_drawnC, reduceCtorEq, Nat.reduceEqDiff, Nat.reduceAdd, Nat.reduceLeDiff, Nat.reduceLT, Nat.reduceMul, Nat.reduceSub, ↓reduceIte, Int.reduceLT, Int.reduceLE, Int.reduceNeg, Int.reduceAdd, Int.reduceEq, Nat.reduceBneDiff, Nat.reduceBEq, Int.reduceToNat, Int.reduceMul, Int.reduceSub, Int.reduceBEq, Int.reduceBNe, h87]
        · simp only [go_sem, Wk_block, Wk_drawnC, reduceCtorEq, Nat.reduceEqDiff, Nat.reduceAdd, Nat.reduceLeDiff, Nat.reduceLT, Nat.reduceMul, Nat.reduceSub, ↓reduceIte, Int.reduceLT, Int.reduceLE, Int.reduceNeg, Int.reduceAdd, Int.reduceEq, Nat.reduceBneDiff, Nat.reduceBEq, Int.reduceToNat, Int.reduceMul, Int.reduceSub, Int.reduceBEq, Int.reduceBNe, h86]
        · simp only [go_sem, Wk_block, Wk_drawnC, reduceCtorEq, Nat.reduceEqDiff, Nat.reduceAdd, Nat.reduceLeDiff, Nat.reduceLT, Nat.reduceMul, Nat.reduceSub, ↓reduceIte, Int.reduceLT, Int.reduceLE, Int.reduceNeg, Int.reduceAdd, Int.reduceEq, Nat.reduceBneDiff, Nat.reduceBEq, Int.reduceToNat, Int.reduceMul, Int.reduceSub, Int.reduceBEq, Int.reduceBNe, h50]
        · simp only [go_sem, Wk_block, Wk_drawnC, reduceCtorEq, Nat.reduceEqDiff, Nat.reduceAdd, Nat.reduceLeDiff, Nat.reduceLT, Nat.reduceMul, Nat.reduceSub, ↓reduceIte, Int.reduceLT, Int.reduceLE, Int.reduceNeg, Int.reduceAdd, Int.reduceEq, Nat.reduceBneDiff, Nat.reduceBEq, Int.reduceToNat, Int.reduceMul, Int.reduceSub, Int.reduceBEq, Int.reduceBNe, h49]
        · simp only [go_sem, Wk_block, Wk_drawnC, reduceCtorEq, Nat.reduceEqDiff, Nat.reduceAdd, Nat.reduceLeDiff, Nat.reduceLT, Nat.reduceMul, Nat.reduceSub, ↓reduceIte, Int.reduceLT, Int.reduceLE, Int.reduceNeg, Int.reduceAdd, Int.reduceEq, Nat.reduceBneDiff, Nat.reduceBEq, Int.reduceToNat, Int.reduceMul, Int.reduceSub, Int.reduceBEq, Int.reduceBNe, h48]
      · have hb : x.keys.any (bad 255) = true := List.any_eq_true.2 ⟨a, hmem2, c9⟩
        simp -implicitDefEqProofs only [go_sem, Wk_block, Wk_drawnC, reduceCtorEq, Nat.reduceEqDiff, Nat.reduceAdd, Nat.reduceLeDiff, Nat.reduceLT, Nat.reduceMul, Nat.reduceSub, ↓reduceIte, Int.reduceLT, Int.reduceLE, Int.reduceNeg, Int.reduceAdd, Int.reduceEq, Nat.reduceBneDiff, Nat.reduceBEq, Int.reduceToNat, Int.reduceMul, Int.reduceSub, Int.reduceBEq, Int.reduceBNe, h88, h87, h86, hlt2, hidx, hg, hvj, Wl_eq (tiny_eq a _), c9, wi, Bool.not_true, Bool.not_false, ft, tf]
        exact ⟨by rw [hno1 (by simp only [plainOp, listsOp, hb, Bool.not_true, Bool.and_false, Bool.false_and])], n2, m2⟩
    · have : i = x.keys.length := by omega
      subst this
      rw [List.take_length] at hpre2
      have hlf : decide ((x.keys.length : Int) < (x.keys.length : Int)) = false := decide_eq_false (by omega)
      have hpl : plainOp x = true := by
        simp at c5 c6 c7 c8
        simp [plainOp, listsOp, c3, c4, hpre2]
        omega
      simp -implicitDefEqProofs only [go_sem, Wk_block, Wk_drawnC, reduceCtorEq, Nat.reduceEqDiff, Nat.reduceAdd, Nat.reduceLeDiff, Nat.reduceLT, Nat.reduceMul, Nat.reduceSub, ↓reduceIte, Int.reduceLT, Int.reduceLE, Int.reduceNeg, Int.reduceAdd, Int.reduceEq, Nat.reduceBneDiff, Nat.reduceBEq, Int.reduceToNat, Int.reduceMul, Int.reduceSub, Int.reduceBEq, Int.reduceBNe, h88, h87, hlf, hlt2, h50, wj]
      refine IH (l.length - (j + 1)) _ _ (by omega) ⟨j + 1, rfl, by omega, ?_, ?_, ?_, by rw [htk, hpl]; rfl, n2, m2⟩
      · simp only [Tr.get_set, Nat.reduceEqDiff, ↓reduceIte, Int.cast_ofNat_Int]
      · simp only [go_sem, Wk_block, Wk_drawnC, reduceCtorEq, Nat.reduceEqDiff, Nat.reduceAdd, Nat.reduceLeDiff, Nat.reduceLT, Nat.reduceMul, Nat.reduceSub, ↓reduceIte, Int.reduceLT, Int.reduceLE, Int.reduceNeg, Int.reduceAdd, Int.reduceEq, Nat.reduceBneDiff, Nat.reduceBEq, Int.reduceToNat, Int.reduceMul, Int.reduceSub, Int.reduceBEq, Int.reduceBNe, h49]
      · simp only [go_sem, Wk_block, Wk_drawnC, reduceCtorEq, Nat.reduceEqDiff, Nat.reduceAdd, Nat.reduceLeDiff, Nat.reduceLT, Nat.reduceMul, Nat.reduceSub, ↓reduceIte, Int.reduceLT, Int.reduceLE, Int.reduceNeg, Int.reduceAdd, Int.reduceEq, Nat.reduceBneDiff, Nat.reduceBEq, Int.reduceToNat, Int.reduceMul, Int.reduceSub, Int.reduceBEq, Int.reduceBNe, h48]
  · have : j = l.length := by omega
    subst this
    rw [List.take_length] at hpre
    have hlf : decide ((l.length : Int) < (l.length : Int)) = false := decide_eq_false (by omega)
    simp -implicitDefEqProofs only [go_sem, Wk_block, Wk_drawnC, reduceCtorEq, Nat.reduceEqDiff, Nat.reduceAdd, Nat.reduceLeDiff, Nat.reduceLT, Nat.reduceMul, Nat.reduceSub, ↓reduceIte, Int.reduceLT, Int.reduceLE, Int.reduceNeg, Int.reduceAdd, Int.reduceEq, Nat.reduceBneDiff, Nat.reduceBEq, Int.reduceToNat, Int.reduceMul, Int.reduceSub, Int.reduceBEq, Int.reduceBNe, g50, g49, hlf, hlt, g48]
    exact ⟨by simp [plainS, c1, hn, p1, p2, p3, p4, p5, hpre], f, dd⟩
end Go.Proofs.YteiiblpnegjjlaaGreat.Lw
namespace Go.Proofs.YteiiblpnegjjlaaGreat.Lw
open D
set_option linter.unusedSimpArgs false
set_option linter.unusedVariables false
set_option maxRecDepth 10000

/-- What an op says. -/
structure Con where
  kind : Int
  node : Int
  key : Int
  at_ : Int
  keys : List Int
  blk : List Nat
  e : Nat
  q : Nat
  mask : Nat
  keep : List Nat
def rightC (x : Con) : Bool := decide (x.kind ≥ 0) && decide (x.kind ≤ 18) && decide (x.node ≥ 0) && decide (x.node < 2)
def listsC (x : Con) : Bool := decide (x.keys.length ≤ 64) && !x.keys.any (bad 255) && decide (x.keep.length ≤ 255)
def plainC (x : Con) : Bool := rightC x && listsC x && !bad 255 x.key && decide (x.at_ ≥ -1) && decide (x.at_ < 65535)
def plainA (c : Cfg) (l : List Con) : Bool := !(decide (400 < l.length) || l.any (fun x => !plainC x)) && !c.nums.any (bad 65535)

/-- A number's bytes. -/
def leb : Nat → Nat → List Nat
  | 0, _ => []
  | k + 1, n => n % 256 :: leb k (n / 256)
def lebs (w : Nat) (ns : List Nat) : List Nat := ns.flatMap (leb w)
theorem leb_len : ∀ (k n : Nat), (leb k n).length = k
  | 0, _ => rfl
  | k + 1, n => by rw [leb, List.length_cons, leb_len k]
theorem leb_lt : ∀ (k n : Nat), ∀ c ∈ leb k n, c < 256
  | 0, _, c, h => by simp [leb] at h
  | k + 1, n, c, h => by
    rcases List.mem_cons.1 h with rfl | h
    · omega
    · exact leb_lt k _ c h
theorem leN_leb : ∀ (k n : Nat), n < 256 ^ k → leN (leb k n) = n
  | 0, n, h => by simp [leb, leN] at *; omega
  | k + 1, n, h => by
    rw [leb, leN, leN_leb k (n / 256) (by rw [Nat.pow_succ] at h; omega)]
    omega
theorem lebs_cons (w n : Nat) (ns : List Nat) : lebs w (n :: ns) = leb w n ++ lebs w ns := by rfl
theorem lebs_append (w : Nat) (a b : List Nat) : lebs w (a ++ b) = lebs w a ++ lebs w b := by simp [lebs]
theorem lebs_len (w : Nat) (ns : List Nat) : (lebs w ns).length = ns.length * w := by
  induction ns with
  | nil => simp [lebs]
  | cons a l ih => rw [lebs_cons, List.length_append, ih, leb_len, List.length_cons, Nat.succ_mul]; omega
theorem lebs_lt (w : Nat) (ns : List Nat) : ∀ c ∈ lebs w ns, c < 256 := by
  intro c h
  obtain ⟨n, _, h⟩ := List.mem_flatMap.1 h
  exact leb_lt w n c h

/-- A script's bytes. -/
def encHead (c : Cfg) (n : Nat) : List Nat := lebs 2 [c.pages.toNat] ++ lebs 4 [c.every, c.span] ++ lebs 2 [c.last.toNat, c.spans.toNat, c.chunk.toNat, c.retry.toNat, n]
def encC (x : Con) : List Nat := lebs 1 [x.kind.toNat, x.node.toNat, x.key.toNat, x.keys.length] ++ lebs 1 (x.keys.map Int.toNat) ++ x.blk ++ lebs 4 [x.e, x.q] ++ lebs 2 [(x.at_ + 1).toNat] ++ lebs 1 [x.mask, x.keep.length] ++ x.keep
def encA (c : Cfg) (l : List Con) : List Nat := encHead c l.length ++ l.flatMap encC

/-- A reader of bytes. -/
abbrev Rr := List Nat × Bool
def rTake (r : Rr) (n : Nat) : Rr × List Nat := if r.2 || decide (r.1.length < n) then ((r.1, true), []) else ((r.1.drop n, false), r.1.take n)
def rNum (r : Rr) (w : Nat) : Rr × Nat := ((rTake r w).1, leN (rTake r w).2)
def rNums : Nat → Rr → Rr × List Nat
  | 0, r => (r, [])
  | k + 1, r => ((rNum (rNums k r).1 1).1, (rNums k r).2 ++ [(rNum (rNums k r).1 1).2])
def pad16 (b : List Nat) : List Nat := if b = [] then List.replicate 16 0 else b
def rOp (r : Rr) : Rr × Con :=
  let a := rNum r 1
  let b := rNum a.1 1
  let c := rNum b.1 1
  let m := rNum c.1 1
  let ks := rNums m.2 m.1
  let bl := rTake ks.1 16
  let e := rNum bl.1 4
  let q := rNum e.1 4
  let t := rNum q.1 2
  let mk := rNum t.1 1
  let kn := rNum mk.1 1
  let kp := rTake kn.1 kn.2
  (kp.1, ⟨a.2, b.2, c.2, (t.2 : Int) - 1, ks.2.map (fun n : Nat => (n : Int)), pad16 bl.2, e.2, q.2, mk.2, kp.2⟩)
def rOps : Nat → Rr → List Con
  | 0, _ => []
  | n + 1, r => (rOp r).2 :: (if (rOp r).1.2 then [] else rOps n (rOp r).1)
def rHead (r : Rr) : Rr × Cfg :=
  let a := rNum r 2
  let b := rNum a.1 4
  let c := rNum b.1 4
  let d := rNum c.1 2
  let e := rNum d.1 2
  let f := rNum e.1 2
  let g := rNum f.1 2
  (g.1, ⟨a.2, b.2, c.2, d.2, e.2, f.2, g.2⟩)
def rMany (b : List Nat) : Rr × Nat := rNum (rHead (b, false)).1 2
def parse (b : List Nat) : Cfg × List Con := ((rHead (b, false)).2, rOps (min (rMany b).2 400) (rMany b).1)
def okB (b : List Nat) : Bool := plainA (parse b).1 (parse b).2 && (encA (parse b).1 (parse b).2 == b)

/-! ### There and back -/
theorem rTake_app (a R : List Nat) : rTake (a ++ R, false) a.length = ((R, false), a) := by
  unfold rTake
  simp
theorem rNum_leb {w n : Nat} (h : n < 256 ^ w) (R : List Nat) : rNum (leb w n ++ R, false) w = ((R, false), n) := by
  have := rTake_app (leb w n) R
  rw [leb_len] at this
  unfold rNum
  rw [this, leN_leb w n h]
theorem rNums_lebs (ns R : List Nat) (h : ∀ n ∈ ns, n < 256) : ∀ k, k ≤ ns.length → rNums k (lebs 1 ns ++ R, false) = ((lebs 1 (ns.drop k) ++ R, false), ns.take k)
  | 0, _ => by simp [rNums]
  | k + 1, hk => by
    have ih := rNums_lebs ns R h k (by omega)
    unfold rNums
    rw [ih]
    have hd : ns.drop k = ns[k] :: ns.drop (k + 1) := List.drop_eq_getElem_cons (by omega)
    have hn := rNum_leb (w := 1) (n := ns[k]) (by simpa using h _ (List.getElem_mem (by omega))) (lebs 1 (ns.drop (k + 1)) ++ R)
    rw [hd, lebs_cons, List.append_assoc]
    dsimp only
    rw [hn]
    rw [List.take_succ_eq_append_getElem (by omega)]
/-- What an op in bytes holds to. -/
structure ConOk (x : Con) : Prop where
  blen : x.blk.length = 16
  elt : x.e < 4294967296
  qlt : x.q < 4294967296
  mlt : x.mask < 256
theorem bad_of {most a : Int} (h : bad most a = false) : 0 ≤ a ∧ a ≤ most := by
  unfold bad at h
  simp at h
  omega
theorem rOp_enc {x : Con} (hx : ConOk x) (hp : plainC x = true) (R : List Nat) : rOp (encC x ++ R, false) = ((R, false), x) := by
  unfold plainC rightC listsC at hp
  simp only [Bool.and_eq_true, Bool.not_eq_true', decide_eq_true_eq] at hp
  obtain ⟨⟨⟨⟨⟨⟨⟨h1, h2⟩, h3⟩, h4⟩, ⟨⟨h5, h6⟩, h7⟩⟩, h8⟩, h9⟩, h10⟩ := hp
  have h8' := bad_of h8
  have hks : ∀ k ∈ x.keys, 0 ≤ k ∧ k ≤ 255 := fun k hk => bad_of (by
    have := List.any_eq_false.1 h6 k hk
    simpa using this)
  have hkl : (x.keys.map Int.toNat).length = x.keys.length := by simp
  have hkm : (x.keys.map Int.toNat).map (fun n : Nat => (n : Int)) = x.keys := by
    rw [List.map_map]
    conv => rhs; rw [← List.map_id x.keys]
    refine List.map_congr_left fun k hk => ?_
    have := hks k hk
    show ((k.toNat : Nat) : Int) = k
    omega
  have e1 : encC x ++ R = leb 1 x.kind.toNat ++ (leb 1 x.node.toNat ++ (leb 1 x.key.toNat ++ (leb 1 x.keys.length ++ (lebs 1 (x.keys.map Int.toNat) ++ (x.blk ++ (leb 4 x.e ++ (leb 4 x.q ++ (leb 2 (x.at_ + 1).toNat ++ (leb 1 x.mask ++ (leb 1 x.keep.length ++ (x.keep ++ R))))))))))) := by
    unfold encC
    simp only [lebs_cons, List.append_assoc]
    simp [lebs]
  have hb := rTake_app x.blk (leb 4 x.e ++ (leb 4 x.q ++ (leb 2 (x.at_ + 1).toNat ++ (leb 1 x.mask ++ (leb 1 x.keep.length ++ (x.keep ++ R))))))
  rw [hx.blen] at hb
  have hk := rNums_lebs (x.keys.map Int.toNat) (x.blk ++ (leb 4 x.e ++ (leb 4 x.q ++ (leb 2 (x.at_ + 1).toNat ++ (leb 1 x.mask ++ (leb 1 x.keep.length ++ (x.keep ++ R))))))) (by
    intro n hn
    obtain ⟨k, hk, rfl⟩ := List.mem_map.1 hn
    have := hks k hk
    omega) x.keys.length (by omega)
  rw [List.drop_of_length_le (by omega), List.take_of_length_le (by omega)] at hk
  unfold rOp
  rw [e1]
  dsimp only
  simp only [rNum_leb (w := 1) (n := x.kind.toNat) (by omega), rNum_leb (w := 1) (n := x.node.toNat) (by omega), rNum_leb (w := 1) (n := x.key.toNat) (by omega), rNum_leb (w := 1) (n := x.keys.length) (by omega), hk]
  simp only [lebs, List.flatMap_nil, List.nil_append, hb, rNum_leb (w := 4) (n := x.e) hx.elt, rNum_leb (w := 4) (n := x.q) hx.qlt, rNum_leb (w := 2) (n := (x.at_ + 1).toNat) (by omega), rNum_leb (w := 1) (n := x.mask) (by have := hx.mlt; omega),
    rNum_leb (w := 1) (n := x.keep.length) (by omega), rTake_app x.keep R, hkm]
  have hpad : pad16 x.blk = x.blk := by
    unfold pad16
    rw [if_neg]
    intro h
    have := hx.blen
    rw [h] at this
    cases this
  rw [hpad]
  congr 1
  obtain ⟨kind, node, key, at_, keys, blk, e, q, mask, keep⟩ := x
  simp only at h1 h3 h8' h9
  simp only [Con.mk.injEq, and_true]
  omega
theorem rOps_enc : ∀ (l : List Con) (R : List Nat), (∀ x ∈ l, ConOk x ∧ plainC x = true) → rOps l.length (l.flatMap encC ++ R, false) = l
  | [], _, _ => rfl
  | x :: l, R, h => by
    obtain ⟨h1, h2⟩ := h x (List.mem_cons_self ..)
    rw [List.flatMap_cons, List.append_assoc, List.length_cons, rOps, rOp_enc h1 h2]
    dsimp only
    rw [rOps_enc l R fun y hy => h y (List.mem_cons_of_mem _ hy)]
    rfl
structure CfgOk (c : Cfg) : Prop where
  every : c.every < 4294967296
  span : c.span < 4294967296
theorem parse_enc {c : Cfg} {l : List Con} (hc : CfgOk c) (hl : ∀ x ∈ l, ConOk x) (hp : plainA c l = true) : parse (encA c l) = (c, l) := by
  unfold plainA at hp
  rw [Bool.and_eq_true, Bool.not_eq_true', Bool.not_eq_true', Bool.or_eq_false_iff] at hp
  obtain ⟨⟨h1, h2⟩, h3⟩ := hp
  have h1 : l.length ≤ 400 := by simpa using h1
  have hl2 : ∀ x ∈ l, ConOk x ∧ plainC x = true := fun x hx => ⟨hl x hx, by
    have := List.any_eq_false.1 h2 x hx
    simpa using this⟩
  have hn : ∀ n ∈ c.nums, 0 ≤ n ∧ n ≤ 65535 := fun n hn => bad_of (by
    have := List.any_eq_false.1 h3 n hn
    simpa using this)
  have n1 := hn c.pages (by simp [Cfg.nums])
  have n2 := hn c.last (by simp [Cfg.nums])
  have n3 := hn c.spans (by simp [Cfg.nums])
  have n4 := hn c.chunk (by simp [Cfg.nums])
  have n5 := hn c.retry (by simp [Cfg.nums])
  have e1 : encA c l = leb 2 c.pages.toNat ++ (leb 4 c.every ++ (leb 4 c.span ++ (leb 2 c.last.toNat ++ (leb 2 c.spans.toNat ++ (leb 2 c.chunk.toNat ++ (leb 2 c.retry.toNat ++ (leb 2 l.length ++ (l.flatMap encC ++ [])))))))) := by
    unfold encA encHead
    simp only [lebs_cons, List.append_assoc]
    simp [lebs]
  have hh : rHead (encA c l, false) = ((leb 2 l.length ++ (l.flatMap encC ++ []), false), c) := by
    unfold rHead
    rw [e1]
    dsimp only
    simp only [rNum_leb (w := 2) (n := c.pages.toNat) (by omega), rNum_leb (w := 4) (n := c.every) hc.every, rNum_leb (w := 4) (n := c.span) hc.span, rNum_leb (w := 2) (n := c.last.toNat) (by omega), rNum_leb (w := 2) (n := c.spans.toNat) (by omega),
      rNum_leb (w := 2) (n := c.chunk.toNat) (by omega), rNum_leb (w := 2) (n := c.retry.toNat) (by omega)]
    congr 1
    obtain ⟨pages, every, span, last, spans, chunk, retry⟩ := c
    simp only at n1 n2 n3 n4 n5
    simp only [Cfg.mk.injEq, true_and]
    omega
  have hm : rMany (encA c l) = ((l.flatMap encC ++ [], false), l.length) := by
    unfold rMany
    rw [hh]
    dsimp only
    rw [rNum_leb (w := 2) (n := l.length) (by omega)]
  unfold parse
  rw [hh, hm]
  dsimp only
  rw [Nat.min_eq_left h1, rOps_enc l [] hl2]

/-! ### What was read holds to it -/
theorem rNum_lt {r : Rr} {w : Nat} (h : ∀ c ∈ r.1, c < 256) : (rNum r w).2 < 256 ^ w ∧ ∀ c ∈ (rNum r w).1.1, c < 256 := by
  have key : ∀ L : List Nat, (∀ c ∈ L, c < 256) → leN L < 256 ^ L.length := by
    intro L
    induction L with
    | nil => intro _; simp [leN]
    | cons c r ih =>
      intro h
      have h1 := ih fun x hx => h x (List.mem_cons_of_mem _ hx)
      have h2 := h c (List.mem_cons_self ..)
      rw [List.length_cons, Nat.pow_succ, leN]
      omega
  unfold rNum rTake
  split
  · exact ⟨by simp [leN]; exact Nat.pow_pos (by omega), h⟩
  · rename_i hb
    simp only [Bool.or_eq_true, decide_eq_true_eq, not_or] at hb
    have := key (r.1.take w) fun c hc => h c (List.mem_of_mem_take hc)
    rw [List.length_take, Nat.min_eq_left (by omega)] at this
    exact ⟨this, fun c hc => h c (List.mem_of_mem_drop hc)⟩
theorem rTake_lt {r : Rr} {w : Nat} (h : ∀ c ∈ r.1, c < 256) : (∀ c ∈ (rTake r w).2, c < 256) ∧ (∀ c ∈ (rTake r w).1.1, c < 256) ∧ ((rTake r w).2 = [] ∨ (rTake r w).2.length = w) := by
  unfold rTake
  split
  · exact ⟨by simp, h, .inl rfl⟩
  · rename_i hb
    simp only [Bool.or_eq_true, decide_eq_true_eq, not_or] at hb
    exact ⟨fun c hc => h c (List.mem_of_mem_take hc), fun c hc => h c (List.mem_of_mem_drop hc), .inr (by simp; omega)⟩
theorem rNums_lt {r : Rr} (h : ∀ c ∈ r.1, c < 256) : ∀ k, (∀ n ∈ (rNums k r).2, n < 256) ∧ (∀ c ∈ (rNums k r).1.1, c < 256) ∧ (rNums k r).2.length = k
  | 0 => ⟨by simp [rNums], h, rfl⟩
  | k + 1 => by
    obtain ⟨h1, h2, h3⟩ := rNums_lt h k
    obtain ⟨h4, h5⟩ := rNum_lt (w := 1) h2
    refine ⟨fun n hn => ?_, h5, ?_⟩
    · rw [rNums] at hn
      rcases List.mem_append.1 hn with hn | hn
      · exact h1 n hn
      · rw [List.mem_singleton.1 hn]; simpa using h4
    · rw [rNums, List.length_append, h3]; rfl
/-- What an op that was read holds to. -/
structure ConRd (x : Con) : Prop extends ConOk x where
  blt : ∀ c ∈ x.blk, c < 256
  klt : ∀ c ∈ x.keep, c < 256
  kl : x.keep.length < 256
  ksl : x.keys.length < 256
  ks : ∀ k ∈ x.keys, 0 ≤ k ∧ k < 256
  kind0 : 0 ≤ x.kind ∧ x.kind < 256
  node0 : 0 ≤ x.node ∧ x.node < 256
  key0 : 0 ≤ x.key ∧ x.key < 256
  at0 : -1 ≤ x.at_ ∧ x.at_ < 65535
theorem rOp_ok {r : Rr} (h : ∀ c ∈ r.1, c < 256) : ConRd (rOp r).2 ∧ ∀ c ∈ (rOp r).1.1, c < 256 := by
  unfold rOp
  dsimp only
  obtain ⟨a1, a2⟩ := rNum_lt (w := 1) h
  obtain ⟨b1, b2⟩ := rNum_lt (w := 1) a2
  obtain ⟨c1, c2⟩ := rNum_lt (w := 1) b2
  obtain ⟨d1, d2⟩ := rNum_lt (w := 1) c2
  generalize rNum (rNum (rNum (rNum r 1).1 1).1 1).1 1 = m at d1 d2 ⊢
  obtain ⟨k1, k2, k3⟩ := rNums_lt d2 m.2
  obtain ⟨l1, l2, l3⟩ := rTake_lt (w := 16) k2
  obtain ⟨e1, e2⟩ := rNum_lt (w := 4) l2
  obtain ⟨q1, q2⟩ := rNum_lt (w := 4) e2
  obtain ⟨t1, t2⟩ := rNum_lt (w := 2) q2
  obtain ⟨m1, m2⟩ := rNum_lt (w := 1) t2
  obtain ⟨n1, n2⟩ := rNum_lt (w := 1) m2
  generalize rNum (rNum (rNum (rNum (rNum (rTake (rNums m.2 m.1).1 16).1 4).1 4).1 2).1 1).1 1 = kn at n1 n2 ⊢
  obtain ⟨p1, p2, p3⟩ := rTake_lt (w := kn.2) n2
  refine ⟨⟨⟨?_, ?_, ?_, ?_⟩, ?_, ?_, ?_, ?_, ?_, ?_, ?_, ?_, ?_⟩, p2⟩
  · show (pad16 _).length = 16
    unfold pad16
    split
    · simp
    · rename_i hne
      rcases l3 with l3 | l3
      · exact absurd l3 hne
      · exact l3
  · exact e1
  · exact q1
  · simpa using m1
  · show ∀ c ∈ pad16 _, c < 256
    unfold pad16
    split
    · intro c hc
      rw [(List.mem_replicate.1 hc).2]
      omega
    · exact l1
  · exact p1
  · show (rTake kn.1 kn.2).2.length < 256
    rcases p3 with p3 | p3
    · rw [p3]; simp
    · rw [p3]; simpa using n1
  · show (List.map _ _).length < 256
    rw [List.length_map, k3]; simpa using d1
  · intro k hk
    obtain ⟨n, hn, rfl⟩ := List.mem_map.1 hk
    have := k1 n hn
    omega
  · show (0 : Int) ≤ ((rNum r 1).2 : Int) ∧ ((rNum r 1).2 : Int) < 256
    simp at a1
    omega
  · show (0 : Int) ≤ ((rNum (rNum r 1).1 1).2 : Int) ∧ ((rNum (rNum r 1).1 1).2 : Int) < 256
    simp at b1
    omega
  · show (0 : Int) ≤ ((rNum (rNum (rNum r 1).1 1).1 1).2 : Int) ∧ ((rNum (rNum (rNum r 1).1 1).1 1).2 : Int) < 256
    simp at c1
    omega
  · simp at t1
    constructor <;> (dsimp only; omega)
theorem rOps_ok : ∀ (n : Nat) (r : Rr), (∀ c ∈ r.1, c < 256) → ∀ x ∈ rOps n r, ConRd x
  | 0, _, _, x, hx => by simp [rOps] at hx
  | n + 1, r, h, x, hx => by
    obtain ⟨h1, h2⟩ := rOp_ok h
    rw [rOps] at hx
    rcases List.mem_cons.1 hx with rfl | hx
    · exact h1
    · split at hx
      · simp at hx
      · exact rOps_ok n _ h2 x hx
theorem rHead_ok {r : Rr} (h : ∀ c ∈ r.1, c < 256) : CfgOk (rHead r).2 ∧ (∀ n ∈ (rHead r).2.nums, 0 ≤ n ∧ n < 65536) ∧ ∀ c ∈ (rHead r).1.1, c < 256 := by
  unfold rHead
  dsimp only
  obtain ⟨a1, a2⟩ := rNum_lt (w := 2) h
  obtain ⟨b1, b2⟩ := rNum_lt (w := 4) a2
  obtain ⟨c1, c2⟩ := rNum_lt (w := 4) b2
  obtain ⟨d1, d2⟩ := rNum_lt (w := 2) c2
  obtain ⟨e1, e2⟩ := rNum_lt (w := 2) d2
  obtain ⟨f1, f2⟩ := rNum_lt (w := 2) e2
  obtain ⟨g1, g2⟩ := rNum_lt (w := 2) f2
  refine ⟨⟨b1, c1⟩, fun n hn => ?_, g2⟩
  simp only [Cfg.nums, List.mem_cons, List.not_mem_nil, or_false] at hn
  rcases hn with rfl | rfl | rfl | rfl | rfl <;> omega
end Go.Proofs.YteiiblpnegjjlaaGreat.Lw
