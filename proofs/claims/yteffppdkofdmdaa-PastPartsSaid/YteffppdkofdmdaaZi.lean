/- Whether epochs rise.
Whether each epoch has one primary.
slices.Compact over labels. -/
import Derived.Test.YteffppdkofdmdaaZh
namespace Go.Proofs.Yteffppdkofdmdaa
open D
set_option linter.unusedSimpArgs false
set_option linter.unusedVariables false
set_option maxRecDepth 10000

theorem MoOk.n1 {m : Mo} (h : MoOk m) : (m.cells.drop 1)[0]? = some (.int .i64 m.node) := by rw [List.getElem?_drop]; exact h.n
def mx (a b : Int) : Int := if a < b then b else a
/-- The greatest epoch that was shown. -/
def topS (l : List Mo) : Int := l.foldl (fun a m => let b := if m.v0.up then mx a m.v0.epoch else a; if m.v1.up then mx b m.v1.epoch else b) 0
theorem topS_snoc (l : List Mo) (m : Mo) : topS (l ++ [m]) = (let b := if m.v0.up then mx (topS l) m.v0.epoch else topS l; if m.v1.up then mx b m.v1.epoch else b) := by
  simp only [topS, List.foldl_append, List.foldl_cons, List.foldl_nil]
theorem topS_take {l : List Mo} {j : Nat} (hj : j < l.length) : topS (l.take (j + 1)) = (let b := if l[j].v0.up then mx (topS (l.take j)) l[j].v0.epoch else topS (l.take j); if l[j].v1.up then mx b l[j].v1.epoch else b) := by
  rw [List.take_succ_eq_append_getElem hj, topS_snoc]

/-- Is the node of an op the primary of a new epoch? -/
def prom (m : Mo) (top : Int) : Bool := (m.node == 0 && (m.v0.up && (m.v0.prim && decide (top < m.v0.epoch)))) || (m.node == 1 && (m.v1.up && (m.v1.prim && decide (top < m.v1.epoch))))
def low (i : Int) (la : Vw × Vw) (m : Mo) : Bool := (sel i m.vs).up && decide ((sel i m.vs).epoch < (sel i la).epoch)
def okE (top : Int) (la : Vw × Vw) (m : Mo) : Bool := !low 0 la m && !low 1 la m && !(m.kind == 9 && (m.err == 0 && !prom m top))

theorem promoted_run (x : Mo) (hx : MoOk x) (top : Int) (s : St) : Wf mm 21 [.agg x.cells, .int .u32 top] s fun w s' => w = .bool (prom x top) ∧ Fr s s' := by
  refine Wf_enter ft21 (sm (by decide)) (by rfl) ?_
  have hl : 2 ≤ x.cells.length := by have := hx.len; omega
  have hl1 : 51 ≤ x.cells.length := by have := hx.len; omega
  have hl2 : 58 ≤ x.cells.length := by have := hx.len; omega
  have ft : (false == true) = false := rfl
  have ge0 : decide ((0 : Int) ≥ 2) = false := rfl
  have ge1 : decide ((1 : Int) ≥ 2) = false := rfl
  have c0 := hx.c0
  have c1 := hx.c1
  unfold Vw.enc at c0 c1
  by_cases n0 : x.node = 0
  · have hn := hx.n
    rw [n0] at hn
    cases hu : x.v0.up <;> cases hp : x.v0.prim
    all_goals
      simp -implicitDefEqProofs only [go_sem, Wk_block, Wk_drawnC, reduceCtorEq, Nat.reduceEqDiff, Nat.reduceAdd, Nat.reduceLeDiff, Nat.reduceLT, Nat.reduceMul, Nat.reduceSub, ↓reduceIte, Int.reduceLT, Int.reduceLE, Int.reduceNeg, Int.reduceAdd, Int.reduceEq, Nat.reduceBneDiff, Nat.reduceBEq, Int.reduceToNat, Int.reduceMul, Int.reduceSub, Int.reduceBEq, Int.reduceBNe, Int.cast_ofNat_Int, Int.toNat_natCast_add_one, Nat.add_left_cancel_iff, Nat.left_eq_add, Nat.add_eq_left, Int.toNat_natCast, Nat.add_assoc, Int.ofNat_lt, Int.ofNat_le, Nat.lt_add_one_of_lt, Nat.lt_add_one, Nat.lt_add_right, Nat.lt_add_right_iff_pos, Nat.add_lt_add_iff_left, fd21, hx.cell, hn, hl, hl1, c0, hu, hp, ft, ge0, ge1]
      refine ⟨?_, by (repeat (first | exact FrX.refl _ _ | exact Fr.refl _ | assumption | exact Fr.x (by assumption) _ | refine FrX.put ?_ (.inl rfl) _ | refine FrX.put ?_ (.inr (by first | omega | (simp; done) | (simp; omega))) _ | refine FrX.new ?_ _ | refine Fr.put ?_ (by first | omega | (simp; done) | (simp; omega)) _ | refine Fr.new ?_ _ | refine FrX.then ?_ (by assumption) | refine Fr.trans ?_ (by assumption)))⟩
      simp [prom, n0, hu, hp]
  by_cases n1 : x.node = 1
  · have hn := hx.n
    rw [n1] at hn
    cases hu : x.v1.up <;> cases hp : x.v1.prim
    all_goals
      simp -implicitDefEqProofs only [go_sem, Wk_block, Wk_drawnC, reduceCtorEq, Nat.reduceEqDiff, Nat.reduceAdd, Nat.reduceLeDiff, Nat.reduceLT, Nat.reduceMul, Nat.reduceSub, ↓reduceIte, Int.reduceLT, Int.reduceLE, Int.reduceNeg, Int.reduceAdd, Int.reduceEq, Nat.reduceBneDiff, Nat.reduceBEq, Int.reduceToNat, Int.reduceMul, Int.reduceSub, Int.reduceBEq, Int.reduceBNe, Int.cast_ofNat_Int, Int.toNat_natCast_add_one, Nat.add_left_cancel_iff, Nat.left_eq_add, Nat.add_eq_left, Int.toNat_natCast, Nat.add_assoc, Int.ofNat_lt, Int.ofNat_le, Nat.lt_add_one_of_lt, Nat.lt_add_one, Nat.lt_add_right, Nat.lt_add_right_iff_pos, Nat.add_lt_add_iff_left, fd21, hx.cell, hn, hl, hl2, c1, hu, hp, ft, ge0, ge1]
      refine ⟨?_, by (repeat (first | exact FrX.refl _ _ | exact Fr.refl _ | assumption | exact Fr.x (by assumption) _ | refine FrX.put ?_ (.inl rfl) _ | refine FrX.put ?_ (.inr (by first | omega | (simp; done) | (simp; omega))) _ | refine FrX.new ?_ _ | refine Fr.put ?_ (by first | omega | (simp; done) | (simp; omega)) _ | refine Fr.new ?_ _ | refine FrX.then ?_ (by assumption) | refine Fr.trans ?_ (by assumption)))⟩
      simp [prom, n1, hu, hp]
  have hf : prom x top = false := by simp [prom, n0, n1]
  rw [hf]
  by_cases hlt : x.node < 0
  · simp -implicitDefEqProofs only [go_sem, Wk_block, Wk_drawnC, reduceCtorEq, Nat.reduceEqDiff, Nat.reduceAdd, Nat.reduceLeDiff, Nat.reduceLT, Nat.reduceMul, Nat.reduceSub, ↓reduceIte, Int.reduceLT, Int.reduceLE, Int.reduceNeg, Int.reduceAdd, Int.reduceEq, Nat.reduceBneDiff, Nat.reduceBEq, Int.reduceToNat, Int.reduceMul, Int.reduceSub, Int.reduceBEq, Int.reduceBNe, Int.cast_ofNat_Int, Int.toNat_natCast_add_one, Nat.add_left_cancel_iff, Nat.left_eq_add, Nat.add_eq_left, Int.toNat_natCast, Nat.add_assoc, Int.ofNat_lt, Int.ofNat_le, Nat.lt_add_one_of_lt, Nat.lt_add_one, Nat.lt_add_right, Nat.lt_add_right_iff_pos, Nat.add_lt_add_iff_left, fd21, hx.cell, hx.n, hl, hlt]
    (repeat (first | exact FrX.refl _ _ | exact Fr.refl _ | assumption | exact Fr.x (by assumption) _ | refine FrX.put ?_ (.inl rfl) _ | refine FrX.put ?_ (.inr (by first | omega | (simp; done) | (simp; omega))) _ | refine FrX.new ?_ _ | refine Fr.put ?_ (by first | omega | (simp; done) | (simp; omega)) _ | refine Fr.new ?_ _ | refine FrX.then ?_ (by assumption) | refine Fr.trans ?_ (by assumption)))
  · have h2 : (2 : Int) ≤ x.node := by omega
    have hltf : decide (x.node < 0) = false := decide_eq_false hlt
    simp -implicitDefEqProofs only [go_sem, Wk_block, Wk_drawnC, reduceCtorEq, Nat.reduceEqDiff, Nat.reduceAdd, Nat.reduceLeDiff, Nat.reduceLT, Nat.reduceMul, Nat.reduceSub, ↓reduceIte, Int.reduceLT, Int.reduceLE, Int.reduceNeg, Int.reduceAdd, Int.reduceEq, Nat.reduceBneDiff, Nat.reduceBEq, Int.reduceToNat, Int.reduceMul, Int.reduceSub, Int.reduceBEq, Int.reduceBNe, Int.cast_ofNat_Int, Int.toNat_natCast_add_one, Nat.add_left_cancel_iff, Nat.left_eq_add, Nat.add_eq_left, Int.toNat_natCast, Nat.add_assoc, Int.ofNat_lt, Int.ofNat_le, Nat.lt_add_one_of_lt, Nat.lt_add_one, Nat.lt_add_right, Nat.lt_add_right_iff_pos, Nat.add_lt_add_iff_left, fd21, hx.cell, hx.n, hl, hltf, h2]
    (repeat (first | exact FrX.refl _ _ | exact Fr.refl _ | assumption | exact Fr.x (by assumption) _ | refine FrX.put ?_ (.inl rfl) _ | refine FrX.put ?_ (.inr (by first | omega | (simp; done) | (simp; omega))) _ | refine FrX.new ?_ _ | refine Fr.put ?_ (by first | omega | (simp; done) | (simp; omega)) _ | refine Fr.new ?_ _ | refine FrX.then ?_ (by assumption) | refine Fr.trans ?_ (by assumption)))

theorem Epochs_run (ms : List Mo) (hm : ∀ m ∈ ms, MoOk m) {v : AV} {ba oa : Nat} {s : St} (hA : Acc s v 58 (ms.map Mo.cells) ba oa) :
    Wf mm 10 [v] s fun w s' => (∃ b : Bool, w = .bool b ∧ (b = true ↔ ∀ j (h : j < ms.length), okE (topS (ms.take j)) (lastV (ms.take j)) ms[j] = true)) ∧ Fr s s' := by
  refine Wf_enter ft10 (sm (by decide)) (by rfl) ?_
  simp only [fd10, go_sem, Wk_block, Wk_drawnC, reduceCtorEq, Nat.reduceEqDiff, Nat.reduceAdd, Nat.reduceLeDiff, Nat.reduceLT, Nat.reduceMul, Nat.reduceSub, ↓reduceIte, Int.reduceLT, Int.reduceLE, Int.reduceNeg, Int.reduceAdd, Int.reduceEq, Nat.reduceBneDiff, Nat.reduceBEq, Int.reduceToNat, Int.reduceMul, Int.reduceSub, Int.reduceBEq, Int.reduceBNe, Int.cast_ofNat_Int, Int.toNat_natCast_add_one, Nat.add_left_cancel_iff, Nat.left_eq_add, Nat.add_eq_left, Int.toNat_natCast, Nat.add_assoc, Int.ofNat_lt, Int.ofNat_le, Wl_eq (steps_run v _ hA.cells)]
  obtain ⟨c, hc⟩ : ∃ c, s.next = c := ⟨_, rfl⟩
  refine Wk_envs (fun ts => ts.get 2 = some (.ptr c 0) ∧ ts.get 3 = some (.ptr (c + 1) 0) ∧ ts.get 11 = some (.fn (.func 26) [] [.ptr (c + 2) 0])) ⟨by simp only [go_sem, Wk_block, Wk_drawnC, reduceCtorEq, Nat.reduceEqDiff, Nat.reduceAdd, Nat.reduceLeDiff, Nat.reduceLT, Nat.reduceMul, Nat.reduceSub, ↓reduceIte, Int.reduceLT, Int.reduceLE, Int.reduceNeg, Int.reduceAdd, Int.reduceEq, Nat.reduceBneDiff, Nat.reduceBEq, Int.reduceToNat, Int.reduceMul, Int.reduceSub, Int.reduceBEq, Int.reduceBNe, Int.cast_ofNat_Int, Int.toNat_natCast_add_one, Nat.add_left_cancel_iff, Nat.left_eq_add, Nat.add_eq_left, Int.toNat_natCast, Nat.add_assoc, Int.ofNat_lt, Int.ofNat_le, hc], by simp only [go_sem, Wk_block, Wk_drawnC, reduceCtorEq, Nat.reduceEqDiff, Nat.reduceAdd, Nat.reduceLeDiff, Nat.reduceLT, Nat.reduceMul, Nat.reduceSub, ↓reduceIte, Int.reduceLT, Int.reduceLE, Int.reduceNeg, Int.reduceAdd, Int.reduceEq, Nat.reduceBneDiff, Nat.reduceBEq, Int.reduceToNat, Int.reduceMul, Int.reduceSub, Int.reduceBEq, Int.reduceBNe, Int.cast_ofNat_Int, Int.toNat_natCast_add_one, Nat.add_left_cancel_iff, Nat.left_eq_add, Nat.add_eq_left, Int.toNat_natCast, Nat.add_assoc, Int.ofNat_lt, Int.ofNat_le, hc], by simp only [go_sem, Wk_block, Wk_drawnC, reduceCtorEq, Nat.reduceEqDiff, Nat.reduceAdd, Nat.reduceLeDiff, Nat.reduceLT, Nat.reduceMul, Nat.reduceSub, ↓reduceIte, Int.reduceLT, Int.reduceLE, Int.reduceNeg, Int.reduceAdd, Int.reduceEq, Nat.reduceBneDiff, Nat.reduceBEq, Int.reduceToNat, Int.reduceMul, Int.reduceSub, Int.reduceBEq, Int.reduceBNe, Int.cast_ofNat_Int, Int.toNat_natCast_add_one, Nat.add_left_cancel_iff, Nat.left_eq_add, Nat.add_eq_left, Int.toNat_natCast, Nat.add_assoc, Int.ofNat_lt, Int.ofNat_le, hc]⟩ ?_
  rintro ts0 ⟨g2, g3, g11⟩
  have f1 : Fr s (((s.new (.cells [.bool false] false false 0)).new (.cells [.int .u32 0] false false 0)).new (.cells [v] false false 0)) := (((Fr.refl s).new _).new _).new _
  have hA1 := hA.mono f1
  have hc1 : (((s.new (.cells [.bool false] false false 0)).new (.cells [.int .u32 0] false false 0)).new (.cells [v] false false 0)).get c = some (.cells [.bool false] false false 0) := by rw [← hc]; simp -implicitDefEqProofs only [go_sem, Wk_block, Wk_drawnC, reduceCtorEq, Nat.reduceEqDiff, Nat.reduceAdd, Nat.reduceLeDiff, Nat.reduceLT, Nat.reduceMul, Nat.reduceSub, ↓reduceIte, Int.reduceLT, Int.reduceLE, Int.reduceNeg, Int.reduceAdd, Int.reduceEq, Nat.reduceBneDiff, Nat.reduceBEq, Int.reduceToNat, Int.reduceMul, Int.reduceSub, Int.reduceBEq, Int.reduceBNe, Int.cast_ofNat_Int, Int.toNat_natCast_add_one, Nat.add_left_cancel_iff, Nat.left_eq_add, Nat.add_eq_left, Int.toNat_natCast, Nat.add_assoc, Int.ofNat_lt, Int.ofNat_le, Nat.lt_add_one_of_lt, Nat.lt_add_one, Nat.lt_add_right, Nat.lt_add_right_iff_pos, Nat.add_lt_add_iff_left, hc]
  have hE1 : (((s.new (.cells [.bool false] false false 0)).new (.cells [.int .u32 0] false false 0)).new (.cells [v] false false 0)).get (c + 1) = some (.cells [.int .u32 0] false false 0) := by rw [← hc]; simp -implicitDefEqProofs only [go_sem, Wk_block, Wk_drawnC, reduceCtorEq, Nat.reduceEqDiff, Nat.reduceAdd, Nat.reduceLeDiff, Nat.reduceLT, Nat.reduceMul, Nat.reduceSub, ↓reduceIte, Int.reduceLT, Int.reduceLE, Int.reduceNeg, Int.reduceAdd, Int.reduceEq, Nat.reduceBneDiff, Nat.reduceBEq, Int.reduceToNat, Int.reduceMul, Int.reduceSub, Int.reduceBEq, Int.reduceBNe, Int.cast_ofNat_Int, Int.toNat_natCast_add_one, Nat.add_left_cancel_iff, Nat.left_eq_add, Nat.add_eq_left, Int.toNat_natCast, Nat.add_assoc, Int.ofNat_lt, Int.ofNat_le, Nat.lt_add_one_of_lt, Nat.lt_add_one, Nat.lt_add_right, Nat.lt_add_right_iff_pos, Nat.add_lt_add_iff_left, hc]
  have hp1 : (((s.new (.cells [.bool false] false false 0)).new (.cells [.int .u32 0] false false 0)).new (.cells [v] false false 0)).get (c + 2) = some (.cells [v] false false 0) := by rw [← hc]; simp -implicitDefEqProofs only [go_sem, Wk_block, Wk_drawnC, reduceCtorEq, Nat.reduceEqDiff, Nat.reduceAdd, Nat.reduceLeDiff, Nat.reduceLT, Nat.reduceMul, Nat.reduceSub, ↓reduceIte, Int.reduceLT, Int.reduceLE, Int.reduceNeg, Int.reduceAdd, Int.reduceEq, Nat.reduceBneDiff, Nat.reduceBEq, Int.reduceToNat, Int.reduceMul, Int.reduceSub, Int.reduceBEq, Int.reduceBNe, Int.cast_ofNat_Int, Int.toNat_natCast_add_one, Nat.add_left_cancel_iff, Nat.left_eq_add, Nat.add_eq_left, Int.toNat_natCast, Nat.add_assoc, Int.ofNat_lt, Int.ofNat_le, Nat.lt_add_one_of_lt, Nat.lt_add_one, Nat.lt_add_right, Nat.lt_add_right_iff_pos, Nat.add_lt_add_iff_left, hc]
  have hn1 : c + 2 < (((s.new (.cells [.bool false] false false 0)).new (.cells [.int .u32 0] false false 0)).new (.cells [v] false false 0)).next := by rw [← hc]; simp -implicitDefEqProofs only [go_sem, Wk_block, Wk_drawnC, reduceCtorEq, Nat.reduceEqDiff, Nat.reduceAdd, Nat.reduceLeDiff, Nat.reduceLT, Nat.reduceMul, Nat.reduceSub, ↓reduceIte, Int.reduceLT, Int.reduceLE, Int.reduceNeg, Int.reduceAdd, Int.reduceEq, Nat.reduceBneDiff, Nat.reduceBEq, Int.reduceToNat, Int.reduceMul, Int.reduceSub, Int.reduceBEq, Int.reduceBNe, Int.cast_ofNat_Int, Int.toNat_natCast_add_one, Nat.add_left_cancel_iff, Nat.left_eq_add, Nat.add_eq_left, Int.toNat_natCast, Nat.add_assoc, Int.ofNat_lt, Int.ofNat_le, Nat.lt_add_one_of_lt, Nat.lt_add_one, Nat.lt_add_right, Nat.lt_add_right_iff_pos, Nat.add_lt_add_iff_left, hc]
  generalize ((s.new (.cells [.bool false] false false 0)).new (.cells [.int .u32 0] false false 0)).new (.cells [v] false false 0) = s1 at *
  refine Wk_range g11 ?_
  obtain ⟨e, he⟩ : ∃ e, s1.next = e := ⟨_, rfl⟩
  rw [he]
  generalize hasn : PC.seq (PC.region [⟨some 4, _, none⟩, _]) _ = asn
  generalize hbd : PC.block 1 _ = bd
  have hmn : ∀ (s' : St), Fr s s' → Acc s' v 58 (ms.map Mo.cells) ba oa := fun s' f => hA.mono f
  have hN : ((s1.new .defd).new (.loop .ready .normal ts0 [12, 13] asn bd e)).next = e + 2 := by simp only [St.next_new]; omega
  have f2 : Fr s ((s1.new .defd).new (.loop .ready .normal ts0 [12, 13] asn bd e)) := (f1.new _).new _
  have hp2 : ((s1.new .defd).new (.loop .ready .normal ts0 [12, 13] asn bd e)).get (c + 2) = some (.cells [v] false false 0) := by
    rw [St.get_new, if_neg (by simp only [St.next_new]; omega), St.get_new, if_neg (by omega)]; exact hp1
  have hsn : s.next ≤ e := by have := f1.le; omega
  refine (gen_run ms hm (r := e + 1) (hmn _ f2) hp2 (by rw [hN]; omega)
    (fun j s' => s'.get (e + 1) = some (.loop .ready .normal ts0 [12, 13] asn bd e) ∧ s'.get e = some .defd ∧ Lies s' c [.bool false] ∧ Lies s' (c + 1) [.int .u32 (topS (ms.take j))] ∧ Fr s s' ∧ ∀ i (h : i < ms.length), i < j → okE (topS (ms.take i)) (lastV (ms.take i)) ms[i] = true)
    (fun s' => s'.get (e + 1) = some (.loop .done .ret ts0 [12, 13] asn bd e) ∧ s'.get e = some .defd ∧ Lies s' c [.bool false] ∧ Fr s s' ∧ ∃ i, ∃ h : i < ms.length, okE (topS (ms.take i)) (lastV (ms.take i)) ms[i] = false) ?_ ?_ ?_ ?_).mono ?_
  · rintro j s3 s4 ⟨h1, h2, h3, hE, h4, h5⟩ u
    rw [hN] at u
    exact ⟨(u.get _ (by omega)).trans h1, (u.get _ (by omega)).trans h2, (u.get _ (by omega)).trans h3, (u.get _ (by omega)).trans hE, ⟨Nat.le_trans h4.le u.le, fun b hb => (u.get b (by omega)).trans (h4.get b hb)⟩, h5⟩
  · rintro j s3 ⟨_, _, _, _, h4, _⟩
    exact hmn _ h4
  · rintro j hj s3 hn3 ⟨h1, h2, h3, hE3, h4, h5⟩
    rw [hN] at hn3
    refine Round_of h1 rfl ?_
    rw [← hasn]
    have hok := hm ms[j] (List.getElem_mem hj)
    have hen := topS_take hj
    generalize hx : ms[j] = x at hok hen
    generalize hla : lastV (ms.take j) = la
    generalize hes : topS (ms.take j) = top at hen hE3
    have hlen := hok.len
    have hcell := hok.cell
    have hc3 : c < s3.next := by omega
    have he3 : e < s3.next := by omega
    have he4 : e + 1 < s3.next := by omega
    simp -implicitDefEqProofs only [go_sem, Wk_block, Wk_drawnC, reduceCtorEq, Nat.reduceEqDiff, Nat.reduceAdd, Nat.reduceLeDiff, Nat.reduceLT, Nat.reduceMul, Nat.reduceSub, ↓reduceIte, Int.reduceLT, Int.reduceLE, Int.reduceNeg, Int.reduceAdd, Int.reduceEq, Nat.reduceBneDiff, Nat.reduceBEq, Int.reduceToNat, Int.reduceMul, Int.reduceSub, Int.reduceBEq, Int.reduceBNe, Int.cast_ofNat_Int, Int.toNat_natCast_add_one, Nat.add_left_cancel_iff, Nat.left_eq_add, Nat.add_eq_left, Int.toNat_natCast, Nat.add_assoc, Int.ofNat_lt, Int.ofNat_le, Nat.lt_add_one_of_lt, Nat.lt_add_one, Nat.lt_add_right, Nat.lt_add_right_iff_pos, Nat.add_lt_add_iff_left, hlen, hcell, enc2, Vw.enc, Wr_nil, h1, hc3, he3, he4, eq_next_f he4, eq_next_k he4, eq_next_f' he4, eq_next_k' he4]
    refine ⟨_, _, _, _, _, _, rfl, ?_⟩
    obtain ⟨q, hq⟩ : ∃ q, s3.next = q := ⟨_, rfl⟩
    have hv := hok.v
    have hk := hok.k
    unfold Vw.enc at hv
    have hl1 : 44 + 14 ≤ x.cells.length := by omega
    have hl2 : 58 ≤ x.cells.length := by omega
    have hl0 : 1 ≤ x.cells.length := by omega
    have f34 : ∀ b, b < s3.next → b ≠ e + 1 → (((s3.new (.cells x.cells false false 0)).new (.cells [.bool la.1.up, .bool la.1.prim, .int .u32 la.1.epoch, .int .u32 la.1.ex.e, .int .u32 la.1.ex.q, .int .u32 la.1.nw.e, .int .u32 la.1.nw.q, .bool la.2.up, .bool la.2.prim, .int .u32 la.2.epoch, .int .u32 la.2.ex.e, .int .u32 la.2.ex.q, .int .u32 la.2.nw.e, .int .u32 la.2.nw.q] false false 0)).put (e + 1) (.loop .busy .normal ts0 [12, 13] asn bd e)).get b = s3.get b := fun b hb hne => by
      rw [St.get_put, if_neg hne, St.get_new, if_neg (by simp only [St.next_new]; omega), St.get_new, if_neg (by omega)]
    have hr4 : (((s3.new (.cells x.cells false false 0)).new (.cells [.bool la.1.up, .bool la.1.prim, .int .u32 la.1.epoch, .int .u32 la.1.ex.e, .int .u32 la.1.ex.q, .int .u32 la.1.nw.e, .int .u32 la.1.nw.q, .bool la.2.up, .bool la.2.prim, .int .u32 la.2.epoch, .int .u32 la.2.ex.e, .int .u32 la.2.ex.q, .int .u32 la.2.nw.e, .int .u32 la.2.nw.q] false false 0)).put (e + 1) (.loop .busy .normal ts0 [12, 13] asn bd e)).get (e + 1) = some (.loop .busy .normal ts0 [12, 13] asn bd e) := by rw [St.get_put, if_pos rfl]
    have hx4 : (((s3.new (.cells x.cells false false 0)).new (.cells [.bool la.1.up, .bool la.1.prim, .int .u32 la.1.epoch, .int .u32 la.1.ex.e, .int .u32 la.1.ex.q, .int .u32 la.1.nw.e, .int .u32 la.1.nw.q, .bool la.2.up, .bool la.2.prim, .int .u32 la.2.epoch, .int .u32 la.2.ex.e, .int .u32 la.2.ex.q, .int .u32 la.2.nw.e, .int .u32 la.2.nw.q] false false 0)).put (e + 1) (.loop .busy .normal ts0 [12, 13] asn bd e)).get q = some (.cells x.cells false false 0) := by
      rw [St.get_put, if_neg (by omega), St.get_new, if_neg (by simp only [St.next_new]; omega), St.get_new, if_pos (by omega)]
    have hl4 : (((s3.new (.cells x.cells false false 0)).new (.cells [.bool la.1.up, .bool la.1.prim, .int .u32 la.1.epoch, .int .u32 la.1.ex.e, .int .u32 la.1.ex.q, .int .u32 la.1.nw.e, .int .u32 la.1.nw.q, .bool la.2.up, .bool la.2.prim, .int .u32 la.2.epoch, .int .u32 la.2.ex.e, .int .u32 la.2.ex.q, .int .u32 la.2.nw.e, .int .u32 la.2.nw.q] false false 0)).put (e + 1) (.loop .busy .normal ts0 [12, 13] asn bd e)).get (q + 1) = some (.cells [.bool la.1.up, .bool la.1.prim, .int .u32 la.1.epoch, .int .u32 la.1.ex.e, .int .u32 la.1.ex.q, .int .u32 la.1.nw.e, .int .u32 la.1.nw.q, .bool la.2.up, .bool la.2.prim, .int .u32 la.2.epoch, .int .u32 la.2.ex.e, .int .u32 la.2.ex.q, .int .u32 la.2.nw.e, .int .u32 la.2.nw.q] false false 0) := by
      rw [St.get_put, if_neg (by omega), St.get_new, if_pos (by simp only [St.next_new]; omega)]
    have hn4 : (((s3.new (.cells x.cells false false 0)).new (.cells [.bool la.1.up, .bool la.1.prim, .int .u32 la.1.epoch, .int .u32 la.1.ex.e, .int .u32 la.1.ex.q, .int .u32 la.1.nw.e, .int .u32 la.1.nw.q, .bool la.2.up, .bool la.2.prim, .int .u32 la.2.epoch, .int .u32 la.2.ex.e, .int .u32 la.2.ex.q, .int .u32 la.2.nw.e, .int .u32 la.2.nw.q] false false 0)).put (e + 1) (.loop .busy .normal ts0 [12, 13] asn bd e)).next = q + 2 := by simp only [St.next_put, St.next_new]; omega
    rw [hq]
    generalize ((s3.new (.cells x.cells false false 0)).new (.cells [.bool la.1.up, .bool la.1.prim, .int .u32 la.1.epoch, .int .u32 la.1.ex.e, .int .u32 la.1.ex.q, .int .u32 la.1.nw.e, .int .u32 la.1.nw.q, .bool la.2.up, .bool la.2.prim, .int .u32 la.2.epoch, .int .u32 la.2.ex.e, .int .u32 la.2.ex.q, .int .u32 la.2.nw.e, .int .u32 la.2.nw.q] false false 0)).put (e + 1) (.loop .busy .normal ts0 [12, 13] asn bd e) = s4 at *
    have hc4 : Lies s4 c [.bool false] := (f34 c (by omega) (by omega)).trans h3
    have hE4 : Lies s4 (c + 1) [.int .u32 top] := (f34 (c + 1) (by omega) (by omega)).trans hE3
    have he5 : s4.get e = some .defd := (f34 e (by omega) (by omega)).trans h2
    refine Wk_mono0 (Q' := fun xx _ ds s5 => ds = [] ∧ ∃ s6, FrX (c + 1) s4 s6 ∧ ((xx = .ret ∧ s5 = s6.put c (.cells [.bool false] false false 0) ∧ okE top la x = false) ∨
      (xx = .normal ∧ s5 = s6 ∧ Lies s5 (c + 1) [.int .u32 (let b := if x.v0.up then mx top x.v0.epoch else top; if x.v1.up then mx b x.v1.epoch else b)] ∧ okE top la x = true))) ?_ ?_
    rotate_left
    · rintro xx ts5 ds5 s5 ⟨rfl, s6, f6, ⟨rfl, rfl, hbad⟩ | ⟨rfl, rfl, hE5, hgood⟩⟩
      · refine ⟨rfl, ?_⟩
        have hr6 := (f6.get (e + 1) (by omega) (by omega)).trans hr4
        refine ⟨_, _, _, _, _, _, _, (St.get_put _ _ _ _).trans ((if_neg (by omega)).trans hr6), ?_⟩
        have hle := f6.le
        refine ⟨by simp only [St.next_put]; omega, fun a ha1 ha2 => ?_, fun h => (by cases h), fun _ => ⟨?_, ?_, ?_, ?_, ?_⟩⟩
        · rw [St.get_put, if_neg (by omega), St.get_put, if_neg (by omega)]; exact (f6.get a (by omega) (by omega)).trans (f34 a (by omega) (by omega))
        · rw [St.get_put, if_pos rfl, hasn]
        · rw [St.get_put, if_neg (by omega), St.get_put, if_neg (by omega)]; exact (f6.get e (by omega) (by omega)).trans he5
        · rw [Lies, St.get_put, if_neg (by omega), St.get_put, if_pos rfl]
        · refine ⟨by simp only [St.next_put]; omega, fun b hb => ?_⟩
          rw [St.get_put, if_neg (by omega), St.get_put, if_neg (by omega)]; exact (f6.get b (by omega) (by omega)).trans ((f34 b (by omega) (by omega)).trans (h4.get b hb))
        · exact ⟨j, hj, by rw [hx, hla, hes]; exact hbad⟩
      · refine ⟨rfl, ?_⟩
        have hr6 := (f6.get (e + 1) (by omega) (by omega)).trans hr4
        refine ⟨_, _, _, _, _, _, _, hr6, ?_⟩
        have hle := f6.le
        refine ⟨by simp only [St.next_put]; omega, fun a ha1 ha2 => ?_, fun _ => ⟨?_, ?_, ?_, ?_, ?_, ?_⟩, fun h => (by cases h)⟩
        · rw [St.get_put, if_neg (by omega)]; exact (f6.get a (by omega) (by omega)).trans (f34 a (by omega) (by omega))
        · rw [St.get_put, if_pos rfl, hasn]
        · rw [St.get_put, if_neg (by omega)]; exact (f6.get e (by omega) (by omega)).trans he5
        · rw [Lies, St.get_put, if_neg (by omega)]; exact (f6.get c (by omega) (by omega)).trans hc4
        · rw [Lies, St.get_put, if_neg (by omega), hen]; exact hE5
        · refine ⟨by simp only [St.next_put]; omega, fun b hb => ?_⟩
          rw [St.get_put, if_neg (by omega)]; exact (f6.get b (by omega) (by omega)).trans ((f34 b (by omega) (by omega)).trans (h4.get b hb))
        · intro i hi hij
          by_cases hie : i = j
          · subst hie
            rw [hx, hla, hes]; exact hgood
          · exact h5 i hi (by omega)
    generalize hTT : (let b := if x.v0.up then mx top x.v0.epoch else top; if x.v1.up then mx b x.v1.epoch else b) = TT
    rw [← hbd]
    simp -implicitDefEqProofs only [go_sem, Wk_block, Wk_drawnC, reduceCtorEq, Nat.reduceEqDiff, Nat.reduceAdd, Nat.reduceLeDiff, Nat.reduceLT, Nat.reduceMul, Nat.reduceSub, ↓reduceIte, Int.reduceLT, Int.reduceLE, Int.reduceNeg, Int.reduceAdd, Int.reduceEq, Nat.reduceBneDiff, Nat.reduceBEq, Int.reduceToNat, Int.reduceMul, Int.reduceSub, Int.reduceBEq, Int.reduceBNe, Int.cast_ofNat_Int, Int.toNat_natCast_add_one, Nat.add_left_cancel_iff, Nat.left_eq_add, Nat.add_eq_left, Int.toNat_natCast, Nat.add_assoc, Int.ofNat_lt, Int.ofNat_le, Nat.lt_add_one_of_lt, Nat.lt_add_one, Nat.lt_add_right, Nat.lt_add_right_iff_pos, Nat.add_lt_add_iff_left, g2, g3, hx4, hl1, hl2, hv]
    refine loop_ind (fun n ts s5 => ∃ i : Int, n = (2 - i).toNat ∧ ts.get 16 = some (.int .i64 i) ∧ ts.get 15 = some (.agg (x.v0.enc ++ x.v1.enc)) ∧ ts.get 4 = some (.ptr q 0) ∧ ts.get 5 = some (.ptr (q + 1) 0) ∧ ts.get 2 = some (.ptr c 0) ∧ ts.get 3 = some (.ptr (c + 1) 0) ∧ Fr s4 s5 ∧
      ((i = 0) ∨ (i = 1 ∧ low 0 la x = false) ∨ (i = 2 ∧ low 0 la x = false ∧ low 1 la x = false))) ?_ (n := 2)
      ⟨0, rfl, by simp only [go_sem, Wk_block, Wk_drawnC, reduceCtorEq, Nat.reduceEqDiff, Nat.reduceAdd, Nat.reduceLeDiff, Nat.reduceLT, Nat.reduceMul, Nat.reduceSub, ↓reduceIte, Int.reduceLT, Int.reduceLE, Int.reduceNeg, Int.reduceAdd, Int.reduceEq, Nat.reduceBneDiff, Nat.reduceBEq, Int.reduceToNat, Int.reduceMul, Int.reduceSub, Int.reduceBEq, Int.reduceBNe, Int.cast_ofNat_Int, Int.toNat_natCast_add_one, Nat.add_left_cancel_iff, Nat.left_eq_add, Nat.add_eq_left, Int.toNat_natCast, Nat.add_assoc, Int.ofNat_lt, Int.ofNat_le], by simp only [go_sem, Wk_block, Wk_drawnC, reduceCtorEq, Nat.reduceEqDiff, Nat.reduceAdd, Nat.reduceLeDiff, Nat.reduceLT, Nat.reduceMul, Nat.reduceSub, ↓reduceIte, Int.reduceLT, Int.reduceLE, Int.reduceNeg, Int.reduceAdd, Int.reduceEq, Nat.reduceBneDiff, Nat.reduceBEq, Int.reduceToNat, Int.reduceMul, Int.reduceSub, Int.reduceBEq, Int.reduceBNe, Int.cast_ofNat_Int, Int.toNat_natCast_add_one, Nat.add_left_cancel_iff, Nat.left_eq_add, Nat.add_eq_left, Int.toNat_natCast, Nat.add_assoc, Int.ofNat_lt, Int.ofNat_le, Vw.enc], by simp only [go_sem, Wk_block, Wk_drawnC, reduceCtorEq, Nat.reduceEqDiff, Nat.reduceAdd, Nat.reduceLeDiff, Nat.reduceLT, Nat.reduceMul, Nat.reduceSub, ↓reduceIte, Int.reduceLT, Int.reduceLE, Int.reduceNeg, Int.reduceAdd, Int.reduceEq, Nat.reduceBneDiff, Nat.reduceBEq, Int.reduceToNat, Int.reduceMul, Int.reduceSub, Int.reduceBEq, Int.reduceBNe, Int.cast_ofNat_Int, Int.toNat_natCast_add_one, Nat.add_left_cancel_iff, Nat.left_eq_add, Nat.add_eq_left, Int.toNat_natCast, Nat.add_assoc, Int.ofNat_lt, Int.ofNat_le], by simp only [go_sem, Wk_block, Wk_drawnC, reduceCtorEq, Nat.reduceEqDiff, Nat.reduceAdd, Nat.reduceLeDiff, Nat.reduceLT, Nat.reduceMul, Nat.reduceSub, ↓reduceIte, Int.reduceLT, Int.reduceLE, Int.reduceNeg, Int.reduceAdd, Int.reduceEq, Nat.reduceBneDiff, Nat.reduceBEq, Int.reduceToNat, Int.reduceMul, Int.reduceSub, Int.reduceBEq, Int.reduceBNe, Int.cast_ofNat_Int, Int.toNat_natCast_add_one, Nat.add_left_cancel_iff, Nat.left_eq_add, Nat.add_eq_left, Int.toNat_natCast, Nat.add_assoc, Int.ofNat_lt, Int.ofNat_le], by simp only [go_sem, Wk_block, Wk_drawnC, reduceCtorEq, Nat.reduceEqDiff, Nat.reduceAdd, Nat.reduceLeDiff, Nat.reduceLT, Nat.reduceMul, Nat.reduceSub, ↓reduceIte, Int.reduceLT, Int.reduceLE, Int.reduceNeg, Int.reduceAdd, Int.reduceEq, Nat.reduceBneDiff, Nat.reduceBEq, Int.reduceToNat, Int.reduceMul, Int.reduceSub, Int.reduceBEq, Int.reduceBNe, Int.cast_ofNat_Int, Int.toNat_natCast_add_one, Nat.add_left_cancel_iff, Nat.left_eq_add, Nat.add_eq_left, Int.toNat_natCast, Nat.add_assoc, Int.ofNat_lt, Int.ofNat_le, g2], by simp only [go_sem, Wk_block, Wk_drawnC, reduceCtorEq, Nat.reduceEqDiff, Nat.reduceAdd, Nat.reduceLeDiff, Nat.reduceLT, Nat.reduceMul, Nat.reduceSub, ↓reduceIte, Int.reduceLT, Int.reduceLE, Int.reduceNeg, Int.reduceAdd, Int.reduceEq, Nat.reduceBneDiff, Nat.reduceBEq, Int.reduceToNat, Int.reduceMul, Int.reduceSub, Int.reduceBEq, Int.reduceBNe, Int.cast_ofNat_Int, Int.toNat_natCast_add_one, Nat.add_left_cancel_iff, Nat.left_eq_add, Nat.add_eq_left, Int.toNat_natCast, Nat.add_assoc, Int.ofNat_lt, Int.ofNat_le, g3], Fr.refl _, .inl rfl⟩
    clear g2 g3
    rintro n ts s5 ⟨i, rfl, g16, g15, g4, g5, g2, g3, f5, hcs⟩ IH
    have hl5 := (f5.get (q + 1) (by omega)).trans hl4
    have hx5 := (f5.get q (by omega)).trans hx4
    have hc5 : Lies s5 c [.bool false] := (f5.get c (by omega)).trans hc4
    have hE5 : Lies s5 (c + 1) [.int .u32 top] := (f5.get (c + 1) (by omega)).trans hE4
    unfold Lies at hc5 hE5
    have hqn : q < s5.next := by have := f5.le; omega
    have hqn1 : q + 1 < s5.next := by have := f5.le; omega
    have hcn : c < s5.next := by omega
    have hcn1 : c + 1 < s5.next := by omega
    have w1 : IntKind.i64.wrap 1 = 1 := rfl
    have w2 : IntKind.i64.wrap 2 = 2 := rfl
    have ft : (false == true) = false := rfl
    have hcw : ∀ l, (s5.new (.cells l false false 0)).get c = some (.cells [.bool false] false false 0) := fun l => by rw [St.get_new, if_neg (by omega)]; exact hc5
    unfold Vw.enc at g15
    rcases hcs with rfl | ⟨rfl, ok0⟩ | ⟨rfl, ok0, ok1⟩
    · cases hu : x.v0.up
      · have hcg : low 0 la x = false := by unfold low; rw [show (sel 0 x.vs).up = x.v0.up from rfl, hu]; rfl
        simp -implicitDefEqProofs only [go_sem, Wk_block, Wk_drawnC, reduceCtorEq, Nat.reduceEqDiff, Nat.reduceAdd, Nat.reduceLeDiff, Nat.reduceLT, Nat.reduceMul, Nat.reduceSub, ↓reduceIte, Int.reduceLT, Int.reduceLE, Int.reduceNeg, Int.reduceAdd, Int.reduceEq, Nat.reduceBneDiff, Nat.reduceBEq, Int.reduceToNat, Int.reduceMul, Int.reduceSub, Int.reduceBEq, Int.reduceBNe, Int.cast_ofNat_Int, Int.toNat_natCast_add_one, Nat.add_left_cancel_iff, Nat.left_eq_add, Nat.add_eq_left, Int.toNat_natCast, Nat.add_assoc, Int.ofNat_lt, Int.ofNat_le, Nat.lt_add_one_of_lt, Nat.lt_add_one, Nat.lt_add_right, Nat.lt_add_right_iff_pos, Nat.add_lt_add_iff_left, g16, g15, g4, g5, g2, g3, hqn, hqn1, hx5, hl5, w1, ft, eq_next_f hqn, eq_next_f' hqn, eq_next_f hqn1, eq_next_f' hqn1, eq_next_f hcn, eq_next_f' hcn, hu]
        refine IH (1 : Int).toNat _ _ (by decide) ⟨1, rfl, ?_, ?_, ?_, ?_, ?_, ?_, f5.new _, .inr (.inl ⟨rfl, hcg⟩)⟩
        all_goals simp only [go_sem, Wk_block, Wk_drawnC, reduceCtorEq, Nat.reduceEqDiff, Nat.reduceAdd, Nat.reduceLeDiff, Nat.reduceLT, Nat.reduceMul, Nat.reduceSub, ↓reduceIte, Int.reduceLT, Int.reduceLE, Int.reduceNeg, Int.reduceAdd, Int.reduceEq, Nat.reduceBneDiff, Nat.reduceBEq, Int.reduceToNat, Int.reduceMul, Int.reduceSub, Int.reduceBEq, Int.reduceBNe, Int.cast_ofNat_Int, Int.toNat_natCast_add_one, Nat.add_left_cancel_iff, Nat.left_eq_add, Nat.add_eq_left, Int.toNat_natCast, Nat.add_assoc, Int.ofNat_lt, Int.ofNat_le, g16, g15, g4, g5, g2, g3, Vw.enc, hu]
      · cases hX : decide (x.v0.epoch < la.1.epoch)
        · have hcg : low 0 la x = false := by unfold low; rw [show (sel 0 x.vs).up = x.v0.up from rfl, hu]; exact hX
          simp -implicitDefEqProofs only [go_sem, Wk_block, Wk_drawnC, reduceCtorEq, Nat.reduceEqDiff, Nat.reduceAdd, Nat.reduceLeDiff, Nat.reduceLT, Nat.reduceMul, Nat.reduceSub, ↓reduceIte, Int.reduceLT, Int.reduceLE, Int.reduceNeg, Int.reduceAdd, Int.reduceEq, Nat.reduceBneDiff, Nat.reduceBEq, Int.reduceToNat, Int.reduceMul, Int.reduceSub, Int.reduceBEq, Int.reduceBNe, Int.cast_ofNat_Int, Int.toNat_natCast_add_one, Nat.add_left_cancel_iff, Nat.left_eq_add, Nat.add_eq_left, Int.toNat_natCast, Nat.add_assoc, Int.ofNat_lt, Int.ofNat_le, Nat.lt_add_one_of_lt, Nat.lt_add_one, Nat.lt_add_right, Nat.lt_add_right_iff_pos, Nat.add_lt_add_iff_left, g16, g15, g4, g5, g2, g3, hqn, hqn1, hx5, hl5, w1, ft, eq_next_f hqn, eq_next_f' hqn, eq_next_f hqn1, eq_next_f' hqn1, eq_next_f hcn, eq_next_f' hcn, hu, hX]
          refine IH (1 : Int).toNat _ _ (by decide) ⟨1, rfl, ?_, ?_, ?_, ?_, ?_, ?_, f5.new _, .inr (.inl ⟨rfl, hcg⟩)⟩
          all_goals simp only [go_sem, Wk_block, Wk_drawnC, reduceCtorEq, Nat.reduceEqDiff, Nat.reduceAdd, Nat.reduceLeDiff, Nat.reduceLT, Nat.reduceMul, Nat.reduceSub, ↓reduceIte, Int.reduceLT, Int.reduceLE, Int.reduceNeg, Int.reduceAdd, Int.reduceEq, Nat.reduceBneDiff, Nat.reduceBEq, Int.reduceToNat, Int.reduceMul, Int.reduceSub, Int.reduceBEq, Int.reduceBNe, Int.cast_ofNat_Int, Int.toNat_natCast_add_one, Nat.add_left_cancel_iff, Nat.left_eq_add, Nat.add_eq_left, Int.toNat_natCast, Nat.add_assoc, Int.ofNat_lt, Int.ofNat_le, g16, g15, g4, g5, g2, g3, Vw.enc, hu]
        · have hcg : low 0 la x = true := by unfold low; rw [show (sel 0 x.vs).up = x.v0.up from rfl, hu]; exact hX
          simp -implicitDefEqProofs only [go_sem, Wk_block, Wk_drawnC, reduceCtorEq, Nat.reduceEqDiff, Nat.reduceAdd, Nat.reduceLeDiff, Nat.reduceLT, Nat.reduceMul, Nat.reduceSub, ↓reduceIte, Int.reduceLT, Int.reduceLE, Int.reduceNeg, Int.reduceAdd, Int.reduceEq, Nat.reduceBneDiff, Nat.reduceBEq, Int.reduceToNat, Int.reduceMul, Int.reduceSub, Int.reduceBEq, Int.reduceBNe, Int.cast_ofNat_Int, Int.toNat_natCast_add_one, Nat.add_left_cancel_iff, Nat.left_eq_add, Nat.add_eq_left, Int.toNat_natCast, Nat.add_assoc, Int.ofNat_lt, Int.ofNat_le, Nat.lt_add_one_of_lt, Nat.lt_add_one, Nat.lt_add_right, Nat.lt_add_right_iff_pos, Nat.add_lt_add_iff_left, g16, g15, g4, g5, g2, g3, hqn, hqn1, hx5, hl5, w1, ft, eq_next_f hqn, eq_next_f' hqn, eq_next_f hqn1, eq_next_f' hqn1, eq_next_f hcn, eq_next_f' hcn, hu, hX, hcw, Wr_nil]
          refine ⟨s5.new (.cells [.bool true, .bool x.v0.prim, .int .u32 x.v0.epoch, .int .u32 x.v0.ex.e, .int .u32 x.v0.ex.q, .int .u32 x.v0.nw.e, .int .u32 x.v0.nw.q] false false 0), (f5.x _).new _, ?_⟩
          simp [okE, hcg]
    · cases hu : x.v1.up
      · have hcg : low 1 la x = false := by unfold low; rw [show (sel 1 x.vs).up = x.v1.up from rfl, hu]; rfl
        simp -implicitDefEqProofs only [go_sem, Wk_block, Wk_drawnC, reduceCtorEq, Nat.reduceEqDiff, Nat.reduceAdd, Nat.reduceLeDiff, Nat.reduceLT, Nat.reduceMul, Nat.reduceSub, ↓reduceIte, Int.reduceLT, Int.reduceLE, Int.reduceNeg, Int.reduceAdd, Int.reduceEq, Nat.reduceBneDiff, Nat.reduceBEq, Int.reduceToNat, Int.reduceMul, Int.reduceSub, Int.reduceBEq, Int.reduceBNe, Int.cast_ofNat_Int, Int.toNat_natCast_add_one, Nat.add_left_cancel_iff, Nat.left_eq_add, Nat.add_eq_left, Int.toNat_natCast, Nat.add_assoc, Int.ofNat_lt, Int.ofNat_le, Nat.lt_add_one_of_lt, Nat.lt_add_one, Nat.lt_add_right, Nat.lt_add_right_iff_pos, Nat.add_lt_add_iff_left, g16, g15, g4, g5, g2, g3, hqn, hqn1, hx5, hl5, w2, ft, eq_next_f hqn, eq_next_f' hqn, eq_next_f hqn1, eq_next_f' hqn1, eq_next_f hcn, eq_next_f' hcn, hu]
        refine IH (0 : Int).toNat _ _ (by decide) ⟨2, rfl, ?_, ?_, ?_, ?_, ?_, ?_, f5.new _, .inr (.inr ⟨rfl, ok0, hcg⟩)⟩
        all_goals simp only [go_sem, Wk_block, Wk_drawnC, reduceCtorEq, Nat.reduceEqDiff, Nat.reduceAdd, Nat.reduceLeDiff, Nat.reduceLT, Nat.reduceMul, Nat.reduceSub, ↓reduceIte, Int.reduceLT, Int.reduceLE, Int.reduceNeg, Int.reduceAdd, Int.reduceEq, Nat.reduceBneDiff, Nat.reduceBEq, Int.reduceToNat, Int.reduceMul, Int.reduceSub, Int.reduceBEq, Int.reduceBNe, Int.cast_ofNat_Int, Int.toNat_natCast_add_one, Nat.add_left_cancel_iff, Nat.left_eq_add, Nat.add_eq_left, Int.toNat_natCast, Nat.add_assoc, Int.ofNat_lt, Int.ofNat_le, g16, g15, g4, g5, g2, g3, Vw.enc, hu]
      · cases hX : decide (x.v1.epoch < la.2.epoch)
        · have hcg : low 1 la x = false := by unfold low; rw [show (sel 1 x.vs).up = x.v1.up from rfl, hu]; exact hX
          simp -implicitDefEqProofs only [go_sem, Wk_block, Wk_drawnC, reduceCtorEq, Nat.reduceEqDiff, Nat.reduceAdd, Nat.reduceLeDiff, Nat.reduceLT, Nat.reduceMul, Nat.reduceSub, ↓reduceIte, Int.reduceLT, Int.reduceLE, Int.reduceNeg, Int.reduceAdd, Int.reduceEq, Nat.reduceBneDiff, Nat.reduceBEq, Int.reduceToNat, Int.reduceMul, Int.reduceSub, Int.reduceBEq, Int.reduceBNe, Int.cast_ofNat_Int, Int.toNat_natCast_add_one, Nat.add_left_cancel_iff, Nat.left_eq_add, Nat.add_eq_left, Int.toNat_natCast, Nat.add_assoc, Int.ofNat_lt, Int.ofNat_le, Nat.lt_add_one_of_lt, Nat.lt_add_one, Nat.lt_add_right, Nat.lt_add_right_iff_pos, Nat.add_lt_add_iff_left, g16, g15, g4, g5, g2, g3, hqn, hqn1, hx5, hl5, w2, ft, eq_next_f hqn, eq_next_f' hqn, eq_next_f hqn1, eq_next_f' hqn1, eq_next_f hcn, eq_next_f' hcn, hu, hX]
          refine IH (0 : Int).toNat _ _ (by decide) ⟨2, rfl, ?_, ?_, ?_, ?_, ?_, ?_, f5.new _, .inr (.inr ⟨rfl, ok0, hcg⟩)⟩
          all_goals simp only [go_sem, Wk_block, Wk_drawnC, reduceCtorEq, Nat.reduceEqDiff, Nat.reduceAdd, Nat.reduceLeDiff, Nat.reduceLT, Nat.reduceMul, Nat.reduceSub, ↓reduceIte, Int.reduceLT, Int.reduceLE, Int.reduceNeg, Int.reduceAdd, Int.reduceEq, Nat.reduceBneDiff, Nat.reduceBEq, Int.reduceToNat, Int.reduceMul, Int.reduceSub, Int.reduceBEq, Int.reduceBNe, Int.cast_ofNat_Int, Int.toNat_natCast_add_one, Nat.add_left_cancel_iff, Nat.left_eq_add, Nat.add_eq_left, Int.toNat_natCast, Nat.add_assoc, Int.ofNat_lt, Int.ofNat_le, g16, g15, g4, g5, g2, g3, Vw.enc, hu]
        · have hcg : low 1 la x = true := by unfold low; rw [show (sel 1 x.vs).up = x.v1.up from rfl, hu]; exact hX
          simp -implicitDefEqProofs only [go_sem, Wk_block, Wk_drawnC, reduceCtorEq, Nat.reduceEqDiff, Nat.reduceAdd, Nat.reduceLeDiff, Nat.reduceLT, Nat.reduceMul, Nat.reduceSub, ↓reduceIte, Int.reduceLT, Int.reduceLE, Int.reduceNeg, Int.reduceAdd, Int.reduceEq, Nat.reduceBneDiff, Nat.reduceBEq, Int.reduceToNat, Int.reduceMul, Int.reduceSub, Int.reduceBEq, Int.reduceBNe, Int.cast_ofNat_Int, Int.toNat_natCast_add_one, Nat.add_left_cancel_iff, Nat.left_eq_add, Nat.add_eq_left, Int.toNat_natCast, Nat.add_assoc, Int.ofNat_lt, Int.ofNat_le, Nat.lt_add_one_of_lt, Nat.lt_add_one, Nat.lt_add_right, Nat.lt_add_right_iff_pos, Nat.add_lt_add_iff_left, g16, g15, g4, g5, g2, g3, hqn, hqn1, hx5, hl5, w2, ft, eq_next_f hqn, eq_next_f' hqn, eq_next_f hqn1, eq_next_f' hqn1, eq_next_f hcn, eq_next_f' hcn, hu, hX, hcw, Wr_nil]
          refine ⟨s5.new (.cells [.bool true, .bool x.v1.prim, .int .u32 x.v1.epoch, .int .u32 x.v1.ex.e, .int .u32 x.v1.ex.q, .int .u32 x.v1.nw.e, .int .u32 x.v1.nw.q] false false 0), (f5.x _).new _, ?_⟩
          simp [okE, hcg]
    · have hk := hok.k
      have he25 := hok.e
      have h25 : 26 ≤ x.cells.length := by omega
      have hl0 : 1 ≤ x.cells.length := by omega
      have ht : x.cells.take 58 = x.cells := List.take_of_length_le (by omega)
      cases hk9 : (x.kind == 9)
      · simp -implicitDefEqProofs only [go_sem, Wk_block, Wk_drawnC, reduceCtorEq, Nat.reduceEqDiff, Nat.reduceAdd, Nat.reduceLeDiff, Nat.reduceLT, Nat.reduceMul, Nat.reduceSub, ↓reduceIte, Int.reduceLT, Int.reduceLE, Int.reduceNeg, Int.reduceAdd, Int.reduceEq, Nat.reduceBneDiff, Nat.reduceBEq, Int.reduceToNat, Int.reduceMul, Int.reduceSub, Int.reduceBEq, Int.reduceBNe, Int.cast_ofNat_Int, Int.toNat_natCast_add_one, Nat.add_left_cancel_iff, Nat.left_eq_add, Nat.add_eq_left, Int.toNat_natCast, Nat.add_assoc, Int.ofNat_lt, Int.ofNat_le, Nat.lt_add_one_of_lt, Nat.lt_add_one, Nat.lt_add_right, Nat.lt_add_right_iff_pos, Nat.add_lt_add_iff_left, g16, g15, g4, g5, g2, g3, hqn, hqn1, hx5, hk, he25, h25, hl0, hl2, hl1, ht, hE5, w1, w2, ft, hv, hk9]
        have hxB := (f5.get q (by omega)).trans hx4
        have hEB : s5.get (c + 1) = some (.cells [.int .u32 top] false false 0) := (f5.get (c + 1) (by omega)).trans hE4
        have hqnB : q < s5.next := by have := (f5).le; omega
        have hqn1B : q + 1 < s5.next := by have := (f5).le; omega
        have hcnB : c < s5.next := by omega
        have hcn1B : c + 1 < s5.next := by omega
        have hgood : okE top la x = true := by simp [okE, ok0, ok1, hk9]
        have fB : FrX (c + 1) s4 s5 := (f5).x _
        cases hu0 : x.v0.up <;> cases hu1 : x.v1.up
        all_goals
          rw [hu0, hu1] at hTT
          simp only [if_true, if_false, Bool.false_eq_true] at hTT
          rw [Wk_loop]
          simp -implicitDefEqProofs only [go_sem, Wk_block, Wk_drawnC, reduceCtorEq, Nat.reduceEqDiff, Nat.reduceAdd, Nat.reduceLeDiff, Nat.reduceLT, Nat.reduceMul, Nat.reduceSub, ↓reduceIte, Int.reduceLT, Int.reduceLE, Int.reduceNeg, Int.reduceAdd, Int.reduceEq, Nat.reduceBneDiff, Nat.reduceBEq, Int.reduceToNat, Int.reduceMul, Int.reduceSub, Int.reduceBEq, Int.reduceBNe, Int.cast_ofNat_Int, Int.toNat_natCast_add_one, Nat.add_left_cancel_iff, Nat.left_eq_add, Nat.add_eq_left, Int.toNat_natCast, Nat.add_assoc, Int.ofNat_lt, Int.ofNat_le, Nat.lt_add_one_of_lt, Nat.lt_add_one, Nat.lt_add_right, Nat.lt_add_right_iff_pos, Nat.add_lt_add_iff_left, hqnB, hqn1B, hcnB, hcn1B, hxB, hEB, hv, hl1, hl2, w1, w2, ft, hu0, hu1, eq_next_f hcn1B, eq_next_f' hcn1B, eq_next_k hcn1B, eq_next_k' hcn1B, g4, g3, g2]
          rw [Wk_loop]
          simp -implicitDefEqProofs only [go_sem, Wk_block, Wk_drawnC, reduceCtorEq, Nat.reduceEqDiff, Nat.reduceAdd, Nat.reduceLeDiff, Nat.reduceLT, Nat.reduceMul, Nat.reduceSub, ↓reduceIte, Int.reduceLT, Int.reduceLE, Int.reduceNeg, Int.reduceAdd, Int.reduceEq, Nat.reduceBneDiff, Nat.reduceBEq, Int.reduceToNat, Int.reduceMul, Int.reduceSub, Int.reduceBEq, Int.reduceBNe, Int.cast_ofNat_Int, Int.toNat_natCast_add_one, Nat.add_left_cancel_iff, Nat.left_eq_add, Nat.add_eq_left, Int.toNat_natCast, Nat.add_assoc, Int.ofNat_lt, Int.ofNat_le, Nat.lt_add_one_of_lt, Nat.lt_add_one, Nat.lt_add_right, Nat.lt_add_right_iff_pos, Nat.add_lt_add_iff_left, hqnB, hqn1B, hcnB, hcn1B, hxB, hEB, hv, hl1, hl2, w1, w2, ft, hu0, hu1, eq_next_f hcn1B, eq_next_f' hcn1B, eq_next_k hcn1B, eq_next_k' hcn1B, g4, g3, g2]
          rw [Wk_loop]
          simp -implicitDefEqProofs only [go_sem, Wk_block, Wk_drawnC, reduceCtorEq, Nat.reduceEqDiff, Nat.reduceAdd, Nat.reduceLeDiff, Nat.reduceLT, Nat.reduceMul, Nat.reduceSub, ↓reduceIte, Int.reduceLT, Int.reduceLE, Int.reduceNeg, Int.reduceAdd, Int.reduceEq, Nat.reduceBneDiff, Nat.reduceBEq, Int.reduceToNat, Int.reduceMul, Int.reduceSub, Int.reduceBEq, Int.reduceBNe, Int.cast_ofNat_Int, Int.toNat_natCast_add_one, Nat.add_left_cancel_iff, Nat.left_eq_add, Nat.add_eq_left, Int.toNat_natCast, Nat.add_assoc, Int.ofNat_lt, Int.ofNat_le, Nat.lt_add_one_of_lt, Nat.lt_add_one, Nat.lt_add_right, Nat.lt_add_right_iff_pos, Nat.add_lt_add_iff_left, hqnB, hqn1B, hcnB, hcn1B, hxB, hEB, hv, hl1, hl2, w1, w2, ft, hu0, hu1, eq_next_f hcn1B, eq_next_f' hcn1B, eq_next_k hcn1B, eq_next_k' hcn1B, g4, g3, g2, Wr_nil]
          refine ⟨_, ?_, .inr ⟨rfl, ?_, hgood⟩⟩
          · (repeat (first | exact FrX.refl _ _ | exact Fr.refl _ | assumption | exact Fr.x (by assumption) _ | refine FrX.put ?_ (.inl rfl) _ | refine FrX.put ?_ (.inr (by first | omega | (simp; done) | (simp; omega))) _ | refine FrX.new ?_ _ | refine Fr.put ?_ (by first | omega | (simp; done) | (simp; omega)) _ | refine Fr.new ?_ _ | refine FrX.then ?_ (by assumption) | refine Fr.trans ?_ (by assumption)))
          rw [← hTT]
          simp -implicitDefEqProofs only [go_sem, Wk_block, Wk_drawnC, reduceCtorEq, Nat.reduceEqDiff, Nat.reduceAdd, Nat.reduceLeDiff, Nat.reduceLT, Nat.reduceMul, Nat.reduceSub, ↓reduceIte, Int.reduceLT, Int.reduceLE, Int.reduceNeg, Int.reduceAdd, Int.reduceEq, Nat.reduceBneDiff, Nat.reduceBEq, Int.reduceToNat, Int.reduceMul, Int.reduceSub, Int.reduceBEq, Int.reduceBNe, Int.cast_ofNat_Int, Int.toNat_natCast_add_one, Nat.add_left_cancel_iff, Nat.left_eq_add, Nat.add_eq_left, Int.toNat_natCast, Nat.add_assoc, Int.ofNat_lt, Int.ofNat_le, Nat.lt_add_one_of_lt, Nat.lt_add_one, Nat.lt_add_right, Nat.lt_add_right_iff_pos, Nat.add_lt_add_iff_left, Lies, hcnB, hcn1B, eq_next_f hcnB, eq_next_f' hcnB, eq_next_f hcn1B, eq_next_f' hcn1B, hEB]
          try rfl
      · cases he0 : (x.err == 0)
        · simp -implicitDefEqProofs only [go_sem, Wk_block, Wk_drawnC, reduceCtorEq, Nat.reduceEqDiff, Nat.reduceAdd, Nat.reduceLeDiff, Nat.reduceLT, Nat.reduceMul, Nat.reduceSub, ↓reduceIte, Int.reduceLT, Int.reduceLE, Int.reduceNeg, Int.reduceAdd, Int.reduceEq, Nat.reduceBneDiff, Nat.reduceBEq, Int.reduceToNat, Int.reduceMul, Int.reduceSub, Int.reduceBEq, Int.reduceBNe, Int.cast_ofNat_Int, Int.toNat_natCast_add_one, Nat.add_left_cancel_iff, Nat.left_eq_add, Nat.add_eq_left, Int.toNat_natCast, Nat.add_assoc, Int.ofNat_lt, Int.ofNat_le, Nat.lt_add_one_of_lt, Nat.lt_add_one, Nat.lt_add_right, Nat.lt_add_right_iff_pos, Nat.add_lt_add_iff_left, g16, g15, g4, g5, g2, g3, hqn, hqn1, hx5, hk, he25, h25, hl0, hl2, hl1, ht, hE5, w1, w2, ft, hv, hk9, he0]
          have hxB := (f5.get q (by omega)).trans hx4
          have hEB : s5.get (c + 1) = some (.cells [.int .u32 top] false false 0) := (f5.get (c + 1) (by omega)).trans hE4
          have hqnB : q < s5.next := by have := (f5).le; omega
          have hqn1B : q + 1 < s5.next := by have := (f5).le; omega
          have hcnB : c < s5.next := by omega
          have hcn1B : c + 1 < s5.next := by omega
          have hgood : okE top la x = true := by simp [okE, ok0, ok1, hk9, he0]
          have fB : FrX (c + 1) s4 s5 := (f5).x _
          cases hu0 : x.v0.up <;> cases hu1 : x.v1.up
          all_goals
            rw [hu0, hu1] at hTT
            simp only [if_true, if_false, Bool.false_eq_true] at hTT
            rw [Wk_loop]
            simp -implicitDefEqProofs only [go_sem, Wk_block, Wk_drawnC, reduceCtorEq, Nat.reduceEqDiff, Nat.reduceAdd, Nat.reduceLeDiff, Nat.reduceLT, Nat.reduceMul, Nat.reduceSub, ↓reduceIte, Int.reduceLT, Int.reduceLE, Int.reduceNeg, Int.reduceAdd, Int.reduceEq, Nat.reduceBneDiff, Nat.reduceBEq, Int.reduceToNat, Int.reduceMul, Int.reduceSub, Int.reduceBEq, Int.reduceBNe, Int.cast_ofNat_Int, Int.toNat_natCast_add_one, Nat.add_left_cancel_iff, Nat.left_eq_add, Nat.add_eq_left, Int.toNat_natCast, Nat.add_assoc, Int.ofNat_lt, Int.ofNat_le, Nat.lt_add_one_of_lt, Nat.lt_add_one, Nat.lt_add_right, Nat.lt_add_right_iff_pos, Nat.add_lt_add_iff_left, hqnB, hqn1B, hcnB, hcn1B, hxB, hEB, hv, hl1, hl2, w1, w2, ft, hu0, hu1, eq_next_f hcn1B, eq_next_f' hcn1B, eq_next_k hcn1B, eq_next_k' hcn1B, g4, g3, g2]
            rw [Wk_loop]
            simp -implicitDefEqProofs only [go_sem, Wk_block, Wk_drawnC, reduceCtorEq, Nat.reduceEqDiff, Nat.reduceAdd, Nat.reduceLeDiff, Nat.reduceLT, Nat.reduceMul, Nat.reduceSub, ↓reduceIte, Int.reduceLT, Int.reduceLE, Int.reduceNeg, Int.reduceAdd, Int.reduceEq, Nat.reduceBneDiff, Nat.reduceBEq, Int.reduceToNat, Int.reduceMul, Int.reduceSub, Int.reduceBEq, Int.reduceBNe, Int.cast_ofNat_Int, Int.toNat_natCast_add_one, Nat.add_left_cancel_iff, Nat.left_eq_add, Nat.add_eq_left, Int.toNat_natCast, Nat.add_assoc, Int.ofNat_lt, Int.ofNat_le, Nat.lt_add_one_of_lt, Nat.lt_add_one, Nat.lt_add_right, Nat.lt_add_right_iff_pos, Nat.add_lt_add_iff_left, hqnB, hqn1B, hcnB, hcn1B, hxB, hEB, hv, hl1, hl2, w1, w2, ft, hu0, hu1, eq_next_f hcn1B, eq_next_f' hcn1B, eq_next_k hcn1B, eq_next_k' hcn1B, g4, g3, g2]
            rw [Wk_loop]
            simp -implicitDefEqProofs only [go_sem, Wk_block, Wk_drawnC, reduceCtorEq, Nat.reduceEqDiff, Nat.reduceAdd, Nat.reduceLeDiff, Nat.reduceLT, Nat.reduceMul, Nat.reduceSub, ↓reduceIte, Int.reduceLT, Int.reduceLE, Int.reduceNeg, Int.reduceAdd, Int.reduceEq, Nat.reduceBneDiff, Nat.reduceBEq, Int.reduceToNat, Int.reduceMul, Int.reduceSub, Int.reduceBEq, Int.reduceBNe, Int.cast_ofNat_Int, Int.toNat_natCast_add_one, Nat.add_left_cancel_iff, Nat.left_eq_add, Nat.add_eq_left, Int.toNat_natCast, Nat.add_assoc, Int.ofNat_lt, Int.ofNat_le, Nat.lt_add_one_of_lt, Nat.lt_add_one, Nat.lt_add_right, Nat.lt_add_right_iff_pos, Nat.add_lt_add_iff_left, hqnB, hqn1B, hcnB, hcn1B, hxB, hEB, hv, hl1, hl2, w1, w2, ft, hu0, hu1, eq_next_f hcn1B, eq_next_f' hcn1B, eq_next_k hcn1B, eq_next_k' hcn1B, g4, g3, g2, Wr_nil]
            refine ⟨_, ?_, .inr ⟨rfl, ?_, hgood⟩⟩
            · (repeat (first | exact FrX.refl _ _ | exact Fr.refl _ | assumption | exact Fr.x (by assumption) _ | refine FrX.put ?_ (.inl rfl) _ | refine FrX.put ?_ (.inr (by first | omega | (simp; done) | (simp; omega))) _ | refine FrX.new ?_ _ | refine Fr.put ?_ (by first | omega | (simp; done) | (simp; omega)) _ | refine Fr.new ?_ _ | refine FrX.then ?_ (by assumption) | refine Fr.trans ?_ (by assumption)))
            rw [← hTT]
            simp -implicitDefEqProofs only [go_sem, Wk_block, Wk_drawnC, reduceCtorEq, Nat.reduceEqDiff, Nat.reduceAdd, Nat.reduceLeDiff, Nat.reduceLT, Nat.reduceMul, Nat.reduceSub, ↓reduceIte, Int.reduceLT, Int.reduceLE, Int.reduceNeg, Int.reduceAdd, Int.reduceEq, Nat.reduceBneDiff, Nat.reduceBEq, Int.reduceToNat, Int.reduceMul, Int.reduceSub, Int.reduceBEq, Int.reduceBNe, Int.cast_ofNat_Int, Int.toNat_natCast_add_one, Nat.add_left_cancel_iff, Nat.left_eq_add, Nat.add_eq_left, Int.toNat_natCast, Nat.add_assoc, Int.ofNat_lt, Int.ofNat_le, Nat.lt_add_one_of_lt, Nat.lt_add_one, Nat.lt_add_right, Nat.lt_add_right_iff_pos, Nat.add_lt_add_iff_left, Lies, hcnB, hcn1B, eq_next_f hcnB, eq_next_f' hcnB, eq_next_f hcn1B, eq_next_f' hcn1B, hEB]
            try rfl
        · simp -implicitDefEqProofs only [go_sem, Wk_block, Wk_drawnC, reduceCtorEq, Nat.reduceEqDiff, Nat.reduceAdd, Nat.reduceLeDiff, Nat.reduceLT, Nat.reduceMul, Nat.reduceSub, ↓reduceIte, Int.reduceLT, Int.reduceLE, Int.reduceNeg, Int.reduceAdd, Int.reduceEq, Nat.reduceBneDiff, Nat.reduceBEq, Int.reduceToNat, Int.reduceMul, Int.reduceSub, Int.reduceBEq, Int.reduceBNe, Int.cast_ofNat_Int, Int.toNat_natCast_add_one, Nat.add_left_cancel_iff, Nat.left_eq_add, Nat.add_eq_left, Int.toNat_natCast, Nat.add_assoc, Int.ofNat_lt, Int.ofNat_le, Nat.lt_add_one_of_lt, Nat.lt_add_one, Nat.lt_add_right, Nat.lt_add_right_iff_pos, Nat.add_lt_add_iff_left, g16, g15, g4, g5, g2, g3, hqn, hqn1, hx5, hk, he25, h25, hl0, hl2, hl1, ht, hE5, w1, w2, ft, hv, hk9, he0]
          refine Wl_of (promoted_run x hok top _) ?_
          rintro _ s6 ⟨rfl, f6⟩
          have f06 := f5.trans f6
          cases hpm : prom x top
          · have hc6 : s6.get c = some (.cells [.bool false] false false 0) := (f6.get c hcn).trans hc5
            simp -implicitDefEqProofs only [go_sem, Wk_block, Wk_drawnC, reduceCtorEq, Nat.reduceEqDiff, Nat.reduceAdd, Nat.reduceLeDiff, Nat.reduceLT, Nat.reduceMul, Nat.reduceSub, ↓reduceIte, Int.reduceLT, Int.reduceLE, Int.reduceNeg, Int.reduceAdd, Int.reduceEq, Nat.reduceBneDiff, Nat.reduceBEq, Int.reduceToNat, Int.reduceMul, Int.reduceSub, Int.reduceBEq, Int.reduceBNe, Int.cast_ofNat_Int, Int.toNat_natCast_add_one, Nat.add_left_cancel_iff, Nat.left_eq_add, Nat.add_eq_left, Int.toNat_natCast, Nat.add_assoc, Int.ofNat_lt, Int.ofNat_le, Nat.lt_add_one_of_lt, Nat.lt_add_one, Nat.lt_add_right, Nat.lt_add_right_iff_pos, Nat.add_lt_add_iff_left, g2, hc6, ft, Wr_nil]
            refine ⟨s6, f06.x _, ?_⟩
            simp [okE, hk9, he0, hpm]
          · have hx6 := (f06.get q (by omega)).trans hx4
            simp -implicitDefEqProofs only [go_sem, Wk_block, Wk_drawnC, reduceCtorEq, Nat.reduceEqDiff, Nat.reduceAdd, Nat.reduceLeDiff, Nat.reduceLT, Nat.reduceMul, Nat.reduceSub, ↓reduceIte, Int.reduceLT, Int.reduceLE, Int.reduceNeg, Int.reduceAdd, Int.reduceEq, Nat.reduceBneDiff, Nat.reduceBEq, Int.reduceToNat, Int.reduceMul, Int.reduceSub, Int.reduceBEq, Int.reduceBNe, Int.cast_ofNat_Int, Int.toNat_natCast_add_one, Nat.add_left_cancel_iff, Nat.left_eq_add, Nat.add_eq_left, Int.toNat_natCast, Nat.add_assoc, Int.ofNat_lt, Int.ofNat_le, Nat.lt_add_one_of_lt, Nat.lt_add_one, Nat.lt_add_right, Nat.lt_add_right_iff_pos, Nat.add_lt_add_iff_left, g4, g2, g3, hx6, hl1, hl2, hv, ft]
            have hxB := (f06.get q (by omega)).trans hx4
            have hEB : s6.get (c + 1) = some (.cells [.int .u32 top] false false 0) := (f06.get (c + 1) (by omega)).trans hE4
            have hqnB : q < s6.next := by have := (f06).le; omega
            have hqn1B : q + 1 < s6.next := by have := (f06).le; omega
            have hcnB : c < s6.next := by omega
            have hcn1B : c + 1 < s6.next := by omega
            have hgood : okE top la x = true := by simp [okE, ok0, ok1, hk9, he0, hpm]
            have fB : FrX (c + 1) s4 s6 := (f06).x _
            cases hu0 : x.v0.up <;> cases hu1 : x.v1.up
            all_goals
              rw [hu0, hu1] at hTT
              simp only [if_true, if_false, Bool.false_eq_true] at hTT
              rw [Wk_loop]
              simp -implicitDefEqProofs only [go_sem, Wk_block, Wk_drawnC, reduceCtorEq, Nat.reduceEqDiff, Nat.reduceAdd, Nat.reduceLeDiff, Nat.reduceLT, Nat.reduceMul, Nat.reduceSub, ↓reduceIte, Int.reduceLT, Int.reduceLE, Int.reduceNeg, Int.reduceAdd, Int.reduceEq, Nat.reduceBneDiff, Nat.reduceBEq, Int.reduceToNat, Int.reduceMul, Int.reduceSub, Int.reduceBEq, Int.reduceBNe, Int.cast_ofNat_Int, Int.toNat_natCast_add_one, Nat.add_left_cancel_iff, Nat.left_eq_add, Nat.add_eq_left, Int.toNat_natCast, Nat.add_assoc, Int.ofNat_lt, Int.ofNat_le, Nat.lt_add_one_of_lt, Nat.lt_add_one, Nat.lt_add_right, Nat.lt_add_right_iff_pos, Nat.add_lt_add_iff_left, hqnB, hqn1B, hcnB, hcn1B, hxB, hEB, hv, hl1, hl2, w1, w2, ft, hu0, hu1, eq_next_f hcn1B, eq_next_f' hcn1B, eq_next_k hcn1B, eq_next_k' hcn1B, g4, g3, g2]
              rw [Wk_loop]
              simp -implicitDefEqProofs only [go_sem, Wk_block, Wk_drawnC, reduceCtorEq, Nat.reduceEqDiff, Nat.reduceAdd, Nat.reduceLeDiff, Nat.reduceLT, Nat.reduceMul, Nat.reduceSub, ↓reduceIte, Int.reduceLT, Int.reduceLE, Int.reduceNeg, Int.reduceAdd, Int.reduceEq, Nat.reduceBneDiff, Nat.reduceBEq, Int.reduceToNat, Int.reduceMul, Int.reduceSub, Int.reduceBEq, Int.reduceBNe, Int.cast_ofNat_Int, Int.toNat_natCast_add_one, Nat.add_left_cancel_iff, Nat.left_eq_add, Nat.add_eq_left, Int.toNat_natCast, Nat.add_assoc, Int.ofNat_lt, Int.ofNat_le, Nat.lt_add_one_of_lt, Nat.lt_add_one, Nat.lt_add_right, Nat.lt_add_right_iff_pos, Nat.add_lt_add_iff_left, hqnB, hqn1B, hcnB, hcn1B, hxB, hEB, hv, hl1, hl2, w1, w2, ft, hu0, hu1, eq_next_f hcn1B, eq_next_f' hcn1B, eq_next_k hcn1B, eq_next_k' hcn1B, g4, g3, g2]
              rw [Wk_loop]
              simp -implicitDefEqProofs only [go_sem, Wk_block, Wk_drawnC, reduceCtorEq, Nat.reduceEqDiff, Nat.reduceAdd, Nat.reduceLeDiff, Nat.reduceLT, Nat.reduceMul, Nat.reduceSub, ↓reduceIte, Int.reduceLT, Int.reduceLE, Int.reduceNeg, Int.reduceAdd, Int.reduceEq, Nat.reduceBneDiff, Nat.reduceBEq, Int.reduceToNat, Int.reduceMul, Int.reduceSub, Int.reduceBEq, Int.reduceBNe, Int.cast_ofNat_Int, Int.toNat_natCast_add_one, Nat.add_left_cancel_iff, Nat.left_eq_add, Nat.add_eq_left, Int.toNat_natCast, Nat.add_assoc, Int.ofNat_lt, Int.ofNat_le, Nat.lt_add_one_of_lt, Nat.lt_add_one, Nat.lt_add_right, Nat.lt_add_right_iff_pos, Nat.add_lt_add_iff_left, hqnB, hqn1B, hcnB, hcn1B, hxB, hEB, hv, hl1, hl2, w1, w2, ft, hu0, hu1, eq_next_f hcn1B, eq_next_f' hcn1B, eq_next_k hcn1B, eq_next_k' hcn1B, g4, g3, g2, Wr_nil]
              refine ⟨_, ?_, .inr ⟨rfl, ?_, hgood⟩⟩
              · (repeat (first | exact FrX.refl _ _ | exact Fr.refl _ | assumption | exact Fr.x (by assumption) _ | refine FrX.put ?_ (.inl rfl) _ | refine FrX.put ?_ (.inr (by first | omega | (simp; done) | (simp; omega))) _ | refine FrX.new ?_ _ | refine Fr.put ?_ (by first | omega | (simp; done) | (simp; omega)) _ | refine Fr.new ?_ _ | refine FrX.then ?_ (by assumption) | refine Fr.trans ?_ (by assumption)))
              rw [← hTT]
              simp -implicitDefEqProofs only [go_sem, Wk_block, Wk_drawnC, reduceCtorEq, Nat.reduceEqDiff, Nat.reduceAdd, Nat.reduceLeDiff, Nat.reduceLT, Nat.reduceMul, Nat.reduceSub, ↓reduceIte, Int.reduceLT, Int.reduceLE, Int.reduceNeg, Int.reduceAdd, Int.reduceEq, Nat.reduceBneDiff, Nat.reduceBEq, Int.reduceToNat, Int.reduceMul, Int.reduceSub, Int.reduceBEq, Int.reduceBNe, Int.cast_ofNat_Int, Int.toNat_natCast_add_one, Nat.add_left_cancel_iff, Nat.left_eq_add, Nat.add_eq_left, Int.toNat_natCast, Nat.add_assoc, Int.ofNat_lt, Int.ofNat_le, Nat.lt_add_one_of_lt, Nat.lt_add_one, Nat.lt_add_right, Nat.lt_add_right_iff_pos, Nat.add_lt_add_iff_left, Lies, hcnB, hcn1B, eq_next_f hcnB, eq_next_f' hcnB, eq_next_f hcn1B, eq_next_f' hcn1B, hEB]
              try rfl
  · refine ⟨?_, ?_, ?_, ?_, f2, fun i _ h => by omega⟩
    · rw [St.get_new, if_pos (by simp only [St.next_new]; omega)]
    · rw [St.get_new, if_neg (by simp only [St.next_new]; omega), St.get_new, if_pos (by omega)]
    · rw [Lies, St.get_new, if_neg (by simp only [St.next_new]; omega), St.get_new, if_neg (by omega)]; exact hc1
    · rw [Lies, St.get_new, if_neg (by simp only [St.next_new]; omega), St.get_new, if_neg (by omega)]; exact hE1
  · rintro w s3 ⟨hle, ⟨h1, h2, h3, _, h4, h5⟩ | ⟨h1, h2, h3, h4, i, hi, h5⟩⟩
    · refine ⟨_, _, _, _, _, _, _, h1, (by intro h; cases h), ?_⟩
      have hce : c ≠ e + 1 := by omega
      have hce' : c ≠ e := by omega
      unfold Lies at h3
      simp -implicitDefEqProofs only [go_sem, Wk_block, Wk_drawnC, reduceCtorEq, Nat.reduceEqDiff, Nat.reduceAdd, Nat.reduceLeDiff, Nat.reduceLT, Nat.reduceMul, Nat.reduceSub, ↓reduceIte, Int.reduceLT, Int.reduceLE, Int.reduceNeg, Int.reduceAdd, Int.reduceEq, Nat.reduceBneDiff, Nat.reduceBEq, Int.reduceToNat, Int.reduceMul, Int.reduceSub, Int.reduceBEq, Int.reduceBNe, Int.cast_ofNat_Int, Int.toNat_natCast_add_one, Nat.add_left_cancel_iff, Nat.left_eq_add, Nat.add_eq_left, Int.toNat_natCast, Nat.add_assoc, Int.ofNat_lt, Int.ofNat_le, Nat.lt_add_one_of_lt, Nat.lt_add_one, Nat.lt_add_right, Nat.lt_add_right_iff_pos, Nat.add_lt_add_iff_left, g2, h3, h2, hce, hce', Ne.symm hce, Ne.symm hce', Nat.add_eq_left]
      refine ⟨⟨true, rfl, by simpa using fun j hj => h5 j hj hj⟩, ⟨by simp only [St.next_drop, St.next_put]; exact h4.le, fun b hb => ?_⟩⟩
      rw [St.get_drop, if_neg (by omega), St.get_put, if_neg (by omega), St.get_put, if_neg (by omega)]
      exact h4.get b hb
    · refine ⟨_, _, _, _, _, _, _, h1, (by intro h; cases h), ?_⟩
      have hce : c ≠ e + 1 := by omega
      have hce' : c ≠ e := by omega
      unfold Lies at h3
      simp -implicitDefEqProofs only [go_sem, Wk_block, Wk_drawnC, reduceCtorEq, Nat.reduceEqDiff, Nat.reduceAdd, Nat.reduceLeDiff, Nat.reduceLT, Nat.reduceMul, Nat.reduceSub, ↓reduceIte, Int.reduceLT, Int.reduceLE, Int.reduceNeg, Int.reduceAdd, Int.reduceEq, Nat.reduceBneDiff, Nat.reduceBEq, Int.reduceToNat, Int.reduceMul, Int.reduceSub, Int.reduceBEq, Int.reduceBNe, Int.cast_ofNat_Int, Int.toNat_natCast_add_one, Nat.add_left_cancel_iff, Nat.left_eq_add, Nat.add_eq_left, Int.toNat_natCast, Nat.add_assoc, Int.ofNat_lt, Int.ofNat_le, Nat.lt_add_one_of_lt, Nat.lt_add_one, Nat.lt_add_right, Nat.lt_add_right_iff_pos, Nat.add_lt_add_iff_left, g2, h3, h2, hce, hce', Ne.symm hce, Ne.symm hce', Nat.add_eq_left]
      refine ⟨⟨false, rfl, ⟨fun h => (by cases h), fun h => (by rw [h i hi] at h5; cases h5)⟩⟩, ⟨by simp only [St.next_drop, St.next_put]; exact h4.le, fun b hb => ?_⟩⟩
      rw [St.get_drop, if_neg (by omega), St.get_put, if_neg (by omega)]
      exact h4.get b hb
end Go.Proofs.Yteffppdkofdmdaa
namespace Go.Proofs.Yteffppdkofdmdaa
open D
set_option linter.unusedSimpArgs false
set_option linter.unusedVariables false
set_option maxRecDepth 10000

abbrev Ld := Int → Option Int
def upd (f : Ld) (a v : Int) : Ld := fun k => if k = a then some v else f k
def stepL (f : Ld) (i : Int) (v : Vw) : Option Ld :=
  if v.up && v.prim then (match f v.epoch with | some who => if who = i then some f else none | none => some (upd f v.epoch i)) else some f
def stepM (f : Ld) (m : Mo) : Option Ld := (stepL f 0 m.v0).bind fun f1 => stepL f1 1 m.v1
def leads (l : List Mo) : Option Ld := l.foldl (fun a m => a.bind fun f => stepM f m) (some fun _ => none)
theorem leads_snoc (l : List Mo) (m : Mo) : leads (l ++ [m]) = (leads l).bind fun f => stepM f m := by
  simp only [leads, List.foldl_append, List.foldl_cons, List.foldl_nil]
theorem leads_take {l : List Mo} {j : Nat} (hj : j < l.length) : leads (l.take (j + 1)) = (leads (l.take j)).bind fun f => stepM f l[j] := by
  rw [List.take_succ_eq_append_getElem hj, leads_snoc]
theorem leads_none : ∀ (b a : List Mo), leads a = none → leads (a ++ b) = none
  | [], a, h => by rw [List.append_nil]; exact h
  | m :: b, a, h => by
    rw [show a ++ m :: b = (a ++ [m]) ++ b by simp]
    exact leads_none b _ (by rw [leads_snoc, h]; rfl)
theorem leads_pre {l : List Mo} {j : Nat} (h : leads (l.take j) = none) : leads l = none := by
  have := leads_none (l.drop j) _ h
  rwa [List.take_append_drop] at this

/-- What a map holds. -/
def MapIs (es : List (AV × AV × Nat)) (f : Ld) : Prop := ∀ a, match f a with
  | none => findA .u32 a es 0 = some none
  | some v => ∃ i, findA .u32 a es 0 = some (some (i, .int .i64 v))
theorem find_add {a : Int} {v : AV} {c : Nat} (b : Int) : ∀ (es : List (AV × AV × Nat)) (n : Nat), findA .u32 a es n = some none → findA .u32 b (es ++ [(.int .u32 a, v, c)]) n = (match findA .u32 b es n with | some none => if b = a then some (some (n + es.length, v)) else some none | x => x)
  | [], n, _ => by
    show (if b == a then some (some (n, v)) else some none) = (if b = a then some (some (n + 0, v)) else some none)
    by_cases h : b = a <;> simp [h]
  | (k, w, d) :: r, n, h => by
    cases k
    case int k x =>
      rw [List.cons_append]
      unfold findA at h ⊢
      by_cases hk : IntKind.u32 = k
      · rw [if_pos hk] at h ⊢
        by_cases hx : a == x
        · rw [if_pos hx] at h; cases h
        · rw [if_neg hx] at h
          by_cases hb : b == x
          · rw [if_pos hb, if_pos hk, if_pos hb]
          · rw [if_neg hb, if_pos hk, if_neg hb, find_add b r (n + 1) h]
            simp only [List.length_cons]
            rw [show n + 1 + r.length = n + (r.length + 1) by omega]
      · rw [if_neg hk] at h; cases h
    all_goals (unfold findA at h; cases h)
theorem MapIs.add {es : List (AV × AV × Nat)} {f : Ld} (h : MapIs es f) {a : Int} (ha : f a = none) (i : Int) (c : Nat) : MapIs (es ++ [(.int .u32 a, .int .i64 i, c)]) (upd f a i) := by
  have h0 := h a
  rw [ha] at h0
  intro b
  have hb := h b
  rw [find_add b es 0 h0]
  unfold upd
  by_cases hba : b = a
  · subst hba
    rw [if_pos rfl]
    dsimp only at h0 ⊢
    rw [h0]
    exact ⟨_, by rw [if_pos rfl]⟩
  · rw [if_neg hba]
    cases hf : f b with
    | none => rw [hf] at hb; dsimp only at hb ⊢; rw [hb]; simp [hba]
    | some v => rw [hf] at hb; obtain ⟨j, hb⟩ := hb; dsimp only; rw [hb]; exact ⟨j, rfl⟩
theorem find_at {a : Int} {v : AV} : ∀ (es : List (AV × AV × Nat)) (n i : Nat), findA .u32 a es n = some (some (i, v)) → ∃ j, i = n + j ∧ ∃ c, es[j]? = some (.int .u32 a, v, c)
  | [], n, i, h => by cases h
  | (k, w, d) :: r, n, i, h => by
    cases k
    case int k x =>
      unfold findA at h
      by_cases hk : IntKind.u32 = k
      · rw [if_pos hk] at h
        by_cases hx : a == x
        · rw [if_pos hx] at h
          cases h
          have : a = x := by simpa using hx
          subst this; subst hk
          exact ⟨0, rfl, d, rfl⟩
        · rw [if_neg hx] at h
          obtain ⟨j, rfl, c, hc⟩ := find_at r (n + 1) i h
          exact ⟨j + 1, by omega, c, hc⟩
      · rw [if_neg hk] at h; cases h
    all_goals (unfold findA at h; cases h)
theorem modify_same {α : Type} (g : α → α) : ∀ (l : List α) (i : Nat), (∀ x, l[i]? = some x → g x = x) → l.modify i g = l
  | [], i, _ => by cases i <;> rfl
  | x :: r, 0, h => by simp [List.modify_zero_cons, h x rfl]
  | x :: r, i + 1, h => by rw [List.modify_succ_cons, modify_same g r i (fun y hy => h y hy)]
theorem find_same {a : Int} {v : AV} {es : List (AV × AV × Nat)} {i : Nat} (h : findA .u32 a es 0 = some (some (i, v))) : es.modify i (fun e => (AV.int .u32 a, v, e.2.2)) = es := by
  obtain ⟨j, rfl, c, hc⟩ := find_at es 0 i h
  refine modify_same _ _ _ fun x hx => ?_
  rw [Nat.zero_add, hc] at hx
  cases hx
  rfl

theorem Lone_run (ms : List Mo) (hm : ∀ m ∈ ms, MoOk m) {v : AV} {ba oa : Nat} {s : St} (hA : Acc s v 58 (ms.map Mo.cells) ba oa) :
    Wf mm 11 [v] s fun w s' => w = .bool (leads ms).isSome ∧ Fr s s' := by
  refine Wf_enter ft11 (sm (by decide)) (by rfl) ?_
  have hmax := hA.max
  rw [List.length_map] at hmax
  unfold maxLen at hmax
  obtain ⟨R, hR⟩ : ∃ R, s.next = R := ⟨_, rfl⟩
  simp -implicitDefEqProofs only [go_sem, Wk_block, Wk_drawnC, reduceCtorEq, Nat.reduceEqDiff, Nat.reduceAdd, Nat.reduceLeDiff, Nat.reduceLT, Nat.reduceMul, Nat.reduceSub, ↓reduceIte, Int.reduceLT, Int.reduceLE, Int.reduceNeg, Int.reduceAdd, Int.reduceEq, Nat.reduceBneDiff, Nat.reduceBEq, Int.reduceToNat, Int.reduceMul, Int.reduceSub, Int.reduceBEq, Int.reduceBNe, Int.cast_ofNat_Int, Int.toNat_natCast_add_one, Nat.add_left_cancel_iff, Nat.left_eq_add, Nat.add_eq_left, Int.toNat_natCast, Nat.add_assoc, Int.ofNat_lt, Int.ofNat_le, Nat.lt_add_one_of_lt, Nat.lt_add_one, Nat.lt_add_right, Nat.lt_add_right_iff_pos, Nat.add_lt_add_iff_left, fd11, hA.len, List.length_map, hR]
  have hs0 : Fr s (s.new (.map [] 0)) := (Fr.refl s).new _
  have hm0 : (s.new (.map [] 0)).get R = some (.map [] 0) := by rw [← hR]; simp only [St.get_new, if_true]
  have hn0 : R < (s.new (.map [] 0)).next := by rw [← hR]; exact Nat.lt_succ_self _
  generalize s.new (.map [] 0) = s0 at *
  refine loop_ind (fun m ts s' => ∃ j : Nat, m = ms.length - j ∧ j ≤ ms.length ∧ ts.get 13 = some (.int .i64 j) ∧ ts.get 12 = some (.int .i64 ms.length) ∧ ts.get 11 = some v ∧ ts.get 3 = some (.map R) ∧ Fr s s' ∧ R < s'.next ∧
    ∃ es cl f, s'.get R = some (.map es cl) ∧ MapIs es f ∧ leads (ms.take j) = some f) ?_ (n := ms.length)
    ⟨0, by omega, by omega, by simp only [go_sem, Wk_block, Wk_drawnC, reduceCtorEq, Nat.reduceEqDiff, Nat.reduceAdd, Nat.reduceLeDiff, Nat.reduceLT, Nat.reduceMul, Nat.reduceSub, ↓reduceIte, Int.reduceLT, Int.reduceLE, Int.reduceNeg, Int.reduceAdd, Int.reduceEq, Nat.reduceBneDiff, Nat.reduceBEq, Int.reduceToNat, Int.reduceMul, Int.reduceSub, Int.reduceBEq, Int.reduceBNe, Int.cast_ofNat_Int, Int.toNat_natCast_add_one, Nat.add_left_cancel_iff, Nat.left_eq_add, Nat.add_eq_left, Int.toNat_natCast, Nat.add_assoc, Int.ofNat_lt, Int.ofNat_le], by simp only [go_sem, Wk_block, Wk_drawnC, reduceCtorEq, Nat.reduceEqDiff, Nat.reduceAdd, Nat.reduceLeDiff, Nat.reduceLT, Nat.reduceMul, Nat.reduceSub, ↓reduceIte, Int.reduceLT, Int.reduceLE, Int.reduceNeg, Int.reduceAdd, Int.reduceEq, Nat.reduceBneDiff, Nat.reduceBEq, Int.reduceToNat, Int.reduceMul, Int.reduceSub, Int.reduceBEq, Int.reduceBNe, Int.cast_ofNat_Int, Int.toNat_natCast_add_one, Nat.add_left_cancel_iff, Nat.left_eq_add, Nat.add_eq_left, Int.toNat_natCast, Nat.add_assoc, Int.ofNat_lt, Int.ofNat_le], by simp only [go_sem, Wk_block, Wk_drawnC, reduceCtorEq, Nat.reduceEqDiff, Nat.reduceAdd, Nat.reduceLeDiff, Nat.reduceLT, Nat.reduceMul, Nat.reduceSub, ↓reduceIte, Int.reduceLT, Int.reduceLE, Int.reduceNeg, Int.reduceAdd, Int.reduceEq, Nat.reduceBneDiff, Nat.reduceBEq, Int.reduceToNat, Int.reduceMul, Int.reduceSub, Int.reduceBEq, Int.reduceBNe, Int.cast_ofNat_Int, Int.toNat_natCast_add_one, Nat.add_left_cancel_iff, Nat.left_eq_add, Nat.add_eq_left, Int.toNat_natCast, Nat.add_assoc, Int.ofNat_lt, Int.ofNat_le], by simp only [go_sem, Wk_block, Wk_drawnC, reduceCtorEq, Nat.reduceEqDiff, Nat.reduceAdd, Nat.reduceLeDiff, Nat.reduceLT, Nat.reduceMul, Nat.reduceSub, ↓reduceIte, Int.reduceLT, Int.reduceLE, Int.reduceNeg, Int.reduceAdd, Int.reduceEq, Nat.reduceBneDiff, Nat.reduceBEq, Int.reduceToNat, Int.reduceMul, Int.reduceSub, Int.reduceBEq, Int.reduceBNe, Int.cast_ofNat_Int, Int.toNat_natCast_add_one, Nat.add_left_cancel_iff, Nat.left_eq_add, Nat.add_eq_left, Int.toNat_natCast, Nat.add_assoc, Int.ofNat_lt, Int.ofNat_le], hs0, hn0, [], 0, _, hm0, fun _ => rfl, rfl⟩
  rintro m ts s1 ⟨j, rfl, hj, g13, g12, g11, g3, f1, hR1, es, cl, f, hmap, hf, hld⟩ IH
  by_cases hlt : j < ms.length
  · have hjl : j < (ms.map Mo.cells).length := by rw [List.length_map]; exact hlt
    have hA1 := hA.mono f1
    obtain ⟨vs, hv, hp, hq⟩ := hA1.part j hjl
    simp only [List.getElem_map] at hp hq
    have hok := hm ms[j] (List.getElem_mem hlt)
    have hp0 := hp 0 58 (by omega)
    have hlt1 := leads_take hlt
    rw [hld] at hlt1
    have hbad : leads (ms.take (j + 1)) = none → leads ms = none := leads_pre
    generalize hx : ms[j] = x at *
    have hlen := hok.len
    have hcell := hok.cell
    have ht : x.cells.take 58 = x.cells := List.take_of_length_le (by omega)
    simp only [Nat.add_zero, Nat.add_assoc, List.drop_zero, ht] at hp0
    have w13 := succ_in (j := j) (by omega)
    have hvv := hok.v
    unfold Vw.enc at hvv
    have hl14 : 44 + 14 ≤ x.cells.length := by omega
    have hl58 : 58 ≤ x.cells.length := by omega
    simp -implicitDefEqProofs only [go_sem, Wk_block, Wk_drawnC, reduceCtorEq, Nat.reduceEqDiff, Nat.reduceAdd, Nat.reduceLeDiff, Nat.reduceLT, Nat.reduceMul, Nat.reduceSub, ↓reduceIte, Int.reduceLT, Int.reduceLE, Int.reduceNeg, Int.reduceAdd, Int.reduceEq, Nat.reduceBneDiff, Nat.reduceBEq, Int.reduceToNat, Int.reduceMul, Int.reduceSub, Int.reduceBEq, Int.reduceBNe, Int.cast_ofNat_Int, Int.toNat_natCast_add_one, Nat.add_left_cancel_iff, Nat.left_eq_add, Nat.add_eq_left, Int.toNat_natCast, Nat.add_assoc, Int.ofNat_lt, Int.ofNat_le, Nat.lt_add_one_of_lt, Nat.lt_add_one, Nat.lt_add_right, Nat.lt_add_right_iff_pos, Nat.add_lt_add_iff_left, g13, g12, g11, g3, hlt, hA1.idx _ _ hjl, hv, hp0, hlen, hcell, hvv, hl14, hl58, w13]
    have f2 : Fr s (s1.new (.cells x.cells false false 0)) := f1.new _
    have hm2 : (s1.new (.cells x.cells false false 0)).get R = some (.map es cl) := by rw [St.get_new, if_neg (by omega)]; exact hmap
    have hR2 : R < (s1.new (.cells x.cells false false 0)).next := by simp only [St.next_new]; omega
    generalize s1.new (.cells x.cells false false 0) = s2 at *
    refine loop_ind (fun m ts s' => ∃ i : Int, m = (2 - i).toNat ∧ ts.get 19 = some (.int .i64 i) ∧ ts.get 18 = some (.agg (x.v0.enc ++ x.v1.enc)) ∧
      ts.get 13 = some (.int .i64 j) ∧ ts.get 12 = some (.int .i64 ms.length) ∧ ts.get 11 = some v ∧ ts.get 3 = some (.map R) ∧ Fr s s' ∧ R < s'.next ∧ ∃ es cl f', s'.get R = some (.map es cl) ∧ MapIs es f' ∧
      ((i = 0 ∧ f' = f) ∨ (i = 1 ∧ stepL f 0 x.v0 = some f') ∨ (i = 2 ∧ stepM f x = some f'))) ?_ (n := 2)
      ⟨0, rfl, by simp only [go_sem, Wk_block, Wk_drawnC, reduceCtorEq, Nat.reduceEqDiff, Nat.reduceAdd, Nat.reduceLeDiff, Nat.reduceLT, Nat.reduceMul, Nat.reduceSub, ↓reduceIte, Int.reduceLT, Int.reduceLE, Int.reduceNeg, Int.reduceAdd, Int.reduceEq, Nat.reduceBneDiff, Nat.reduceBEq, Int.reduceToNat, Int.reduceMul, Int.reduceSub, Int.reduceBEq, Int.reduceBNe, Int.cast_ofNat_Int, Int.toNat_natCast_add_one, Nat.add_left_cancel_iff, Nat.left_eq_add, Nat.add_eq_left, Int.toNat_natCast, Nat.add_assoc, Int.ofNat_lt, Int.ofNat_le], by simp only [go_sem, Wk_block, Wk_drawnC, reduceCtorEq, Nat.reduceEqDiff, Nat.reduceAdd, Nat.reduceLeDiff, Nat.reduceLT, Nat.reduceMul, Nat.reduceSub, ↓reduceIte, Int.reduceLT, Int.reduceLE, Int.reduceNeg, Int.reduceAdd, Int.reduceEq, Nat.reduceBneDiff, Nat.reduceBEq, Int.reduceToNat, Int.reduceMul, Int.reduceSub, Int.reduceBEq, Int.reduceBNe, Int.cast_ofNat_Int, Int.toNat_natCast_add_one, Nat.add_left_cancel_iff, Nat.left_eq_add, Nat.add_eq_left, Int.toNat_natCast, Nat.add_assoc, Int.ofNat_lt, Int.ofNat_le, Vw.enc], by simp only [go_sem, Wk_block, Wk_drawnC, reduceCtorEq, Nat.reduceEqDiff, Nat.reduceAdd, Nat.reduceLeDiff, Nat.reduceLT, Nat.reduceMul, Nat.reduceSub, ↓reduceIte, Int.reduceLT, Int.reduceLE, Int.reduceNeg, Int.reduceAdd, Int.reduceEq, Nat.reduceBneDiff, Nat.reduceBEq, Int.reduceToNat, Int.reduceMul, Int.reduceSub, Int.reduceBEq, Int.reduceBNe, Int.cast_ofNat_Int, Int.toNat_natCast_add_one, Nat.add_left_cancel_iff, Nat.left_eq_add, Nat.add_eq_left, Int.toNat_natCast, Nat.add_assoc, Int.ofNat_lt, Int.ofNat_le, g13], by simp only [go_sem, Wk_block, Wk_drawnC, reduceCtorEq, Nat.reduceEqDiff, Nat.reduceAdd, Nat.reduceLeDiff, Nat.reduceLT, Nat.reduceMul, Nat.reduceSub, ↓reduceIte, Int.reduceLT, Int.reduceLE, Int.reduceNeg, Int.reduceAdd, Int.reduceEq, Nat.reduceBneDiff, Nat.reduceBEq, Int.reduceToNat, Int.reduceMul, Int.reduceSub, Int.reduceBEq, Int.reduceBNe, Int.cast_ofNat_Int, Int.toNat_natCast_add_one, Nat.add_left_cancel_iff, Nat.left_eq_add, Nat.add_eq_left, Int.toNat_natCast, Nat.add_assoc, Int.ofNat_lt, Int.ofNat_le, g12], by simp only [go_sem, Wk_block, Wk_drawnC, reduceCtorEq, Nat.reduceEqDiff, Nat.reduceAdd, Nat.reduceLeDiff, Nat.reduceLT, Nat.reduceMul, Nat.reduceSub, ↓reduceIte, Int.reduceLT, Int.reduceLE, Int.reduceNeg, Int.reduceAdd, Int.reduceEq, Nat.reduceBneDiff, Nat.reduceBEq, Int.reduceToNat, Int.reduceMul, Int.reduceSub, Int.reduceBEq, Int.reduceBNe, Int.cast_ofNat_Int, Int.toNat_natCast_add_one, Nat.add_left_cancel_iff, Nat.left_eq_add, Nat.add_eq_left, Int.toNat_natCast, Nat.add_assoc, Int.ofNat_lt, Int.ofNat_le, g11], by simp only [go_sem, Wk_block, Wk_drawnC, reduceCtorEq, Nat.reduceEqDiff, Nat.reduceAdd, Nat.reduceLeDiff, Nat.reduceLT, Nat.reduceMul, Nat.reduceSub, ↓reduceIte, Int.reduceLT, Int.reduceLE, Int.reduceNeg, Int.reduceAdd, Int.reduceEq, Nat.reduceBneDiff, Nat.reduceBEq, Int.reduceToNat, Int.reduceMul, Int.reduceSub, Int.reduceBEq, Int.reduceBNe, Int.cast_ofNat_Int, Int.toNat_natCast_add_one, Nat.add_left_cancel_iff, Nat.left_eq_add, Nat.add_eq_left, Int.toNat_natCast, Nat.add_assoc, Int.ofNat_lt, Int.ofNat_le, g3], f2, hR2, es, cl, f, hm2, hf, .inl ⟨rfl, rfl⟩⟩
    clear g13 g12 g11 g3 hmap hf f1 hR1 hv hm2 hR2
    rintro n ts s3 ⟨i, rfl, g19, g18, g13, g12, g11, g3, f3, hR3, es, cl, f', hmap, hf, hcs⟩ IH2
    have w1 : IntKind.i64.wrap 1 = 1 := rfl
    have w2 : IntKind.i64.wrap 2 = 2 := rfl
    have ft : (false == true) = false := rfl
    unfold Vw.enc at g18
    rcases hcs with ⟨rfl, rfl⟩ | ⟨rfl, hs1⟩ | ⟨rfl, hs2⟩
    · cases hu : x.v0.up <;> cases hpr : x.v0.prim
      iterate 3
        · simp -implicitDefEqProofs only [go_sem, Wk_block, Wk_drawnC, reduceCtorEq, Nat.reduceEqDiff, Nat.reduceAdd, Nat.reduceLeDiff, Nat.reduceLT, Nat.reduceMul, Nat.reduceSub, ↓reduceIte, Int.reduceLT, Int.reduceLE, Int.reduceNeg, Int.reduceAdd, Int.reduceEq, Nat.reduceBneDiff, Nat.reduceBEq, Int.reduceToNat, Int.reduceMul, Int.reduceSub, Int.reduceBEq, Int.reduceBNe, Int.cast_ofNat_Int, Int.toNat_natCast_add_one, Nat.add_left_cancel_iff, Nat.left_eq_add, Nat.add_eq_left, Int.toNat_natCast, Nat.add_assoc, Int.ofNat_lt, Int.ofNat_le, Nat.lt_add_one_of_lt, Nat.lt_add_one, Nat.lt_add_right, Nat.lt_add_right_iff_pos, Nat.add_lt_add_iff_left, g19, g18, g13, g12, g11, g3, w1, ft, hR3, eq_next_f hR3, eq_next_f' hR3, hu, hpr]
          refine IH2 (1 : Int).toNat _ _ (by decide) ⟨1, rfl, ?_, ?_, ?_, ?_, ?_, ?_, f3.new _, ?_, es, cl, _, by rw [St.get_new, if_neg (by omega)]; exact hmap, hf, .inr (.inl ⟨rfl, by simp [stepL, hu, hpr]⟩)⟩
          all_goals (try simp only [go_sem, Wk_block, Wk_drawnC, reduceCtorEq, Nat.reduceEqDiff, Nat.reduceAdd, Nat.reduceLeDiff, Nat.reduceLT, Nat.reduceMul, Nat.reduceSub, ↓reduceIte, Int.reduceLT, Int.reduceLE, Int.reduceNeg, Int.reduceAdd, Int.reduceEq, Nat.reduceBneDiff, Nat.reduceBEq, Int.reduceToNat, Int.reduceMul, Int.reduceSub, Int.reduceBEq, Int.reduceBNe, Int.cast_ofNat_Int, Int.toNat_natCast_add_one, Nat.add_left_cancel_iff, Nat.left_eq_add, Nat.add_eq_left, Int.toNat_natCast, Nat.add_assoc, Int.ofNat_lt, Int.ofNat_le, g18, g13, g12, g11, g3, Vw.enc, hu, hpr])
          all_goals (try omega)
      have hme := hf x.v0.epoch
      cases hfe : f' x.v0.epoch with
      | none =>
        rw [hfe] at hme
        dsimp only at hme
        simp -implicitDefEqProofs only [go_sem, Wk_block, Wk_drawnC, reduceCtorEq, Nat.reduceEqDiff, Nat.reduceAdd, Nat.reduceLeDiff, Nat.reduceLT, Nat.reduceMul, Nat.reduceSub, ↓reduceIte, Int.reduceLT, Int.reduceLE, Int.reduceNeg, Int.reduceAdd, Int.reduceEq, Nat.reduceBneDiff, Nat.reduceBEq, Int.reduceToNat, Int.reduceMul, Int.reduceSub, Int.reduceBEq, Int.reduceBNe, Int.cast_ofNat_Int, Int.toNat_natCast_add_one, Nat.add_left_cancel_iff, Nat.left_eq_add, Nat.add_eq_left, Int.toNat_natCast, Nat.add_assoc, Int.ofNat_lt, Int.ofNat_le, Nat.lt_add_one_of_lt, Nat.lt_add_one, Nat.lt_add_right, Nat.lt_add_right_iff_pos, Nat.add_lt_add_iff_left, g19, g18, g13, g12, g11, g3, w1, ft, hR3, eq_next_f hR3, eq_next_f' hR3, hu, hpr, hmap, hme]
        refine IH2 (1 : Int).toNat _ _ (by decide) ⟨1, rfl, ?_, ?_, ?_, ?_, ?_, ?_, (f3.new _).put (by omega) _, ?_, _, _, _, by rw [St.get_put, if_pos rfl], hf.add hfe 0 _, .inr (.inl ⟨rfl, by simp [stepL, hu, hpr, hfe]⟩)⟩
        all_goals (try simp only [go_sem, Wk_block, Wk_drawnC, reduceCtorEq, Nat.reduceEqDiff, Nat.reduceAdd, Nat.reduceLeDiff, Nat.reduceLT, Nat.reduceMul, Nat.reduceSub, ↓reduceIte, Int.reduceLT, Int.reduceLE, Int.reduceNeg, Int.reduceAdd, Int.reduceEq, Nat.reduceBneDiff, Nat.reduceBEq, Int.reduceToNat, Int.reduceMul, Int.reduceSub, Int.reduceBEq, Int.reduceBNe, Int.cast_ofNat_Int, Int.toNat_natCast_add_one, Nat.add_left_cancel_iff, Nat.left_eq_add, Nat.add_eq_left, Int.toNat_natCast, Nat.add_assoc, Int.ofNat_lt, Int.ofNat_le, g18, g13, g12, g11, g3, Vw.enc, hu, hpr])
        all_goals (try omega)
      | some who =>
        rw [hfe] at hme
        obtain ⟨k, hme⟩ := hme
        have hsm := find_same hme
        by_cases hw : who = 0
        · subst hw
          simp -implicitDefEqProofs only [go_sem, Wk_block, Wk_drawnC, reduceCtorEq, Nat.reduceEqDiff, Nat.reduceAdd, Nat.reduceLeDiff, Nat.reduceLT, Nat.reduceMul, Nat.reduceSub, ↓reduceIte, Int.reduceLT, Int.reduceLE, Int.reduceNeg, Int.reduceAdd, Int.reduceEq, Nat.reduceBneDiff, Nat.reduceBEq, Int.reduceToNat, Int.reduceMul, Int.reduceSub, Int.reduceBEq, Int.reduceBNe, Int.cast_ofNat_Int, Int.toNat_natCast_add_one, Nat.add_left_cancel_iff, Nat.left_eq_add, Nat.add_eq_left, Int.toNat_natCast, Nat.add_assoc, Int.ofNat_lt, Int.ofNat_le, Nat.lt_add_one_of_lt, Nat.lt_add_one, Nat.lt_add_right, Nat.lt_add_right_iff_pos, Nat.add_lt_add_iff_left, g19, g18, g13, g12, g11, g3, w1, ft, hR3, eq_next_f hR3, eq_next_f' hR3, hu, hpr, hmap, hme, hsm]
          refine IH2 (1 : Int).toNat _ _ (by decide) ⟨1, rfl, ?_, ?_, ?_, ?_, ?_, ?_, (f3.new _).put (by omega) _, ?_, _, _, _, by rw [St.get_put, if_pos rfl], hf, .inr (.inl ⟨rfl, by simp [stepL, hu, hpr, hfe]⟩)⟩
          all_goals (try simp only [go_sem, Wk_block, Wk_drawnC, reduceCtorEq, Nat.reduceEqDiff, Nat.reduceAdd, Nat.reduceLeDiff, Nat.reduceLT, Nat.reduceMul, Nat.reduceSub, ↓reduceIte, Int.reduceLT, Int.reduceLE, Int.reduceNeg, Int.reduceAdd, Int.reduceEq, Nat.reduceBneDiff, Nat.reduceBEq, Int.reduceToNat, Int.reduceMul, Int.reduceSub, Int.reduceBEq, Int.reduceBNe, Int.cast_ofNat_Int, Int.toNat_natCast_add_one, Nat.add_left_cancel_iff, Nat.left_eq_add, Nat.add_eq_left, Int.toNat_natCast, Nat.add_assoc, Int.ofNat_lt, Int.ofNat_le, g18, g13, g12, g11, g3, Vw.enc, hu, hpr])
          all_goals (try omega)
        · have hwf : (who != 0) = true := by simpa using hw
          simp -implicitDefEqProofs only [go_sem, Wk_block, Wk_drawnC, reduceCtorEq, Nat.reduceEqDiff, Nat.reduceAdd, Nat.reduceLeDiff, Nat.reduceLT, Nat.reduceMul, Nat.reduceSub, ↓reduceIte, Int.reduceLT, Int.reduceLE, Int.reduceNeg, Int.reduceAdd, Int.reduceEq, Nat.reduceBneDiff, Nat.reduceBEq, Int.reduceToNat, Int.reduceMul, Int.reduceSub, Int.reduceBEq, Int.reduceBNe, Int.cast_ofNat_Int, Int.toNat_natCast_add_one, Nat.add_left_cancel_iff, Nat.left_eq_add, Nat.add_eq_left, Int.toNat_natCast, Nat.add_assoc, Int.ofNat_lt, Int.ofNat_le, Nat.lt_add_one_of_lt, Nat.lt_add_one, Nat.lt_add_right, Nat.lt_add_right_iff_pos, Nat.add_lt_add_iff_left, g19, g18, g13, g12, g11, g3, w1, ft, hR3, eq_next_f hR3, eq_next_f' hR3, hu, hpr, hmap, hme, hwf]
          have hnone : leads ms = none := hbad (by rw [hlt1]; show stepM f' x = none; unfold stepM; simp [stepL, hu, hpr, hfe, hw])
          rw [hnone]
          exact ⟨rfl, f3.new _⟩
    · cases hu : x.v1.up <;> cases hpr : x.v1.prim
      iterate 3
        · simp -implicitDefEqProofs only [go_sem, Wk_block, Wk_drawnC, reduceCtorEq, Nat.reduceEqDiff, Nat.reduceAdd, Nat.reduceLeDiff, Nat.reduceLT, Nat.reduceMul, Nat.reduceSub, ↓reduceIte, Int.reduceLT, Int.reduceLE, Int.reduceNeg, Int.reduceAdd, Int.reduceEq, Nat.reduceBneDiff, Nat.reduceBEq, Int.reduceToNat, Int.reduceMul, Int.reduceSub, Int.reduceBEq, Int.reduceBNe, Int.cast_ofNat_Int, Int.toNat_natCast_add_one, Nat.add_left_cancel_iff, Nat.left_eq_add, Nat.add_eq_left, Int.toNat_natCast, Nat.add_assoc, Int.ofNat_lt, Int.ofNat_le, Nat.lt_add_one_of_lt, Nat.lt_add_one, Nat.lt_add_right, Nat.lt_add_right_iff_pos, Nat.add_lt_add_iff_left, g19, g18, g13, g12, g11, g3, w2, ft, hR3, eq_next_f hR3, eq_next_f' hR3, hu, hpr]
          refine IH2 (0 : Int).toNat _ _ (by decide) ⟨2, rfl, ?_, ?_, ?_, ?_, ?_, ?_, f3.new _, ?_, es, cl, _, by rw [St.get_new, if_neg (by omega)]; exact hmap, hf, .inr (.inr ⟨rfl, by unfold stepM; rw [hs1]; exact by simp [stepL, hu, hpr]⟩)⟩
          all_goals (try simp only [go_sem, Wk_block, Wk_drawnC, reduceCtorEq, Nat.reduceEqDiff, Nat.reduceAdd, Nat.reduceLeDiff, Nat.reduceLT, Nat.reduceMul, Nat.reduceSub, ↓reduceIte, Int.reduceLT, Int.reduceLE, Int.reduceNeg, Int.reduceAdd, Int.reduceEq, Nat.reduceBneDiff, Nat.reduceBEq, Int.reduceToNat, Int.reduceMul, Int.reduceSub, Int.reduceBEq, Int.reduceBNe, Int.cast_ofNat_Int, Int.toNat_natCast_add_one, Nat.add_left_cancel_iff, Nat.left_eq_add, Nat.add_eq_left, Int.toNat_natCast, Nat.add_assoc, Int.ofNat_lt, Int.ofNat_le, g18, g13, g12, g11, g3, Vw.enc, hu, hpr])
          all_goals (try omega)
      have hme := hf x.v1.epoch
      cases hfe : f' x.v1.epoch with
      | none =>
        rw [hfe] at hme
        dsimp only at hme
        simp -implicitDefEqProofs only [go_sem, Wk_block, Wk_drawnC, reduceCtorEq, Nat.reduceEqDiff, Nat.reduceAdd, Nat.reduceLeDiff, Nat.reduceLT, Nat.reduceMul, Nat.reduceSub, ↓reduceIte, Int.reduceLT, Int.reduceLE, Int.reduceNeg, Int.reduceAdd, Int.reduceEq, Nat.reduceBneDiff, Nat.reduceBEq, Int.reduceToNat, Int.reduceMul, Int.reduceSub, Int.reduceBEq, Int.reduceBNe, Int.cast_ofNat_Int, Int.toNat_natCast_add_one, Nat.add_left_cancel_iff, Nat.left_eq_add, Nat.add_eq_left, Int.toNat_natCast, Nat.add_assoc, Int.ofNat_lt, Int.ofNat_le, Nat.lt_add_one_of_lt, Nat.lt_add_one, Nat.lt_add_right, Nat.lt_add_right_iff_pos, Nat.add_lt_add_iff_left, g19, g18, g13, g12, g11, g3, w2, ft, hR3, eq_next_f hR3, eq_next_f' hR3, hu, hpr, hmap, hme]
        refine IH2 (0 : Int).toNat _ _ (by decide) ⟨2, rfl, ?_, ?_, ?_, ?_, ?_, ?_, (f3.new _).put (by omega) _, ?_, _, _, _, by rw [St.get_put, if_pos rfl], hf.add hfe 1 _, .inr (.inr ⟨rfl, by unfold stepM; rw [hs1]; exact by simp [stepL, hu, hpr, hfe]⟩)⟩
        all_goals (try simp only [go_sem, Wk_block, Wk_drawnC, reduceCtorEq, Nat.reduceEqDiff, Nat.reduceAdd, Nat.reduceLeDiff, Nat.reduceLT, Nat.reduceMul, Nat.reduceSub, ↓reduceIte, Int.reduceLT, Int.reduceLE, Int.reduceNeg, Int.reduceAdd, Int.reduceEq, Nat.reduceBneDiff, Nat.reduceBEq, Int.reduceToNat, Int.reduceMul, Int.reduceSub, Int.reduceBEq, Int.reduceBNe, Int.cast_ofNat_Int, Int.toNat_natCast_add_one, Nat.add_left_cancel_iff, Nat.left_eq_add, Nat.add_eq_left, Int.toNat_natCast, Nat.add_assoc, Int.ofNat_lt, Int.ofNat_le, g18, g13, g12, g11, g3, Vw.enc, hu, hpr])
        all_goals (try omega)
      | some who =>
        rw [hfe] at hme
        obtain ⟨k, hme⟩ := hme
        have hsm := find_same hme
        by_cases hw : who = 1
        · subst hw
          simp -implicitDefEqProofs only [go_sem, Wk_block, Wk_drawnC, reduceCtorEq, Nat.reduceEqDiff, Nat.reduceAdd, Nat.reduceLeDiff, Nat.reduceLT, Nat.reduceMul, Nat.reduceSub, ↓reduceIte, Int.reduceLT, Int.reduceLE, Int.reduceNeg, Int.reduceAdd, Int.reduceEq, Nat.reduceBneDiff, Nat.reduceBEq, Int.reduceToNat, Int.reduceMul, Int.reduceSub, Int.reduceBEq, Int.reduceBNe, Int.cast_ofNat_Int, Int.toNat_natCast_add_one, Nat.add_left_cancel_iff, Nat.left_eq_add, Nat.add_eq_left, Int.toNat_natCast, Nat.add_assoc, Int.ofNat_lt, Int.ofNat_le, Nat.lt_add_one_of_lt, Nat.lt_add_one, Nat.lt_add_right, Nat.lt_add_right_iff_pos, Nat.add_lt_add_iff_left, g19, g18, g13, g12, g11, g3, w2, ft, hR3, eq_next_f hR3, eq_next_f' hR3, hu, hpr, hmap, hme, hsm]
          refine IH2 (0 : Int).toNat _ _ (by decide) ⟨2, rfl, ?_, ?_, ?_, ?_, ?_, ?_, (f3.new _).put (by omega) _, ?_, _, _, _, by rw [St.get_put, if_pos rfl], hf, .inr (.inr ⟨rfl, by unfold stepM; rw [hs1]; exact by simp [stepL, hu, hpr, hfe]⟩)⟩
          all_goals (try simp only [go_sem, Wk_block, Wk_drawnC, reduceCtorEq, Nat.reduceEqDiff, Nat.reduceAdd, Nat.reduceLeDiff, Nat.reduceLT, Nat.reduceMul, Nat.reduceSub, ↓reduceIte, Int.reduceLT, Int.reduceLE, Int.reduceNeg, Int.reduceAdd, Int.reduceEq, Nat.reduceBneDiff, Nat.reduceBEq, Int.reduceToNat, Int.reduceMul, Int.reduceSub, Int.reduceBEq, Int.reduceBNe, Int.cast_ofNat_Int, Int.toNat_natCast_add_one, Nat.add_left_cancel_iff, Nat.left_eq_add, Nat.add_eq_left, Int.toNat_natCast, Nat.add_assoc, Int.ofNat_lt, Int.ofNat_le, g18, g13, g12, g11, g3, Vw.enc, hu, hpr])
          all_goals (try omega)
        · have hwf : (who != 1) = true := by simpa using hw
          simp -implicitDefEqProofs only [go_sem, Wk_block, Wk_drawnC, reduceCtorEq, Nat.reduceEqDiff, Nat.reduceAdd, Nat.reduceLeDiff, Nat.reduceLT, Nat.reduceMul, Nat.reduceSub, ↓reduceIte, Int.reduceLT, Int.reduceLE, Int.reduceNeg, Int.reduceAdd, Int.reduceEq, Nat.reduceBneDiff, Nat.reduceBEq, Int.reduceToNat, Int.reduceMul, Int.reduceSub, Int.reduceBEq, Int.reduceBNe, Int.cast_ofNat_Int, Int.toNat_natCast_add_one, Nat.add_left_cancel_iff, Nat.left_eq_add, Nat.add_eq_left, Int.toNat_natCast, Nat.add_assoc, Int.ofNat_lt, Int.ofNat_le, Nat.lt_add_one_of_lt, Nat.lt_add_one, Nat.lt_add_right, Nat.lt_add_right_iff_pos, Nat.add_lt_add_iff_left, g19, g18, g13, g12, g11, g3, w2, ft, hR3, eq_next_f hR3, eq_next_f' hR3, hu, hpr, hmap, hme, hwf]
          have hnone : leads ms = none := hbad (by rw [hlt1]; show stepM f x = none; unfold stepM; rw [hs1]; simp [stepL, hu, hpr, hfe, hw])
          rw [hnone]
          exact ⟨rfl, f3.new _⟩
    · simp -implicitDefEqProofs only [go_sem, Wk_block, Wk_drawnC, reduceCtorEq, Nat.reduceEqDiff, Nat.reduceAdd, Nat.reduceLeDiff, Nat.reduceLT, Nat.reduceMul, Nat.reduceSub, ↓reduceIte, Int.reduceLT, Int.reduceLE, Int.reduceNeg, Int.reduceAdd, Int.reduceEq, Nat.reduceBneDiff, Nat.reduceBEq, Int.reduceToNat, Int.reduceMul, Int.reduceSub, Int.reduceBEq, Int.reduceBNe, Int.cast_ofNat_Int, Int.toNat_natCast_add_one, Nat.add_left_cancel_iff, Nat.left_eq_add, Nat.add_eq_left, Int.toNat_natCast, Nat.add_assoc, Int.ofNat_lt, Int.ofNat_le, Nat.lt_add_one_of_lt, Nat.lt_add_one, Nat.lt_add_right, Nat.lt_add_right_iff_pos, Nat.add_lt_add_iff_left, g19, g13, w13]
      refine IH (ms.length - (j + 1)) _ _ (by omega) ⟨j + 1, rfl, by omega, ?_, ?_, ?_, ?_, f3, hR3, es, cl, f', hmap, hf, ?_⟩
      all_goals first | (simp only [go_sem, Wk_block, Wk_drawnC, reduceCtorEq, Nat.reduceEqDiff, Nat.reduceAdd, Nat.reduceLeDiff, Nat.reduceLT, Nat.reduceMul, Nat.reduceSub, ↓reduceIte, Int.reduceLT, Int.reduceLE, Int.reduceNeg, Int.reduceAdd, Int.reduceEq, Nat.reduceBneDiff, Nat.reduceBEq, Int.reduceToNat, Int.reduceMul, Int.reduceSub, Int.reduceBEq, Int.reduceBNe, Int.cast_ofNat_Int, Int.toNat_natCast_add_one, Nat.add_left_cancel_iff, Nat.left_eq_add, Nat.add_eq_left, Int.toNat_natCast, Nat.add_assoc, Int.ofNat_lt, Int.ofNat_le, g12, g11, g3]; done) | (rw [hlt1]; exact hs2)
  · have hje : j = ms.length := by omega
    subst hje
    rw [List.take_length] at hld
    simp -implicitDefEqProofs only [go_sem, Wk_block, Wk_drawnC, reduceCtorEq, Nat.reduceEqDiff, Nat.reduceAdd, Nat.reduceLeDiff, Nat.reduceLT, Nat.reduceMul, Nat.reduceSub, ↓reduceIte, Int.reduceLT, Int.reduceLE, Int.reduceNeg, Int.reduceAdd, Int.reduceEq, Nat.reduceBneDiff, Nat.reduceBEq, Int.reduceToNat, Int.reduceMul, Int.reduceSub, Int.reduceBEq, Int.reduceBNe, Int.cast_ofNat_Int, Int.toNat_natCast_add_one, Nat.add_left_cancel_iff, Nat.left_eq_add, Nat.add_eq_left, Int.toNat_natCast, Nat.add_assoc, Int.ofNat_lt, Int.ofNat_le, Nat.lt_add_one_of_lt, Nat.lt_add_one, Nat.lt_add_right, Nat.lt_add_right_iff_pos, Nat.add_lt_add_iff_left, g13, g12, hlt]
    rw [hld]
    exact ⟨rfl, f1⟩
end Go.Proofs.Yteffppdkofdmdaa
namespace Go.Proofs.Yteffppdkofdmdaa
open D
set_option linter.unusedSimpArgs false
set_option linter.unusedVariables false
set_option maxRecDepth 10000

/-- The first elements of a list, without those that stand behind an equal one. -/
def ddN (L : List Lb) : Nat → List Lb
  | 0 => []
  | j + 1 => if 0 < j ∧ L[j]? = L[j - 1]? then ddN L j else ddN L j ++ (L[j]?).toList

theorem lflat_len (L : List Lb) : (L.flatMap Lb.enc).length = L.length * 2 := by
  induction L with
  | nil => rfl
  | cons a l ih => rw [List.flatMap_cons, List.length_append, ih, List.length_cons]; simp [Lb.enc]; omega
theorem lflat_at : ∀ (L : List Lb) (i : Nat) (h : i < L.length), ((L.flatMap Lb.enc).drop (i * 2)).take 2 = [.int .u32 L[i].e, .int .u32 L[i].q]
  | a :: l, 0, _ => by simp [Lb.enc]
  | a :: l, i + 1, h => by
    rw [List.flatMap_cons, Nat.succ_mul, Nat.add_comm, ← List.drop_drop]
    have := lflat_at l i (by simpa using h)
    simpa [Lb.enc] using this
theorem lflat_set (L : List Lb) (i : Nat) (h : i < L.length) (x : Lb) : splice (L.flatMap Lb.enc) (i * 2) [.int .u32 x.e, .int .u32 x.q] = (L.set i x).flatMap Lb.enc := by
  induction L generalizing i with
  | nil => simp at h
  | cons a l ih =>
    cases i with
    | zero => simp [splice, Lb.enc]
    | succ i =>
      have := ih i (by simpa using h)
      unfold splice at this ⊢
      rw [List.flatMap_cons, Nat.succ_mul, List.set_cons_succ, List.flatMap_cons, ← this]
      have hl : (Lb.enc a).length = 2 := rfl
      rw [show i * 2 + 2 = (Lb.enc a).length + i * 2 by rw [hl]; omega, List.take_length_add_append]
      rw [show (Lb.enc a).length + i * 2 + [AV.int IntKind.u32 x.e, AV.int IntKind.u32 x.q].length = (Lb.enc a).length + (i * 2 + [AV.int IntKind.u32 x.e, AV.int IntKind.u32 x.q].length) by omega, List.drop_length_add_append]
      simp only [List.append_assoc]
theorem ddN_le (L : List Lb) : ∀ j, (ddN L j).length ≤ j
  | 0 => by simp [ddN]
  | j + 1 => by
    have := ddN_le L j
    unfold ddN
    split
    · omega
    · rw [List.length_append]
      cases L[j]? <;> simp <;> omega
theorem ddN_first {L : List Lb} {k : Nat} (h : ∀ i, 0 < i → i < k → L[i]? ≠ L[i - 1]?) (hk : k ≤ L.length) : ddN L k = L.take k := by
  induction k with
  | zero => rfl
  | succ k ih =>
    have := ih (fun i h0 h1 => h i h0 (by omega)) (by omega)
    unfold ddN
    rw [if_neg (fun hc => h k hc.1 (by omega) hc.2), this, List.take_add_one]
theorem ddN_eq {L : List Lb} {j : Nat} (h0 : 0 < j) (h : j < L.length) (he : L[j] = L[j - 1]) : ddN L (j + 1) = ddN L j := by
  show (if 0 < j ∧ L[j]? = L[j - 1]? then ddN L j else ddN L j ++ (L[j]?).toList) = _
  rw [if_pos ⟨h0, by rw [List.getElem?_eq_getElem h, List.getElem?_eq_getElem (by omega), he]⟩]
theorem ddN_ne {L : List Lb} {j : Nat} (h : j < L.length) (he : L[j] ≠ L[j - 1]) : ddN L (j + 1) = ddN L j ++ [L[j]] := by
  show (if 0 < j ∧ L[j]? = L[j - 1]? then ddN L j else ddN L j ++ (L[j]?).toList) = _
  rw [if_neg, List.getElem?_eq_getElem h]
  · rfl
  · rintro ⟨_, h2⟩
    rw [List.getElem?_eq_getElem h, List.getElem?_eq_getElem (by omega)] at h2
    exact he (Option.some.inj h2)

theorem lb_eq {a b : Lb} : (a.e == b.e && a.q == b.q) = decide (a = b) := by
  by_cases h : a = b
  · subst h; simp
  · have h' : ¬ (a.e = b.e ∧ a.q = b.q) := fun h' => h (Lb.ext h'.1 h'.2)
    rw [decide_eq_false h, Bool.eq_false_iff]
    intro hc
    rw [Bool.and_eq_true, beq_iff_eq, beq_iff_eq] at hc
    exact h' hc

theorem bound_nat {k n : Nat} (h : k ≤ n) : boundA (.int .i64 (k : Int)) n = some k := by
  show (if 0 ≤ (k : Int) ∧ (k : Int) ≤ (n : Int) then some ((k : Int).toNat) else none) = some k
  rw [if_pos ⟨by omega, by omega⟩]
  simp
theorem sl_from {p n k : Nat} (h : k < n) : sliceA 2 (.slice p 0 n n true) (some (.int .i64 (k : Int))) none none = some (.slice p (k * 2) (n - k) (n - k) true) := by
  have hb : boundsA n n (some (.int .i64 (k : Int))) none none = some (k, n, n) := by
    unfold boundsA
    simp only [Nat.le_refl, if_true, bound_nat (Nat.le_of_lt h)]
  unfold sliceA
  simp only [hb, Option.isNone_none, Bool.and_true, if_true]
  rw [if_neg (by omega), Nat.zero_add]
theorem sl_to {p n k : Nat} (h : k ≤ n) (hn : 0 < n) : sliceA 2 (.slice p 0 n n true) none (some (.int .i64 (k : Int))) none = some (.slice p 0 k n true) := by
  have hb : boundsA n n none (some (.int .i64 (k : Int))) none = some (0, k, n) := by
    unfold boundsA
    simp only [bound_nat h]
  unfold sliceA
  simp only [hb, Option.isNone_none, Bool.and_true, if_true]
  rw [if_neg (by omega)]
  simp
theorem zrep_len (m : Nat) : (List.replicate m [AV.int IntKind.u32 0, AV.int IntKind.u32 0]).flatten.length = m * 2 := by simp
theorem zrep_cell : ∀ m : Nat, allCell (List.replicate m [AV.int IntKind.u32 0, AV.int IntKind.u32 0]).flatten = true
  | 0 => rfl
  | m + 1 => by rw [List.replicate_succ, List.flatten_cons]; exact allCell_append rfl (zrep_cell m)
theorem lflat_rep : ∀ m : Nat, (List.replicate m [AV.int IntKind.u32 0, AV.int IntKind.u32 0]).flatten = (List.replicate m (⟨0, 0⟩ : Lb)).flatMap Lb.enc
  | 0 => rfl
  | m + 1 => by rw [List.replicate_succ, List.flatten_cons, List.replicate_succ, List.flatMap_cons, lflat_rep m]; rfl
theorem lflat_take (C : List Lb) (k : Nat) : (C.flatMap Lb.enc).take (k * 2) = (C.take k).flatMap Lb.enc := by
  induction C generalizing k with
  | nil => simp
  | cons a l ih =>
    cases k with
    | zero => simp
    | succ k =>
      rw [List.flatMap_cons, List.take_succ_cons, List.flatMap_cons, ← ih k]
      have hl : (Lb.enc a).length = 2 := rfl
      rw [show (k + 1) * 2 = (Lb.enc a).length + k * 2 by rw [hl]; omega, List.take_length_add_append]
theorem lflat_clear (C : List Lb) (k : Nat) (h : k ≤ C.length) : List.take (k * 2) (C.flatMap Lb.enc) ++ (List.replicate (C.length - k) [AV.int IntKind.u32 0, AV.int IntKind.u32 0]).flatten ++ List.drop (k * 2 + (C.length - k) * 2) (C.flatMap Lb.enc) = (C.take k ++ List.replicate (C.length - k) (⟨0, 0⟩ : Lb)).flatMap Lb.enc := by
  rw [List.drop_eq_nil_of_le (by rw [lflat_len]; omega), List.append_nil, List.flatMap_append, lflat_rep, lflat_take]

theorem Compact_run (L : List Lb) (hL : L.length < 1000000) {s : St} {p : Nat} (hp : s.get p = some (.cells (L.flatMap Lb.enc) true false 2)) (hpl : p < s.next) :
    Wf mm 23 [.slice p 0 L.length L.length true] s fun w s' => (∃ C : List Lb, w = .slice p 0 (ddN L L.length).length L.length true ∧ s'.get p = some (.cells (C.flatMap Lb.enc) true false 2) ∧ C.length = L.length ∧ C.take (ddN L L.length).length = ddN L L.length) ∧ FrX p s s' := by
  refine Wf_enter ft23 (sm (by decide)) (by rfl) ?_
  simp -implicitDefEqProofs only [go_sem, Wk_block, Wk_drawnC, reduceCtorEq, Nat.reduceEqDiff, Nat.reduceAdd, Nat.reduceLeDiff, Nat.reduceLT, Nat.reduceMul, Nat.reduceSub, ↓reduceIte, Int.reduceLT, Int.reduceLE, Int.reduceNeg, Int.reduceAdd, Int.reduceEq, Nat.reduceBneDiff, Nat.reduceBEq, Int.reduceToNat, Int.reduceMul, Int.reduceSub, Int.reduceBEq, Int.reduceBNe, Int.cast_ofNat_Int, Int.toNat_natCast_add_one, Nat.add_left_cancel_iff, Nat.left_eq_add, Nat.add_eq_left, Int.toNat_natCast, Nat.add_assoc, Int.ofNat_lt, Int.ofNat_le, Nat.lt_add_one_of_lt, Nat.lt_add_one, Nat.lt_add_right, Nat.lt_add_right_iff_pos, Nat.add_lt_add_iff_left, fd23]
  refine Wi_split (fun hg => ?_) (fun hg => ?_)
  · have h2 : L.length < 2 := by have := of_decide_eq_true hg; omega
    have hd : ddN L L.length = L := by rw [ddN_first (fun i h0 h1 => by omega) (Nat.le_refl _), List.take_length]
    simp -implicitDefEqProofs only [go_sem, Wk_block, Wk_drawnC, reduceCtorEq, Nat.reduceEqDiff, Nat.reduceAdd, Nat.reduceLeDiff, Nat.reduceLT, Nat.reduceMul, Nat.reduceSub, ↓reduceIte, Int.reduceLT, Int.reduceLE, Int.reduceNeg, Int.reduceAdd, Int.reduceEq, Nat.reduceBneDiff, Nat.reduceBEq, Int.reduceToNat, Int.reduceMul, Int.reduceSub, Int.reduceBEq, Int.reduceBNe, Int.cast_ofNat_Int, Int.toNat_natCast_add_one, Nat.add_left_cancel_iff, Nat.left_eq_add, Nat.add_eq_left, Int.toNat_natCast, Nat.add_assoc, Int.ofNat_lt, Int.ofNat_le, Nat.lt_add_one_of_lt, Nat.lt_add_one, Nat.lt_add_right, Nat.lt_add_right_iff_pos, Nat.add_lt_add_iff_left, hd]
    exact ⟨⟨L, hp, rfl, List.take_length⟩, FrX.refl _ _⟩
  have h2 : 2 ≤ L.length := by have := of_decide_eq_false hg; omega
  simp only [go_sem, Wk_block, Wk_drawnC, reduceCtorEq, Nat.reduceEqDiff, Nat.reduceAdd, Nat.reduceLeDiff, Nat.reduceLT, Nat.reduceMul, Nat.reduceSub, ↓reduceIte, Int.reduceLT, Int.reduceLE, Int.reduceNeg, Int.reduceAdd, Int.reduceEq, Nat.reduceBneDiff, Nat.reduceBEq, Int.reduceToNat, Int.reduceMul, Int.reduceSub, Int.reduceBEq, Int.reduceBNe, Int.cast_ofNat_Int, Int.toNat_natCast_add_one, Nat.add_left_cancel_iff, Nat.left_eq_add, Nat.add_eq_left, Int.toNat_natCast, Nat.add_assoc, Int.ofNat_lt, Int.ofNat_le]
  refine loop_ind (fun m ts s' => ∃ k : Nat, m = L.length - (k + 1) ∧ k + 1 ≤ L.length ∧ ts.get 3 = some (.int .i64 ((k + 1 : Nat) : Int)) ∧ ts.get 0 = some (.slice p 0 L.length L.length true) ∧ s' = s ∧ ∀ i, 0 < i → i < k + 1 → L[i]? ≠ L[i - 1]?) ?_ (n := L.length - 1)
    ⟨0, rfl, by omega, by simp only [go_sem, Wk_block, Wk_drawnC, reduceCtorEq, Nat.reduceEqDiff, Nat.reduceAdd, Nat.reduceLeDiff, Nat.reduceLT, Nat.reduceMul, Nat.reduceSub, ↓reduceIte, Int.reduceLT, Int.reduceLE, Int.reduceNeg, Int.reduceAdd, Int.reduceEq, Nat.reduceBneDiff, Nat.reduceBEq, Int.reduceToNat, Int.reduceMul, Int.reduceSub, Int.reduceBEq, Int.reduceBNe, Int.cast_ofNat_Int, Int.toNat_natCast_add_one, Nat.add_left_cancel_iff, Nat.left_eq_add, Nat.add_eq_left, Int.toNat_natCast, Nat.add_assoc, Int.ofNat_lt, Int.ofNat_le], by simp only [go_sem, Wk_block, Wk_drawnC, reduceCtorEq, Nat.reduceEqDiff, Nat.reduceAdd, Nat.reduceLeDiff, Nat.reduceLT, Nat.reduceMul, Nat.reduceSub, ↓reduceIte, Int.reduceLT, Int.reduceLE, Int.reduceNeg, Int.reduceAdd, Int.reduceEq, Nat.reduceBneDiff, Nat.reduceBEq, Int.reduceToNat, Int.reduceMul, Int.reduceSub, Int.reduceBEq, Int.reduceBNe, Int.cast_ofNat_Int, Int.toNat_natCast_add_one, Nat.add_left_cancel_iff, Nat.left_eq_add, Nat.add_eq_left, Int.toNat_natCast, Nat.add_assoc, Int.ofNat_lt, Int.ofNat_le], rfl, fun i h0 h1 => by omega⟩
  rintro m ts s1 ⟨k, rfl, hk, g3, g0, rfl, hne⟩ IH
  by_cases hlt : k + 1 < L.length
  · have i1 : ∀ s, idx1 2 (some (.slice p 0 L.length L.length true)) (some (.int .i64 ((k + 1 : Nat) : Int))) s = _ := fun s => idx1_slice hlt
    have i0 : ∀ s, idx1 2 (some (.slice p 0 L.length L.length true)) (some (.int .i64 ((k : Nat) : Int))) s = _ := fun s => idx1_slice (by omega)
    have wk : IntKind.i64.wrap (((k + 1 : Nat) : Int) - 1) = (k : Int) := by rw [i64_in (by omega) (by omega)]; omega
    have wk1 : IntKind.i64.wrap (((k + 1 : Nat) : Int) + 1) = ((k + 1 + 1 : Nat) : Int) := succ_in (by omega)
    have a1 := lflat_at L (k + 1) hlt
    have a0 := lflat_at L k (by omega)
    have hf := lflat_len L
    have l1 : (k + 1) * 2 + 2 ≤ (L.flatMap Lb.enc).length := by omega
    have l0 : k * 2 + 2 ≤ (L.flatMap Lb.enc).length := by omega
    have hltZ : ((k + 1 : Nat) : Int) < (L.length : Int) := by omega
    simp -implicitDefEqProofs only [go_sem, Wk_block, Wk_drawnC, reduceCtorEq, Nat.reduceEqDiff, Nat.reduceAdd, Nat.reduceLeDiff, Nat.reduceLT, Nat.reduceMul, Nat.reduceSub, ↓reduceIte, Int.reduceLT, Int.reduceLE, Int.reduceNeg, Int.reduceAdd, Int.reduceEq, Nat.reduceBneDiff, Nat.reduceBEq, Int.reduceToNat, Int.reduceMul, Int.reduceSub, Int.reduceBEq, Int.reduceBNe, Int.cast_ofNat_Int, Int.toNat_natCast_add_one, Nat.add_left_cancel_iff, Nat.left_eq_add, Nat.add_eq_left, Int.toNat_natCast, Nat.add_assoc, Int.ofNat_lt, Int.ofNat_le, Nat.lt_add_one_of_lt, Nat.lt_add_one, Nat.lt_add_right, Nat.lt_add_right_iff_pos, Nat.add_lt_add_iff_left, g3, g0, hlt, hltZ, i1, i0, wk, hp, a1, a0, l1, l0, lb_eq]
    refine Wi_split (fun hg => ?_) (fun hg => ?_)
    · have hq := of_decide_eq_true hg
      have n1 := sl_from (p := p) hlt
      simp -implicitDefEqProofs only [go_sem, Wk_block, Wk_drawnC, reduceCtorEq, Nat.reduceEqDiff, Nat.reduceAdd, Nat.reduceLeDiff, Nat.reduceLT, Nat.reduceMul, Nat.reduceSub, ↓reduceIte, Int.reduceLT, Int.reduceLE, Int.reduceNeg, Int.reduceAdd, Int.reduceEq, Nat.reduceBneDiff, Nat.reduceBEq, Int.reduceToNat, Int.reduceMul, Int.reduceSub, Int.reduceBEq, Int.reduceBNe, Int.cast_ofNat_Int, Int.toNat_natCast_add_one, Nat.add_left_cancel_iff, Nat.left_eq_add, Nat.add_eq_left, Int.toNat_natCast, Nat.add_assoc, Int.ofNat_lt, Int.ofNat_le, Nat.lt_add_one_of_lt, Nat.lt_add_one, Nat.lt_add_right, Nat.lt_add_right_iff_pos, Nat.add_lt_add_iff_left, g3, g0, n1]
      have hd1 : ddN L (k + 1) = L.take (k + 1) := ddN_first hne (by omega)
      have hd2 : ddN L (k + 1 + 1) = L.take (k + 1) := (ddN_eq (by omega) hlt hq).trans hd1
      have hd3 : (L.take (k + 1)).length = k + 1 := by rw [List.length_take]; omega
      refine loop_ind (fun m ts s' => ∃ (k2 kk : Nat) (C : List Lb), m = L.length - (k + 1) - (k2 + 1) ∧ k + 1 + (k2 + 1) ≤ L.length ∧ ts.get 5 = some (.int .i64 ((k2 + 1 : Nat) : Int)) ∧ ts.get 4 = some (.slice p ((k + 1) * 2) (L.length - (k + 1)) (L.length - (k + 1)) true) ∧ ts.get 3 = some (.int .i64 (kk : Int)) ∧
        ts.get 0 = some (.slice p 0 L.length L.length true) ∧ s'.get p = some (.cells (C.flatMap Lb.enc) true false 2) ∧ C.length = L.length ∧ C.take kk = ddN L (k + 1 + (k2 + 1)) ∧ kk = (ddN L (k + 1 + (k2 + 1))).length ∧ kk ≤ k + 1 + k2 ∧ C.drop (k + 1 + k2) = L.drop (k + 1 + k2) ∧ FrX p s1 s') ?_ (n := L.length - (k + 1) - 1)
        ⟨0, k + 1, L, rfl, by omega, by simp only [go_sem, Wk_block, Wk_drawnC, reduceCtorEq, Nat.reduceEqDiff, Nat.reduceAdd, Nat.reduceLeDiff, Nat.reduceLT, Nat.reduceMul, Nat.reduceSub, ↓reduceIte, Int.reduceLT, Int.reduceLE, Int.reduceNeg, Int.reduceAdd, Int.reduceEq, Nat.reduceBneDiff, Nat.reduceBEq, Int.reduceToNat, Int.reduceMul, Int.reduceSub, Int.reduceBEq, Int.reduceBNe, Int.cast_ofNat_Int, Int.toNat_natCast_add_one, Nat.add_left_cancel_iff, Nat.left_eq_add, Nat.add_eq_left, Int.toNat_natCast, Nat.add_assoc, Int.ofNat_lt, Int.ofNat_le], by simp only [go_sem, Wk_block, Wk_drawnC, reduceCtorEq, Nat.reduceEqDiff, Nat.reduceAdd, Nat.reduceLeDiff, Nat.reduceLT, Nat.reduceMul, Nat.reduceSub, ↓reduceIte, Int.reduceLT, Int.reduceLE, Int.reduceNeg, Int.reduceAdd, Int.reduceEq, Nat.reduceBneDiff, Nat.reduceBEq, Int.reduceToNat, Int.reduceMul, Int.reduceSub, Int.reduceBEq, Int.reduceBNe, Int.cast_ofNat_Int, Int.toNat_natCast_add_one, Nat.add_left_cancel_iff, Nat.left_eq_add, Nat.add_eq_left, Int.toNat_natCast, Nat.add_assoc, Int.ofNat_lt, Int.ofNat_le], by simp only [go_sem, Wk_block, Wk_drawnC, reduceCtorEq, Nat.reduceEqDiff, Nat.reduceAdd, Nat.reduceLeDiff, Nat.reduceLT, Nat.reduceMul, Nat.reduceSub, ↓reduceIte, Int.reduceLT, Int.reduceLE, Int.reduceNeg, Int.reduceAdd, Int.reduceEq, Nat.reduceBneDiff, Nat.reduceBEq, Int.reduceToNat, Int.reduceMul, Int.reduceSub, Int.reduceBEq, Int.reduceBNe, Int.cast_ofNat_Int, Int.toNat_natCast_add_one, Nat.add_left_cancel_iff, Nat.left_eq_add, Nat.add_eq_left, Int.toNat_natCast, Nat.add_assoc, Int.ofNat_lt, Int.ofNat_le, g3], by simp only [go_sem, Wk_block, Wk_drawnC, reduceCtorEq, Nat.reduceEqDiff, Nat.reduceAdd, Nat.reduceLeDiff, Nat.reduceLT, Nat.reduceMul, Nat.reduceSub, ↓reduceIte, Int.reduceLT, Int.reduceLE, Int.reduceNeg, Int.reduceAdd, Int.reduceEq, Nat.reduceBneDiff, Nat.reduceBEq, Int.reduceToNat, Int.reduceMul, Int.reduceSub, Int.reduceBEq, Int.reduceBNe, Int.cast_ofNat_Int, Int.toNat_natCast_add_one, Nat.add_left_cancel_iff, Nat.left_eq_add, Nat.add_eq_left, Int.toNat_natCast, Nat.add_assoc, Int.ofNat_lt, Int.ofNat_le, g0], hp, rfl, hd2.symm, by rw [hd2, hd3], by omega, rfl, FrX.refl _ _⟩
      clear g3 g0
      rintro m ts s2 ⟨k2, kk, C, rfl, hk2, g5, g4, g3, g0, hC, hCl, htk, hkl, hkk, hdr, f2⟩ IH2
      have hfC := lflat_len C
      by_cases hlt2 : k + 1 + (k2 + 1) < L.length
      · have hl3 : k2 + 1 < L.length - (k + 1) := by omega
        have i1 : ∀ s, idx1 2 (some (.slice p ((k + 1) * 2) (L.length - (k + 1)) (L.length - (k + 1)) true)) (some (.int .i64 ((k2 + 1 : Nat) : Int))) s = _ := fun s => idx1_slice hl3
        have i0 : ∀ s, idx1 2 (some (.slice p ((k + 1) * 2) (L.length - (k + 1)) (L.length - (k + 1)) true)) (some (.int .i64 ((k2 : Nat) : Int))) s = _ := fun s => idx1_slice (by omega)
        have ik : ∀ s, idx1 2 (some (.slice p 0 L.length L.length true)) (some (.int .i64 ((kk : Nat) : Int))) s = _ := fun s => idx1_slice (by omega)
        have wk : IntKind.i64.wrap (((k2 + 1 : Nat) : Int) - 1) = (k2 : Int) := by rw [i64_in (by omega) (by omega)]; omega
        have wk1 : IntKind.i64.wrap (((k2 + 1 : Nat) : Int) + 1) = ((k2 + 1 + 1 : Nat) : Int) := succ_in (by omega)
        have wkk : IntKind.i64.wrap ((kk : Int) + 1) = ((kk + 1 : Nat) : Int) := succ_in (by omega)
        have a1 := lflat_at C (k + 1 + (k2 + 1)) (by omega)
        have a0 := lflat_at C (k + 1 + k2) (by omega)
        rw [Nat.add_mul (k + 1)] at a1 a0
        have l1 : (k + 1) * 2 + ((k2 + 1) * 2 + 2) ≤ (C.flatMap Lb.enc).length := by omega
        have l0 : (k + 1) * 2 + (k2 * 2 + 2) ≤ (C.flatMap Lb.enc).length := by omega
        have lk : kk * 2 + 2 ≤ (C.flatMap Lb.enc).length := by omega
        have c1 : C[k + 1 + (k2 + 1)]'(by omega) = L[k + 1 + (k2 + 1)] := by
          have := congrArg (fun l => l[1]?) hdr
          simp only [List.getElem?_drop] at this
          rw [List.getElem?_eq_getElem (by omega), List.getElem?_eq_getElem (by omega)] at this
          exact Option.some.inj this
        have c0 : C[k + 1 + k2]'(by omega) = L[k + 1 + (k2 + 1) - 1] := by
          have := congrArg (fun l => l[0]?) hdr
          simp only [List.getElem?_drop] at this
          rw [List.getElem?_eq_getElem (by omega), List.getElem?_eq_getElem (by omega)] at this
          exact Option.some.inj this
        obtain ⟨x, hx⟩ : ∃ x, L[k + 1 + (k2 + 1)] = x := ⟨_, rfl⟩
        obtain ⟨y, hy⟩ : ∃ y, L[k + 1 + (k2 + 1) - 1] = y := ⟨_, rfl⟩
        rw [c1, hx] at a1
        rw [c0, hy] at a0
        have hset := lflat_set C kk (by omega) x
        unfold splice at hset
        simp only [List.length_cons, List.length_nil, Nat.zero_add, Nat.reduceAdd] at hset
        simp -implicitDefEqProofs only [go_sem, Wk_block, Wk_drawnC, reduceCtorEq, Nat.reduceEqDiff, Nat.reduceAdd, Nat.reduceLeDiff, Nat.reduceLT, Nat.reduceMul, Nat.reduceSub, ↓reduceIte, Int.reduceLT, Int.reduceLE, Int.reduceNeg, Int.reduceAdd, Int.reduceEq, Nat.reduceBneDiff, Nat.reduceBEq, Int.reduceToNat, Int.reduceMul, Int.reduceSub, Int.reduceBEq, Int.reduceBNe, Int.cast_ofNat_Int, Int.toNat_natCast_add_one, Nat.add_left_cancel_iff, Nat.left_eq_add, Nat.add_eq_left, Int.toNat_natCast, Nat.add_assoc, Int.ofNat_lt, Int.ofNat_le, Nat.lt_add_one_of_lt, Nat.lt_add_one, Nat.lt_add_right, Nat.lt_add_right_iff_pos, Nat.add_lt_add_iff_left, g5, g4, g3, g0, hl3, i1, i0, wk, hC, a1, a0, l1, l0, lb_eq]
        refine Wi_split (fun hg2 => ?_) (fun hg2 => ?_)
        · have hne2 : L[k + 1 + (k2 + 1)] ≠ L[k + 1 + (k2 + 1) - 1] := by rw [hx, hy]; simpa using hg2
          have hdd := ddN_ne hlt2 hne2
          simp -implicitDefEqProofs only [go_sem, Wk_block, Wk_drawnC, reduceCtorEq, Nat.reduceEqDiff, Nat.reduceAdd, Nat.reduceLeDiff, Nat.reduceLT, Nat.reduceMul, Nat.reduceSub, ↓reduceIte, Int.reduceLT, Int.reduceLE, Int.reduceNeg, Int.reduceAdd, Int.reduceEq, Nat.reduceBneDiff, Nat.reduceBEq, Int.reduceToNat, Int.reduceMul, Int.reduceSub, Int.reduceBEq, Int.reduceBNe, Int.cast_ofNat_Int, Int.toNat_natCast_add_one, Nat.add_left_cancel_iff, Nat.left_eq_add, Nat.add_eq_left, Int.toNat_natCast, Nat.add_assoc, Int.ofNat_lt, Int.ofNat_le, Nat.lt_add_one_of_lt, Nat.lt_add_one, Nat.lt_add_right, Nat.lt_add_right_iff_pos, Nat.add_lt_add_iff_left, g5, g4, g3, g0, hl3, i1, ik, wk1, wkk, hC, a1, l1, lk, hset]
          refine IH2 (L.length - (k + 1) - (k2 + 1 + 1)) _ _ (by omega) ⟨k2 + 1, kk + 1, C.set kk x, rfl, by omega, ?_, ?_, ?_, ?_, by rw [St.get_put, if_pos rfl], by simpa using hCl, ?_, ?_, by omega, ?_, f2.put (.inl rfl) _⟩
          · simp only [go_sem, Wk_block, Wk_drawnC, reduceCtorEq, Nat.reduceEqDiff, Nat.reduceAdd, Nat.reduceLeDiff, Nat.reduceLT, Nat.reduceMul, Nat.reduceSub, ↓reduceIte, Int.reduceLT, Int.reduceLE, Int.reduceNeg, Int.reduceAdd, Int.reduceEq, Nat.reduceBneDiff, Nat.reduceBEq, Int.reduceToNat, Int.reduceMul, Int.reduceSub, Int.reduceBEq, Int.reduceBNe, Int.cast_ofNat_Int, Int.toNat_natCast_add_one, Nat.add_left_cancel_iff, Nat.left_eq_add, Nat.add_eq_left, Int.toNat_natCast, Nat.add_assoc, Int.ofNat_lt, Int.ofNat_le]
          · simp only [go_sem, Wk_block, Wk_drawnC, reduceCtorEq, Nat.reduceEqDiff, Nat.reduceAdd, Nat.reduceLeDiff, Nat.reduceLT, Nat.reduceMul, Nat.reduceSub, ↓reduceIte, Int.reduceLT, Int.reduceLE, Int.reduceNeg, Int.reduceAdd, Int.reduceEq, Nat.reduceBneDiff, Nat.reduceBEq, Int.reduceToNat, Int.reduceMul, Int.reduceSub, Int.reduceBEq, Int.reduceBNe, Int.cast_ofNat_Int, Int.toNat_natCast_add_one, Nat.add_left_cancel_iff, Nat.left_eq_add, Nat.add_eq_left, Int.toNat_natCast, Nat.add_assoc, Int.ofNat_lt, Int.ofNat_le, g4]
          · simp only [go_sem, Wk_block, Wk_drawnC, reduceCtorEq, Nat.reduceEqDiff, Nat.reduceAdd, Nat.reduceLeDiff, Nat.reduceLT, Nat.reduceMul, Nat.reduceSub, ↓reduceIte, Int.reduceLT, Int.reduceLE, Int.reduceNeg, Int.reduceAdd, Int.reduceEq, Nat.reduceBneDiff, Nat.reduceBEq, Int.reduceToNat, Int.reduceMul, Int.reduceSub, Int.reduceBEq, Int.reduceBNe, Int.cast_ofNat_Int, Int.toNat_natCast_add_one, Nat.add_left_cancel_iff, Nat.left_eq_add, Nat.add_eq_left, Int.toNat_natCast, Nat.add_assoc, Int.ofNat_lt, Int.ofNat_le]
          · simp only [go_sem, Wk_block, Wk_drawnC, reduceCtorEq, Nat.reduceEqDiff, Nat.reduceAdd, Nat.reduceLeDiff, Nat.reduceLT, Nat.reduceMul, Nat.reduceSub, ↓reduceIte, Int.reduceLT, Int.reduceLE, Int.reduceNeg, Int.reduceAdd, Int.reduceEq, Nat.reduceBneDiff, Nat.reduceBEq, Int.reduceToNat, Int.reduceMul, Int.reduceSub, Int.reduceBEq, Int.reduceBNe, Int.cast_ofNat_Int, Int.toNat_natCast_add_one, Nat.add_left_cancel_iff, Nat.left_eq_add, Nat.add_eq_left, Int.toNat_natCast, Nat.add_assoc, Int.ofNat_lt, Int.ofNat_le, g0]
          · rw [show k + 1 + (k2 + 1 + 1) = k + 1 + (k2 + 1) + 1 by omega, hdd, hx, ← htk, List.take_add_one, List.getElem?_set_self (by omega)]
            rw [List.take_set_of_le (by omega)]
            rfl
          · rw [show k + 1 + (k2 + 1 + 1) = k + 1 + (k2 + 1) + 1 by omega, hdd, List.length_append, ← hkl]
            rfl
          · rw [List.drop_set_of_lt (by omega)]
            have := congrArg (List.drop 1) hdr
            simpa [List.drop_drop, Nat.add_assoc] using this
        · have heq2 : L[k + 1 + (k2 + 1)] = L[k + 1 + (k2 + 1) - 1] := by rw [hx, hy]; simpa using hg2
          have hdd := ddN_eq (by omega) hlt2 heq2
          simp -implicitDefEqProofs only [go_sem, Wk_block, Wk_drawnC, reduceCtorEq, Nat.reduceEqDiff, Nat.reduceAdd, Nat.reduceLeDiff, Nat.reduceLT, Nat.reduceMul, Nat.reduceSub, ↓reduceIte, Int.reduceLT, Int.reduceLE, Int.reduceNeg, Int.reduceAdd, Int.reduceEq, Nat.reduceBneDiff, Nat.reduceBEq, Int.reduceToNat, Int.reduceMul, Int.reduceSub, Int.reduceBEq, Int.reduceBNe, Int.cast_ofNat_Int, Int.toNat_natCast_add_one, Nat.add_left_cancel_iff, Nat.left_eq_add, Nat.add_eq_left, Int.toNat_natCast, Nat.add_assoc, Int.ofNat_lt, Int.ofNat_le, Nat.lt_add_one_of_lt, Nat.lt_add_one, Nat.lt_add_right, Nat.lt_add_right_iff_pos, Nat.add_lt_add_iff_left, g5, wk1]
          refine IH2 (L.length - (k + 1) - (k2 + 1 + 1)) _ _ (by omega) ⟨k2 + 1, kk, C, rfl, by omega, ?_, ?_, ?_, ?_, hC, hCl, ?_, ?_, by omega, ?_, f2⟩
          · simp only [go_sem, Wk_block, Wk_drawnC, reduceCtorEq, Nat.reduceEqDiff, Nat.reduceAdd, Nat.reduceLeDiff, Nat.reduceLT, Nat.reduceMul, Nat.reduceSub, ↓reduceIte, Int.reduceLT, Int.reduceLE, Int.reduceNeg, Int.reduceAdd, Int.reduceEq, Nat.reduceBneDiff, Nat.reduceBEq, Int.reduceToNat, Int.reduceMul, Int.reduceSub, Int.reduceBEq, Int.reduceBNe, Int.cast_ofNat_Int, Int.toNat_natCast_add_one, Nat.add_left_cancel_iff, Nat.left_eq_add, Nat.add_eq_left, Int.toNat_natCast, Nat.add_assoc, Int.ofNat_lt, Int.ofNat_le]
          · simp only [go_sem, Wk_block, Wk_drawnC, reduceCtorEq, Nat.reduceEqDiff, Nat.reduceAdd, Nat.reduceLeDiff, Nat.reduceLT, Nat.reduceMul, Nat.reduceSub, ↓reduceIte, Int.reduceLT, Int.reduceLE, Int.reduceNeg, Int.reduceAdd, Int.reduceEq, Nat.reduceBneDiff, Nat.reduceBEq, Int.reduceToNat, Int.reduceMul, Int.reduceSub, Int.reduceBEq, Int.reduceBNe, Int.cast_ofNat_Int, Int.toNat_natCast_add_one, Nat.add_left_cancel_iff, Nat.left_eq_add, Nat.add_eq_left, Int.toNat_natCast, Nat.add_assoc, Int.ofNat_lt, Int.ofNat_le, g4]
          · simp only [go_sem, Wk_block, Wk_drawnC, reduceCtorEq, Nat.reduceEqDiff, Nat.reduceAdd, Nat.reduceLeDiff, Nat.reduceLT, Nat.reduceMul, Nat.reduceSub, ↓reduceIte, Int.reduceLT, Int.reduceLE, Int.reduceNeg, Int.reduceAdd, Int.reduceEq, Nat.reduceBneDiff, Nat.reduceBEq, Int.reduceToNat, Int.reduceMul, Int.reduceSub, Int.reduceBEq, Int.reduceBNe, Int.cast_ofNat_Int, Int.toNat_natCast_add_one, Nat.add_left_cancel_iff, Nat.left_eq_add, Nat.add_eq_left, Int.toNat_natCast, Nat.add_assoc, Int.ofNat_lt, Int.ofNat_le, g3]
          · simp only [go_sem, Wk_block, Wk_drawnC, reduceCtorEq, Nat.reduceEqDiff, Nat.reduceAdd, Nat.reduceLeDiff, Nat.reduceLT, Nat.reduceMul, Nat.reduceSub, ↓reduceIte, Int.reduceLT, Int.reduceLE, Int.reduceNeg, Int.reduceAdd, Int.reduceEq, Nat.reduceBneDiff, Nat.reduceBEq, Int.reduceToNat, Int.reduceMul, Int.reduceSub, Int.reduceBEq, Int.reduceBNe, Int.cast_ofNat_Int, Int.toNat_natCast_add_one, Nat.add_left_cancel_iff, Nat.left_eq_add, Nat.add_eq_left, Int.toNat_natCast, Nat.add_assoc, Int.ofNat_lt, Int.ofNat_le, g0]
          · rw [show k + 1 + (k2 + 1 + 1) = k + 1 + (k2 + 1) + 1 by omega, hdd]; exact htk
          · rw [show k + 1 + (k2 + 1 + 1) = k + 1 + (k2 + 1) + 1 by omega, hdd]; exact hkl
          · have := congrArg (List.drop 1) hdr
            simpa [List.drop_drop, Nat.add_assoc] using this
      · have he : k + 1 + (k2 + 1) = L.length := by omega
        have hl3 : ¬ k2 + 1 < L.length - (k + 1) := by omega
        have hkn : kk < L.length := by omega
        have n2 := sl_from (p := p) hkn
        have n3 := sl_to (p := p) (Nat.le_of_lt hkn) (by omega)
        have hnz : ¬ L.length - kk = 0 := by omega
        have hz1 := zrep_len (L.length - kk)
        have hz2 := zrep_cell (L.length - kk)
        have hz3 : kk * 2 + (L.length - kk) * 2 ≤ (C.flatMap Lb.enc).length := by omega
        have hcl := lflat_clear C kk (by omega)
        rw [hCl] at hcl
        rw [he] at htk hkl
        simp -implicitDefEqProofs only [go_sem, Wk_block, Wk_drawnC, reduceCtorEq, Nat.reduceEqDiff, Nat.reduceAdd, Nat.reduceLeDiff, Nat.reduceLT, Nat.reduceMul, Nat.reduceSub, ↓reduceIte, Int.reduceLT, Int.reduceLE, Int.reduceNeg, Int.reduceAdd, Int.reduceEq, Nat.reduceBneDiff, Nat.reduceBEq, Int.reduceToNat, Int.reduceMul, Int.reduceSub, Int.reduceBEq, Int.reduceBNe, Int.cast_ofNat_Int, Int.toNat_natCast_add_one, Nat.add_left_cancel_iff, Nat.left_eq_add, Nat.add_eq_left, Int.toNat_natCast, Nat.add_assoc, Int.ofNat_lt, Int.ofNat_le, Nat.lt_add_one_of_lt, Nat.lt_add_one, Nat.lt_add_right, Nat.lt_add_right_iff_pos, Nat.add_lt_add_iff_left, g5, g4, g3, g0, hl3, n2, n3, hnz, hz1, hz2, hz3, hC, hcl]
        refine ⟨⟨C.take kk ++ List.replicate (L.length - kk) ⟨0, 0⟩, ?_, ?_, ?_, ?_⟩, f2.put (.inl rfl) _⟩
        · rw [hkl]
        · rfl
        · rw [List.length_append, List.length_take, List.length_replicate]; omega
        · rw [← hkl, List.take_append_of_le_length (by rw [List.length_take]; omega), List.take_take, Nat.min_self]; exact htk
    · have hq := of_decide_eq_false hg
      simp -implicitDefEqProofs only [go_sem, Wk_block, Wk_drawnC, reduceCtorEq, Nat.reduceEqDiff, Nat.reduceAdd, Nat.reduceLeDiff, Nat.reduceLT, Nat.reduceMul, Nat.reduceSub, ↓reduceIte, Int.reduceLT, Int.reduceLE, Int.reduceNeg, Int.reduceAdd, Int.reduceEq, Nat.reduceBneDiff, Nat.reduceBEq, Int.reduceToNat, Int.reduceMul, Int.reduceSub, Int.reduceBEq, Int.reduceBNe, Int.cast_ofNat_Int, Int.toNat_natCast_add_one, Nat.add_left_cancel_iff, Nat.left_eq_add, Nat.add_eq_left, Int.toNat_natCast, Nat.add_assoc, Int.ofNat_lt, Int.ofNat_le, Nat.lt_add_one_of_lt, Nat.lt_add_one, Nat.lt_add_right, Nat.lt_add_right_iff_pos, Nat.add_lt_add_iff_left, g3, wk1]
      refine IH (L.length - (k + 1 + 1)) _ _ (by omega) ⟨k + 1, rfl, by omega, ?_, ?_, rfl, fun i h0 h1 => ?_⟩
      · simp only [go_sem, Wk_block, Wk_drawnC, reduceCtorEq, Nat.reduceEqDiff, Nat.reduceAdd, Nat.reduceLeDiff, Nat.reduceLT, Nat.reduceMul, Nat.reduceSub, ↓reduceIte, Int.reduceLT, Int.reduceLE, Int.reduceNeg, Int.reduceAdd, Int.reduceEq, Nat.reduceBneDiff, Nat.reduceBEq, Int.reduceToNat, Int.reduceMul, Int.reduceSub, Int.reduceBEq, Int.reduceBNe, Int.cast_ofNat_Int, Int.toNat_natCast_add_one, Nat.add_left_cancel_iff, Nat.left_eq_add, Nat.add_eq_left, Int.toNat_natCast, Nat.add_assoc, Int.ofNat_lt, Int.ofNat_le]
      · simp only [go_sem, Wk_block, Wk_drawnC, reduceCtorEq, Nat.reduceEqDiff, Nat.reduceAdd, Nat.reduceLeDiff, Nat.reduceLT, Nat.reduceMul, Nat.reduceSub, ↓reduceIte, Int.reduceLT, Int.reduceLE, Int.reduceNeg, Int.reduceAdd, Int.reduceEq, Nat.reduceBneDiff, Nat.reduceBEq, Int.reduceToNat, Int.reduceMul, Int.reduceSub, Int.reduceBEq, Int.reduceBNe, Int.cast_ofNat_Int, Int.toNat_natCast_add_one, Nat.add_left_cancel_iff, Nat.left_eq_add, Nat.add_eq_left, Int.toNat_natCast, Nat.add_assoc, Int.ofNat_lt, Int.ofNat_le, g0]
      · by_cases hi : i = k + 1
        · subst hi
          rw [List.getElem?_eq_getElem hlt, List.getElem?_eq_getElem (by omega)]
          intro h
          exact hq (Option.some.inj h)
        · exact hne i h0 (by omega)
  · have hkl : k + 1 = L.length := by omega
    have hltZ : decide (((k + 1 : Nat) : Int) < (L.length : Int)) = false := decide_eq_false (by omega)
    have hd : ddN L L.length = L := by rw [ddN_first (fun i h0 h1 => hne i h0 (by omega)) (Nat.le_refl _), List.take_length]
    simp -implicitDefEqProofs only [go_sem, Wk_block, Wk_drawnC, reduceCtorEq, Nat.reduceEqDiff, Nat.reduceAdd, Nat.reduceLeDiff, Nat.reduceLT, Nat.reduceMul, Nat.reduceSub, ↓reduceIte, Int.reduceLT, Int.reduceLE, Int.reduceNeg, Int.reduceAdd, Int.reduceEq, Nat.reduceBneDiff, Nat.reduceBEq, Int.reduceToNat, Int.reduceMul, Int.reduceSub, Int.reduceBEq, Int.reduceBNe, Int.cast_ofNat_Int, Int.toNat_natCast_add_one, Nat.add_left_cancel_iff, Nat.left_eq_add, Nat.add_eq_left, Int.toNat_natCast, Nat.add_assoc, Int.ofNat_lt, Int.ofNat_le, Nat.lt_add_one_of_lt, Nat.lt_add_one, Nat.lt_add_right, Nat.lt_add_right_iff_pos, Nat.add_lt_add_iff_left, g3, g0, hlt, hltZ, hd]
    exact ⟨⟨L, hp, rfl, List.take_length⟩, FrX.refl _ _⟩
end Go.Proofs.Yteffppdkofdmdaa
