/- The loop that goes through a history, whatever is done in its rounds. -/
import Derived.Test.YteffppdkofdmdaaPst1
namespace Go.Proofs.Yteffppdkofdmdaa
open D
set_option linter.unusedSimpArgs false
set_option linter.unusedVariables false
set_option maxRecDepth 10000

def enc2 (a : Vw × Vw) : List AV := a.1.enc ++ a.2.enc
theorem lastV_take {l : List Mo} {j : Nat} (hj : j < l.length) : lastV (l.take (j + 1)) = (if l[j].v0.up then l[j].v0 else (lastV (l.take j)).1, if l[j].v1.up then l[j].v1 else (lastV (l.take j)).2) := by
  rw [List.take_succ_eq_append_getElem hj]
  simp only [lastV, List.foldl_append, List.foldl_cons, List.foldl_nil]

/-- A state is as another one, up to a number. -/
structure Upto (N : Nat) (s s' : St) : Prop where
  le : s.next ≤ s'.next
  get : ∀ b, b < N → s'.get b = s.get b
theorem Upto.refl (N : Nat) (s : St) : Upto N s s := ⟨Nat.le_refl _, fun _ _ => rfl⟩
theorem Upto.new {N : Nat} {a b : St} (h : Upto N a b) (hN : N ≤ a.next) (o : AObj) : Upto N a (b.new o) := ⟨Nat.le_succ_of_le h.le, fun x hx => by rw [St.get_new, if_neg (by have := h.le; omega)]; exact h.get x hx⟩
theorem Upto.put {N : Nat} {a b : St} (h : Upto N a b) {x : Nat} (hx : N ≤ x) (o : AObj) : Upto N a (b.put x o) := ⟨h.le, fun y hy => by rw [St.get_put, if_neg (by omega)]; exact h.get y hy⟩
theorem Upto.trans {N : Nat} {a b c : St} (h : Upto N a b) (k : Upto N b c) : Upto N a c := ⟨Nat.le_trans h.le k.le, fun x hx => (k.get x hx).trans (h.get x hx)⟩

theorem gen_run (ms : List Mo) (hm : ∀ m ∈ ms, MoOk m) {v : AV} {ba oa r p : Nat} {lo rr : Bool} {z : Nat} {s : St} (hA : Acc s v 58 (ms.map Mo.cells) ba oa) (hp : s.get p = some (.cells [v] lo rr z)) (hpl : p < s.next)
    (Inv : Nat → St → Prop) (Don : St → Prop) (hst : ∀ j s1 s2, Inv j s1 → Upto s.next s1 s2 → Inv j s2)
    (hI : ∀ j s1, Inv j s1 → Acc s1 v 58 (ms.map Mo.cells) ba oa)
    (hrd : ∀ j (hj : j < ms.length) s1, s.next ≤ s1.next → Inv j s1 → Round mm r [.agg ms[j].cells, .agg (enc2 (lastV (ms.take j)))] s1 fun b s2 => s1.next ≤ s2.next ∧ (∀ c, s.next ≤ c → c < s1.next → s2.get c = s1.get c) ∧ (b = true → Inv (j + 1) s2) ∧ (b = false → Don s2))
    (h0 : Inv 0 s) : Wf mm 26 [.yld r, .ptr p 0] s fun _ s' => s.next ≤ s'.next ∧ (Inv ms.length s' ∨ Don s') := by
  refine Wf_enter ft26 (sm (by decide)) (by rfl) ?_
  obtain ⟨L, hL⟩ : ∃ L, s.next = L := ⟨_, rfl⟩
  simp -implicitDefEqProofs only [go_sem, Wk_block, Wk_drawnC, reduceCtorEq, Nat.reduceEqDiff, Nat.reduceAdd, Nat.reduceLeDiff, Nat.reduceLT, Nat.reduceMul, Nat.reduceSub, ↓reduceIte, Int.reduceLT, Int.reduceLE, Int.reduceNeg, Int.reduceAdd, Int.reduceEq, Nat.reduceBneDiff, Nat.reduceBEq, Int.reduceToNat, Int.reduceMul, Int.reduceSub, Int.reduceBEq, Int.reduceBNe, Int.cast_ofNat_Int, Int.toNat_natCast_add_one, Nat.add_left_cancel_iff, Nat.left_eq_add, Nat.add_eq_left, Int.toNat_natCast, Nat.add_assoc, Int.ofNat_lt, Int.ofNat_le, Nat.lt_add_one_of_lt, Nat.lt_add_one, Nat.lt_add_right, Nat.lt_add_right_iff_pos, Nat.add_lt_add_iff_left, fd26, hp, hpl, eq_next_f hpl, hA.len]
  have hmax := hA.max
  rw [List.length_map] at hmax
  have hi0 : Inv 0 (s.new (.cells (enc2 (.zero, .zero)) false false 0)) := hst 0 s _ h0 ⟨Nat.le_succ _, fun b hb => by rw [St.get_new, if_neg (by omega)]⟩
  have hl0 : Lies (s.new (.cells (enc2 (.zero, .zero)) false false 0)) L (enc2 (.zero, .zero)) := by rw [← hL]; simp only [Lies, St.get_new, if_true]
  rw [hL]
  refine loop_ind (fun m ts s' => ∃ j : Nat, m = ms.length - j ∧ j ≤ ms.length ∧ ts.get 10 = some (.int .i64 j) ∧ ts.get 9 = some (.int .i64 ms.length) ∧ ts.get 8 = some v ∧ ts.get 0 = some (.yld r) ∧ ts.get 3 = some (.ptr L 0) ∧
    Inv j s' ∧ Lies s' L (enc2 (lastV (ms.take j))) ∧ L < s'.next) ?_ (n := ms.length)
    ⟨0, by omega, by omega, by simp only [go_sem, Wk_block, Wk_drawnC, reduceCtorEq, Nat.reduceEqDiff, Nat.reduceAdd, Nat.reduceLeDiff, Nat.reduceLT, Nat.reduceMul, Nat.reduceSub, ↓reduceIte, Int.reduceLT, Int.reduceLE, Int.reduceNeg, Int.reduceAdd, Int.reduceEq, Nat.reduceBneDiff, Nat.reduceBEq, Int.reduceToNat, Int.reduceMul, Int.reduceSub, Int.reduceBEq, Int.reduceBNe, Int.cast_ofNat_Int, Int.toNat_natCast_add_one, Nat.add_left_cancel_iff, Nat.left_eq_add, Nat.add_eq_left, Int.toNat_natCast, Nat.add_assoc, Int.ofNat_lt, Int.ofNat_le], by simp only [go_sem, Wk_block, Wk_drawnC, reduceCtorEq, Nat.reduceEqDiff, Nat.reduceAdd, Nat.reduceLeDiff, Nat.reduceLT, Nat.reduceMul, Nat.reduceSub, ↓reduceIte, Int.reduceLT, Int.reduceLE, Int.reduceNeg, Int.reduceAdd, Int.reduceEq, Nat.reduceBneDiff, Nat.reduceBEq, Int.reduceToNat, Int.reduceMul, Int.reduceSub, Int.reduceBEq, Int.reduceBNe, Int.cast_ofNat_Int, Int.toNat_natCast_add_one, Nat.add_left_cancel_iff, Nat.left_eq_add, Nat.add_eq_left, Int.toNat_natCast, Nat.add_assoc, Int.ofNat_lt, Int.ofNat_le, List.length_map], by simp only [go_sem, Wk_block, Wk_drawnC, reduceCtorEq, Nat.reduceEqDiff, Nat.reduceAdd, Nat.reduceLeDiff, Nat.reduceLT, Nat.reduceMul, Nat.reduceSub, ↓reduceIte, Int.reduceLT, Int.reduceLE, Int.reduceNeg, Int.reduceAdd, Int.reduceEq, Nat.reduceBneDiff, Nat.reduceBEq, Int.reduceToNat, Int.reduceMul, Int.reduceSub, Int.reduceBEq, Int.reduceBNe, Int.cast_ofNat_Int, Int.toNat_natCast_add_one, Nat.add_left_cancel_iff, Nat.left_eq_add, Nat.add_eq_left, Int.toNat_natCast, Nat.add_assoc, Int.ofNat_lt, Int.ofNat_le], by simp only [go_sem, Wk_block, Wk_drawnC, reduceCtorEq, Nat.reduceEqDiff, Nat.reduceAdd, Nat.reduceLeDiff, Nat.reduceLT, Nat.reduceMul, Nat.reduceSub, ↓reduceIte, Int.reduceLT, Int.reduceLE, Int.reduceNeg, Int.reduceAdd, Int.reduceEq, Nat.reduceBneDiff, Nat.reduceBEq, Int.reduceToNat, Int.reduceMul, Int.reduceSub, Int.reduceBEq, Int.reduceBNe, Int.cast_ofNat_Int, Int.toNat_natCast_add_one, Nat.add_left_cancel_iff, Nat.left_eq_add, Nat.add_eq_left, Int.toNat_natCast, Nat.add_assoc, Int.ofNat_lt, Int.ofNat_le], by simp only [go_sem, Wk_block, Wk_drawnC, reduceCtorEq, Nat.reduceEqDiff, Nat.reduceAdd, Nat.reduceLeDiff, Nat.reduceLT, Nat.reduceMul, Nat.reduceSub, ↓reduceIte, Int.reduceLT, Int.reduceLE, Int.reduceNeg, Int.reduceAdd, Int.reduceEq, Nat.reduceBneDiff, Nat.reduceBEq, Int.reduceToNat, Int.reduceMul, Int.reduceSub, Int.reduceBEq, Int.reduceBNe, Int.cast_ofNat_Int, Int.toNat_natCast_add_one, Nat.add_left_cancel_iff, Nat.left_eq_add, Nat.add_eq_left, Int.toNat_natCast, Nat.add_assoc, Int.ofNat_lt, Int.ofNat_le], hi0, hl0, by rw [← hL]; exact Nat.lt_succ_self _⟩
  clear hi0 hl0 h0 hA hp
  rintro m ts s1 ⟨j, rfl, hj, g10, g9, g8, g0, g3, hi, hl, hn⟩ IH
  by_cases hlt : j < ms.length
  · have hjl : j < (ms.map Mo.cells).length := by rw [List.length_map]; exact hlt
    have hA1 := hI j s1 hi
    obtain ⟨vs, hv, hle, he⟩ := hA1.at_ j hjl
    have hok := hm ms[j] (List.getElem_mem hlt)
    rw [List.getElem_map] at he
    have hrd := hrd j hlt
    have hlv := lastV_take hlt
    generalize hx : ms[j] = x at he hok hrd hlv
    generalize hla : lastV (ms.take j) = la at *
    have hn2 : j < 9223372036854775807 := by unfold maxLen at hmax; omega
    have hl' := hl
    unfold Lies enc2 Vw.enc at hl'
    have hlen := hok.len
    have hcell := hok.cell
    simp -implicitDefEqProofs only [go_sem, Wk_block, Wk_drawnC, reduceCtorEq, Nat.reduceEqDiff, Nat.reduceAdd, Nat.reduceLeDiff, Nat.reduceLT, Nat.reduceMul, Nat.reduceSub, ↓reduceIte, Int.reduceLT, Int.reduceLE, Int.reduceNeg, Int.reduceAdd, Int.reduceEq, Nat.reduceBneDiff, Nat.reduceBEq, Int.reduceToNat, Int.reduceMul, Int.reduceSub, Int.reduceBEq, Int.reduceBNe, Int.cast_ofNat_Int, Int.toNat_natCast_add_one, Nat.add_left_cancel_iff, Nat.left_eq_add, Nat.add_eq_left, Int.toNat_natCast, Nat.add_assoc, Int.ofNat_lt, Int.ofNat_le, Nat.lt_add_one_of_lt, Nat.lt_add_one, Nat.lt_add_right, Nat.lt_add_right_iff_pos, Nat.add_lt_add_iff_left, g10, g9, g8, g0, g3, hlt, hA1.idx _ _ hjl, hv, hle, he, hlen, hcell, hl', hn, eq_next_f hn, eq_next_f' hn]
    have ht : x.cells.take 58 = x.cells := List.take_of_length_le (by omega)
    rw [ht]
    have hi2 : Inv j (s1.new (.cells x.cells false false 0)) := hst j s1 _ hi ⟨Nat.le_succ _, fun b hb => by rw [St.get_new, if_neg (by omega)]⟩
    obtain ⟨e, he1⟩ : ∃ e, s1.next = e := ⟨_, rfl⟩
    refine Wc_yld ((hrd _ (by simp only [St.next_new]; omega) hi2).mono ?_)
    rintro b s3 ⟨h1, h2, h3, h4⟩
    simp only [St.next_new] at h1 h2
    have hL3 : s3.get L = _ := (h2 L (by omega) (by omega)).trans ((St.get_new _ _ _).trans ((if_neg (by omega)).trans hl'))
    have he3 : s3.get e = some (.cells x.cells false false 0) := (h2 e (by omega) (by omega)).trans (by rw [← he1]; simp only [St.get_new, if_true])
    cases b with
    | false =>
      simp only [go_sem, Wk_block, Wk_drawnC, reduceCtorEq, Nat.reduceEqDiff, Nat.reduceAdd, Nat.reduceLeDiff, Nat.reduceLT, Nat.reduceMul, Nat.reduceSub, ↓reduceIte, Int.reduceLT, Int.reduceLE, Int.reduceNeg, Int.reduceAdd, Int.reduceEq, Nat.reduceBneDiff, Nat.reduceBEq, Int.reduceToNat, Int.reduceMul, Int.reduceSub, Int.reduceBEq, Int.reduceBNe, Int.cast_ofNat_Int, Int.toNat_natCast_add_one, Nat.add_left_cancel_iff, Nat.left_eq_add, Nat.add_eq_left, Int.toNat_natCast, Nat.add_assoc, Int.ofNat_lt, Int.ofNat_le]
      exact ⟨by omega, .inr (h4 rfl)⟩
    | true =>
      have hi3 := h3 rfl
      have hn3 : L < s3.next := by omega
      have hne : ¬ e = L := by omega
      clear h2 h3 h4 hi hi2 hl hl' hv hle he hrd
      rw [he1]
      have hv := hok.v
      unfold Vw.enc at hv
      have hlen' : 44 + 14 ≤ x.cells.length := by omega
      have hlen2 : 58 ≤ x.cells.length := by omega
      have w1 : IntKind.i64.wrap 1 = 1 := rfl
      have w2 : IntKind.i64.wrap 2 = 2 := rfl
      have hnL : L ≠ s3.next := by omega
      cases hu0 : x.v0.up <;> cases hu1 : x.v1.up
      all_goals
        rw [hu0, hu1] at hlv
        simp only [if_true, if_false, Bool.false_eq_true] at hlv
        simp -implicitDefEqProofs only [go_sem, Wk_block, Wk_drawnC, reduceCtorEq, Nat.reduceEqDiff, Nat.reduceAdd, Nat.reduceLeDiff, Nat.reduceLT, Nat.reduceMul, Nat.reduceSub, ↓reduceIte, Int.reduceLT, Int.reduceLE, Int.reduceNeg, Int.reduceAdd, Int.reduceEq, Nat.reduceBneDiff, Nat.reduceBEq, Int.reduceToNat, Int.reduceMul, Int.reduceSub, Int.reduceBEq, Int.reduceBNe, Int.cast_ofNat_Int, Int.toNat_natCast_add_one, Nat.add_left_cancel_iff, Nat.left_eq_add, Nat.add_eq_left, Int.toNat_natCast, Nat.add_assoc, Int.ofNat_lt, Int.ofNat_le, Nat.lt_add_one_of_lt, Nat.lt_add_one, Nat.lt_add_right, Nat.lt_add_right_iff_pos, Nat.add_lt_add_iff_left, he3, hv, hlen', hlen2, hu0, hu1]
        rw [Wk_loop]
        simp -implicitDefEqProofs only [go_sem, Wk_block, Wk_drawnC, reduceCtorEq, Nat.reduceEqDiff, Nat.reduceAdd, Nat.reduceLeDiff, Nat.reduceLT, Nat.reduceMul, Nat.reduceSub, ↓reduceIte, Int.reduceLT, Int.reduceLE, Int.reduceNeg, Int.reduceAdd, Int.reduceEq, Nat.reduceBneDiff, Nat.reduceBEq, Int.reduceToNat, Int.reduceMul, Int.reduceSub, Int.reduceBEq, Int.reduceBNe, Int.cast_ofNat_Int, Int.toNat_natCast_add_one, Nat.add_left_cancel_iff, Nat.left_eq_add, Nat.add_eq_left, Int.toNat_natCast, Nat.add_assoc, Int.ofNat_lt, Int.ofNat_le, Nat.lt_add_one_of_lt, Nat.lt_add_one, Nat.lt_add_right, Nat.lt_add_right_iff_pos, Nat.add_lt_add_iff_left, he3, hv, hlen', hlen2, hu0, hu1, hL3, hn3, g3, w1, eq_next_f hn3, eq_next_f' hn3]
        rw [Wk_loop]
        simp -implicitDefEqProofs only [go_sem, Wk_block, Wk_drawnC, reduceCtorEq, Nat.reduceEqDiff, Nat.reduceAdd, Nat.reduceLeDiff, Nat.reduceLT, Nat.reduceMul, Nat.reduceSub, ↓reduceIte, Int.reduceLT, Int.reduceLE, Int.reduceNeg, Int.reduceAdd, Int.reduceEq, Nat.reduceBneDiff, Nat.reduceBEq, Int.reduceToNat, Int.reduceMul, Int.reduceSub, Int.reduceBEq, Int.reduceBNe, Int.cast_ofNat_Int, Int.toNat_natCast_add_one, Nat.add_left_cancel_iff, Nat.left_eq_add, Nat.add_eq_left, Int.toNat_natCast, Nat.add_assoc, Int.ofNat_lt, Int.ofNat_le, Nat.lt_add_one_of_lt, Nat.lt_add_one, Nat.lt_add_right, Nat.lt_add_right_iff_pos, Nat.add_lt_add_iff_left, he3, hv, hlen', hlen2, hu0, hu1, hL3, hn3, g3, w1, w2, eq_next_f hn3, eq_next_f' hn3, eq_next_k hn3, eq_next_k' hn3]
        rw [Wk_loop]
        simp -implicitDefEqProofs only [go_sem, Wk_block, Wk_drawnC, reduceCtorEq, Nat.reduceEqDiff, Nat.reduceAdd, Nat.reduceLeDiff, Nat.reduceLT, Nat.reduceMul, Nat.reduceSub, ↓reduceIte, Int.reduceLT, Int.reduceLE, Int.reduceNeg, Int.reduceAdd, Int.reduceEq, Nat.reduceBneDiff, Nat.reduceBEq, Int.reduceToNat, Int.reduceMul, Int.reduceSub, Int.reduceBEq, Int.reduceBNe, Int.cast_ofNat_Int, Int.toNat_natCast_add_one, Nat.add_left_cancel_iff, Nat.left_eq_add, Nat.add_eq_left, Int.toNat_natCast, Nat.add_assoc, Int.ofNat_lt, Int.ofNat_le, Nat.lt_add_one_of_lt, Nat.lt_add_one, Nat.lt_add_right, Nat.lt_add_right_iff_pos, Nat.add_lt_add_iff_left, he3, hv, hlen', hlen2, hu0, hu1, hL3, hn3, g3, g10, w2, succ_in hn2]
        refine IH (ms.length - (j + 1)) _ _ (by omega) ⟨j + 1, rfl, by omega, ?_, ?_, ?_, ?_, ?_, hst _ s3 _ hi3 ?_, ?_, ?_⟩
        all_goals try simp only [go_sem, Wk_block, Wk_drawnC, reduceCtorEq, Nat.reduceEqDiff, Nat.reduceAdd, Nat.reduceLeDiff, Nat.reduceLT, Nat.reduceMul, Nat.reduceSub, ↓reduceIte, Int.reduceLT, Int.reduceLE, Int.reduceNeg, Int.reduceAdd, Int.reduceEq, Nat.reduceBneDiff, Nat.reduceBEq, Int.reduceToNat, Int.reduceMul, Int.reduceSub, Int.reduceBEq, Int.reduceBNe, Int.cast_ofNat_Int, Int.toNat_natCast_add_one, Nat.add_left_cancel_iff, Nat.left_eq_add, Nat.add_eq_left, Int.toNat_natCast, Nat.add_assoc, Int.ofNat_lt, Int.ofNat_le, g10, g9, g8, g0, g3]
        · (repeat (first | exact Upto.refl _ _ | refine Upto.put ?_ (by omega) _ | refine Upto.new ?_ (by omega) _))
        · rw [hlv]
          simp -implicitDefEqProofs only [go_sem, Wk_block, Wk_drawnC, reduceCtorEq, Nat.reduceEqDiff, Nat.reduceAdd, Nat.reduceLeDiff, Nat.reduceLT, Nat.reduceMul, Nat.reduceSub, ↓reduceIte, Int.reduceLT, Int.reduceLE, Int.reduceNeg, Int.reduceAdd, Int.reduceEq, Nat.reduceBneDiff, Nat.reduceBEq, Int.reduceToNat, Int.reduceMul, Int.reduceSub, Int.reduceBEq, Int.reduceBNe, Int.cast_ofNat_Int, Int.toNat_natCast_add_one, Nat.add_left_cancel_iff, Nat.left_eq_add, Nat.add_eq_left, Int.toNat_natCast, Nat.add_assoc, Int.ofNat_lt, Int.ofNat_le, Nat.lt_add_one_of_lt, Nat.lt_add_one, Nat.lt_add_right, Nat.lt_add_right_iff_pos, Nat.add_lt_add_iff_left, Lies, hL3, hn3, eq_next_f hn3, eq_next_f' hn3, eq_next_k hn3, eq_next_k' hn3, enc2, Vw.enc, hu0, hu1]
        · omega
  · simp -implicitDefEqProofs only [go_sem, Wk_block, Wk_drawnC, reduceCtorEq, Nat.reduceEqDiff, Nat.reduceAdd, Nat.reduceLeDiff, Nat.reduceLT, Nat.reduceMul, Nat.reduceSub, ↓reduceIte, Int.reduceLT, Int.reduceLE, Int.reduceNeg, Int.reduceAdd, Int.reduceEq, Nat.reduceBneDiff, Nat.reduceBEq, Int.reduceToNat, Int.reduceMul, Int.reduceSub, Int.reduceBEq, Int.reduceBNe, Int.cast_ofNat_Int, Int.toNat_natCast_add_one, Nat.add_left_cancel_iff, Nat.left_eq_add, Nat.add_eq_left, Int.toNat_natCast, Nat.add_assoc, Int.ofNat_lt, Int.ofNat_le, Nat.lt_add_one_of_lt, Nat.lt_add_one, Nat.lt_add_right, Nat.lt_add_right_iff_pos, Nat.add_lt_add_iff_left, g10, g9, g8, g0, g3, hlt]
    have : j = ms.length := by omega
    subst this
    exact ⟨by omega, .inl hi⟩
end Go.Proofs.Yteffppdkofdmdaa
