/- How a node ended; what a history's deliveries may change. -/
import Derived.Test.YteffppdkofdmdaaPst7
namespace Go.Proofs.Yteffppdkofdmdaa
open D
set_option linter.unusedSimpArgs false
set_option linter.unusedVariables false
set_option maxRecDepth 10000

abbrev En := Bool × Int
def enE (a b : En) : List AV := [.bool a.1, .int .i64 a.2, .bool b.1, .int .i64 b.2]
def En.see (e : En) (up : Bool) (k : Int) : En := (up, if e.1 && !up then k else e.2)
def En.mends (e : En) (k : Int) : Bool := k == 16 && (!e.1 && e.2 == 11)

theorem see_run0 (a b : En) (up : Bool) (k : Int) {s : St} {E : Nat} (h : Lies s E (enE a b)) (hn : E < s.next) : Wf mm 20 [.ptr E 0, .bool up, .int .i64 k] s fun _ s' => Lies s' E (enE (a.see up k) b) ∧ FrX E s s' := by
  refine Wf_enter ft20 (sm (by decide)) (by rfl) ?_
  unfold Lies enE at h
  obtain ⟨u, c⟩ := a
  cases u <;> cases up
  all_goals
    simp -implicitDefEqProofs only [go_sem, Wk_block, Wk_drawnC, reduceCtorEq, Nat.reduceEqDiff, Nat.reduceAdd, Nat.reduceLeDiff, Nat.reduceLT, Nat.reduceMul, Nat.reduceSub, ↓reduceIte, Int.reduceLT, Int.reduceLE, Int.reduceNeg, Int.reduceAdd, Int.reduceEq, Nat.reduceBneDiff, Nat.reduceBEq, Int.reduceToNat, Int.reduceMul, Int.reduceSub, Int.reduceBEq, Int.reduceBNe, Int.cast_ofNat_Int, Int.toNat_natCast_add_one, Nat.add_left_cancel_iff, Nat.left_eq_add, Nat.add_eq_left, Int.toNat_natCast, Nat.add_assoc, Int.ofNat_lt, Int.ofNat_le, Nat.lt_add_one_of_lt, Nat.lt_add_one, Nat.lt_add_right, Nat.lt_add_right_iff_pos, Nat.add_lt_add_iff_left, fd20, h, hn]
    refine ⟨?_, by (repeat (first | exact FrX.refl _ _ | exact Fr.refl _ | assumption | exact Fr.x (by assumption) _ | refine FrX.put ?_ (.inl rfl) _ | refine FrX.put ?_ (.inr (by first | omega | (simp; done) | (simp; omega))) _ | refine FrX.new ?_ _ | refine Fr.put ?_ (by first | omega | (simp; done) | (simp; omega)) _ | refine Fr.new ?_ _ | refine FrX.then ?_ (by assumption) | refine Fr.trans ?_ (by assumption)))⟩
    simp only [Lies, St.get_put, St.get_new, if_true, if_false, enE, En.see]
    rfl
theorem see_run1 (a b : En) (up : Bool) (k : Int) {s : St} {E : Nat} (h : Lies s E (enE a b)) (hn : E < s.next) : Wf mm 20 [.ptr E 2, .bool up, .int .i64 k] s fun _ s' => Lies s' E (enE a (b.see up k)) ∧ FrX E s s' := by
  refine Wf_enter ft20 (sm (by decide)) (by rfl) ?_
  unfold Lies enE at h
  obtain ⟨u, c⟩ := b
  cases u <;> cases up
  all_goals
    simp -implicitDefEqProofs only [go_sem, Wk_block, Wk_drawnC, reduceCtorEq, Nat.reduceEqDiff, Nat.reduceAdd, Nat.reduceLeDiff, Nat.reduceLT, Nat.reduceMul, Nat.reduceSub, ↓reduceIte, Int.reduceLT, Int.reduceLE, Int.reduceNeg, Int.reduceAdd, Int.reduceEq, Nat.reduceBneDiff, Nat.reduceBEq, Int.reduceToNat, Int.reduceMul, Int.reduceSub, Int.reduceBEq, Int.reduceBNe, Int.cast_ofNat_Int, Int.toNat_natCast_add_one, Nat.add_left_cancel_iff, Nat.left_eq_add, Nat.add_eq_left, Int.toNat_natCast, Nat.add_assoc, Int.ofNat_lt, Int.ofNat_le, Nat.lt_add_one_of_lt, Nat.lt_add_one, Nat.lt_add_right, Nat.lt_add_right_iff_pos, Nat.add_lt_add_iff_left, fd20, h, hn]
    refine ⟨?_, by (repeat (first | exact FrX.refl _ _ | exact Fr.refl _ | assumption | exact Fr.x (by assumption) _ | refine FrX.put ?_ (.inl rfl) _ | refine FrX.put ?_ (.inr (by first | omega | (simp; done) | (simp; omega))) _ | refine FrX.new ?_ _ | refine Fr.put ?_ (by first | omega | (simp; done) | (simp; omega)) _ | refine Fr.new ?_ _ | refine FrX.then ?_ (by assumption) | refine Fr.trans ?_ (by assumption)))⟩
    simp only [Lies, St.get_put, St.get_new, if_true, if_false, enE, En.see]
    rfl
theorem mends_run0 (a b : En) (k : Int) {s : St} {E : Nat} (h : Lies s E (enE a b)) : Wf mm 19 [.ptr E 0, .int .i64 k] s fun w s' => w = .bool (a.mends k) ∧ s' = s := by
  refine Wf_enter ft19 (sm (by decide)) (by rfl) ?_
  unfold Lies enE at h
  obtain ⟨u, c⟩ := a
  cases hk : (k == 16) <;> cases u
  all_goals
    simp -implicitDefEqProofs only [go_sem, Wk_block, Wk_drawnC, reduceCtorEq, Nat.reduceEqDiff, Nat.reduceAdd, Nat.reduceLeDiff, Nat.reduceLT, Nat.reduceMul, Nat.reduceSub, ↓reduceIte, Int.reduceLT, Int.reduceLE, Int.reduceNeg, Int.reduceAdd, Int.reduceEq, Nat.reduceBneDiff, Nat.reduceBEq, Int.reduceToNat, Int.reduceMul, Int.reduceSub, Int.reduceBEq, Int.reduceBNe, Int.cast_ofNat_Int, Int.toNat_natCast_add_one, Nat.add_left_cancel_iff, Nat.left_eq_add, Nat.add_eq_left, Int.toNat_natCast, Nat.add_assoc, Int.ofNat_lt, Int.ofNat_le, Nat.lt_add_one_of_lt, Nat.lt_add_one, Nat.lt_add_right, Nat.lt_add_right_iff_pos, Nat.add_lt_add_iff_left, fd19, h, hk, (rfl : (false == true) = false)]
    simp [En.mends, hk]
theorem mends_run1 (a b : En) (k : Int) {s : St} {E : Nat} (h : Lies s E (enE a b)) : Wf mm 19 [.ptr E 2, .int .i64 k] s fun w s' => w = .bool (b.mends k) ∧ s' = s := by
  refine Wf_enter ft19 (sm (by decide)) (by rfl) ?_
  unfold Lies enE at h
  obtain ⟨u, c⟩ := b
  cases hk : (k == 16) <;> cases u
  all_goals
    simp -implicitDefEqProofs only [go_sem, Wk_block, Wk_drawnC, reduceCtorEq, Nat.reduceEqDiff, Nat.reduceAdd, Nat.reduceLeDiff, Nat.reduceLT, Nat.reduceMul, Nat.reduceSub, ↓reduceIte, Int.reduceLT, Int.reduceLE, Int.reduceNeg, Int.reduceAdd, Int.reduceEq, Nat.reduceBneDiff, Nat.reduceBEq, Int.reduceToNat, Int.reduceMul, Int.reduceSub, Int.reduceBEq, Int.reduceBNe, Int.cast_ofNat_Int, Int.toNat_natCast_add_one, Nat.add_left_cancel_iff, Nat.left_eq_add, Nat.add_eq_left, Int.toNat_natCast, Nat.add_assoc, Int.ofNat_lt, Int.ofNat_le, Nat.lt_add_one_of_lt, Nat.lt_add_one, Nat.lt_add_right, Nat.lt_add_right_iff_pos, Nat.add_lt_add_iff_left, fd19, h, hk, (rfl : (false == true) = false)]
    simp [En.mends, hk]

/-- How both ended. -/
def ens (l : List Mo) : En × En := l.foldl (fun a m => (a.1.see m.v0.up m.kind, a.2.see m.v1.up m.kind)) ((false, 0), (false, 0))
theorem ens_snoc (l : List Mo) (m : Mo) : ens (l ++ [m]) = ((ens l).1.see m.v0.up m.kind, (ens l).2.see m.v1.up m.kind) := by
  simp only [ens, List.foldl_append, List.foldl_cons, List.foldl_nil]
theorem ens_take {l : List Mo} {j : Nat} (hj : j < l.length) : ens (l.take (j + 1)) = ((ens (l.take j)).1.see l[j].v0.up l[j].kind, (ens (l.take j)).2.see l[j].v1.up l[j].kind) := by
  rw [List.take_succ_eq_append_getElem hj, ens_snoc]

def bad (i : Int) (la : Vw × Vw) (e : En) (m : Mo) : Bool := chg i la m && (m.kind != 11 && !e.mends m.kind)
def okP (es : En × En) (la : Vw × Vw) (m : Mo) : Bool := !bad 0 la es.1 m && !bad 1 la es.2 m && !(chg 0 la m && chg 1 la m)

/-- What a node's end is, by where it was up last. -/
def EnOk (e : En) (i : Int) (l : List Mo) : Prop := e.1 = decide ((lu i l).2 + 1 = l.length ∧ 0 ≤ (lu i l).2) ∧ ((lu i l).2 < 0 → e.2 = 0) ∧ (0 ≤ (lu i l).2 → (lu i l).2 + 1 < l.length → ∃ x, l[((lu i l).2 + 1).toNat]? = some x ∧ e.2 = x.kind)
theorem EnOk.step {e : En} {i : Int} {l : List Mo} (h : EnOk e i l) (m : Mo) : EnOk (e.see (sel i m.vs).up m.kind) i (l ++ [m]) := by
  obtain ⟨h1, h2, h3⟩ := h
  have hf := lu_fst i l
  have hs := lu_snd i l
  unfold EnOk En.see
  rw [lu_snoc, hf]
  cases hu : (sel i m.vs).up
  · simp only [Bool.false_eq_true, if_false, Bool.not_false, Bool.and_true, List.length_append, List.length_singleton]
    generalize (lu i l).2 = p at *
    refine ⟨?_, fun hp => ?_, fun hp0 hp1 => ?_⟩
    · simp; intro; omega
    · have : e.1 = false := by rw [h1]; simp; omega
      rw [this]
      exact h2 hp
    · by_cases hpe : p + 1 = l.length
      · refine ⟨m, ?_, ?_⟩
        · rw [hpe, Int.toNat_natCast]; simp
        · rw [h1]; simp [hpe, hp0]
      · obtain ⟨x, hx, hk⟩ := h3 hp0 (by omega)
        refine ⟨x, ?_, ?_⟩
        · rw [List.getElem?_append_left (by omega)]; exact hx
        · rw [h1]; simp [hpe, hk]
  · simp only [if_true, Bool.not_true, Bool.and_false, Bool.false_eq_true, if_false, List.length_append, List.length_singleton]
    refine ⟨by simp, fun h => by omega, fun _ h => by omega⟩
theorem ens_ok (l : List Mo) : EnOk (ens l).1 0 l ∧ EnOk (ens l).2 1 l := by
  refine snoc_ind (P := fun l => EnOk (ens l).1 0 l ∧ EnOk (ens l).2 1 l) ⟨?_, ?_⟩ (fun l m ih => ?_) l
  · exact ⟨by simp [ens, lu], fun _ => rfl, fun h => by simp [lu] at h⟩
  · exact ⟨by simp [ens, lu], fun _ => rfl, fun h => by simp [lu] at h⟩
  · rw [ens_snoc]
    exact ⟨ih.1.step m, ih.2.step m⟩
theorem EnOk.cut {e : En} {i : Int} {l : List Mo} (h : EnOk e i l) (m : Mo) : (m.kind != 11 && !e.mends m.kind) = !cutB i l m := by
  obtain ⟨h1, h2, h3⟩ := h
  have hs := lu_snd i l
  unfold cutB En.mends
  rw [h1]
  generalize (lu i l).2 = p at *
  by_cases hp0 : 0 ≤ p
  · by_cases hp1 : p + 1 < l.length
    · obtain ⟨x, hx, hk⟩ := h3 hp0 hp1
      rw [hx, hk]
      have d1 : decide (p + 1 = (l.length : Int) ∧ 0 ≤ p) = false := decide_eq_false (by omega)
      simp only [bne, d1, decide_eq_true hp0, decide_eq_true hp1, Option.any_some, Bool.not_false, Bool.true_and, Bool.and_true]
      cases m.kind == 11 <;> cases m.kind == 16 <;> cases x.kind == 11 <;> rfl
    · have d1 : decide (p + 1 = (l.length : Int) ∧ 0 ≤ p) = true := decide_eq_true (by omega)
      simp only [bne, d1, decide_eq_true hp0, decide_eq_false hp1, Bool.not_true, Bool.false_and, Bool.and_false, Bool.not_false, Bool.and_true, Bool.or_false]
  · have d1 : decide (p + 1 = (l.length : Int) ∧ 0 ≤ p) = false := decide_eq_false (by omega)
    rw [h2 (by omega)]
    simp only [bne, d1, decide_eq_false hp0, Bool.not_false, Bool.true_and, Bool.and_false, Bool.false_and, Bool.or_false]
    simp
theorem okP_eq (l : List Mo) (m : Mo) : okP (ens l) (lastV l) m = okC l m := by
  obtain ⟨h0, h1⟩ := ens_ok l
  unfold okP okC bad
  rw [h0.cut m, h1.cut m]
  cases chg 0 (lastV l) m <;> cases chg 1 (lastV l) m <;> simp
end Go.Proofs.Yteffppdkofdmdaa
