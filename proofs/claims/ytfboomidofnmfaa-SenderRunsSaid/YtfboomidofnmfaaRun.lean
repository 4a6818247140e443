/- SenderRuns, walked on the abstract machine. -/
import Derived.Test.YtfboomidofnmfaaRef3
import Derived.Test.YtfboomidofnmfaaSnd2
import Derived.Test.YtfboomidofnmfaaRis
namespace Go.Proofs.Ytfboomidofnmfaa
open D
set_option linter.unusedSimpArgs false
set_option linter.unusedVariables false
set_option maxRecDepth 10000

theorem Mg.same_refl (m : Mg) : m.same m = true := by simp [Mg.same]

theorem same_run (S : Snd) {s : St} {b : Nat} (hb : Lies s b S.enc) (hlt : b < s.next) : Wf mm 31 [.ptr b 0, .agg S.encR] s fun v s' => v = .bool true ∧ Fr s s' := by
  refine Wf_enter ft31 (sm (by decide)) (by rfl) ?_
  obtain ⟨p, hp⟩ : ∃ p, s.next = p := ⟨_, rfl⟩
  have f1 : Fr s (s.new (.cells S.encR false false 0)) := (Fr.refl s).new _
  have hR1 : (s.new (.cells S.encR false false 0)).get p = some (.cells S.encR false false 0) := by rw [← hp]; simp only [St.get_new, if_true]
  have hn1 : p < (s.new (.cells S.encR false false 0)).next := by rw [← hp]; exact Nat.lt_succ_self _
  have hb1 : Lies (s.new (.cells S.encR false false 0)) b S.enc := (f1.get b hlt).trans hb
  have hlt1 := Nat.lt_of_lt_of_le hlt f1.le
  unfold Snd.encR at f1 hR1 hn1 hb1 hlt1
  simp -implicitDefEqProofs only [go_sem, Wk_block, reduceCtorEq, Nat.reduceEqDiff, Nat.reduceAdd, Nat.reduceLeDiff, Nat.reduceLT, Nat.reduceMul, Nat.reduceSub, ↓reduceIte, Int.reduceLT, Int.reduceLE, Int.reduceNeg, Int.reduceAdd, Int.reduceEq, Nat.reduceBneDiff, Nat.reduceBEq, Int.reduceToNat, Int.reduceMul, Int.reduceSub, Int.reduceBEq, Int.reduceBNe, Int.cast_ofNat_Int, Int.toNat_natCast_add_one, Nat.add_left_cancel_iff, Nat.left_eq_add, Nat.add_eq_left, Int.toNat_natCast, Nat.add_assoc, Int.ofNat_lt, Int.ofNat_le, Nat.lt_add_one_of_lt, Nat.lt_add_one, Nat.lt_add_right, Nat.lt_add_right_iff_pos, Nat.add_lt_add_iff_left, fd31, Snd.encR]
  rw [hp]
  generalize s.new (.cells [.int .u64 S.boot, .int .u64 S.began, .int .u64 S.sess, .int .i64 S.retry, .int .i64 S.phase, .int .u32 S.target.e, .int .u32 S.target.q, .int .u32 S.base.e, .int .u32 S.base.q, .int .u32 S.done.e, .int .u32 S.done.q, .int .i64 S.index, .int .i64 S.total, .int .i64 S.waits] false false 0) = s1 at f1 hR1 hn1 hb1 hlt1 ⊢
  refine Wl_of (Out_run S 7 hb1 hlt1) ?_
  rintro _ s2 ⟨rfl, f2⟩
  have hR2 := (f2.get _ hn1).trans hR1
  have hn2 := Nat.lt_of_lt_of_le hn1 f2.le
  have hb2 := (f2.get _ hlt1).trans hb1
  have hlt2 := Nat.lt_of_lt_of_le hlt1 f2.le
  have f02 := f1.trans f2
  clear f1 hR1 hn1 hb1 hlt1 f2
  have hnil : (S.out 7).1.items = .nilSlice ∧ (S.out 7).1.haves = .nilSlice := by
    unfold Snd.out
    split
    · exact ⟨rfl, rfl⟩
    · split <;> exact ⟨rfl, rfl⟩
  have hro := fun s => rout_run S 7 s
  obtain ⟨o, ho⟩ : ∃ o, S.out 7 = o := ⟨_, rfl⟩
  rw [ho] at hnil hro ⊢
  obtain ⟨m, g⟩ := o
  dsimp only at hnil hro ⊢
  simp -implicitDefEqProofs only [go_sem, Wk_block, reduceCtorEq, Nat.reduceEqDiff, Nat.reduceAdd, Nat.reduceLeDiff, Nat.reduceLT, Nat.reduceMul, Nat.reduceSub, ↓reduceIte, Int.reduceLT, Int.reduceLE, Int.reduceNeg, Int.reduceAdd, Int.reduceEq, Nat.reduceBneDiff, Nat.reduceBEq, Int.reduceToNat, Int.reduceMul, Int.reduceSub, Int.reduceBEq, Int.reduceBNe, Int.cast_ofNat_Int, Int.toNat_natCast_add_one, Nat.add_left_cancel_iff, Nat.left_eq_add, Nat.add_eq_left, Int.toNat_natCast, Nat.add_assoc, Int.ofNat_lt, Int.ofNat_le, Nat.lt_add_one_of_lt, Nat.lt_add_one, Nat.lt_add_right, Nat.lt_add_right_iff_pos, Nat.add_lt_add_iff_left, Mg.enc, hnil.1, hnil.2, hR2, hn2, eq_next_f hn2]
  refine Wl_of (hro _) ?_
  rintro _ s3 ⟨rfl, f3⟩
  obtain ⟨a, ha⟩ : ∃ a, s2.next = a := ⟨_, rfl⟩
  have hA3 : s3.get a = some (.cells m.enc false false 0) := by
    rw [← ha, f3.get _ (by simp -implicitDefEqProofs only [go_sem, Wk_block, reduceCtorEq, Nat.reduceEqDiff, Nat.reduceAdd, Nat.reduceLeDiff, Nat.reduceLT, Nat.reduceMul, Nat.reduceSub, ↓reduceIte, Int.reduceLT, Int.reduceLE, Int.reduceNeg, Int.reduceAdd, Int.reduceEq, Nat.reduceBneDiff, Nat.reduceBEq, Int.reduceToNat, Int.reduceMul, Int.reduceSub, Int.reduceBEq, Int.reduceBNe, Int.cast_ofNat_Int, Int.toNat_natCast_add_one, Nat.add_left_cancel_iff, Nat.left_eq_add, Nat.add_eq_left, Int.toNat_natCast, Nat.add_assoc, Int.ofNat_lt, Int.ofNat_le, Nat.lt_add_one_of_lt, Nat.lt_add_one, Nat.lt_add_right, Nat.lt_add_right_iff_pos, Nat.add_lt_add_iff_left, hn2])]
    simp only [St.get_new, if_true, Mg.enc, hnil.1, hnil.2]
  have f3' := ((Fr.refl s2).new _).trans f3
  have hR3 := (f3'.get _ hn2).trans hR2
  have hb3 := (f3'.get _ hlt2).trans hb2
  have hle := f3.le
  simp only [St.next_new] at hle
  have hn3 : p < s3.next := by omega
  have hlt3 : b < s3.next := by omega
  have ha3 : a < s3.next := by omega
  have f03 := f02.trans f3'
  clear f02 hR2 hn2 hb2 hlt2 f3 f3' hle
  rw [ha]
  obtain ⟨c, hc⟩ : ∃ c, s3.next = c := ⟨_, rfl⟩
  have f04 := f03.new (.cells m.enc false false 0)
  have hb4 : Lies (s3.new (.cells m.enc false false 0)) b S.enc := ((Fr.refl s3).new _ |>.get _ hlt3).trans hb3
  have hR4 := (((Fr.refl s3).new (.cells m.enc false false 0)).get _ hn3).trans hR3
  have hA4 := (((Fr.refl s3).new (.cells m.enc false false 0)).get _ ha3).trans hA3
  have hC4 : (s3.new (.cells m.enc false false 0)).get c = some (.cells m.enc false false 0) := by rw [← hc]; simp only [St.get_new, if_true]
  have hn4 : p < (s3.new (.cells m.enc false false 0)).next := Nat.lt_succ_of_lt hn3
  have hlt4 : b < (s3.new (.cells m.enc false false 0)).next := Nat.lt_succ_of_lt hlt3
  have ha4 : a < (s3.new (.cells m.enc false false 0)).next := Nat.lt_succ_of_lt ha3
  have hc4 : c < (s3.new (.cells m.enc false false 0)).next := by rw [← hc]; exact Nat.lt_succ_self _
  unfold Mg.enc at f04 hb4 hR4 hA4 hC4 hn4 hlt4 ha4 hc4
  rw [hnil.1, hnil.2] at f04 hb4 hR4 hA4 hC4 hn4 hlt4 ha4 hc4
  simp only [go_sem, Wk_block, reduceCtorEq, Nat.reduceEqDiff, Nat.reduceAdd, Nat.reduceLeDiff, Nat.reduceLT, Nat.reduceMul, Nat.reduceSub, ↓reduceIte, Int.reduceLT, Int.reduceLE, Int.reduceNeg, Int.reduceAdd, Int.reduceEq, Nat.reduceBneDiff, Nat.reduceBEq, Int.reduceToNat, Int.reduceMul, Int.reduceSub, Int.reduceBEq, Int.reduceBNe, Int.cast_ofNat_Int, Int.toNat_natCast_add_one, Nat.add_left_cancel_iff, Nat.left_eq_add, Nat.add_eq_left, Int.toNat_natCast, Nat.add_assoc, Int.ofNat_lt, Int.ofNat_le, Mg.enc, hnil.1, hnil.2]
  rw [hc]
  generalize s3.new (.cells [.int .i64 m.kind, .int .u32 m.epoch, .int .u64 m.sess, .int .u32 m.target.e, .int .u32 m.target.q, .int .u32 m.base.e, .int .u32 m.base.q, .int .i64 m.index, .int .i64 m.total, .int .u32 m.tick, .nilSlice, .nilSlice] false false 0) = s4 at f04 hb4 hR4 hA4 hC4 hn4 hlt4 ha4 hc4 ⊢
  clear f03 hb3 hR3 hA3 hn3 hlt3 ha3 hc ha
  simp only [go_sem, Wk_block, reduceCtorEq, Nat.reduceEqDiff, Nat.reduceAdd, Nat.reduceLeDiff, Nat.reduceLT, Nat.reduceMul, Nat.reduceSub, ↓reduceIte, Int.reduceLT, Int.reduceLE, Int.reduceNeg, Int.reduceAdd, Int.reduceEq, Nat.reduceBneDiff, Nat.reduceBEq, Int.reduceToNat, Int.reduceMul, Int.reduceSub, Int.reduceBEq, Int.reduceBNe, Int.cast_ofNat_Int, Int.toNat_natCast_add_one, Nat.add_left_cancel_iff, Nat.left_eq_add, Nat.add_eq_left, Int.toNat_natCast, Nat.add_assoc, Int.ofNat_lt, Int.ofNat_le, Wl_eq (Phase_run S hb4), hR4]
  refine Wl_of (Target_run S hb4 hlt4) ?_
  rintro _ s5 ⟨rfl, f5⟩
  have hR5 := (f5.get _ hn4).trans hR4
  have hb5 : Lies s5 b S.enc := (f5.get _ hlt4).trans hb4
  have hlt5 := Nat.lt_of_lt_of_le hlt4 f5.le
  simp only [go_sem, Wk_block, reduceCtorEq, Nat.reduceEqDiff, Nat.reduceAdd, Nat.reduceLeDiff, Nat.reduceLT, Nat.reduceMul, Nat.reduceSub, ↓reduceIte, Int.reduceLT, Int.reduceLE, Int.reduceNeg, Int.reduceAdd, Int.reduceEq, Nat.reduceBneDiff, Nat.reduceBEq, Int.reduceToNat, Int.reduceMul, Int.reduceSub, Int.reduceBEq, Int.reduceBNe, Int.cast_ofNat_Int, Int.toNat_natCast_add_one, Nat.add_left_cancel_iff, Nat.left_eq_add, Nat.add_eq_left, Int.toNat_natCast, Nat.add_assoc, Int.ofNat_lt, Int.ofNat_le, Lb.enc, hR5]
  refine Wl_of (Base_run S hb5 hlt5) ?_
  rintro _ s6 ⟨rfl, f6⟩
  have f46 := f5.trans f6
  have hR6 := (f46.get _ hn4).trans hR4
  have hb6 : Lies s6 b S.enc := (f46.get _ hlt4).trans hb4
  have hlt6 := Nat.lt_of_lt_of_le hlt4 f46.le
  simp only [go_sem, Wk_block, reduceCtorEq, Nat.reduceEqDiff, Nat.reduceAdd, Nat.reduceLeDiff, Nat.reduceLT, Nat.reduceMul, Nat.reduceSub, ↓reduceIte, Int.reduceLT, Int.reduceLE, Int.reduceNeg, Int.reduceAdd, Int.reduceEq, Nat.reduceBneDiff, Nat.reduceBEq, Int.reduceToNat, Int.reduceMul, Int.reduceSub, Int.reduceBEq, Int.reduceBNe, Int.cast_ofNat_Int, Int.toNat_natCast_add_one, Nat.add_left_cancel_iff, Nat.left_eq_add, Nat.add_eq_left, Int.toNat_natCast, Nat.add_assoc, Int.ofNat_lt, Int.ofNat_le, Lb.enc, hR6]
  refine Wl_of (Done_run S hb6 hlt6) ?_
  rintro _ s7 ⟨rfl, f7⟩
  have f47 := f46.trans f7
  have hR7 := (f47.get _ hn4).trans hR4
  have hA7 := (f47.get _ ha4).trans hA4
  have hC7 := (f47.get _ hc4).trans hC4
  simp only [go_sem, Wk_block, reduceCtorEq, Nat.reduceEqDiff, Nat.reduceAdd, Nat.reduceLeDiff, Nat.reduceLT, Nat.reduceMul, Nat.reduceSub, ↓reduceIte, Int.reduceLT, Int.reduceLE, Int.reduceNeg, Int.reduceAdd, Int.reduceEq, Nat.reduceBneDiff, Nat.reduceBEq, Int.reduceToNat, Int.reduceMul, Int.reduceSub, Int.reduceBEq, Int.reduceBNe, Int.cast_ofNat_Int, Int.toNat_natCast_add_one, Nat.add_left_cancel_iff, Nat.left_eq_add, Nat.add_eq_left, Int.toNat_natCast, Nat.add_assoc, Int.ofNat_lt, Int.ofNat_le, Lb.enc, hR7, hA7, hC7]
  have hS := fun s => Same_run m m hnil.1 hnil.2 hnil.1 hnil.2 s
  unfold Mg.enc at hS
  rw [hnil.1, hnil.2] at hS
  refine Wl_of (hS _) ?_
  rintro _ s8 ⟨rfl, f8⟩
  have f48 := f47.trans f8
  have hR8 := (f48.get _ hn4).trans hR4
  simp only [Mg.same_refl]
  simp -implicitDefEqProofs only [go_sem, Wk_block, reduceCtorEq, Nat.reduceEqDiff, Nat.reduceAdd, Nat.reduceLeDiff, Nat.reduceLT, Nat.reduceMul, Nat.reduceSub, ↓reduceIte, Int.reduceLT, Int.reduceLE, Int.reduceNeg, Int.reduceAdd, Int.reduceEq, Nat.reduceBneDiff, Nat.reduceBEq, Int.reduceToNat, Int.reduceMul, Int.reduceSub, Int.reduceBEq, Int.reduceBNe, Int.cast_ofNat_Int, Int.toNat_natCast_add_one, Nat.add_left_cancel_iff, Nat.left_eq_add, Nat.add_eq_left, Int.toNat_natCast, Nat.add_assoc, Int.ofNat_lt, Int.ofNat_le, Nat.lt_add_one_of_lt, Nat.lt_add_one, Nat.lt_add_right, Nat.lt_add_right_iff_pos, Nat.add_lt_add_iff_left, hR4, hR5, hR6, hR7, hR8]
  exact f04.trans f48

/-- A sender behind an act, and the answer. -/
def Snd.act (S : Snd) (a : Act) : Snd × Bool :=
  if a.kind = 0 then S.start a.label else
  if a.kind = 1 then S.hear a.msg a.hs a.ow else
  if a.kind = 2 then (S.plan a.msg a.n, true) else
  if a.kind = 3 then S.ack a.msg else
  if a.kind = 4 then S.nack a.msg else
  if a.kind = 5 then S.tick else
  if a.kind = 6 then (S.stop, true) else (S, true)

theorem RInv.act {S : Snd} (h : RInv S) (a : Act) (ha : a.label.pos) : RInv (S.act a).1 := by
  unfold Snd.act
  repeat' split
  · exact h.start ha
  · exact h.hear _ _ _
  · exact h.plan _ _
  · exact h.ack _
  · exact h.nack _
  · exact h.tick
  · exact h.stop
  · exact h

theorem Snd.Z.act {S : Snd} (h : S.Z) (a : Act) : (S.act a).1.Z := by
  have hst : ∀ (S : Snd) (t : Lb), S.Z → (S.start t).1.Z := by
    intro S t h
    unfold Snd.start
    split
    · exact h
    · intro h0; simp at h0
  unfold Snd.act
  repeat' split
  · exact hst _ _ h
  · unfold Snd.hear
    repeat' split
    · exact h
    · intro _; exact ⟨rfl, rfl, rfl⟩
    · rename_i hc _
      intro h0
      simp only [not_or, Decidable.not_not] at hc
      have : S.phase = 0 := h0
      omega
  · unfold Snd.plan
    split
    · exact h
    · intro h0; simp at h0
  · unfold Snd.ack
    repeat' split
    · exact h
    · intro _; exact ⟨rfl, rfl, rfl⟩
    · rename_i hc _
      intro h0
      simp only [not_or, Decidable.not_not] at hc
      have : S.phase = 0 := h0
      omega
  · unfold Snd.nack
    split
    · exact h
    · exact hst _ _ (Snd.Z.stop S)
  · unfold Snd.tick
    repeat' split
    · exact h
    · exact h
    · exact h
  · exact Snd.Z.stop S
  · exact h

/-- What the loop leans on. -/
structure RN (s : St) (b c : Nat) (S R : Snd) (l : List Act) (v : AV) (ba oa : Nat) : Prop where
  lb : Lies s b S.enc
  lc : Lies s c R.encR
  hA : Acc s v 17 (l.map Act.enc) ba oa
  hk : ∀ a ∈ l, ActOk s a
  ltb : b < s.next
  ltc : c < s.next
  bc : c ≠ b
theorem RN.mono {s s' : St} {b c : Nat} {S R : Snd} {l : List Act} {v : AV} {ba oa : Nat} (h : RN s b c S R l v ba oa) (f : Fr s s') : RN s' b c S R l v ba oa :=
  ⟨(f.get b h.ltb).trans h.lb, (f.get c h.ltc).trans h.lc, h.hA.mono f, fun a ha => (h.hk a ha).mono f, Nat.lt_of_lt_of_le h.ltb f.le, Nat.lt_of_lt_of_le h.ltc f.le, h.bc⟩
theorem RN.x {s s' : St} {b c : Nat} {S S' R : Snd} {l : List Act} {v : AV} {ba oa : Nat} (h : RN s b c S R l v ba oa) (f : FrX b s s') (hb : Lies s' b S'.enc) : RN s' b c S' R l v ba oa :=
  ⟨hb, (f.get c h.ltc h.bc).trans h.lc, h.hA.monoX f h.lb, fun a ha => (h.hk a ha).monoX f h.lb, Nat.lt_of_lt_of_le h.ltb f.le, Nat.lt_of_lt_of_le h.ltc f.le, h.bc⟩
theorem RN.c {s : St} {b c : Nat} {S R R' : Snd} {l : List Act} {v : AV} {ba oa : Nat} (h : RN s b c S R l v ba oa) : RN (s.put c (.cells R'.encR false false 0)) b c S R' l v ba oa :=
  have f : FrX c s (s.put c (.cells R'.encR false false 0)) := (FrX.refl c s).put (.inl rfl) _
  ⟨(f.get b h.ltb h.bc.symm).trans h.lb, by simp only [Lies, St.get_put, if_true], h.hA.monoX f h.lc, fun a ha => (h.hk a ha).monoX f h.lc, h.ltb, h.ltc, h.bc⟩

theorem runs_run : ∀ s a, ArgsOk s [.int .u32, .int .i64, .slice tyAct] a → Wf mm 7 a s fun v _ => v = .bool true := by
  intro s a ha
  obtain ⟨_, _, rfl, h0, ha⟩ := argsOk_cons ha
  obtain ⟨_, _, rfl, h1, ha⟩ := argsOk_cons ha
  obtain ⟨v, _, rfl, h2, ha⟩ := argsOk_cons ha
  obtain rfl := argsOk_nil ha
  obtain ⟨boot, rfl, hb1, hb2⟩ := argOk_int h0
  obtain ⟨retry, rfl, _, _⟩ := argOk_int h1
  obtain ⟨l, ba, oa, hA, hk⟩ := acts_of h2
  clear ha h1 h2
  have hb1 : 0 ≤ boot := hb1
  have hb2 : boot ≤ 4294967295 := hb2
  refine Wf_enter ft7 (sm (by decide)) (by rfl) ?_
  simp -implicitDefEqProofs only [go_sem, Wk_block, reduceCtorEq, Nat.reduceEqDiff, Nat.reduceAdd, Nat.reduceLeDiff, Nat.reduceLT, Nat.reduceMul, Nat.reduceSub, ↓reduceIte, Int.reduceLT, Int.reduceLE, Int.reduceNeg, Int.reduceAdd, Int.reduceEq, Nat.reduceBneDiff, Nat.reduceBEq, Int.reduceToNat, Int.reduceMul, Int.reduceSub, Int.reduceBEq, Int.reduceBNe, Int.cast_ofNat_Int, Int.toNat_natCast_add_one, Nat.add_left_cancel_iff, Nat.left_eq_add, Nat.add_eq_left, Int.toNat_natCast, Nat.add_assoc, Int.ofNat_lt, Int.ofNat_le, Nat.lt_add_one_of_lt, Nat.lt_add_one, Nat.lt_add_right, Nat.lt_add_right_iff_pos, Nat.add_lt_add_iff_left, fd7, Wl_eq (alive_eq _)]
  refine Wl_of (great_run l hA hk) ?_
  rintro _ s1 ⟨⟨g, rfl⟩, f1⟩
  simp only [go_sem, Wk_block, reduceCtorEq, Nat.reduceEqDiff, Nat.reduceAdd, Nat.reduceLeDiff, Nat.reduceLT, Nat.reduceMul, Nat.reduceSub, ↓reduceIte, Int.reduceLT, Int.reduceLE, Int.reduceNeg, Int.reduceAdd, Int.reduceEq, Nat.reduceBneDiff, Nat.reduceBEq, Int.reduceToNat, Int.reduceMul, Int.reduceSub, Int.reduceBEq, Int.reduceBNe, Int.cast_ofNat_Int, Int.toNat_natCast_add_one, Nat.add_left_cancel_iff, Nat.left_eq_add, Nat.add_eq_left, Int.toNat_natCast, Nat.add_assoc, Int.ofNat_lt, Int.ofNat_le]
  refine Wi_split (fun hg => ?_) (fun hg => ?_)
  · simp only [go_sem, Wk_block, reduceCtorEq, Nat.reduceEqDiff, Nat.reduceAdd, Nat.reduceLeDiff, Nat.reduceLT, Nat.reduceMul, Nat.reduceSub, ↓reduceIte, Int.reduceLT, Int.reduceLE, Int.reduceNeg, Int.reduceAdd, Int.reduceEq, Nat.reduceBneDiff, Nat.reduceBEq, Int.reduceToNat, Int.reduceMul, Int.reduceSub, Int.reduceBEq, Int.reduceBNe, Int.cast_ofNat_Int, Int.toNat_natCast_add_one, Nat.add_left_cancel_iff, Nat.left_eq_add, Nat.add_eq_left, Int.toNat_natCast, Nat.add_assoc, Int.ofNat_lt, Int.ofNat_le]
  simp only [go_sem, Wk_block, reduceCtorEq, Nat.reduceEqDiff, Nat.reduceAdd, Nat.reduceLeDiff, Nat.reduceLT, Nat.reduceMul, Nat.reduceSub, ↓reduceIte, Int.reduceLT, Int.reduceLE, Int.reduceNeg, Int.reduceAdd, Int.reduceEq, Nat.reduceBneDiff, Nat.reduceBEq, Int.reduceToNat, Int.reduceMul, Int.reduceSub, Int.reduceBEq, Int.reduceBNe, Int.cast_ofNat_Int, Int.toNat_natCast_add_one, Nat.add_left_cancel_iff, Nat.left_eq_add, Nat.add_eq_left, Int.toNat_natCast, Nat.add_assoc, Int.ofNat_lt, Int.ofNat_le]
  refine Wl_of (new_run boot retry hb1 hb2 s1) ?_
  rintro _ s2 ⟨rfl, hL2, f2, hlt2⟩
  have hA := (hA.mono f1).mono f2
  have hk := fun a ha => ((hk a ha).mono f1).mono f2
  obtain ⟨b, hb⟩ : ∃ b, s1.next = b := ⟨_, rfl⟩
  rw [hb] at hL2 hlt2 ⊢
  clear f1 f2 hb
  simp only [go_sem, Wk_block, reduceCtorEq, Nat.reduceEqDiff, Nat.reduceAdd, Nat.reduceLeDiff, Nat.reduceLT, Nat.reduceMul, Nat.reduceSub, ↓reduceIte, Int.reduceLT, Int.reduceLE, Int.reduceNeg, Int.reduceAdd, Int.reduceEq, Nat.reduceBneDiff, Nat.reduceBEq, Int.reduceToNat, Int.reduceMul, Int.reduceSub, Int.reduceBEq, Int.reduceBNe, Int.cast_ofNat_Int, Int.toNat_natCast_add_one, Nat.add_left_cancel_iff, Nat.left_eq_add, Nat.add_eq_left, Int.toNat_natCast, Nat.add_assoc, Int.ofNat_lt, Int.ofNat_le]
  refine Wl_of (rnew_run boot retry hb1 hb2 s2) ?_
  rintro _ s3 ⟨rfl, f3⟩
  have hA := hA.mono f3
  have hk := fun a ha => (hk a ha).mono f3
  have hL3 : Lies s3 b _ := (f3.get _ hlt2).trans hL2
  have hlt3 := Nat.lt_of_lt_of_le hlt2 f3.le
  clear f3 hL2 hlt2
  obtain ⟨c, hc⟩ : ∃ c, s3.next = c := ⟨_, rfl⟩
  have hI : RN (s3.new (.cells (Snd.new boot retry).encR false false 0)) b c (Snd.new boot retry) (Snd.new boot retry) l v ba oa := by
    have f := (Fr.refl s3).new (.cells (Snd.new boot retry).encR false false 0)
    refine ⟨(f.get b hlt3).trans hL3, ?_, hA.mono f, fun a ha => (hk a ha).mono f, ?_, ?_, by omega⟩
    · rw [← hc]; simp -implicitDefEqProofs only [go_sem, Wk_block, reduceCtorEq, Nat.reduceEqDiff, Nat.reduceAdd, Nat.reduceLeDiff, Nat.reduceLT, Nat.reduceMul, Nat.reduceSub, ↓reduceIte, Int.reduceLT, Int.reduceLE, Int.reduceNeg, Int.reduceAdd, Int.reduceEq, Nat.reduceBneDiff, Nat.reduceBEq, Int.reduceToNat, Int.reduceMul, Int.reduceSub, Int.reduceBEq, Int.reduceBNe, Int.cast_ofNat_Int, Int.toNat_natCast_add_one, Nat.add_left_cancel_iff, Nat.left_eq_add, Nat.add_eq_left, Int.toNat_natCast, Nat.add_assoc, Int.ofNat_lt, Int.ofNat_le, Nat.lt_add_one_of_lt, Nat.lt_add_one, Nat.lt_add_right, Nat.lt_add_right_iff_pos, Nat.add_lt_add_iff_left, Lies]
    · simp -implicitDefEqProofs only [go_sem, Wk_block, reduceCtorEq, Nat.reduceEqDiff, Nat.reduceAdd, Nat.reduceLeDiff, Nat.reduceLT, Nat.reduceMul, Nat.reduceSub, ↓reduceIte, Int.reduceLT, Int.reduceLE, Int.reduceNeg, Int.reduceAdd, Int.reduceEq, Nat.reduceBneDiff, Nat.reduceBEq, Int.reduceToNat, Int.reduceMul, Int.reduceSub, Int.reduceBEq, Int.reduceBNe, Int.cast_ofNat_Int, Int.toNat_natCast_add_one, Nat.add_left_cancel_iff, Nat.left_eq_add, Nat.add_eq_left, Int.toNat_natCast, Nat.add_assoc, Int.ofNat_lt, Int.ofNat_le, Nat.lt_add_one_of_lt, Nat.lt_add_one, Nat.lt_add_right, Nat.lt_add_right_iff_pos, Nat.add_lt_add_iff_left, hlt3]
    · rw [← hc]; simp -implicitDefEqProofs only [go_sem, Wk_block, reduceCtorEq, Nat.reduceEqDiff, Nat.reduceAdd, Nat.reduceLeDiff, Nat.reduceLT, Nat.reduceMul, Nat.reduceSub, ↓reduceIte, Int.reduceLT, Int.reduceLE, Int.reduceNeg, Int.reduceAdd, Int.reduceEq, Nat.reduceBneDiff, Nat.reduceBEq, Int.reduceToNat, Int.reduceMul, Int.reduceSub, Int.reduceBEq, Int.reduceBNe, Int.cast_ofNat_Int, Int.toNat_natCast_add_one, Nat.add_left_cancel_iff, Nat.left_eq_add, Nat.add_eq_left, Int.toNat_natCast, Nat.add_assoc, Int.ofNat_lt, Int.ofNat_le, Nat.lt_add_one_of_lt, Nat.lt_add_one, Nat.lt_add_right, Nat.lt_add_right_iff_pos, Nat.add_lt_add_iff_left, hlt3]
  have hR := RInv.new hb1 hb2 retry
  have hZ : (Snd.new boot retry).Z := fun _ => ⟨rfl, rfl, rfl⟩
  generalize Snd.new boot retry = S0 at *
  unfold Snd.encR at hI
  simp -implicitDefEqProofs only [go_sem, Wk_block, reduceCtorEq, Nat.reduceEqDiff, Nat.reduceAdd, Nat.reduceLeDiff, Nat.reduceLT, Nat.reduceMul, Nat.reduceSub, ↓reduceIte, Int.reduceLT, Int.reduceLE, Int.reduceNeg, Int.reduceAdd, Int.reduceEq, Nat.reduceBneDiff, Nat.reduceBEq, Int.reduceToNat, Int.reduceMul, Int.reduceSub, Int.reduceBEq, Int.reduceBNe, Int.cast_ofNat_Int, Int.toNat_natCast_add_one, Nat.add_left_cancel_iff, Nat.left_eq_add, Nat.add_eq_left, Int.toNat_natCast, Nat.add_assoc, Int.ofNat_lt, Int.ofNat_le, Nat.lt_add_one_of_lt, Nat.lt_add_one, Nat.lt_add_right, Nat.lt_add_right_iff_pos, Nat.add_lt_add_iff_left, Snd.encR, hA.len]
  rw [hc]
  have hmax := hA.max
  rw [List.length_map] at hmax
  refine loop_ind (fun m ts s' => ∃ (j : Nat) (S : Snd), m = l.length - j ∧ j ≤ l.length ∧ ts.get 25 = some (.int .i64 j) ∧ ts.get 24 = some (.int .i64 l.length) ∧ ts.get 23 = some v ∧ ts.get 7 = some (.ptr b 0) ∧ ts.get 8 = some (.ptr c 0) ∧
    RN s' b c S S l v ba oa ∧ RInv S ∧ S.Z) ?_ (n := l.length)
    ⟨0, _, by omega, by omega, by simp only [go_sem, Wk_block, reduceCtorEq, Nat.reduceEqDiff, Nat.reduceAdd, Nat.reduceLeDiff, Nat.reduceLT, Nat.reduceMul, Nat.reduceSub, ↓reduceIte, Int.reduceLT, Int.reduceLE, Int.reduceNeg, Int.reduceAdd, Int.reduceEq, Nat.reduceBneDiff, Nat.reduceBEq, Int.reduceToNat, Int.reduceMul, Int.reduceSub, Int.reduceBEq, Int.reduceBNe, Int.cast_ofNat_Int, Int.toNat_natCast_add_one, Nat.add_left_cancel_iff, Nat.left_eq_add, Nat.add_eq_left, Int.toNat_natCast, Nat.add_assoc, Int.ofNat_lt, Int.ofNat_le], by simp only [go_sem, Wk_block, reduceCtorEq, Nat.reduceEqDiff, Nat.reduceAdd, Nat.reduceLeDiff, Nat.reduceLT, Nat.reduceMul, Nat.reduceSub, ↓reduceIte, Int.reduceLT, Int.reduceLE, Int.reduceNeg, Int.reduceAdd, Int.reduceEq, Nat.reduceBneDiff, Nat.reduceBEq, Int.reduceToNat, Int.reduceMul, Int.reduceSub, Int.reduceBEq, Int.reduceBNe, Int.cast_ofNat_Int, Int.toNat_natCast_add_one, Nat.add_left_cancel_iff, Nat.left_eq_add, Nat.add_eq_left, Int.toNat_natCast, Nat.add_assoc, Int.ofNat_lt, Int.ofNat_le, List.length_map], by simp only [go_sem, Wk_block, reduceCtorEq, Nat.reduceEqDiff, Nat.reduceAdd, Nat.reduceLeDiff, Nat.reduceLT, Nat.reduceMul, Nat.reduceSub, ↓reduceIte, Int.reduceLT, Int.reduceLE, Int.reduceNeg, Int.reduceAdd, Int.reduceEq, Nat.reduceBneDiff, Nat.reduceBEq, Int.reduceToNat, Int.reduceMul, Int.reduceSub, Int.reduceBEq, Int.reduceBNe, Int.cast_ofNat_Int, Int.toNat_natCast_add_one, Nat.add_left_cancel_iff, Nat.left_eq_add, Nat.add_eq_left, Int.toNat_natCast, Nat.add_assoc, Int.ofNat_lt, Int.ofNat_le], by simp only [go_sem, Wk_block, reduceCtorEq, Nat.reduceEqDiff, Nat.reduceAdd, Nat.reduceLeDiff, Nat.reduceLT, Nat.reduceMul, Nat.reduceSub, ↓reduceIte, Int.reduceLT, Int.reduceLE, Int.reduceNeg, Int.reduceAdd, Int.reduceEq, Nat.reduceBneDiff, Nat.reduceBEq, Int.reduceToNat, Int.reduceMul, Int.reduceSub, Int.reduceBEq, Int.reduceBNe, Int.cast_ofNat_Int, Int.toNat_natCast_add_one, Nat.add_left_cancel_iff, Nat.left_eq_add, Nat.add_eq_left, Int.toNat_natCast, Nat.add_assoc, Int.ofNat_lt, Int.ofNat_le], by simp only [go_sem, Wk_block, reduceCtorEq, Nat.reduceEqDiff, Nat.reduceAdd, Nat.reduceLeDiff, Nat.reduceLT, Nat.reduceMul, Nat.reduceSub, ↓reduceIte, Int.reduceLT, Int.reduceLE, Int.reduceNeg, Int.reduceAdd, Int.reduceEq, Nat.reduceBneDiff, Nat.reduceBEq, Int.reduceToNat, Int.reduceMul, Int.reduceSub, Int.reduceBEq, Int.reduceBNe, Int.cast_ofNat_Int, Int.toNat_natCast_add_one, Nat.add_left_cancel_iff, Nat.left_eq_add, Nat.add_eq_left, Int.toNat_natCast, Nat.add_assoc, Int.ofNat_lt, Int.ofNat_le], hI, hR, hZ⟩
  clear hI hR hZ hA hk hL3 hlt3
  rintro m ts s3 ⟨j, S, rfl, hj, g25, g24, g23, g7, g8, I3, hR, hZ⟩ IH
  by_cases hlt : j < l.length
  · have hjl : j < (l.map Act.enc).length := by rw [List.length_map]; exact hlt
    obtain ⟨vs, hv, hle, he⟩ := I3.hA.at_ j hjl
    have hok := I3.hk l[j] (List.getElem_mem hlt)
    rw [List.getElem_map] at he
    generalize l[j] = a at he hok
    have he' := he
    unfold Act.enc at he'
    have hn2 : j < 9223372036854775807 := by unfold maxLen at hmax; omega
    simp -implicitDefEqProofs only [go_sem, reduceCtorEq, Nat.reduceEqDiff, Nat.reduceAdd, Nat.reduceLeDiff, Nat.reduceLT, Nat.reduceMul, Nat.reduceSub, ↓reduceIte, Int.reduceLT, Int.reduceLE, Int.reduceNeg, Int.reduceAdd, Int.reduceEq, Nat.reduceBneDiff, Nat.reduceBEq, Int.reduceToNat, Int.reduceMul, Int.reduceSub, Int.reduceBEq, Int.reduceBNe, Int.cast_ofNat_Int, Int.toNat_natCast_add_one, Nat.add_left_cancel_iff, Nat.left_eq_add, Nat.add_eq_left, Int.toNat_natCast, Nat.add_assoc, Int.ofNat_lt, Int.ofNat_le, Nat.lt_add_one_of_lt, Nat.lt_add_one, Nat.lt_add_right, Nat.lt_add_right_iff_pos, Nat.add_lt_add_iff_left, Wk_block (id := 1), g25, g24, g23, g7, g8, hlt, I3.hA.idx _ _ hjl, hv, hle, he', hok.ic, hok.h.cell, hok.o.cell]
    have I4 := I3.mono ((Fr.refl s3).new (.cells a.enc false false 0))
    have hok4 := hok.mono ((Fr.refl s3).new (.cells a.enc false false 0))
    obtain ⟨q, hq⟩ : ∃ q, s3.next = q := ⟨_, rfl⟩
    have hqa : (s3.new (.cells a.enc false false 0)).get q = some (.cells a.enc false false 0) := by rw [← hq]; simp only [St.get_new, if_true]
    have hqb : q ≠ b := by have := I3.ltb; omega
    have hqn : q < (s3.new (.cells a.enc false false 0)).next := by rw [← hq]; exact Nat.lt_succ_self _
    unfold Act.enc at I4 hok4 hqa hqn
    rw [hq]
    generalize s3.new (.cells [.int .i64 a.kind, .int .i64 a.n, .int .u32 a.label.e, .int .u32 a.label.q, .int .i64 a.msg.kind, .int .u32 a.msg.epoch, .int .u64 a.msg.sess, .int .u32 a.msg.target.e, .int .u32 a.msg.target.q, .int .u32 a.msg.base.e, .int .u32 a.msg.base.q,
      .int .i64 a.msg.index, .int .i64 a.msg.total, .int .u32 a.msg.tick, a.msg.items, a.msg.haves, a.own] false false 0) = s4 at I4 hok4 hqa hqn ⊢
    clear I3 hok hv hle he he' hq
    refine Wk_cut (fun ts' s' => ts'.get 25 = some (.int .i64 j) ∧ ts'.get 24 = some (.int .i64 l.length) ∧ ts'.get 23 = some v ∧ ts'.get 7 = some (.ptr b 0) ∧ ts'.get 8 = some (.ptr c 0) ∧ ts'.get 11 = some (.bool (S.act a).2) ∧ ts'.get 12 = some (.bool (S.act a).2) ∧
      RN s' b c (S.act a).1 (S.act a).1 l v ba oa) ?_ ?_
    · simp only [go_sem, Wk_block, reduceCtorEq, Nat.reduceEqDiff, Nat.reduceAdd, Nat.reduceLeDiff, Nat.reduceLT, Nat.reduceMul, Nat.reduceSub, ↓reduceIte, Int.reduceLT, Int.reduceLE, Int.reduceNeg, Int.reduceAdd, Int.reduceEq, Nat.reduceBneDiff, Nat.reduceBEq, Int.reduceToNat, Int.reduceMul, Int.reduceSub, Int.reduceBEq, Int.reduceBNe, Int.cast_ofNat_Int, Int.toNat_natCast_add_one, Nat.add_left_cancel_iff, Nat.left_eq_add, Nat.add_eq_left, Int.toNat_natCast, Nat.add_assoc, Int.ofNat_lt, Int.ofNat_le]
      have hlc := I4.lc
      unfold Lies Snd.encR at hlc
      refine Wi_split (fun hg => ?_) (fun hg => ?_)
      · have h0 : a.kind = 0 := by simpa using hg
        have ea : S.act a = S.start a.label := by unfold Snd.act; rw [if_pos h0]
        rw [ea]
        simp only [go_sem, Wk_block, reduceCtorEq, Nat.reduceEqDiff, Nat.reduceAdd, Nat.reduceLeDiff, Nat.reduceLT, Nat.reduceMul, Nat.reduceSub, ↓reduceIte, Int.reduceLT, Int.reduceLE, Int.reduceNeg, Int.reduceAdd, Int.reduceEq, Nat.reduceBneDiff, Nat.reduceBEq, Int.reduceToNat, Int.reduceMul, Int.reduceSub, Int.reduceBEq, Int.reduceBNe, Int.cast_ofNat_Int, Int.toNat_natCast_add_one, Nat.add_left_cancel_iff, Nat.left_eq_add, Nat.add_eq_left, Int.toNat_natCast, Nat.add_assoc, Int.ofNat_lt, Int.ofNat_le, g7, hqa]
        refine Wl_of (Start_run S hR.wf a.label I4.lb I4.ltb) ?_
        rintro _ s5 ⟨rfl, h5, f5⟩
        have I5 := I4.x f5 h5
        have hlc5 := I5.lc
        have hqa5 := (f5.get q hqn hqb).trans hqa
        unfold Lies Snd.encR at hlc5
        simp only [go_sem, Wk_block, reduceCtorEq, Nat.reduceEqDiff, Nat.reduceAdd, Nat.reduceLeDiff, Nat.reduceLT, Nat.reduceMul, Nat.reduceSub, ↓reduceIte, Int.reduceLT, Int.reduceLE, Int.reduceNeg, Int.reduceAdd, Int.reduceEq, Nat.reduceBneDiff, Nat.reduceBEq, Int.reduceToNat, Int.reduceMul, Int.reduceSub, Int.reduceBEq, Int.reduceBNe, Int.cast_ofNat_Int, Int.toNat_natCast_add_one, Nat.add_left_cancel_iff, Nat.left_eq_add, Nat.add_eq_left, Int.toNat_natCast, Nat.add_assoc, Int.ofNat_lt, Int.ofNat_le, g8, hlc5, hqa5]
        refine Wl_of (rstart_run S hR.wf hZ a.label _) ?_
        rintro _ s6 ⟨rfl, f6⟩
        have I6 := I5.mono f6
        have hlc6 := I6.lc
        unfold Lies Snd.encR at hlc6
        simp only [go_sem, Wk_block, reduceCtorEq, Nat.reduceEqDiff, Nat.reduceAdd, Nat.reduceLeDiff, Nat.reduceLT, Nat.reduceMul, Nat.reduceSub, ↓reduceIte, Int.reduceLT, Int.reduceLE, Int.reduceNeg, Int.reduceAdd, Int.reduceEq, Nat.reduceBneDiff, Nat.reduceBEq, Int.reduceToNat, Int.reduceMul, Int.reduceSub, Int.reduceBEq, Int.reduceBNe, Int.cast_ofNat_Int, Int.toNat_natCast_add_one, Nat.add_left_cancel_iff, Nat.left_eq_add, Nat.add_eq_left, Int.toNat_natCast, Nat.add_assoc, Int.ofNat_lt, Int.ofNat_le, Snd.encR, g8, hlc6, Wr_nil, g25, g24, g23, g7]
        exact I6.c
      have h0 : ¬ a.kind = 0 := by simpa using hg
      simp only [go_sem, Wk_block, reduceCtorEq, Nat.reduceEqDiff, Nat.reduceAdd, Nat.reduceLeDiff, Nat.reduceLT, Nat.reduceMul, Nat.reduceSub, ↓reduceIte, Int.reduceLT, Int.reduceLE, Int.reduceNeg, Int.reduceAdd, Int.reduceEq, Nat.reduceBneDiff, Nat.reduceBEq, Int.reduceToNat, Int.reduceMul, Int.reduceSub, Int.reduceBEq, Int.reduceBNe, Int.cast_ofNat_Int, Int.toNat_natCast_add_one, Nat.add_left_cancel_iff, Nat.left_eq_add, Nat.add_eq_left, Int.toNat_natCast, Nat.add_assoc, Int.ofNat_lt, Int.ofNat_le, g7, hqa]
      refine Wi_split (fun hg => ?_) (fun hg => ?_)
      · have hp : a.kind = 1 := by simpa using hg
        have ea : S.act a = S.hear a.msg a.hs a.ow := by unfold Snd.act; rw [if_neg h0, if_pos hp]
        rw [ea]
        simp only [go_sem, Wk_block, reduceCtorEq, Nat.reduceEqDiff, Nat.reduceAdd, Nat.reduceLeDiff, Nat.reduceLT, Nat.reduceMul, Nat.reduceSub, ↓reduceIte, Int.reduceLT, Int.reduceLE, Int.reduceNeg, Int.reduceAdd, Int.reduceEq, Nat.reduceBneDiff, Nat.reduceBEq, Int.reduceToNat, Int.reduceMul, Int.reduceSub, Int.reduceBEq, Int.reduceBNe, Int.cast_ofNat_Int, Int.toNat_natCast_add_one, Nat.add_left_cancel_iff, Nat.left_eq_add, Nat.add_eq_left, Int.toNat_natCast, Nat.add_assoc, Int.ofNat_lt, Int.ofNat_le, g7, hqa]
        refine Wl_of (Have_run S a.msg a.hs a.ow a.own I4.lb I4.ltb hok4.h hok4.o) ?_
        rintro _ s5 ⟨rfl, h5, f5⟩
        have I5 := I4.x f5 h5
        have hok5 := hok4.monoX f5 I4.lb
        have hlc5 := I5.lc
        have hqa5 := (f5.get q hqn hqb).trans hqa
        unfold Lies Snd.encR at hlc5
        simp only [go_sem, Wk_block, reduceCtorEq, Nat.reduceEqDiff, Nat.reduceAdd, Nat.reduceLeDiff, Nat.reduceLT, Nat.reduceMul, Nat.reduceSub, ↓reduceIte, Int.reduceLT, Int.reduceLE, Int.reduceNeg, Int.reduceAdd, Int.reduceEq, Nat.reduceBneDiff, Nat.reduceBEq, Int.reduceToNat, Int.reduceMul, Int.reduceSub, Int.reduceBEq, Int.reduceBNe, Int.cast_ofNat_Int, Int.toNat_natCast_add_one, Nat.add_left_cancel_iff, Nat.left_eq_add, Nat.add_eq_left, Int.toNat_natCast, Nat.add_assoc, Int.ofNat_lt, Int.ofNat_le, g8, hlc5, hqa5]
        refine Wl_of (rhave_run S a.msg a.hs a.ow a.own hok5.h hok5.o hok5.ic) ?_
        rintro _ s6 ⟨rfl, f6⟩
        have I6 := I5.mono f6
        have hlc6 := I6.lc
        unfold Lies Snd.encR at hlc6
        simp only [go_sem, Wk_block, reduceCtorEq, Nat.reduceEqDiff, Nat.reduceAdd, Nat.reduceLeDiff, Nat.reduceLT, Nat.reduceMul, Nat.reduceSub, ↓reduceIte, Int.reduceLT, Int.reduceLE, Int.reduceNeg, Int.reduceAdd, Int.reduceEq, Nat.reduceBneDiff, Nat.reduceBEq, Int.reduceToNat, Int.reduceMul, Int.reduceSub, Int.reduceBEq, Int.reduceBNe, Int.cast_ofNat_Int, Int.toNat_natCast_add_one, Nat.add_left_cancel_iff, Nat.left_eq_add, Nat.add_eq_left, Int.toNat_natCast, Nat.add_assoc, Int.ofNat_lt, Int.ofNat_le, Snd.encR, g8, hlc6, Wr_nil, g25, g24, g23, g7]
        exact I6.c
      have h1 : ¬ a.kind = 1 := by simpa using hg
      simp only [go_sem, Wk_block, reduceCtorEq, Nat.reduceEqDiff, Nat.reduceAdd, Nat.reduceLeDiff, Nat.reduceLT, Nat.reduceMul, Nat.reduceSub, ↓reduceIte, Int.reduceLT, Int.reduceLE, Int.reduceNeg, Int.reduceAdd, Int.reduceEq, Nat.reduceBneDiff, Nat.reduceBEq, Int.reduceToNat, Int.reduceMul, Int.reduceSub, Int.reduceBEq, Int.reduceBNe, Int.cast_ofNat_Int, Int.toNat_natCast_add_one, Nat.add_left_cancel_iff, Nat.left_eq_add, Nat.add_eq_left, Int.toNat_natCast, Nat.add_assoc, Int.ofNat_lt, Int.ofNat_le, g7, hqa]
      refine Wi_split (fun hg => ?_) (fun hg => ?_)
      · have hp : a.kind = 2 := by simpa using hg
        have ea : S.act a = (S.plan a.msg a.n, true) := by unfold Snd.act; rw [if_neg h0, if_neg h1, if_pos hp]
        rw [ea]
        simp only [go_sem, Wk_block, reduceCtorEq, Nat.reduceEqDiff, Nat.reduceAdd, Nat.reduceLeDiff, Nat.reduceLT, Nat.reduceMul, Nat.reduceSub, ↓reduceIte, Int.reduceLT, Int.reduceLE, Int.reduceNeg, Int.reduceAdd, Int.reduceEq, Nat.reduceBneDiff, Nat.reduceBEq, Int.reduceToNat, Int.reduceMul, Int.reduceSub, Int.reduceBEq, Int.reduceBNe, Int.cast_ofNat_Int, Int.toNat_natCast_add_one, Nat.add_left_cancel_iff, Nat.left_eq_add, Nat.add_eq_left, Int.toNat_natCast, Nat.add_assoc, Int.ofNat_lt, Int.ofNat_le, g7, hqa]
        refine Wl_of (Plan_run S a.msg a.n I4.lb I4.ltb) ?_
        rintro _ s5 ⟨h5, f5⟩
        have I5 := I4.x f5 h5
        have hlc5 := I5.lc
        have hqa5 := (f5.get q hqn hqb).trans hqa
        unfold Lies Snd.encR at hlc5
        simp only [go_sem, Wk_block, reduceCtorEq, Nat.reduceEqDiff, Nat.reduceAdd, Nat.reduceLeDiff, Nat.reduceLT, Nat.reduceMul, Nat.reduceSub, ↓reduceIte, Int.reduceLT, Int.reduceLE, Int.reduceNeg, Int.reduceAdd, Int.reduceEq, Nat.reduceBneDiff, Nat.reduceBEq, Int.reduceToNat, Int.reduceMul, Int.reduceSub, Int.reduceBEq, Int.reduceBNe, Int.cast_ofNat_Int, Int.toNat_natCast_add_one, Nat.add_left_cancel_iff, Nat.left_eq_add, Nat.add_eq_left, Int.toNat_natCast, Nat.add_assoc, Int.ofNat_lt, Int.ofNat_le, g8, hlc5, hqa5]
        refine Wl_of (rplan_run S a.msg a.n hok4.ic hok4.h.cell _) ?_
        rintro _ s6 ⟨rfl, f6⟩
        have I6 := I5.mono f6
        have hlc6 := I6.lc
        unfold Lies Snd.encR at hlc6
        simp only [go_sem, Wk_block, reduceCtorEq, Nat.reduceEqDiff, Nat.reduceAdd, Nat.reduceLeDiff, Nat.reduceLT, Nat.reduceMul, Nat.reduceSub, ↓reduceIte, Int.reduceLT, Int.reduceLE, Int.reduceNeg, Int.reduceAdd, Int.reduceEq, Nat.reduceBneDiff, Nat.reduceBEq, Int.reduceToNat, Int.reduceMul, Int.reduceSub, Int.reduceBEq, Int.reduceBNe, Int.cast_ofNat_Int, Int.toNat_natCast_add_one, Nat.add_left_cancel_iff, Nat.left_eq_add, Nat.add_eq_left, Int.toNat_natCast, Nat.add_assoc, Int.ofNat_lt, Int.ofNat_le, Snd.encR, g8, hlc6, Wr_nil, g25, g24, g23, g7]
        exact I6.c
      have h2 : ¬ a.kind = 2 := by simpa using hg
      simp only [go_sem, Wk_block, reduceCtorEq, Nat.reduceEqDiff, Nat.reduceAdd, Nat.reduceLeDiff, Nat.reduceLT, Nat.reduceMul, Nat.reduceSub, ↓reduceIte, Int.reduceLT, Int.reduceLE, Int.reduceNeg, Int.reduceAdd, Int.reduceEq, Nat.reduceBneDiff, Nat.reduceBEq, Int.reduceToNat, Int.reduceMul, Int.reduceSub, Int.reduceBEq, Int.reduceBNe, Int.cast_ofNat_Int, Int.toNat_natCast_add_one, Nat.add_left_cancel_iff, Nat.left_eq_add, Nat.add_eq_left, Int.toNat_natCast, Nat.add_assoc, Int.ofNat_lt, Int.ofNat_le, g7, hqa]
      refine Wi_split (fun hg => ?_) (fun hg => ?_)
      · have hp : a.kind = 3 := by simpa using hg
        have ea : S.act a = S.ack a.msg := by unfold Snd.act; rw [if_neg h0, if_neg h1, if_neg h2, if_pos hp]
        rw [ea]
        simp only [go_sem, Wk_block, reduceCtorEq, Nat.reduceEqDiff, Nat.reduceAdd, Nat.reduceLeDiff, Nat.reduceLT, Nat.reduceMul, Nat.reduceSub, ↓reduceIte, Int.reduceLT, Int.reduceLE, Int.reduceNeg, Int.reduceAdd, Int.reduceEq, Nat.reduceBneDiff, Nat.reduceBEq, Int.reduceToNat, Int.reduceMul, Int.reduceSub, Int.reduceBEq, Int.reduceBNe, Int.cast_ofNat_Int, Int.toNat_natCast_add_one, Nat.add_left_cancel_iff, Nat.left_eq_add, Nat.add_eq_left, Int.toNat_natCast, Nat.add_assoc, Int.ofNat_lt, Int.ofNat_le, g7, hqa]
        refine Wl_of (Ack_run S a.msg I4.lb I4.ltb) ?_
        rintro _ s5 ⟨rfl, h5, f5⟩
        have I5 := I4.x f5 h5
        have hlc5 := I5.lc
        have hqa5 := (f5.get q hqn hqb).trans hqa
        unfold Lies Snd.encR at hlc5
        simp only [go_sem, Wk_block, reduceCtorEq, Nat.reduceEqDiff, Nat.reduceAdd, Nat.reduceLeDiff, Nat.reduceLT, Nat.reduceMul, Nat.reduceSub, ↓reduceIte, Int.reduceLT, Int.reduceLE, Int.reduceNeg, Int.reduceAdd, Int.reduceEq, Nat.reduceBneDiff, Nat.reduceBEq, Int.reduceToNat, Int.reduceMul, Int.reduceSub, Int.reduceBEq, Int.reduceBNe, Int.cast_ofNat_Int, Int.toNat_natCast_add_one, Nat.add_left_cancel_iff, Nat.left_eq_add, Nat.add_eq_left, Int.toNat_natCast, Nat.add_assoc, Int.ofNat_lt, Int.ofNat_le, g8, hlc5, hqa5]
        refine Wl_of (rack_run S a.msg hok4.ic hok4.h.cell _) ?_
        rintro _ s6 ⟨rfl, f6⟩
        have I6 := I5.mono f6
        have hlc6 := I6.lc
        unfold Lies Snd.encR at hlc6
        simp only [go_sem, Wk_block, reduceCtorEq, Nat.reduceEqDiff, Nat.reduceAdd, Nat.reduceLeDiff, Nat.reduceLT, Nat.reduceMul, Nat.reduceSub, ↓reduceIte, Int.reduceLT, Int.reduceLE, Int.reduceNeg, Int.reduceAdd, Int.reduceEq, Nat.reduceBneDiff, Nat.reduceBEq, Int.reduceToNat, Int.reduceMul, Int.reduceSub, Int.reduceBEq, Int.reduceBNe, Int.cast_ofNat_Int, Int.toNat_natCast_add_one, Nat.add_left_cancel_iff, Nat.left_eq_add, Nat.add_eq_left, Int.toNat_natCast, Nat.add_assoc, Int.ofNat_lt, Int.ofNat_le, Snd.encR, g8, hlc6, Wr_nil, g25, g24, g23, g7]
        exact I6.c
      have h3 : ¬ a.kind = 3 := by simpa using hg
      simp only [go_sem, Wk_block, reduceCtorEq, Nat.reduceEqDiff, Nat.reduceAdd, Nat.reduceLeDiff, Nat.reduceLT, Nat.reduceMul, Nat.reduceSub, ↓reduceIte, Int.reduceLT, Int.reduceLE, Int.reduceNeg, Int.reduceAdd, Int.reduceEq, Nat.reduceBneDiff, Nat.reduceBEq, Int.reduceToNat, Int.reduceMul, Int.reduceSub, Int.reduceBEq, Int.reduceBNe, Int.cast_ofNat_Int, Int.toNat_natCast_add_one, Nat.add_left_cancel_iff, Nat.left_eq_add, Nat.add_eq_left, Int.toNat_natCast, Nat.add_assoc, Int.ofNat_lt, Int.ofNat_le, g7, hqa]
      refine Wi_split (fun hg => ?_) (fun hg => ?_)
      · have hp : a.kind = 4 := by simpa using hg
        have ea : S.act a = S.nack a.msg := by unfold Snd.act; rw [if_neg h0, if_neg h1, if_neg h2, if_neg h3, if_pos hp]
        rw [ea]
        simp only [go_sem, Wk_block, reduceCtorEq, Nat.reduceEqDiff, Nat.reduceAdd, Nat.reduceLeDiff, Nat.reduceLT, Nat.reduceMul, Nat.reduceSub, ↓reduceIte, Int.reduceLT, Int.reduceLE, Int.reduceNeg, Int.reduceAdd, Int.reduceEq, Nat.reduceBneDiff, Nat.reduceBEq, Int.reduceToNat, Int.reduceMul, Int.reduceSub, Int.reduceBEq, Int.reduceBNe, Int.cast_ofNat_Int, Int.toNat_natCast_add_one, Nat.add_left_cancel_iff, Nat.left_eq_add, Nat.add_eq_left, Int.toNat_natCast, Nat.add_assoc, Int.ofNat_lt, Int.ofNat_le, g7, hqa]
        refine Wl_of (Nack_run S hR.wf a.msg I4.lb I4.ltb) ?_
        rintro _ s5 ⟨rfl, h5, f5⟩
        have I5 := I4.x f5 h5
        have hlc5 := I5.lc
        have hqa5 := (f5.get q hqn hqb).trans hqa
        unfold Lies Snd.encR at hlc5
        simp only [go_sem, Wk_block, reduceCtorEq, Nat.reduceEqDiff, Nat.reduceAdd, Nat.reduceLeDiff, Nat.reduceLT, Nat.reduceMul, Nat.reduceSub, ↓reduceIte, Int.reduceLT, Int.reduceLE, Int.reduceNeg, Int.reduceAdd, Int.reduceEq, Nat.reduceBneDiff, Nat.reduceBEq, Int.reduceToNat, Int.reduceMul, Int.reduceSub, Int.reduceBEq, Int.reduceBNe, Int.cast_ofNat_Int, Int.toNat_natCast_add_one, Nat.add_left_cancel_iff, Nat.left_eq_add, Nat.add_eq_left, Int.toNat_natCast, Nat.add_assoc, Int.ofNat_lt, Int.ofNat_le, g8, hlc5, hqa5]
        refine Wl_of (rnack_run S hR.wf a.msg hok4.ic hok4.h.cell _) ?_
        rintro _ s6 ⟨rfl, f6⟩
        have I6 := I5.mono f6
        have hlc6 := I6.lc
        unfold Lies Snd.encR at hlc6
        simp only [go_sem, Wk_block, reduceCtorEq, Nat.reduceEqDiff, Nat.reduceAdd, Nat.reduceLeDiff, Nat.reduceLT, Nat.reduceMul, Nat.reduceSub, ↓reduceIte, Int.reduceLT, Int.reduceLE, Int.reduceNeg, Int.reduceAdd, Int.reduceEq, Nat.reduceBneDiff, Nat.reduceBEq, Int.reduceToNat, Int.reduceMul, Int.reduceSub, Int.reduceBEq, Int.reduceBNe, Int.cast_ofNat_Int, Int.toNat_natCast_add_one, Nat.add_left_cancel_iff, Nat.left_eq_add, Nat.add_eq_left, Int.toNat_natCast, Nat.add_assoc, Int.ofNat_lt, Int.ofNat_le, Snd.encR, g8, hlc6, Wr_nil, g25, g24, g23, g7]
        exact I6.c
      have h4 : ¬ a.kind = 4 := by simpa using hg
      simp only [go_sem, Wk_block, reduceCtorEq, Nat.reduceEqDiff, Nat.reduceAdd, Nat.reduceLeDiff, Nat.reduceLT, Nat.reduceMul, Nat.reduceSub, ↓reduceIte, Int.reduceLT, Int.reduceLE, Int.reduceNeg, Int.reduceAdd, Int.reduceEq, Nat.reduceBneDiff, Nat.reduceBEq, Int.reduceToNat, Int.reduceMul, Int.reduceSub, Int.reduceBEq, Int.reduceBNe, Int.cast_ofNat_Int, Int.toNat_natCast_add_one, Nat.add_left_cancel_iff, Nat.left_eq_add, Nat.add_eq_left, Int.toNat_natCast, Nat.add_assoc, Int.ofNat_lt, Int.ofNat_le, g7, hqa]
      refine Wi_split (fun hg => ?_) (fun hg => ?_)
      · have hp : a.kind = 5 := by simpa using hg
        have ea : S.act a = S.tick := by unfold Snd.act; rw [if_neg h0, if_neg h1, if_neg h2, if_neg h3, if_neg h4, if_pos hp]
        rw [ea]
        simp only [go_sem, Wk_block, reduceCtorEq, Nat.reduceEqDiff, Nat.reduceAdd, Nat.reduceLeDiff, Nat.reduceLT, Nat.reduceMul, Nat.reduceSub, ↓reduceIte, Int.reduceLT, Int.reduceLE, Int.reduceNeg, Int.reduceAdd, Int.reduceEq, Nat.reduceBneDiff, Nat.reduceBEq, Int.reduceToNat, Int.reduceMul, Int.reduceSub, Int.reduceBEq, Int.reduceBNe, Int.cast_ofNat_Int, Int.toNat_natCast_add_one, Nat.add_left_cancel_iff, Nat.left_eq_add, Nat.add_eq_left, Int.toNat_natCast, Nat.add_assoc, Int.ofNat_lt, Int.ofNat_le, g7, hqa]
        refine Wl_of (Tick_run S hR.wf I4.lb) ?_
        rintro _ s5 ⟨rfl, h5, f5⟩
        have I5 := I4.x f5 h5
        have hlc5 := I5.lc
        have hqa5 := (f5.get q hqn hqb).trans hqa
        unfold Lies Snd.encR at hlc5
        simp only [go_sem, Wk_block, reduceCtorEq, Nat.reduceEqDiff, Nat.reduceAdd, Nat.reduceLeDiff, Nat.reduceLT, Nat.reduceMul, Nat.reduceSub, ↓reduceIte, Int.reduceLT, Int.reduceLE, Int.reduceNeg, Int.reduceAdd, Int.reduceEq, Nat.reduceBneDiff, Nat.reduceBEq, Int.reduceToNat, Int.reduceMul, Int.reduceSub, Int.reduceBEq, Int.reduceBNe, Int.cast_ofNat_Int, Int.toNat_natCast_add_one, Nat.add_left_cancel_iff, Nat.left_eq_add, Nat.add_eq_left, Int.toNat_natCast, Nat.add_assoc, Int.ofNat_lt, Int.ofNat_le, g8, hlc5, hqa5]
        refine Wl_of (rtick_run S hR.wf _) ?_
        rintro _ s6 ⟨rfl, f6⟩
        have I6 := I5.mono f6
        have hlc6 := I6.lc
        unfold Lies Snd.encR at hlc6
        simp only [go_sem, Wk_block, reduceCtorEq, Nat.reduceEqDiff, Nat.reduceAdd, Nat.reduceLeDiff, Nat.reduceLT, Nat.reduceMul, Nat.reduceSub, ↓reduceIte, Int.reduceLT, Int.reduceLE, Int.reduceNeg, Int.reduceAdd, Int.reduceEq, Nat.reduceBneDiff, Nat.reduceBEq, Int.reduceToNat, Int.reduceMul, Int.reduceSub, Int.reduceBEq, Int.reduceBNe, Int.cast_ofNat_Int, Int.toNat_natCast_add_one, Nat.add_left_cancel_iff, Nat.left_eq_add, Nat.add_eq_left, Int.toNat_natCast, Nat.add_assoc, Int.ofNat_lt, Int.ofNat_le, Snd.encR, g8, hlc6, Wr_nil, g25, g24, g23, g7]
        exact I6.c
      have h5 : ¬ a.kind = 5 := by simpa using hg
      simp only [go_sem, Wk_block, reduceCtorEq, Nat.reduceEqDiff, Nat.reduceAdd, Nat.reduceLeDiff, Nat.reduceLT, Nat.reduceMul, Nat.reduceSub, ↓reduceIte, Int.reduceLT, Int.reduceLE, Int.reduceNeg, Int.reduceAdd, Int.reduceEq, Nat.reduceBneDiff, Nat.reduceBEq, Int.reduceToNat, Int.reduceMul, Int.reduceSub, Int.reduceBEq, Int.reduceBNe, Int.cast_ofNat_Int, Int.toNat_natCast_add_one, Nat.add_left_cancel_iff, Nat.left_eq_add, Nat.add_eq_left, Int.toNat_natCast, Nat.add_assoc, Int.ofNat_lt, Int.ofNat_le, g7, hqa]
      refine Wi_split (fun hg => ?_) (fun hg => ?_)
      · have hp : a.kind = 6 := by simpa using hg
        have ea : S.act a = (S.stop, true) := by unfold Snd.act; rw [if_neg h0, if_neg h1, if_neg h2, if_neg h3, if_neg h4, if_neg h5, if_pos hp]
        rw [ea]
        simp only [go_sem, Wk_block, reduceCtorEq, Nat.reduceEqDiff, Nat.reduceAdd, Nat.reduceLeDiff, Nat.reduceLT, Nat.reduceMul, Nat.reduceSub, ↓reduceIte, Int.reduceLT, Int.reduceLE, Int.reduceNeg, Int.reduceAdd, Int.reduceEq, Nat.reduceBneDiff, Nat.reduceBEq, Int.reduceToNat, Int.reduceMul, Int.reduceSub, Int.reduceBEq, Int.reduceBNe, Int.cast_ofNat_Int, Int.toNat_natCast_add_one, Nat.add_left_cancel_iff, Nat.left_eq_add, Nat.add_eq_left, Int.toNat_natCast, Nat.add_assoc, Int.ofNat_lt, Int.ofNat_le, g7, hqa]
        refine Wl_of (Stop_run S I4.lb) ?_
        rintro _ s5 ⟨h5, f5⟩
        have I5 := I4.x f5 h5
        have hlc5 := I5.lc
        have hqa5 := (f5.get q hqn hqb).trans hqa
        unfold Lies Snd.encR at hlc5
        simp only [go_sem, Wk_block, reduceCtorEq, Nat.reduceEqDiff, Nat.reduceAdd, Nat.reduceLeDiff, Nat.reduceLT, Nat.reduceMul, Nat.reduceSub, ↓reduceIte, Int.reduceLT, Int.reduceLE, Int.reduceNeg, Int.reduceAdd, Int.reduceEq, Nat.reduceBneDiff, Nat.reduceBEq, Int.reduceToNat, Int.reduceMul, Int.reduceSub, Int.reduceBEq, Int.reduceBNe, Int.cast_ofNat_Int, Int.toNat_natCast_add_one, Nat.add_left_cancel_iff, Nat.left_eq_add, Nat.add_eq_left, Int.toNat_natCast, Nat.add_assoc, Int.ofNat_lt, Int.ofNat_le, g8, hlc5, hqa5]
        refine Wl_of (rstop_run S _) ?_
        rintro _ s6 ⟨rfl, f6⟩
        have I6 := I5.mono f6
        have hlc6 := I6.lc
        unfold Lies Snd.encR at hlc6
        simp only [go_sem, Wk_block, reduceCtorEq, Nat.reduceEqDiff, Nat.reduceAdd, Nat.reduceLeDiff, Nat.reduceLT, Nat.reduceMul, Nat.reduceSub, ↓reduceIte, Int.reduceLT, Int.reduceLE, Int.reduceNeg, Int.reduceAdd, Int.reduceEq, Nat.reduceBneDiff, Nat.reduceBEq, Int.reduceToNat, Int.reduceMul, Int.reduceSub, Int.reduceBEq, Int.reduceBNe, Int.cast_ofNat_Int, Int.toNat_natCast_add_one, Nat.add_left_cancel_iff, Nat.left_eq_add, Nat.add_eq_left, Int.toNat_natCast, Nat.add_assoc, Int.ofNat_lt, Int.ofNat_le, Snd.encR, g8, hlc6, Wr_nil, g25, g24, g23, g7]
        exact I6.c
      have h6 : ¬ a.kind = 6 := by simpa using hg
      have ea : S.act a = (S, true) := by unfold Snd.act; rw [if_neg h0, if_neg h1, if_neg h2, if_neg h3, if_neg h4, if_neg h5, if_neg h6]
      rw [ea]
      simp only [go_sem, Wk_block, reduceCtorEq, Nat.reduceEqDiff, Nat.reduceAdd, Nat.reduceLeDiff, Nat.reduceLT, Nat.reduceMul, Nat.reduceSub, ↓reduceIte, Int.reduceLT, Int.reduceLE, Int.reduceNeg, Int.reduceAdd, Int.reduceEq, Nat.reduceBneDiff, Nat.reduceBEq, Int.reduceToNat, Int.reduceMul, Int.reduceSub, Int.reduceBEq, Int.reduceBNe, Int.cast_ofNat_Int, Int.toNat_natCast_add_one, Nat.add_left_cancel_iff, Nat.left_eq_add, Nat.add_eq_left, Int.toNat_natCast, Nat.add_assoc, Int.ofNat_lt, Int.ofNat_le, Wr_nil, g25, g24, g23, g7, g8]
      exact I4
    · have hpos : a.label.pos := ⟨hok4.le, hok4.lq⟩
      have hR' := hR.act a hpos
      have hZ' := hZ.act a
      clear I4 hok4 hqa hqb hqn hR hZ g25 g24 g23 g7 g8
      generalize S.act a = o at *
      obtain ⟨S', r⟩ := o
      dsimp only at *
      rintro ts s5 ⟨g25, g24, g23, g7, g8, g11, g12, I5⟩
      have hlc := I5.lc
      unfold Lies Snd.encR at hlc
      simp only [go_sem, Wk_block, reduceCtorEq, Nat.reduceEqDiff, Nat.reduceAdd, Nat.reduceLeDiff, Nat.reduceLT, Nat.reduceMul, Nat.reduceSub, ↓reduceIte, Int.reduceLT, Int.reduceLE, Int.reduceNeg, Int.reduceAdd, Int.reduceEq, Nat.reduceBneDiff, Nat.reduceBEq, Int.reduceToNat, Int.reduceMul, Int.reduceSub, Int.reduceBEq, Int.reduceBNe, Int.cast_ofNat_Int, Int.toNat_natCast_add_one, Nat.add_left_cancel_iff, Nat.left_eq_add, Nat.add_eq_left, Int.toNat_natCast, Nat.add_assoc, Int.ofNat_lt, Int.ofNat_le, g7, g8, g11, g12, hlc]
      refine Wl_of (same_run S' I5.lb I5.ltb) ?_
      rintro _ s6 ⟨rfl, f6⟩
      simp only [go_sem, Wk_block, reduceCtorEq, Nat.reduceEqDiff, Nat.reduceAdd, Nat.reduceLeDiff, Nat.reduceLT, Nat.reduceMul, Nat.reduceSub, ↓reduceIte, Int.reduceLT, Int.reduceLE, Int.reduceNeg, Int.reduceAdd, Int.reduceEq, Nat.reduceBneDiff, Nat.reduceBEq, Int.reduceToNat, Int.reduceMul, Int.reduceSub, Int.reduceBEq, Int.reduceBNe, Int.cast_ofNat_Int, Int.toNat_natCast_add_one, Nat.add_left_cancel_iff, Nat.left_eq_add, Nat.add_eq_left, Int.toNat_natCast, Nat.add_assoc, Int.ofNat_lt, Int.ofNat_le, g25, succ_in hn2]
      refine IH (l.length - (j + 1)) _ _ (by omega) ⟨j + 1, S', rfl, by omega, ?_, ?_, ?_, ?_, ?_, I5.mono f6, hR', hZ'⟩
      all_goals simp only [go_sem, Wk_block, reduceCtorEq, Nat.reduceEqDiff, Nat.reduceAdd, Nat.reduceLeDiff, Nat.reduceLT, Nat.reduceMul, Nat.reduceSub, ↓reduceIte, Int.reduceLT, Int.reduceLE, Int.reduceNeg, Int.reduceAdd, Int.reduceEq, Nat.reduceBneDiff, Nat.reduceBEq, Int.reduceToNat, Int.reduceMul, Int.reduceSub, Int.reduceBEq, Int.reduceBNe, Int.cast_ofNat_Int, Int.toNat_natCast_add_one, Nat.add_left_cancel_iff, Nat.left_eq_add, Nat.add_eq_left, Int.toNat_natCast, Nat.add_assoc, Int.ofNat_lt, Int.ofNat_le, g25, g24, g23, g7, g8]
  · simp only [go_sem, Wk_block, reduceCtorEq, Nat.reduceEqDiff, Nat.reduceAdd, Nat.reduceLeDiff, Nat.reduceLT, Nat.reduceMul, Nat.reduceSub, ↓reduceIte, Int.reduceLT, Int.reduceLE, Int.reduceNeg, Int.reduceAdd, Int.reduceEq, Nat.reduceBneDiff, Nat.reduceBEq, Int.reduceToNat, Int.reduceMul, Int.reduceSub, Int.reduceBEq, Int.reduceBNe, Int.cast_ofNat_Int, Int.toNat_natCast_add_one, Nat.add_left_cancel_iff, Nat.left_eq_add, Nat.add_eq_left, Int.toNat_natCast, Nat.add_assoc, Int.ofNat_lt, Int.ofNat_le, g25, g24, hlt]
end Go.Proofs.Ytfboomidofnmfaa
