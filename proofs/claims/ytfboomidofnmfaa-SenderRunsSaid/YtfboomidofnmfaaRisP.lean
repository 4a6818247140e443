/- What a sender has done never falls: the plain law. -/
import Derived.Test.YtfboomidofnmfaaAct
namespace Go.Proofs.Ytfboomidofnmfaa
open D
set_option linter.unusedSimpArgs false
set_option linter.unusedVariables false

def Snd.cur (S : Snd) : Int := S.boot * 1048576 + S.began
def Lb.pos (l : Lb) : Prop := 0 ≤ l.e ∧ 0 ≤ l.q

theorem Lb.lt_zero {l : Lb} (h : l.pos) : ¬ l.lt ⟨0, 0⟩ := by
  obtain ⟨h1, h2⟩ := h
  simp only [Lb.lt]; omega
theorem Lb.lt_irrefl (l : Lb) : ¬ l.lt l := by simp only [Lb.lt]; omega

theorem hbase_le {t : Lb} (h : t.pos) (hs own : List Hv) : ¬ t.lt (hbase t hs own) := by
  have : ∀ (l : List Hv) (b : Lb), ¬ t.lt b → ¬ t.lt (l.foldl (fun b x => if ¬ t.lt x.l ∧ x ∈ hs then b.max x.l else b) b) := by
    intro l
    induction l with
    | nil => intro b hb; exact hb
    | cons x l ih =>
      intro b hb
      rw [List.foldl_cons]
      apply ih
      split
      · rename_i hc
        unfold Lb.max
        split
        · exact hc.1
        · exact hb
      · exact hb
  exact this own ⟨0, 0⟩ (Lb.lt_zero h)

/-- What holds of a sender ahead of each act. -/
structure RInv (S : Snd) : Prop where
  wf : S.Wf
  ph : S.phase = 0 ∨ S.phase = 1 ∨ S.phase = 2
  on : S.phase ≠ 0 → S.sess = S.cur ∧ S.done.lt S.target ∧ ¬ S.target.lt S.base ∧ S.target.pos
  snd : S.phase = 2 → 0 ≤ S.index ∧ S.index < S.total

/-- And of what it said last. -/
structure LInv (S : Snd) (last : Mg) : Prop where
  le : last.sess ≤ S.cur
  eq : S.phase ≠ 0 → last.sess = S.cur → last.target = S.target

theorem RInv.new {boot : Int} (h0 : 0 ≤ boot) (h1 : boot ≤ 4294967295) (retry : Int) : RInv (Snd.new boot retry) :=
  ⟨⟨⟨h0, h1⟩, by simp only [Snd.new, clamp]; repeat' split <;> omega, ⟨by simp [Snd.new], by simp [Snd.new]⟩, by simp only [Snd.new, clamp]; repeat' split <;> omega⟩, .inl rfl, fun h => (h rfl).elim, fun h => by simp [Snd.new] at h⟩

theorem RInv.fin {S : Snd} (h : RInv S) : RInv S.fin :=
  ⟨⟨h.wf.boot, h.wf.retry, h.wf.began, by have := h.wf.retry; simp [Snd.fin, Snd.stop]; omega⟩, .inl rfl, fun h => (h rfl).elim, fun h => by simp [Snd.fin, Snd.stop] at h⟩
theorem RInv.stop {S : Snd} (h : RInv S) : RInv S.stop :=
  ⟨⟨h.wf.boot, h.wf.retry, h.wf.began, by have := h.wf.retry; simp [Snd.stop]; omega⟩, .inl rfl, fun h => (h rfl).elim, fun h => by simp [Snd.stop] at h⟩
theorem RInv.start {S : Snd} (h : RInv S) {t : Lb} (ht : t.pos) : RInv (S.start t).1 := by
  unfold Snd.start
  split
  · exact h
  · rename_i hc
    simp only [not_or, Decidable.not_not] at hc
    have := h.wf.began
    have := h.wf.retry
    exact ⟨⟨h.wf.boot, h.wf.retry, ⟨by simp; omega, by simp; omega⟩, by simp; omega⟩, .inr (.inl rfl), fun _ => ⟨by simp [Snd.cur], hc.2.1, Lb.lt_zero ht, ht⟩, fun h => by simp at h⟩
theorem RInv.hear {S : Snd} (h : RInv S) (m : Mg) (hs ow : List Hv) : RInv (S.hear m hs ow).1 := by
  unfold Snd.hear
  split
  · exact h
  · rename_i hc
    have h1 : S.phase = 1 := by simp at hc; exact hc.1
    split
    · exact h.fin
    · obtain ⟨a, b, _, d⟩ := h.on (by omega)
      exact ⟨⟨h.wf.boot, h.wf.retry, h.wf.began, h.wf.waits⟩, h.ph, fun _ => ⟨a, b, hbase_le d _ _, d⟩, fun h2 => by simp [h1] at h2⟩
theorem RInv.plan {S : Snd} (h : RInv S) (m : Mg) (n : Int) : RInv (S.plan m n) := by
  unfold Snd.plan
  split
  · exact h
  · rename_i hc
    have h1 : S.phase = 1 := by simpa using hc
    have := h.wf.retry
    obtain ⟨a, b, c, d⟩ := h.on (by omega)
    have hch : 1 ≤ chunks n := by unfold chunks; repeat' split <;> omega
    refine ⟨⟨h.wf.boot, h.wf.retry, h.wf.began, by simp; omega⟩, .inr (.inr rfl), fun _ => ⟨a, b, c, d⟩, fun _ => ?_⟩
    dsimp only
    split <;> omega
theorem RInv.ack {S : Snd} (h : RInv S) (m : Mg) : RInv (S.ack m).1 := by
  unfold Snd.ack
  split
  · exact h
  · rename_i hc
    simp only [not_or, Decidable.not_not] at hc
    split
    · exact h.fin
    · have := h.wf.retry
      obtain ⟨a, b, c, d⟩ := h.on (by omega)
      exact ⟨⟨h.wf.boot, h.wf.retry, h.wf.began, by simp; omega⟩, h.ph, fun _ => ⟨a, b, c, d⟩, fun _ => by dsimp only; omega⟩
theorem RInv.nack {S : Snd} (h : RInv S) (m : Mg) : RInv (S.nack m).1 := by
  unfold Snd.nack
  split
  · exact h
  · rename_i hc
    have h1 : S.phase ≠ 0 := by
      intro e
      simp [Snd.its, e] at hc
    exact h.stop.start (h.on h1).2.2.2
theorem RInv.tick {S : Snd} (h : RInv S) : RInv S.tick.1 := by
  unfold Snd.tick
  have := h.wf.waits
  have := h.wf.retry
  split
  · exact h
  · split
    · exact ⟨⟨h.wf.boot, h.wf.retry, h.wf.began, by simp; omega⟩, h.ph, h.on, h.snd⟩
    · exact ⟨⟨h.wf.boot, h.wf.retry, h.wf.began, by simp; omega⟩, h.ph, h.on, h.snd⟩

theorem RInv.step {S : Snd} (h : RInv S) (a : Act) (ha : a.label.pos) : RInv (S.step a) := by
  unfold Snd.step
  repeat' split
  · exact h.start ha
  · exact (h.hear _ _ _).plan _ _
  · exact h.hear _ _ _
  · exact h.ack _
  · exact h.nack _
  · exact h.tick
  · exact h.stop
  · exact h

/-- What has become of a sender: it has done as much, and its session is the same, or a later one. -/
structure Later (S S' : Snd) : Prop where
  done : ¬ S'.done.lt S.done
  cur : S.cur ≤ S'.cur
  same : S'.phase ≠ 0 → S'.cur = S.cur → S.phase ≠ 0 ∧ S'.target = S.target

theorem Later.refl (S : Snd) : Later S S := ⟨Lb.lt_irrefl _, Int.le_refl _, fun h _ => ⟨h, rfl⟩⟩
theorem Later.fin {S : Snd} (h : RInv S) (h0 : S.phase ≠ 0) : Later S S.fin :=
  ⟨by have := (h.on h0).2.1; simp only [Snd.fin, Snd.stop, Lb.lt] at *; omega, Int.le_refl _, fun h => (h rfl).elim⟩
theorem Later.stop (S : Snd) : Later S S.stop := ⟨Lb.lt_irrefl _, Int.le_refl _, fun h => (h rfl).elim⟩
theorem Later.start (S : Snd) (t : Lb) : Later S (S.start t).1 := by
  unfold Snd.start
  split
  · exact Later.refl S
  · exact ⟨Lb.lt_irrefl _, by simp [Snd.cur]; omega, fun _ h => by simp [Snd.cur] at h; omega⟩
theorem Later.trans {a b c : Snd} (h : Later a b) (k : Later b c) : Later a c :=
  ⟨by have := h.done; have := k.done; simp only [Lb.lt] at *; omega, Int.le_trans h.cur k.cur, fun h0 he => by
    have h1 := h.cur
    have h2 := k.cur
    obtain ⟨p, q⟩ := k.same h0 (by omega)
    obtain ⟨r, t⟩ := h.same p (by omega)
    exact ⟨r, q.trans t⟩⟩
theorem Later.hear {S : Snd} (h : RInv S) (m : Mg) (hs ow : List Hv) : Later S (S.hear m hs ow).1 := by
  unfold Snd.hear
  split
  · exact Later.refl S
  · rename_i hc
    have h1 : S.phase = 1 := by simp at hc; exact hc.1
    split
    · exact Later.fin h (by omega)
    · exact ⟨Lb.lt_irrefl _, Int.le_refl _, fun h _ => ⟨h, rfl⟩⟩
theorem Later.plan (S : Snd) (m : Mg) (n : Int) : Later S (S.plan m n) := by
  unfold Snd.plan
  split
  · exact Later.refl S
  · rename_i hc
    have h1 : S.phase = 1 := by simpa using hc
    exact ⟨Lb.lt_irrefl _, Int.le_refl _, fun _ _ => ⟨by omega, rfl⟩⟩
theorem Later.ack {S : Snd} (h : RInv S) (m : Mg) : Later S (S.ack m).1 := by
  unfold Snd.ack
  split
  · exact Later.refl S
  · rename_i hc
    simp only [not_or, Decidable.not_not] at hc
    split
    · exact Later.fin h (by omega)
    · exact ⟨Lb.lt_irrefl _, Int.le_refl _, fun h _ => ⟨h, rfl⟩⟩
theorem Later.nack (S : Snd) (m : Mg) : Later S (S.nack m).1 := by
  unfold Snd.nack
  split
  · exact Later.refl S
  · exact (Later.stop S).trans (Later.start _ _)
theorem Later.tick (S : Snd) : Later S S.tick.1 := by
  unfold Snd.tick
  repeat' split
  · exact Later.refl S
  · exact ⟨Lb.lt_irrefl _, Int.le_refl _, fun h _ => ⟨h, rfl⟩⟩
  · exact ⟨Lb.lt_irrefl _, Int.le_refl _, fun h _ => ⟨h, rfl⟩⟩

theorem Later.step {S : Snd} (h : RInv S) (a : Act) : Later S (S.step a) := by
  unfold Snd.step
  repeat' split
  · exact Later.start _ _
  · exact (Later.hear h _ _ _).trans (Later.plan _ _ _)
  · exact Later.hear h _ _ _
  · exact Later.ack h _
  · exact Later.nack _ _
  · exact Later.tick _
  · exact Later.stop _
  · exact Later.refl _

theorem LInv.later {S S' : Snd} {last : Mg} (h : LInv S last) (k : Later S S') : LInv S' last where
  le := Int.le_trans h.le k.cur
  eq h0 he := by
    have h1 := h.le
    have h2 := k.cur
    obtain ⟨p, q⟩ := k.same h0 (by omega)
    rw [q]
    exact h.eq p (by omega)

/-- What is said is right. -/
theorem said_ok {S : Snd} {last : Mg} (h : RInv S) (k : LInv S last) {e : Int} (ho : (S.out e).2 = true) :
    ¬ (S.out e).1.sess < last.sess ∧ ((S.out e).1.sess = last.sess → (S.out e).1.target = last.target) ∧ ((S.out e).1.kind = 3 → 0 ≤ (S.out e).1.index ∧ (S.out e).1.index < (S.out e).1.total) ∧
      ¬ (S.out e).1.target.lt (S.out e).1.base ∧ S.done.lt (S.out e).1.target ∧ LInv S (S.out e).1 := by
  unfold Snd.out at *
  have kl := k.le
  have ke := k.eq
  split
  · rename_i h1
    obtain ⟨a, b, c, d⟩ := h.on (by omega)
    exact ⟨by dsimp only; omega, fun h2 => (ke (by omega) (by dsimp only at h2; omega)).symm, fun h2 => by simp at h2, Lb.lt_zero d, b, ⟨by dsimp only; omega, fun _ _ => rfl⟩⟩
  · rename_i h1
    split
    · rename_i h2
      obtain ⟨a, b, c, d⟩ := h.on (by omega)
      exact ⟨by dsimp only; omega, fun h2 => (ke (by omega) (by dsimp only at h2; omega)).symm, fun _ => h.snd h2, c, b, ⟨by dsimp only; omega, fun _ _ => rfl⟩⟩
    · rename_i h2
      rw [if_neg h1, if_neg h2] at ho
      simp at ho
end Go.Proofs.Ytfboomidofnmfaa
