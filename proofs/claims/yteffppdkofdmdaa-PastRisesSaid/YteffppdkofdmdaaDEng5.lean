/- A region whose order is open: what holds between any two of its operations. -/
import Derived.Test.YteffppdkofdmdaaDEng4
namespace Go.Proofs.Yteffppdkofdmdaa.D
variable {P : Program}

theorem Mv.through {μ ν ξ : Place} {s S1 S2 : St} {w w' w'' : World} {N : Nat} (h : Mv μ s w ν { S1 with next := N } w') (h1 : s.next ≤ S1.next) (k : Mv ν S1 w' ξ S2 w'') (h2 : S2.next ≤ N) : Mv μ s w ξ { S2 with next := N } w'' := by
  have kn := k.next
  have hres : ∀ b p, μ b = some p → b < s.next ∨ N ≤ b := h.res
  have hfresh : ∀ b p, ν b = some p → μ b = some p ∨ (s.next ≤ b ∧ b < N ∧ (w.heap.size ≤ p.1 ∨ ∃ c q, c < s.next ∧ μ c = some q ∧ q.1 = p.1)) := h.fresh
  refine ⟨Place.le_trans h.le k.le, k.os.trans h.os, k.output.trans h.output, k.tape.trans h.tape, Nat.le_trans h.size k.size, h.next, hres, ?_, ?_, ?_⟩
  · intro b p hb
    rcases k.fresh b p hb with hq | ⟨g1, g2, hq | ⟨c, q, hc1, hc, e⟩⟩
    · exact hfresh b p hq
    · exact .inr ⟨by omega, show b < N by omega, .inl (Nat.le_trans h.size hq)⟩
    · refine .inr ⟨by omega, show b < N by omega, ?_⟩
      rcases hfresh c q hc with h3 | ⟨h3, h4, h5 | ⟨d, q', hd1, hd, e'⟩⟩
      · rcases hres c q h3 with h4 | h4
        · exact .inr ⟨c, q, h4, h3, e⟩
        · omega
      · exact .inl (by omega)
      · exact .inr ⟨d, q', hd1, hd, e'.trans e⟩
  · intro i hi hn
    rw [k.frame i (Nat.lt_of_lt_of_le hi h.size) ?_, h.frame i hi hn]
    intro b p hb1 hb e
    rcases hfresh b p hb with h3 | ⟨h3, h4, h5 | ⟨d, q', hd1, hd, e'⟩⟩
    · rcases hres b p h3 with h4 | h4
      · exact hn _ _ h4 h3 e
      · omega
    · omega
    · exact hn _ _ hd1 hd (e'.trans e)
  · intro b vs l e p hs hp
    obtain ⟨g1, g2⟩ := h.ro b vs l e p hs hp
    obtain ⟨k1, k2⟩ := k.ro b vs l e p g1 (h.le _ _ hp)
    exact ⟨k1, k2.trans g2⟩

/-- The numbers that may be given ahead are others. -/
theorem HR.at_R {R R' : Nat} {μ : Place} {s : St} {w : World} (h : HR P R μ s w) (hl : ∀ b p, μ b = some p → b < s.next ∨ R' ≤ b) : HR P R' μ s w :=
  ⟨h.obj, h.inj, fun b p hb => ⟨(h.lt b p hb).1, hl b p hb⟩, h.dom⟩

structure Ctx (P : Program) (e : Eng) (ops : Array Oper) (ps : List PO) (TS : Nat → Tr AV) (SS : Nat → St) (N : Nat) : Prop where
  len : ps.length = ops.size
  op : ∀ {i : Nat} {p : PO}, ps[i]? = some p → ∃ o, ops.toList[i]? = some o ∧ prepPO P ops.toList o = some p
  step : ∀ {i : Nat} {p : PO}, ps[i]? = some p → opStep e p (TS i) (SS i) = some (TS (i + 1), SS (i + 1))
  edge : edgesOk ops.toList = true
  lt : ∀ {i : Nat} {p : PO} {t : Nat}, ps[i]? = some p → p.dst = some t → t < N
  dst : ∀ {i j : Nat} {p q : PO} {t : Nat}, ps[i]? = some p → ps[j]? = some q → p.dst = some t → q.dst = some t → i = j
  tmp : ∀ {i : Nat} {p : PO} {t : Nat}, ps[i]? = some p → (t ∈ p.op.uses ∨ ∃ k, p.guard = some (t, k)) → ∀ {j : Nat} {q : PO}, ps[j]? = some q → q.dst = some t → i = j ∨ ahead (befores ops.toList) i j = true ∨ ahead (befores ops.toList) j i = true
  big : ∀ {i j : Nat} {p q : PO}, ps[i]? = some p → ps[j]? = some q → p.big = true → q.big = true → i < j → ahead (befores ops.toList) i j = true ∨ q.op.cls = 3
  pre : ∀ {i : Nat} {p : PO}, ps[i]? = some p → p.op.cls = 1 → ∀ {j : Nat} {q : PO}, ps[j]? = some q → q.big = true → ahead (befores ops.toList) j i = true → ∀ {c : Nat} {r : PO}, ps[c]? = some r → r.big = true → c < j → ahead (befores ops.toList) c i = true
  look : ∀ {i : Nat} {p : PO}, ps[i]? = some p → p.op.cls = 1 → settled ps (befores ops.toList) i = false → ∀ {v : AV}, wantedA p.guard (TS i) = some true → opVal e p.op (evOf (TS i)) (SS i) = some (v, SS (i + 1)) →
    ∀ c ∈ spots ps (befores ops.toList) i, xop p.op (evOf (TS i)) (SS c) = some (v, SS c)

def Ls (listed : Array Bool) (i : Nat) : Prop := listed.getD i true = true

theorem Ls_set {listed : Array Bool} {i j : Nat} : Ls (listed.setIfInBounds i true) j ↔ j = i ∨ Ls listed j := by
  unfold Ls
  rw [Array.getD_eq_getD_getElem?, Array.getD_eq_getD_getElem?, Array.getElem?_setIfInBounds]
  by_cases e : i = j
  · subst e
    by_cases hl : i < listed.size <;> simp [hl]
  · rw [if_neg e]
    simp [Ne.symm e]

section
variable {e : Eng} {ops : Array Oper} {ps : List PO} {TS : Nat → Tr AV} {SS : Nat → St} {N : Nat}

theorem Ctx.calm (C : Ctx P e ops ps TS SS N) {i : Nat} {p : PO} (hp : ps[i]? = some p) (hb : p.big = false) : SS (i + 1) = SS i := by
  obtain ⟨v, _, ⟨_, _, h⟩ | ⟨_, h⟩⟩ := opStep_spec (C.step hp)
  · exact h
  · have hc : p.op.cls = 0 ∨ p.op.cls = 1 := by
      unfold PO.big at hb
      have : ¬ 2 ≤ p.op.cls := by intro h; rw [Nat.ble_eq_true_of_le h] at hb; cases hb
      omega
    rw [opVal_xop (by omega)] at h
    rcases hc with hc | hc
    · exact (xop_calm hc h).1
    · exact xop_look hc h

theorem Ctx.S_keep (C : Ctx P e ops ps TS SS N) {i : Nat} : ∀ {j : Nat}, i ≤ j → j ≤ ps.length → (∀ k p, i ≤ k → k < j → ps[k]? = some p → p.big = false) → SS j = SS i := by
  intro j
  induction j with
  | zero => intro h _ _; have : i = 0 := by omega
            subst this; rfl
  | succ j ih =>
    intro h hl hk
    by_cases e' : i = j + 1
    · subst e'; rfl
    · have hj : j < ps.length := by omega
      rw [C.calm (List.getElem?_eq_getElem hj) (hk j _ (by omega) (by omega) (List.getElem?_eq_getElem hj)), ih (by omega) (by omega) (fun k p h1 h2 => hk k p h1 (by omega))]

theorem Ctx.T_keep (C : Ctx P e ops ps TS SS N) {i t : Nat} : ∀ {j : Nat}, i ≤ j → j ≤ ps.length → (∀ k p, i ≤ k → k < j → ps[k]? = some p → p.dst ≠ some t) → (TS j).get t = (TS i).get t := by
  intro j
  induction j with
  | zero => intro h _ _; have : i = 0 := by omega
            subst this; rfl
  | succ j ih =>
    intro h hl hk
    by_cases e' : i = j + 1
    · subst e'; rfl
    · have hj : j < ps.length := by omega
      have hp := List.getElem?_eq_getElem hj
      obtain ⟨v, hv, _⟩ := opStep_spec (C.step hp)
      rw [← ih (by omega) (by omega) (fun k p h1 h2 => hk k p h1 (by omega)), hv]
      have hne := hk j _ (by omega) (by omega) hp
      cases hd : ps[j].dst with
      | none => rfl
      | some u =>
        rw [hd] at hne
        simp only [putT, Tr.get_set]
        rw [if_neg]
        intro e'; subst e'; exact hne rfl

theorem Ctx.S_mono (hE : EngOk P e) (C : Ctx P e ops ps TS SS N) {i : Nat} : ∀ {j : Nat}, i ≤ j → j ≤ ps.length → (SS i).next ≤ (SS j).next := by
  intro j
  induction j with
  | zero => intro h _; have : i = 0 := by omega
            subst this; exact Nat.le_refl _
  | succ j ih =>
    intro h hl
    by_cases e' : i = j + 1
    · subst e'; exact Nat.le_refl _
    · have hj : j < ps.length := by omega
      exact Nat.le_trans (ih (by omega) (by omega)) (opStep_next hE.next (C.step (List.getElem?_eq_getElem hj)))

variable (ops ps TS SS N)
structure Inv (P : Program) (R0 : Nat) (ds : List Nat) (μ0 : Place) (w0 : World) (listed : Array Bool) (a : Act) (w : World) (μ : Place) (c : Nat) : Prop where
  size : listed.size = ps.length
  clo : ∀ i o, Ls listed i → ops.toList[i]? = some o → ∀ e ∈ o.after.toList, Region.binds .any e = true → Ls listed e.on
  c_le : c ≤ ps.length
  below : ∀ i p, i < c → ps[i]? = some p → p.big = true → Ls listed i
  hr : HR P 0 μ (SS c) w
  lt : ∀ b p, μ b = some p → b < (SS c).next ∨ (∃ j, c ≤ j ∧ j < ps.length ∧ Ls listed j ∧ (SS j).next < (SS (j + 1)).next ∧ b = (SS j).next) ∨ R0 ≤ b
  pend : ∀ j p, c ≤ j → ps[j]? = some p → p.big = true → Ls listed j → SS (j + 1) = SS j ∨
    ∃ o q, SS (j + 1) = (SS j).new o ∧ μ (SS j).next = some q ∧ OR P μ w q.1 q.2 o ∧ q.1 < w.heap.size ∧ ∀ b p, μ b = some p → p.1 = q.1 → b = (SS j).next
  tm1 : ∀ i p t v, ps[i]? = some p → p.dst = some t → Ls listed i → (TS (i + 1)).get t = some v → ∃ x, a.tmps[t]? = some x ∧ conc μ v = some x
  tm2 : ∀ t v, (∀ i p, ps[i]? = some p → p.dst = some t → ¬ Ls listed i) → (TS 0).get t = some v → ∃ x, a.tmps[t]? = some x ∧ conc μ v = some x
  tsz : a.tmps.size = N
  dfr : DR μ ds a.defers
  mv : Mv μ0 (SS 0) w0 μ { SS c with next := (SS ps.length).next } w
variable {ops ps TS SS N}

variable {R0 : Nat} {ds : List Nat} {μ0 : Place} {w0 : World} {listed : Array Bool} {a : Act} {w : World} {μ : Place} {c : Nat}

/-- What comes before what is listed is listed. -/
theorem Inv.before (C : Ctx P e ops ps TS SS N) (I : Inv ops ps TS SS N P R0 ds μ0 w0 listed a w μ c) {i j : Nat} {p : PO} (hp : ps[i]? = some p) (hi : Ls listed i) (h : ahead (befores ops.toList) j i = true) : Ls listed j := by
  obtain ⟨o, ho, _⟩ := C.op hp
  exact ahead_closed C.edge (S := Ls listed) I.clo i o ho (fun e he hb => I.clo i o hi ho e he hb) h

/-- The next one in the order that is written: it is no great one, or it is done. -/
theorem Inv.next (C : Ctx P e ops ps TS SS N) (hs0 : ∀ b o, (SS 0).get b = some o → b < (SS 0).next) (hm : (SS 0).next ≤ (SS c).next) (I : Inv ops ps TS SS N P R0 ds μ0 w0 listed a w μ c) {p : PO} (hp : ps[c]? = some p) (hb : p.big = true → Ls listed c) : Inv ops ps TS SS N P R0 ds μ0 w0 listed a w μ (c + 1) := by
  have hcl : c < ps.length := (List.getElem?_eq_some_iff.1 hp).1
  have below : ∀ i p, i < c + 1 → ps[i]? = some p → p.big = true → Ls listed i := by
    intro i q hi hq hqb
    by_cases e' : i = c
    · subst e'; rw [hp] at hq; cases hq; exact hb hqb
    · exact I.below i q (by omega) hq hqb
  have same : SS (c + 1) = SS c → Inv ops ps TS SS N P R0 ds μ0 w0 listed a w μ (c + 1) := by
    intro hs
    refine ⟨I.size, I.clo, by omega, below, by rw [hs]; exact I.hr, ?_, fun j q h1 => I.pend j q (by omega), I.tm1, I.tm2, I.tsz, I.dfr, by rw [hs]; exact I.mv⟩
    intro b q hbq
    rcases I.lt b q hbq with h | ⟨j, h1, h2, h3, h4, h5⟩ | h
    · exact .inl (by rw [hs]; exact h)
    · refine .inr (.inl ⟨j, ?_, h2, h3, h4, h5⟩)
      rcases Nat.lt_or_ge c j with h | h
      · exact h
      · have : j = c := by omega
        subst this
        rw [hs] at h4
        omega
    · exact .inr (.inr h)
  by_cases hbig : p.big = true
  · rcases I.pend c p (Nat.le_refl _) hp hbig (hb hbig) with hs | ⟨o, q, hs, hq, ho, hlt, hu⟩
    · exact same hs
    · have hn : (SS (c + 1)).next = (SS c).next + 1 := by rw [hs]; rfl
      refine ⟨I.size, I.clo, by omega, below, ?_, ?_, fun j q h1 => I.pend j q (by omega), I.tm1, I.tm2, I.tsz, I.dfr, ?_⟩
      · rw [hs]
        refine I.hr.take (Place.le_refl _) (fun _ _ => rfl) hq hlt ?_ (Nat.le_refl _) (fun _ _ _ _ _ => rfl) o ho
        intro b x r hb' hr' e'
        have := hu b r hr' e'
        have := I.hr.dom b x hb'
        omega
      · intro b r hbr
        rcases I.lt b r hbr with h | ⟨j, h1, h2, h3, h4, h5⟩ | h
        · exact .inl (by omega)
        · rcases Nat.lt_or_ge c j with h | h
          · exact .inr (.inl ⟨j, h, h2, h3, h4, h5⟩)
          · have : j = c := by omega
            subst this
            exact .inl (by omega)
        · exact .inr (.inr h)
      · have m := I.mv
        refine ⟨m.le, m.os, m.output, m.tape, m.size, m.next, m.res, m.fresh, m.frame, ?_⟩
        intro b vs l z r hg hr'
        obtain ⟨g1, g2⟩ := m.ro b vs l z r hg hr'
        refine ⟨?_, g2⟩
        have g1' : (SS c).get b = some (.cells vs l true z) := g1
        show (SS (c + 1)).get b = _
        rw [hs, St.get_new, if_neg]
        · exact g1'
        · have := hs0 b _ hg
          omega
  · exact same (C.calm hp (by simpa using hbig))

/-- On to the first great one that is not done. -/
theorem Inv.advance (hE : EngOk P e) (C : Ctx P e ops ps TS SS N) (hs0 : ∀ b o, (SS 0).get b = some o → b < (SS 0).next) : ∀ (k : Nat) {c : Nat}, ps.length - c = k → Inv ops ps TS SS N P R0 ds μ0 w0 listed a w μ c →
    ∃ c', Inv ops ps TS SS N P R0 ds μ0 w0 listed a w μ c' ∧ (c' = ps.length ∨ ∃ p, ps[c']? = some p ∧ p.big = true ∧ ¬ Ls listed c') := by
  intro k
  induction k with
  | zero => intro c hk I; exact ⟨c, I, .inl (by have := I.c_le; omega)⟩
  | succ k ih =>
    intro c hk I
    have hc : c < ps.length := by omega
    have hp := List.getElem?_eq_getElem hc
    by_cases hb : ps[c].big = true ∧ ¬ Ls listed c
    · exact ⟨c, I, .inr ⟨_, hp, hb⟩⟩
    · refine ih (by omega) (I.next C hs0 (C.S_mono hE (Nat.zero_le _) (by omega)) hp ?_)
      intro h
      exact Classical.byContradiction fun hn => hb ⟨h, hn⟩
end
end Go.Proofs.Yteffppdkofdmdaa.D
