/- A region whose order is open: one operation, and the whole. -/
import Derived.Test.YteffppdkofdmdaaDEng5
namespace Go.Proofs.Yteffppdkofdmdaa.D
variable {P : Program}

theorem evR_part {μ : Place} {G : Nat → Option AV} {a : Act} (hg : ∀ t v, G t = some v → ∃ c, a.tmps[t]? = some c ∧ conc μ v = some c) : EvR μ (fun x => match x with | .t t => G t | .c v => some v) a.eval := by
  intro y x v hy hv
  cases y with
  | tmp t =>
    simp only [prepX, Option.some.injEq] at hy
    subst hy
    obtain ⟨c, h1, h2⟩ := hg t v hv
    rw [h2]
    simp [Act.eval, h1]
  | const u =>
    simp only [prepX, Option.map_eq_some_iff] at hy
    obtain ⟨b, hb, rfl⟩ := hy
    simp only [Option.some.injEq] at hv
    subst hv
    exact absV_conc hb μ
  | func f =>
    simp only [prepX, Option.some.injEq] at hy
    subst hy
    simp only [Option.some.injEq] at hv
    subst hv
    simp [conc, Fn.plain, concs, Act.eval]
  | global g => cases hy

/-- The operands of an operation alone. -/
noncomputable def evPart (p : POp) (ts : Tr AV) : Ev := fun x => match x with
  | .t t => if t ∈ p.uses then ts.get t else none
  | .c v => some v

theorem evPart_eq {p : POp} {ts : Tr AV} : ∀ x ∈ p.xs, evOf ts x = evPart p ts x := by
  intro x hx
  cases x with
  | c v => rfl
  | t t =>
    have : t ∈ p.uses := List.mem_flatMap.2 ⟨.t t, hx, by simp [xuse]⟩
    simp [evPart, evOf, this]

section
variable {e : Eng} {ops : Array Oper} {ps : List PO} {TS : Nat → Tr AV} {SS : Nat → St} {N : Nat}
variable {R0 : Nat} {ds : List Nat} {μ0 : Place} {w0 : World} {listed : Array Bool} {a : Act} {w : World} {μ : Place} {c : Nat}

theorem Inv.upd (C : Ctx P e ops ps TS SS N) (I : Inv ops ps TS SS N P R0 ds μ0 w0 listed a w μ c) {i : Nat} {p : PO} {o : Oper} (hp : ps[i]? = some p) (ho : ops.toList[i]? = some o) (hn : ¬ Ls listed i)
    (hrdy : ∀ e ∈ o.after.toList, Region.binds .any e = true → Ls listed e.on) {ν : Place} {x : Value} {w' : World} {c' : Nat} (hle : μ.le ν) (hx : ∀ v t, p.dst = some t → (TS (i + 1)).get t = some v → conc ν v = some x) (hc : c' ≤ ps.length)
    (hbelow : ∀ j q, j < c' → ps[j]? = some q → q.big = true → j = i ∨ Ls listed j) (hr : HR P 0 ν (SS c') w')
    (hlt : ∀ b p, ν b = some p → b < (SS c').next ∨ (∃ j, c' ≤ j ∧ j < ps.length ∧ (j = i ∨ Ls listed j) ∧ (SS j).next < (SS (j + 1)).next ∧ b = (SS j).next) ∨ R0 ≤ b)
    (hpend : ∀ j p, c' ≤ j → ps[j]? = some p → p.big = true → (j = i ∨ Ls listed j) → SS (j + 1) = SS j ∨
      ∃ o q, SS (j + 1) = (SS j).new o ∧ ν (SS j).next = some q ∧ OR P ν w' q.1 q.2 o ∧ q.1 < w'.heap.size ∧ ∀ b p, ν b = some p → p.1 = q.1 → b = (SS j).next)
    (hmv : Mv μ0 (SS 0) w0 ν { SS c' with next := (SS ps.length).next } w') : Inv ops ps TS SS N P R0 ds μ0 w0 (listed.setIfInBounds i true) (a.put p.dst x) w' ν c' := by
  refine ⟨by simpa using I.size, ?_, hc, fun j q h1 h2 h3 => Ls_set.2 (hbelow j q h1 h2 h3), hr, ?_, ?_, ?_, ?_, by rw [put_size]; exact I.tsz, by rw [put_defers]; exact I.dfr.mono hle, hmv⟩
  · intro j o' hj ho' e' he hb
    rw [Ls_set] at hj ⊢
    rcases hj with rfl | hj
    · rw [ho] at ho'; cases ho'
      exact .inr (hrdy e' he hb)
    · exact .inr (I.clo j o' hj ho' e' he hb)
  · intro b q hq
    rcases hlt b q hq with h | ⟨j, h1, h2, h3, h4, h5⟩ | h
    · exact .inl h
    · exact .inr (.inl ⟨j, h1, h2, Ls_set.2 h3, h4, h5⟩)
    · exact .inr (.inr h)
  · intro j q h1 h2 h3 h4
    exact hpend j q h1 h2 h3 (Ls_set.1 h4)
  · intro j q t v hq hd hl hv
    rw [Ls_set] at hl
    by_cases hji : j = i
    · subst hji
      rw [hp] at hq; cases hq
      have ht := C.lt hp hd
      refine ⟨x, ?_, hx v t hd hv⟩
      rw [hd]
      simp only [Act.put]
      simp [I.tsz, ht]
    · obtain ⟨y, h1, h2⟩ := I.tm1 j q t v hq hd (hl.resolve_left hji) hv
      refine ⟨y, ?_, conc_mono hle _ _ h2⟩
      cases hpd : p.dst with
      | none => exact h1
      | some u =>
        simp only [Act.put]
        rw [Array.getElem?_setIfInBounds_ne]
        · exact h1
        · intro e'; subst e'
          exact hji (C.dst hq hp hd hpd)
  · intro t v hw hv
    obtain ⟨y, h1, h2⟩ := I.tm2 t v (fun j q hq hd hl => hw j q hq hd (Ls_set.2 (.inr hl))) hv
    refine ⟨y, ?_, conc_mono hle _ _ h2⟩
    cases hpd : p.dst with
    | none => exact h1
    | some u =>
      simp only [Act.put]
      rw [Array.getElem?_setIfInBounds_ne]
      · exact h1
      · intro e'; subst e'
        exact hw i p hp hpd (Ls_set.2 (.inl rfl))

/-- The operands, and the test, are what the run in the written order finds. -/
theorem Inv.good (C : Ctx P e ops ps TS SS N) (I : Inv ops ps TS SS N P R0 ds μ0 w0 listed a w μ c) {i : Nat} {p : PO} {o : Oper} (hp : ps[i]? = some p) (ho : ops.toList[i]? = some o) (hn : ¬ Ls listed i)
    (hrdy : ∀ e ∈ o.after.toList, Region.binds .any e = true → Ls listed e.on) {t : Nat} (ht : t ∈ p.op.uses ∨ ∃ k, p.guard = some (t, k)) {v : AV} (hv : (TS i).get t = some v) : ∃ x, a.tmps[t]? = some x ∧ conc μ v = some x := by
  have hil : i < ps.length := (List.getElem?_eq_some_iff.1 hp).1
  by_cases hw : ∃ j q, ps[j]? = some q ∧ q.dst = some t ∧ Ls listed j
  · obtain ⟨j, q, hq, hd, hl⟩ := hw
    have hji : i ≠ j := fun e' => hn (e' ▸ hl)
    rcases C.tmp hp ht hq hd with h | h | h
    · exact absurd h hji
    · exact absurd (I.before C hq hl h) hn
    · have hlt := ahead_lt C.edge _ h
      refine I.tm1 j q t v hq hd hl ?_
      rw [← hv]
      exact (C.T_keep (by omega) (by omega) fun k r h1 h2 hr hdr => by
        have := C.dst hr hq hdr hd
        omega).symm
  · refine I.tm2 t v (fun j q hq hd hl => hw ⟨j, q, hq, hd, hl⟩) ?_
    rw [← hv]
    refine (C.T_keep (Nat.zero_le _) (by omega) fun k r _ h2 hr hdr => ?_).symm
    rcases C.tmp hp ht hr hdr with h | h | h
    · omega
    · have := ahead_lt C.edge _ h; omega
    · exact hw ⟨k, r, hr, hdr, ahead_closed C.edge (S := Ls listed) I.clo i o ho hrdy h⟩

/-- What an operation that turns nothing gives at this moment is what it gives in the written order. -/
theorem Inv.calm (C : Ctx P e ops ps TS SS N) (I : Inv ops ps TS SS N P R0 ds μ0 w0 listed a w μ c) (hc : c = ps.length ∨ ∃ p, ps[c]? = some p ∧ p.big = true ∧ ¬ Ls listed c) {i : Nat} {p : PO} {o : Oper} (hp : ps[i]? = some p) (ho : ops.toList[i]? = some o) (hn : ¬ Ls listed i)
    (hrdy : ∀ e ∈ o.after.toList, Region.binds .any e = true → Ls listed e.on) (hb : p.big = false) {v : AV} (hw : wantedA p.guard (TS i) = some true) (hv : opVal e p.op (evOf (TS i)) (SS i) = some (v, SS (i + 1))) : xop p.op (evOf (TS i)) (SS c) = some (v, SS c) := by
  have hil : i < ps.length := (List.getElem?_eq_some_iff.1 hp).1
  have hcl : p.op.cls = 0 ∨ p.op.cls = 1 := by
    unfold PO.big at hb
    have : ¬ 2 ≤ p.op.cls := by intro h; rw [Nat.ble_eq_true_of_le h] at hb; cases hb
    omega
  have hx := hv
  rw [opVal_xop (by omega)] at hx
  rcases hcl with hcl | hcl
  · exact (xop_calm hcl hx).2 _
  · have rdy : ∀ j, ahead (befores ops.toList) j i = true → Ls listed j := fun j h => ahead_closed C.edge (S := Ls listed) I.clo i o ho hrdy h
    have lo : ∀ j q, ps[j]? = some q → q.big = true → ahead (befores ops.toList) j i = true → j < c := by
      intro j q hq hqb h
      have hjl : j < ps.length := (List.getElem?_eq_some_iff.1 hq).1
      rcases hc with hc | ⟨r, hr, hrb, hrl⟩
      · omega
      · have hjc : j ≠ c := fun e' => hrl (e' ▸ rdy j h)
        rcases Nat.lt_or_ge j c with h' | h'
        · exact h'
        · exact absurd (rdy c (C.pre hp hcl hq hqb h hr hrb (by omega))) hrl
    have hi : ∀ j q, ps[j]? = some q → q.big = true → ahead (befores ops.toList) i j = true → c ≤ j := by
      intro j q hq hqb h
      rcases Nat.lt_or_ge j c with h' | h'
      · exact absurd (I.before C hq (I.below j q h' hq hqb) h) hn
      · exact h'
    cases hset : settled ps (befores ops.toList) i with
    | false =>
      refine C.look hp hcl hset hw hv c ?_
      unfold spots
      simp only [List.mem_filter, List.mem_range, Bool.and_eq_true]
      refine ⟨by have := I.c_le; omega, ?_, ?_⟩
      · rcases hc with hc | ⟨r, hr, hrb, _⟩
        · rw [List.getElem?_eq_none (by omega)]
        · rw [hr]; exact hrb
      · rw [all_zipIdx]
        intro j q hq
        cases hqb : q.big with
        | false => rfl
        | true =>
          simp only [Bool.not_true, Bool.false_or, Bool.and_eq_true, Bool.or_eq_true, Bool.not_eq_true']
          constructor
          · cases h : ahead (befores ops.toList) j i with
            | false => exact .inl rfl
            | true => exact .inr (by rw [Nat.blt_eq]; exact lo j q hq hqb h)
          · cases h : ahead (befores ops.toList) i j with
            | false => exact .inl rfl
            | true => exact .inr (Nat.ble_eq_true_of_le (hi j q hq hqb h))
    | true =>
      have hse : ∀ j q, ps[j]? = some q → q.big = true → ahead (befores ops.toList) j i = true ∨ ahead (befores ops.toList) i j = true := by
        intro j q hq hqb
        have := all_zipIdx.1 hset j q hq
        simp only [hqb, Bool.not_true, Bool.false_or, Bool.or_eq_true] at this
        exact this
      have hs : SS c = SS i := by
        rcases Nat.lt_or_ge i c with h | h
        · refine C.S_keep (by omega) I.c_le fun k q h1 h2 hq => ?_
          cases hqb : q.big with
          | false => rfl
          | true =>
            exfalso
            rcases hse k q hq hqb with h' | h'
            · have := ahead_lt C.edge _ h'; omega
            · have := hi k q hq hqb h'; omega
        · refine (C.S_keep h (by omega) fun k q h1 h2 hq => ?_).symm
          cases hqb : q.big with
          | false => rfl
          | true =>
            exfalso
            rcases hse k q hq hqb with h' | h'
            · have := lo k q hq hqb h'; omega
            · have := ahead_lt C.edge _ h'; omega
      rw [hs]
      have := xop_look hcl hx
      rw [this] at hx
      exact hx

theorem Inv.step (hE : EngOk P e) (C : Ctx P e ops ps TS SS N) (hR0 : (SS ps.length).next ≤ R0) {ro : Option Nat} {F : Fence} (hF : FenceOk μ0 ro F) {n : Nat} {Q : Exit → Act → World → Prop}
    (I : Inv ops ps TS SS N P R0 ds μ0 w0 listed a w μ c) (hc : c = ps.length ∨ ∃ p, ps[c]? = some p ∧ p.big = true ∧ ¬ Ls listed c)
    {i : Nat} {p : PO} {o : Oper} (hp : ps[i]? = some p) (ho : ops.toList[i]? = some o) (hpo : prepPO P ops.toList o = some p) (hn : ¬ Ls listed i)
    (hrdy : ∀ e ∈ o.after.toList, Region.binds .any e = true → Ls listed e.on) {K : Act → World → Prop}
    (hK : ∀ a' w' μ' c', Inv ops ps TS SS N P R0 ds μ0 w0 (listed.setIfInBounds i true) a' w' μ' c' → K a' w') : wpOpIn F n P ops Q i K a w := by
  have hil : i < ps.length := (List.getElem?_eq_some_iff.1 hp).1
  have hF' : FenceOk μ ro F := hF.mono I.mv.le
  have hops : ops = ops.toList.toArray := by simp
  have hoa : ops[i]? = some o := by rw [← Array.getElem?_toList]; exact ho
  obtain ⟨e1, e2⟩ := prepPO_op hpo
  obtain ⟨v, hts, hcase⟩ := opStep_spec (C.step hp)
  have hget : ∀ u t, p.dst = some t → (TS (i + 1)).get t = some u → u = v := by
    intro u t hd hu
    rw [hts, hd] at hu
    simp only [putT, Tr.get_set, if_true, Option.some.injEq] at hu
    exact hu.symm
  have hwant : ∀ b, wantedA p.guard (TS i) = some b → Region.wanted o (yielded ops a.tmps) = b := by
    intro b hb
    have := wanted_of hpo hb (μ := μ) (tmps := a.tmps) (fun t k hg u hu => I.good C hp ho hn hrdy (.inr ⟨k, hg⟩) hu)
    rwa [← hops] at this
  have hmc : (SS 0).next ≤ (SS c).next := C.S_mono hE (Nat.zero_le _) I.c_le
  unfold wpOpIn
  simp only [hoa]
  rcases hcase with ⟨hw, hvu, hs⟩ | ⟨hw, hv⟩
  · -- not carried out
    rw [hwant _ hw]
    simp only [Bool.false_eq_true, if_false]
    refine ⟨fun f _ => hF'.fn f, ?_⟩
    rw [← e2]
    refine hK _ w μ c (I.upd C hp ho hn hrdy (Place.le_refl _) (fun u t hd hu => ?_) I.c_le (fun j q h1 h2 h3 => .inr (I.below j q h1 h2 h3)) I.hr ?_ ?_ I.mv)
    · rw [hget u t hd hu, hvu]; exact conc_undef μ
    · intro b q hq
      rcases I.lt b q hq with h | ⟨j, h1, h2, h3, h4, h5⟩ | h
      · exact .inl h
      · exact .inr (.inl ⟨j, h1, h2, .inr h3, h4, h5⟩)
      · exact .inr (.inr h)
    · intro j q h1 h2 h3 h4
      rcases h4 with rfl | h4
      · exact .inl hs
      · exact I.pend j q h1 h2 h3 h4
  · rw [hwant _ hw]
    simp only [if_true]
    have hρ : EvR μ (evPart p.op (TS i)) a.eval := evR_part (G := fun t => if t ∈ p.op.uses then (TS i).get t else none) (fun t u hu => by
      split at hu
      · exact I.good C hp ho hn hrdy (.inl (by assumption)) hu
      · cases hu)
    have hv' : opVal e p.op (evPart p.op (TS i)) (SS i) = some (v, SS (i + 1)) := by rw [← opVal_congr evPart_eq]; exact hv
    by_cases hb : p.big = true
    · by_cases hic : i = c
      · -- the great one whose turn it is
        subst hic
        have hn1 : (SS i).next ≤ (SS (i + 1)).next := C.S_mono hE (Nat.le_succ i) (by omega)
        have hn2 := C.S_mono hE (i := i + 1) (j := ps.length) (by omega) (Nat.le_refl _)
        have hpj : ∀ j, i ≤ j → Ls listed j → i + 1 ≤ j := by
          intro j h1 h2
          have : j ≠ i := fun e' => hn (e' ▸ h2)
          omega
        have hR : HR P (SS (i + 1)).next μ (SS i) w := I.hr.at_R (by
          intro b q hq
          rcases I.lt b q hq with h | ⟨j, h1, h2, h3, h4, h5⟩ | h
          · exact .inl h
          · have := C.S_mono hE (hpj j h1 h3) (by omega)
            exact .inr (by omega)
          · exact .inr (by omega))
        refine opVal_wpIn hE e1 hv' (Nat.le_refl _) hR hρ hF' ?_ n
        intro ν x w1 h1 h2 h3
        rw [← e2]
        refine hK _ w1 ν (i + 1) (I.upd C hp ho hn hrdy h3.le (fun u t hd hu => by rw [hget u t hd hu]; exact h1) (by omega) ?_ (h2.at_R fun b q _ => .inr (Nat.zero_le _)) ?_ ?_ (I.mv.through hmc h3 hn2))
        · intro j q g1 g2 g3
          rcases Nat.lt_or_ge j i with h | h
          · exact .inr (I.below j q h g2 g3)
          · exact .inl (by omega)
        · intro b q hq
          rcases h3.fresh b q hq with h | ⟨g1, g2, _⟩
          · rcases I.lt b q h with h | ⟨j, k1, k2, k3, k4, k5⟩ | h
            · exact .inl (by omega)
            · exact .inr (.inl ⟨j, hpj j k1 k3, k2, .inr k3, k4, k5⟩)
            · exact .inr (.inr h)
          · exact .inl g2
        · intro j q g1 g2 g3 g4
          have hjl : j < ps.length := (List.getElem?_eq_some_iff.1 g2).1
          have hji : j ≠ i := by omega
          have hjm := C.S_mono hE (i := i + 1) (j := j) g1 (by omega)
          have g4' := g4.resolve_left hji
          rcases I.pend j q (by omega) g2 g3 g4' with h | ⟨ob, r, k1, k2, k3, k4, k5⟩
          · exact .inl h
          · refine .inr ⟨ob, r, k1, h3.le _ _ k2, k3.mono h3.le ?_, Nat.lt_of_lt_of_le k4 h3.size, ?_⟩
            · refine h3.frame r.1 k4 fun b r' hb1 hb2 e' => ?_
              have := k5 b r' hb2 e'
              omega
            · intro b r' hb1 e'
              rcases h3.fresh b r' hb1 with h | ⟨g5, g6, h | ⟨d, r2, hd1, hd2, hd3⟩⟩
              · exact k5 b r' h e'
              · omega
              · have := k5 d r2 hd2 (hd3.trans e')
                omega
      · -- a block that is laid early
        have hci : c < i := by
          rcases Nat.lt_or_ge i c with h | h
          · exact absurd (I.below i p h hp hb) hn
          · omega
        have hcls : p.op.cls = 3 := by
          rcases hc with hc | ⟨r, hr, hrb, hrl⟩
          · omega
          · rcases C.big hr hp hrb hb hci with h | h
            · exact absurd (ahead_closed C.edge (S := Ls listed) I.clo i o ho hrdy h) hrl
            · exact h
        have hx := hv'
        rw [opVal_xop (by omega)] at hx
        cases hpr : prepOp P o with
        | none => rw [hpr] at e1; rw [← e1] at hcls; cases hcls
        | some q0 =>
          rw [hpr] at e1
          simp only [Option.getD_some] at e1
          subst e1
          obtain ⟨vs, f, hvf, hsn, hrun⟩ := late_run hpr hcls hx
          obtain ⟨cs, el, fz, cv, r1, r2, r3, r4⟩ := hrun hρ (w := w)
          have hnx : (SS (i + 1)).next = (SS i).next + 1 := by rw [hsn]; rfl
          have hci2 : (SS c).next ≤ (SS i).next := C.S_mono hE (by omega) (by omega)
          have hil2 := C.S_mono hE (i := i + 1) (j := ps.length) (by omega) (Nat.le_refl _)
          have hjd : ∀ j, c ≤ j → j < ps.length → Ls listed j → (SS j).next < (SS (j + 1)).next → (SS j).next ≠ (SS i).next := by
            intro j h1 h2 h3 h4 e'
            have hji : j ≠ i := fun e2 => hn (e2 ▸ h3)
            rcases Nat.lt_or_ge j i with h | h
            · have := C.S_mono hE (i := j + 1) (j := i) (by omega) (by omega); omega
            · have := C.S_mono hE (i := i + 1) (j := j) (by omega) (by omega); omega
          have hfr : μ (SS i).next = none := by
            cases hμ : μ (SS i).next with
            | none => rfl
            | some r =>
              exfalso
              rcases I.lt _ _ hμ with h | ⟨j, h1, h2, h3, h4, h5⟩ | h
              · omega
              · exact hjd j h1 h2 h3 h4 h5.symm
              · omega
          have hle : μ.le (μ.add (SS i).next (w.heap.size, 0)) := by
            intro b q hq
            unfold Place.add
            rw [if_neg]
            · exact hq
            · intro e'; subst e'; rw [hfr] at hq; cases hq
          have hold : ∀ b q, μ b = some q → ({ w with heap := w.heap.push (.cells cs el fz), drawn := w.drawn } : World).heap[q.1]? = w.heap[q.1]? := fun b q hq => World.push_old w _ q.1 (I.hr.lt b q hq).1 w.drawn
          have hnew : (μ.add (SS i).next (w.heap.size, 0)) (SS i).next = some (w.heap.size, 0) := by simp [Place.add]
          have hback : ∀ b q, (μ.add (SS i).next (w.heap.size, 0)) b = some q → (b = (SS i).next ∧ q = (w.heap.size, 0)) ∨ μ b = some q := by
            intro b q hq
            unfold Place.add at hq
            by_cases eb : b = (SS i).next
            · rw [if_pos eb] at hq; cases hq; exact .inl ⟨eb, rfl⟩
            · rw [if_neg eb] at hq; exact .inr hq
          refine ⟨fun f _ => hF'.fn f, ?_⟩
          rw [Oper.semAt_eq _ _ _ (prepOp_defer hpr), r1, Oper.uponIn_value, ← e2]
          refine hK _ _ (μ.add (SS i).next (w.heap.size, 0)) c (I.upd C hp ho hn hrdy hle (fun u t hd hu => ?_) I.c_le (fun j q h1 h2 h3 => .inr (I.below j q h1 h2 h3)) ?_ ?_ ?_ ?_)
          · rw [hget u t hd hu, hvf]; exact r4 _ _ hnew
          · refine ⟨?_, ?_, ?_, I.hr.dom⟩
            · intro b x hbx
              obtain ⟨q, hq, hx'⟩ := I.hr.obj b x hbx
              exact ⟨q, hle _ _ hq, hx'.mono hle (hold b q hq)⟩
            · intro b d x y q r hb1 hd1 hq hr' e'
              have hb2 := I.hr.dom b x hb1
              have hd2 := I.hr.dom d y hd1
              have hq' := (hback b q hq).resolve_left (by omega)
              have hr2 := (hback d r hr').resolve_left (by omega)
              exact I.hr.inj b d x y q r hb1 hd1 hq' hr2 e'
            · intro b q hq
              refine ⟨?_, .inr (Nat.zero_le _)⟩
              rcases hback b q hq with ⟨_, rfl⟩ | h
              · simp
              · have := (I.hr.lt b q h).1
                simp; omega
          · intro b q hq
            rcases hback b q hq with ⟨h, _⟩ | h
            · exact .inr (.inl ⟨i, by omega, hil, .inl rfl, by omega, h⟩)
            · rcases I.lt b q h with h | ⟨j, h1, h2, h3, h4, h5⟩ | h
              · exact .inl h
              · exact .inr (.inl ⟨j, h1, h2, .inr h3, h4, h5⟩)
              · exact .inr (.inr h)
          · intro j q h1 h2 h3 h4
            by_cases hji : j = i
            · subst hji
              refine .inr ⟨_, (w.heap.size, 0), hsn, hnew, ⟨cs, el, fz, cs.toList, [], World.push_new w _ _, concs_mono hle _ _ r2, by simp, by simp, fun _ => rfl, fun _ => r3⟩, by simp, ?_⟩
              intro b r hb1 e'
              rcases hback b r hb1 with ⟨h, _⟩ | h
              · exact h
              · have := (I.hr.lt b r h).1
                simp at e'
                omega
            · rcases I.pend j q h1 h2 h3 (h4.resolve_left hji) with h | ⟨ob, r, k1, k2, k3, k4, k5⟩
              · exact .inl h
              · refine .inr ⟨ob, r, k1, hle _ _ k2, k3.mono hle (hold _ _ k2), by simp; omega, ?_⟩
                intro b r' hb1 e'
                rcases hback b r' hb1 with ⟨_, rfl⟩ | h
                · simp at e'; omega
                · exact k5 b r' h e'
          · have m := I.mv
            refine ⟨Place.le_trans m.le hle, m.os, m.output, m.tape, by have := m.size; simp; omega, m.next, m.res, ?_, ?_, ?_⟩
            · intro b q hq
              rcases hback b q hq with ⟨h, rfl⟩ | h
              · refine .inr ⟨by omega, ?_, .inl m.size⟩
                show b < (SS ps.length).next
                omega
              · exact m.fresh b q h
            · intro k hk hk2
              rw [World.push_old w _ k (Nat.lt_of_lt_of_le hk m.size)]
              exact m.frame k hk hk2
            · intro b vs' l z q hg hq
              obtain ⟨g1, g2⟩ := m.ro b vs' l z q hg hq
              exact ⟨g1, (hold b q (m.le _ _ hq)).trans g2⟩
    · -- it turns nothing
      have hb' : p.big = false := by simpa using hb
      have hx := I.calm C hc hp ho hn hrdy hb' hw hv
      have hcl : p.op.cls ≠ 2 := by
        intro h
        simp [PO.big, h] at hb'
      have hx' : opVal e p.op (evPart p.op (TS i)) (SS c) = some (v, SS c) := by
        rw [opVal_xop hcl, ← xop_congr evPart_eq]; exact hx
      have hR : HR P (SS c).next μ (SS c) w := I.hr.at_R fun b q hq => Nat.lt_or_ge b _
      have hcn : (SS c).next ≤ (SS ps.length).next := C.S_mono hE I.c_le (Nat.le_refl _)
      refine opVal_wpIn hE e1 hx' (Nat.le_refl _) hR hρ hF' ?_ n
      intro ν x w1 h1 h2 h3
      have hback : ∀ b q, ν b = some q → μ b = some q := by
        intro b q hq
        rcases h3.fresh b q hq with h | ⟨g1, g2, _⟩
        · exact h
        · omega
      rw [← e2]
      refine hK _ w1 ν c (I.upd C hp ho hn hrdy h3.le (fun u t hd hu => by rw [hget u t hd hu]; exact h1) I.c_le (fun j q g1 g2 g3 => .inr (I.below j q g1 g2 g3)) (h2.at_R fun b q _ => .inr (Nat.zero_le _)) ?_ ?_ (I.mv.through hmc h3 hcn))
      · intro b q hq
        rcases I.lt b q (hback b q hq) with h | ⟨j, k1, k2, k3, k4, k5⟩ | h
        · exact .inl h
        · exact .inr (.inl ⟨j, k1, k2, .inr k3, k4, k5⟩)
        · exact .inr (.inr h)
      · intro j q g1 g2 g3 g4
        have hjl : j < ps.length := (List.getElem?_eq_some_iff.1 g2).1
        have hjm := C.S_mono hE (i := c) (j := j) g1 (by omega)
        rcases g4 with rfl | g4
        · exfalso
          rw [hp] at g2; cases g2
          rw [hb'] at g3; cases g3
        · rcases I.pend j q g1 g2 g3 g4 with h | ⟨ob, r, k1, k2, k3, k4, k5⟩
          · exact .inl h
          · refine .inr ⟨ob, r, k1, h3.le _ _ k2, k3.mono h3.le ?_, Nat.lt_of_lt_of_le k4 h3.size, ?_⟩
            · refine h3.frame r.1 k4 fun b r' hb1 hb2 e' => ?_
              have := k5 b r' hb2 e'
              omega
            · intro b r' hb1 e'
              exact k5 b r' (hback b r' hb1) e'
end
end Go.Proofs.Yteffppdkofdmdaa.D
