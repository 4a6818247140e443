/- A region whose order is open: the whole. -/
import Derived.Test.YteffppdkofdmdaaDEng6
import Derived.OrdersIn
namespace Go.Proofs.Yteffppdkofdmdaa.D
variable {P : Program}

theorem prepPOs_spec {all : List Oper} : ∀ {l : List Oper} {ps : List PO}, prepPOs P all l = some ps → ps.length = l.length ∧ ∀ (i : Nat) (p : PO), ps[i]? = some p → ∃ o, l[i]? = some o ∧ prepPO P all o = some p
  | [], ps, h => by
    cases h
    exact ⟨rfl, by intro i p hp; simp at hp⟩
  | o :: l, ps, h => by
    simp only [prepPOs] at h
    split at h
    case h_2 => cases h
    rename_i p hp
    split at h
    case h_2 => cases h
    rename_i r hr
    cases h
    obtain ⟨h1, h2⟩ := prepPOs_spec hr
    refine ⟨by simp [h1], ?_⟩
    intro i q hq
    cases i with
    | zero => simp only [List.getElem?_cons_zero, Option.some.injEq] at hq; subst hq; exact ⟨o, rfl, hp⟩
    | succ i => rw [List.getElem?_cons_succ] at hq ⊢; exact h2 i q hq

theorem okPOs_spec {N : Nat} : ∀ {ps : List PO}, okPOs N ps = true → ∀ (i : Nat) (p : PO), ps[i]? = some p → ∀ t, p.dst = some t → t < N
  | [], _, i, p, hp, _, _ => by simp at hp
  | q :: ps, h, i, p, hp, t, ht => by
    simp only [okPOs, Bool.and_eq_true] at h
    cases i with
    | zero =>
      simp only [List.getElem?_cons_zero, Option.some.injEq] at hp
      subst hp
      have := h.1
      rw [ht] at this
      simpa using this
    | succ i =>
      rw [List.getElem?_cons_succ] at hp
      exact okPOs_spec h.2 i p hp t ht

theorem looksOk_spec {ops : List PO} {ts : Tr AV} {snaps : List St} : ∀ {ls : List Look}, looksOk ops ts snaps ls = true → ∀ l ∈ ls, lookOk ops ts snaps l = true
  | [], _, l, hl => by simp at hl
  | x :: ls, h, l, hl => by
    simp only [looksOk, Bool.and_eq_true] at h
    rcases List.mem_cons.1 hl with rfl | hl
    · exact h.1
    · exact looksOk_spec h.2 l hl

theorem lookAll_spec {p : PO} {ts : Tr AV} {snaps : List St} {v : AV} : ∀ {cs : List Nat}, lookAll p ts snaps v cs = true → ∀ c ∈ cs, ∃ s s', snaps[c]? = some s ∧ xop p.op (evOf ts) s = some (v, s')
  | [], _, c, hc => by simp at hc
  | x :: cs, h, c, hc => by
    simp only [lookAll, Bool.and_eq_true] at h
    rcases List.mem_cons.1 hc with rfl | hc
    · have h1 := h.1
      split at h1
      · rename_i s hs
        split at h1
        · rename_i u s' hx
          rw [← same_eq h1]
          exact ⟨s, s', hs, hx⟩
        · cases h1
      · cases h1
    · exact lookAll_spec h.2 c hc

theorem T_keep0 {e : Eng} {ps : List PO} {TS : Nat → Tr AV} {SS : Nat → St} (hstep : ∀ (i : Nat) (p : PO), ps[i]? = some p → opStep e p (TS i) (SS i) = some (TS (i + 1), SS (i + 1))) {i t : Nat} : ∀ {j : Nat}, i ≤ j → j ≤ ps.length →
    (∀ k p, i ≤ k → k < j → ps[k]? = some p → p.dst ≠ some t) → (TS j).get t = (TS i).get t := by
  intro j
  induction j with
  | zero => intro h _ _; have : i = 0 := by omega
            subst this; rfl
  | succ j ih =>
    intro h hl hk
    by_cases e' : i = j + 1
    · subst e'; rfl
    · have hj : j < ps.length := by omega
      have hp := List.getElem?_eq_getElem hj
      obtain ⟨v, hv, _⟩ := opStep_spec (hstep _ _ hp)
      rw [← ih (by omega) (by omega) (fun k p h1 h2 => hk k p h1 (by omega)), hv]
      have hne := hk j _ (by omega) (by omega) hp
      cases hd : ps[j].dst with
      | none => rfl
      | some u =>
        rw [hd] at hne
        simp only [putT, Tr.get_set]
        rw [if_neg]
        intro e'; subst e'; exact hne rfl

theorem wantedA_congr {g : Option (Nat × Bool)} {ts ts' : Tr AV} (h : ∀ t k, g = some (t, k) → ts.get t = ts'.get t) : wantedA g ts = wantedA g ts' := by
  cases g with
  | none => rfl
  | some tk =>
    obtain ⟨t, k⟩ := tk
    simp only [wantedA]
    rw [h t k rfl]

theorem ctx_of {e : Eng} {ops : Array Oper} {ps : List PO} {N : Nat} (h1 : prepPOs P ops.toList ops.toList = some ps) (hedge : edgesOk ops.toList = true) (htmp : tmpsOk ps (befores ops.toList) = true) (hdst : dstsOk ps = true)
    (hbig : bigsOk ps (befores ops.toList) = true) (hread : readsOk ps (befores ops.toList) = true) (hok : okPOs N ps = true) {ts ts' : Tr AV} {s s' : St} {snaps : List St} (hrun : runSnaps e ps ts s [] = some (ts', s', snaps))
    (hlook : looksOk ps ts' snaps.reverse (looksOf ps (befores ops.toList)) = true) :
    ∃ (TS : Nat → Tr AV) (SS : Nat → St), Ctx P e ops ps TS SS N ∧ TS 0 = ts ∧ SS 0 = s ∧ TS ps.length = ts' ∧ SS ps.length = s' := by
  obtain ⟨TS, SS, t1, t2, t3, t4, hstep, hsn⟩ := trace ps _ _ _ _ _ _ hrun
  obtain ⟨hlen, hop⟩ := prepPOs_spec h1
  have tmem : ∀ {p : PO} {t : Nat}, (t ∈ p.op.uses ∨ ∃ k, p.guard = some (t, k)) → t ∈ p.op.uses ++ (p.guard.map (·.1)).toList := by
    intro p t h
    rcases h with h | ⟨k, h⟩
    · simp [h]
    · simp [h]
  refine ⟨TS, SS, ⟨by simpa using hlen, fun {i p} hp => hop i p hp, fun {i p} hp => hstep i p hp, hedge, fun {i p t} hp ht => okPOs_spec hok i p hp t ht, ?_, ?_, ?_, ?_, ?_⟩, t1, t2, t3, t4⟩
  · intro i j p q t hp hq hd hd'
    have := all_zipIdx.1 (all_zipIdx.1 hdst i p hp) j q hq
    simp only [hd, hd', Bool.or_eq_true, beq_iff_eq, Option.isNone_some, bne_self_eq_false, Bool.false_eq_true, or_false] at this
    exact this
  · intro i p t hp ht j q hq hd
    have h2 := all_zipIdx.1 htmp i p hp
    have h3 := List.all_eq_true.1 h2 t (tmem ht)
    have := all_zipIdx.1 h3 j q hq
    simp only [hd, Bool.or_eq_true, beq_iff_eq, bne_self_eq_false, Bool.false_eq_true, false_or] at this
    rcases this with (h | h) | h
    · exact .inl h
    · exact .inr (.inl h)
    · exact .inr (.inr h)
  · intro i j p q hp hq hpb hqb hlt
    have h2 := all_zipIdx.1 hbig i p hp
    simp only [hpb, Bool.not_true, Bool.false_or] at h2
    have := all_zipIdx.1 h2 j q hq
    simp only [hqb, Bool.not_true, Bool.false_or, Bool.or_eq_true, beq_iff_eq, Bool.not_eq_true'] at this
    rcases this with (h | h) | h
    · exfalso
      rw [show Nat.blt i j = true from by rw [Nat.blt_eq]; exact hlt] at h
      cases h
    · exact .inl h
    · exact .inr h
  · intro i p hp hc j q hq hqb ha c r hr hrb hcj
    have h2 := all_zipIdx.1 hread i p hp
    simp only [hc, bne_self_eq_false, Bool.false_or, Bool.and_eq_true] at h2
    have h3 := all_zipIdx.1 h2.1 j q hq
    simp only [hqb, ha, Bool.not_true, Bool.false_or] at h3
    have := all_zipIdx.1 h3 c r hr
    simp only [hrb, show Nat.blt c j = true from by rw [Nat.blt_eq]; exact hcj, Bool.not_true, Bool.false_or] at this
    exact this
  · intro i p hp hc hset v hw hv c hcs
    have hil : i < ps.length := (List.getElem?_eq_some_iff.1 hp).1
    have h2 := all_zipIdx.1 hread i p hp
    simp only [hc, hset, bne_self_eq_false, Bool.false_or, Bool.and_eq_true] at h2
    have hkeep : ∀ t, (t ∈ p.op.uses ∨ ∃ k, p.guard = some (t, k)) → (TS ps.length).get t = (TS i).get t := by
      intro t ht
      refine T_keep0 hstep (by omega) (Nat.le_refl _) fun k q g1 g2 g3 hd => ?_
      have h3 := List.all_eq_true.1 h2.2 t (tmem ht)
      have := all_zipIdx.1 h3 k q g3
      simp only [hd, bne_self_eq_false, Bool.false_or] at this
      have := ahead_lt hedge _ this
      omega
    have hl : (⟨i, spots ps (befores ops.toList) i⟩ : Look) ∈ looksOf ps (befores ops.toList) := by
      unfold looksOf
      rw [List.mem_filterMap]
      exact ⟨(p, i), List.mem_zipIdx_iff_getElem?.2 hp, by simp [hc, hset]⟩
    have hlo := looksOk_spec hlook _ hl
    unfold lookOk at hlo
    simp only [hp] at hlo
    have hwt : wantedA p.guard ts' = some true := by
      rw [← hw, ← t3]
      exact wantedA_congr fun t k hg => hkeep t (.inr ⟨k, hg⟩)
    rw [hwt] at hlo
    simp only [] at hlo
    split at hlo
    case h_1 => cases hlo
    rename_i d hd
    split at hlo
    case h_1 => cases hlo
    rename_i u hu
    have huv : u = v := by
      obtain ⟨v', hv1, hcase⟩ := opStep_spec (hstep i p hp)
      have hv2 : v' = v := by
        rcases hcase with ⟨hw2, _⟩ | ⟨_, hv3⟩
        · rw [hw] at hw2; cases hw2
        · rw [hv] at hv3; cases hv3; rfl
      have : (TS ps.length).get d = (TS (i + 1)).get d := by
        refine T_keep0 hstep (by omega) (Nat.le_refl _) fun k q g1 g2 g3 hd' => ?_
        have := all_zipIdx.1 (all_zipIdx.1 hdst i p hp) k q g3
        simp only [hd, hd', Bool.or_eq_true, beq_iff_eq, Option.isNone_some, bne_self_eq_false, Bool.false_eq_true, or_false] at this
        omega
      rw [t3, hu, hv1, hd] at this
      simp only [putT, Tr.get_set, if_true, Option.some.injEq] at this
      rw [this, hv2]
    subst huv
    obtain ⟨s1, s1', hs1, hx1⟩ := lookAll_spec hlo c hcs
    have hcl : c ≤ ps.length := by
      unfold spots at hcs
      simp only [List.mem_filter, List.mem_range] at hcs
      omega
    have := hsn c hcl
    simp only [List.length_nil, Nat.zero_add] at this
    rw [this] at hs1
    cases hs1
    have hsame := xop_look hc hx1
    rw [hsame] at hx1
    rw [← hx1]
    exact xop_congr fun x hx => by
      cases x with
      | c _ => rfl
      | t t => exact (by rw [← t3]; exact (hkeep t (.inl (List.mem_flatMap.2 ⟨.t t, hx, by simp [xuse]⟩))).symm)

def left (listed : Array Bool) : Nat := listed.toList.countP (· == false)

theorem left_set {l : List Bool} : ∀ {i : Nat}, l[i]? = some false → (l.set i true).countP (· == false) + 1 = l.countP (· == false) := by
  induction l with
  | nil => intro i h; simp at h
  | cons x l ih =>
    intro i h
    cases i with
    | zero =>
      simp only [List.getElem?_cons_zero, Option.some.injEq] at h
      subst h
      simp
    | succ i =>
      rw [List.getElem?_cons_succ] at h
      have := ih h
      simp only [List.set_cons_succ, List.countP_cons]
      omega

theorem left_zero {l : List Bool} (h : l.countP (· == false) = 0) (i : Nat) (hi : i < l.length) : l[i]? = some true := by
  rw [List.countP_eq_zero] at h
  have := h l[i] (List.getElem_mem hi)
  rw [List.getElem?_eq_getElem hi]
  simpa using this

section
variable {e : Eng} {ops : Array Oper} {ps : List PO} {TS : Nat → Tr AV} {SS : Nat → St} {N : Nat}
variable {R0 : Nat} {ds : List Nat} {μ0 : Place} {w0 : World}

theorem drawn_end (hE : EngOk P e) (C : Ctx P e ops ps TS SS N) (hs0 : ∀ b o, (SS 0).get b = some o → b < (SS 0).next) {Q : Exit → Act → World → Prop}
    (hQ : ∀ ν a' w', TR ν (TS ps.length) a'.tmps → a'.tmps.size = N → DR ν ds a'.defers → HR P R0 ν (SS ps.length) w' → Mv μ0 (SS 0) w0 ν (SS ps.length) w' → Q .normal a' w')
    {listed : Array Bool} {a : Act} {w : World} {μ : Place} {c : Nat} (I : Inv ops ps TS SS N P R0 ds μ0 w0 listed a w μ c) (hall : ∀ i, i < ps.length → Ls listed i) : Q .normal a w := by
  obtain ⟨c', I', hc⟩ := I.advance hE C hs0 _ rfl
  rcases hc with rfl | ⟨p, hp, _, hn⟩
  · refine hQ μ a w ?_ I'.tsz I'.dfr (I'.hr.at_R ?_) I'.mv
    · intro t v hv
      by_cases hw : ∃ (i : Nat) (p : PO), ps[i]? = some p ∧ p.dst = some t
      · obtain ⟨i, p, hp, hd⟩ := hw
        have hil : i < ps.length := (List.getElem?_eq_some_iff.1 hp).1
        refine I'.tm1 i p t v hp hd (hall i hil) ?_
        rw [← hv]
        exact (C.T_keep (by omega) (Nat.le_refl _) fun k q h1 _ hq hdq => by
          have := C.dst hq hp hdq hd
          omega).symm
      · refine I'.tm2 t v (fun i p hp hd => absurd ⟨i, p, hp, hd⟩ hw) ?_
        rw [← hv]
        exact (C.T_keep (Nat.zero_le _) (Nat.le_refl _) fun k q _ _ hq hdq => hw ⟨k, q, hq, hdq⟩).symm
    · intro b q hq
      rcases I'.lt b q hq with h | ⟨j, h1, h2, _⟩ | h
      · exact .inl h
      · omega
      · exact .inr h
  · exact absurd (hall c' (List.getElem?_eq_some_iff.1 hp).1) hn

theorem drawn_any (hE : EngOk P e) (C : Ctx P e ops ps TS SS N) (hs0 : ∀ b o, (SS 0).get b = some o → b < (SS 0).next) (hR0 : (SS ps.length).next ≤ R0) {ro : Option Nat} {F : Fence} (hF : FenceOk μ0 ro F) {n : Nat} {Q : Exit → Act → World → Prop}
    (hQ : ∀ ν a' w', TR ν (TS ps.length) a'.tmps → a'.tmps.size = N → DR ν ds a'.defers → HR P R0 ν (SS ps.length) w' → Mv μ0 (SS 0) w0 ν (SS ps.length) w' → Q .normal a' w') :
    ∀ (fuel : Nat) (listed : Array Bool) (a : Act) (w : World) (μ : Place) (c : Nat), left listed = fuel → Inv ops ps TS SS N P R0 ds μ0 w0 listed a w μ c → wpAnyIn F n P .any ops Q fuel listed a w := by
  intro fuel
  induction fuel with
  | zero =>
    intro listed a w μ c hf I
    have hall : ∀ i, i < ps.length → Ls listed i := by
      intro i hi
      have := left_zero hf i (by rw [Array.length_toList, I.size]; exact hi)
      unfold Ls
      rw [Array.getD_eq_getD_getElem?, ← Array.getElem?_toList, this]
      rfl
    refine ⟨?_, drawn_end hE C hs0 hQ I hall⟩
    apply List.eq_nil_iff_forall_not_mem.2
    intro j hj
    obtain ⟨h1, o, h2, _⟩ := mem_ready.1 hj
    have hjl : j < ps.length := by
      rw [C.len]
      exact (Array.getElem?_eq_some_iff.1 h2).1
    have := hall j hjl
    unfold Ls at this
    rw [h1] at this
    cases this
  | succ fuel ih =>
    intro listed a w μ c hf I
    refine ⟨?_, ?_⟩
    · intro hr
      refine drawn_end hE C hs0 hQ I ?_
      intro i
      induction i using Nat.strongRecOn with
      | _ i ihi =>
        intro hi
        refine Classical.byContradiction fun hn => ?_
        have hio : i < ops.size := by rw [← C.len]; exact hi
        have hm : i ∈ Region.ready .any ops listed := by
          refine mem_ready.2 ⟨by unfold Ls at hn; simpa using hn, ops[i], Array.getElem?_eq_getElem hio, ?_⟩
          intro e' he hb
          have hlt : e'.on < i := edgesOk_lt C.edge (i := i) (o := ops[i]) (by simp [hio]) (by simpa using he) hb
          have := ihi e'.on hlt (by omega)
          unfold Ls at this
          rw [Array.getD_eq_getD_getElem?] at this ⊢
          rw [Array.getElem?_eq_getElem (by rw [I.size]; omega)] at this ⊢
          exact this
        rw [hr] at hm
        cases hm
    · intro i hi
      obtain ⟨h1, o, h2, h3⟩ := mem_ready.1 hi
      have hil : i < ps.length := by
        rw [C.len]
        exact (Array.getElem?_eq_some_iff.1 h2).1
      have hp := List.getElem?_eq_getElem hil
      obtain ⟨o', ho', hpo⟩ := C.op hp
      have ho : ops.toList[i]? = some o := by rw [Array.getElem?_toList]; exact h2
      rw [ho] at ho'; cases ho'
      have hn : ¬ Ls listed i := by unfold Ls; rw [h1]; simp
      obtain ⟨c', I', hc⟩ := I.advance hE C hs0 _ rfl
      refine I'.step hE C hR0 hF hc hp ho hpo hn ?_ ?_
      · intro e' he hb
        have := h3 e' (by simpa using he) hb
        unfold Ls
        rw [Array.getD_eq_getD_getElem?] at this ⊢
        by_cases hl : e'.on < listed.size
        · rw [Array.getElem?_eq_getElem hl] at this ⊢; exact this
        · rw [Array.getElem?_eq_none (by omega)] at this; cases this
      · intro a' w' μ' c2 I2
        refine ih _ a' w' μ' c2 ?_ I2
        have hl : listed.toList[i]? = some false := by
          have hlt : i < listed.size := by rw [I.size]; exact hil
          rw [Array.getD_eq_getD_getElem?, Array.getElem?_eq_getElem hlt] at h1
          rw [Array.getElem?_toList, Array.getElem?_eq_getElem hlt]
          simpa using h1
        have := left_set hl
        unfold left at hf ⊢
        rw [Array.toList_setIfInBounds]
        omega
end

theorem drawn_wpIn {e : Eng} (hE : EngOk P e) (hm : P.follows .mixedOrders = true) {id : Nat} {ops : Array Oper} {ps : List PO} {N : Nat} (h1 : prepPOs P ops.toList ops.toList = some ps) (hedge : edgesOk ops.toList = true) (htmp : tmpsOk ps (befores ops.toList) = true) (hdst : dstsOk ps = true)
    (hbig : bigsOk ps (befores ops.toList) = true) (hread : readsOk ps (befores ops.toList) = true) (hok : okPOs N ps = true) {ts ts' : Tr AV} {s s' : St} {snaps : List St} (hrun : runSnaps e ps ts s [] = some (ts', s', snaps))
    (hlook : looksOk ps ts' snaps.reverse (looksOf ps (befores ops.toList)) = true) {R : Nat} (hR : s'.next ≤ R) {μ : Place} {w : World} (h : HR P R μ s w) {a : Act} (ht : TR μ ts a.tmps) (hN : a.tmps.size = N) {ds : List Nat} (hd : DR μ ds a.defers)
    {ro : Option Nat} {F : Fence} (hF : FenceOk μ ro F) {n : Nat} {Q : Exit → Act → World → Prop}
    (hQ : ∀ ν a' w', TR ν ts' a'.tmps → a'.tmps.size = N → DR ν ds a'.defers → HR P R ν s' w' → Mv μ s w ν s' w' → Q .normal a' w') : (Code.region id ops true).wpIn F n P Q a w := by
  obtain ⟨TS, SS, C, rfl, rfl, rfl, rfl⟩ := ctx_of h1 hedge htmp hdst hbig hread hok hrun hlook
  refine wpIn_region_any hm ?_
  refine drawn_any hE C h.dom hR hF (w0 := { w with drawn := w.drawn + 1 }) (ds := ds) ?_ ops.size _ a _ μ 0 (by unfold left; simp [List.countP_replicate]) ?_
  · intro ν a' w' g1 g2 g3 g4 g5
    exact hQ ν a' w' g1 g2 g3 g4 ⟨g5.le, g5.os, g5.output, g5.tape, g5.size, g5.next, g5.res, g5.fresh, g5.frame, g5.ro⟩
  · have hnl : ∀ i, i < ps.length → ¬ Ls (Array.replicate ops.size false) i := by
      intro i hi
      unfold Ls
      rw [Array.getD_eq_getD_getElem?, Array.getElem?_replicate, if_pos (by rw [← C.len]; exact hi)]
      simp
    have hsz : ∀ {i : Nat} {p : PO}, ps[i]? = some p → i < ps.length := fun hp => (List.getElem?_eq_some_iff.1 hp).1
    have hmono := C.S_mono hE (i := 0) (j := ps.length) (Nat.zero_le _) (Nat.le_refl _)
    refine ⟨by simp [C.len], ?_, Nat.zero_le _, fun i p hi => by omega, (h.heap_eq (w' := { w with drawn := w.drawn + 1 }) rfl).at_R fun b p _ => .inr (Nat.zero_le _), ?_, ?_, ?_, ?_, hN, hd, ?_⟩
    · intro i o hi ho
      have : i < ops.size := by
        have := (List.getElem?_eq_some_iff.1 ho).1
        simpa using this
      exact absurd hi (hnl i (by rw [C.len]; exact this))
    · intro b p hb
      rcases (h.lt b p hb).2 with h' | h'
      · exact .inl h'
      · exact .inr (.inr h')
    · intro j p _ hp _ hl
      exact absurd hl (hnl j (hsz hp))
    · intro i p t v hp _ hl
      exact absurd hl (hnl i (hsz hp))
    · intro t v _ hv
      exact ht t v hv
    · refine ⟨Place.le_refl _, rfl, rfl, rfl, Nat.le_refl _, hmono, fun b p hb => ?_, fun b p hb => .inl hb, fun _ _ _ => rfl, fun b vs l z p hb _ => ⟨hb, rfl⟩⟩
      rcases (h.lt b p hb).2 with h' | h'
      · exact .inl h'
      · exact .inr (Nat.le_trans hR h')
end Go.Proofs.Yteffppdkofdmdaa.D
