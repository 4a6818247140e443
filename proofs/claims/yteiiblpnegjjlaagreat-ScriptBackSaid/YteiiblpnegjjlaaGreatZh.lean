/- A region whose order is open: the whole.
The abstract machine's code is the model's.
The abstract machine's functions are the model's.
From the abstract machine to a law.
A call that asks nothing of memory, once run, is known. Plain laws; no program.
The abstract machine without a measure: what it answers with enough at hand; and that it answers step by step. Plain laws; no program.
What a run of the abstract machine comes to, step by step: rules for runs with unknown values. Plain laws; no program.
The rules by which a run with unknown values is carried out, as one set. -/
import Derived.Test.YteiiblpnegjjlaaGreatZg
import Derived.OrdersIn
import Derived.WalkKit
import Derived.ProofKit
import Derived.OpenShut
import Derived.ShutString
import Derived.Attr
namespace Go.Proofs.YteiiblpnegjjlaaGreat.D
variable {P : Program}

theorem prepPOs_spec {all : List Oper} : ∀ {l : List Oper} {ps : List PO}, prepPOs P all l = some ps → ps.length = l.length ∧ ∀ (i : Nat) (p : PO), ps[i]? = some p → ∃ o, l[i]? = some o ∧ prepPO P all o = some p
  | [], ps, h => by
    cases h
    exact ⟨rfl, by intro i p hp; simp at hp⟩
  | o :: l, ps, h => by
    simp only [prepPOs] at h
    split at h
    case h_2 => cases h
    rename_i p hp
    split at h
    case h_2 => cases h
    rename_i r hr
    cases h
    obtain ⟨h1, h2⟩ := prepPOs_spec hr
    refine ⟨by simp [h1], ?_⟩
    intro i q hq
    cases i with
    | zero => simp only [List.getElem?_cons_zero, Option.some.injEq] at hq; subst hq; exact ⟨o, rfl, hp⟩
    | succ i => rw [List.getElem?_cons_succ] at hq ⊢; exact h2 i q hq

theorem okPOs_spec {N : Nat} : ∀ {ps : List PO}, okPOs N ps = true → ∀ (i : Nat) (p : PO), ps[i]? = some p → ∀ t, p.dst = some t → t < N
  | [], _, i, p, hp, _, _ => by simp at hp
  | q :: ps, h, i, p, hp, t, ht => by
    simp only [okPOs, Bool.and_eq_true] at h
    cases i with
    | zero =>
      simp only [List.getElem?_cons_zero, Option.some.injEq] at hp
      subst hp
      have := h.1
      rw [ht] at this
      simpa using this
    | succ i =>
      rw [List.getElem?_cons_succ] at hp
      exact okPOs_spec h.2 i p hp t ht

theorem looksOk_spec {ops : List PO} {ts : Tr AV} {snaps : List St} : ∀ {ls : List Look}, looksOk ops ts snaps ls = true → ∀ l ∈ ls, lookOk ops ts snaps l = true
  | [], _, l, hl => by simp at hl
  | x :: ls, h, l, hl => by
    simp only [looksOk, Bool.and_eq_true] at h
    rcases List.mem_cons.1 hl with rfl | hl
    · exact h.1
    · exact looksOk_spec h.2 l hl

theorem lookAll_spec {p : PO} {ts : Tr AV} {snaps : List St} {v : AV} : ∀ {cs : List Nat}, lookAll p ts snaps v cs = true → ∀ c ∈ cs, ∃ s s', snaps[c]? = some s ∧ xop p.op (evOf ts) s = some (v, s')
  | [], _, c, hc => by simp at hc
  | x :: cs, h, c, hc => by
    simp only [lookAll, Bool.and_eq_true] at h
    rcases List.mem_cons.1 hc with rfl | hc
    · have h1 := h.1
      split at h1
      · rename_i s hs
        split at h1
        · rename_i u s' hx
          rw [← same_eq h1]
          exact ⟨s, s', hs, hx⟩
        · cases h1
      · cases h1
    · exact lookAll_spec h.2 c hc

theorem T_keep0 {e : Eng} {ps : List PO} {TS : Nat → Tr AV} {SS : Nat → St} (hstep : ∀ (i : Nat) (p : PO), ps[i]? = some p → opStep e p (TS i) (SS i) = some (TS (i + 1), SS (i + 1))) {i t : Nat} : ∀ {j : Nat}, i ≤ j → j ≤ ps.length →
    (∀ k p, i ≤ k → k < j → ps[k]? = some p → p.dst ≠ some t) → (TS j).get t = (TS i).get t := by
  intro j
  induction j with
  | zero => intro h _ _; have : i = 0 := by omega
            subst this; rfl
  | succ j ih =>
    intro h hl hk
    by_cases e' : i = j + 1
    · subst e'; rfl
    · have hj : j < ps.length := by omega
      have hp := List.getElem?_eq_getElem hj
      obtain ⟨v, hv, _⟩ := opStep_spec (hstep _ _ hp)
      rw [← ih (by omega) (by omega) (fun k p h1 h2 => hk k p h1 (by omega)), hv]
      have hne := hk j _ (by omega) (by omega) hp
      cases hd : ps[j].dst with
      | none => rfl
      | some u =>
        rw [hd] at hne
        simp only [putT, Tr.get_set]
        rw [if_neg]
        intro e'; subst e'; exact hne rfl

theorem wantedA_congr {g : Option (Nat × Bool)} {ts ts' : Tr AV} (h : ∀ t k, g = some (t, k) → ts.get t = ts'.get t) : wantedA g ts = wantedA g ts' := by
  cases g with
  | none => rfl
  | some tk =>
    obtain ⟨t, k⟩ := tk
    simp only [wantedA]
    rw [h t k rfl]

theorem ctx_of {e : Eng} {ops : Array Oper} {ps : List PO} {N : Nat} (h1 : prepPOs P ops.toList ops.toList = some ps) (hedge : edgesOk ops.toList = true) (htmp : tmpsOk ps (befores ops.toList) = true) (hdst : dstsOk ps = true)
    (hbig : bigsOk ps (befores ops.toList) = true) (hread : readsOk ps (befores ops.toList) = true) (hok : okPOs N ps = true) {ts ts' : Tr AV} {s s' : St} {snaps : List St} (hrun : runSnaps e ps ts s [] = some (ts', s', snaps))
    (hlook : looksOk ps ts' snaps.reverse (looksOf ps (befores ops.toList)) = true) :
    ∃ (TS : Nat → Tr AV) (SS : Nat → St), Ctx P e ops ps TS SS N ∧ TS 0 = ts ∧ SS 0 = s ∧ TS ps.length = ts' ∧ SS ps.length = s' := by
  obtain ⟨TS, SS, t1, t2, t3, t4, hstep, hsn⟩ := trace ps _ _ _ _ _ _ hrun
  obtain ⟨hlen, hop⟩ := prepPOs_spec h1
  have tmem : ∀ {p : PO} {t : Nat}, (t ∈ p.op.uses ∨ ∃ k, p.guard = some (t, k)) → t ∈ p.op.uses ++ (p.guard.map (·.1)).toList := by
    intro p t h
    rcases h with h | ⟨k, h⟩
    · simp [h]
    · simp [h]
  refine ⟨TS, SS, ⟨by simpa using hlen, fun {i p} hp => hop i p hp, fun {i p} hp => hstep i p hp, hedge, fun {i p t} hp ht => okPOs_spec hok i p hp t ht, ?_, ?_, ?_, ?_, ?_⟩, t1, t2, t3, t4⟩
  · intro i j p q t hp hq hd hd'
    have := all_zipIdx.1 (all_zipIdx.1 hdst i p hp) j q hq
    simp only [hd, hd', Bool.or_eq_true, beq_iff_eq, Option.isNone_some, bne_self_eq_false, Bool.false_eq_true, or_false] at this
    exact this
  · intro i p t hp ht j q hq hd
    have h2 := all_zipIdx.1 htmp i p hp
    have h3 := List.all_eq_true.1 h2 t (tmem ht)
    have := all_zipIdx.1 h3 j q hq
    simp only [hd, Bool.or_eq_true, beq_iff_eq, bne_self_eq_false, Bool.false_eq_true, false_or] at this
    rcases this with (h | h) | h
    · exact .inl h
    · exact .inr (.inl h)
    · exact .inr (.inr h)
  · intro i j p q hp hq hpb hqb hlt
    have h2 := all_zipIdx.1 hbig i p hp
    simp only [hpb, Bool.not_true, Bool.false_or] at h2
    have := all_zipIdx.1 h2 j q hq
    simp only [hqb, Bool.not_true, Bool.false_or, Bool.or_eq_true, beq_iff_eq, Bool.not_eq_true'] at this
    rcases this with (h | h) | h
    · exfalso
      rw [show Nat.blt i j = true from by rw [Nat.blt_eq]; exact hlt] at h
      cases h
    · exact .inl h
    · exact .inr h
  · intro i p hp hc j q hq hqb ha c r hr hrb hcj
    have h2 := all_zipIdx.1 hread i p hp
    simp only [hc, bne_self_eq_false, Bool.false_or, Bool.and_eq_true] at h2
    have h3 := all_zipIdx.1 h2.1 j q hq
    simp only [hqb, ha, Bool.not_true, Bool.false_or] at h3
    have := all_zipIdx.1 h3 c r hr
    simp only [hrb, show Nat.blt c j = true from by rw [Nat.blt_eq]; exact hcj, Bool.not_true, Bool.false_or] at this
    exact this
  · intro i p hp hc hset v hw hv c hcs
    have hil : i < ps.length := (List.getElem?_eq_some_iff.1 hp).1
    have h2 := all_zipIdx.1 hread i p hp
    simp only [hc, hset, bne_self_eq_false, Bool.false_or, Bool.and_eq_true] at h2
    have hkeep : ∀ t, (t ∈ p.op.uses ∨ ∃ k, p.guard = some (t, k)) → (TS ps.length).get t = (TS i).get t := by
      intro t ht
      refine T_keep0 hstep (by omega) (Nat.le_refl _) fun k q g1 g2 g3 hd => ?_
      have h3 := List.all_eq_true.1 h2.2 t (tmem ht)
      have := all_zipIdx.1 h3 k q g3
      simp only [hd, bne_self_eq_false, Bool.false_or] at this
      have := ahead_lt hedge _ this
      omega
    have hl : (⟨i, spots ps (befores ops.toList) i⟩ : Look) ∈ looksOf ps (befores ops.toList) := by
      unfold looksOf
      rw [List.mem_filterMap]
      exact ⟨(p, i), List.mem_zipIdx_iff_getElem?.2 hp, by simp [hc, hset]⟩
    have hlo := looksOk_spec hlook _ hl
    unfold lookOk at hlo
    simp only [hp] at hlo
    have hwt : wantedA p.guard ts' = some true := by
      rw [← hw, ← t3]
      exact wantedA_congr fun t k hg => hkeep t (.inr ⟨k, hg⟩)
    rw [hwt] at hlo
    simp only [] at hlo
    split at hlo
    case h_1 => cases hlo
    rename_i d hd
    split at hlo
    case h_1 => cases hlo
    rename_i u hu
    have huv : u = v := by
      obtain ⟨v', hv1, hcase⟩ := opStep_spec (hstep i p hp)
      have hv2 : v' = v := by
        rcases hcase with ⟨hw2, _⟩ | ⟨_, hv3⟩
        · rw [hw] at hw2; cases hw2
        · rw [hv] at hv3; cases hv3; rfl
      have : (TS ps.length).get d = (TS (i + 1)).get d := by
        refine T_keep0 hstep (by omega) (Nat.le_refl _) fun k q g1 g2 g3 hd' => ?_
        have := all_zipIdx.1 (all_zipIdx.1 hdst i p hp) k q g3
        simp only [hd, hd', Bool.or_eq_true, beq_iff_eq, Option.isNone_some, bne_self_eq_false, Bool.false_eq_true, or_false] at this
        omega
      rw [t3, hu, hv1, hd] at this
      simp only [putT, Tr.get_set, if_true, Option.some.injEq] at this
      rw [this, hv2]
    subst huv
    obtain ⟨s1, s1', hs1, hx1⟩ := lookAll_spec hlo c hcs
    have hcl : c ≤ ps.length := by
      unfold spots at hcs
      simp only [List.mem_filter, List.mem_range] at hcs
      omega
    have := hsn c hcl
    simp only [List.length_nil, Nat.zero_add] at this
    rw [this] at hs1
    cases hs1
    have hsame := xop_look hc hx1
    rw [hsame] at hx1
    rw [← hx1]
    exact xop_congr fun x hx => by
      cases x with
      | c _ => rfl
      | t t => exact (by rw [← t3]; exact (hkeep t (.inl (List.mem_flatMap.2 ⟨.t t, hx, by simp [xuse]⟩))).symm)

def left (listed : Array Bool) : Nat := listed.toList.countP (· == false)

theorem left_set {l : List Bool} : ∀ {i : Nat}, l[i]? = some false → (l.set i true).countP (· == false) + 1 = l.countP (· == false) := by
  induction l with
  | nil => intro i h; simp at h
  | cons x l ih =>
    intro i h
    cases i with
    | zero =>
      simp only [List.getElem?_cons_zero, Option.some.injEq] at h
      subst h
      simp
    | succ i =>
      rw [List.getElem?_cons_succ] at h
      have := ih h
      simp only [List.set_cons_succ, List.countP_cons]
      omega

theorem left_zero {l : List Bool} (h : l.countP (· == false) = 0) (i : Nat) (hi : i < l.length) : l[i]? = some true := by
  rw [List.countP_eq_zero] at h
  have := h l[i] (List.getElem_mem hi)
  rw [List.getElem?_eq_getElem hi]
  simpa using this

section
variable {e : Eng} {ops : Array Oper} {ps : List PO} {TS : Nat → Tr AV} {SS : Nat → St} {N : Nat}
variable {R0 : Nat} {ds : List Nat} {μ0 : Place} {w0 : World}

theorem drawn_end (hE : EngOk P e) (C : Ctx P e ops ps TS SS N) (hs0 : ∀ b o, (SS 0).get b = some o → b < (SS 0).next) {Q : Exit → Act → World → Prop}
    (hQ : ∀ ν a' w', TR ν (TS ps.length) a'.tmps → a'.tmps.size = N → DR ν ds a'.defers → HR P R0 ν (SS ps.length) w' → Mv μ0 (SS 0) w0 ν (SS ps.length) w' → Q .normal a' w')
    {listed : Array Bool} {a : Act} {w : World} {μ : Place} {c : Nat} (I : Inv ops ps TS SS N P R0 ds μ0 w0 listed a w μ c) (hall : ∀ i, i < ps.length → Ls listed i) : Q .normal a w := by
  obtain ⟨c', I', hc⟩ := I.advance hE C hs0 _ rfl
  rcases hc with rfl | ⟨p, hp, _, hn⟩
  · refine hQ μ a w ?_ I'.tsz I'.dfr (I'.hr.at_R ?_) I'.mv
    · intro t v hv
      by_cases hw : ∃ (i : Nat) (p : PO), ps[i]? = some p ∧ p.dst = some t
      · obtain ⟨i, p, hp, hd⟩ := hw
        have hil : i < ps.length := (List.getElem?_eq_some_iff.1 hp).1
        refine I'.tm1 i p t v hp hd (hall i hil) ?_
        rw [← hv]
        exact (C.T_keep (by omega) (Nat.le_refl _) fun k q h1 _ hq hdq => by
          have := C.dst hq hp hdq hd
          omega).symm
      · refine I'.tm2 t v (fun i p hp hd => absurd ⟨i, p, hp, hd⟩ hw) ?_
        rw [← hv]
        exact (C.T_keep (Nat.zero_le _) (Nat.le_refl _) fun k q _ _ hq hdq => hw ⟨k, q, hq, hdq⟩).symm
    · intro b q hq
      rcases I'.lt b q hq with h | ⟨j, h1, h2, _⟩ | h
      · exact .inl h
      · omega
      · exact .inr h
  · exact absurd (hall c' (List.getElem?_eq_some_iff.1 hp).1) hn

theorem drawn_any (hE : EngOk P e) (C : Ctx P e ops ps TS SS N) (hs0 : ∀ b o, (SS 0).get b = some o → b < (SS 0).next) (hR0 : (SS ps.length).next ≤ R0) {ro : Option Nat} {F : Fence} (hF : FenceOk μ0 ro F) {n : Nat} {Q : Exit → Act → World → Prop}
    (hQ : ∀ ν a' w', TR ν (TS ps.length) a'.tmps → a'.tmps.size = N → DR ν ds a'.defers → HR P R0 ν (SS ps.length) w' → Mv μ0 (SS 0) w0 ν (SS ps.length) w' → Q .normal a' w') :
    ∀ (fuel : Nat) (listed : Array Bool) (a : Act) (w : World) (μ : Place) (c : Nat), left listed = fuel → Inv ops ps TS SS N P R0 ds μ0 w0 listed a w μ c → wpAnyIn F n P .any ops Q fuel listed a w := by
  intro fuel
  induction fuel with
  | zero =>
    intro listed a w μ c hf I
    have hall : ∀ i, i < ps.length → Ls listed i := by
      intro i hi
      have := left_zero hf i (by rw [Array.length_toList, I.size]; exact hi)
      unfold Ls
      rw [Array.getD_eq_getD_getElem?, ← Array.getElem?_toList, this]
      rfl
    refine ⟨?_, drawn_end hE C hs0 hQ I hall⟩
    apply List.eq_nil_iff_forall_not_mem.2
    intro j hj
    obtain ⟨h1, o, h2, _⟩ := mem_ready.1 hj
    have hjl : j < ps.length := by
      rw [C.len]
      exact (Array.getElem?_eq_some_iff.1 h2).1
    have := hall j hjl
    unfold Ls at this
    rw [h1] at this
    cases this
  | succ fuel ih =>
    intro listed a w μ c hf I
    refine ⟨?_, ?_⟩
    · intro hr
      refine drawn_end hE C hs0 hQ I ?_
      intro i
      induction i using Nat.strongRecOn with
      | _ i ihi =>
        intro hi
        refine Classical.byContradiction fun hn => ?_
        have hio : i < ops.size := by rw [← C.len]; exact hi
        have hm : i ∈ Region.ready .any ops listed := by
          refine mem_ready.2 ⟨by unfold Ls at hn; simpa using hn, ops[i], Array.getElem?_eq_getElem hio, ?_⟩
          intro e' he hb
          have hlt : e'.on < i := edgesOk_lt C.edge (i := i) (o := ops[i]) (by simp [hio]) (by simpa using he) hb
          have := ihi e'.on hlt (by omega)
          unfold Ls at this
          rw [Array.getD_eq_getD_getElem?] at this ⊢
          rw [Array.getElem?_eq_getElem (by rw [I.size]; omega)] at this ⊢
          exact this
        rw [hr] at hm
        cases hm
    · intro i hi
      obtain ⟨h1, o, h2, h3⟩ := mem_ready.1 hi
      have hil : i < ps.length := by
        rw [C.len]
        exact (Array.getElem?_eq_some_iff.1 h2).1
      have hp := List.getElem?_eq_getElem hil
      obtain ⟨o', ho', hpo⟩ := C.op hp
      have ho : ops.toList[i]? = some o := by rw [Array.getElem?_toList]; exact h2
      rw [ho] at ho'; cases ho'
      have hn : ¬ Ls listed i := by unfold Ls; rw [h1]; simp
      obtain ⟨c', I', hc⟩ := I.advance hE C hs0 _ rfl
      refine I'.step hE C hR0 hF hc hp ho hpo hn ?_ ?_
      · intro e' he hb
        have := h3 e' (by simpa using he) hb
        unfold Ls
        rw [Array.getD_eq_getD_getElem?] at this ⊢
        by_cases hl : e'.on < listed.size
        · rw [Array.getElem?_eq_getElem hl] at this ⊢; exact this
        · rw [Array.getElem?_eq_none (by omega)] at this; cases this
      · intro a' w' μ' c2 I2
        refine ih _ a' w' μ' c2 ?_ I2
        have hl : listed.toList[i]? = some false := by
          have hlt : i < listed.size := by rw [I.size]; exact hil
          rw [Array.getD_eq_getD_getElem?, Array.getElem?_eq_getElem hlt] at h1
          rw [Array.getElem?_toList, Array.getElem?_eq_getElem hlt]
          simpa using h1
        have := left_set hl
        unfold left at hf ⊢
        rw [Array.toList_setIfInBounds]
        omega
end

theorem drawn_wpIn {e : Eng} (hE : EngOk P e) (hm : P.follows .mixedOrders = true) {id : Nat} {ops : Array Oper} {ps : List PO} {N : Nat} (h1 : prepPOs P ops.toList ops.toList = some ps) (hedge : edgesOk ops.toList = true) (htmp : tmpsOk ps (befores ops.toList) = true) (hdst : dstsOk ps = true)
    (hbig : bigsOk ps (befores ops.toList) = true) (hread : readsOk ps (befores ops.toList) = true) (hok : okPOs N ps = true) {ts ts' : Tr AV} {s s' : St} {snaps : List St} (hrun : runSnaps e ps ts s [] = some (ts', s', snaps))
    (hlook : looksOk ps ts' snaps.reverse (looksOf ps (befores ops.toList)) = true) {R : Nat} (hR : s'.next ≤ R) {μ : Place} {w : World} (h : HR P R μ s w) {a : Act} (ht : TR μ ts a.tmps) (hN : a.tmps.size = N) {ds : List Nat} (hd : DR μ ds a.defers)
    {ro : Option Nat} {F : Fence} (hF : FenceOk μ ro F) {n : Nat} {Q : Exit → Act → World → Prop}
    (hQ : ∀ ν a' w', TR ν ts' a'.tmps → a'.tmps.size = N → DR ν ds a'.defers → HR P R ν s' w' → Mv μ s w ν s' w' → Q .normal a' w') : (Code.region id ops true).wpIn F n P Q a w := by
  obtain ⟨TS, SS, C, rfl, rfl, rfl, rfl⟩ := ctx_of h1 hedge htmp hdst hbig hread hok hrun hlook
  refine wpIn_region_any hm ?_
  refine drawn_any hE C h.dom hR hF (w0 := { w with drawn := w.drawn + 1 }) (ds := ds) ?_ ops.size _ a _ μ 0 (by unfold left; simp [List.countP_replicate]) ?_
  · intro ν a' w' g1 g2 g3 g4 g5
    exact hQ ν a' w' g1 g2 g3 g4 ⟨g5.le, g5.os, g5.output, ⟨g5.tape.eq, fun hs => Nat.le_trans (Nat.le_succ _) (g5.tape.dr hs)⟩, g5.size, g5.next, g5.res, g5.fresh, g5.frame, g5.ro⟩
  · have hnl : ∀ i, i < ps.length → ¬ Ls (Array.replicate ops.size false) i := by
      intro i hi
      unfold Ls
      rw [Array.getD_eq_getD_getElem?, Array.getElem?_replicate, if_pos (by rw [← C.len]; exact hi)]
      simp
    have hsz : ∀ {i : Nat} {p : PO}, ps[i]? = some p → i < ps.length := fun hp => (List.getElem?_eq_some_iff.1 hp).1
    have hmono := C.S_mono hE (i := 0) (j := ps.length) (Nat.zero_le _) (Nat.le_refl _)
    refine ⟨by simp [C.len], ?_, Nat.zero_le _, fun i p hi => by omega, (h.heap_eq (w' := { w with drawn := w.drawn + 1 }) rfl).at_R fun b p _ => .inr (Nat.zero_le _), ?_, ?_, ?_, ?_, hN, hd, ?_⟩
    · intro i o hi ho
      have : i < ops.size := by
        have := (List.getElem?_eq_some_iff.1 ho).1
        simpa using this
      exact absurd hi (hnl i (by rw [C.len]; exact this))
    · intro b p hb
      rcases (h.lt b p hb).2 with h' | h'
      · exact .inl h'
      · exact .inr (.inr h')
    · intro j p _ hp _ hl
      exact absurd hl (hnl j (hsz hp))
    · intro i p t v hp _ hl
      exact absurd hl (hnl i (hsz hp))
    · intro t v _ hv
      exact ht t v hv
    · refine ⟨Place.le_refl _, rfl, rfl, .refl _, Nat.le_refl _, hmono, fun b p hb => ?_, fun b p hb => .inl hb, fun _ _ _ => rfl, fun b vs l z p hb _ => ⟨hb, rfl⟩⟩
      rcases (h.lt b p hb).2 with h' | h'
      · exact .inl h'
      · exact .inr (Nat.le_trans hR h')
end Go.Proofs.YteiiblpnegjjlaaGreat.D
namespace Go.Proofs.YteiiblpnegjjlaaGreat.D
variable {P : Program}

theorem Left.trans {R : Nat} {μ ν : Place} {s s1 : St} {w w1 : World} {N : Nat} {x : AExit} {ts' : Tr AV} {ds' : List Nat} {s' : St} {e : Exit} {a : Act} {w' : World} (m : Mv μ s w ν s1 w1) (h : Left P R ν s1 w1 N x ts' ds' s' e a w') : Left P R μ s w N x ts' ds' s' e a w' := by
  obtain ⟨h1, ξ, h2, h3, h4, h5, h6⟩ := h
  exact ⟨h1, ξ, h2, h3, h4, h5, m.trans h6⟩

/-- A mark is come to: the block is shut. -/
theorem HR.shut {R : Nat} {μ : Place} {s : St} {w w' : World} (h : HR P R μ s w) (hR : s.next ≤ R) {b : Nat} {o : AObj} {p : Nat × Nat} (hb : s.get b = some o) (hp : μ b = some p) (hro : ∀ vs l e, o ≠ .cells vs l true e)
    (hos : w'.os = w.os) (hout : w'.output = w.output) (htape : TapeLe w w') (hsize : w'.heap.size = w.heap.size) (hk : ∀ k, k ≠ p.1 → w'.heap[k]? = w.heap[k]?) : HR P R μ (s.drop b) w' ∧ Mv μ s w μ (s.drop b) w' := by
  obtain ⟨hd, _⟩ := h.drop hR hb hro
  have other : ∀ c x q, (s.drop b).get c = some x → μ c = some q → q.1 ≠ p.1 := by
    intro c x q hc hq e'
    rw [St.get_drop] at hc
    by_cases ec : c = b
    · rw [if_pos ec] at hc; cases hc
    · rw [if_neg ec] at hc
      exact ec (h.inj c b _ _ q p hc hb hq hp e')
  refine ⟨⟨fun c x hc => ?_, hd.inj, fun c q hq => by rw [hsize]; exact hd.lt c q hq, hd.dom⟩, ⟨Place.le_refl _, hos, hout, htape, by omega, Nat.le_refl _, fun c q hq => (h.lt c q hq).2.imp id (Nat.le_trans hR), fun _ q hq => .inl hq, ?_, ?_⟩⟩
  · obtain ⟨q, hq, hx⟩ := hd.obj c x hc
    exact ⟨q, hq, hx.mono (Place.le_refl _) (hk q.1 (other c x q hc hq))⟩
  · intro k _ hn
    exact hk k fun e' => hn b p (h.dom b o hb) hp e'.symm
  · intro c vs l z q hc hq
    have hne : c ≠ b := by
      intro e'; subst e'; rw [hb] at hc; cases hc; exact hro _ _ _ rfl
    refine ⟨?_, hk q.1 fun e' => hne (h.inj c b _ _ q p hc hb hq hp e')⟩
    rw [St.get_drop, if_neg hne]
    exact hc

theorem rangeA_sound {e : Eng} (hE : EngOk P e) {ro : Option Nat} {fv : AV} {params : List Nat} {asg bd : PC} {ts ts' : Tr AV} {ds ds' : List Nat} {s s' : St} {x : AExit} (hx : rangeA e ro fv params asg bd ts ds s = some (x, ts', ds', s'))
    {R : Nat} (hR : s'.next ≤ R) {μ : Place} {w : World} (h : HR P R μ s w) {g : Operand} {ps : Array Tmp} {assign body : Code} {N : Nat} (hps : ps.toList = params) (hpa : prepC P assign = some asg) (hpb : prepC P body = some bd)
    (ok1 : okNats N params = true) (ok2 : okPC N asg = true) (ok3 : okPC N bd = true) {a : Act} (ht : TR μ ts a.tmps) (hN : a.tmps.size = N) (hd : DR μ ds a.defers) {F : Fence} (hF : FenceOk μ ro F) (hf : conc μ fv = some (a.eval g)) (n : Nat) :
    (Code.rangeFunc g ps assign body).wpIn F n P (Left P R μ s w N x ts' ds' s') a w := by
  have hn := rangeA_next hE.next hx
  unfold rangeA at hx
  split at hx
  case h_2 => cases hx
  rename_i f first captured
  obtain ⟨xs, ys, _, hxs, hys, e1⟩ := conc_fn hf
  split at hx
  case h_1 => cases hx
  rename_i l ds1 s2 h0
  split at hx
  case h_1 => cases hx
  rename_i rv s3 hc
  -- from the two blocks on
  have fin : ∀ (ν : Place) (w2 : World) (pl : Nat × Nat) (mark : List Deferred) (fn : FuncId), HR P R ν s2 w2 → Mv μ s w ν s2 w2 → ν l = some pl → DR ν ds1 (mark ++ a.defers) → FenceOk ν ro F →
      (Instr.enterLoop fn a.tmps ps assign body F.round).run P w = .ok (pl.1, mark) w2 →
      ∃ (l : Nat) (mark : List Deferred) (w₁ : World) (d : Deferred) (w₁' : World) (f : FuncId) (args : Array Value) (w₂ : World),
        (Instr.enterLoop fn a.tmps ps assign body F.round).run P w = .ok (l, mark) w₁ ∧ (resolve a.eval (rangeCall g l) 0).run P w₁ = .ok d w₁' ∧ (∀ f', Target.leads P w₁' d.target d.args = some f' → F.fn f') ∧
        (invoke d.target d.args).run P w₁' = .ok (.enter f args) w₂ ∧ (F.depth.isSome = true → 1 ≤ n) ∧ CallsIn F (n - 1) P f args w₂ (rangePost F n P l (Left P R μ s w N x ts' ds' s') { a with defers := mark ++ a.defers }) := by
    intro ν w2 pl mark fn hν hm hpl hdr hFν hent
    have n2 := hE.next.call hc
    have n3 : s3.next ≤ s'.next := by
      split at hx
      all_goals first
        | (cases hx; done)
        | (cases hx; simp)
    have hargs : concs ν (first ++ [.yld l] ++ captured) = some (xs ++ [.func (.yield pl.1) #[] #[]] ++ ys) :=
      concs_append (concs_append (concs_mono hm.le _ _ hxs) (by simp [concs, conc, hpl])) (concs_mono hm.le _ _ hys)
    obtain ⟨⟨fn', f1, f2, f3⟩, hcall⟩ := hE.call hc (R := R) (by omega) hν hargs
    refine ⟨pl.1, mark, w2, { target := .fn (.func f) ys.toArray, args := xs.toArray ++ #[.func (.yield pl.1) #[] #[]] }, w2, f, _, w2, hent, ?_, fun f' _ => hF.fn f', ?_, fun hdp => (by rw [hF.depth] at hdp; cases hdp), (hF.calls (hcall (n - 1))).mono ?_⟩
    · simp only [resolve, e1, Deferred.ofValue, Sem.run_pure]
      simp [Act.eval]
    · simp only [invoke]
      rw [run_callFunc f1 f2 f3]
      simp
    · intro en w3 hr
      cases en with
      | panicked _ => exact hr.elim
      | outgrown => exact hr.elim
      | returned cv =>
        obtain ⟨ξ, _, g2, g3⟩ := hr
        have hpl' : ξ l = some pl := g3.le _ _ hpl
        split at hx
        case h_1 => cases hx
        case h_3 => cases hx
        rename_i st pend ts2 ps2 a2 b2 d2 hst hg
        obtain ⟨L, q, k1, k2, k3, k4⟩ := g2.loop hg hpl'
        obtain ⟨t1, t2⟩ := g2.loop_turn (st' := .exhausted) (pe' := pend) (by omega) hg hpl' k1
        have e2 : ({ L with state := LoopState.exhausted, pending := jumpCode pend } : Loop) = { L with state := .exhausted } := by rw [← k3]
        rw [e2] at t1 t2
        cases hx
        have hnb : L.state ≠ .busy := by
          rw [k2]
          intro e3
          exact hst e3
        refine ⟨_, _, run_endLoop k1 hnb, ?_⟩
        have hleft : ∀ e, e = exitOf x → Left P R μ s w N x ts ds' (s3.put l (.loop .exhausted x ts2 ps2 a2 b2 d2)) e { a with defers := mark ++ a.defers } (w3.putObj pl.1 (.loop { L with state := .exhausted })) := by
          intro e he
          exact ⟨he, ξ, ht.mono (Place.le_trans hm.le g3.le), hN, hdr.mono g3.le, t1, (hm.trans g3).trans t2⟩
        rw [k3] at hleft ⊢
        cases x with
        | normal => exact hleft _ rfl
        | exit id => exact wpIn_exit (hleft _ rfl)
        | ret => exact wpIn_ret (hleft _ rfl)
  refine wpIn_rangeFunc fun fn _ => ?_
  have nc := hE.next.call hc
  have hs2R : s2.next ≤ R := by
    have n3 : s3.next ≤ s'.next := by
      split at hx
      all_goals first
        | (cases hx; done)
        | (cases hx; simp)
    omega
  cases ro with
  | none =>
    simp only [Option.some.injEq, Prod.mk.injEq] at h0
    obtain ⟨rfl, rfl, rfl⟩ := h0
    simp at hs2R
    obtain ⟨b1, b2⟩ := h.new (R := R) (by omega) .defd (.deferred (some [])) 0 w.drawn (by simp [OR])
    obtain ⟨c1, c2⟩ := b1.new (R := R) (by simp; omega) (.loop .ready .normal ts params asg bd s.next) (.loop { state := .ready, pending := none, fn, tmps := a.tmps, params := ps, assign, body, defers := w.heap.size }) 0 w.drawn
      ⟨_, (w.heap.size, 0), World.push_new _ _ _, rfl, rfl, ht.mono (Place.le_trans b2.le (b1.le_add (by simp; omega) _)), hps, hpa, hpb, by simp [Place.add], rfl, by rw [hN]; exact ok1, by rw [hN]; exact ok2, by rw [hN]; exact ok3⟩
    have hF0 : F = Fence.wide := hF
    refine fin _ _ (w.heap.size + 1, 0) [{ target := .collected w.heap.size, args := #[] }] fn c1 (b2.trans c2) ?_ ?_ hF0 ?_
    · simp [Place.add]
    · exact ⟨⟨(w.heap.size, 0), by simp [Place.add], rfl⟩, hd.mono (b2.trans c2).le⟩
    · subst hF0
      exact run_enterLoop_outer fn a.tmps ps assign body
  | some l0 =>
    obtain ⟨p0, hp0, hF0⟩ := hF
    simp only [] at h0
    split at h0
    case h_2 => cases h0
    rename_i st0 pe0 ts0 ps0 a0 b0 d0 hg0
    simp only [Option.some.injEq, Prod.mk.injEq] at h0
    obtain ⟨rfl, rfl, rfl⟩ := h0
    simp at hs2R
    obtain ⟨L0, q0, k1, k2, k3, k4, k5, k6, k7, k8, k9, _⟩ := h.loop hg0 hp0
    obtain ⟨b1, b2⟩ := h.new (R := R) (by omega) (.loop .ready .normal ts params asg bd d0) (.loop { state := .ready, pending := none, fn, tmps := a.tmps, params := ps, assign, body, defers := L0.defers }) 0 w.drawn
      ⟨_, q0, World.push_new _ _ _, rfl, rfl, ht.mono (h.le_add (by omega) _), hps, hpa, hpb, h.le_add (by omega) _ _ _ k8, k9, by rw [hN]; exact ok1, by rw [hN]; exact ok2, by rw [hN]; exact ok3⟩
    refine fin _ _ (w.heap.size, 0) [] fn b1 b2 ?_ (hd.mono b2.le) ⟨p0, b2.le _ _ hp0, hF0⟩ ?_
    · simp [Place.add]
    · subst hF0
      exact run_enterLoop_inner k1 fn a.tmps ps assign body

theorem exStep_sound {e : Eng} (hE : EngOk P e) (hm : P.follows .mixedOrders = true) {ro : Option Nat} {pc : PC} {ts ts' : Tr AV} {ds ds' : List Nat} {s s' : St} {x : AExit} (hx : exStep e ro pc ts ds s = some (x, ts', ds', s'))
    {R : Nat} (hR : s'.next ≤ R) {μ : Place} {w : World} (h : HR P R μ s w) {c : Code} {N : Nat} (hp : prepC P c = some pc) (hok : okPC N pc = true) {a : Act} (ht : TR μ ts a.tmps) (hN : a.tmps.size = N) (hd : DR μ ds a.defers) {F : Fence} (hF : FenceOk μ ro F) (n : Nat) :
    c.wpIn F n P (Left P R μ s w N x ts' ds' s') a w := by
  cases c with
  | skip =>
    cases hp; cases hx
    exact wpIn_skip ⟨rfl, μ, ht, hN, hd, h, Mv.refl h hR⟩
  | region id ops draw =>
    simp only [prepC] at hp
    split at hp
    case h_1 => cases hp
    rename_i ps hps
    split at hp
    · rename_i hdr
      split at hp
      case isFalse => cases hp
      rename_i hck
      cases hp
      simp only [Bool.and_eq_true] at hck
      obtain ⟨⟨⟨⟨h1, h2⟩, h3⟩, h4⟩, h5⟩ := hck
      simp only [exStep] at hx
      split at hx
      case h_2 => cases hx
      rename_i ts1 s1 snaps hrun
      split at hx
      case isFalse => cases hx
      rename_i hlook
      cases hx
      subst hdr
      exact drawn_wpIn hE hm hps h1 h2 h3 h4 h5 hok hrun hlook hR h ht hN hd hF fun ν a' w' g1 g2 g3 g4 g5 => ⟨rfl, ν, g1, g2, g3, g4, g5⟩
    · rename_i hdr
      cases hp
      simp only [exStep] at hx
      split at hx
      case h_2 => cases hx
      rename_i ts1 s1 hrun
      cases hx
      have hdr' : draw = false := by simpa using hdr
      subst hdr'
      refine wpIn_region ?_
      have := ops_wpIn hE (ops := ops) (n := n) (Q := Left P R μ s w N .normal ts' ds s') ops.toList ps 0 a ts s w μ hps (fun i => by simp) hrun hR h ht hN hok hd hF fun ν a' w' g1 g2 g3 g4 g5 => ⟨rfl, ν, g1, g2, g3, g4, g5⟩
      rw [List.range_eq_range']
      simpa using this
  | seq c1 c2 =>
    simp only [prepC] at hp
    split at hp
    case h_1 => cases hp
    rename_i p1 hp1
    split at hp
    case h_1 => cases hp
    rename_i p2 hp2
    cases hp
    simp only [okPC, Bool.and_eq_true] at hok
    simp only [exStep] at hx
    split at hx
    · rename_i ts1 ds1 s1 h1
      have n2 := hE.next.ex hx
      refine wpIn_seq (wpIn_mono (hE.ex h1 (R := R) (by omega) h hp1 hok.1 ht hN hd hF n) ?_)
      rintro ex a1 w1 ⟨rfl, ν, g1, g2, g3, g4, g5⟩
      exact wpIn_mono (hE.ex hx hR g4 hp2 hok.2 g1 g2 g3 (hF.mono g5.le) n) fun _ _ _ hl => hl.trans g5
    · rename_i hne
      refine wpIn_seq (wpIn_mono (hE.ex hx hR h hp1 hok.1 ht hN hd hF n) ?_)
      rintro ex a1 w1 hl
      have : ex ≠ .normal := by
        rw [hl.1]
        intro he
        cases x with
        | normal => exact hne _ _ _ hx
        | exit id => cases he
        | ret => cases he
      cases ex with
      | normal => exact absurd rfl this
      | _ => exact hl
  | cond c0 c1 c2 =>
    simp only [prepC] at hp
    split at hp
    case h_1 => cases hp
    rename_i z hz
    split at hp
    case h_1 => cases hp
    rename_i p1 hp1
    split at hp
    case h_1 => cases hp
    rename_i p2 hp2
    cases hp
    simp only [okPC, Bool.and_eq_true] at hok
    simp only [exStep] at hx
    split at hx
    · rename_i hv
      have := evR_of ht _ _ _ hz hv
      simp only [conc, Option.some.injEq] at this
      exact wpIn_cond (t := true) this.symm (hE.ex hx hR h hp1 hok.1 ht hN hd hF n)
    · rename_i hv
      have := evR_of ht _ _ _ hz hv
      simp only [conc, Option.some.injEq] at this
      exact wpIn_cond (t := false) this.symm (hE.ex hx hR h hp2 hok.2 ht hN hd hF n)
    · cases hx
  | block id c1 =>
    simp only [prepC] at hp
    split at hp
    case h_1 => cases hp
    rename_i p1 hp1
    cases hp
    simp only [exStep] at hx
    split at hx
    · rename_i id' ts1 ds1 s1 h1
      cases hx
      refine wpIn_block (wpIn_mono (hE.ex h1 hR h hp1 hok ht hN hd hF n) ?_)
      rintro ex a1 w1 ⟨rfl, hl⟩
      simp only [exitOf, Exit.inBlock]
      by_cases hid : id' = id
      · rw [if_pos hid, if_pos hid]; exact ⟨rfl, hl⟩
      · rw [if_neg hid, if_neg hid]; exact ⟨rfl, hl⟩
    · rename_i hne
      refine wpIn_block (wpIn_mono (hE.ex hx hR h hp1 hok ht hN hd hF n) ?_)
      rintro ex a1 w1 hl
      cases x with
      | normal => rw [hl.1]; rw [hl.1] at hl; exact hl
      | exit id => exact absurd hx (hne _ _ _ _)
      | ret => rw [hl.1]; rw [hl.1] at hl; exact hl
  | loop c1 =>
    simp only [prepC] at hp
    split at hp
    case h_1 => cases hp
    rename_i p1 hp1
    cases hp
    refine LoopIn.wpIn (LoopIn.step ?_)
    simp only [exStep] at hx
    split at hx
    · rename_i ts1 ds1 s1 h1
      have n2 := hE.next.ex hx
      refine wpIn_mono (hE.ex h1 (R := R) (by omega) h hp1 hok ht hN hd hF n) ?_
      rintro ex a1 w1 ⟨rfl, ν, g1, g2, g3, g4, g5⟩
      exact (hE.loop hx hR g4 hp1 hok g1 g2 g3 (hF.mono g5.le) n).mono fun _ _ _ hl => hl.trans g5
    · rename_i hne
      refine wpIn_mono (hE.ex hx hR h hp1 hok ht hN hd hF n) ?_
      rintro ex a1 w1 hl
      have : ex ≠ .normal := by
        rw [hl.1]
        intro he
        cases x with
        | normal => exact hne _ _ _ hx
        | exit id => cases he
        | ret => cases he
      cases ex with
      | normal => exact absurd rfl this
      | _ => exact hl
  | rangeFunc f ps c1 c2 =>
    simp only [prepC] at hp
    split at hp
    case h_1 => cases hp
    rename_i z hz
    split at hp
    case h_1 => cases hp
    rename_i p1 hp1
    split at hp
    case h_1 => cases hp
    rename_i p2 hp2
    cases hp
    simp only [okPC, Bool.and_eq_true] at hok
    simp only [exStep] at hx
    split at hx
    case h_2 => cases hx
    rename_i fv hv
    exact rangeA_sound hE hx hR h rfl hp1 hp2 hok.1.1 hok.1.2 hok.2 ht hN hd hF (evR_of ht _ _ _ hz hv) n
  | exit id =>
    cases hp; cases hx
    exact wpIn_exit ⟨rfl, μ, ht, hN, hd, h, Mv.refl h hR⟩
  | ret =>
    cases hp; cases hx
    exact wpIn_ret ⟨rfl, μ, ht, hN, hd, h, Mv.refl h hR⟩
  | _ => simp only [prepC] at hp; cases hp

theorem loop_sound {e : Eng} (hE : EngOk P e) {ro : Option Nat} {pc : PC} {ts ts' : Tr AV} {ds ds' : List Nat} {s s' : St} {x : AExit} (hx : exStep e ro (.loop pc) ts ds s = some (x, ts', ds', s'))
    {R : Nat} (hR : s'.next ≤ R) {μ : Place} {w : World} (h : HR P R μ s w) {c : Code} {N : Nat} (hp1 : prepC P c = some pc) (hok : okPC N pc = true) {a : Act} (ht : TR μ ts a.tmps) (hN : a.tmps.size = N) (hd : DR μ ds a.defers) {F : Fence} (hF : FenceOk μ ro F) (n : Nat) :
    LoopIn F n P c (Left P R μ s w N x ts' ds' s') a w := by
  refine LoopIn.step ?_
  simp only [exStep] at hx
  split at hx
  · rename_i ts1 ds1 s1 h1
    have n2 := hE.next.ex hx
    refine wpIn_mono (hE.ex h1 (R := R) (by omega) h hp1 hok ht hN hd hF n) ?_
    rintro ex a1 w1 ⟨rfl, ν, g1, g2, g3, g4, g5⟩
    exact (hE.loop hx hR g4 hp1 hok g1 g2 g3 (hF.mono g5.le) n).mono fun _ _ _ hl => hl.trans g5
  · rename_i hne
    refine wpIn_mono (hE.ex hx hR h hp1 hok ht hN hd hF n) ?_
    rintro ex a1 w1 hl
    have : ex ≠ .normal := by
      rw [hl.1]
      intro he
      cases x with
      | normal => exact hne _ _ _ hx
      | exit id => cases he
      | ret => cases he
    cases ex with
    | normal => exact absurd rfl this
    | _ => exact hl
end Go.Proofs.YteiiblpnegjjlaaGreat.D
namespace Go.Proofs.YteiiblpnegjjlaaGreat.D
variable {P : Program}

theorem prepF_spec {fn : Func} {fd : FD} (h : prepF P fn = some fd) : ∃ c, fn.body = some c ∧ prepC P c = some fd.body ∧ prepRess P fn.results.toList = some fd.results ∧ (fn.name == "runtime.NumGoroutine") = false ∧
    okPC fn.ntmps fd.body = true ∧ fd.ntmps = fn.ntmps := by
  unfold prepF at h
  split at h
  case h_1 => cases h
  rename_i c hc
  split at h
  case h_1 => cases h
  rename_i b hb
  split at h
  case h_1 => cases h
  rename_i r hr
  split at h
  case isTrue => cases h
  rename_i hcond
  cases h
  simp only [Bool.or_eq_true, not_or, Bool.not_eq_true, Bool.not_eq_eq_eq_not, Bool.not_true] at hcond
  obtain ⟨h1, h2⟩ := hcond
  exact ⟨c, hc, hb, hr, h1, by simpa using h2, rfl⟩

theorem initT_get : ∀ (l : List AV) (i : Nat) (ts : Tr AV) (t : Nat), (initT i l ts).get t = if i ≤ t ∧ t < i + l.length then l[t - i]? else ts.get t
  | [], i, ts, t => by simp only [initT, List.length_nil, Nat.add_zero]; rw [if_neg (by omega)]
  | v :: l, i, ts, t => by
    simp only [initT]
    rw [initT_get l (i + 1)]
    simp only [List.length_cons]
    by_cases h1 : i + 1 ≤ t ∧ t < i + 1 + l.length
    · rw [if_pos h1, if_pos (by omega), show t - i = (t - (i + 1)) + 1 by omega, List.getElem?_cons_succ]
    · rw [if_neg h1, Tr.get_set]
      by_cases h2 : t = i
      · subst h2
        rw [if_pos rfl, if_pos (by omega)]; simp
      · rw [if_neg h2, if_neg (by omega)]

theorem TR.init {μ : Place} {args : List AV} {cs : List Value} (h : concs μ args = some cs) (n : Nat) : TR μ (initT 0 args .lf) (cs.toArray ++ Array.replicate n undef) := by
  intro t v hv
  rw [initT_get] at hv
  have hl := concs_length h
  by_cases h1 : 0 ≤ t ∧ t < 0 + args.length
  · rw [if_pos h1, Nat.sub_zero] at hv
    obtain ⟨x, hx, hc⟩ := concs_get h t v hv
    refine ⟨x, ?_, hc⟩
    rw [Array.getElem?_append_left (by simp; omega)]
    simpa using hx
  · rw [if_neg h1] at hv
    rw [Tr.get_lf] at hv; cases hv

def resOne (tmps : Array Value) : ResultVar → Sem Value
  | .tmp t => pure (tmps.getD t undef)
  | .cell a t => do loadVar t (← asAddr (tmps.getD a undef))

theorem run_res {R : Nat} {μ : Place} {s : St} {w : World} (h : HR P R μ s w) {ts : Tr AV} {tmps : Array Value} (ht : TR μ ts tmps) : ∀ {rs : List ResultVar} {ps : List PRes} {l : List AV}, prepRess P rs = some ps → ressA ts s ps = some l →
    ∃ cs, (rs.mapM (resOne tmps)).run P w = .ok cs w ∧ concs μ l = some cs
  | [], ps, l, hp, hl => by
    cases hp; cases hl
    exact ⟨[], by simp, rfl⟩
  | r :: rs, ps, l, hp, hl => by
    simp only [prepRess] at hp
    split at hp
    case h_2 => cases hp
    rename_i x hx
    split at hp
    case h_2 => cases hp
    rename_i y hy
    cases hp
    simp only [ressA] at hl
    split at hl
    case h_1 => cases hl
    rename_i v hv
    split at hl
    case h_1 => cases hl
    rename_i vs hvs
    cases hl
    obtain ⟨cs, h1, h2⟩ := run_res h ht hy hvs
    have one : ∃ c, (resOne tmps r).run P w = .ok c w ∧ conc μ v = some c := by
      cases r with
      | tmp t =>
        simp only [prepRes, Option.some.injEq] at hx
        subst hx
        obtain ⟨c, g1, g2⟩ := ht t v hv
        refine ⟨c, ?_, g2⟩
        simp [resOne, g1]
      | cell a t =>
        simp only [prepRes] at hx
        split at hx
        case h_3 => cases hx
        · rename_i n hag hsz
          cases hx
          simp only [resA] at hv
          split at hv
          case h_2 => cases hv
          rename_i b o htb
          split at hv
          case h_2 => cases hv
          rename_i l' hl'
          cases hv
          obtain ⟨c, g1, g2⟩ := ht a _ htb
          obtain ⟨p, hp, rfl⟩ := isSome_of_conc_ptr g2
          obtain ⟨xs, k1, k2, k3⟩ := run_loadA (P := P) h hl' hp
          refine ⟨.agg xs.toArray, ?_, by simp [conc, k1]⟩
          have hg : tmps.getD a undef = .pointer (some ⟨p.1, o, none⟩) := by simp [g1]
          simp [resOne, hg, asAddr, loadVar, run_isAgg hag, run_size hsz, k3]
        · rename_i hag
          cases hx
          simp only [resA] at hv
          split at hv
          case h_2 => cases hv
          rename_i b o htb
          split at hv
          case h_2 => cases hv
          rename_i vs' _ _ _ hg
          obtain ⟨c, g1, g2⟩ := ht a _ htb
          obtain ⟨p, hp, rfl⟩ := isSome_of_conc_ptr g2
          obtain ⟨x, k1, k2⟩ := h.cell hg hp hv
          refine ⟨x, ?_, k2⟩
          have hg : tmps.getD a undef = .pointer (some ⟨p.1, o, none⟩) := by simp [g1]
          simp [resOne, hg, asAddr, loadVar, run_isAgg hag, run_load, k1]
    obtain ⟨c, g1, g2⟩ := one
    refine ⟨c :: cs, ?_, by simp [concs, g2, h2]⟩
    rw [List.mapM_cons, Sem.run_bind, g1, Result.andThen_ok, Sem.run_bind, h1, Result.andThen_ok, Sem.run_pure]

theorem run_results {R : Nat} {μ : Place} {s : St} {w : World} (h : HR P R μ s w) {fn : Func} {ts : Tr AV} {tmps : Array Value} (ht : TR μ ts tmps) {ps : List PRes} {l : List AV} (hp : prepRess P fn.results.toList = some ps) (hl : ressA ts s ps = some l) :
    ∃ c, (results fn tmps).run P w = .ok c w ∧ conc μ (oneA l) = some c := by
  obtain ⟨cs, h1, h2⟩ := run_res h ht hp hl
  have hlen := concs_length h2
  have er : results fn tmps = (do let vs ← fn.results.mapM (resOne tmps); pure (if h : vs.size = 1 then vs[0] else .tuple vs)) := by
    unfold results
    rfl
  rw [er, Array.mapM_eq_mapM_toList, Sem.run_bind, Sem.run_map]
  rw [h1]
  refine ⟨if h : cs.toArray.size = 1 then cs.toArray[0] else .tuple cs.toArray, rfl, ?_⟩
  match l, cs, h2, hlen with
  | [], [], _, _ => simp [oneA, conc, concs]
  | [v], [c], h2, _ =>
    simp only [concs, Option.bind_eq_some_iff, Option.map_eq_some_iff, Option.some.injEq] at h2
    obtain ⟨x, hx, y, rfl, e⟩ := h2
    cases e
    simpa [oneA] using hx
  | v :: u :: l, c :: d :: cs, h2, _ =>
    simp [oneA, conc, h2]
  | [], _ :: _, _, h => simp at h
  | [_], [], _, h => simp at h
  | [_], _ :: _ :: _, _, h => simp at h
  | _ :: _ :: _, [], _, h => simp at h
  | _ :: _ :: _, [_], _, h => simp at h

theorem leaves_sound {fn : Func} {tmps : Array Value} {n : Nat} {Rp : Ending → World → Prop} {R : Nat} : ∀ {ds : List Nat} {defers : List Deferred} {s s' : St} {w : World} {μ : Place}, takeAll ds s = some s' → s.next ≤ R → HR P R μ s w → DR μ ds defers →
    (∀ w', HR P R μ s' w' → Mv μ s w μ s' w' → ∃ v, (results fn tmps).run P w' = .ok v w' ∧ Rp (.returned v) w') → LeavesInM Fence.wide n P fn tmps Rp defers .returning w
  | [], [], s, s', w, μ, hx, hR, h, _, hf => by
    cases hx
    exact hf w h (Mv.refl h hR)
  | [], _ :: _, _, _, _, _, _, _, _, hd, _ => hd.elim
  | _ :: _, [], _, _, _, _, _, _, _, hd, _ => hd.elim
  | d :: ds, x :: xs, s, s', w, μ, hx, hR, h, hd, hf => by
    simp only [takeAll] at hx
    split at hx
    case h_2 => cases hx
    rename_i hg
    obtain ⟨⟨p, hp, rfl⟩, hd'⟩ := hd
    obtain ⟨p', hp', ho⟩ := h.obj _ _ hg
    rw [hp] at hp'; cases hp'
    have hob : w.heap[p.1]? = some (.deferred (some [])) := ho
    obtain ⟨g1, g2⟩ := h.shut (w' := w.putObj p.1 (.deferred none)) hR hg hp (by simp) rfl rfl ⟨rfl, fun _ => Nat.le_refl _⟩ (by simp) (fun k hk => World.putObj_heap_other hk)
    refine ⟨by simp, .inl ⟨p.1, _, rfl, run_takeDeferred hob, leaves_sound hx hR g1 hd' ?_⟩⟩
    intro w' k1 k2
    exact hf w' k1 (g2.trans k2)

/-- What is known of functions by their contracts holds. -/
def SumsOk (P : Program) (SM : Sums) : Prop := ∀ f g, SM f = some g → ∀ {args s v s' R μ w cargs}, g args s = some (v, s') → s'.next ≤ R → HR P R μ s w → concs μ args = some cargs →
    (∃ fn, P.funcs[f]? = some fn ∧ fn.body.isNone = false ∧ (fn.name == "runtime.NumGoroutine") = false) ∧ ∀ n, CallsIn Fence.wide n P f cargs.toArray w (Rets P R μ s w v s')

def FnsOk (P : Program) (FT : Fns) : Prop := ∀ f fd, FT f = some fd → ∃ fn, P.funcs[f]? = some fn ∧ prepF P fn = some fd

theorem callStep_sound {FT : Fns} {SM : Sums} (hFT : FnsOk P FT) (hSM : SumsOk P SM) {e : Eng} (hE : EngOk P e) {f : Nat} {args : List AV} {s s' : St} {v : AV} (hx : callStep FT SM e f args s = some (v, s')) {R : Nat} (hR : s'.next ≤ R) {μ : Place} {w : World} (h : HR P R μ s w)
    {cargs : List Value} (hc : concs μ args = some cargs) :
    (∃ fn, P.funcs[f]? = some fn ∧ fn.body.isNone = false ∧ (fn.name == "runtime.NumGoroutine") = false) ∧ ∀ n, CallsIn Fence.wide n P f cargs.toArray w (Rets P R μ s w v s') := by
  unfold callStep at hx
  split at hx
  · exact hSM _ _ (by assumption) hx hR h hc
  · split at hx
    case h_1 => cases hx
    rename_i fd hfd
    obtain ⟨fn, hf, hp⟩ := hFT _ _ hfd
    obtain ⟨c, hb, hpc, hpr, hname, hok, hnp⟩ := prepF_spec hp
    split at hx
    case isFalse => cases hx
    rename_i hlen
    refine ⟨⟨fn, hf, by rw [hb]; rfl, hname⟩, fun n => ?_⟩
    unfold finish at hx
    split at hx
    case h_1 => cases hx
    case h_3 => cases hx
    rename_i x ts ds s1 hne hrun
    split at hx
    case h_1 => cases hx
    rename_i s2 htk
    split at hx
    case h_1 => cases hx
    rename_i l hl
    cases hx
    have hn := takeAll_next htk
    have hcl := concs_length hc
    have hle := Nat.le_of_ble_eq_true hlen
    have hsz : (cargs.toArray ++ Array.replicate (fn.ntmps - cargs.toArray.size) undef).size = fn.ntmps := by
      simp; omega
    refine callsIn_of_wp_marks hf hb trivial ?_
    refine wpIn_mono (hE.ex (R := R) (N := fn.ntmps) (a := { tmps := _, defers := [] }) (F := Fence.wide) hrun (by omega) h hpc hok (TR.init hc _) hsz (show DR μ [] ([] : List Deferred) from trivial) rfl n) ?_
    rintro ex a1 w1 ⟨rfl, ν, g1, g2, g3, g4, g5⟩
    have leave : LeavesInM Fence.wide n P fn a1.tmps (Rets P R μ s w (oneA l) s') a1.defers .returning w1 := by
      refine leaves_sound htk (by omega) g4 g3 fun w' k1 k2 => ?_
      obtain ⟨cv, r1, r2⟩ := run_results k1 g1 hpr hl
      exact ⟨cv, r1, ν, r2, k1, g5.trans k2⟩
    cases x with
    | normal => exact leave
    | ret => exact leave
    | exit id => exact (hne _ rfl).elim

theorem eng_sound {FT : Fns} {SM : Sums} (hm : P.follows .mixedOrders = true) (hFT : FnsOk P FT) (hSM : SumsOk P SM) (hSN : SumsNext SM) : ∀ n, EngOk P (eng FT SM n)
  | 0 => ⟨eng_next hSN 0, fun h => (by cases h), fun h => (by cases h), fun h => (by cases h)⟩
  | n + 1 => ⟨eng_next hSN (n + 1), fun h hR hr hc => callStep_sound hFT hSM (eng_sound hm hFT hSM hSN n) h hR hr hc,
      fun h hR hr hp hok ht hN hd hF k => exStep_sound (eng_sound hm hFT hSM hSN n) hm h hR hr hp hok ht hN hd hF k,
      fun h hR hr hp hok ht hN hd hF k => loop_sound (eng_sound hm hFT hSM hSN n) h hR hr hp hok ht hN hd hF k⟩

theorem noSums_ok : SumsOk P noSums := fun _ _ h => by cases h
theorem noSums_next : SumsNext noSums := fun _ _ _ _ _ _ h => by cases h
end Go.Proofs.YteiiblpnegjjlaaGreat.D
namespace Go.Proofs.YteiiblpnegjjlaaGreat.D
noncomputable section
open Go.RowKit
variable {P : Program}

def FTof (P : Program) : Fns := fun f => match P.funcs[f]? with
  | some fn => prepF P fn
  | none => none

theorem FTof_ok : FnsOk P (FTof P) := by
  intro f fd h
  unfold FTof at h
  split at h
  · rename_i fn hfn
    exact ⟨fn, hfn, h⟩
  · cases h

theorem fnsOk_lf : FnsOk P (Tr.lf : Tr FD).get := fun f fd h => by rw [Tr.get_lf] at h; cases h

theorem FnsOk.set {t : Tr FD} (h : FnsOk P t.get) {k : Nat} {fn : Func} {fd : FD} (hf : P.funcs[k]? = some fn) (hp : prepF P fn = some fd) : FnsOk P (t.set k fd).get := by
  intro f fd' hx
  rw [Tr.get_set] at hx
  by_cases e : f = k
  · rw [if_pos e] at hx; cases hx
    exact ⟨fn, by rw [e]; exact hf, hp⟩
  · rw [if_neg e] at hx; exact h f fd' hx

theorem St.get_empty (b : Nat) : St.empty.get b = none := by
  rfl

theorem HR.empty (R : Nat) (w : World) : HR P R (fun _ => none) St.empty w :=
  ⟨fun b o h => (by rw [St.get_empty] at h; cases h), fun b c o o' p q h => (by rw [St.get_empty] at h; cases h), fun b p h => (by cases h), fun b o h => (by rw [St.get_empty] at h; cases h)⟩

theorem Mv.below {s s' : St} {w w' : World} {ν : Place} (h : Mv (fun _ => none) s w ν s' w') : Below w.heap.size w w' :=
  ⟨h.os, h.tape.eq, h.output, h.size, fun k hk => h.frame k hk fun _ _ _ e => by cases e⟩

theorem isTrue_some {x : Option (AV × St)} (h : isTrue x = true) : ∃ s, x = some (.bool true, s) := by
  unfold isTrue at h
  split at h
  · exact ⟨_, rfl⟩
  · cases h

/-- A call that asks nothing of memory answers true, and what lay lies as it lay. -/
theorem callsIn_closed {SM : Sums} (hm : P.follows .mixedOrders = true) (hSM : SumsOk P SM) (hSN : SumsNext SM) {FT : Fns} (hFT : FnsOk P FT) {fuel f : Nat} (h : isTrue ((eng FT SM fuel).call f [] St.empty) = true) (w : World) :
    Calls P f #[] w fun e w' => e = .returned (.bool true) ∧ Below w.heap.size w w' := by
  obtain ⟨s', hs⟩ := isTrue_some h
  have := ((eng_sound hm hFT hSM hSN fuel).call hs (Nat.le_refl _) (HR.empty s'.next w) (show concs _ [] = some [] from rfl)).2 0
  refine callsIn_wide.1 (this.mono ?_)
  intro e w' hr
  cases e with
  | returned c =>
    obtain ⟨ν, h1, _, h3⟩ := hr
    simp only [conc, Option.some.injEq] at h1
    subst h1
    exact ⟨rfl, h3.below⟩
  | panicked _ => exact hr.elim
  | outgrown => exact hr.elim

section post
variable {H : Type} {enc : TypeId × Value → H}
theorem post_below {f : Func} {s : ChangeSpec} {apart fresh handsOn again : Bool} {W W' : World} {args : Array Value} {v : Value} {ds gs : List (DataW H)} {before pa pv : List MemPlace}
    (hW : DataW.Whole enc P f.params.toList s.vars apart W args.toList ds gs before)
    (hres : ∀ (b : Nat) (sp : Nat → Bool) (hd : Bool), DataW.TrodAll enc P W' b sp hd f.resultTypes.toList (v.resultList f.resultTypes.size) (s.fn H (ds ++ gs)).results [])
    (hargs : ∀ sp : Nat → Bool, (∀ p ∈ before, sp p.block = true) → DataW.TrodAll enc P W' 0 sp true f.params.toList args.toList (s.fn H (ds ++ gs)).args pa)
    (hvars : ∀ sp : Nat → Bool, (∀ p ∈ before, sp p.block = true) → DataW.TrodVars enc P W' sp s.vars (s.fn H (ds ++ gs)).vars pv)
    (hps : before = pa ++ pv) (hb : Below W.heap.size W W')
    (hok : ∀ (j : Nat) (t : TypeId) (r : Value), f.resultTypes[j]? = some t → (v.resultList f.resultTypes.size)[j]? = some r → Value.okWide P W' .any 0 t r) :
    s.post enc P f apart fresh handsOn again W args v W' := by
  have hlt : ∀ p ∈ before, p.block < W.heap.size := fun p hp => hW.lt p hp
  have hold : ∀ p ∈ before, (fun b => decide (b < W.heap.size)) p.block = true := fun p hp => by simpa using hlt p hp
  refine ⟨ds, gs, before, [], pa, pv, hW, hres _ _ _, hargs _ hold, hvars _ hold, hb.frame _, fun _ => ?_⟩
  obtain ⟨_, _, _, _, _, hz, hn⟩ := hW
  refine ⟨hok, _, _, ([] ++ pa) ++ pv, ⟨[] ++ pa, pv, ChangeShapes.trodAll_append (hargs _ (fun _ _ => rfl)) (hres _ _ _), hvars _ (fun _ _ => rfl), rfl, ?_, ?_⟩, ?_⟩
  · intro b off hp
    have hp' : MemPlace.cell b off ∈ before := by rw [hps]; simpa using hp
    rw [hb.frozen (p := ⟨b, off, none⟩) (hlt _ hp')]
    exact hz b off hp'
  · intro ha
    have := hn ha
    rw [hps] at this
    simpa using this
  · intro p hp _
    rw [hps]
    simpa using hp
end post
end
end Go.Proofs.YteiiblpnegjjlaaGreat.D
namespace Go.Proofs.YteiiblpnegjjlaaGreat.D
noncomputable section
open Go.RowKit
variable {P : Program}

theorem addSum_ne {SM : Sums} {f k : Nat} {g : List AV → St → Option (AV × St)} (h : k ≠ f) : addSum SM f g k = SM k := if_neg h
theorem addSum_eq {SM : Sums} {f : Nat} {g : List AV → St → Option (AV × St)} : addSum SM f g f = some g := if_pos rfl

theorem HR.below {R : Nat} {μ : Place} {s : St} {w w' : World} (h : HR P R μ s w) (hb : Below w.heap.size w w') : HR P R μ s w' where
  obj b o hg := by
    obtain ⟨p, hp, ho⟩ := h.obj b o hg
    exact ⟨p, hp, OR.mono (Place.le_refl _) (hb.block p.1 (h.lt b p hp).1) ho⟩
  inj := h.inj
  lt b p hp := ⟨Nat.lt_of_lt_of_le (h.lt b p hp).1 hb.size, (h.lt b p hp).2⟩
  dom := h.dom

theorem Mv.of_below {R : Nat} {μ : Place} {s : St} {w w' : World} (h : HR P R μ s w) (hR : s.next ≤ R) (hb : Below w.heap.size w w') (ht : TapeLe w w') : Mv μ s w μ s w' where
  le := Place.le_refl μ
  os := hb.os
  output := hb.output
  tape := ht
  size := hb.size
  next := Nat.le_refl _
  res b p hp := (h.lt b p hp).2.imp id (Nat.le_trans hR)
  fresh _ _ hp := .inl hp
  frame k hk _ := hb.block k hk
  ro _ _ _ _ p hg hp := ⟨hg, hb.block _ (h.lt _ p hp).1⟩

theorem sumsOk_add {SM SM0 : Sums} (hm : P.follows .mixedOrders = true) {FT : Fns} (hFT : FnsOk P FT) (h0 : SumsOk P SM0) (n0 : SumsNext SM0) {fuel f : Nat} (h : isTrue ((eng FT SM0 fuel).call f [] St.empty) = true) (hSM : SumsOk P SM) :
    SumsOk P (addSum SM f aliveSum) := by
  intro k g hk args s v s' R μ w cargs hx hR hr hc
  unfold addSum at hk
  split at hk
  · rename_i e
    subst e
    cases hk
    cases args with
    | cons => cases hx
    | nil =>
      cases hx
      cases cargs with
      | cons _ _ => simp [concs] at hc
      | nil =>
      obtain ⟨s1, hs⟩ := isTrue_some h
      have key := (eng_sound hm hFT h0 n0 fuel).call hs (Nat.le_refl _) (HR.empty s1.next w) (show concs _ [] = some [] from rfl)
      refine ⟨key.1, fun n => (key.2 n).mono ?_⟩
      intro e w' he
      cases e with
      | returned c =>
        obtain ⟨ν, h1, _, h3⟩ := he
        simp only [conc, Option.some.injEq] at h1
        subst h1
        have hb := h3.below
        exact ⟨μ, rfl, hr.below hb, Mv.of_below hr hR hb h3.tape⟩
      | panicked _ => exact he.elim
      | outgrown => exact he.elim
  · exact hSM k g hk hx hR hr hc

theorem sumsNext_add {SM : Sums} (hSN : SumsNext SM) (f : Nat) : SumsNext (addSum SM f aliveSum) := by
  intro k g args s v s' hk hx
  unfold addSum at hk
  split at hk
  · cases hk
    cases args with
    | cons => cases hx
    | nil => cases hx; exact Nat.le_refl _
  · exact hSN k g args s v s' hk hx
end
end Go.Proofs.YteiiblpnegjjlaaGreat.D
namespace Go.Proofs.YteiiblpnegjjlaaGreat.D
noncomputable section

/-- What one answers, another one answers. -/
def OLe {α : Type} (a b : Option α) : Prop := ∀ r, a = some r → b = some r
structure Eng.le (e e' : Eng) : Prop where
  call : ∀ f a s, OLe (e.call f a s) (e'.call f a s)
  ex : ∀ ro c ts ds s, OLe (e.ex ro c ts ds s) (e'.ex ro c ts ds s)

theorem Eng.le_refl (e : Eng) : e.le e := ⟨fun _ _ _ _ h => h, fun _ _ _ _ _ _ h => h⟩
theorem Eng.le_trans {a b c : Eng} (h : a.le b) (k : b.le c) : a.le c := ⟨fun f x s r e => k.call f x s r (h.call f x s r e), fun ro x ts ds s r e => k.ex ro x ts ds s r (h.ex ro x ts ds s r e)⟩

structure Sup (E : Nat → Eng) (L : Eng) : Prop where
  up : ∀ n, (E n).le (E (n + 1))
  le : ∀ n, (E n).le L
  call : ∀ f a s r, L.call f a s = some r → ∃ n, (E n).call f a s = some r
  ex : ∀ ro c ts ds s r, L.ex ro c ts ds s = some r → ∃ n, (E n).ex ro c ts ds s = some r

theorem Sup.mono {E : Nat → Eng} {L : Eng} (h : Sup E L) {n m : Nat} (k : n ≤ m) : (E n).le (E m) := by
  induction m with
  | zero => cases Nat.le_zero.1 k; exact Eng.le_refl _
  | succ m ih =>
    by_cases e : n = m + 1
    · subst e; exact Eng.le_refl _
    · exact Eng.le_trans (ih (by omega)) (h.up m)

/-- What a step asks of the machine it asks finitely often. -/
structure Cont {α : Type} (a : Eng → Option α) : Prop where
  mono : ∀ e e', e.le e' → OLe (a e) (a e')
  fin : ∀ E L, Sup E L → ∀ r, a L = some r → ∃ n, a (E n) = some r

section
variable {α β : Type}
theorem Cont.const (x : Option α) : Cont fun _ => x := ⟨fun _ _ _ _ h => h, fun _ _ _ _ h => ⟨0, h⟩⟩
theorem Cont.call (f : Nat) (a : List AV) (s : St) : Cont fun e => e.call f a s := ⟨fun _ _ h => h.call f a s, fun _ _ h r e => h.call f a s r e⟩
theorem Cont.ex (ro : Option Nat) (c : PC) (ts : Tr AV) (ds : List Nat) (s : St) : Cont fun e => e.ex ro c ts ds s := ⟨fun _ _ h => h.ex ro c ts ds s, fun _ _ h r e => h.ex ro c ts ds s r e⟩
theorem Cont.bind {f : Eng → Option α} {g : α → Eng → Option β} (hf : Cont f) (hg : ∀ x, Cont (g x)) : Cont fun e => (f e).bind fun x => g x e := by
  refine ⟨fun e e' h r hr => ?_, fun E L h r hr => ?_⟩
  · simp only [Option.bind_eq_some_iff] at hr ⊢
    obtain ⟨x, h1, h2⟩ := hr
    exact ⟨x, hf.mono e e' h x h1, (hg x).mono e e' h r h2⟩
  · simp only [Option.bind_eq_some_iff] at hr ⊢
    obtain ⟨x, h1, h2⟩ := hr
    obtain ⟨n, hn⟩ := hf.fin E L h x h1
    obtain ⟨m, hm⟩ := (hg x).fin E L h r h2
    exact ⟨max n m, x, hf.mono _ _ (h.mono (Nat.le_max_left n m)) x hn, (hg x).mono _ _ (h.mono (Nat.le_max_right n m)) r hm⟩
theorem Cont.of_eq {a b : Eng → Option α} (h : Cont a) (e : ∀ x, b x = a x) : Cont b := by
  have : b = a := funext e
  rw [this]; exact h
end

theorem cont_roundA (r : Nat) (args : List AV) (s : St) : Cont fun e => roundA e r args s := by
  unfold roundA
  split
  · split
    · rename_i ts params assign body _ _ _
      refine (Cont.bind (g := fun y e => match y with
        | (.normal, ts1, [], s1) => match s1.get r with
          | some (.loop .ready pe ts2 ps2 a2 b2 d2) =>
            match e.ex (some r) body ts1 [] (s1.put r (.loop .busy pe ts2 ps2 a2 b2 d2)) with
            | some (x, _, [], s3) => match s3.get r with
              | some (.loop _ _ ts3 ps3 a3 b3 d3) =>
                match x with
                | .normal => some (AV.bool true, s3.put r (.loop .ready .normal ts3 ps3 a3 b3 d3))
                | x => some (.bool false, s3.put r (.loop .done x ts3 ps3 a3 b3 d3))
              | _ => none
            | _ => none
          | _ => none
        | _ => none) (Cont.ex (some r) assign (setTs params args ts) [] s) ?_).of_eq ?_
      · rintro ⟨x, ts1, ds, s1⟩
        split
        · rename_i hy; cases hy
          split
          · rename_i pe ts2 ps2 a2 b2 d2 _
            refine (Cont.bind (g := fun y _ => match y with
              | (x, _, [], s3) => match s3.get r with
                | some (.loop _ _ ts3 ps3 a3 b3 d3) =>
                  match x with
                  | .normal => some (AV.bool true, s3.put r (.loop .ready .normal ts3 ps3 a3 b3 d3))
                  | x => some (.bool false, s3.put r (.loop .done x ts3 ps3 a3 b3 d3))
                | _ => none
              | _ => none) (Cont.ex (some r) body ts1 [] (s1.put r (.loop .busy pe ts2 ps2 a2 b2 d2))) (fun _ => Cont.const _)).of_eq ?_
            intro e
            cases e.ex (some r) body ts1 [] (s1.put r (.loop .busy pe ts2 ps2 a2 b2 d2)) with
            | none => rfl
            | some y => obtain ⟨x, t, ds, s3⟩ := y; cases ds <;> rfl
          · exact Cont.const _
        · exact Cont.const _
      · intro e
        cases e.ex (some r) assign (setTs params args ts) [] s with
        | none => rfl
        | some y => obtain ⟨x, t, ds, s3⟩ := y; cases x <;> cases ds <;> rfl
    · exact Cont.const _
  · exact Cont.const _

theorem cont_callV (f : AV) (args : List AV) (s : St) : Cont fun e => callV e f args s := by
  unfold callV
  split
  · exact Cont.call _ _ _
  · exact cont_roundA _ _ _
  · exact Cont.const _

theorem cont_opVal (p : POp) (ev : Ev) (s : St) : Cont fun e => opVal e p ev s := by
  cases p with
  | call f args =>
    unfold opVal
    dsimp only
    cases ev f with
    | none => exact Cont.const _
    | some fv =>
      cases evs ev args with
      | none => exact Cont.const _
      | some l => exact cont_callV fv l s
  | _ => exact Cont.const _

theorem cont_opStep (p : PO) (ts : Tr AV) (s : St) : Cont fun e => opStep e p ts s := by
  unfold opStep
  cases wantedA p.guard ts with
  | none => exact Cont.const _
  | some b =>
    cases b with
    | false => exact Cont.const _
    | true =>
      refine (Cont.bind (g := fun y _ => some (putT p.dst y.1 ts, y.2)) (cont_opVal p.op (evOf ts) s) (fun _ => Cont.const _)).of_eq ?_
      intro e
      cases opVal e p.op (evOf ts) s <;> rfl

theorem cont_runOps : ∀ (l : List PO) (ts : Tr AV) (s : St), Cont fun e => runOps e l ts s
  | [], _, _ => Cont.const _
  | p :: r, ts, s => by
    refine (Cont.bind (g := fun y e => runOps e r y.1 y.2) (cont_opStep p ts s) (fun y => cont_runOps r y.1 y.2)).of_eq ?_
    intro e
    simp only [runOps]
    cases opStep e p ts s <;> rfl

theorem cont_runSnaps : ∀ (l : List PO) (ts : Tr AV) (s : St) (acc : List St), Cont fun e => runSnaps e l ts s acc
  | [], _, _, _ => Cont.const _
  | p :: r, ts, s, acc => by
    refine (Cont.bind (g := fun y e => runSnaps e r y.1 y.2 (s :: acc)) (cont_opStep p ts s) (fun y => cont_runSnaps r y.1 y.2 _)).of_eq ?_
    intro e
    simp only [runSnaps]
    cases opStep e p ts s <;> rfl

theorem cont_rangeA (ro : Option Nat) (f : AV) (params : List Nat) (assign body : PC) (ts : Tr AV) (ds : List Nat) (s : St) : Cont fun e => rangeA e ro f params assign body ts ds s := by
  unfold rangeA
  split
  · rename_i g first captured
    split
    · exact Cont.const _
    · rename_i l ds' s2 _
      refine (Cont.bind (g := fun y _ => match y.2.get l with
        | some (.loop .busy _ _ _ _ _ _) => none
        | some (.loop _ pend ts2 ps2 a2 b2 d2) => some (pend, ts, ds', y.2.put l (.loop .exhausted pend ts2 ps2 a2 b2 d2))
        | _ => none) (Cont.call g (first ++ [.yld l] ++ captured) s2) (fun _ => Cont.const _)).of_eq ?_
      intro e
      cases e.call g (first ++ [.yld l] ++ captured) s2 <;> rfl
  · exact Cont.const _

theorem cont_exStep (ro : Option Nat) (c : PC) (ts : Tr AV) (ds : List Nat) (s : St) : Cont fun e => exStep e ro c ts ds s := by
  unfold exStep
  cases c with
  | skip => exact Cont.const _
  | region ops =>
    refine (Cont.bind (g := fun y _ => some (AExit.normal, y.1, ds, y.2)) (cont_runOps ops ts s) (fun _ => Cont.const _)).of_eq ?_
    intro e
    dsimp only
    cases runOps e ops ts s <;> rfl
  | drawn ops looks =>
    refine (Cont.bind (g := fun y _ => if looksOk ops y.1 y.2.2.reverse looks then some (AExit.normal, y.1, ds, y.2.1) else none) (cont_runSnaps ops ts s []) (fun _ => Cont.const _)).of_eq ?_
    intro e
    dsimp only
    cases runSnaps e ops ts s [] <;> rfl
  | seq a b =>
    refine (Cont.bind (g := fun y e => match y with
      | (.normal, ts', ds', s') => e.ex ro b ts' ds' s'
      | r => some r) (Cont.ex ro a ts ds s) ?_).of_eq ?_
    · rintro ⟨x, t, d, s'⟩
      cases x with
      | normal => exact Cont.ex _ _ _ _ _
      | _ => exact Cont.const _
    · intro e
      dsimp only
      cases e.ex ro a ts ds s with
      | none => rfl
      | some y => obtain ⟨x, t, d, s'⟩ := y; cases x <;> rfl
  | cond x a b =>
    dsimp only
    split
    · exact Cont.ex _ _ _ _ _
    · exact Cont.ex _ _ _ _ _
    · exact Cont.const _
  | block id a =>
    refine (Cont.bind (g := fun y _ => match y with
      | (.exit id', ts', ds', s') => some (if id' = id then .normal else .exit id', ts', ds', s')
      | r => some r) (Cont.ex ro a ts ds s) (fun _ => Cont.const _)).of_eq ?_
    intro e
    dsimp only
    cases e.ex ro a ts ds s with
    | none => rfl
    | some y => obtain ⟨x, t, d, s'⟩ := y; cases x <;> rfl
  | loop a =>
    refine (Cont.bind (g := fun y e => match y with
      | (.normal, ts', ds', s') => e.ex ro (.loop a) ts' ds' s'
      | r => some r) (Cont.ex ro a ts ds s) ?_).of_eq ?_
    · rintro ⟨x, t, d, s'⟩
      cases x with
      | normal => exact Cont.ex _ _ _ _ _
      | _ => exact Cont.const _
    · intro e
      dsimp only
      cases e.ex ro a ts ds s with
      | none => rfl
      | some y => obtain ⟨x, t, d, s'⟩ := y; cases x <;> rfl
  | rangeF f params assign body =>
    dsimp only
    split
    · exact cont_rangeA _ _ _ _ _ _ _ _
    · exact Cont.const _
  | exit id => exact Cont.const _
  | ret => exact Cont.const _

theorem cont_callStep (FT : Fns) (SM : Sums) (f : Nat) (args : List AV) (s : St) : Cont fun e => callStep FT SM e f args s := by
  unfold callStep
  split
  · exact Cont.const _
  · split
    · exact Cont.const _
    · rename_i fd _
      split
      · refine (Cont.bind (g := fun y _ => finish fd (some y)) (Cont.ex none fd.body (initT 0 args .lf) [] s) (fun _ => Cont.const _)).of_eq ?_
        intro e
        cases e.ex none fd.body (initT 0 args .lf) [] s <;> rfl
      · exact Cont.const _

theorem eng_up_le (FT : Fns) (SM : Sums) : ∀ n, (eng FT SM n).le (eng FT SM (n + 1))
  | 0 => ⟨fun _ _ _ _ h => (by cases h), fun _ _ _ _ _ _ h => (by cases h)⟩
  | n + 1 => ⟨fun f a s => (cont_callStep FT SM f a s).mono _ _ (eng_up_le FT SM n), fun ro c ts ds s => (cont_exStep ro c ts ds s).mono _ _ (eng_up_le FT SM n)⟩

open Classical in
/-- What some answer, if one does. -/
def some1 {α : Type} (a : Nat → Option α) : Option α := if h : ∃ r n, a n = some r then some h.choose else none

theorem some1_of {α : Type} {a : Nat → Option α} (up : ∀ n m, n ≤ m → OLe (a n) (a m)) {n : Nat} {r : α} (h : a n = some r) : some1 a = some r := by
  have hx : ∃ r n, a n = some r := ⟨r, n, h⟩
  unfold some1
  rw [dif_pos hx]
  obtain ⟨m, hm⟩ := hx.choose_spec
  have h1 := up _ _ (Nat.le_max_left n m) r h
  have h2 := up _ _ (Nat.le_max_right n m) _ hm
  rw [h1] at h2; exact h2.symm

theorem of_some1 {α : Type} {a : Nat → Option α} {r : α} (h : some1 a = some r) : ∃ n, a n = some r := by
  unfold some1 at h
  split at h
  · rename_i hx; cases h; exact hx.choose_spec
  · cases h

/-- The machine, with as much at hand as it needs. -/
def lim (FT : Fns) (SM : Sums) : Eng where
  call f a s := some1 fun n => (eng FT SM n).call f a s
  ex ro c ts ds s := some1 fun n => (eng FT SM n).ex ro c ts ds s

theorem eng_le (FT : Fns) (SM : Sums) {n m : Nat} (k : n ≤ m) : (eng FT SM n).le (eng FT SM m) := by
  induction m with
  | zero => cases Nat.le_zero.1 k; exact Eng.le_refl _
  | succ m ih =>
    by_cases e : n = m + 1
    · subst e; exact Eng.le_refl _
    · exact Eng.le_trans (ih (by omega)) (eng_up_le FT SM m)

theorem sup_lim (FT : Fns) (SM : Sums) : Sup (eng FT SM) (lim FT SM) where
  up := eng_up_le FT SM
  le _ := ⟨fun f a s _ h => some1_of (fun _ _ k => (eng_le FT SM k).call f a s) h, fun ro c ts ds s _ h => some1_of (fun _ _ k => (eng_le FT SM k).ex ro c ts ds s) h⟩
  call _ _ _ _ h := of_some1 h
  ex _ _ _ _ _ _ h := of_some1 h

theorem opt_ext {α : Type} {a b : Option α} (h : OLe a b) (k : OLe b a) : a = b := by
  cases a with
  | some x => exact (h x rfl).symm
  | none => cases b with
    | none => rfl
    | some y => exact k y rfl

/-- The machine answers step by step. -/
theorem lim_call (FT : Fns) (SM : Sums) (f : Nat) (a : List AV) (s : St) : (lim FT SM).call f a s = callStep FT SM (lim FT SM) f a s := by
  refine opt_ext (fun r h => ?_) (fun r h => ?_)
  · obtain ⟨n, hn⟩ := (sup_lim FT SM).call f a s r h
    cases n with
    | zero => cases hn
    | succ n => exact (cont_callStep FT SM f a s).mono _ _ ((sup_lim FT SM).le n) r hn
  · obtain ⟨n, hn⟩ := (cont_callStep FT SM f a s).fin _ _ (sup_lim FT SM) r h
    exact ((sup_lim FT SM).le (n + 1)).call f a s r hn

theorem lim_ex (FT : Fns) (SM : Sums) (ro : Option Nat) (c : PC) (ts : Tr AV) (ds : List Nat) (s : St) : (lim FT SM).ex ro c ts ds s = exStep (lim FT SM) ro c ts ds s := by
  refine opt_ext (fun r h => ?_) (fun r h => ?_)
  · obtain ⟨n, hn⟩ := (sup_lim FT SM).ex ro c ts ds s r h
    cases n with
    | zero => cases hn
    | succ n => exact (cont_exStep ro c ts ds s).mono _ _ ((sup_lim FT SM).le n) r hn
  · obtain ⟨n, hn⟩ := (cont_exStep ro c ts ds s).fin _ _ (sup_lim FT SM) r h
    exact ((sup_lim FT SM).le (n + 1)).ex ro c ts ds s r hn

end
end Go.Proofs.YteiiblpnegjjlaaGreat.D
namespace Go.Proofs.YteiiblpnegjjlaaGreat.D
noncomputable section

/-- A machine: its functions, and what is known of some. -/
structure Mach where
  FT : Fns
  SM : Sums

/-- What is around a piece of code. -/
inductive Fk where
  | sq (b : PC)
  | bl (id : Nat)
  | lp (a : PC)

abbrev Post := AExit → Tr AV → List Nat → St → Prop

variable (M : Mach) (ro : Option Nat)

abbrev Mach.L : Eng := lim M.FT M.SM

def after : List Fk → AExit → Tr AV → List Nat → St → Res
  | [], x, ts, ds, s => some (x, ts, ds, s)
  | .sq b :: k, .normal, ts, ds, s => match M.L.ex ro b ts ds s with
    | some (x, ts, ds, s) => after k x ts ds s
    | none => none
  | .lp a :: k, .normal, ts, ds, s => match M.L.ex ro (.loop a) ts ds s with
    | some (x, ts, ds, s) => after k x ts ds s
    | none => none
  | .bl id :: k, .exit id', ts, ds, s => after k (if id' = id then .normal else .exit id') ts ds s
  | _ :: k, x, ts, ds, s => after k x ts ds s

def Wr (k : List Fk) (x : AExit) (ts : Tr AV) (ds : List Nat) (s : St) (Q : Post) : Prop :=
  ∃ x' ts' ds' s', after M ro k x ts ds s = some (x', ts', ds', s') ∧ Q x' ts' ds' s'
def Wk (k : List Fk) (c : PC) (ts : Tr AV) (ds : List Nat) (s : St) (Q : Post) : Prop :=
  ∃ x ts' ds' s', M.L.ex ro c ts ds s = some (x, ts', ds', s') ∧ Wr M ro k x ts' ds' s' Q

/-- What a region whose order is open keeps beside. -/
abbrev Dr := Option (List PO × List Look × List St)
def Dr.push : Dr → St → Dr
  | none, _ => none
  | some (o, l, a), s => some (o, l, s :: a)
def Dr.ok : Dr → Tr AV → St → Bool
  | none, _, _ => true
  | some (o, l, a), ts, s => looksOk o ts (s :: a).reverse l

def Wo (k : List Fk) (dr : Dr) (ops : List PO) (ts : Tr AV) (ds : List Nat) (s : St) (Q : Post) : Prop :=
  match dr with
  | none => ∃ ts' s', runOps M.L ops ts s = some (ts', s') ∧ Wr M ro k .normal ts' ds s' Q
  | some (o, l, acc) => ∃ ts' s' sn, runSnaps M.L ops ts s acc = some (ts', s', sn) ∧ looksOk o ts' sn.reverse l = true ∧ Wr M ro k .normal ts' ds s' Q
def Wx (r : Option (AV × St)) (d : Option Nat) (k : List Fk) (dr : Dr) (ops : List PO) (ts : Tr AV) (ds : List Nat) (Q : Post) : Prop :=
  ∃ v s', r = some (v, s') ∧ Wo M ro k dr ops (putT d v ts) ds s' Q
def Wg (g : Option AV) (want : Bool) (d : Option Nat) (p : POp) (k : List Fk) (dr : Dr) (ops : List PO) (ts : Tr AV) (ds : List Nat) (s : St) (Q : Post) : Prop :=
  match g with
  | some (.bool x) => match x == want with
    | true => Wo M ro k dr (⟨d, p, none⟩ :: ops) ts ds s Q
    | false => Wo M ro k (dr.push s) ops (putT d undefA ts) ds s Q
  | some (.tup []) => Wo M ro k (dr.push s) ops (putT d undefA ts) ds s Q
  | _ => False
def Wc (f : Option AV) (l : Option (List AV)) (d : Option Nat) (k : List Fk) (dr : Dr) (ops : List PO) (ts : Tr AV) (ds : List Nat) (s : St) (Q : Post) : Prop :=
  ∃ fv asg, f = some fv ∧ l = some asg ∧ Wx M ro (callV M.L fv asg s) d k dr ops ts ds Q
def Wl (f : Nat) (l : List AV) (d : Option Nat) (k : List Fk) (dr : Dr) (ops : List PO) (ts : Tr AV) (ds : List Nat) (s : St) (Q : Post) : Prop :=
  Wx M ro (M.L.call f l s) d k dr ops ts ds Q
def Wi (c : Option AV) (k : List Fk) (a b : PC) (ts : Tr AV) (ds : List Nat) (s : St) (Q : Post) : Prop :=
  ∃ v, c = some (.bool v) ∧ (v = true → Wk M ro k a ts ds s Q) ∧ (v = false → Wk M ro k b ts ds s Q)

def Wf (f : Nat) (l : List AV) (s : St) (P : AV → St → Prop) : Prop := ∃ v s', M.L.call f l s = some (v, s') ∧ P v s'
def Wy (l : Option (List AV)) (s : St) (P : AV → St → Prop) : Prop := ∃ vs, l = some vs ∧ P (oneA vs) s
def Fin (rs : List PRes) (P : AV → St → Prop) : Post := fun x ts ds s => (∀ id, x ≠ .exit id) ∧ ∃ s', takeAll ds s = some s' ∧ Wy (ressA ts s' rs) s' P

variable {M} {ro}
variable {k : List Fk} {dr : Dr} {ops : List PO} {ts : Tr AV} {ds : List Nat} {s : St} {Q : Post} {d : Option Nat} {p : POp} {P : AV → St → Prop}

@[congr] theorem Wk_congr {c : PC} {ts' : Tr AV} {s' : St} (h : ts = ts') (h' : s = s') : Wk M ro k c ts ds s Q = Wk M ro k c ts' ds s' Q := by rw [h, h']
@[congr] theorem Wr_congr {x x' : AExit} {ts' : Tr AV} {s' : St} (h0 : x = x') (h : ts = ts') (h' : s = s') : Wr M ro k x ts ds s Q = Wr M ro k x' ts' ds s' Q := by rw [h0, h, h']
@[congr] theorem Wo_congr {ts' : Tr AV} {s' : St} {dr' : Dr} (h0 : dr = dr') (h : ts = ts') (h' : s = s') : Wo M ro k dr ops ts ds s Q = Wo M ro k dr' ops ts' ds s' Q := by rw [h0, h, h']
@[congr] theorem Wx_congr {r r' : Option (AV × St)} (h : r = r') : Wx M ro r d k dr ops ts ds Q = Wx M ro r' d k dr ops ts ds Q := by rw [h]
@[congr] theorem Wg_congr {g g' : Option AV} {w : Bool} (h : g = g') : Wg M ro g w d p k dr ops ts ds s Q = Wg M ro g' w d p k dr ops ts ds s Q := by rw [h]
@[congr] theorem Wc_congr {f f' : Option AV} {l l' : Option (List AV)} (h : f = f') (h' : l = l') : Wc M ro f l d k dr ops ts ds s Q = Wc M ro f' l' d k dr ops ts ds s Q := by rw [h, h']
@[congr] theorem Wl_congr {f : Nat} {l l' : List AV} {s' : St} (h : l = l') (h' : s = s') : Wl M ro f l d k dr ops ts ds s Q = Wl M ro f l' d k dr ops ts ds s' Q := by rw [h, h']
@[congr] theorem Wi_congr {c c' : Option AV} {a b : PC} (h : c = c') : Wi M ro c k a b ts ds s Q = Wi M ro c' k a b ts ds s Q := by rw [h]
@[congr] theorem Wy_congr {l l' : Option (List AV)} (h : l = l') : Wy l s P = Wy l' s P := by rw [h]

theorem ex_of {c : PC} {ts : Tr AV} {ds : List Nat} {s : St} {r : Res} (h : exStep M.L ro c ts ds s = r) : M.L.ex ro c ts ds s = r := by rw [lim_ex]; exact h

theorem Wr_nil {x : AExit} : Wr M ro [] x ts ds s Q = Q x ts ds s := by
  unfold Wr after
  apply propext
  constructor
  · rintro ⟨_, _, _, _, h, hq⟩; cases h; exact hq
  · intro h; exact ⟨_, _, _, _, rfl, h⟩

theorem Wk_after {c : PC} {K : List Fk} (e : after M ro K .normal ts ds s = (match M.L.ex ro c ts ds s with | some (x, ts, ds, s) => after M ro k x ts ds s | none => none)) : Wr M ro K .normal ts ds s Q = Wk M ro k c ts ds s Q := by
  unfold Wr Wk
  rw [e]
  apply propext
  cases M.L.ex ro c ts ds s with
  | none =>
    constructor
    · rintro ⟨_, _, _, _, h, _⟩; cases h
    · rintro ⟨_, _, _, _, h, _⟩; cases h
  | some y =>
    obtain ⟨x, t, d, s1⟩ := y
    constructor
    · rintro ⟨x', t', d', s', h, hq⟩; exact ⟨_, _, _, _, rfl, _, _, _, _, h, hq⟩
    · rintro ⟨_, _, _, _, h, h'⟩; cases h; exact h'

theorem Wr_sq {b : PC} : Wr M ro (.sq b :: k) .normal ts ds s Q = Wk M ro k b ts ds s Q := Wk_after rfl
theorem Wr_lp {a : PC} : Wr M ro (.lp a :: k) .normal ts ds s Q = Wk M ro k (.loop a) ts ds s Q := Wk_after rfl
theorem Wr_bl_exit {id id' : Nat} : Wr M ro (.bl id :: k) (.exit id') ts ds s Q = Wr M ro k (if id' = id then .normal else .exit id') ts ds s Q := rfl
theorem Wr_bl {id : Nat} : Wr M ro (.bl id :: k) .normal ts ds s Q = Wr M ro k .normal ts ds s Q := rfl
theorem Wr_bl_ret {id : Nat} : Wr M ro (.bl id :: k) .ret ts ds s Q = Wr M ro k .ret ts ds s Q := rfl
theorem Wr_sq_exit {b : PC} {id : Nat} : Wr M ro (.sq b :: k) (.exit id) ts ds s Q = Wr M ro k (.exit id) ts ds s Q := rfl
theorem Wr_sq_ret {b : PC} : Wr M ro (.sq b :: k) .ret ts ds s Q = Wr M ro k .ret ts ds s Q := rfl
theorem Wr_lp_exit {b : PC} {id : Nat} : Wr M ro (.lp b :: k) (.exit id) ts ds s Q = Wr M ro k (.exit id) ts ds s Q := rfl
theorem Wr_lp_ret {b : PC} : Wr M ro (.lp b :: k) .ret ts ds s Q = Wr M ro k .ret ts ds s Q := rfl

/-- A step of code is a step within what is around it. -/
theorem Wk_step {c c1 : PC} {f : Fk} (e : exStep M.L ro c ts ds s = (match M.L.ex ro c1 ts ds s with | some (x, ts, ds, s) => after M ro [f] x ts ds s | none => none))
    (hf : ∀ x t d' s' , after M ro (f :: k) x t d' s' = (match after M ro [f] x t d' s' with | some (x, ts, ds, s) => after M ro k x ts ds s | none => none)) : Wk M ro k c ts ds s Q = Wk M ro (f :: k) c1 ts ds s Q := by
  unfold Wk
  rw [lim_ex, e]
  apply propext
  cases M.L.ex ro c1 ts ds s with
  | none =>
    constructor
    · rintro ⟨_, _, _, _, h, _⟩; cases h
    · rintro ⟨_, _, _, _, h, _⟩; cases h
  | some y =>
    obtain ⟨x, t, d, s1⟩ := y
    simp only [Option.some.injEq, Prod.mk.injEq]
    constructor
    · rintro ⟨x', t', d', s', h, hq⟩
      refine ⟨x, t, d, s1, ⟨rfl, rfl, rfl, rfl⟩, ?_⟩
      unfold Wr at hq ⊢
      rw [hf, h]; exact hq
    · rintro ⟨_, _, _, _, ⟨rfl, rfl, rfl, rfl⟩, hq⟩
      unfold Wr at hq
      rw [hf] at hq
      cases ha : after M ro [f] x t d s1 with
      | none => rw [ha] at hq; obtain ⟨_, _, _, _, h, _⟩ := hq; cases h
      | some z =>
        obtain ⟨x', t', d', s'⟩ := z
        rw [ha] at hq
        exact ⟨_, _, _, _, rfl, hq⟩

theorem after_one (f : Fk) (k : List Fk) (x : AExit) (t : Tr AV) (d' : List Nat) (s' : St) : after M ro (f :: k) x t d' s' = (match after M ro [f] x t d' s' with | some (x, ts, ds, s) => after M ro k x ts ds s | none => none) := by
  cases f with
  | sq b =>
    cases x with
    | normal =>
      simp only [after]
      cases M.L.ex ro b t d' s' <;> rfl
    | exit id => simp [after]
    | ret => simp [after]
  | lp b =>
    cases x with
    | normal =>
      simp only [after]
      cases M.L.ex ro (.loop b) t d' s' <;> rfl
    | exit id => simp [after]
    | ret => simp [after]
  | bl id =>
    cases x with
    | normal => simp [after]
    | exit id' => simp [after]
    | ret => simp [after]

theorem Wk_seq {a b : PC} : Wk M ro k (.seq a b) ts ds s Q = Wk M ro (.sq b :: k) a ts ds s Q := by
  refine Wk_step ?_ (after_one _ _)
  simp only [exStep]
  cases M.L.ex ro a ts ds s with
  | none => rfl
  | some y =>
    obtain ⟨x, t, d, s1⟩ := y
    cases x with
    | normal =>
      simp only [after]
      cases M.L.ex ro b t d s1 <;> rfl
    | _ => rfl

theorem Wk_loop {a : PC} : Wk M ro k (.loop a) ts ds s Q = Wk M ro (.lp a :: k) a ts ds s Q := by
  refine Wk_step ?_ (after_one _ _)
  simp only [exStep]
  cases M.L.ex ro a ts ds s with
  | none => rfl
  | some y =>
    obtain ⟨x, t, d, s1⟩ := y
    cases x with
    | normal =>
      simp only [after]
      cases M.L.ex ro (.loop a) t d s1 <;> rfl
    | _ => rfl

theorem Wk_block {a : PC} {id : Nat} : Wk M ro k (.block id a) ts ds s Q = Wk M ro (.bl id :: k) a ts ds s Q := by
  refine Wk_step ?_ (after_one _ _)
  simp only [exStep]
  cases M.L.ex ro a ts ds s with
  | none => rfl
  | some y =>
    obtain ⟨x, t, d, s1⟩ := y
    cases x <;> rfl

theorem Wk_now {c : PC} {x : AExit} (e : exStep M.L ro c ts ds s = some (x, ts, ds, s)) : Wk M ro k c ts ds s Q = Wr M ro k x ts ds s Q := by
  unfold Wk
  rw [lim_ex, e]
  apply propext
  constructor
  · rintro ⟨_, _, _, _, h, hq⟩; cases h; exact hq
  · intro h; exact ⟨_, _, _, _, rfl, h⟩

theorem Wk_skip : Wk M ro k .skip ts ds s Q = Wr M ro k .normal ts ds s Q := Wk_now rfl
theorem Wk_exit {id : Nat} : Wk M ro k (.exit id) ts ds s Q = Wr M ro k (.exit id) ts ds s Q := Wk_now rfl
theorem Wk_ret : Wk M ro k .ret ts ds s Q = Wr M ro k .ret ts ds s Q := Wk_now rfl

theorem Wk_region : Wk M ro k (.region ops) ts ds s Q = Wo M ro k none ops ts ds s Q := by
  unfold Wk Wo
  rw [lim_ex]
  simp only [exStep]
  apply propext
  cases runOps M.L ops ts s with
  | none =>
    constructor
    · rintro ⟨_, _, _, _, h, _⟩; cases h
    · rintro ⟨_, _, h, _⟩; cases h
  | some y =>
    obtain ⟨t, s1⟩ := y
    constructor
    · rintro ⟨_, _, _, _, h, hq⟩; cases h; exact ⟨_, _, rfl, hq⟩
    · rintro ⟨_, _, h, hq⟩; cases h; exact ⟨_, _, _, _, rfl, hq⟩

theorem Wk_drawn {l : List Look} : Wk M ro k (.drawn ops l) ts ds s Q = Wo M ro k (some (ops, l, [])) ops ts ds s Q := by
  unfold Wk Wo
  rw [lim_ex]
  simp only [exStep]
  apply propext
  cases runSnaps M.L ops ts s [] with
  | none =>
    constructor
    · rintro ⟨_, _, _, _, h, _⟩; cases h
    · rintro ⟨_, _, _, h, _⟩; cases h
  | some y =>
    obtain ⟨t, s1, sn⟩ := y
    dsimp only
    cases hl : looksOk ops t sn.reverse l with
    | false =>
      constructor
      · rintro ⟨_, _, _, _, h, _⟩; simp at h
      · rintro ⟨_, _, _, h, h', _⟩; cases h; rw [hl] at h'; cases h'
    | true =>
      constructor
      · rintro ⟨_, _, _, _, h, hq⟩; simp only [if_true] at h; cases h; exact ⟨_, _, _, rfl, hl, hq⟩
      · rintro ⟨_, _, _, h, _, hq⟩; cases h; exact ⟨_, _, _, _, rfl, hq⟩

theorem runSnaps_ops (e : Eng) : ∀ (l : List PO) (ts : Tr AV) (s : St) (acc : List St), (runSnaps e l ts s acc).map (fun y => (y.1, y.2.1)) = runOps e l ts s
  | [], _, _, _ => rfl
  | p :: r, ts, s, acc => by
    simp only [runSnaps, runOps]
    cases opStep e p ts s with
    | none => rfl
    | some y => exact runSnaps_ops e r _ _ _

theorem Wk_drawnC {l : Look} {ls : List Look} : Wk M ro k (.drawn ops (l :: ls)) ts ds s Q = Wo M ro k (some (ops, l :: ls, [])) ops ts ds s Q := Wk_drawn

/-- Where nothing is to be looked at again, the order is all one. -/
theorem Wk_drawn0 : Wk M ro k (.drawn ops []) ts ds s Q = Wo M ro k none ops ts ds s Q := by
  rw [Wk_drawn]
  unfold Wo
  dsimp only
  rw [← runSnaps_ops M.L ops ts s []]
  apply propext
  cases runSnaps M.L ops ts s [] with
  | none =>
    constructor
    · rintro ⟨_, _, _, h, _⟩; cases h
    · rintro ⟨_, _, h, _⟩; cases h
  | some y =>
    obtain ⟨t, s1, sn⟩ := y
    constructor
    · rintro ⟨_, _, _, h, _, hq⟩; cases h; exact ⟨_, _, rfl, hq⟩
    · rintro ⟨_, _, h, hq⟩; cases h; exact ⟨_, _, _, rfl, rfl, hq⟩

theorem Wk_cond {x : X} {a b : PC} : Wk M ro k (.cond x a b) ts ds s Q = Wi M ro (evOf ts x) k a b ts ds s Q := by
  unfold Wk Wi
  rw [lim_ex]
  simp only [exStep]
  apply propext
  cases he : evOf ts x with
  | none =>
    constructor
    · rintro ⟨_, _, _, _, h, _⟩; cases h
    · rintro ⟨_, h, _⟩; cases h
  | some v =>
    cases v with
    | bool v =>
      cases v with
      | true =>
        constructor
        · intro h; exact ⟨true, rfl, fun _ => h, fun h => by cases h⟩
        · rintro ⟨_, h, h1, _⟩; cases h; exact h1 rfl
      | false =>
        constructor
        · intro h; exact ⟨false, rfl, fun h => (by cases h), fun _ => h⟩
        · rintro ⟨_, h, _, h1⟩; cases h; exact h1 rfl
    | _ =>
      constructor
      · rintro ⟨_, _, _, _, h, _⟩; cases h
      · rintro ⟨_, h, _⟩; cases h

theorem Wi_t {a b : PC} : Wi M ro (some (.bool true)) k a b ts ds s Q = Wk M ro k a ts ds s Q := by
  apply propext
  constructor
  · rintro ⟨_, h, h1, _⟩; cases h; exact h1 rfl
  · intro h; exact ⟨true, rfl, fun _ => h, fun h => by cases h⟩
theorem Wi_f {a b : PC} : Wi M ro (some (.bool false)) k a b ts ds s Q = Wk M ro k b ts ds s Q := by
  apply propext
  constructor
  · rintro ⟨_, h, _, h1⟩; cases h; exact h1 rfl
  · intro h; exact ⟨false, rfl, fun h => (by cases h), fun _ => h⟩
theorem Wi_split {v : Bool} {a b : PC} (h1 : v = true → Wk M ro k a ts ds s Q) (h2 : v = false → Wk M ro k b ts ds s Q) : Wi M ro (some (.bool v)) k a b ts ds s Q := ⟨v, rfl, h1, h2⟩

theorem Wo_nil : Wo M ro k none [] ts ds s Q = Wr M ro k .normal ts ds s Q := by
  apply propext
  constructor
  · rintro ⟨_, _, h, hq⟩; cases h; exact hq
  · intro h; exact ⟨_, _, rfl, h⟩
theorem Wo_nil' {o : List PO} {l : List Look} {acc : List St} : Wo M ro k (some (o, l, acc)) [] ts ds s Q = (looksOk o ts (s :: acc).reverse l = true ∧ Wr M ro k .normal ts ds s Q) := by
  apply propext
  constructor
  · rintro ⟨_, _, _, h, hl, hq⟩; cases h; exact ⟨hl, hq⟩
  · rintro ⟨hl, h⟩; exact ⟨_, _, _, rfl, hl, h⟩

theorem Wo_cons {q : PO} : Wo M ro k dr (q :: ops) ts ds s Q = ∃ t s', opStep M.L q ts s = some (t, s') ∧ Wo M ro k (dr.push s) ops t ds s' Q := by
  cases dr with
  | none =>
    apply propext
    constructor
    · rintro ⟨t, s', h, hq⟩
      simp only [runOps] at h
      cases ho : opStep M.L q ts s with
      | none => rw [ho] at h; cases h
      | some y => rw [ho] at h; exact ⟨_, _, rfl, t, s', h, hq⟩
    · rintro ⟨t, s', h, t1, s1, h1, hq⟩
      refine ⟨t1, s1, ?_, hq⟩
      simp only [runOps, h, h1]
  | some y =>
    obtain ⟨o, l, acc⟩ := y
    apply propext
    constructor
    · rintro ⟨t, s', sn, h, hl, hq⟩
      simp only [runSnaps] at h
      cases ho : opStep M.L q ts s with
      | none => rw [ho] at h; cases h
      | some y => rw [ho] at h; exact ⟨_, _, rfl, t, s', sn, h, hl, hq⟩
    · rintro ⟨t, s', h, t1, s1, sn, h1, hl, hq⟩
      refine ⟨t1, s1, sn, ?_, hl, hq⟩
      simp only [runSnaps, h, h1]

def POp.isCall : POp → Bool
  | .call .. => true
  | _ => false

theorem Wo_any : Wo M ro k dr (⟨d, p, none⟩ :: ops) ts ds s Q = Wx M ro (opVal M.L p (evOf ts) s) d k (dr.push s) ops ts ds Q := by
  rw [Wo_cons]
  unfold Wx
  simp only [opStep, wantedA]
  apply propext
  cases opVal M.L p (evOf ts) s with
  | none =>
    constructor
    · rintro ⟨_, _, h, _⟩; cases h
    · rintro ⟨_, _, h, _⟩; cases h
  | some y =>
    constructor
    · rintro ⟨_, _, h, hq⟩; cases h; exact ⟨_, _, rfl, hq⟩
    · rintro ⟨_, _, h, hq⟩; cases h; exact ⟨_, _, rfl, hq⟩

theorem Wo_op (h : p.isCall = false) : Wo M ro k dr (⟨d, p, none⟩ :: ops) ts ds s Q = Wx M ro (xop p (evOf ts) s) d k (dr.push s) ops ts ds Q := by
  rw [Wo_any]
  cases p with
  | call => cases h
  | _ => rfl

theorem Wo_move {x : X} : Wo M ro k dr (⟨d, .move x, none⟩ :: ops) ts ds s Q = Wx M ro (xop (.move x) (evOf ts) s) d k (dr.push s) ops ts ds Q := Wo_op rfl
theorem Wo_pick {c a b : X} : Wo M ro k dr (⟨d, .pick c a b, none⟩ :: ops) ts ds s Q = Wx M ro (xop (.pick c a b) (evOf ts) s) d k (dr.push s) ops ts ds Q := Wo_op rfl
theorem Wo_alloc {z : List AV} : Wo M ro k dr (⟨d, .alloc z, none⟩ :: ops) ts ds s Q = Wx M ro (xop (.alloc z) (evOf ts) s) d k (dr.push s) ops ts ds Q := Wo_op rfl
theorem Wo_box {x : X} : Wo M ro k dr (⟨d, .box x, none⟩ :: ops) ts ds s Q = Wx M ro (xop (.box x) (evOf ts) s) d k (dr.push s) ops ts ds Q := Wo_op rfl
theorem Wo_build {z : List AV} {ps : List (Nat × Nat × X)} : Wo M ro k dr (⟨d, .build z ps, none⟩ :: ops) ts ds s Q = Wx M ro (xop (.build z ps) (evOf ts) s) d k (dr.push s) ops ts ds Q := Wo_op rfl
theorem Wo_buildSlice {z : List AV} {n : Nat} {ps : List (Nat × Nat × X)} {e : Nat} : Wo M ro k dr (⟨d, .buildSlice z n ps e, none⟩ :: ops) ts ds s Q = Wx M ro (xop (.buildSlice z n ps e) (evOf ts) s) d k (dr.push s) ops ts ds Q := Wo_op rfl
theorem Wo_load1 {a : X} : Wo M ro k dr (⟨d, .load1 a, none⟩ :: ops) ts ds s Q = Wx M ro (xop (.load1 a) (evOf ts) s) d k (dr.push s) ops ts ds Q := Wo_op rfl
theorem Wo_loadN {n : Nat} {a : X} : Wo M ro k dr (⟨d, .loadN n a, none⟩ :: ops) ts ds s Q = Wx M ro (xop (.loadN n a) (evOf ts) s) d k (dr.push s) ops ts ds Q := Wo_op rfl
theorem Wo_store {n : Nat} {a v : X} : Wo M ro k dr (⟨d, .store n a v, none⟩ :: ops) ts ds s Q = Wx M ro (xop (.store n a v) (evOf ts) s) d k (dr.push s) ops ts ds Q := Wo_op rfl
theorem Wo_nilCheck {x : X} : Wo M ro k dr (⟨d, .nilCheck x, none⟩ :: ops) ts ds s Q = Wx M ro (xop (.nilCheck x) (evOf ts) s) d k (dr.push s) ops ts ds Q := Wo_op rfl
theorem Wo_bin {o : BinOp} {e : EqK} {x y : X} : Wo M ro k dr (⟨d, .bin o e x y, none⟩ :: ops) ts ds s Q = Wx M ro (xop (.bin o e x y) (evOf ts) s) d k (dr.push s) ops ts ds Q := Wo_op rfl
theorem Wo_un {o : UnOp} {x : X} : Wo M ro k dr (⟨d, .un o x, none⟩ :: ops) ts ds s Q = Wx M ro (xop (.un o x) (evOf ts) s) d k (dr.push s) ops ts ds Q := Wo_op rfl
theorem Wo_convInt {i : IntKind} {x : X} : Wo M ro k dr (⟨d, .convInt i x, none⟩ :: ops) ts ds s Q = Wx M ro (xop (.convInt i x) (evOf ts) s) d k (dr.push s) ops ts ds Q := Wo_op rfl
theorem Wo_convSame {x : X} : Wo M ro k dr (⟨d, .convSame x, none⟩ :: ops) ts ds s Q = Wx M ro (xop (.convSame x) (evOf ts) s) d k (dr.push s) ops ts ds Q := Wo_op rfl
theorem Wo_convStr {e : Nat} {x : X} : Wo M ro k dr (⟨d, .convStr e x, none⟩ :: ops) ts ds s Q = Wx M ro (xop (.convStr e x) (evOf ts) s) d k (dr.push s) ops ts ds Q := Wo_op rfl
theorem Wo_convBytes {x : X} : Wo M ro k dr (⟨d, .convBytes x, none⟩ :: ops) ts ds s Q = Wx M ro (xop (.convBytes x) (evOf ts) s) d k (dr.push s) ops ts ds Q := Wo_op rfl
theorem Wo_mkIface {i : TypeId} {x : X} : Wo M ro k dr (⟨d, .mkIface i x, none⟩ :: ops) ts ds s Q = Wx M ro (xop (.mkIface i x) (evOf ts) s) d k (dr.push s) ops ts ds Q := Wo_op rfl
theorem Wo_mkFunc {f : Fn} {a c : List X} : Wo M ro k dr (⟨d, .mkFunc f a c, none⟩ :: ops) ts ds s Q = Wx M ro (xop (.mkFunc f a c) (evOf ts) s) d k (dr.push s) ops ts ds Q := Wo_op rfl
theorem Wo_mkMap  : Wo M ro k dr (⟨d, .mkMap, none⟩ :: ops) ts ds s Q = Wx M ro (xop .mkMap (evOf ts) s) d k (dr.push s) ops ts ds Q := Wo_op rfl
theorem Wo_mkSlice {a b : Nat} {z : List AV} {l c : X} : Wo M ro k dr (⟨d, .mkSlice a b z l c, none⟩ :: ops) ts ds s Q = Wx M ro (xop (.mkSlice a b z l c) (evOf ts) s) d k (dr.push s) ops ts ds Q := Wo_op rfl
theorem Wo_sliceSl {e : Nat} {x : X} {lo hi mx : Option X} : Wo M ro k dr (⟨d, .sliceSl e x lo hi mx, none⟩ :: ops) ts ds s Q = Wx M ro (xop (.sliceSl e x lo hi mx) (evOf ts) s) d k (dr.push s) ops ts ds Q := Wo_op rfl
theorem Wo_sliceStr {x : X} {lo hi : Option X} : Wo M ro k dr (⟨d, .sliceStr x lo hi, none⟩ :: ops) ts ds s Q = Wx M ro (xop (.sliceStr x lo hi) (evOf ts) s) d k (dr.push s) ops ts ds Q := Wo_op rfl
theorem Wo_sliceArr {n e : Nat} {x : X} {lo hi mx : Option X} : Wo M ro k dr (⟨d, .sliceArr n e x lo hi mx, none⟩ :: ops) ts ds s Q = Wx M ro (xop (.sliceArr n e x lo hi mx) (evOf ts) s) d k (dr.push s) ops ts ds Q := Wo_op rfl
theorem Wo_fieldAddr {o : Nat} {x : X} : Wo M ro k dr (⟨d, .fieldAddr o x, none⟩ :: ops) ts ds s Q = Wx M ro (xop (.fieldAddr o x) (evOf ts) s) d k (dr.push s) ops ts ds Q := Wo_op rfl
theorem Wo_field {o : Nat} {n : Option Nat} {x : X} : Wo M ro k dr (⟨d, .field o n x, none⟩ :: ops) ts ds s Q = Wx M ro (xop (.field o n x) (evOf ts) s) d k (dr.push s) ops ts ds Q := Wo_op rfl
theorem Wo_idxArr {n e : Nat} {x i : X} : Wo M ro k dr (⟨d, .idxArr n e x i, none⟩ :: ops) ts ds s Q = Wx M ro (xop (.idxArr n e x i) (evOf ts) s) d k (dr.push s) ops ts ds Q := Wo_op rfl
theorem Wo_idxSl {e : Nat} {x i : X} : Wo M ro k dr (⟨d, .idxSl e x i, none⟩ :: ops) ts ds s Q = Wx M ro (xop (.idxSl e x i) (evOf ts) s) d k (dr.push s) ops ts ds Q := Wo_op rfl
theorem Wo_idxAgg {n e : Nat} {g : Bool} {x i : X} : Wo M ro k dr (⟨d, .idxAgg n e g x i, none⟩ :: ops) ts ds s Q = Wx M ro (xop (.idxAgg n e g x i) (evOf ts) s) d k (dr.push s) ops ts ds Q := Wo_op rfl
theorem Wo_idxStr {x i : X} : Wo M ro k dr (⟨d, .idxStr x i, none⟩ :: ops) ts ds s Q = Wx M ro (xop (.idxStr x i) (evOf ts) s) d k (dr.push s) ops ts ds Q := Wo_op rfl
theorem Wo_lookup {z : AV} {m x : X} {o : Bool} : Wo M ro k dr (⟨d, .lookup z m x o, none⟩ :: ops) ts ds s Q = Wx M ro (xop (.lookup z m x o) (evOf ts) s) d k (dr.push s) ops ts ds Q := Wo_op rfl
theorem Wo_mapUpd {m x v : X} : Wo M ro k dr (⟨d, .mapUpd m x v, none⟩ :: ops) ts ds s Q = Wx M ro (xop (.mapUpd m x v) (evOf ts) s) d k (dr.push s) ops ts ds Q := Wo_op rfl
theorem Wo_extract {x : X} {i : Nat} : Wo M ro k dr (⟨d, .extract x i, none⟩ :: ops) ts ds s Q = Wx M ro (xop (.extract x i) (evOf ts) s) d k (dr.push s) ops ts ds Q := Wo_op rfl
theorem Wo_append {a b : Nat} {z : List AV} {x y : X} : Wo M ro k dr (⟨d, .append a b z x y, none⟩ :: ops) ts ds s Q = Wx M ro (xop (.append a b z x y) (evOf ts) s) d k (dr.push s) ops ts ds Q := Wo_op rfl
theorem Wo_appendN {a b : Nat} {z : List AV} {x y : X} : Wo M ro k dr (⟨d, .appendN a b z x y, none⟩ :: ops) ts ds s Q = Wx M ro (xop (.appendN a b z x y) (evOf ts) s) d k (dr.push s) ops ts ds Q := Wo_op rfl
theorem Wo_copy {e : Nat} {x y : X} : Wo M ro k dr (⟨d, .copy e x y, none⟩ :: ops) ts ds s Q = Wx M ro (xop (.copy e x y) (evOf ts) s) d k (dr.push s) ops ts ds Q := Wo_op rfl
theorem Wo_len {n : Nat} {x : X} : Wo M ro k dr (⟨d, .len n x, none⟩ :: ops) ts ds s Q = Wx M ro (xop (.len n x) (evOf ts) s) d k (dr.push s) ops ts ds Q := Wo_op rfl
theorem Wo_lenArr {n : Nat} : Wo M ro k dr (⟨d, .lenArr n, none⟩ :: ops) ts ds s Q = Wx M ro (xop (.lenArr n) (evOf ts) s) d k (dr.push s) ops ts ds Q := Wo_op rfl
theorem Wo_cap {x : X} : Wo M ro k dr (⟨d, .cap x, none⟩ :: ops) ts ds s Q = Wx M ro (xop (.cap x) (evOf ts) s) d k (dr.push s) ops ts ds Q := Wo_op rfl
theorem Wo_minmax {b : Bool} {l : List X} : Wo M ro k dr (⟨d, .minmax b l, none⟩ :: ops) ts ds s Q = Wx M ro (xop (.minmax b l) (evOf ts) s) d k (dr.push s) ops ts ds Q := Wo_op rfl
theorem Wo_clear {z : List AV} {x : X} : Wo M ro k dr (⟨d, .clear z x, none⟩ :: ops) ts ds s Q = Wx M ro (xop (.clear z x) (evOf ts) s) d k (dr.push s) ops ts ds Q := Wo_op rfl
theorem Wo_clearMap {x : X} : Wo M ro k dr (⟨d, .clearMap x, none⟩ :: ops) ts ds s Q = Wx M ro (xop (.clearMap x) (evOf ts) s) d k (dr.push s) ops ts ds Q := Wo_op rfl
theorem Wo_delete {m x : X} : Wo M ro k dr (⟨d, .delete m x, none⟩ :: ops) ts ds s Q = Wx M ro (xop (.delete m x) (evOf ts) s) d k (dr.push s) ops ts ds Q := Wo_op rfl

theorem Wo_call {f : X} {asg : List X} : Wo M ro k dr (⟨d, .call f asg, none⟩ :: ops) ts ds s Q = Wc M ro (evOf ts f) (evs (evOf ts) asg) d k (dr.push s) ops ts ds s Q := by
  rw [Wo_any]
  unfold Wc
  simp only [opVal]
  apply propext
  cases evOf ts f with
  | none =>
    constructor
    · rintro ⟨_, _, h, _⟩; cases h
    · rintro ⟨_, _, h, _⟩; cases h
  | some fv =>
    cases evs (evOf ts) asg with
    | none =>
      constructor
      · rintro ⟨_, _, h, _⟩; cases h
      · rintro ⟨_, _, _, h, _⟩; cases h
    | some l =>
      constructor
      · intro h; exact ⟨_, _, rfl, rfl, h⟩
      · rintro ⟨_, _, h, h', hq⟩; cases h; cases h'; exact hq

theorem Wo_guard {t : Nat} {b : Bool} : Wo M ro k dr (⟨d, p, some (t, b)⟩ :: ops) ts ds s Q = Wg M ro (ts.get t) b d p k dr ops ts ds s Q := by
  rw [Wo_cons]
  unfold Wg
  simp only [opStep, wantedA]
  cases hg : ts.get t with
  | none => simp
  | some v =>
    cases v with
    | bool x =>
      dsimp only
      cases hx : x == b with
      | true =>
        dsimp only
        rw [Wo_any]
        unfold Wx
        apply propext
        cases opVal M.L p (evOf ts) s with
        | none =>
          constructor
          · rintro ⟨_, _, h, _⟩; cases h
          · rintro ⟨_, _, h, _⟩; cases h
        | some y =>
          constructor
          · rintro ⟨_, _, h, hq⟩; cases h; exact ⟨_, _, rfl, hq⟩
          · rintro ⟨_, _, h, hq⟩; cases h; exact ⟨_, _, rfl, hq⟩
      | false =>
        dsimp only
        apply propext
        constructor
        · rintro ⟨_, _, h, hq⟩; cases h; exact hq
        · intro h; exact ⟨_, _, rfl, h⟩
    | tup l =>
      cases l with
      | nil =>
        dsimp only
        apply propext
        constructor
        · rintro ⟨_, _, h, hq⟩; cases h; exact hq
        · intro h; exact ⟨_, _, rfl, h⟩
      | cons => simp
    | _ => simp

theorem Wx_some {v : AV} {s' : St} : Wx M ro (some (v, s')) d k dr ops ts ds Q = Wo M ro k dr ops (putT d v ts) ds s' Q := by
  apply propext
  constructor
  · rintro ⟨_, _, h, hq⟩; cases h; exact hq
  · intro h; exact ⟨_, _, rfl, h⟩
theorem Wg_tt : Wg M ro (some (.bool true)) true d p k dr ops ts ds s Q = Wo M ro k dr (⟨d, p, none⟩ :: ops) ts ds s Q := rfl
theorem Wg_ff : Wg M ro (some (.bool false)) false d p k dr ops ts ds s Q = Wo M ro k dr (⟨d, p, none⟩ :: ops) ts ds s Q := rfl
theorem Wg_tf : Wg M ro (some (.bool true)) false d p k dr ops ts ds s Q = Wo M ro k (dr.push s) ops (putT d undefA ts) ds s Q := rfl
theorem Wg_ft : Wg M ro (some (.bool false)) true d p k dr ops ts ds s Q = Wo M ro k (dr.push s) ops (putT d undefA ts) ds s Q := rfl
theorem Wg_undef {b : Bool} : Wg M ro (some undefA) b d p k dr ops ts ds s Q = Wo M ro k (dr.push s) ops (putT d undefA ts) ds s Q := rfl
theorem Wg_split {c b : Bool} (h1 : c = true → Wg M ro (some (.bool true)) b d p k dr ops ts ds s Q) (h2 : c = false → Wg M ro (some (.bool false)) b d p k dr ops ts ds s Q) : Wg M ro (some (.bool c)) b d p k dr ops ts ds s Q := by
  cases c with
  | true => exact h1 rfl
  | false => exact h2 rfl
theorem Wc_fn {g : Nat} {a c l : List AV} : Wc M ro (some (.fn (.func g) a c)) (some l) d k dr ops ts ds s Q = Wl M ro g (a ++ l ++ c) d k dr ops ts ds s Q := by
  apply propext
  constructor
  · rintro ⟨_, _, h, h', hq⟩; cases h; cases h'; exact hq
  · intro h; exact ⟨_, _, rfl, rfl, h⟩

theorem Wl_of {f : Nat} {l : List AV} (h : Wf M f l s P) (hq : ∀ v s', P v s' → Wo M ro k dr ops (putT d v ts) ds s' Q) : Wl M ro f l d k dr ops ts ds s Q := by
  obtain ⟨v, s', h1, h2⟩ := h
  exact ⟨v, s', h1, hq v s' h2⟩
theorem Wl_eq {f : Nat} {l : List AV} {v : AV} {s' : St} (h : M.L.call f l s = some (v, s')) : Wl M ro f l d k dr ops ts ds s Q = Wo M ro k dr ops (putT d v ts) ds s' Q := by
  unfold Wl
  rw [h, Wx_some]

theorem Wf.mono {f : Nat} {l : List AV} {P' : AV → St → Prop} (h : Wf M f l s P) (hp : ∀ v s', P v s' → P' v s') : Wf M f l s P' := by
  obtain ⟨v, s', h1, h2⟩ := h
  exact ⟨v, s', h1, hp v s' h2⟩

theorem Wf_enter {f : Nat} {l : List AV} {fd : FD} (hf : M.FT f = some fd) (hs : M.SM f = none) (hn : Nat.ble l.length fd.ntmps = true) (h : Wk M none [] fd.body (initT 0 l .lf) [] s (Fin fd.results P)) : Wf M f l s P := by
  obtain ⟨x, t, d, s1, h1, h2⟩ := h
  rw [Wr_nil] at h2
  obtain ⟨hx, s2, ht, vs, hr, hp⟩ := h2
  refine ⟨oneA vs, s2, ?_, hp⟩
  rw [lim_call]
  unfold callStep
  rw [hs, hf]
  dsimp only
  rw [if_pos hn, h1]
  unfold finish
  cases x with
  | exit id => exact (hx id rfl).elim
  | _ => simp only [ht, hr]

theorem Wr_fin {rs : List PRes} : Wr M ro [] .ret ts [] s (Fin rs P) = Wy (ressA ts s rs) s P := by
  rw [Wr_nil]
  apply propext
  constructor
  · rintro ⟨_, _, h, hq⟩; cases h; exact hq
  · intro h; exact ⟨fun _ h => (by cases h), _, rfl, h⟩
theorem Wr_fin' {rs : List PRes} : Wr M ro [] .normal ts [] s (Fin rs P) = Wy (ressA ts s rs) s P := by
  rw [Wr_nil]
  apply propext
  constructor
  · rintro ⟨_, _, h, hq⟩; cases h; exact hq
  · intro h; exact ⟨fun _ h => (by cases h), _, rfl, h⟩
theorem Wy_some {l : List AV} : Wy (some l) s P = P (oneA l) s := by
  apply propext
  constructor
  · rintro ⟨_, h, hq⟩; cases h; exact hq
  · intro h; exact ⟨_, rfl, h⟩

/-- A loop, by what holds at its head. -/
theorem loop_ind {a : PC} (I : Nat → Tr AV → St → Prop) (step : ∀ n ts s, I n ts s → (∀ m ts' s', m < n → I m ts' s' → Wk M ro k (.loop a) ts' ds s' Q) → Wk M ro (.lp a :: k) a ts ds s Q) : ∀ {n ts s}, I n ts s → Wk M ro k (.loop a) ts ds s Q := by
  intro n
  induction n using Nat.strongRecOn with
  | ind n ih =>
    intro ts s h
    rw [Wk_loop]
    exact step n ts s h fun m ts' s' hm h' => ih m hm h'
end
end Go.Proofs.YteiiblpnegjjlaaGreat.D
namespace Go.Proofs.YteiiblpnegjjlaaGreat.D
set_option linter.unusedSimpArgs false
set_option linter.unusedVariables false
theorem leaf_int {k : IntKind} {a b : Int} : leafEq 1 (.int k a) (.int k b) = some (a == b) := by simp [leafEq]
theorem cellsEq_int {ks : List Nat} {l m : List AV} {k : IntKind} {a b : Int} {r : Bool} (hl : l.length = ks.length) (hm : m.length = ks.length) (h : cellsEq ks l m = some r) : cellsEq (1 :: ks) (.int k a :: l) (.int k b :: m) = some (a == b && r) := by
  simp only [cellsEq, leaf_int]
  cases hab : a == b with
  | true => simp [h]
  | false => simp [hl, hm]
theorem cellsEq_nil : cellsEq [] [] [] = some true := rfl
theorem cellsEq1 {k : IntKind} {a b : Int} : cellsEq [1] [.int k a] [.int k b] = some (a == b) := by rw [cellsEq_int rfl rfl cellsEq_nil, Bool.and_true]
theorem cellsEq2 {k k' : IntKind} {a b c d : Int} : cellsEq [1, 1] [.int k a, .int k' b] [.int k c, .int k' d] = some (a == c && b == d) := cellsEq_int rfl rfl cellsEq1
theorem cellsEq3 {k k' k2 : IntKind} {a b c d e f : Int} : cellsEq [1, 1, 1] [.int k a, .int k' b, .int k2 e] [.int k c, .int k' d, .int k2 f] = some (a == c && (b == d && e == f)) := cellsEq_int rfl rfl cellsEq2
/-- How long a slice is. -/
def len1 (v : Option AV) (s : St) : Option (AV × St) :=
  match v with
  | some .nilSlice => some (.int .i64 0, s)
  | some (.tail ..) => some (.int .i64 0, s)
  | some (.slice _ _ n _ _) => some (.int .i64 n, s)
  | some (.raw (.slice _ n _)) => some (.int .i64 n, s)
  | _ => none
/-- Where an element of a slice lies. -/
def idx1 (e : Nat) (v i : Option AV) (s : St) : Option (AV × St) :=
  match v, i with
  | some (.slice b o len _ _), some i => match indexA i len with
    | some k => some (.ptr b (o + k * e), s)
    | none => none
  | _, _ => none
theorem len1_nil {s : St} : len1 (some .nilSlice) s = some (.int .i64 0, s) := rfl
theorem len1_tail {s : St} {b o a : Nat} : len1 (some (.tail b o a)) s = some (.int .i64 0, s) := rfl
theorem len1_slice {s : St} {b o n c : Nat} {l : Bool} : len1 (some (.slice b o n c l)) s = some (.int .i64 n, s) := rfl
theorem len1_raw {s : St} {a : Option Addr} {n c : Nat} : len1 (some (.raw (.slice a n c))) s = some (.int .i64 n, s) := rfl
theorem indexA_nat {k : IntKind} {j n : Nat} (h : j < n) : indexA (.int k (j : Int)) n = some j := by
  show (if 0 ≤ (j : Int) ∧ (j : Int) < (n : Int) then some ((j : Int).toNat) else none) = some j
  rw [if_pos ⟨by omega, by omega⟩]
  simp
theorem idx1_slice {e b o n c j : Nat} {l : Bool} {s : St} {k : IntKind} (h : j < n) : idx1 e (some (.slice b o n c l)) (some (.int k (j : Int))) s = some (.ptr b (o + j * e), s) := by
  unfold idx1
  simp only [indexA_nat h]
theorem idx1_slice0 {e b o n c : Nat} {l : Bool} {s : St} {k : IntKind} (h : 0 < n) : idx1 e (some (.slice b o n c l)) (some (.int k 0)) s = some (.ptr b o, s) := by
  have := idx1_slice (e := e) (b := b) (o := o) (c := c) (l := l) (s := s) (k := k) h
  simpa using this
section
variable {M : Mach} {ro : Option Nat} {k : List Fk} {dr : Dr} {ops : List PO} {ts : Tr AV} {ds : List Nat} {s : St} {Q : Post} {d : Option Nat}
theorem Wo_len0 {x : X} : Wo M ro k dr (⟨d, .len 0 x, none⟩ :: ops) ts ds s Q = Wx M ro (xop (.len 0 x) (evOf ts) s) d k (dr.push s) ops ts ds Q := Wo_op rfl
theorem Wo_len1 {x : X} : Wo M ro k dr (⟨d, .len 1 x, none⟩ :: ops) ts ds s Q = Wx M ro (len1 (evOf ts x) s) d k (dr.push s) ops ts ds Q := Wo_op rfl
theorem Wo_len2 {x : X} : Wo M ro k dr (⟨d, .len 2 x, none⟩ :: ops) ts ds s Q = Wx M ro (xop (.len 2 x) (evOf ts) s) d k (dr.push s) ops ts ds Q := Wo_op rfl
theorem Wo_idx1 {e : Nat} {x i : X} : Wo M ro k dr (⟨d, .idxSl e x i, none⟩ :: ops) ts ds s Q = Wx M ro (idx1 e (evOf ts x) (evOf ts i) s) d k (dr.push s) ops ts ds Q := Wo_op rfl
end
theorem Wk_cut {M : Mach} {ro : Option Nat} {k : List Fk} {c : PC} {ts : Tr AV} {ds : List Nat} {s : St} {Q : Post} (I : Tr AV → St → Prop) (h1 : Wk M ro [] c ts ds s fun x ts' ds' s' => x = .normal ∧ ds' = ds ∧ I ts' s')
    (h2 : ∀ ts' s', I ts' s' → Wr M ro k .normal ts' ds s' Q) : Wk M ro k c ts ds s Q := by
  obtain ⟨x, ts', ds', s', he, h⟩ := h1
  rw [Wr_nil] at h
  obtain ⟨rfl, rfl, hI⟩ := h
  exact ⟨_, _, _, _, he, h2 _ _ hI⟩
theorem i64_in {n : Int} (h : -9223372036854775808 ≤ n) (k : n ≤ 9223372036854775807) : IntKind.i64.wrap n = n := by
  simp [IntKind.wrap, IntKind.signed, IntKind.bits]; omega
theorem u64_in {n : Int} (h : 0 ≤ n) (k : n ≤ 18446744073709551615) : IntKind.u64.wrap n = n := by
  simp [IntKind.wrap, IntKind.signed, IntKind.bits]; omega
theorem u32_in {n : Int} (h : 0 ≤ n) (k : n ≤ 4294967295) : IntKind.u32.wrap n = n := by
  simp [IntKind.wrap, IntKind.signed, IntKind.bits]; omega
theorem u8_in {n : Int} (h : 0 ≤ n) (k : n ≤ 255) : IntKind.u8.wrap n = n := by
  simp [IntKind.wrap, IntKind.signed, IntKind.bits]; omega
theorem succ_in {j : Nat} (h : j < 9223372036854775807) : IntKind.i64.wrap ((j : Int) + 1) = ((j + 1 : Nat) : Int) := by
  rw [i64_in (by omega) (by omega)]; simp
theorem Tr.put_one {α : Type} (v u : Option α) : ∀ (n k : Nat), k < n → Tr.put v (Tr.one u n k) k = Tr.one v n k
  | 0, k, h => by omega
  | n + 1, 0, _ => rfl
  | n + 1, k + 1, h => by
    have ih := Tr.put_one v u n (k / 2) (by omega)
    simp only [Tr.one_succ, Tr.beq_mod]
    by_cases hp : k % 2 = 0
    · simp only [hp, decide_true, Tr.put_nd_succ, Tr.beq_mod, ih]
    · simp only [hp, decide_false, Tr.put_nd_succ, Tr.beq_mod, ih]
theorem Tr.put_put {α : Type} (v u : Option α) : ∀ (t : Tr α) (k : Nat), Tr.put v (Tr.put u t k) k = Tr.put v t k
  | .lf, k => by rw [Tr.put_lf, Tr.put_lf, Tr.put_one v u _ _ (by omega)]
  | .nd l x r, 0 => rfl
  | .nd l x r, k + 1 => by
    simp only [Tr.put_nd_succ, Tr.beq_mod]
    by_cases hp : k % 2 = 0
    · simp only [hp, decide_true, Tr.put_nd_succ, Tr.beq_mod, Tr.put_put v u l]
    · simp only [hp, decide_false, Tr.put_nd_succ, Tr.beq_mod, Tr.put_put v u r]
theorem St.put_put {s : St} {b : Nat} {o o' : AObj} : (s.put b o).put b o' = s.put b o' := by
  unfold St.put Tr.set
  simp only [Tr.put_put]
theorem St.put_new {s : St} {o o' : AObj} : (s.new o).put s.next o' = s.new o' := by
  unfold St.put St.new Tr.set
  simp only [Tr.put_put]
theorem St.put_new1 {s : St} {o p o' : AObj} : ((s.new o).new p).put (s.next + 1) o' = (s.new o).new o' := St.put_new
theorem cells_bool {b : Bool} : (.bool b : AV).cells = [.bool b] := rfl
theorem cell_bool {b : Bool} : (.bool b : AV).cell = true := rfl
theorem cells_int {k : IntKind} {n : Int} : (.int k n : AV).cells = [.int k n] := rfl
theorem cell_int {k : IntKind} {n : Int} : (.int k n : AV).cell = true := rfl
theorem cells_str {x : ByteArray} : (.str x : AV).cells = [.str x] := rfl
theorem cell_str {x : ByteArray} : (.str x : AV).cell = true := rfl
theorem cells_ptr {b o : Nat} : (.ptr b o : AV).cells = [.ptr b o] := rfl
theorem cell_ptr {b o : Nat} : (.ptr b o : AV).cell = true := rfl
theorem cells_nilPtr  : (.nilPtr : AV).cells = [.nilPtr] := rfl
theorem cell_nilPtr  : (.nilPtr : AV).cell = true := rfl
theorem cells_slice {b o n c : Nat} {l : Bool} : (.slice b o n c l : AV).cells = [.slice b o n c l] := rfl
theorem cell_slice {b o n c : Nat} {l : Bool} : (.slice b o n c l : AV).cell = true := rfl
theorem cells_nilSlice  : (.nilSlice : AV).cells = [.nilSlice] := rfl
theorem cell_nilSlice  : (.nilSlice : AV).cell = true := rfl
theorem cells_tail {b o a : Nat} : (.tail b o a : AV).cells = [.tail b o a] := rfl
theorem cell_tail {b o a : Nat} : (.tail b o a : AV).cell = true := rfl
theorem cells_map {r : Nat} : (.map r : AV).cells = [.map r] := rfl
theorem cell_map {r : Nat} : (.map r : AV).cell = true := rfl
theorem cells_nilMap  : (.nilMap : AV).cells = [.nilMap] := rfl
theorem cell_nilMap  : (.nilMap : AV).cell = true := rfl
theorem cells_fn {f : Fn} {a c : List AV} : (.fn f a c : AV).cells = [.fn f a c] := rfl
theorem cell_fn {f : Fn} {a c : List AV} : (.fn f a c : AV).cell = true := rfl
theorem cells_yld {r : Nat} : (.yld r : AV).cells = [.yld r] := rfl
theorem cell_yld {r : Nat} : (.yld r : AV).cell = true := rfl
theorem cells_nilFn  : (.nilFn : AV).cells = [.nilFn] := rfl
theorem cell_nilFn  : (.nilFn : AV).cell = true := rfl
theorem cells_iface {t : TypeId} {v : AV} : (.iface t v : AV).cells = [.iface t v] := rfl
theorem cell_iface {t : TypeId} {v : AV} : (.iface t v : AV).cell = true := rfl
theorem cells_nilIface  : (.nilIface : AV).cells = [.nilIface] := rfl
theorem cell_nilIface  : (.nilIface : AV).cell = true := rfl
theorem cells_tup {l : List AV} : (.tup l : AV).cells = [.tup l] := rfl
theorem cells_agg {l : List AV} : (AV.agg l).cells = l := rfl
attribute [go_sem] cells_bool cell_bool cells_int cell_int cells_str cell_str cells_ptr cell_ptr cells_nilPtr cell_nilPtr cells_slice cell_slice cells_nilSlice cell_nilSlice cells_tail cell_tail cells_map cell_map cells_nilMap cell_nilMap cells_fn cell_fn cells_yld cell_yld cells_nilFn cell_nilFn cells_iface cell_iface cells_nilIface cell_nilIface cells_tup cells_agg
attribute [go_sem] St.put_put St.put_new St.put_new1 cellsEq1 cellsEq2 cellsEq3
attribute [go_sem] Wk_seq Wk_skip Wk_exit Wk_ret Wk_region Wk_drawn0 Wk_cond Wi_t Wi_f Wr_sq Wr_lp Wr_bl_exit Wr_bl Wr_bl_ret Wr_sq_exit Wr_sq_ret Wr_lp_exit Wr_lp_ret Wo_nil Wo_nil' Wo_move Wo_pick Wo_alloc Wo_box Wo_build Wo_buildSlice Wo_load1 Wo_loadN Wo_store Wo_nilCheck Wo_bin Wo_un Wo_convInt Wo_convSame Wo_convStr Wo_convBytes Wo_mkIface Wo_mkFunc Wo_mkMap Wo_mkSlice Wo_sliceSl Wo_sliceStr Wo_sliceArr Wo_fieldAddr Wo_field Wo_idxArr Wo_idx1 Wo_idxAgg Wo_idxStr Wo_lookup Wo_mapUpd Wo_extract Wo_append Wo_appendN Wo_copy Wo_len0 Wo_len1 Wo_len2 len1_nil len1_tail len1_slice len1_raw Wo_lenArr Wo_cap Wo_minmax Wo_clear Wo_clearMap Wo_delete Wo_call Wo_guard Wx_some Wg_tt Wg_ff Wg_tf Wg_ft Wg_undef Wc_fn Wr_fin Wr_fin' Wy_some Dr.push
attribute [go_sem] xop evOf evs evO putT Tr.get_set Tr.get_lf binA intBin unA eqA aggEq boolEq nilEq nilOf initT ressA resA oneA loadA storeA splice allCell St.get_put St.get_new St.next_put St.next_new newA fillA partA foldMM indexA looksOk lookOk lookAll wantedA same sames
attribute [go_sem] Int.cast_ofNat_Int Int.toNat_natCast_add_one Nat.add_left_cancel_iff Nat.left_eq_add Nat.add_eq_left Int.toNat_natCast Nat.add_assoc Int.ofNat_lt Int.ofNat_le Nat.lt_add_one_of_lt Nat.lt_add_one Nat.lt_add_right Nat.lt_add_right_iff_pos Nat.add_lt_add_iff_left
attribute [go_sem] Nat.add_zero Nat.zero_add if_true if_false ite_true ite_false List.length_cons List.length_nil List.getElem?_cons_succ List.getElem?_cons_zero List.drop_succ_cons List.drop_zero List.take_succ_cons List.take_zero List.cons_append List.nil_append List.append_nil Bool.and_true Bool.true_and and_true true_and and_self Bool.not_true Bool.not_false Option.some.injEq beq_self_eq_true bne_self_eq_false decide_true decide_false List.reverse_cons List.reverse_nil Nat.beq_refl false_implies implies_true imp_false not_false_eq_true
/-- What lay lies as it lay. -/
structure Fr (s s' : St) : Prop where
  le : s.next ≤ s'.next
  get : ∀ b, b < s.next → s'.get b = s.get b
/-- What lay, but for one block, lies as it lay. -/
structure FrX (x : Nat) (s s' : St) : Prop where
  le : s.next ≤ s'.next
  get : ∀ b, b < s.next → b ≠ x → s'.get b = s.get b

theorem Fr.refl (s : St) : Fr s s := ⟨Nat.le_refl _, fun _ _ => rfl⟩
theorem Fr.trans {a b c : St} (h : Fr a b) (k : Fr b c) : Fr a c := ⟨Nat.le_trans h.le k.le, fun x hx => (k.get x (Nat.lt_of_lt_of_le hx h.le)).trans (h.get x hx)⟩
theorem Fr.new {a b : St} (h : Fr a b) (o : AObj) : Fr a (b.new o) := ⟨Nat.le_succ_of_le h.le, fun x hx => by rw [St.get_new, if_neg (by have := h.le; omega)]; exact h.get x hx⟩
theorem Fr.put {a b : St} (h : Fr a b) {x : Nat} (hx : a.next ≤ x) (o : AObj) : Fr a (b.put x o) := ⟨h.le, fun y hy => by rw [St.get_put, if_neg (by omega)]; exact h.get y hy⟩
theorem Fr.drop {a b : St} (h : Fr a b) {x : Nat} (hx : a.next ≤ x) : Fr a (b.drop x) := ⟨h.le, fun y hy => by rw [St.get_drop, if_neg (by omega)]; exact h.get y hy⟩
theorem Fr.x {a b : St} (h : Fr a b) (x : Nat) : FrX x a b := ⟨h.le, fun y hy _ => h.get y hy⟩
theorem FrX.refl (x : Nat) (s : St) : FrX x s s := ⟨Nat.le_refl _, fun _ _ _ => rfl⟩
theorem FrX.then {x : Nat} {a b c : St} (h : FrX x a b) (k : Fr b c) : FrX x a c := ⟨Nat.le_trans h.le k.le, fun y hy hn => (k.get y (Nat.lt_of_lt_of_le hy h.le)).trans (h.get y hy hn)⟩
theorem FrX.trans {x : Nat} {a b c : St} (h : FrX x a b) (k : FrX x b c) : FrX x a c := ⟨Nat.le_trans h.le k.le, fun y hy hn => (k.get y (Nat.lt_of_lt_of_le hy h.le) hn).trans (h.get y hy hn)⟩
theorem FrX.new {x : Nat} {a b : St} (h : FrX x a b) (o : AObj) : FrX x a (b.new o) := ⟨Nat.le_succ_of_le h.le, fun y hy hn => by rw [St.get_new, if_neg (by have := h.le; omega)]; exact h.get y hy hn⟩
theorem FrX.put {x : Nat} {a b : St} (h : FrX x a b) {z : Nat} (hx : z = x ∨ a.next ≤ z) (o : AObj) : FrX x a (b.put z o) := ⟨h.le, fun y hy hn => by rw [St.get_put, if_neg (by omega)]; exact h.get y hy hn⟩

theorem eq_next_f {b : Nat} {s : St} (h : b < s.next) : (b = s.next) = False := by simp; omega
theorem eq_next_f' {b : Nat} {s : St} (h : b < s.next) : (s.next = b) = False := by simp; omega
theorem eq_next_k {b k : Nat} {s : St} (h : b < s.next) : (b = s.next + k) = False := by simp; omega
theorem eq_next_k' {b k : Nat} {s : St} (h : b < s.next) : (s.next + k = b) = False := by simp; omega
end Go.Proofs.YteiiblpnegjjlaaGreat.D
