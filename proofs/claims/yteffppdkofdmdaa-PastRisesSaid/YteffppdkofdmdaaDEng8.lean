/- The abstract machine's code is the model's. -/
import Derived.Test.YteffppdkofdmdaaDEng7
namespace Go.Proofs.Yteffppdkofdmdaa.D
variable {P : Program}

theorem Left.trans {R : Nat} {μ ν : Place} {s s1 : St} {w w1 : World} {N : Nat} {x : AExit} {ts' : Tr AV} {ds' : List Nat} {s' : St} {e : Exit} {a : Act} {w' : World} (m : Mv μ s w ν s1 w1) (h : Left P R ν s1 w1 N x ts' ds' s' e a w') : Left P R μ s w N x ts' ds' s' e a w' := by
  obtain ⟨h1, ξ, h2, h3, h4, h5, h6⟩ := h
  exact ⟨h1, ξ, h2, h3, h4, h5, m.trans h6⟩

/-- A mark is come to: the block is shut. -/
theorem HR.shut {R : Nat} {μ : Place} {s : St} {w w' : World} (h : HR P R μ s w) (hR : s.next ≤ R) {b : Nat} {o : AObj} {p : Nat × Nat} (hb : s.get b = some o) (hp : μ b = some p) (hro : ∀ vs l e, o ≠ .cells vs l true e)
    (hos : w'.os = w.os) (hout : w'.output = w.output) (htape : w'.tape = w.tape) (hsize : w'.heap.size = w.heap.size) (hk : ∀ k, k ≠ p.1 → w'.heap[k]? = w.heap[k]?) : HR P R μ (s.drop b) w' ∧ Mv μ s w μ (s.drop b) w' := by
  obtain ⟨hd, _⟩ := h.drop hR hb hro
  have other : ∀ c x q, (s.drop b).get c = some x → μ c = some q → q.1 ≠ p.1 := by
    intro c x q hc hq e'
    rw [St.get_drop] at hc
    by_cases ec : c = b
    · rw [if_pos ec] at hc; cases hc
    · rw [if_neg ec] at hc
      exact ec (h.inj c b _ _ q p hc hb hq hp e')
  refine ⟨⟨fun c x hc => ?_, hd.inj, fun c q hq => by rw [hsize]; exact hd.lt c q hq, hd.dom⟩, ⟨Place.le_refl _, hos, hout, htape, by omega, Nat.le_refl _, fun c q hq => (h.lt c q hq).2.imp id (Nat.le_trans hR), fun _ q hq => .inl hq, ?_, ?_⟩⟩
  · obtain ⟨q, hq, hx⟩ := hd.obj c x hc
    exact ⟨q, hq, hx.mono (Place.le_refl _) (hk q.1 (other c x q hc hq))⟩
  · intro k _ hn
    exact hk k fun e' => hn b p (h.dom b o hb) hp e'.symm
  · intro c vs l z q hc hq
    have hne : c ≠ b := by
      intro e'; subst e'; rw [hb] at hc; cases hc; exact hro _ _ _ rfl
    refine ⟨?_, hk q.1 fun e' => hne (h.inj c b _ _ q p hc hb hq hp e')⟩
    rw [St.get_drop, if_neg hne]
    exact hc

theorem rangeA_sound {e : Eng} (hE : EngOk P e) {ro : Option Nat} {fv : AV} {params : List Nat} {as bd : PC} {ts ts' : Tr AV} {ds ds' : List Nat} {s s' : St} {x : AExit} (hx : rangeA e ro fv params as bd ts ds s = some (x, ts', ds', s'))
    {R : Nat} (hR : s'.next ≤ R) {μ : Place} {w : World} (h : HR P R μ s w) {g : Operand} {ps : Array Tmp} {assign body : Code} {N : Nat} (hps : ps.toList = params) (hpa : prepC P assign = some as) (hpb : prepC P body = some bd)
    (ok1 : okNats N params = true) (ok2 : okPC N as = true) (ok3 : okPC N bd = true) {a : Act} (ht : TR μ ts a.tmps) (hN : a.tmps.size = N) (hd : DR μ ds a.defers) {F : Fence} (hF : FenceOk μ ro F) (hf : conc μ fv = some (a.eval g)) (n : Nat) :
    (Code.rangeFunc g ps assign body).wpIn F n P (Left P R μ s w N x ts' ds' s') a w := by
  have hn := rangeA_next hE.next hx
  unfold rangeA at hx
  split at hx
  case h_2 => cases hx
  rename_i f first captured
  obtain ⟨xs, ys, _, hxs, hys, e1⟩ := conc_fn hf
  split at hx
  case h_1 => cases hx
  rename_i l ds1 s2 h0
  split at hx
  case h_1 => cases hx
  rename_i rv s3 hc
  -- from the two blocks on
  have fin : ∀ (ν : Place) (w2 : World) (pl : Nat × Nat) (mark : List Deferred) (fn : FuncId), HR P R ν s2 w2 → Mv μ s w ν s2 w2 → ν l = some pl → DR ν ds1 (mark ++ a.defers) → FenceOk ν ro F →
      (Instr.enterLoop fn a.tmps ps assign body F.round).run P w = .ok (pl.1, mark) w2 →
      ∃ (l : Nat) (mark : List Deferred) (w₁ : World) (d : Deferred) (w₁' : World) (f : FuncId) (args : Array Value) (w₂ : World),
        (Instr.enterLoop fn a.tmps ps assign body F.round).run P w = .ok (l, mark) w₁ ∧ (resolve a.eval (rangeCall g l) 0).run P w₁ = .ok d w₁' ∧ (∀ f', Target.leads P w₁' d.target d.args = some f' → F.fn f') ∧
        (invoke d.target d.args).run P w₁' = .ok (.enter f args) w₂ ∧ (F.depth.isSome = true → 1 ≤ n) ∧ CallsIn F (n - 1) P f args w₂ (rangePost F n P l (Left P R μ s w N x ts' ds' s') { a with defers := mark ++ a.defers }) := by
    intro ν w2 pl mark fn hν hm hpl hdr hFν hent
    have n2 := hE.next.call hc
    have n3 : s3.next ≤ s'.next := by
      split at hx
      all_goals first
        | (cases hx; done)
        | (cases hx; simp)
    have hargs : concs ν (first ++ [.yld l] ++ captured) = some (xs ++ [.func (.yield pl.1) #[] #[]] ++ ys) :=
      concs_append (concs_append (concs_mono hm.le _ _ hxs) (by simp [concs, conc, hpl])) (concs_mono hm.le _ _ hys)
    obtain ⟨⟨fn', f1, f2, f3⟩, hcall⟩ := hE.call hc (R := R) (by omega) hν hargs
    refine ⟨pl.1, mark, w2, { target := .fn (.func f) ys.toArray, args := xs.toArray ++ #[.func (.yield pl.1) #[] #[]] }, w2, f, _, w2, hent, ?_, fun f' _ => hF.fn f', ?_, fun hdp => (by rw [hF.depth] at hdp; cases hdp), (hF.calls (hcall (n - 1))).mono ?_⟩
    · simp only [resolve, e1, Deferred.ofValue, Sem.run_pure]
      simp [Act.eval]
    · simp only [invoke]
      rw [run_callFunc f1 f2 f3]
      simp
    · intro en w3 hr
      cases en with
      | panicked _ => exact hr.elim
      | outgrown => exact hr.elim
      | returned cv =>
        obtain ⟨ξ, _, g2, g3⟩ := hr
        have hpl' : ξ l = some pl := g3.le _ _ hpl
        split at hx
        case h_1 => cases hx
        case h_3 => cases hx
        rename_i st pend ts2 ps2 a2 b2 d2 hst hg
        obtain ⟨L, q, k1, k2, k3, k4⟩ := g2.loop hg hpl'
        obtain ⟨t1, t2⟩ := g2.loop_turn (st' := .exhausted) (pe' := pend) (by omega) hg hpl' k1
        have e2 : ({ L with state := LoopState.exhausted, pending := jumpCode pend } : Loop) = { L with state := .exhausted } := by rw [← k3]
        rw [e2] at t1 t2
        cases hx
        have hnb : L.state ≠ .busy := by
          rw [k2]
          intro e3
          exact hst e3
        refine ⟨_, _, run_endLoop k1 hnb, ?_⟩
        have hleft : ∀ e, e = exitOf x → Left P R μ s w N x ts ds' (s3.put l (.loop .exhausted x ts2 ps2 a2 b2 d2)) e { a with defers := mark ++ a.defers } (w3.putObj pl.1 (.loop { L with state := .exhausted })) := by
          intro e he
          exact ⟨he, ξ, ht.mono (Place.le_trans hm.le g3.le), hN, hdr.mono g3.le, t1, (hm.trans g3).trans t2⟩
        rw [k3] at hleft ⊢
        cases x with
        | normal => exact hleft _ rfl
        | exit id => exact wpIn_exit (hleft _ rfl)
        | ret => exact wpIn_ret (hleft _ rfl)
  refine wpIn_rangeFunc fun fn _ => ?_
  have nc := hE.next.call hc
  have hs2R : s2.next ≤ R := by
    have n3 : s3.next ≤ s'.next := by
      split at hx
      all_goals first
        | (cases hx; done)
        | (cases hx; simp)
    omega
  cases ro with
  | none =>
    simp only [Option.some.injEq, Prod.mk.injEq] at h0
    obtain ⟨rfl, rfl, rfl⟩ := h0
    simp at hs2R
    obtain ⟨b1, b2⟩ := h.new (R := R) (by omega) .defd (.deferred (some [])) 0 w.drawn (by simp [OR])
    obtain ⟨c1, c2⟩ := b1.new (R := R) (by simp; omega) (.loop .ready .normal ts params as bd s.next) (.loop { state := .ready, pending := none, fn, tmps := a.tmps, params := ps, assign, body, defers := w.heap.size }) 0 w.drawn
      ⟨_, (w.heap.size, 0), World.push_new _ _ _, rfl, rfl, ht.mono (Place.le_trans b2.le (b1.le_add (by simp; omega) _)), hps, hpa, hpb, by simp [Place.add], rfl, by rw [hN]; exact ok1, by rw [hN]; exact ok2, by rw [hN]; exact ok3⟩
    have hF0 : F = Fence.wide := hF
    refine fin _ _ (w.heap.size + 1, 0) [{ target := .collected w.heap.size, args := #[] }] fn c1 (b2.trans c2) ?_ ?_ hF0 ?_
    · simp [Place.add]
    · exact ⟨⟨(w.heap.size, 0), by simp [Place.add], rfl⟩, hd.mono (b2.trans c2).le⟩
    · subst hF0
      exact run_enterLoop_outer fn a.tmps ps assign body
  | some l0 =>
    obtain ⟨p0, hp0, hF0⟩ := hF
    simp only [] at h0
    split at h0
    case h_2 => cases h0
    rename_i st0 pe0 ts0 ps0 a0 b0 d0 hg0
    simp only [Option.some.injEq, Prod.mk.injEq] at h0
    obtain ⟨rfl, rfl, rfl⟩ := h0
    simp at hs2R
    obtain ⟨L0, q0, k1, k2, k3, k4, k5, k6, k7, k8, k9, _⟩ := h.loop hg0 hp0
    obtain ⟨b1, b2⟩ := h.new (R := R) (by omega) (.loop .ready .normal ts params as bd d0) (.loop { state := .ready, pending := none, fn, tmps := a.tmps, params := ps, assign, body, defers := L0.defers }) 0 w.drawn
      ⟨_, q0, World.push_new _ _ _, rfl, rfl, ht.mono (h.le_add (by omega) _), hps, hpa, hpb, h.le_add (by omega) _ _ _ k8, k9, by rw [hN]; exact ok1, by rw [hN]; exact ok2, by rw [hN]; exact ok3⟩
    refine fin _ _ (w.heap.size, 0) [] fn b1 b2 ?_ (hd.mono b2.le) ⟨p0, b2.le _ _ hp0, hF0⟩ ?_
    · simp [Place.add]
    · subst hF0
      exact run_enterLoop_inner k1 fn a.tmps ps assign body

theorem exStep_sound {e : Eng} (hE : EngOk P e) (hm : P.follows .mixedOrders = true) {ro : Option Nat} {pc : PC} {ts ts' : Tr AV} {ds ds' : List Nat} {s s' : St} {x : AExit} (hx : exStep e ro pc ts ds s = some (x, ts', ds', s'))
    {R : Nat} (hR : s'.next ≤ R) {μ : Place} {w : World} (h : HR P R μ s w) {c : Code} {N : Nat} (hp : prepC P c = some pc) (hok : okPC N pc = true) {a : Act} (ht : TR μ ts a.tmps) (hN : a.tmps.size = N) (hd : DR μ ds a.defers) {F : Fence} (hF : FenceOk μ ro F) (n : Nat) :
    c.wpIn F n P (Left P R μ s w N x ts' ds' s') a w := by
  cases c with
  | skip =>
    cases hp; cases hx
    exact wpIn_skip ⟨rfl, μ, ht, hN, hd, h, Mv.refl h hR⟩
  | region id ops draw =>
    simp only [prepC] at hp
    split at hp
    case h_1 => cases hp
    rename_i ps hps
    split at hp
    · rename_i hdr
      split at hp
      case isFalse => cases hp
      rename_i hck
      cases hp
      simp only [Bool.and_eq_true] at hck
      obtain ⟨⟨⟨⟨h1, h2⟩, h3⟩, h4⟩, h5⟩ := hck
      simp only [exStep] at hx
      split at hx
      case h_2 => cases hx
      rename_i ts1 s1 snaps hrun
      split at hx
      case isFalse => cases hx
      rename_i hlook
      cases hx
      subst hdr
      exact drawn_wpIn hE hm hps h1 h2 h3 h4 h5 hok hrun hlook hR h ht hN hd hF fun ν a' w' g1 g2 g3 g4 g5 => ⟨rfl, ν, g1, g2, g3, g4, g5⟩
    · rename_i hdr
      cases hp
      simp only [exStep] at hx
      split at hx
      case h_2 => cases hx
      rename_i ts1 s1 hrun
      cases hx
      have hdr' : draw = false := by simpa using hdr
      subst hdr'
      refine wpIn_region ?_
      have := ops_wpIn hE (ops := ops) (n := n) (Q := Left P R μ s w N .normal ts' ds s') ops.toList ps 0 a ts s w μ hps (fun i => by simp) hrun hR h ht hN hok hd hF fun ν a' w' g1 g2 g3 g4 g5 => ⟨rfl, ν, g1, g2, g3, g4, g5⟩
      rw [List.range_eq_range']
      simpa using this
  | seq c1 c2 =>
    simp only [prepC] at hp
    split at hp
    case h_1 => cases hp
    rename_i p1 hp1
    split at hp
    case h_1 => cases hp
    rename_i p2 hp2
    cases hp
    simp only [okPC, Bool.and_eq_true] at hok
    simp only [exStep] at hx
    split at hx
    · rename_i ts1 ds1 s1 h1
      have n2 := hE.next.ex hx
      refine wpIn_seq (wpIn_mono (hE.ex h1 (R := R) (by omega) h hp1 hok.1 ht hN hd hF n) ?_)
      rintro ex a1 w1 ⟨rfl, ν, g1, g2, g3, g4, g5⟩
      exact wpIn_mono (hE.ex hx hR g4 hp2 hok.2 g1 g2 g3 (hF.mono g5.le) n) fun _ _ _ hl => hl.trans g5
    · rename_i hne
      refine wpIn_seq (wpIn_mono (hE.ex hx hR h hp1 hok.1 ht hN hd hF n) ?_)
      rintro ex a1 w1 hl
      have : ex ≠ .normal := by
        rw [hl.1]
        intro he
        cases x with
        | normal => exact hne _ _ _ hx
        | exit id => cases he
        | ret => cases he
      cases ex with
      | normal => exact absurd rfl this
      | _ => exact hl
  | cond c0 c1 c2 =>
    simp only [prepC] at hp
    split at hp
    case h_1 => cases hp
    rename_i z hz
    split at hp
    case h_1 => cases hp
    rename_i p1 hp1
    split at hp
    case h_1 => cases hp
    rename_i p2 hp2
    cases hp
    simp only [okPC, Bool.and_eq_true] at hok
    simp only [exStep] at hx
    split at hx
    · rename_i hv
      have := evR_of ht _ _ _ hz hv
      simp only [conc, Option.some.injEq] at this
      exact wpIn_cond (t := true) this.symm (hE.ex hx hR h hp1 hok.1 ht hN hd hF n)
    · rename_i hv
      have := evR_of ht _ _ _ hz hv
      simp only [conc, Option.some.injEq] at this
      exact wpIn_cond (t := false) this.symm (hE.ex hx hR h hp2 hok.2 ht hN hd hF n)
    · cases hx
  | block id c1 =>
    simp only [prepC] at hp
    split at hp
    case h_1 => cases hp
    rename_i p1 hp1
    cases hp
    simp only [exStep] at hx
    split at hx
    · rename_i id' ts1 ds1 s1 h1
      cases hx
      refine wpIn_block (wpIn_mono (hE.ex h1 hR h hp1 hok ht hN hd hF n) ?_)
      rintro ex a1 w1 ⟨rfl, hl⟩
      simp only [exitOf, Exit.inBlock]
      by_cases hid : id' = id
      · rw [if_pos hid, if_pos hid]; exact ⟨rfl, hl⟩
      · rw [if_neg hid, if_neg hid]; exact ⟨rfl, hl⟩
    · rename_i hne
      refine wpIn_block (wpIn_mono (hE.ex hx hR h hp1 hok ht hN hd hF n) ?_)
      rintro ex a1 w1 hl
      cases x with
      | normal => rw [hl.1]; rw [hl.1] at hl; exact hl
      | exit id => exact absurd hx (hne _ _ _ _)
      | ret => rw [hl.1]; rw [hl.1] at hl; exact hl
  | loop c1 =>
    simp only [prepC] at hp
    split at hp
    case h_1 => cases hp
    rename_i p1 hp1
    cases hp
    refine LoopIn.wpIn (LoopIn.step ?_)
    simp only [exStep] at hx
    split at hx
    · rename_i ts1 ds1 s1 h1
      have n2 := hE.next.ex hx
      refine wpIn_mono (hE.ex h1 (R := R) (by omega) h hp1 hok ht hN hd hF n) ?_
      rintro ex a1 w1 ⟨rfl, ν, g1, g2, g3, g4, g5⟩
      exact (hE.loop hx hR g4 hp1 hok g1 g2 g3 (hF.mono g5.le) n).mono fun _ _ _ hl => hl.trans g5
    · rename_i hne
      refine wpIn_mono (hE.ex hx hR h hp1 hok ht hN hd hF n) ?_
      rintro ex a1 w1 hl
      have : ex ≠ .normal := by
        rw [hl.1]
        intro he
        cases x with
        | normal => exact hne _ _ _ hx
        | exit id => cases he
        | ret => cases he
      cases ex with
      | normal => exact absurd rfl this
      | _ => exact hl
  | rangeFunc f ps c1 c2 =>
    simp only [prepC] at hp
    split at hp
    case h_1 => cases hp
    rename_i z hz
    split at hp
    case h_1 => cases hp
    rename_i p1 hp1
    split at hp
    case h_1 => cases hp
    rename_i p2 hp2
    cases hp
    simp only [okPC, Bool.and_eq_true] at hok
    simp only [exStep] at hx
    split at hx
    case h_2 => cases hx
    rename_i fv hv
    exact rangeA_sound hE hx hR h rfl hp1 hp2 hok.1.1 hok.1.2 hok.2 ht hN hd hF (evR_of ht _ _ _ hz hv) n
  | exit id =>
    cases hp; cases hx
    exact wpIn_exit ⟨rfl, μ, ht, hN, hd, h, Mv.refl h hR⟩
  | ret =>
    cases hp; cases hx
    exact wpIn_ret ⟨rfl, μ, ht, hN, hd, h, Mv.refl h hR⟩
  | _ => simp only [prepC] at hp; cases hp

theorem loop_sound {e : Eng} (hE : EngOk P e) {ro : Option Nat} {pc : PC} {ts ts' : Tr AV} {ds ds' : List Nat} {s s' : St} {x : AExit} (hx : exStep e ro (.loop pc) ts ds s = some (x, ts', ds', s'))
    {R : Nat} (hR : s'.next ≤ R) {μ : Place} {w : World} (h : HR P R μ s w) {c : Code} {N : Nat} (hp1 : prepC P c = some pc) (hok : okPC N pc = true) {a : Act} (ht : TR μ ts a.tmps) (hN : a.tmps.size = N) (hd : DR μ ds a.defers) {F : Fence} (hF : FenceOk μ ro F) (n : Nat) :
    LoopIn F n P c (Left P R μ s w N x ts' ds' s') a w := by
  refine LoopIn.step ?_
  simp only [exStep] at hx
  split at hx
  · rename_i ts1 ds1 s1 h1
    have n2 := hE.next.ex hx
    refine wpIn_mono (hE.ex h1 (R := R) (by omega) h hp1 hok ht hN hd hF n) ?_
    rintro ex a1 w1 ⟨rfl, ν, g1, g2, g3, g4, g5⟩
    exact (hE.loop hx hR g4 hp1 hok g1 g2 g3 (hF.mono g5.le) n).mono fun _ _ _ hl => hl.trans g5
  · rename_i hne
    refine wpIn_mono (hE.ex hx hR h hp1 hok ht hN hd hF n) ?_
    rintro ex a1 w1 hl
    have : ex ≠ .normal := by
      rw [hl.1]
      intro he
      cases x with
      | normal => exact hne _ _ _ hx
      | exit id => cases he
      | ret => cases he
    cases ex with
    | normal => exact absurd rfl this
    | _ => exact hl
end Go.Proofs.Yteffppdkofdmdaa.D
