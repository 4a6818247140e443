/- The abstract machine's calls and rounds are the model's. -/
import Derived.Test.YteffppdkofdmdaaDSnd13
import Derived.Test.YteffppdkofdmdaaDMono
import Derived.RangeFuncRecord
import Derived.RangeFuncNested
namespace Go.Proofs.Yteffppdkofdmdaa.D
variable {P : Program}

def exitOf : AExit → Exit
  | .normal => .normal
  | .exit id => .exit id
  | .ret => .ret

/-- The marks among the deferred calls. -/
def DR (μ : Place) : List Nat → List Deferred → Prop
  | [], [] => True
  | d :: ds, x :: xs => (∃ p, μ d = some p ∧ x = { target := .collected p.1, args := #[] }) ∧ DR μ ds xs
  | _, _ => False

theorem DR.mono {μ ν : Place} (h : μ.le ν) : ∀ {l : List Nat} {m : List Deferred}, DR μ l m → DR ν l m
  | [], [], _ => trivial
  | _ :: _, _ :: _, e => ⟨let ⟨p, h1, h2⟩ := e.1; ⟨p, h _ _ h1, h2⟩, DR.mono h e.2⟩
  | [], _ :: _, e => e.elim
  | _ :: _, [], e => e.elim

/-- What a call gives. -/
def Rets (P : Program) (R : Nat) (μ : Place) (s : St) (w : World) (v : AV) (s' : St) : Ending → World → Prop
  | .returned c, w' => ∃ ν, conc ν v = some c ∧ HR P R ν s' w' ∧ Mv μ s w ν s' w'
  | _, _ => False

/-- How a piece of code is left. -/
def Left (P : Program) (R : Nat) (μ : Place) (s : St) (w : World) (N : Nat) (x : AExit) (ts' : Tr AV) (ds' : List Nat) (s' : St) (e : Exit) (a' : Act) (w' : World) : Prop :=
  e = exitOf x ∧ ∃ ν, TR ν ts' a'.tmps ∧ a'.tmps.size = N ∧ DR ν ds' a'.defers ∧ HR P R ν s' w' ∧ Mv μ s w ν s' w'

def FenceOk (μ : Place) : Option Nat → Fence → Prop
  | none, F => F = Fence.wide
  | some r, F => ∃ p, μ r = some p ∧ F = Fence.wide.inRound p.1

theorem FenceOk.mono {μ ν : Place} (h : μ.le ν) {ro : Option Nat} {F : Fence} (hF : FenceOk μ ro F) : FenceOk ν ro F := by
  cases ro with
  | none => exact hF
  | some r => obtain ⟨p, hp, e⟩ := hF; exact ⟨p, h _ _ hp, e⟩

theorem FenceOk.fn {μ : Place} {ro : Option Nat} {F : Fence} (hF : FenceOk μ ro F) (f : FuncId) : F.fn f := by
  cases ro with
  | none => cases hF; trivial
  | some r => obtain ⟨p, _, rfl⟩ := hF; trivial
theorem FenceOk.depth {μ : Place} {ro : Option Nat} {F : Fence} (hF : FenceOk μ ro F) : F.depth = none := by
  cases ro with
  | none => cases hF; rfl
  | some r => obtain ⟨p, _, rfl⟩ := hF; rfl
theorem FenceOk.inRound {μ : Place} {ro : Option Nat} {F : Fence} (hF : FenceOk μ ro F) (l : Nat) : F.inRound l = Fence.wide.inRound l := by
  cases ro with
  | none => cases hF; rfl
  | some r => obtain ⟨p, _, rfl⟩ := hF; rfl
theorem FenceOk.calls {μ : Place} {ro : Option Nat} {F : Fence} (hF : FenceOk μ ro F) {n : Nat} {f : FuncId} {args : Array Value} {w : World} {R : Ending → World → Prop} (h : CallsIn Fence.wide n P f args w R) : CallsIn F n P f args w R := by
  cases ro with
  | none => cases hF; exact h
  | some r => obtain ⟨p, _, rfl⟩ := hF; exact CallsIn.inRound p.1 h

/-- A loop's body is come to, the loop around it. -/
def LoopIn (F : Fence) (n : Nat) (P : Program) (c : Code) (Q : Exit → Act → World → Prop) (a : Act) (w : World) : Prop :=
  ∀ (b : Frame) (k : List Item) (cs : List Frame), b.roundOf = F.round → F.fn b.fn → F.room (cs.length + 1 + n) →
    ∃ e a' w', Q e a' w' ∧ ArrivesIn (Machine.fenced P F) P (lone (b.atR a (.code c :: .inLoop c :: k)) cs w) b k cs e a' w'

theorem LoopIn.step {F : Fence} {n : Nat} {c : Code} {Q : Exit → Act → World → Prop} {a : Act} {w : World} (h : c.wpIn F n P (Exit.then (LoopIn F n P c Q) Q) a w) : LoopIn F n P c Q a w := by
  intro b k cs hro hb hr
  obtain ⟨e, a₁, w₁, hq, harr⟩ := h b (.inLoop c :: k) cs hro hb hr
  cases e with
  | normal =>
    obtain ⟨e₂, a₂, w₂, hq₂, harr₂⟩ := hq b k cs hro hb hr
    exact ⟨e₂, a₂, w₂, hq₂, .of_steps (StepsIn.trans harr (.one (fenced_calm hb hr rfl) stepR_inLoop)) harr₂⟩
  | exit id => exact ⟨_, a₁, w₁, hq, .pass (x := .inLoop c) rfl (fun _ _ => .inl (by simp)) harr⟩
  | goto l => exact ⟨_, a₁, w₁, hq, .pass (x := .inLoop c) rfl (fun _ _ => .inl (by simp)) harr⟩
  | ret => exact ⟨_, a₁, w₁, hq, .pass (x := .inLoop c) rfl (fun _ _ => .inl (by simp)) harr⟩
  | panic ch => exact ⟨_, a₁, w₁, hq, .pass (x := .inLoop c) rfl (fun _ _ => .inl (by simp)) harr⟩
  | outgrown => exact ⟨_, a₁, w₁, hq, .pass (x := .inLoop c) rfl (fun _ _ => .inl (by simp)) harr⟩

theorem LoopIn.wpIn {F : Fence} {n : Nat} {c : Code} {Q : Exit → Act → World → Prop} {a : Act} {w : World} (h : LoopIn F n P c Q a w) : (Code.loop c).wpIn F n P Q a w := by
  intro b k cs hro hb hr
  obtain ⟨e, a', w', hq, harr⟩ := h b k cs hro hb hr
  exact ⟨e, a', w', hq, .of_steps (.one (fenced_calm hb hr rfl) stepR_loop) harr⟩

theorem LoopIn.mono {F : Fence} {n : Nat} {c : Code} {Q Q' : Exit → Act → World → Prop} {a : Act} {w : World} (h : LoopIn F n P c Q a w) (hq : ∀ e a w, Q e a w → Q' e a w) : LoopIn F n P c Q' a w :=
  fun b k cs hro hb hr => let ⟨e, a', w', q, r⟩ := h b k cs hro hb hr; ⟨e, a', w', hq _ _ _ q, r⟩

structure EngOk (P : Program) (e : Eng) : Prop where
  next : EngNext e
  call : ∀ {f args s v s' R μ w cargs}, e.call f args s = some (v, s') → s'.next ≤ R → HR P R μ s w → concs μ args = some cargs →
    (∃ fn, P.funcs[f]? = some fn ∧ fn.body.isNone = false ∧ (fn.name == "runtime.NumGoroutine") = false) ∧ ∀ n, CallsIn Fence.wide n P f cargs.toArray w (Rets P R μ s w v s')
  ex : ∀ {ro pc ts ds s x ts' ds' s' R μ w c N a F}, e.ex ro pc ts ds s = some (x, ts', ds', s') → s'.next ≤ R → HR P R μ s w → prepC P c = some pc → okPC N pc = true →
    TR μ ts a.tmps → a.tmps.size = N → DR μ ds a.defers → FenceOk μ ro F → ∀ n, c.wpIn F n P (Left P R μ s w N x ts' ds' s') a w
  loop : ∀ {ro pc ts ds s x ts' ds' s' R μ w c N a F}, e.ex ro (.loop pc) ts ds s = some (x, ts', ds', s') → s'.next ≤ R → HR P R μ s w → prepC P c = some pc → okPC N pc = true →
    TR μ ts a.tmps → a.tmps.size = N → DR μ ds a.defers → FenceOk μ ro F → ∀ n, LoopIn F n P c (Left P R μ s w N x ts' ds' s') a w

theorem TR.put {μ : Place} {ts : Tr AV} {tmps : Array Value} (h : TR μ ts tmps) {t : Nat} (ht : t < tmps.size) {v : AV} {c : Value} (hc : conc μ v = some c) : TR μ (ts.set t v) (tmps.setIfInBounds t c) := by
  intro u x hx
  rw [Tr.get_set] at hx
  by_cases e : u = t
  · subst e
    rw [if_pos rfl] at hx; cases hx
    exact ⟨c, by simp [ht], hc⟩
  · rw [if_neg e] at hx
    obtain ⟨y, h1, h2⟩ := h u x hx
    exact ⟨y, by rw [Array.getElem?_setIfInBounds_ne (Ne.symm e)]; exact h1, h2⟩

theorem TR.sets {μ : Place} : ∀ {ps : List Nat} {as : List AV} {cs : List Value} {ts : Tr AV} {tmps : Array Value}, TR μ ts tmps → concs μ as = some cs → okNats tmps.size ps = true →
    TR μ (setTs ps as ts) ((ps.zip cs).foldl (fun tmps (t, a) => tmps.setIfInBounds t a) tmps) ∧ ((ps.zip cs).foldl (fun (tmps : Array Value) (t, a) => tmps.setIfInBounds t a) tmps).size = tmps.size
  | [], _, _, _, _, h, _, _ => ⟨h, rfl⟩
  | p :: ps, [], cs, ts, tmps, h, hc, _ => by
    simp only [concs, Option.some.injEq] at hc; subst hc
    exact ⟨by simpa [setTs] using h, by simp⟩
  | p :: ps, a :: as, cs, ts, tmps, h, hc, hok => by
    simp only [concs, Option.bind_eq_some_iff, Option.map_eq_some_iff] at hc
    obtain ⟨x, hx, y, hy, rfl⟩ := hc
    simp only [okNats, Bool.and_eq_true, Nat.blt_eq] at hok
    have := TR.sets (ps := ps) (as := as) (cs := y) (ts := ts.set p a) (tmps := tmps.setIfInBounds p x) (h.put hok.1 hx) hy (by simpa using hok.2)
    simpa [setTs] using this

theorem conc_yld {μ : Place} {r : Nat} {c : Value} (h : conc μ (.yld r) = some c) : ∃ p, μ r = some p ∧ c = .func (.yield p.1) #[] #[] := by
  simp only [conc, Option.map_eq_some_iff] at h
  obtain ⟨p, hp, rfl⟩ := h
  exact ⟨p, hp, rfl⟩

theorem isNone_jumpCode (x : AExit) : (jumpCode x).isNone = (match x with | .normal => true | _ => false) := by cases x <;> rfl

/-- A loop's record, as it lies. -/
theorem HR.loop {R : Nat} {μ : Place} {s : St} {w : World} (h : HR P R μ s w) {r : Nat} {st : LoopState} {pe : AExit} {ts : Tr AV} {ps : List Nat} {as bd : PC} {d : Nat} (hg : s.get r = some (.loop st pe ts ps as bd d)) {p : Nat × Nat} (hp : μ r = some p) :
    ∃ (L : Loop) (q : Nat × Nat), w.heap[p.1]? = some (.loop L) ∧ L.state = st ∧ L.pending = jumpCode pe ∧ TR μ ts L.tmps ∧ L.params.toList = ps ∧ prepC P L.assign = some as ∧ prepC P L.body = some bd ∧ μ d = some q ∧ L.defers = q.1 ∧
      okNats L.tmps.size ps = true ∧ okPC L.tmps.size as = true ∧ okPC L.tmps.size bd = true := by
  obtain ⟨p', hp', L, q, h1⟩ := h.obj _ _ hg
  rw [hp] at hp'; cases hp'
  exact ⟨L, q, h1⟩

/-- The record's state and what is pending are turned. -/
theorem HR.loop_turn {R : Nat} {μ : Place} {s : St} {w : World} (h : HR P R μ s w) (hR : s.next ≤ R) {r : Nat} {st st' : LoopState} {pe pe' : AExit} {ts : Tr AV} {ps : List Nat} {as bd : PC} {d : Nat} (hg : s.get r = some (.loop st pe ts ps as bd d)) {p : Nat × Nat} (hp : μ r = some p)
    {L : Loop} (hL : w.heap[p.1]? = some (.loop L)) : HR P R μ (s.put r (.loop st' pe' ts ps as bd d)) (w.putObj p.1 (.loop { L with state := st', pending := jumpCode pe' })) ∧
      Mv μ s w μ (s.put r (.loop st' pe' ts ps as bd d)) (w.putObj p.1 (.loop { L with state := st', pending := jumpCode pe' })) := by
  obtain ⟨L', q, h1, h2, h3, h4, h5, h6, h7, h8, h9, h10, h11, h12⟩ := h.loop hg hp
  rw [hL] at h1; cases h1
  have hlt : p.1 < w.heap.size := (h.lt _ _ hp).1
  refine h.turn hR hg hp (by simp) ?_ rfl rfl rfl (by simp) (fun k hk => World.putObj_heap_other hk)
  exact ⟨_, q, World.putObj_heap_same hlt, rfl, rfl, h4, h5, h6, h7, h8, h9, h10, h11, h12⟩

theorem roundA_sound {e : Eng} (hE : EngOk P e) {r : Nat} {args : List AV} {s s' : St} {v : AV} (hx : roundA e r args s = some (v, s')) {R : Nat} (hR : s'.next ≤ R) {μ : Place} {w : World} (h : HR P R μ s w) {cargs : List Value} (hc : concs μ args = some cargs)
    {p : Nat × Nat} (hp : μ r = some p) {ro : Option Nat} {F : Fence} (hF : FenceOk μ ro F) :
    ∃ f tmps assign body, (Instr.yield p.1 cargs.toArray).run P w = .ok (.round p.1 f tmps assign body) w ∧ ∀ n, RoundIn F n P p.1 f tmps assign body w (Rets P R μ s w v s') := by
  unfold roundA at hx
  split at hx
  case h_2 => cases hx
  rename_i pe0 ts ps as bd d hg
  split at hx
  case isFalse => cases hx
  rename_i hlen
  split at hx
  case h_2 => cases hx
  rename_i ts1 s1 hx1
  split at hx
  case h_2 => cases hx
  rename_i pe ts2 ps2 as2 bd2 d2 hg1
  split at hx
  case h_2 => cases hx
  rename_i x ts3 s3 hx2
  split at hx
  case h_2 => cases hx
  rename_i st3 pe3 ts4 ps4 as4 bd4 d4 hg3
  obtain ⟨L, q, h1, h2, h3, h4, h5, h6, h7, h8, h9, h10, h11, h12⟩ := h.loop hg hp
  have hcl := concs_length hc
  have hs : cargs.toArray.size = L.params.size := by
    have : L.params.size = ps.length := by rw [← h5]; simp
    simp; omega
  refine ⟨_, _, _, _, run_yield h1 hs, fun n => ?_⟩
  have n1 := hE.next.ex hx1
  have n2 := hE.next.ex hx2
  simp only [St.next_put] at n2
  have n3 : s3.next ≤ s'.next := by split at hx <;> (cases hx; simp)
  obtain ⟨t1, t2⟩ := h4.sets hc h10
  have hfold : (L.params.zip cargs.toArray).foldl (fun (tmps : Array Value) (t, a) => tmps.setIfInBounds t a) L.tmps = (ps.zip cargs).foldl (fun tmps (t, a) => tmps.setIfInBounds t a) L.tmps := by
    rw [← Array.foldl_toList, Array.toList_zip, h5]
  have hfr : FenceOk μ (some r) (F.inRound p.1) := ⟨p, hp, hF.inRound p.1⟩
  refine roundIn_of_wpIn (hF.fn _) ?_
  refine wpIn_mono (hE.ex (R := R) (a := { tmps := _, defers := [] }) (N := L.tmps.size) hx1 (by omega) h h6 h11 (by rw [hfold]; exact t1) (by rw [hfold]; exact t2) (show DR μ [] ([] : List Deferred) from trivial) hfr n) ?_
  rintro ex a1 w1 ⟨rfl, ν, u1, u2, u3, u4, u5⟩
  have hp1 : ν r = some p := u5.le _ _ hp
  obtain ⟨L1, q1, k1, k2, k3, k4, k5, k6, k7, k8⟩ := u4.loop hg1 hp1
  refine ⟨_, run_beginRound k1 k2, ?_⟩
  obtain ⟨b1, b2⟩ := u4.loop_turn (st' := .busy) (pe' := pe) (by omega) hg1 hp1 k1
  have e1 : ({ L1 with state := LoopState.busy, pending := jumpCode pe } : Loop) = { L1 with state := .busy } := by rw [← k3]
  rw [e1] at b1 b2
  refine wpIn_mono (hE.ex (R := R) (N := L.tmps.size) hx2 (by omega) b1 h7 h12 u1 u2 u3 (hfr.mono u5.le) n) ?_
  rintro ex a2 w2 ⟨rfl, ξ, y1, y2, y3, y4, y5⟩
  have hp2 : ξ r = some p := y5.le _ _ hp1
  obtain ⟨L2, q2, m1, m2, m3, m4⟩ := y4.loop hg3 hp2
  have fin : ∀ (x : AExit) (st' : LoopState), st' = (if (jumpCode x).isNone then .ready else .done) → v = .bool (jumpCode x).isNone → s' = s3.put r (.loop st' x ts4 ps4 as4 bd4 d4) →
      ∃ c w', (Instr.endRound p.1 (jumpCode x)).run P w2 = .ok c w' ∧ Rets P R μ s w v s' (.returned c) w' := by
    intro x st' e1 e2 e3
    obtain ⟨c1, c2⟩ := y4.loop_turn (st' := st') (pe' := x) (by omega) hg3 hp2 m1
    refine ⟨_, _, run_endRound _ m1, ξ, ?_, ?_, ?_⟩
    · rw [e2]; rfl
    · rw [e3, ← e1]; exact c1
    · rw [e3, ← e1]; exact (u5.trans b2).trans (y5.trans c2)
  cases x with
  | normal => simp only [Option.some.injEq, Prod.mk.injEq] at hx; obtain ⟨rfl, rfl⟩ := hx; exact fin .normal .ready rfl rfl rfl
  | exit id => simp only [Option.some.injEq, Prod.mk.injEq] at hx; obtain ⟨rfl, rfl⟩ := hx; exact fin (.exit id) .done rfl rfl rfl
  | ret => simp only [Option.some.injEq, Prod.mk.injEq] at hx; obtain ⟨rfl, rfl⟩ := hx; exact fin .ret .done rfl rfl rfl
end Go.Proofs.Yteffppdkofdmdaa.D
