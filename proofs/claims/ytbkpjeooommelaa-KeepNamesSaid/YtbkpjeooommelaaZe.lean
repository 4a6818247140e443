/- Code that may be left in several ways: what holds of all of them; loops over maps. Plain laws; no program.
The functions 0 to 29 of the program, as the abstract machine's. Printed by a program. -/
import Derived.Test.YtbkpjeooommelaaZd
import Derived.Maps.RangeRun
import Derived.Test.YtbkpjeooommelaaProg
import Derived.KernelRfl
namespace Go.Proofs.Ytbkpjeooommelaa.D
noncomputable section
variable {P : Program} {R : Nat}

abbrev NPost := AExit → Tr AV → List Nat → St → Prop

def NLeft (P : Program) (R : Nat) (μ : Place) (s : St) (w : World) (N : Nat) (Q : NPost) : Exit → Act → World → Prop :=
  fun e a' w' => ∃ x ts' ds' s', Q x ts' ds' s' ∧ Left P R μ s w N x ts' ds' s' e a' w'

theorem NLeft.trans {μ ν : Place} {s s1 : St} {w w1 : World} {N : Nat} {Q : NPost} {e : Exit} {a : Act} {w' : World} (m : Mv μ s w ν s1 w1) (h : NLeft P R ν s1 w1 N Q e a w') : NLeft P R μ s w N Q e a w' := by
  obtain ⟨x, ts', ds', s', h1, h2⟩ := h
  exact ⟨x, ts', ds', s', h1, h2.trans m⟩
theorem NLeft.mono {μ : Place} {s : St} {w : World} {N : Nat} {Q Q' : NPost} {e : Exit} {a : Act} {w' : World} (h : NLeft P R μ s w N Q e a w') (hq : ∀ x ts ds s, Q x ts ds s → Q' x ts ds s) : NLeft P R μ s w N Q' e a w' := by
  obtain ⟨x, ts', ds', s', h1, h2⟩ := h
  exact ⟨x, ts', ds', s', hq _ _ _ _ h1, h2⟩

/-- However a piece of code is left, it is as told. -/
def Nk (P : Program) (R : Nat) (pc : PC) (ts : Tr AV) (ds : List Nat) (s : St) (Q : NPost) : Prop :=
  ∀ (c : Code) (N : Nat) (a : Act) (μ : Place) (w : World) (n : Nat), prepC P c = some pc → okPC N pc = true → HR P R μ s w → TR μ ts a.tmps → a.tmps.size = N → DR μ ds a.defers → c.wpIn Fence.wide n P (NLeft P R μ s w N Q) a w
/-- The same, of a loop with that body. -/
def Nl (P : Program) (R : Nat) (pc : PC) (ts : Tr AV) (ds : List Nat) (s : St) (Q : NPost) : Prop :=
  ∀ (c : Code) (N : Nat) (a : Act) (μ : Place) (w : World) (n : Nat), prepC P c = some pc → okPC N pc = true → HR P R μ s w → TR μ ts a.tmps → a.tmps.size = N → DR μ ds a.defers → LoopIn Fence.wide n P c (NLeft P R μ s w N Q) a w

variable {ts : Tr AV} {ds : List Nat} {s : St} {Q : NPost}

theorem Nk.mono {pc : PC} {Q' : NPost} (h : Nk P R pc ts ds s Q) (hq : ∀ x ts ds s, Q x ts ds s → Q' x ts ds s) : Nk P R pc ts ds s Q' :=
  fun c N a μ w n hp hok h0 ht hN hd => wpIn_mono (h c N a μ w n hp hok h0 ht hN hd) fun _ _ _ hl => hl.mono hq

theorem Nk.of_Wk {M : Mach} (hm : P.follows .mixedOrders = true) (hFT : FnsOk P M.FT) (hSM : SumsOk P M.SM) (hSN : SumsNext M.SM) {pc : PC} (h : Wk M none [] pc ts ds s fun x ts' ds' s' => s'.next ≤ R ∧ Q x ts' ds' s') : Nk P R pc ts ds s Q := by
  obtain ⟨x, ts', ds', s', h1, h2⟩ := h
  rw [Wr_nil] at h2
  intro c N a μ w n hp hok h0 ht hN hd
  obtain ⟨k, hk⟩ := (sup_lim M.FT M.SM).ex _ _ _ _ _ _ h1
  exact wpIn_mono ((eng_sound hm hFT hSM hSN k).ex (ro := none) (F := Fence.wide) hk h2.1 h0 hp hok ht hN hd rfl n) fun e a' w' hl => ⟨x, ts', ds', s', h2.2, hl⟩

theorem prepC_reg {id : Nat} {ops : Array Oper} {draw : Bool} {pc : PC} (h : prepC P (.region id ops draw) = some pc) (h1 : ∀ l, pc ≠ .region l) (h2 : ∀ l k, pc ≠ .drawn l k) : False := by
  simp only [prepC] at h
  split at h
  · cases h
  · split at h
    · split at h
      · simp only [Option.some.injEq] at h; exact h2 _ _ h.symm
      · cases h
    · simp only [Option.some.injEq] at h; exact h1 _ h.symm
theorem prepC_seq {c : Code} {a b : PC} (h : prepC P c = some (.seq a b)) : ∃ c1 c2, c = .seq c1 c2 ∧ prepC P c1 = some a ∧ prepC P c2 = some b := by
  cases c with
  | seq c1 c2 =>
    simp only [prepC] at h
    split at h
    case h_1 => cases h
    rename_i p1 hp1
    split at h
    case h_1 => cases h
    rename_i p2 hp2
    cases h
    exact ⟨_, _, rfl, hp1, hp2⟩
  | region id ops draw => exact (prepC_reg h (by simp) (by simp)).elim
  | _ => exfalso; (unfold prepC at h; (repeat' split at h) <;> cases h)
theorem prepC_block {c : Code} {id : Nat} {a : PC} (h : prepC P c = some (.block id a)) : ∃ c1, c = .block id c1 ∧ prepC P c1 = some a := by
  cases c with
  | block id' c1 =>
    simp only [prepC] at h
    split at h
    case h_1 => cases h
    rename_i p1 hp1
    cases h
    exact ⟨_, rfl, hp1⟩
  | region id ops draw => exact (prepC_reg h (by simp) (by simp)).elim
  | _ => exfalso; (unfold prepC at h; (repeat' split at h) <;> cases h)
theorem prepC_loop {c : Code} {a : PC} (h : prepC P c = some (.loop a)) : ∃ c1, c = .loop c1 ∧ prepC P c1 = some a := by
  cases c with
  | loop c1 =>
    simp only [prepC] at h
    split at h
    case h_1 => cases h
    rename_i p1 hp1
    cases h
    exact ⟨_, rfl, hp1⟩
  | region id ops draw => exact (prepC_reg h (by simp) (by simp)).elim
  | _ => exfalso; (unfold prepC at h; (repeat' split at h) <;> cases h)
theorem prepC_cond {c : Code} {x : X} {a b : PC} (h : prepC P c = some (.cond x a b)) : ∃ o c1 c2, c = .cond o c1 c2 ∧ prepX o = some x ∧ prepC P c1 = some a ∧ prepC P c2 = some b := by
  cases c with
  | cond o c1 c2 =>
    simp only [prepC] at h
    split at h
    case h_1 => cases h
    rename_i z hz
    split at h
    case h_1 => cases h
    rename_i p1 hp1
    split at h
    case h_1 => cases h
    rename_i p2 hp2
    cases h
    exact ⟨_, _, _, rfl, hz, hp1, hp2⟩
  | region id ops draw => exact (prepC_reg h (by simp) (by simp)).elim
  | _ => exfalso; (unfold prepC at h; (repeat' split at h) <;> cases h)
theorem prepC_region {c : Code} {ps : List PO} (h : prepC P c = some (.region ps)) : ∃ id ops, c = .region id ops false ∧ prepPOs P ops.toList ops.toList = some ps := by
  cases c with
  | region id ops draw =>
    simp only [prepC] at h
    split at h
    case h_1 => cases h
    rename_i ps hps
    split at h
    · split at h <;> cases h
    · rename_i hdr
      cases h
      have : draw = false := by simpa using hdr
      subst this
      exact ⟨_, _, rfl, hps⟩
  | _ => exfalso; (unfold prepC at h; (repeat' split at h) <;> cases h)

theorem Nk.seq {a b : PC} (h : Nk P R a ts ds s fun x ts' ds' s' => match x with | .normal => Nk P R b ts' ds' s' Q | x => Q x ts' ds' s') : Nk P R (.seq a b) ts ds s Q := by
  intro c N ac μ w n hp hok h0 ht hN hd
  obtain ⟨c1, c2, rfl, hp1, hp2⟩ := prepC_seq hp
  simp only [okPC, Bool.and_eq_true] at hok
  refine wpIn_seq (wpIn_mono (h c1 N ac μ w n hp1 hok.1 h0 ht hN hd) ?_)
  rintro e a1 w1 ⟨x, ts1, ds1, s1, hq, rfl, ν, g1, g2, g3, g4, g5⟩
  cases x with
  | normal => exact wpIn_mono (hq c2 N a1 ν w1 n hp2 hok.2 g4 g1 g2 g3) fun _ _ _ hl => hl.trans g5
  | exit id => exact ⟨_, _, _, _, hq, rfl, ν, g1, g2, g3, g4, g5⟩
  | ret => exact ⟨_, _, _, _, hq, rfl, ν, g1, g2, g3, g4, g5⟩

theorem Nk.block {id : Nat} {a : PC} (h : Nk P R a ts ds s fun x ts' ds' s' => Q (match x with | .exit id' => if id' = id then .normal else .exit id' | x => x) ts' ds' s') : Nk P R (.block id a) ts ds s Q := by
  intro c N ac μ w n hp hok h0 ht hN hd
  obtain ⟨c1, rfl, hp1⟩ := prepC_block hp
  refine wpIn_block (wpIn_mono (h c1 N ac μ w n hp1 hok h0 ht hN hd) ?_)
  rintro e a1 w1 ⟨x, ts1, ds1, s1, hq, rfl, hl⟩
  cases x with
  | normal => exact ⟨_, _, _, _, hq, rfl, hl⟩
  | ret => exact ⟨_, _, _, _, hq, rfl, hl⟩
  | exit id' =>
    simp only [exitOf, Exit.inBlock]
    by_cases hid : id' = id
    · rw [if_pos hid]
      simp only [if_pos hid] at hq
      exact ⟨_, _, _, _, hq, rfl, hl⟩
    · rw [if_neg hid]
      simp only [if_neg hid] at hq
      exact ⟨_, _, _, _, hq, rfl, hl⟩

theorem Nk.cond {x : X} {a b : PC} {v : Bool} (hv : evOf ts x = some (.bool v)) (h : Nk P R (if v then a else b) ts ds s Q) : Nk P R (.cond x a b) ts ds s Q := by
  intro c N ac μ w n hp hok h0 ht hN hd
  obtain ⟨o, c1, c2, rfl, hx, hp1, hp2⟩ := prepC_cond hp
  simp only [okPC, Bool.and_eq_true] at hok
  have := evR_of ht _ _ _ hx hv
  simp only [conc, Option.some.injEq] at this
  cases v with
  | true => exact wpIn_cond (t := true) this.symm (h c1 N ac μ w n hp1 hok.1 h0 ht hN hd)
  | false => exact wpIn_cond (t := false) this.symm (h c2 N ac μ w n hp2 hok.2 h0 ht hN hd)

theorem Nl.step {a : PC} (h : Nk P R a ts ds s fun x ts' ds' s' => match x with | .normal => Nl P R a ts' ds' s' Q | x => Q x ts' ds' s') : Nl P R a ts ds s Q := by
  intro c N ac μ w n hp hok h0 ht hN hd
  refine LoopIn.step (wpIn_mono (h c N ac μ w n hp hok h0 ht hN hd) ?_)
  rintro e a1 w1 ⟨x, ts1, ds1, s1, hq, rfl, ν, g1, g2, g3, g4, g5⟩
  cases x with
  | normal => exact (hq c N a1 ν w1 n hp hok g4 g1 g2 g3).mono fun _ _ _ hl => hl.trans g5
  | exit id => exact ⟨_, _, _, _, hq, rfl, ν, g1, g2, g3, g4, g5⟩
  | ret => exact ⟨_, _, _, _, hq, rfl, ν, g1, g2, g3, g4, g5⟩

theorem Nk.loop {a : PC} (h : Nl P R a ts ds s Q) : Nk P R (.loop a) ts ds s Q := by
  intro c N ac μ w n hp hok h0 ht hN hd
  obtain ⟨c1, rfl, hp1⟩ := prepC_loop hp
  exact LoopIn.wpIn (h c1 N ac μ w n hp1 hok h0 ht hN hd)

/-- A loop, by what holds at its head. -/
theorem Nl.ind {a : PC} (I : Nat → Tr AV → St → Prop) (step : ∀ n ts s, I n ts s → (∀ m ts' s', m < n → I m ts' s' → Nl P R a ts' ds s' Q) → Nk P R a ts ds s fun x ts' ds' s' => match x with | .normal => Nl P R a ts' ds' s' Q | x => Q x ts' ds' s') :
    ∀ {n ts s}, I n ts s → Nl P R a ts ds s Q := by
  intro n
  induction n using Nat.strongRecOn with
  | ind n ih =>
    intro ts s h
    exact Nl.step (step n ts s h fun m ts' s' hm h' => ih m hm h')

theorem entriesR_mem {μ : Place} : ∀ {es : List (AV × AV × Nat)} {ces : List MapEntry} {c : MapEntry}, entriesR μ es ces → c ∈ ces → ∃ e ∈ es, entryR μ e c
  | [], [], _, _, h => by cases h
  | x :: l, y :: m, c, he, h => by
    rcases List.mem_cons.1 h with rfl | h
    · exact ⟨x, List.mem_cons_self .., he.1⟩
    · obtain ⟨e, h1, h2⟩ := entriesR_mem he.2 h
      exact ⟨e, List.mem_cons_of_mem _ h1, h2⟩
  | [], _ :: _, _, he, _ => he.elim
  | _ :: _, [], _, he, _ => he.elim
theorem entriesR_mem' {μ : Place} : ∀ {es : List (AV × AV × Nat)} {ces : List MapEntry} {e : AV × AV × Nat}, entriesR μ es ces → e ∈ es → ∃ c ∈ ces, entryR μ e c
  | [], [], _, _, h => by cases h
  | x :: l, y :: m, c, he, h => by
    rcases List.mem_cons.1 h with rfl | h
    · exact ⟨y, List.mem_cons_self .., he.1⟩
    · obtain ⟨e, h1, h2⟩ := entriesR_mem' he.2 h
      exact ⟨e, List.mem_cons_of_mem _ h1, h2⟩
  | [], _ :: _, _, he, _ => he.elim
  | _ :: _, [], _, he, _ => he.elim

theorem heap_drew (w : World) : w.drew.heap = w.heap := rfl
theorem prepOp_next {o : Oper} {x : X} (h : (prepOp P o).getD .fail = .next x) : ∃ y, o.op = .next y false ∧ prepX y = some x := by
  cases hp : prepOp P o with
  | none => rw [hp] at h; cases h
  | some q =>
    rw [hp] at h
    simp only [Option.getD_some] at h
    subst h
    cases ho : o.op with
    | next y b =>
      simp only [prepOp, ho] at hp
      cases b with
      | true => cases hp
      | false =>
        simp only [Bool.false_eq_true, if_false, Option.map_eq_some_iff] at hp
        obtain ⟨z, hz, e⟩ := hp
        cases e
        exact ⟨y, rfl, hz⟩
    | call c =>
      exfalso
      simp only [prepOp, ho] at hp
      cases hc : c.callee with
      | value y =>
        rw [hc] at hp
        simp only at hp
        split at hp
        · simp only [Option.map_eq_some_iff] at hp; obtain ⟨_, _, e⟩ := hp; cases e
        · cases hp
      | builtin b =>
        rw [hc] at hp
        simp only at hp
        split at hp
        · unfold prepBuiltin prepAppend prepCopy prepLen prepCap prepClear prepDelete at hp
          repeat' split at hp
          all_goals (cases hp)
        · cases hp
      | invoke a b => rw [hc] at hp; cases hp
    | _ =>
      exfalso
      unfold prepOp at hp
      rw [ho] at hp
      (try dsimp only at hp)
      repeat' split at hp
      all_goals first
        | (cases hp; done)
        | (simp only [Option.map_eq_some_iff] at hp; obtain ⟨_, _, hp⟩ := hp; cases hp; done)
        | (simp_all; done)

/-- A step of a loop over a map, and what is done with it in the same region. -/
theorem Nk.next {M : Mach} (hm : P.follows .mixedOrders = true) (hFT : FnsOk P M.FT) (hSM : SumsOk P M.SM) (hSN : SumsNext M.SM) {d it b r since last clock : Nat} {seen : List Nat} {es : List (AV × AV × Nat)} {ps : List PO}
    (g : ts.get it = some (.ptr b 0)) (hb : s.get b = some (.miter (some r) since seen last)) (hr : s.get r = some (.map es clock)) (hold : ∀ e ∈ es, e.2.2 < since) (hsc : since ≤ last) (hR : s.next ≤ R)
    (h0 : (∀ e ∈ es, seen.contains e.2.2 = true) → Wo M none [] none ps (ts.set d (.tup [.bool false])) ds s fun x ts' ds' s' => s'.next ≤ R ∧ Q x ts' ds' s')
    (h1 : ∀ e ∈ es, seen.contains e.2.2 = false → Wo M none [] none ps (ts.set d (.tup [.bool true, e.1, e.2.1])) ds (s.put b (.miter (some r) since (seen ++ [e.2.2]) clock)) fun x ts' ds' s' => s'.next ≤ R ∧ Q x ts' ds' s') :
    Nk P R (.region (⟨some d, .next (.t it), none⟩ :: ps)) ts ds s Q := by
  intro c N ac μ w n hp hok h0' ht hN hd
  obtain ⟨id, ops, rfl, hps⟩ := prepC_region hp
  refine wpIn_region ?_
  have hlen : ∃ o rest, ops.toList = o :: rest := by
    cases hl : ops.toList with
    | nil => rw [hl] at hps; cases hps
    | cons o rest => exact ⟨o, rest, rfl⟩
  obtain ⟨o, rest, hl⟩ := hlen
  have hps' := hps
  rw [hl] at hps'
  simp only [prepPOs] at hps'
  split at hps'
  case h_2 => cases hps'
  rename_i p hp1
  split at hps'
  case h_2 => cases hps'
  rename_i l hp2
  cases hps'
  obtain ⟨e1, e2⟩ := prepPO_op hp1
  obtain ⟨y, hoy, hyx⟩ := prepOp_next e1
  have hy : y = .tmp it := by
    cases y with
    | tmp t => simp only [prepX, Option.some.injEq, X.t.injEq] at hyx; rw [hyx]
    | const v => simp [prepX] at hyx
    | func f => simp [prepX] at hyx
    | global gg => cases hyx
  subst hy
  have hgd : o.guard = none := by
    cases hg : o.guard with
    | none => rfl
    | some jw =>
      obtain ⟨j, want⟩ := jw
      unfold prepPO at hp1
      rw [hg] at hp1
      simp only at hp1
      split at hp1
      · simp only [Option.some.injEq, PO.mk.injEq] at hp1
        exact absurd hp1.2.2 (by simp)
      · cases hp1
  have hsz : ops.size = rest.length + 1 := by rw [← Array.length_toList, hl]; rfl
  have hi : ∀ i : Nat, (o :: rest)[i]? = ops[i]? := by intro i; rw [← hl]; simp
  have hk0 : ops[0]? = some o := by rw [← hi 0]; rfl
  rw [List.range_eq_range', hsz, List.range'_succ]
  simp only [wpOpsIn, hk0]
  have hw : Region.wanted o (yielded ops ac.tmps) = true := by unfold Region.wanted; rw [hgd]
  rw [hw]
  simp only [if_true]
  refine ⟨fun f _ => trivial, ?_⟩
  rw [Oper.semAt_eq _ _ _ (fun c e => by rw [hoy] at e; cases e)]
  obtain ⟨cv, hcv, hcc⟩ := ht it _ g
  obtain ⟨pb, hpb, rfl⟩ := isSome_of_conc_ptr hcc
  have hev : ac.eval (.tmp it) = .pointer (some ⟨pb.1, 0, none⟩) := by simp [Act.eval, hcv]
  obtain ⟨pb', hpb', m', ⟨qm, hqm, rfl⟩, hit⟩ := h0'.obj _ _ hb
  rw [hpb] at hpb'; cases hpb'
  obtain ⟨ces, hce, her⟩ := h0'.mapAt hr hqm
  have hold' : ∀ x ∈ ces.toList, x.born < since := fun x hx => by
    obtain ⟨e, he, h3⟩ := entriesR_mem her hx
    rw [← h3.2.2]; exact hold e he
  have hexec : execOp ac.eval o = (do pure (.value (← Instr.next (.pointer (some ⟨pb.1, 0, none⟩)) false o.type))) := by
    simp only [execOp, hoy, hev]
  have hops : ops = ops.toList.toArray := by simp
  have hi' : ∀ i : Nat, rest[i]? = ops[0 + 1 + i]? := by
    intro i
    have := hi (i + 1)
    rw [List.getElem?_cons_succ] at this
    rw [this]; congr 1; omega
  have hok1 : okPOs N ps = true := by
    have : okPOs N (⟨some d, .next (.t it), none⟩ :: ps) = true := hok
    simp only [okPOs, Bool.and_eq_true] at this
    exact this.2
  have hdN : d < ac.tmps.size := by
    have : okPOs N (⟨some d, .next (.t it), none⟩ :: ps) = true := hok
    simp only [okPOs, Bool.and_eq_true] at this
    rw [hN]
    simpa using this.1
  have fin : ∀ (v : AV) (cvv : Value) (s1 : St) (w1 : World), conc μ v = some cvv → HR P R μ s1 w1 → Mv μ s w μ s1 w1 →
      (Wo M none [] none ps (ts.set d v) ds s1 fun x ts' ds' s' => s'.next ≤ R ∧ Q x ts' ds' s') → wpOpsIn Fence.wide n P ops (NLeft P R μ s w N Q) (List.range' (0 + 1) rest.length) (ac.put o.dst cvv) w1 := by
    intro v cvv s1 w1 k1 k2 k3 k4
    obtain ⟨ts', s', k5, k6⟩ := k4
    rw [Wr_nil] at k6
    obtain ⟨j, hj⟩ := (cont_runOps ps (ts.set d v) s1).fin _ _ (sup_lim M.FT M.SM) _ k5
    have e2' : o.dst = some d := e2.symm
    refine ops_wpIn (eng_sound hm hFT hSM hSN j) (ro := none) (F := Fence.wide) rest ps (0 + 1) _ _ s1 w1 μ (by rw [hl]; exact hp2) hi' hj k6.1 k2 ?_ (by rw [put_size]; exact hN) hok1 (by rw [put_defers]; exact hd) rfl ?_
    · rw [e2']
      exact ht.putT (d := some d) (fun t e => by cases e; exact hdN) k1
    · intro ξ a' w' u1 u2 u3 u4 u5
      exact ⟨_, _, _, _, k6.2, rfl, ξ, u1, u2, u3, u4, k3.trans u5⟩
  rcases run_next_at (P := P) w o.type pb.1 qm.1 since last seen.toArray ces clock hit hce hold' hsc with ⟨hz, hrun⟩ | ⟨e, he, w1, hw1, hrun⟩
  · rw [hexec]
    simp only [Sem.run_bind, hrun, Result.andThen_ok, Sem.run_pure]
    rw [Oper.uponIn_value]
    refine fin (.tup [.bool false]) _ s w (by simp [conc, concs]) h0' (Mv.refl h0' hR) (h0 fun e he => ?_)
    obtain ⟨cc, hcc, h3⟩ := entriesR_mem' her he
    have hem : leftOf ces seen.toArray = #[] := Array.eq_empty_of_size_eq_zero hz
    unfold leftOf at hem
    rw [Array.filter_eq_empty_iff] at hem
    have := hem cc (by simpa using hcc)
    rw [h3.2.2]
    simpa using this
  · rw [hexec]
    simp only [Sem.run_bind, hrun, Result.andThen_ok, Sem.run_pure]
    rw [Oper.uponIn_value]
    unfold leftOf at he
    simp only [Array.toList_filter, List.mem_filter] at he
    obtain ⟨x, hx, h3⟩ := entriesR_mem her he.1
    have hns : seen.contains x.2.2 = false := by rw [h3.2.2]; simpa using he.2
    have hpl : pb.1 < w.heap.size := (h0'.lt _ _ hpb).1
    have hh1 : w1.heap = w.heap := by rcases hw1 with rfl | rfl <;> rfl
    obtain ⟨t1, t2⟩ := h0'.turn (o' := .miter (some r) since (seen ++ [x.2.2]) clock) (w' := ChangeMaps.setBlock w1 pb.1 (.mapIter (some qm.1) since (seen.toArray.push e.born) clock)) hR hb hpb (by simp)
      ⟨some qm.1, ⟨qm, hqm, rfl⟩, by simp only [ChangeMaps.setBlock, hh1]; rw [h3.2.2, Array.getElem?_setIfInBounds_self_of_lt hpl]; simp⟩
      (by rcases hw1 with rfl | rfl <;> rfl) (by rcases hw1 with rfl | rfl <;> rfl) (by rcases hw1 with rfl | rfl; exact ⟨rfl, Nat.le_refl _⟩; exact ⟨rfl, Nat.le_succ _⟩) (by simp [ChangeMaps.setBlock, hh1])
      (fun k hk => by simp only [ChangeMaps.setBlock, hh1]; rw [Array.getElem?_setIfInBounds_ne (fun e => hk e.symm)])
    exact fin (.tup [.bool true, x.1, x.2.1]) _ _ _ (by simp [conc, concs, h3.1, h3.2.1]) t1 t2 (h1 x hx hns)

theorem Wo_range {M : Mach} {ro : Option Nat} {k : List Fk} {dr : Dr} {ops : List PO} {Q : Post} {d : Option Nat} {x : X} : Wo M ro k dr (⟨d, .range x, none⟩ :: ops) ts ds s Q = Wx M ro (xop (.range x) (evOf ts) s) d k (dr.push s) ops ts ds Q := Wo_op rfl
theorem Wo_entry {M : Mach} {ro : Option Nat} {k : List Fk} {dr : Dr} {ops : List PO} {Q : Post} {d : Option Nat} {x : X} : Wo M ro k dr (⟨d, .entry x, none⟩ :: ops) ts ds s Q = Wx M ro (xop (.entry x) (evOf ts) s) d k (dr.push s) ops ts ds Q := Wo_op rfl
attribute [go_sem] Wo_range Wo_entry

/-- However a function is left, it is as told. -/
def Nf (P : Program) (R : Nat) (f : Nat) (args : List AV) (s : St) (Q : AV → St → Prop) : Prop :=
  ∀ (μ : Place) (w : World) (cargs : List Value), HR P R μ s w → concs μ args = some cargs → ∀ n, CallsIn Fence.wide n P f cargs.toArray w fun e w' => ∃ v s', Q v s' ∧ Rets P R μ s w v s' e w'

theorem Nf.enter {FT : Fns} (hFT : FnsOk P FT) {f : Nat} {fd : FD} (hf : FT f = some fd) {args : List AV} (hlen : Nat.ble args.length fd.ntmps = true) {Q : AV → St → Prop}
    (h : Nk P R fd.body (initT 0 args .lf) [] s fun x ts ds s1 => s1.next ≤ R ∧ Fin fd.results Q x ts ds s1) : Nf P R f args s Q := by
  intro μ w cargs h0 hc n
  obtain ⟨fn, hfn, hp⟩ := hFT _ _ hf
  obtain ⟨c, hb, hpc, hpr, hname, hok, hnp⟩ := prepF_spec hp
  have hcl := concs_length hc
  have hle := Nat.le_of_ble_eq_true hlen
  have hsz : (cargs.toArray ++ Array.replicate (fn.ntmps - cargs.toArray.size) undef).size = fn.ntmps := by
    simp; omega
  refine callsIn_of_wp_marks hfn hb trivial ?_
  refine wpIn_mono (h c fn.ntmps { tmps := _, defers := [] } μ w n hpc hok h0 (TR.init hc _) hsz (show DR μ [] ([] : List Deferred) from trivial)) ?_
  rintro ex a1 w1 ⟨x, ts, ds, s1, ⟨hR, hne, s2, htk, l, hl, hq⟩, rfl, ν, g1, g2, g3, g4, g5⟩
  have leave : LeavesInM Fence.wide n P fn a1.tmps (fun e w' => ∃ v s', Q v s' ∧ Rets P R μ s w v s' e w') a1.defers .returning w1 := by
    refine leaves_sound htk hR g4 g3 fun w' k1 k2 => ?_
    obtain ⟨cv, r1, r2⟩ := run_results k1 g1 hpr hl
    exact ⟨cv, r1, _, _, hq, ν, r2, k1, g5.trans k2⟩
  cases x with
  | normal => exact leave
  | ret => exact leave
  | exit id => exact (hne _ rfl).elim

/-- Numbers left out. -/
def St.skip (s : St) (k : Nat) : St := { s with next := s.next + k }
theorem St.get_skip (s : St) (k b : Nat) : (s.skip k).get b = s.get b := rfl
theorem St.next_skip (s : St) (k : Nat) : (s.skip k).next = s.next + k := rfl

/-- What a call came to, told without any new block. -/
theorem canon0 {μ : Place} {s s1 : St} {w w' : World} {v : AV} {c : Value} {K : Nat} {v2 : AV} (h0 : HR P R μ s w) (hr : Rets P R μ s w v s1 (.returned c) w') (hf : Fr s s1) (hK : s1.next ≤ s.next + K) (hR : s.next + K ≤ R)
    (hv : ∀ ν : Place, conc ν v = some c → conc ν v2 = some c) : Rets P R μ s w v2 (s.skip K) (.returned c) w' := by
  obtain ⟨ν, h1, h2, h3⟩ := hr
  have hget : ∀ b x, (s.skip K).get b = some x → b < s.next ∧ s1.get b = some x := by
    intro b x hb
    rw [St.get_skip] at hb
    have := h0.dom b x hb
    exact ⟨this, (hf.get b this).trans hb⟩
  refine ⟨ν, hv ν h1, ⟨?_, ?_, ?_, ?_⟩, ⟨h3.le, h3.os, h3.output, h3.tape, h3.size, by simp [St.next_skip], ?_, ?_, h3.frame, ?_⟩⟩
  · intro b x hb
    exact h2.obj b x (hget b x hb).2
  · intro b d x y pb pd hb hd hpb hpd e
    exact h2.inj b d _ _ pb pd (hget b x hb).2 (hget d y hd).2 hpb hpd e
  · intro b z hz
    have := h2.lt _ _ hz
    refine ⟨this.1, ?_⟩
    simp only [St.next_skip]
    omega
  · intro b x hb
    have := (hget b x hb).1
    simp only [St.next_skip]
    omega
  · intro b z hz
    have := (h0.lt _ _ hz).2
    simp only [St.next_skip]
    omega
  · intro b z hz
    rcases h3.fresh b z hz with h4 | ⟨h4, h5, h6⟩
    · exact .inl h4
    · exact .inr ⟨h4, by simp only [St.next_skip]; omega, h6⟩
  · intro b vs l z x hb hx
    obtain ⟨h4, h5⟩ := h3.ro b vs l z x hb hx
    exact ⟨hb, h5⟩

/-- What a call came to, told by one new block alone. -/
theorem canon {μ : Place} {s s1 : St} {w w' : World} {v : AV} {c : Value} {K p : Nat} {o : AObj} {v2 : AV} (h0 : HR P R μ s w) (hr : Rets P R μ s w v s1 (.returned c) w') (hf : Fr s s1) (hK : s1.next ≤ s.next + K) (hR : s.next + K + 1 ≤ R) (hp : s.next ≤ p) (ho : s1.get p = some o)
    (hv : ∀ ν ν' : Place, ν.le ν' → ν' (s.next + K) = ν p → conc ν v = some c → conc ν' v2 = some c) : Rets P R μ s w v2 ((s.skip K).new o) (.returned c) w' := by
  obtain ⟨ν, h1, h2, h3⟩ := hr
  obtain ⟨q, hq, hoq⟩ := h2.obj _ _ ho
  have hnone : ν (s.next + K) = none := by
    cases e : ν (s.next + K) with
    | none => rfl
    | some x => have := (h2.lt _ _ e).2; omega
  have hle : ν.le (ν.add (s.next + K) q) := by
    intro b x hb
    unfold Place.add
    rw [if_neg]
    · exact hb
    · intro e; subst e; rw [hnone] at hb; cases hb
  have hself : (ν.add (s.next + K) q) (s.next + K) = some q := by simp [Place.add]
  have hget : ∀ b x, ((s.skip K).new o).get b = some x → (b = s.next + K ∧ x = o) ∨ (b < s.next ∧ s1.get b = some x ∧ b ≠ s.next + K) := by
    intro b x hb
    rw [St.get_new] at hb
    by_cases e : b = (s.skip K).next
    · rw [if_pos e] at hb; cases hb; exact .inl ⟨e, rfl⟩
    · rw [if_neg e, St.get_skip] at hb
      have := h0.dom b x hb
      exact .inr ⟨this, (hf.get b this).trans hb, e⟩
  have hpn : p < s1.next := h2.dom _ _ ho
  refine ⟨ν.add (s.next + K) q, hv ν _ hle (by rw [hself, hq]) h1, ⟨?_, ?_, ?_, ?_⟩, ⟨Place.le_trans h3.le hle, h3.os, h3.output, h3.tape, h3.size, by simp [St.next_skip]; omega, ?_, ?_, h3.frame, ?_⟩⟩
  · intro b x hb
    rcases hget b x hb with ⟨rfl, rfl⟩ | ⟨_, hb1, _⟩
    · exact ⟨q, hself, hoq.mono hle rfl⟩
    · obtain ⟨y, hy, hyo⟩ := h2.obj b x hb1
      exact ⟨y, hle _ _ hy, hyo.mono hle rfl⟩
  · intro b d x y pb pd hb hd hpb hpd e
    have old : ∀ b x z, b < s.next → s1.get b = some x → b ≠ s.next + K → (ν.add (s.next + K) q) b = some z → ν b = some z := by
      intro b x z _ _ hne hz
      unfold Place.add at hz
      rwa [if_neg hne] at hz
    rcases hget b x hb with ⟨rfl, rfl⟩ | ⟨hbl, hb1, hbn⟩ <;> rcases hget d y hd with ⟨rfl, rfl⟩ | ⟨hdl, hd1, hdn⟩
    · rfl
    · rw [hself] at hpb; cases hpb
      have := h2.inj p d _ _ q pd ho hd1 hq (old _ _ _ hdl hd1 hdn hpd) e
      omega
    · rw [hself] at hpd; cases hpd
      have := h2.inj b p _ _ pb q hb1 ho (old _ _ _ hbl hb1 hbn hpb) hq e
      omega
    · exact h2.inj b d _ _ pb pd hb1 hd1 (old _ _ _ hbl hb1 hbn hpb) (old _ _ _ hdl hd1 hdn hpd) e
  · intro b z hz
    unfold Place.add at hz
    by_cases e : b = s.next + K
    · rw [if_pos e] at hz; cases hz
      refine ⟨(h2.lt _ _ hq).1, .inl ?_⟩
      simp [St.next_skip, e]
    · rw [if_neg e] at hz
      have := h2.lt _ _ hz
      refine ⟨this.1, ?_⟩
      simp [St.next_skip]
      omega
  · intro b x hb
    rcases hget b x hb with ⟨rfl, rfl⟩ | ⟨hbl, _, _⟩
    · simp [St.next_skip]
    · simp [St.next_skip]; omega
  · intro b z hz
    have := (h0.lt _ _ hz).2
    simp [St.next_skip]
    omega
  · intro b z hz
    unfold Place.add at hz
    by_cases e : b = s.next + K
    · rw [if_pos e] at hz; cases hz
      refine .inr ⟨by omega, by simp [St.next_skip, e], ?_⟩
      rcases h3.fresh p q hq with h4 | ⟨_, _, h4⟩
      · have := (h0.lt _ _ h4).2
        omega
      · exact h4
    · rw [if_neg e] at hz
      rcases h3.fresh b z hz with h4 | ⟨h4, h5, h6⟩
      · exact .inl h4
      · exact .inr ⟨h4, by simp [St.next_skip]; omega, h6⟩
  · intro b vs l z x hb hx
    obtain ⟨h4, h5⟩ := h3.ro b vs l z x hb hx
    refine ⟨?_, h5⟩
    have := h0.dom _ _ hb
    rw [St.get_new, if_neg (by simp [St.next_skip]; omega), St.get_skip]
    exact hb

theorem sumsOk_addI {SM : Sums} {f : Nat} {g : List AV → St → Option (AV × St)} (hfn : ∃ fn, P.funcs[f]? = some fn ∧ fn.body.isNone = false ∧ (fn.name == "runtime.NumGoroutine") = false)
    (hg : ∀ {args s v s' R μ w cargs}, g args s = some (v, s') → s'.next ≤ R → HR P R μ s w → concs μ args = some cargs → ∀ n, CallsIn Fence.wide n P f cargs.toArray w (Rets P R μ s w v s')) (h : SumsOk P SM) : SumsOk P (addSum SM f g) := by
  intro k g' hk args s v s' R μ w cargs hx hR hr hc
  unfold addSum at hk
  split at hk
  · rename_i e
    subst e
    cases hk
    exact ⟨hfn, hg hx hR hr hc⟩
  · exact h k g' hk hx hR hr hc
theorem sumsNext_addI {SM : Sums} {f : Nat} {g : List AV → St → Option (AV × St)} (hg : ∀ args s v s', g args s = some (v, s') → s.next ≤ s'.next) (h : SumsNext SM) : SumsNext (addSum SM f g) := by
  intro k g' args s v s' hk hx
  unfold addSum at hk
  split at hk
  · cases hk; exact hg args s v s' hx
  · exact h k g' args s v s' hk hx
end
end Go.Proofs.Ytbkpjeooommelaa.D
namespace Go.Proofs.Ytbkpjeooommelaa
open D
/-- gosem.cut.init -/
def fd2 : FD := ⟨1, [], (.region [⟨some 0, (.call (.c (.fn (.func 1) [] [])) []), none⟩])⟩
theorem prep2 : prepF Try.prog Try.f2 = some fd2 := by kernel_rfl
/-- understudy/understudylaw15.KeepDue -/
def fd3 : FD := ⟨19, [(.tmp 6)], (.seq (.region [⟨some 3, (.box (.t 0)), none⟩, ⟨some 6, (.move (.c (.bool false))), none⟩]) (.seq (.drawn [⟨some 7, (.call (.c (.fn (.func 8) [] [])) []), none⟩, ⟨some 8, (.move (.t 7)), none⟩, ⟨some 9, (.loadN 4 (.t 3)), some (8, true)⟩, ⟨some 10, (.move (.t 1)), some (8, true)⟩, ⟨some 11, (.move (.t 2)), some (8, true)⟩, ⟨some 12, (.call (.c (.fn (.func 9) [] [])) [(.t 9), (.t 10), (.t 11)]), some (8, true)⟩, ⟨some 13, (.loadN 4 (.t 3)), some (8, true)⟩, ⟨some 14, (.move (.t 1)), some (8, true)⟩, ⟨some 15, (.move (.t 2)), some (8, true)⟩, ⟨some 16, (.call (.c (.fn (.func 10) [] [])) [(.t 13), (.t 14), (.t 15)]), some (8, true)⟩, ⟨some 17, (.bin .eql .leaf (.t 12) (.t 16)), some (8, true)⟩, ⟨some 18, (.pick (.t 8) (.t 17) (.c (.bool false))), none⟩, ⟨some 6, (.move (.t 18)), none⟩] [⟨6, [5, 9]⟩]) .ret))⟩
theorem prep3 : prepF Try.prog Try.f3 = some fd3 := by kernel_rfl
/-- understudy/understudylaw15.KeepNames -/
def fd4 : FD := ⟨42, [(.tmp 0)], (.seq (.region [⟨some 0, (.move (.c (.bool false))), none⟩]) (.seq (.region [⟨some 2, (.build [(.int .u32 0), (.int .u32 0)] [(0, 1, (.c (.int .u32 1))), (1, 1, (.c (.int .u32 1)))]), none⟩, ⟨some 3, (.build [(.int .u32 0), (.int .u32 0), (.int .i64 0), (.int .u32 0)] [(0, 2, (.t 2))]), none⟩, ⟨some 4, (.buildSlice [(.int .u32 0), (.int .u32 0), (.int .i64 0), (.int .u32 0)] 1 [(0, 4, (.t 3))] 4), none⟩, ⟨some 1, (.move (.t 4)), none⟩]) (.seq (.region [⟨some 5, (.call (.c (.fn (.func 8) [] [])) []), none⟩, ⟨some 6, (.move (.t 5)), none⟩, ⟨some 7, (.build [(.int .u32 0), (.int .u32 0), (.int .i64 0), (.int .i64 0)] []), some (6, true)⟩, ⟨some 8, (.call (.c (.fn (.func 9) [] [])) [(.t 7), (.c (.int .u32 0)), (.c (.int .u32 4294967295))]), some (6, true)⟩, ⟨some 9, (.un .not (.t 8)), some (6, true)⟩, ⟨some 10, (.pick (.t 6) (.t 9) (.c (.bool false))), none⟩, ⟨some 11, (.move (.t 10)), none⟩, ⟨some 12, (.build [(.int .u32 0), (.int .u32 0), (.int .i64 0), (.int .i64 0)] []), some (11, true)⟩, ⟨some 13, (.move (.t 1)), some (11, true)⟩, ⟨some 14, (.call (.c (.fn (.func 11) [] [])) [(.t 12), (.t 13)]), some (11, true)⟩, ⟨some 15, (.len 1 (.t 14)), some (11, true)⟩, ⟨some 16, (.bin .eql .no (.t 15) (.c (.int .i64 0))), some (11, true)⟩, ⟨some 17, (.pick (.t 11) (.t 16) (.c (.bool false))), none⟩, ⟨some 18, (.move (.t 17)), none⟩, ⟨some 19, (.build [(.int .u32 0), (.int .u32 0), (.int .i64 0), (.int .i64 0)] []), some (18, true)⟩, ⟨some 20, (.move (.t 1)), some (18, true)⟩, ⟨some 21, (.call (.c (.fn (.func 12) [] [])) [(.t 19), (.t 20), (.c .nilSlice)]), some (18, true)⟩, ⟨some 22, (.len 1 (.t 21)), some (18, true)⟩, ⟨some 23, (.bin .eql .no (.t 22) (.c (.int .i64 1))), some (18, true)⟩, ⟨some 24, (.pick (.t 18) (.t 23) (.c (.bool false))), none⟩, ⟨some 25, (.move (.t 24)), none⟩, ⟨some 26, (.build [(.int .u32 0), (.int .u32 0), (.int .i64 0), (.int .i64 0)] []), some (25, true)⟩, ⟨some 27, (.move (.t 1)), some (25, true)⟩, ⟨some 28, (.move (.t 1)), some (25, true)⟩, ⟨some 29, (.idxSl 4 (.t 28) (.c (.int .i64 0))), some (25, true)⟩, ⟨some 30, (.fieldAddr 0 (.t 29)), some (25, true)⟩, ⟨some 31, (.loadN 2 (.t 30)), some (25, true)⟩, ⟨some 32, (.buildSlice [(.int .u32 0), (.int .u32 0)] 1 [(0, 2, (.t 31))] 2), some (25, true)⟩, ⟨some 33, (.call (.c (.fn (.func 12) [] [])) [(.t 26), (.t 27), (.t 32)]), some (25, true)⟩, ⟨some 34, (.len 1 (.t 33)), some (25, true)⟩, ⟨some 35, (.bin .eql .no (.t 34) (.c (.int .i64 0))), some (25, true)⟩, ⟨some 36, (.pick (.t 25) (.t 35) (.c (.bool false))), none⟩, ⟨some 37, (.move (.t 36)), none⟩, ⟨some 38, (.build [(.int .u32 0), (.int .u32 0), (.int .i64 0), (.int .i64 0)] [(0, 1, (.c (.int .u32 1)))]), some (37, true)⟩, ⟨some 39, (.call (.c (.fn (.func 9) [] [])) [(.t 38), (.c (.int .u32 9)), (.c (.int .u32 8))]), some (37, true)⟩, ⟨some 40, (.un .not (.t 39)), some (37, true)⟩, ⟨some 41, (.pick (.t 37) (.t 40) (.c (.bool false))), none⟩, ⟨some 0, (.move (.t 41)), none⟩]) .ret)))⟩
theorem prep4 : prepF Try.prog Try.f4 = some fd4 := by kernel_rfl
/-- understudy/understudylaw15.KeepTells -/
def fd5 : FD := ⟨40, [(.tmp 6)], (.seq (.region [⟨some 3, (.box (.t 0)), none⟩, ⟨some 6, (.move (.c (.bool false))), none⟩]) (.seq (.seq (.region [⟨some 7, (.call (.c (.fn (.func 8) [] [])) []), none⟩, ⟨some 8, (.un .not (.t 7)), none⟩]) (.cond (.t 8) (.seq (.region [⟨some 6, (.move (.c (.bool false))), none⟩]) .ret) .skip)) (.seq (.seq (.region [⟨some 9, (.move (.t 1)), none⟩, ⟨some 10, (.len 1 (.t 9)), none⟩, ⟨some 11, (.bin .gtr .no (.t 10) (.c (.int .i64 60))), none⟩, ⟨some 12, (.move (.t 11)), none⟩, ⟨some 13, (.move (.t 2)), some (12, false)⟩, ⟨some 14, (.len 1 (.t 13)), some (12, false)⟩, ⟨some 15, (.bin .gtr .no (.t 14) (.c (.int .i64 60))), some (12, false)⟩, ⟨some 16, (.pick (.t 12) (.c (.bool true)) (.t 15)), none⟩, ⟨some 17, (.move (.t 16)), none⟩, ⟨some 18, (.move (.t 1)), some (17, false)⟩, ⟨some 19, (.call (.c (.fn (.func 13) [] [])) [(.t 18)]), some (17, false)⟩, ⟨some 20, (.un .not (.t 19)), some (17, false)⟩, ⟨some 21, (.pick (.t 17) (.c (.bool true)) (.t 20)), none⟩]) (.cond (.t 21) (.seq (.region [⟨some 6, (.move (.c (.bool true))), none⟩]) .ret) .skip)) (.seq (.drawn [⟨some 22, (.loadN 4 (.t 3)), none⟩, ⟨some 23, (.move (.t 1)), none⟩, ⟨some 24, (.call (.c (.fn (.func 11) [] [])) [(.t 22), (.t 23)]), none⟩, ⟨some 25, (.loadN 4 (.t 3)), none⟩, ⟨some 26, (.move (.t 1)), none⟩, ⟨some 27, (.call (.c (.fn (.func 15) [] [])) [(.t 25), (.t 26)]), none⟩, ⟨some 28, (.call (.c (.fn (.func 14) [] [])) [(.t 24), (.t 27)]), none⟩, ⟨some 29, (.move (.t 28)), none⟩, ⟨some 30, (.loadN 4 (.t 3)), some (29, true)⟩, ⟨some 31, (.move (.t 1)), some (29, true)⟩, ⟨some 32, (.move (.t 2)), some (29, true)⟩, ⟨some 33, (.call (.c (.fn (.func 12) [] [])) [(.t 30), (.t 31), (.t 32)]), some (29, true)⟩, ⟨some 34, (.loadN 4 (.t 3)), some (29, true)⟩, ⟨some 35, (.move (.t 1)), some (29, true)⟩, ⟨some 36, (.move (.t 2)), some (29, true)⟩, ⟨some 37, (.call (.c (.fn (.func 16) [] [])) [(.t 34), (.t 35), (.t 36)]), some (29, true)⟩, ⟨some 38, (.call (.c (.fn (.func 14) [] [])) [(.t 33), (.t 37)]), some (29, true)⟩, ⟨some 39, (.pick (.t 29) (.t 38) (.c (.bool false))), none⟩, ⟨some 6, (.move (.t 39)), none⟩] [⟨3, [2, 5]⟩, ⟨12, [11, 15]⟩]) .ret))))⟩
theorem prep5 : prepF Try.prog Try.f5 = some fd5 := by kernel_rfl
/-- understudy/understudylaw15.KeepAgain -/
def fd6 : FD := ⟨97, [(.tmp 4)], (.seq (.region [⟨some 2, (.box (.t 0)), none⟩, ⟨some 4, (.move (.c (.bool false))), none⟩]) (.seq (.seq (.region [⟨some 12, (.call (.c (.fn (.func 8) [] [])) []), none⟩, ⟨some 13, (.un .not (.t 12)), none⟩]) (.cond (.t 13) (.seq (.region [⟨some 4, (.move (.c (.bool false))), none⟩]) .ret) .skip)) (.seq (.seq (.region [⟨some 14, (.move (.t 1)), none⟩, ⟨some 15, (.len 1 (.t 14)), none⟩, ⟨some 16, (.bin .gtr .no (.t 15) (.c (.int .i64 60))), none⟩, ⟨some 17, (.move (.t 16)), none⟩, ⟨some 18, (.move (.t 1)), some (17, false)⟩, ⟨some 19, (.call (.c (.fn (.func 13) [] [])) [(.t 18)]), some (17, false)⟩, ⟨some 20, (.un .not (.t 19)), some (17, false)⟩, ⟨some 21, (.pick (.t 17) (.c (.bool true)) (.t 20)), none⟩]) (.cond (.t 21) (.seq (.region [⟨some 4, (.move (.c (.bool true))), none⟩]) .ret) .skip)) (.seq (.region [⟨some 22, (.loadN 4 (.t 2)), none⟩, ⟨some 23, (.move (.t 1)), none⟩, ⟨some 24, (.call (.c (.fn (.func 11) [] [])) [(.t 22), (.t 23)]), none⟩, ⟨some 5, (.move (.t 24)), none⟩]) (.seq (.region [⟨some 25, (.buildSlice [] 0 [] 4), none⟩, ⟨some 6, (.move (.t 25)), none⟩]) (.seq (.seq (.region [⟨some 26, (.move (.t 1)), none⟩, ⟨some 27, (.len 1 (.t 26)), none⟩, ⟨some 28, (.move (.c (.int .i64 0))), none⟩]) (.block 0 (.loop (.seq (.region [⟨some 29, (.bin .lss .no (.t 28) (.t 27)), none⟩]) (.seq (.cond (.t 29) .skip (.exit 0)) (.seq (.block 1 (.seq (.region [⟨some 30, (.idxSl 4 (.t 26) (.t 28)), none⟩, ⟨some 31, (.loadN 4 (.t 30)), none⟩, ⟨some 8, (.alloc [(.int .u32 0), (.int .u32 0), (.int .i64 0), (.int .u32 0)]), none⟩, ⟨none, (.store 4 (.t 8) (.t 31)), none⟩]) (.seq (.region [⟨some 32, (.move (.t 5)), none⟩, ⟨some 33, (.len 1 (.t 32)), none⟩, ⟨some 34, (.move (.c (.int .i64 0))), none⟩]) (.block 2 (.loop (.seq (.region [⟨some 35, (.bin .lss .no (.t 34) (.t 33)), none⟩]) (.seq (.cond (.t 35) .skip (.exit 2)) (.seq (.block 3 (.seq (.region [⟨some 36, (.idxSl 2 (.t 32) (.t 34)), none⟩, ⟨some 37, (.loadN 2 (.t 36)), none⟩, ⟨some 10, (.alloc [(.int .u32 0), (.int .u32 0)]), none⟩, ⟨none, (.store 2 (.t 10) (.t 37)), none⟩]) (.seq (.region [⟨some 38, (.fieldAddr 0 (.t 8)), none⟩, ⟨some 39, (.loadN 2 (.t 38)), none⟩, ⟨some 40, (.loadN 2 (.t 10)), none⟩, ⟨some 41, (.bin .eql (.cells [1, 1]) (.t 39) (.t 40)), none⟩]) (.cond (.t 41) (.region [⟨some 42, (.move (.t 6)), none⟩, ⟨some 43, (.loadN 4 (.t 8)), none⟩, ⟨some 44, (.buildSlice [(.int .u32 0), (.int .u32 0), (.int .i64 0), (.int .u32 0)] 1 [(0, 4, (.t 43))] 4), none⟩, ⟨some 45, (.append 4 24 [(.int .u32 0), (.int .u32 0), (.int .i64 0), (.int .u32 0)] (.t 42) (.t 44)), none⟩, ⟨some 6, (.move (.t 45)), none⟩]) .skip)))) (.region [⟨some 46, (.bin .add .no (.t 34) (.c (.int .i64 1))), none⟩, ⟨some 34, (.move (.t 46)), none⟩]))))))))) (.region [⟨some 47, (.bin .add .no (.t 28) (.c (.int .i64 1))), none⟩, ⟨some 28, (.move (.t 47)), none⟩]))))))) (.seq (.region [⟨some 48, (.loadN 4 (.t 2)), none⟩, ⟨some 49, (.move (.t 6)), none⟩, ⟨some 50, (.call (.c (.fn (.func 11) [] [])) [(.t 48), (.t 49)]), none⟩, ⟨some 11, (.move (.t 50)), none⟩]) (.seq (.seq (.drawn [⟨some 51, (.fieldAddr 2 (.t 2)), none⟩, ⟨some 52, (.load1 (.t 51)), none⟩, ⟨some 53, (.bin .gtr .no (.t 52) (.c (.int .i64 0))), none⟩, ⟨some 54, (.move (.t 53)), none⟩, ⟨some 55, (.move (.t 1)), some (54, true)⟩, ⟨some 56, (.len 1 (.t 55)), some (54, true)⟩, ⟨some 57, (.bin .gtr .no (.t 56) (.c (.int .i64 0))), some (54, true)⟩, ⟨some 58, (.pick (.t 54) (.t 57) (.c (.bool false))), none⟩, ⟨some 59, (.move (.t 58)), none⟩, ⟨some 60, (.move (.t 5)), some (59, true)⟩, ⟨some 61, (.len 1 (.t 60)), some (59, true)⟩, ⟨some 62, (.bin .eql .no (.t 61) (.c (.int .i64 0))), some (59, true)⟩, ⟨some 63, (.move (.t 62)), some (59, true)⟩, ⟨some 64, (.move (.t 5)), some (63, false)⟩, ⟨some 65, (.move (.t 5)), some (63, false)⟩, ⟨some 66, (.len 1 (.t 65)), some (63, false)⟩, ⟨some 67, (.bin .sub .no (.t 66) (.c (.int .i64 1))), some (63, false)⟩, ⟨some 68, (.idxSl 2 (.t 64) (.t 67)), some (63, false)⟩, ⟨some 69, (.loadN 2 (.t 68)), some (63, false)⟩, ⟨some 70, (.move (.t 1)), some (63, false)⟩, ⟨some 71, (.move (.t 1)), some (63, false)⟩, ⟨some 72, (.len 1 (.t 71)), some (63, false)⟩, ⟨some 73, (.bin .sub .no (.t 72) (.c (.int .i64 1))), some (63, false)⟩, ⟨some 74, (.idxSl 4 (.t 70) (.t 73)), some (63, false)⟩, ⟨some 75, (.fieldAddr 0 (.t 74)), some (63, false)⟩, ⟨some 76, (.loadN 2 (.t 75)), some (63, false)⟩, ⟨some 77, (.bin .neq (.cells [1, 1]) (.t 69) (.t 76)), some (63, false)⟩, ⟨some 78, (.pick (.t 63) (.c (.bool true)) (.t 77)), some (59, true)⟩, ⟨some 79, (.pick (.t 59) (.t 78) (.c (.bool false))), none⟩] []) (.cond (.t 79) (.seq (.region [⟨some 4, (.move (.c (.bool false))), none⟩]) .ret) .skip)) (.seq (.region [⟨some 80, (.move (.t 6)), none⟩, ⟨some 81, (.len 1 (.t 80)), none⟩, ⟨some 82, (.move (.t 5)), none⟩, ⟨some 83, (.len 1 (.t 82)), none⟩, ⟨some 84, (.bin .eql .no (.t 81) (.t 83)), none⟩, ⟨some 85, (.move (.t 84)), none⟩, ⟨some 86, (.move (.t 11)), some (85, true)⟩, ⟨some 87, (.move (.t 5)), some (85, true)⟩, ⟨some 88, (.call (.c (.fn (.func 14) [] [])) [(.t 86), (.t 87)]), some (85, true)⟩, ⟨some 89, (.pick (.t 85) (.t 88) (.c (.bool false))), none⟩, ⟨some 90, (.move (.t 89)), none⟩, ⟨some 91, (.loadN 4 (.t 2)), some (90, true)⟩, ⟨some 92, (.move (.t 6)), some (90, true)⟩, ⟨some 93, (.call (.c (.fn (.func 12) [] [])) [(.t 91), (.t 92), (.c .nilSlice)]), some (90, true)⟩, ⟨some 94, (.len 1 (.t 93)), some (90, true)⟩, ⟨some 95, (.bin .eql .no (.t 94) (.c (.int .i64 0))), some (90, true)⟩, ⟨some 96, (.pick (.t 90) (.t 95) (.c (.bool false))), none⟩, ⟨some 4, (.move (.t 96)), none⟩]) .ret)))))))))⟩
theorem prep6 : prepF Try.prog Try.f6 = some fd6 := by kernel_rfl
/-- understudy/understudylaw15.KeepCounts -/
def fd7 : FD := ⟨119, [(.tmp 6)], (.seq (.region [⟨some 3, (.box (.t 0)), none⟩, ⟨some 6, (.move (.c (.bool false))), none⟩]) (.seq (.seq (.region [⟨some 18, (.call (.c (.fn (.func 8) [] [])) []), none⟩, ⟨some 19, (.un .not (.t 18)), none⟩]) (.cond (.t 19) (.seq (.region [⟨some 6, (.move (.c (.bool false))), none⟩]) .ret) .skip)) (.seq (.seq (.region [⟨some 20, (.move (.t 1)), none⟩, ⟨some 21, (.len 1 (.t 20)), none⟩, ⟨some 22, (.bin .gtr .no (.t 21) (.c (.int .i64 60))), none⟩, ⟨some 23, (.move (.t 22)), none⟩, ⟨some 24, (.move (.t 2)), some (23, false)⟩, ⟨some 25, (.len 1 (.t 24)), some (23, false)⟩, ⟨some 26, (.bin .gtr .no (.t 25) (.c (.int .i64 60))), some (23, false)⟩, ⟨some 27, (.pick (.t 23) (.c (.bool true)) (.t 26)), none⟩, ⟨some 28, (.move (.t 27)), none⟩, ⟨some 29, (.move (.t 1)), some (28, false)⟩, ⟨some 30, (.call (.c (.fn (.func 13) [] [])) [(.t 29)]), some (28, false)⟩, ⟨some 31, (.un .not (.t 30)), some (28, false)⟩, ⟨some 32, (.pick (.t 28) (.c (.bool true)) (.t 31)), none⟩]) (.cond (.t 32) (.seq (.region [⟨some 6, (.move (.c (.bool true))), none⟩]) .ret) .skip)) (.seq (.drawn [⟨some 33, (.loadN 4 (.t 3)), none⟩, ⟨some 34, (.move (.t 1)), none⟩, ⟨some 35, (.call (.c (.fn (.func 11) [] [])) [(.t 33), (.t 34)]), none⟩, ⟨some 36, (.loadN 4 (.t 3)), none⟩, ⟨some 37, (.move (.t 1)), none⟩, ⟨some 38, (.move (.t 2)), none⟩, ⟨some 39, (.call (.c (.fn (.func 12) [] [])) [(.t 36), (.t 37), (.t 38)]), none⟩, ⟨some 7, (.move (.t 35)), none⟩, ⟨some 8, (.move (.t 39)), none⟩] [⟨3, [2, 6]⟩]) (.seq (.seq (.region [⟨some 40, (.move (.t 7)), none⟩, ⟨some 41, (.len 1 (.t 40)), none⟩, ⟨some 42, (.convInt .u64 (.t 41)), none⟩, ⟨some 43, (.fieldAddr 2 (.t 3)), none⟩, ⟨some 44, (.load1 (.t 43)), none⟩, ⟨some 45, (.minmax false [(.t 44), (.c (.int .i64 100))]), none⟩, ⟨some 46, (.minmax true [(.c (.int .i64 0)), (.t 45)]), none⟩, ⟨some 47, (.convInt .u64 (.t 46)), none⟩, ⟨some 48, (.fieldAddr 3 (.t 3)), none⟩, ⟨some 49, (.load1 (.t 48)), none⟩, ⟨some 50, (.minmax false [(.t 49), (.c (.int .i64 100))]), none⟩, ⟨some 51, (.minmax true [(.c (.int .i64 0)), (.t 50)]), none⟩, ⟨some 52, (.convInt .u64 (.t 51)), none⟩, ⟨some 53, (.bin .add .no (.t 47) (.t 52)), none⟩, ⟨some 54, (.bin .gtr .no (.t 42) (.t 53)), none⟩, ⟨some 55, (.move (.t 54)), none⟩, ⟨some 56, (.fieldAddr 2 (.t 3)), some (55, false)⟩, ⟨some 57, (.load1 (.t 56)), some (55, false)⟩, ⟨some 58, (.bin .leq .no (.t 57) (.c (.int .i64 0))), some (55, false)⟩, ⟨some 59, (.move (.t 58)), some (55, false)⟩, ⟨some 60, (.fieldAddr 1 (.t 3)), some (59, true)⟩, ⟨some 61, (.load1 (.t 60)), some (59, true)⟩, ⟨some 62, (.bin .eql .no (.t 61) (.c (.int .u32 0))), some (59, true)⟩, ⟨some 63, (.pick (.t 59) (.t 62) (.c (.bool false))), some (55, false)⟩, ⟨some 64, (.move (.t 63)), some (55, false)⟩, ⟨some 65, (.move (.t 7)), some (64, true)⟩, ⟨some 66, (.len 1 (.t 65)), some (64, true)⟩, ⟨some 67, (.bin .neq .no (.t 66) (.c (.int .i64 0))), some (64, true)⟩, ⟨some 68, (.pick (.t 64) (.t 67) (.c (.bool false))), some (55, false)⟩, ⟨some 69, (.pick (.t 55) (.c (.bool true)) (.t 68)), none⟩]) (.cond (.t 69) (.seq (.region [⟨some 6, (.move (.c (.bool false))), none⟩]) .ret) .skip)) (.seq (.seq (.region [⟨some 70, (.move (.t 8)), none⟩, ⟨some 71, (.len 1 (.t 70)), none⟩, ⟨some 72, (.move (.c (.int .i64 0))), none⟩]) (.block 0 (.loop (.seq (.region [⟨some 73, (.bin .lss .no (.t 72) (.t 71)), none⟩]) (.seq (.cond (.t 73) .skip (.exit 0)) (.seq (.block 1 (.seq (.region [⟨some 74, (.idxSl 2 (.t 70) (.t 72)), none⟩, ⟨some 75, (.loadN 2 (.t 74)), none⟩, ⟨some 10, (.alloc [(.int .u32 0), (.int .u32 0)]), none⟩, ⟨none, (.store 2 (.t 10) (.t 75)), none⟩]) (.seq (.region [⟨some 76, (.buildSlice [] 0 [] 2), none⟩, ⟨some 77, (.move (.t 7)), none⟩, ⟨some 78, (.append 2 8 [(.int .u32 0), (.int .u32 0)] (.t 76) (.t 77)), none⟩, ⟨some 79, (.move (.t 2)), none⟩, ⟨some 80, (.append 2 8 [(.int .u32 0), (.int .u32 0)] (.t 78) (.t 79)), none⟩, ⟨some 81, (.len 1 (.t 80)), none⟩, ⟨some 82, (.move (.c (.int .i64 0))), none⟩]) (.block 2 (.loop (.seq (.region [⟨some 83, (.bin .lss .no (.t 82) (.t 81)), none⟩]) (.seq (.cond (.t 83) .skip (.exit 2)) (.seq (.block 3 (.seq (.region [⟨some 84, (.idxSl 2 (.t 80) (.t 82)), none⟩, ⟨some 85, (.loadN 2 (.t 84)), none⟩, ⟨some 12, (.alloc [(.int .u32 0), (.int .u32 0)]), none⟩, ⟨none, (.store 2 (.t 12) (.t 85)), none⟩]) (.seq (.region [⟨some 86, (.loadN 2 (.t 10)), none⟩, ⟨some 87, (.loadN 2 (.t 12)), none⟩, ⟨some 88, (.bin .eql (.cells [1, 1]) (.t 86) (.t 87)), none⟩]) (.cond (.t 88) (.seq (.region [⟨some 6, (.move (.c (.bool false))), none⟩]) .ret) .skip)))) (.region [⟨some 89, (.bin .add .no (.t 82) (.c (.int .i64 1))), none⟩, ⟨some 82, (.move (.t 89)), none⟩]))))))))) (.region [⟨some 90, (.bin .add .no (.t 72) (.c (.int .i64 1))), none⟩, ⟨some 72, (.move (.t 90)), none⟩]))))))) (.seq (.seq (.region [⟨some 91, (.move (.t 1)), none⟩, ⟨some 92, (.len 1 (.t 91)), none⟩, ⟨some 93, (.move (.c (.int .i64 0))), none⟩]) (.block 4 (.loop (.seq (.region [⟨some 94, (.bin .lss .no (.t 93) (.t 92)), none⟩]) (.seq (.cond (.t 94) .skip (.exit 4)) (.seq (.block 5 (.seq (.region [⟨some 95, (.idxSl 4 (.t 91) (.t 93)), none⟩, ⟨some 96, (.loadN 4 (.t 95)), none⟩, ⟨some 14, (.alloc [(.int .u32 0), (.int .u32 0), (.int .i64 0), (.int .u32 0)]), none⟩, ⟨none, (.store 4 (.t 14) (.t 96)), none⟩]) (.seq (.region [⟨some 15, (.move (.c (.int .i64 0))), none⟩]) (.seq (.seq (.region [⟨some 97, (.buildSlice [] 0 [] 2), none⟩, ⟨some 98, (.move (.t 7)), none⟩, ⟨some 99, (.append 2 8 [(.int .u32 0), (.int .u32 0)] (.t 97) (.t 98)), none⟩, ⟨some 100, (.move (.t 2)), none⟩, ⟨some 101, (.append 2 8 [(.int .u32 0), (.int .u32 0)] (.t 99) (.t 100)), none⟩, ⟨some 102, (.move (.t 8)), none⟩, ⟨some 103, (.append 2 8 [(.int .u32 0), (.int .u32 0)] (.t 101) (.t 102)), none⟩, ⟨some 104, (.len 1 (.t 103)), none⟩, ⟨some 105, (.move (.c (.int .i64 0))), none⟩]) (.block 6 (.loop (.seq (.region [⟨some 106, (.bin .lss .no (.t 105) (.t 104)), none⟩]) (.seq (.cond (.t 106) .skip (.exit 6)) (.seq (.block 7 (.seq (.region [⟨some 107, (.idxSl 2 (.t 103) (.t 105)), none⟩, ⟨some 108, (.loadN 2 (.t 107)), none⟩, ⟨some 17, (.alloc [(.int .u32 0), (.int .u32 0)]), none⟩, ⟨none, (.store 2 (.t 17) (.t 108)), none⟩]) (.seq (.region [⟨some 109, (.fieldAddr 0 (.t 14)), none⟩, ⟨some 110, (.loadN 2 (.t 109)), none⟩, ⟨some 111, (.loadN 2 (.t 17)), none⟩, ⟨some 112, (.bin .eql (.cells [1, 1]) (.t 110) (.t 111)), none⟩]) (.cond (.t 112) (.region [⟨some 113, (.move (.t 15)), none⟩, ⟨some 114, (.bin .add .no (.t 113) (.c (.int .i64 1))), none⟩, ⟨some 15, (.move (.t 114)), none⟩]) .skip)))) (.region [⟨some 115, (.bin .add .no (.t 105) (.c (.int .i64 1))), none⟩, ⟨some 105, (.move (.t 115)), none⟩]))))))) (.seq (.region [⟨some 116, (.move (.t 15)), none⟩, ⟨some 117, (.bin .eql .no (.t 116) (.c (.int .i64 0))), none⟩]) (.cond (.t 117) (.seq (.region [⟨some 6, (.move (.c (.bool false))), none⟩]) .ret) .skip)))))) (.region [⟨some 118, (.bin .add .no (.t 93) (.c (.int .i64 1))), none⟩, ⟨some 93, (.move (.t 118)), none⟩]))))))) (.seq (.region [⟨some 6, (.move (.c (.bool true))), none⟩]) .ret))))))))⟩
theorem prep7 : prepF Try.prog Try.f7 = some fd7 := by kernel_rfl
/-- understudy/understudylaw15.keepAlive -/
def fd8 : FD := ⟨52, [(.tmp 0)], (.seq (.region [⟨some 0, (.move (.c (.bool false))), none⟩]) (.seq (.region [⟨some 5, (.buildSlice [] 0 [] 4), none⟩, ⟨some 1, (.move (.t 5)), none⟩]) (.seq (.seq (.region [⟨some 6, (.buildSlice [(.int .u32 0), (.int .u32 0), (.int .u32 0), (.int .u32 0), (.int .u32 0)] 5 [(0, 1, (.c (.int .u32 3))), (1, 1, (.c (.int .u32 8))), (2, 1, (.c (.int .u32 12))), (3, 1, (.c (.int .u32 14))), (4, 1, (.c (.int .u32 27)))] 1), none⟩, ⟨some 7, (.len 1 (.t 6)), none⟩, ⟨some 8, (.move (.c (.int .i64 0))), none⟩]) (.block 0 (.loop (.seq (.region [⟨some 9, (.bin .lss .no (.t 8) (.t 7)), none⟩]) (.seq (.cond (.t 9) .skip (.exit 0)) (.seq (.block 1 (.seq (.region [⟨some 10, (.move (.t 8)), none⟩, ⟨some 11, (.idxSl 1 (.t 6) (.t 8)), none⟩, ⟨some 12, (.load1 (.t 11)), none⟩, ⟨some 2, (.move (.t 10)), none⟩, ⟨some 3, (.move (.t 12)), none⟩]) (.region [⟨some 13, (.move (.t 1)), none⟩, ⟨some 14, (.move (.t 2)), none⟩, ⟨some 15, (.bin .add .no (.t 14) (.c (.int .i64 1))), none⟩, ⟨some 16, (.convInt .u32 (.t 15)), none⟩, ⟨some 17, (.build [(.int .u32 0), (.int .u32 0)] [(0, 1, (.c (.int .u32 1))), (1, 1, (.t 16))]), none⟩, ⟨some 18, (.move (.t 3)), none⟩, ⟨some 19, (.build [(.int .u32 0), (.int .u32 0), (.int .i64 0), (.int .u32 0)] [(0, 2, (.t 17)), (3, 1, (.t 18))]), none⟩, ⟨some 20, (.buildSlice [(.int .u32 0), (.int .u32 0), (.int .i64 0), (.int .u32 0)] 1 [(0, 4, (.t 19))] 4), none⟩, ⟨some 21, (.append 4 24 [(.int .u32 0), (.int .u32 0), (.int .i64 0), (.int .u32 0)] (.t 13) (.t 20)), none⟩, ⟨some 1, (.move (.t 21)), none⟩]))) (.region [⟨some 22, (.bin .add .no (.t 8) (.c (.int .i64 1))), none⟩, ⟨some 8, (.move (.t 22)), none⟩]))))))) (.seq (.region [⟨some 23, (.build [(.int .u32 0), (.int .u32 0), (.int .i64 0), (.int .i64 0)] [(2, 1, (.c (.int .i64 1))), (1, 1, (.c (.int .u32 10))), (3, 1, (.c (.int .i64 2)))]), none⟩, ⟨some 24, (.move (.t 1)), none⟩, ⟨some 25, (.call (.c (.fn (.func 11) [] [])) [(.t 23), (.t 24)]), none⟩, ⟨some 4, (.move (.t 25)), none⟩]) (.seq (.region [⟨some 26, (.move (.t 4)), none⟩, ⟨some 27, (.len 1 (.t 26)), none⟩, ⟨some 28, (.bin .eql .no (.t 27) (.c (.int .i64 2))), none⟩, ⟨some 29, (.move (.t 28)), none⟩, ⟨some 30, (.move (.t 4)), some (29, true)⟩, ⟨some 31, (.idxSl 2 (.t 30) (.c (.int .i64 0))), some (29, true)⟩, ⟨some 32, (.fieldAddr 1 (.t 31)), some (29, true)⟩, ⟨some 33, (.load1 (.t 32)), some (29, true)⟩, ⟨some 34, (.bin .eql .no (.t 33) (.c (.int .u32 4))), some (29, true)⟩, ⟨some 35, (.pick (.t 29) (.t 34) (.c (.bool false))), none⟩, ⟨some 36, (.move (.t 35)), none⟩, ⟨some 37, (.move (.t 4)), some (36, true)⟩, ⟨some 38, (.idxSl 2 (.t 37) (.c (.int .i64 1))), some (36, true)⟩, ⟨some 39, (.fieldAddr 1 (.t 38)), some (36, true)⟩, ⟨some 40, (.load1 (.t 39)), some (36, true)⟩, ⟨some 41, (.bin .eql .no (.t 40) (.c (.int .u32 5))), some (36, true)⟩, ⟨some 42, (.pick (.t 36) (.t 41) (.c (.bool false))), none⟩, ⟨some 43, (.move (.t 42)), none⟩, ⟨some 44, (.build [(.int .u32 0), (.int .u32 0), (.int .i64 0), (.int .i64 0)] [(0, 1, (.c (.int .u32 5)))]), some (43, true)⟩, ⟨some 45, (.call (.c (.fn (.func 9) [] [])) [(.t 44), (.c (.int .u32 3)), (.c (.int .u32 8))]), some (43, true)⟩, ⟨some 46, (.pick (.t 43) (.t 45) (.c (.bool false))), none⟩, ⟨some 47, (.move (.t 46)), none⟩, ⟨some 48, (.build [(.int .u32 0), (.int .u32 0), (.int .i64 0), (.int .i64 0)] [(0, 1, (.c (.int .u32 5)))]), some (47, true)⟩, ⟨some 49, (.call (.c (.fn (.func 9) [] [])) [(.t 48), (.c (.int .u32 3)), (.c (.int .u32 7))]), some (47, true)⟩, ⟨some 50, (.un .not (.t 49)), some (47, true)⟩, ⟨some 51, (.pick (.t 47) (.t 50) (.c (.bool false))), none⟩, ⟨some 0, (.move (.t 51)), none⟩]) .ret)))))⟩
theorem prep8 : prepF Try.prog Try.f8 = some fd8 := by kernel_rfl
/-- understudy/keep.Due -/
def fd9 : FD := ⟨23, [(.tmp 6)], (.seq (.region [⟨some 3, (.box (.t 0)), none⟩, ⟨some 6, (.move (.c (.bool false))), none⟩]) (.seq (.region [⟨some 7, (.fieldAddr 0 (.t 3)), none⟩, ⟨some 8, (.load1 (.t 7)), none⟩, ⟨some 9, (.bin .gtr .no (.t 8) (.c (.int .u32 0))), none⟩, ⟨some 10, (.move (.t 9)), none⟩, ⟨some 11, (.move (.t 2)), some (10, true)⟩, ⟨some 12, (.move (.t 1)), some (10, true)⟩, ⟨some 13, (.bin .geq .no (.t 11) (.t 12)), some (10, true)⟩, ⟨some 14, (.pick (.t 10) (.t 13) (.c (.bool false))), none⟩, ⟨some 15, (.move (.t 14)), none⟩, ⟨some 16, (.move (.t 2)), some (15, true)⟩, ⟨some 17, (.move (.t 1)), some (15, true)⟩, ⟨some 18, (.bin .sub .no (.t 16) (.t 17)), some (15, true)⟩, ⟨some 19, (.fieldAddr 0 (.t 3)), some (15, true)⟩, ⟨some 20, (.load1 (.t 19)), some (15, true)⟩, ⟨some 21, (.bin .geq .no (.t 18) (.t 20)), some (15, true)⟩, ⟨some 22, (.pick (.t 15) (.t 21) (.c (.bool false))), none⟩, ⟨some 6, (.move (.t 22)), none⟩]) .ret))⟩
theorem prep9 : prepF Try.prog Try.f9 = some fd9 := by kernel_rfl
/-- understudy/understudyref15.Due -/
def fd10 : FD := ⟨21, [(.tmp 6)], (.seq (.region [⟨some 3, (.box (.t 0)), none⟩, ⟨some 6, (.move (.c (.bool false))), none⟩]) (.seq (.region [⟨some 7, (.fieldAddr 0 (.t 3)), none⟩, ⟨some 8, (.load1 (.t 7)), none⟩, ⟨some 9, (.bin .gtr .no (.t 8) (.c (.int .u32 0))), none⟩, ⟨some 10, (.move (.t 9)), none⟩, ⟨some 11, (.move (.t 2)), some (10, true)⟩, ⟨some 12, (.convInt .u64 (.t 11)), some (10, true)⟩, ⟨some 13, (.move (.t 1)), some (10, true)⟩, ⟨some 14, (.convInt .u64 (.t 13)), some (10, true)⟩, ⟨some 15, (.fieldAddr 0 (.t 3)), some (10, true)⟩, ⟨some 16, (.load1 (.t 15)), some (10, true)⟩, ⟨some 17, (.convInt .u64 (.t 16)), some (10, true)⟩, ⟨some 18, (.bin .add .no (.t 14) (.t 17)), some (10, true)⟩, ⟨some 19, (.bin .geq .no (.t 12) (.t 18)), some (10, true)⟩, ⟨some 20, (.pick (.t 10) (.t 19) (.c (.bool false))), none⟩, ⟨some 6, (.move (.t 20)), none⟩]) .ret))⟩
theorem prep10 : prepF Try.prog Try.f10 = some fd10 := by kernel_rfl
/-- understudy/keep.Kept -/
def fd11 : FD := ⟨52, [(.tmp 4)], (.seq (.region [⟨some 2, (.box (.t 0)), none⟩, ⟨some 4, (.move (.c .nilSlice)), none⟩]) (.seq (.region [⟨some 5, (.move (.c .nilSlice)), none⟩]) (.seq (.seq (.region [⟨some 9, (.move (.t 1)), none⟩, ⟨some 10, (.move (.t 1)), none⟩, ⟨some 11, (.len 1 (.t 10)), none⟩, ⟨some 12, (.fieldAddr 2 (.t 2)), none⟩, ⟨some 13, (.load1 (.t 12)), none⟩, ⟨some 14, (.move (.t 1)), none⟩, ⟨some 15, (.len 1 (.t 14)), none⟩, ⟨some 16, (.minmax false [(.t 13), (.t 15)]), none⟩, ⟨some 17, (.minmax true [(.c (.int .i64 0)), (.t 16)]), none⟩, ⟨some 18, (.bin .sub .no (.t 11) (.t 17)), none⟩, ⟨some 19, (.sliceSl 4 (.t 9) (some (.t 18)) none none), none⟩, ⟨some 20, (.len 1 (.t 19)), none⟩, ⟨some 21, (.move (.c (.int .i64 0))), none⟩]) (.block 0 (.loop (.seq (.region [⟨some 22, (.bin .lss .no (.t 21) (.t 20)), none⟩]) (.seq (.cond (.t 22) .skip (.exit 0)) (.seq (.block 1 (.seq (.region [⟨some 23, (.idxSl 4 (.t 19) (.t 21)), none⟩, ⟨some 24, (.loadN 4 (.t 23)), none⟩, ⟨some 7, (.alloc [(.int .u32 0), (.int .u32 0), (.int .i64 0), (.int .u32 0)]), none⟩, ⟨none, (.store 4 (.t 7) (.t 24)), none⟩]) (.region [⟨some 25, (.move (.t 5)), none⟩, ⟨some 26, (.fieldAddr 0 (.t 7)), none⟩, ⟨some 27, (.loadN 2 (.t 26)), none⟩, ⟨some 28, (.buildSlice [(.int .u32 0), (.int .u32 0)] 1 [(0, 2, (.t 27))] 2), none⟩, ⟨some 29, (.append 2 8 [(.int .u32 0), (.int .u32 0)] (.t 25) (.t 28)), none⟩, ⟨some 5, (.move (.t 29)), none⟩]))) (.region [⟨some 30, (.bin .add .no (.t 21) (.c (.int .i64 1))), none⟩, ⟨some 21, (.move (.t 30)), none⟩]))))))) (.seq (.seq (.region [⟨some 31, (.fieldAddr 1 (.t 2)), none⟩, ⟨some 32, (.load1 (.t 31)), none⟩, ⟨some 33, (.bin .gtr .no (.t 32) (.c (.int .u32 0))), none⟩]) (.cond (.t 33) (.seq (.region [⟨some 34, (.fieldAddr 1 (.t 2)), none⟩, ⟨some 35, (.load1 (.t 34)), none⟩, ⟨some 36, (.move (.t 1)), none⟩, ⟨some 37, (.call (.c (.fn (.func 17) [] [])) [(.t 35), (.t 36)]), none⟩, ⟨some 8, (.move (.t 37)), none⟩]) (.region [⟨some 38, (.move (.t 5)), none⟩, ⟨some 39, (.move (.t 8)), none⟩, ⟨some 40, (.fieldAddr 3 (.t 2)), none⟩, ⟨some 41, (.load1 (.t 40)), none⟩, ⟨some 42, (.move (.t 8)), none⟩, ⟨some 43, (.len 1 (.t 42)), none⟩, ⟨some 44, (.minmax false [(.t 41), (.t 43)]), none⟩, ⟨some 45, (.minmax true [(.c (.int .i64 0)), (.t 44)]), none⟩, ⟨some 46, (.sliceSl 2 (.t 39) none (some (.t 45)) none), none⟩, ⟨some 47, (.append 2 8 [(.int .u32 0), (.int .u32 0)] (.t 38) (.t 46)), none⟩, ⟨some 5, (.move (.t 47)), none⟩])) .skip)) (.seq (.region [⟨some 48, (.move (.t 5)), none⟩, ⟨some 49, (.call (.c (.fn (.func 18) [] [])) [(.t 48), (.c (.fn (.func 19) [] []))]), none⟩]) (.seq (.region [⟨some 50, (.move (.t 5)), none⟩, ⟨some 51, (.call (.c (.fn (.func 20) [] [])) [(.t 50)]), none⟩, ⟨some 4, (.move (.t 51)), none⟩]) .ret))))))⟩
theorem prep11 : prepF Try.prog Try.f11 = some fd11 := by kernel_rfl
/-- understudy/keep.Goes -/
def fd12 : FD := ⟨34, [(.tmp 6)], (.seq (.region [⟨some 3, (.box (.t 0)), none⟩, ⟨some 6, (.move (.c .nilSlice)), none⟩]) (.seq (.region [⟨some 11, (.loadN 4 (.t 3)), none⟩, ⟨some 12, (.move (.t 1)), none⟩, ⟨some 13, (.call (.c (.fn (.func 11) [] [])) [(.t 11), (.t 12)]), none⟩, ⟨some 14, (.move (.t 2)), none⟩, ⟨some 15, (.append 2 8 [(.int .u32 0), (.int .u32 0)] (.t 13) (.t 14)), none⟩, ⟨some 7, (.move (.t 15)), none⟩]) (.seq (.region [⟨some 8, (.move (.c .nilSlice)), none⟩]) (.seq (.seq (.region [⟨some 16, (.move (.t 1)), none⟩, ⟨some 17, (.len 1 (.t 16)), none⟩, ⟨some 18, (.move (.c (.int .i64 0))), none⟩]) (.block 0 (.loop (.seq (.region [⟨some 19, (.bin .lss .no (.t 18) (.t 17)), none⟩]) (.seq (.cond (.t 19) .skip (.exit 0)) (.seq (.block 1 (.seq (.region [⟨some 20, (.idxSl 4 (.t 16) (.t 18)), none⟩, ⟨some 21, (.loadN 4 (.t 20)), none⟩, ⟨some 10, (.alloc [(.int .u32 0), (.int .u32 0), (.int .i64 0), (.int .u32 0)]), none⟩, ⟨none, (.store 4 (.t 10) (.t 21)), none⟩]) (.seq (.region [⟨some 22, (.move (.t 7)), none⟩, ⟨some 23, (.fieldAddr 0 (.t 10)), none⟩, ⟨some 24, (.loadN 2 (.t 23)), none⟩, ⟨some 25, (.call (.c (.fn (.func 21) [] [])) [(.t 22), (.t 24)]), none⟩, ⟨some 26, (.un .not (.t 25)), none⟩]) (.cond (.t 26) (.region [⟨some 27, (.move (.t 8)), none⟩, ⟨some 28, (.fieldAddr 0 (.t 10)), none⟩, ⟨some 29, (.loadN 2 (.t 28)), none⟩, ⟨some 30, (.buildSlice [(.int .u32 0), (.int .u32 0)] 1 [(0, 2, (.t 29))] 2), none⟩, ⟨some 31, (.append 2 8 [(.int .u32 0), (.int .u32 0)] (.t 27) (.t 30)), none⟩, ⟨some 8, (.move (.t 31)), none⟩]) .skip)))) (.region [⟨some 32, (.bin .add .no (.t 18) (.c (.int .i64 1))), none⟩, ⟨some 18, (.move (.t 32)), none⟩]))))))) (.seq (.region [⟨some 33, (.move (.t 8)), none⟩, ⟨some 6, (.move (.t 33)), none⟩]) .ret)))))⟩
theorem prep12 : prepF Try.prog Try.f12 = some fd12 := by kernel_rfl
/-- understudy/understudyref15.Rising -/
def fd13 : FD := ⟨27, [(.tmp 2)], (.seq (.region [⟨some 2, (.move (.c (.bool false))), none⟩]) (.seq (.seq (.region [⟨some 4, (.move (.t 0)), none⟩, ⟨some 5, (.len 1 (.t 4)), none⟩, ⟨some 6, (.move (.c (.int .i64 0))), none⟩]) (.block 0 (.loop (.seq (.region [⟨some 7, (.bin .lss .no (.t 6) (.t 5)), none⟩]) (.seq (.cond (.t 7) .skip (.exit 0)) (.seq (.block 1 (.seq (.region [⟨some 8, (.move (.t 6)), none⟩, ⟨some 3, (.move (.t 8)), none⟩]) (.seq (.drawn [⟨some 9, (.move (.t 3)), none⟩, ⟨some 10, (.bin .gtr .no (.t 9) (.c (.int .i64 0))), none⟩, ⟨some 11, (.move (.t 10)), none⟩, ⟨some 12, (.move (.t 0)), some (11, true)⟩, ⟨some 13, (.move (.t 3)), some (11, true)⟩, ⟨some 14, (.bin .sub .no (.t 13) (.c (.int .i64 1))), some (11, true)⟩, ⟨some 15, (.idxSl 4 (.t 12) (.t 14)), some (11, true)⟩, ⟨some 16, (.fieldAddr 0 (.t 15)), some (11, true)⟩, ⟨some 17, (.loadN 2 (.t 16)), some (11, true)⟩, ⟨some 18, (.move (.t 0)), some (11, true)⟩, ⟨some 19, (.move (.t 3)), some (11, true)⟩, ⟨some 20, (.idxSl 4 (.t 18) (.t 19)), some (11, true)⟩, ⟨some 21, (.fieldAddr 0 (.t 20)), some (11, true)⟩, ⟨some 22, (.loadN 2 (.t 21)), some (11, true)⟩, ⟨some 23, (.call (.c (.fn (.func 22) [] [])) [(.t 17), (.t 22)]), some (11, true)⟩, ⟨some 24, (.un .not (.t 23)), some (11, true)⟩, ⟨some 25, (.pick (.t 11) (.t 24) (.c (.bool false))), none⟩] []) (.cond (.t 25) (.seq (.region [⟨some 2, (.move (.c (.bool false))), none⟩]) .ret) .skip)))) (.region [⟨some 26, (.bin .add .no (.t 6) (.c (.int .i64 1))), none⟩, ⟨some 6, (.move (.t 26)), none⟩]))))))) (.seq (.region [⟨some 2, (.move (.c (.bool true))), none⟩]) .ret)))⟩
theorem prep13 : prepF Try.prog Try.f13 = some fd13 := by kernel_rfl
/-- understudy/understudyref15.Same -/
def fd14 : FD := ⟨26, [(.tmp 4)], (.seq (.region [⟨some 4, (.move (.c (.bool false))), none⟩]) (.seq (.seq (.region [⟨some 6, (.move (.t 0)), none⟩, ⟨some 7, (.len 1 (.t 6)), none⟩, ⟨some 8, (.move (.t 1)), none⟩, ⟨some 9, (.len 1 (.t 8)), none⟩, ⟨some 10, (.bin .neq .no (.t 7) (.t 9)), none⟩]) (.cond (.t 10) (.seq (.region [⟨some 4, (.move (.c (.bool false))), none⟩]) .ret) .skip)) (.seq (.seq (.region [⟨some 11, (.move (.t 0)), none⟩, ⟨some 12, (.len 1 (.t 11)), none⟩, ⟨some 13, (.move (.c (.int .i64 0))), none⟩]) (.block 0 (.loop (.seq (.region [⟨some 14, (.bin .lss .no (.t 13) (.t 12)), none⟩]) (.seq (.cond (.t 14) .skip (.exit 0)) (.seq (.block 1 (.seq (.region [⟨some 15, (.move (.t 13)), none⟩, ⟨some 5, (.move (.t 15)), none⟩]) (.seq (.drawn [⟨some 16, (.move (.t 0)), none⟩, ⟨some 17, (.move (.t 5)), none⟩, ⟨some 18, (.idxSl 2 (.t 16) (.t 17)), none⟩, ⟨some 19, (.loadN 2 (.t 18)), none⟩, ⟨some 20, (.move (.t 1)), none⟩, ⟨some 21, (.move (.t 5)), none⟩, ⟨some 22, (.idxSl 2 (.t 20) (.t 21)), none⟩, ⟨some 23, (.loadN 2 (.t 22)), none⟩, ⟨some 24, (.bin .neq (.cells [1, 1]) (.t 19) (.t 23)), none⟩] []) (.cond (.t 24) (.seq (.region [⟨some 4, (.move (.c (.bool false))), none⟩]) .ret) .skip)))) (.region [⟨some 25, (.bin .add .no (.t 13) (.c (.int .i64 1))), none⟩, ⟨some 13, (.move (.t 25)), none⟩]))))))) (.seq (.region [⟨some 4, (.move (.c (.bool true))), none⟩]) .ret))))⟩
theorem prep14 : prepF Try.prog Try.f14 = some fd14 := by kernel_rfl
/-- understudy/understudyref15.Kept -/
def fd15 : FD := ⟨27, [(.tmp 4)], (.seq (.region [⟨some 2, (.box (.t 0)), none⟩, ⟨some 4, (.move (.c .nilSlice)), none⟩]) (.seq (.region [⟨some 8, (.buildSlice [] 0 [] 2), none⟩, ⟨some 5, (.move (.t 8)), none⟩]) (.seq (.seq (.region [⟨some 9, (.move (.t 1)), none⟩, ⟨some 10, (.len 1 (.t 9)), none⟩, ⟨some 11, (.move (.c (.int .i64 0))), none⟩]) (.block 0 (.loop (.seq (.region [⟨some 12, (.bin .lss .no (.t 11) (.t 10)), none⟩]) (.seq (.cond (.t 12) .skip (.exit 0)) (.seq (.block 1 (.seq (.region [⟨some 13, (.move (.t 11)), none⟩, ⟨some 14, (.idxSl 4 (.t 9) (.t 11)), none⟩, ⟨some 15, (.loadN 4 (.t 14)), none⟩, ⟨some 7, (.alloc [(.int .u32 0), (.int .u32 0), (.int .i64 0), (.int .u32 0)]), none⟩, ⟨some 6, (.move (.t 13)), none⟩, ⟨none, (.store 4 (.t 7) (.t 15)), none⟩]) (.seq (.region [⟨some 16, (.loadN 4 (.t 2)), none⟩, ⟨some 17, (.move (.t 1)), none⟩, ⟨some 18, (.move (.t 6)), none⟩, ⟨some 19, (.call (.c (.fn (.func 23) [] [])) [(.t 16), (.t 17), (.t 18)]), none⟩]) (.cond (.t 19) (.region [⟨some 20, (.move (.t 5)), none⟩, ⟨some 21, (.fieldAddr 0 (.t 7)), none⟩, ⟨some 22, (.loadN 2 (.t 21)), none⟩, ⟨some 23, (.buildSlice [(.int .u32 0), (.int .u32 0)] 1 [(0, 2, (.t 22))] 2), none⟩, ⟨some 24, (.append 2 8 [(.int .u32 0), (.int .u32 0)] (.t 20) (.t 23)), none⟩, ⟨some 5, (.move (.t 24)), none⟩]) .skip)))) (.region [⟨some 25, (.bin .add .no (.t 11) (.c (.int .i64 1))), none⟩, ⟨some 11, (.move (.t 25)), none⟩]))))))) (.seq (.region [⟨some 26, (.move (.t 5)), none⟩, ⟨some 4, (.move (.t 26)), none⟩]) .ret))))⟩
theorem prep15 : prepF Try.prog Try.f15 = some fd15 := by kernel_rfl
/-- understudy/understudyref15.Goes -/
def fd16 : FD := ⟨48, [(.tmp 6)], (.seq (.region [⟨some 3, (.box (.t 0)), none⟩, ⟨some 6, (.move (.c .nilSlice)), none⟩]) (.seq (.region [⟨some 13, (.buildSlice [] 0 [] 2), none⟩, ⟨some 7, (.move (.t 13)), none⟩]) (.seq (.seq (.region [⟨some 14, (.move (.t 1)), none⟩, ⟨some 15, (.len 1 (.t 14)), none⟩, ⟨some 16, (.move (.c (.int .i64 0))), none⟩]) (.block 0 (.loop (.seq (.region [⟨some 17, (.bin .lss .no (.t 16) (.t 15)), none⟩]) (.seq (.cond (.t 17) .skip (.exit 0)) (.seq (.block 1 (.seq (.region [⟨some 18, (.move (.t 16)), none⟩, ⟨some 19, (.idxSl 4 (.t 14) (.t 16)), none⟩, ⟨some 20, (.loadN 4 (.t 19)), none⟩, ⟨some 9, (.alloc [(.int .u32 0), (.int .u32 0), (.int .i64 0), (.int .u32 0)]), none⟩, ⟨some 8, (.move (.t 18)), none⟩, ⟨none, (.store 4 (.t 9) (.t 20)), none⟩]) (.seq (.region [⟨some 21, (.loadN 4 (.t 3)), none⟩, ⟨some 22, (.move (.t 1)), none⟩, ⟨some 23, (.move (.t 8)), none⟩, ⟨some 24, (.call (.c (.fn (.func 23) [] [])) [(.t 21), (.t 22), (.t 23)]), none⟩, ⟨some 10, (.move (.t 24)), none⟩]) (.seq (.seq (.region [⟨some 25, (.move (.t 2)), none⟩, ⟨some 26, (.len 1 (.t 25)), none⟩, ⟨some 27, (.move (.c (.int .i64 0))), none⟩]) (.block 2 (.loop (.seq (.region [⟨some 28, (.bin .lss .no (.t 27) (.t 26)), none⟩]) (.seq (.cond (.t 28) .skip (.exit 2)) (.seq (.block 3 (.seq (.region [⟨some 29, (.idxSl 2 (.t 25) (.t 27)), none⟩, ⟨some 30, (.loadN 2 (.t 29)), none⟩, ⟨some 12, (.alloc [(.int .u32 0), (.int .u32 0)]), none⟩, ⟨none, (.store 2 (.t 12) (.t 30)), none⟩]) (.region [⟨some 31, (.move (.t 10)), none⟩, ⟨some 32, (.move (.t 31)), none⟩, ⟨some 33, (.loadN 2 (.t 12)), some (32, false)⟩, ⟨some 34, (.fieldAddr 0 (.t 9)), some (32, false)⟩, ⟨some 35, (.loadN 2 (.t 34)), some (32, false)⟩, ⟨some 36, (.bin .eql (.cells [1, 1]) (.t 33) (.t 35)), some (32, false)⟩, ⟨some 37, (.pick (.t 32) (.c (.bool true)) (.t 36)), none⟩, ⟨some 10, (.move (.t 37)), none⟩]))) (.region [⟨some 38, (.bin .add .no (.t 27) (.c (.int .i64 1))), none⟩, ⟨some 27, (.move (.t 38)), none⟩]))))))) (.seq (.region [⟨some 39, (.move (.t 10)), none⟩, ⟨some 40, (.un .not (.t 39)), none⟩]) (.cond (.t 40) (.region [⟨some 41, (.move (.t 7)), none⟩, ⟨some 42, (.fieldAddr 0 (.t 9)), none⟩, ⟨some 43, (.loadN 2 (.t 42)), none⟩, ⟨some 44, (.buildSlice [(.int .u32 0), (.int .u32 0)] 1 [(0, 2, (.t 43))] 2), none⟩, ⟨some 45, (.append 2 8 [(.int .u32 0), (.int .u32 0)] (.t 41) (.t 44)), none⟩, ⟨some 7, (.move (.t 45)), none⟩]) .skip)))))) (.region [⟨some 46, (.bin .add .no (.t 16) (.c (.int .i64 1))), none⟩, ⟨some 16, (.move (.t 46)), none⟩]))))))) (.seq (.region [⟨some 47, (.move (.t 7)), none⟩, ⟨some 6, (.move (.t 47)), none⟩]) .ret))))⟩
theorem prep16 : prepF Try.prog Try.f16 = some fd16 := by kernel_rfl
/-- understudy/keep.spans -/
def fd17 : FD := ⟨58, [(.tmp 4)], (.seq (.region [⟨some 4, (.move (.c .nilSlice)), none⟩]) (.seq (.region [⟨some 14, .mkMap, none⟩, ⟨some 5, (.alloc [.nilMap]), none⟩, ⟨none, (.store 1 (.t 5) (.t 14)), none⟩]) (.seq (.seq (.region [⟨some 15, (.move (.t 1)), none⟩, ⟨some 16, (.len 1 (.t 15)), none⟩, ⟨some 17, (.move (.c (.int .i64 0))), none⟩]) (.block 0 (.loop (.seq (.region [⟨some 18, (.bin .lss .no (.t 17) (.t 16)), none⟩]) (.seq (.cond (.t 18) .skip (.exit 0)) (.seq (.block 1 (.seq (.region [⟨some 19, (.idxSl 4 (.t 15) (.t 17)), none⟩, ⟨some 20, (.loadN 4 (.t 19)), none⟩, ⟨some 7, (.alloc [(.int .u32 0), (.int .u32 0), (.int .i64 0), (.int .u32 0)]), none⟩, ⟨none, (.store 4 (.t 7) (.t 20)), none⟩]) (.seq (.region [⟨some 21, (.fieldAddr 3 (.t 7)), none⟩, ⟨some 22, (.load1 (.t 21)), none⟩, ⟨some 23, (.move (.t 0)), none⟩, ⟨some 24, (.bin .quo .no (.t 22) (.t 23)), none⟩, ⟨some 8, (.move (.t 24)), none⟩]) (.drawn [⟨some 25, (.load1 (.t 5)), none⟩, ⟨some 26, (.move (.t 8)), none⟩, ⟨some 27, (.load1 (.t 5)), none⟩, ⟨some 28, (.move (.t 8)), none⟩, ⟨some 29, (.lookup (.agg [(.int .u32 0), (.int .u32 0)]) (.t 27) (.t 28) false), none⟩, ⟨some 30, (.fieldAddr 0 (.t 7)), none⟩, ⟨some 31, (.loadN 2 (.t 30)), none⟩, ⟨some 32, (.buildSlice [(.int .u32 0), (.int .u32 0), (.int .u32 0), (.int .u32 0)] 2 [(0, 2, (.t 29)), (2, 2, (.t 31))] 2), none⟩, ⟨some 33, (.call (.c (.fn (.func 24) [] [])) [(.t 32)]), none⟩, ⟨none, (.mapUpd (.t 25) (.t 26) (.t 33)), none⟩] [⟨0, [7, 8, 9]⟩])))) (.region [⟨some 34, (.bin .add .no (.t 17) (.c (.int .i64 1))), none⟩, ⟨some 17, (.move (.t 34)), none⟩]))))))) (.seq (.region [⟨some 9, (.move (.c .nilSlice)), none⟩]) (.seq (.seq (.region [⟨some 35, (.load1 (.t 5)), none⟩, ⟨some 36, (.range (.t 35)), none⟩]) (.block 2 (.loop (.seq (.region [⟨some 37, (.next (.t 36)), none⟩, ⟨some 38, (.extract (.t 37) 0), none⟩]) (.seq (.cond (.t 38) .skip (.exit 2)) (.block 3 (.seq (.region [⟨some 39, (.entry (.t 36)), none⟩, ⟨some 40, (.extract (.t 39) 0), none⟩, ⟨some 10, (.move (.t 40)), none⟩]) (.region [⟨some 41, (.move (.t 9)), none⟩, ⟨some 42, (.move (.t 10)), none⟩, ⟨some 43, (.buildSlice [(.int .u32 0)] 1 [(0, 1, (.t 42))] 1), none⟩, ⟨some 44, (.append 1 4 [(.int .u32 0)] (.t 41) (.t 43)), none⟩, ⟨some 9, (.move (.t 44)), none⟩])))))))) (.seq (.region [⟨some 45, (.move (.t 9)), none⟩, ⟨some 46, (.call (.c (.fn (.func 25) [] [])) [(.t 45)]), none⟩]) (.seq (.region [⟨some 11, (.alloc [.nilSlice]), none⟩]) (.seq (.seq (.region [⟨some 47, (.move (.t 9)), none⟩, ⟨some 48, (.call (.c (.fn (.func 26) [] [])) [(.t 47)]), none⟩]) (.block 4 (.rangeF (.t 48) [49, 50] (.region [⟨some 13, (.move (.t 50)), none⟩]) (.block 5 (.region [⟨some 51, (.load1 (.t 11)), none⟩, ⟨some 52, (.load1 (.t 5)), none⟩, ⟨some 53, (.move (.t 13)), none⟩, ⟨some 54, (.lookup (.agg [(.int .u32 0), (.int .u32 0)]) (.t 52) (.t 53) false), none⟩, ⟨some 55, (.buildSlice [(.int .u32 0), (.int .u32 0)] 1 [(0, 2, (.t 54))] 2), none⟩, ⟨some 56, (.append 2 8 [(.int .u32 0), (.int .u32 0)] (.t 51) (.t 55)), none⟩, ⟨none, (.store 1 (.t 11) (.t 56)), none⟩]))))) (.seq (.region [⟨some 57, (.load1 (.t 11)), none⟩, ⟨some 4, (.move (.t 57)), none⟩]) .ret)))))))))⟩
theorem prep17 : prepF Try.prog Try.f17 = some fd17 := by kernel_rfl
/-- slices.SortFunc[[]understudy/api.Label,understudy/api.Label] -/
def fd18 : FD := ⟨14, [], (.seq (.region [⟨some 5, (.move (.t 0)), none⟩, ⟨some 6, (.len 1 (.t 5)), none⟩, ⟨some 4, (.move (.t 6)), none⟩]) (.region [⟨some 7, (.move (.t 0)), none⟩, ⟨some 8, (.move (.t 4)), none⟩, ⟨some 9, (.move (.t 4)), none⟩, ⟨some 10, (.convInt .u64 (.t 9)), none⟩, ⟨some 11, (.call (.c (.fn (.func 28) [] [])) [(.t 10)]), none⟩, ⟨some 12, (.move (.t 1)), none⟩, ⟨some 13, (.call (.c (.fn (.func 27) [] [])) [(.t 7), (.c (.int .i64 0)), (.t 8), (.t 11), (.t 12)]), none⟩]))⟩
theorem prep18 : prepF Try.prog Try.f18 = some fd18 := by kernel_rfl
/-- understudy/label.Compare -/
def fd19 : FD := ⟨17, [(.tmp 4)], (.seq (.region [⟨some 2, (.box (.t 0)), none⟩, ⟨some 3, (.box (.t 1)), none⟩, ⟨some 4, (.move (.c (.int .i64 0))), none⟩]) (.seq (.drawn [⟨some 5, (.fieldAddr 0 (.t 2)), none⟩, ⟨some 6, (.load1 (.t 5)), none⟩, ⟨some 7, (.fieldAddr 0 (.t 3)), none⟩, ⟨some 8, (.load1 (.t 7)), none⟩, ⟨some 9, (.call (.c (.fn (.func 30) [] [])) [(.t 6), (.t 8)]), none⟩, ⟨some 10, (.fieldAddr 1 (.t 2)), none⟩, ⟨some 11, (.load1 (.t 10)), none⟩, ⟨some 12, (.fieldAddr 1 (.t 3)), none⟩, ⟨some 13, (.load1 (.t 12)), none⟩, ⟨some 14, (.call (.c (.fn (.func 30) [] [])) [(.t 11), (.t 13)]), none⟩, ⟨some 15, (.buildSlice [(.int .i64 0), (.int .i64 0)] 2 [(0, 1, (.t 9)), (1, 1, (.t 14))] 1), none⟩, ⟨some 16, (.call (.c (.fn (.func 29) [] [])) [(.t 15)]), none⟩, ⟨some 4, (.move (.t 16)), none⟩] [⟨6, [4, 9]⟩, ⟨8, [4, 9]⟩]) .ret))⟩
theorem prep19 : prepF Try.prog Try.f19 = some fd19 := by kernel_rfl
/-- slices.Compact[[]understudy/api.Label,understudy/api.Label] -/
def fd20 : FD := ⟨61, [(.tmp 2)], (.seq (.region [⟨some 2, (.move (.c .nilSlice)), none⟩]) (.seq (.seq (.region [⟨some 6, (.move (.t 0)), none⟩, ⟨some 7, (.len 1 (.t 6)), none⟩, ⟨some 8, (.bin .lss .no (.t 7) (.c (.int .i64 2))), none⟩]) (.cond (.t 8) (.seq (.region [⟨some 9, (.move (.t 0)), none⟩, ⟨some 2, (.move (.t 9)), none⟩]) .ret) .skip)) (.seq (.seq (.region [⟨some 3, (.move (.c (.int .i64 1))), none⟩]) (.block 0 (.loop (.seq (.seq (.region [⟨some 10, (.move (.t 3)), none⟩, ⟨some 11, (.move (.t 0)), none⟩, ⟨some 12, (.len 1 (.t 11)), none⟩, ⟨some 13, (.bin .lss .no (.t 10) (.t 12)), none⟩]) (.cond (.t 13) .skip (.exit 0))) (.seq (.block 1 (.seq (.drawn [⟨some 16, (.move (.t 0)), none⟩, ⟨some 17, (.move (.t 3)), none⟩, ⟨some 18, (.idxSl 2 (.t 16) (.t 17)), none⟩, ⟨some 19, (.loadN 2 (.t 18)), none⟩, ⟨some 20, (.move (.t 0)), none⟩, ⟨some 21, (.move (.t 3)), none⟩, ⟨some 22, (.bin .sub .no (.t 21) (.c (.int .i64 1))), none⟩, ⟨some 23, (.idxSl 2 (.t 20) (.t 22)), none⟩, ⟨some 24, (.loadN 2 (.t 23)), none⟩, ⟨some 25, (.bin .eql (.cells [1, 1]) (.t 19) (.t 24)), none⟩] []) (.cond (.t 25) (.seq (.region [⟨some 26, (.move (.t 0)), none⟩, ⟨some 27, (.move (.t 3)), none⟩, ⟨some 28, (.sliceSl 2 (.t 26) (some (.t 27)) none none), none⟩, ⟨some 4, (.move (.t 28)), none⟩]) (.seq (.seq (.region [⟨some 5, (.move (.c (.int .i64 1))), none⟩]) (.block 2 (.loop (.seq (.seq (.region [⟨some 29, (.move (.t 5)), none⟩, ⟨some 30, (.move (.t 4)), none⟩, ⟨some 31, (.len 1 (.t 30)), none⟩, ⟨some 32, (.bin .lss .no (.t 29) (.t 31)), none⟩]) (.cond (.t 32) .skip (.exit 2))) (.seq (.block 3 (.seq (.drawn [⟨some 35, (.move (.t 4)), none⟩, ⟨some 36, (.move (.t 5)), none⟩, ⟨some 37, (.idxSl 2 (.t 35) (.t 36)), none⟩, ⟨some 38, (.loadN 2 (.t 37)), none⟩, ⟨some 39, (.move (.t 4)), none⟩, ⟨some 40, (.move (.t 5)), none⟩, ⟨some 41, (.bin .sub .no (.t 40) (.c (.int .i64 1))), none⟩, ⟨some 42, (.idxSl 2 (.t 39) (.t 41)), none⟩, ⟨some 43, (.loadN 2 (.t 42)), none⟩, ⟨some 44, (.bin .neq (.cells [1, 1]) (.t 38) (.t 43)), none⟩] []) (.cond (.t 44) (.seq (.region [⟨some 45, (.move (.t 0)), none⟩, ⟨some 46, (.move (.t 3)), none⟩, ⟨some 47, (.move (.t 4)), none⟩, ⟨some 48, (.move (.t 5)), none⟩, ⟨some 49, (.idxSl 2 (.t 47) (.t 48)), none⟩, ⟨some 50, (.loadN 2 (.t 49)), none⟩, ⟨some 51, (.idxSl 2 (.t 45) (.t 46)), none⟩, ⟨none, (.store 2 (.t 51) (.t 50)), none⟩]) (.region [⟨some 52, (.move (.t 3)), none⟩, ⟨some 53, (.bin .add .no (.t 52) (.c (.int .i64 1))), none⟩, ⟨some 3, (.move (.t 53)), none⟩])) .skip))) (.region [⟨some 33, (.move (.t 5)), none⟩, ⟨some 34, (.bin .add .no (.t 33) (.c (.int .i64 1))), none⟩, ⟨some 5, (.move (.t 34)), none⟩])))))) (.seq (.region [⟨some 54, (.move (.t 0)), none⟩, ⟨some 55, (.move (.t 3)), none⟩, ⟨some 56, (.sliceSl 2 (.t 54) (some (.t 55)) none none), none⟩, ⟨none, (.clear [(.int .u32 0), (.int .u32 0)] (.t 56)), none⟩]) (.seq (.region [⟨some 57, (.move (.t 0)), none⟩, ⟨some 58, (.move (.t 3)), none⟩, ⟨some 59, (.sliceSl 2 (.t 57) none (some (.t 58)) none), none⟩, ⟨some 2, (.move (.t 59)), none⟩]) .ret)))) .skip))) (.region [⟨some 14, (.move (.t 3)), none⟩, ⟨some 15, (.bin .add .no (.t 14) (.c (.int .i64 1))), none⟩, ⟨some 3, (.move (.t 15)), none⟩])))))) (.seq (.region [⟨some 60, (.move (.t 0)), none⟩, ⟨some 2, (.move (.t 60)), none⟩]) .ret))))⟩
theorem prep20 : prepF Try.prog Try.f20 = some fd20 := by kernel_rfl
/-- slices.Contains[[]understudy/api.Label,understudy/api.Label] -/
def fd21 : FD := ⟨9, [(.tmp 4)], (.seq (.region [⟨some 3, (.box (.t 1)), none⟩, ⟨some 4, (.move (.c (.bool false))), none⟩]) (.seq (.region [⟨some 5, (.move (.t 0)), none⟩, ⟨some 6, (.loadN 2 (.t 3)), none⟩, ⟨some 7, (.call (.c (.fn (.func 31) [] [])) [(.t 5), (.t 6)]), none⟩, ⟨some 8, (.bin .geq .no (.t 7) (.c (.int .i64 0))), none⟩, ⟨some 4, (.move (.t 8)), none⟩]) .ret))⟩
theorem prep21 : prepF Try.prog Try.f21 = some fd21 := by kernel_rfl
/-- understudy/understudyref03.Less -/
def fd22 : FD := ⟨24, [(.tmp 4)], (.seq (.region [⟨some 2, (.box (.t 0)), none⟩, ⟨some 3, (.box (.t 1)), none⟩, ⟨some 4, (.move (.c (.bool false))), none⟩]) (.seq (.region [⟨some 5, (.fieldAddr 0 (.t 2)), none⟩, ⟨some 6, (.load1 (.t 5)), none⟩, ⟨some 7, (.fieldAddr 0 (.t 3)), none⟩, ⟨some 8, (.load1 (.t 7)), none⟩, ⟨some 9, (.bin .lss .no (.t 6) (.t 8)), none⟩, ⟨some 10, (.move (.t 9)), none⟩, ⟨some 11, (.fieldAddr 0 (.t 2)), some (10, false)⟩, ⟨some 12, (.load1 (.t 11)), some (10, false)⟩, ⟨some 13, (.fieldAddr 0 (.t 3)), some (10, false)⟩, ⟨some 14, (.load1 (.t 13)), some (10, false)⟩, ⟨some 15, (.bin .eql .no (.t 12) (.t 14)), some (10, false)⟩, ⟨some 16, (.move (.t 15)), some (10, false)⟩, ⟨some 17, (.fieldAddr 1 (.t 2)), some (16, true)⟩, ⟨some 18, (.load1 (.t 17)), some (16, true)⟩, ⟨some 19, (.fieldAddr 1 (.t 3)), some (16, true)⟩, ⟨some 20, (.load1 (.t 19)), some (16, true)⟩, ⟨some 21, (.bin .lss .no (.t 18) (.t 20)), some (16, true)⟩, ⟨some 22, (.pick (.t 16) (.t 21) (.c (.bool false))), some (10, false)⟩, ⟨some 23, (.pick (.t 10) (.c (.bool true)) (.t 22)), none⟩, ⟨some 4, (.move (.t 23)), none⟩]) .ret))⟩
theorem prep22 : prepF Try.prog Try.f22 = some fd22 := by kernel_rfl
/-- understudy/understudyref15.kept -/
def fd23 : FD := ⟨88, [(.tmp 6)], (.seq (.region [⟨some 3, (.box (.t 0)), none⟩, ⟨some 6, (.move (.c (.bool false))), none⟩]) (.seq (.seq (.region [⟨some 15, (.move (.t 1)), none⟩, ⟨some 16, (.len 1 (.t 15)), none⟩, ⟨some 17, (.move (.t 2)), none⟩, ⟨some 18, (.bin .sub .no (.t 16) (.t 17)), none⟩, ⟨some 19, (.fieldAddr 2 (.t 3)), none⟩, ⟨some 20, (.load1 (.t 19)), none⟩, ⟨some 21, (.bin .leq .no (.t 18) (.t 20)), none⟩]) (.cond (.t 21) (.seq (.region [⟨some 6, (.move (.c (.bool true))), none⟩]) .ret) .skip)) (.seq (.seq (.region [⟨some 22, (.fieldAddr 1 (.t 3)), none⟩, ⟨some 23, (.load1 (.t 22)), none⟩, ⟨some 24, (.bin .eql .no (.t 23) (.c (.int .u32 0))), none⟩]) (.cond (.t 24) (.seq (.region [⟨some 6, (.move (.c (.bool false))), none⟩]) .ret) .skip)) (.seq (.drawn [⟨some 25, (.move (.t 1)), none⟩, ⟨some 26, (.move (.t 2)), none⟩, ⟨some 27, (.idxSl 4 (.t 25) (.t 26)), none⟩, ⟨some 28, (.fieldAddr 3 (.t 27)), none⟩, ⟨some 29, (.load1 (.t 28)), none⟩, ⟨some 30, (.fieldAddr 1 (.t 3)), none⟩, ⟨some 31, (.load1 (.t 30)), none⟩, ⟨some 32, (.bin .quo .no (.t 29) (.t 31)), none⟩, ⟨some 7, (.move (.t 32)), none⟩] []) (.seq (.region [⟨some 33, (.buildSlice [] 0 [] 1), none⟩, ⟨some 8, (.move (.t 33)), none⟩]) (.seq (.seq (.region [⟨some 34, (.move (.t 1)), none⟩, ⟨some 35, (.len 1 (.t 34)), none⟩, ⟨some 36, (.move (.c (.int .i64 0))), none⟩]) (.block 0 (.loop (.seq (.region [⟨some 37, (.bin .lss .no (.t 36) (.t 35)), none⟩]) (.seq (.cond (.t 37) .skip (.exit 0)) (.seq (.block 1 (.seq (.region [⟨some 38, (.idxSl 4 (.t 34) (.t 36)), none⟩, ⟨some 39, (.loadN 4 (.t 38)), none⟩, ⟨some 10, (.alloc [(.int .u32 0), (.int .u32 0), (.int .i64 0), (.int .u32 0)]), none⟩, ⟨none, (.store 4 (.t 10) (.t 39)), none⟩]) (.seq (.region [⟨some 40, (.fieldAddr 3 (.t 10)), none⟩, ⟨some 41, (.load1 (.t 40)), none⟩, ⟨some 42, (.fieldAddr 1 (.t 3)), none⟩, ⟨some 43, (.load1 (.t 42)), none⟩, ⟨some 44, (.bin .quo .no (.t 41) (.t 43)), none⟩, ⟨some 11, (.move (.t 44)), none⟩]) (.seq (.seq (.drawn [⟨some 45, (.move (.t 11)), none⟩, ⟨some 46, (.move (.t 7)), none⟩, ⟨some 47, (.bin .eql .no (.t 45) (.t 46)), none⟩, ⟨some 48, (.move (.t 47)), none⟩, ⟨some 49, (.move (.t 1)), some (48, true)⟩, ⟨some 50, (.move (.t 2)), some (48, true)⟩, ⟨some 51, (.idxSl 4 (.t 49) (.t 50)), some (48, true)⟩, ⟨some 52, (.fieldAddr 0 (.t 51)), some (48, true)⟩, ⟨some 53, (.loadN 2 (.t 52)), some (48, true)⟩, ⟨some 54, (.fieldAddr 0 (.t 10)), some (48, true)⟩, ⟨some 55, (.loadN 2 (.t 54)), some (48, true)⟩, ⟨some 56, (.call (.c (.fn (.func 22) [] [])) [(.t 53), (.t 55)]), some (48, true)⟩, ⟨some 57, (.pick (.t 48) (.t 56) (.c (.bool false))), none⟩] []) (.cond (.t 57) (.seq (.region [⟨some 6, (.move (.c (.bool false))), none⟩]) .ret) .skip)) (.seq (.region [⟨some 12, (.move (.c (.bool false))), none⟩]) (.seq (.seq (.region [⟨some 58, (.move (.t 8)), none⟩, ⟨some 59, (.len 1 (.t 58)), none⟩, ⟨some 60, (.move (.c (.int .i64 0))), none⟩]) (.block 2 (.loop (.seq (.region [⟨some 61, (.bin .lss .no (.t 60) (.t 59)), none⟩]) (.seq (.cond (.t 61) .skip (.exit 2)) (.seq (.block 3 (.seq (.region [⟨some 62, (.idxSl 1 (.t 58) (.t 60)), none⟩, ⟨some 63, (.load1 (.t 62)), none⟩, ⟨some 14, (.move (.t 63)), none⟩]) (.region [⟨some 64, (.move (.t 12)), none⟩, ⟨some 65, (.move (.t 64)), none⟩, ⟨some 66, (.move (.t 14)), some (65, false)⟩, ⟨some 67, (.move (.t 11)), some (65, false)⟩, ⟨some 68, (.bin .eql .no (.t 66) (.t 67)), some (65, false)⟩, ⟨some 69, (.pick (.t 65) (.c (.bool true)) (.t 68)), none⟩, ⟨some 12, (.move (.t 69)), none⟩]))) (.region [⟨some 70, (.bin .add .no (.t 60) (.c (.int .i64 1))), none⟩, ⟨some 60, (.move (.t 70)), none⟩]))))))) (.seq (.region [⟨some 71, (.move (.t 11)), none⟩, ⟨some 72, (.move (.t 7)), none⟩, ⟨some 73, (.bin .gtr .no (.t 71) (.t 72)), none⟩, ⟨some 74, (.move (.t 73)), none⟩, ⟨some 75, (.move (.t 12)), some (74, true)⟩, ⟨some 76, (.un .not (.t 75)), some (74, true)⟩, ⟨some 77, (.pick (.t 74) (.t 76) (.c (.bool false))), none⟩]) (.cond (.t 77) (.region [⟨some 78, (.move (.t 8)), none⟩, ⟨some 79, (.move (.t 11)), none⟩, ⟨some 80, (.buildSlice [(.int .u32 0)] 1 [(0, 1, (.t 79))] 1), none⟩, ⟨some 81, (.append 1 4 [(.int .u32 0)] (.t 78) (.t 80)), none⟩, ⟨some 8, (.move (.t 81)), none⟩]) .skip)))))))) (.region [⟨some 82, (.bin .add .no (.t 36) (.c (.int .i64 1))), none⟩, ⟨some 36, (.move (.t 82)), none⟩]))))))) (.seq (.region [⟨some 83, (.move (.t 8)), none⟩, ⟨some 84, (.len 1 (.t 83)), none⟩, ⟨some 85, (.fieldAddr 3 (.t 3)), none⟩, ⟨some 86, (.load1 (.t 85)), none⟩, ⟨some 87, (.bin .lss .no (.t 84) (.t 86)), none⟩, ⟨some 6, (.move (.t 87)), none⟩]) .ret)))))))⟩
theorem prep23 : prepF Try.prog Try.f23 = some fd23 := by kernel_rfl
/-- understudy/label.Last -/
def fd24 : FD := ⟨9, [(.cellN 2 2)], (.seq (.region [⟨some 2, (.alloc [(.int .u32 0), (.int .u32 0)]), none⟩]) (.seq (.seq (.region [⟨some 3, (.move (.t 0)), none⟩, ⟨some 4, (.len 1 (.t 3)), none⟩, ⟨some 5, (.bin .eql .no (.t 4) (.c (.int .i64 0))), none⟩]) (.cond (.t 5) (.seq (.region [⟨some 6, (.build [(.int .u32 0), (.int .u32 0)] []), none⟩, ⟨none, (.store 2 (.t 2) (.t 6)), none⟩]) .ret) .skip)) (.seq (.region [⟨some 7, (.move (.t 0)), none⟩, ⟨some 8, (.call (.c (.fn (.func 32) [] [])) [(.t 7), (.c (.fn (.func 19) [] []))]), none⟩, ⟨none, (.store 2 (.t 2) (.t 8)), none⟩]) .ret)))⟩
theorem prep24 : prepF Try.prog Try.f24 = some fd24 := by kernel_rfl
/-- slices.Sort[[]uint32,uint32] -/
def fd25 : FD := ⟨11, [], (.seq (.region [⟨some 3, (.move (.t 0)), none⟩, ⟨some 4, (.len 1 (.t 3)), none⟩, ⟨some 2, (.move (.t 4)), none⟩]) (.region [⟨some 5, (.move (.t 0)), none⟩, ⟨some 6, (.move (.t 2)), none⟩, ⟨some 7, (.move (.t 2)), none⟩, ⟨some 8, (.convInt .u64 (.t 7)), none⟩, ⟨some 9, (.call (.c (.fn (.func 28) [] [])) [(.t 8)]), none⟩, ⟨some 10, (.call (.c (.fn (.func 33) [] [])) [(.t 5), (.c (.int .i64 0)), (.t 6), (.t 9)]), none⟩]))⟩
theorem prep25 : prepF Try.prog Try.f25 = some fd25 := by kernel_rfl
/-- slices.Backward[[]uint32,uint32] -/
def fd26 : FD := ⟨4, [(.tmp 2)], (.seq (.region [⟨some 1, (.box (.t 0)), none⟩, ⟨some 2, (.move (.c .nilFn)), none⟩]) (.seq (.region [⟨some 3, (.mkFunc (.func 34) [] [(.t 1)]), none⟩, ⟨some 2, (.move (.t 3)), none⟩]) .ret))⟩
theorem prep26 : prepF Try.prog Try.f26 = some fd26 := by kernel_rfl
/-- slices.pdqsortCmpFunc[understudy/api.Label] -/
def fd27 : FD := ⟨148, [], (.seq (.region [⟨some 10, (.move (.c (.bool true))), none⟩]) (.seq (.region [⟨some 11, (.move (.c (.bool true))), none⟩]) (.block 0 (.loop (.block 1 (.seq (.region [⟨some 21, (.move (.t 2)), none⟩, ⟨some 22, (.move (.t 1)), none⟩, ⟨some 23, (.bin .sub .no (.t 21) (.t 22)), none⟩, ⟨some 12, (.move (.t 23)), none⟩]) (.seq (.seq (.region [⟨some 24, (.move (.t 12)), none⟩, ⟨some 25, (.bin .leq .no (.t 24) (.c (.int .i64 12))), none⟩]) (.cond (.t 25) (.seq (.region [⟨some 26, (.move (.t 0)), none⟩, ⟨some 27, (.move (.t 1)), none⟩, ⟨some 28, (.move (.t 2)), none⟩, ⟨some 29, (.move (.t 4)), none⟩, ⟨some 30, (.call (.c (.fn (.func 35) [] [])) [(.t 26), (.t 27), (.t 28), (.t 29)]), none⟩]) .ret) .skip)) (.seq (.seq (.region [⟨some 31, (.move (.t 3)), none⟩, ⟨some 32, (.bin .eql .no (.t 31) (.c (.int .i64 0))), none⟩]) (.cond (.t 32) (.seq (.region [⟨some 33, (.move (.t 0)), none⟩, ⟨some 34, (.move (.t 1)), none⟩, ⟨some 35, (.move (.t 2)), none⟩, ⟨some 36, (.move (.t 4)), none⟩, ⟨some 37, (.call (.c (.fn (.func 36) [] [])) [(.t 33), (.t 34), (.t 35), (.t 36)]), none⟩]) .ret) .skip)) (.seq (.seq (.region [⟨some 38, (.move (.t 10)), none⟩, ⟨some 39, (.un .not (.t 38)), none⟩]) (.cond (.t 39) (.seq (.region [⟨some 40, (.move (.t 0)), none⟩, ⟨some 41, (.move (.t 1)), none⟩, ⟨some 42, (.move (.t 2)), none⟩, ⟨some 43, (.move (.t 4)), none⟩, ⟨some 44, (.call (.c (.fn (.func 37) [] [])) [(.t 40), (.t 41), (.t 42), (.t 43)]), none⟩]) (.region [⟨some 45, (.move (.t 3)), none⟩, ⟨some 46, (.bin .sub .no (.t 45) (.c (.int .i64 1))), none⟩, ⟨some 3, (.move (.t 46)), none⟩])) .skip)) (.seq (.region [⟨some 48, (.move (.t 0)), none⟩, ⟨some 49, (.move (.t 1)), none⟩, ⟨some 50, (.move (.t 2)), none⟩, ⟨some 51, (.move (.t 4)), none⟩, ⟨some 52, (.call (.c (.fn (.func 38) [] [])) [(.t 48), (.t 49), (.t 50), (.t 51)]), none⟩, ⟨some 47, (.move (.t 52)), none⟩, ⟨some 53, (.extract (.t 47) 0), none⟩, ⟨some 54, (.extract (.t 47) 1), none⟩, ⟨some 13, (.move (.t 53)), none⟩, ⟨some 14, (.move (.t 54)), none⟩]) (.seq (.seq (.region [⟨some 55, (.move (.t 14)), none⟩, ⟨some 56, (.bin .eql .no (.t 55) (.c (.int .i64 2))), none⟩]) (.cond (.t 56) (.seq (.region [⟨some 57, (.move (.t 0)), none⟩, ⟨some 58, (.move (.t 1)), none⟩, ⟨some 59, (.move (.t 2)), none⟩, ⟨some 60, (.move (.t 4)), none⟩, ⟨some 61, (.call (.c (.fn (.func 39) [] [])) [(.t 57), (.t 58), (.t 59), (.t 60)]), none⟩]) (.seq (.region [⟨some 62, (.move (.t 2)), none⟩, ⟨some 63, (.bin .sub .no (.t 62) (.c (.int .i64 1))), none⟩, ⟨some 64, (.move (.t 13)), none⟩, ⟨some 65, (.move (.t 1)), none⟩, ⟨some 66, (.bin .sub .no (.t 64) (.t 65)), none⟩, ⟨some 67, (.bin .sub .no (.t 63) (.t 66)), none⟩, ⟨some 13, (.move (.t 67)), none⟩]) (.region [⟨some 14, (.move (.c (.int .i64 1))), none⟩]))) .skip)) (.seq (.seq (.region [⟨some 68, (.move (.t 10)), none⟩, ⟨some 69, (.move (.t 68)), none⟩, ⟨some 70, (.move (.t 11)), some (69, true)⟩, ⟨some 71, (.pick (.t 69) (.t 70) (.c (.bool false))), none⟩, ⟨some 72, (.move (.t 71)), none⟩, ⟨some 73, (.move (.t 14)), some (72, true)⟩, ⟨some 74, (.bin .eql .no (.t 73) (.c (.int .i64 1))), some (72, true)⟩, ⟨some 75, (.pick (.t 72) (.t 74) (.c (.bool false))), none⟩]) (.cond (.t 75) (.seq (.region [⟨some 76, (.move (.t 0)), none⟩, ⟨some 77, (.move (.t 1)), none⟩, ⟨some 78, (.move (.t 2)), none⟩, ⟨some 79, (.move (.t 4)), none⟩, ⟨some 80, (.call (.c (.fn (.func 40) [] [])) [(.t 76), (.t 77), (.t 78), (.t 79)]), none⟩]) (.cond (.t 80) .ret .skip)) .skip)) (.seq (.seq (.drawn [⟨some 81, (.move (.t 1)), none⟩, ⟨some 82, (.bin .gtr .no (.t 81) (.c (.int .i64 0))), none⟩, ⟨some 83, (.move (.t 82)), none⟩, ⟨some 84, (.move (.t 4)), some (83, true)⟩, ⟨some 85, (.move (.t 0)), some (83, true)⟩, ⟨some 86, (.move (.t 1)), some (83, true)⟩, ⟨some 87, (.bin .sub .no (.t 86) (.c (.int .i64 1))), some (83, true)⟩, ⟨some 88, (.idxSl 2 (.t 85) (.t 87)), some (83, true)⟩, ⟨some 89, (.loadN 2 (.t 88)), some (83, true)⟩, ⟨some 90, (.move (.t 0)), some (83, true)⟩, ⟨some 91, (.move (.t 13)), some (83, true)⟩, ⟨some 92, (.idxSl 2 (.t 90) (.t 91)), some (83, true)⟩, ⟨some 93, (.loadN 2 (.t 92)), some (83, true)⟩, ⟨some 94, (.call (.t 84) [(.t 89), (.t 93)]), some (83, true)⟩, ⟨some 95, (.bin .lss .no (.t 94) (.c (.int .i64 0))), some (83, true)⟩, ⟨some 96, (.un .not (.t 95)), some (83, true)⟩, ⟨some 97, (.pick (.t 83) (.t 96) (.c (.bool false))), none⟩] []) (.cond (.t 97) (.seq (.region [⟨some 98, (.move (.t 0)), none⟩, ⟨some 99, (.move (.t 1)), none⟩, ⟨some 100, (.move (.t 2)), none⟩, ⟨some 101, (.move (.t 13)), none⟩, ⟨some 102, (.move (.t 4)), none⟩, ⟨some 103, (.call (.c (.fn (.func 41) [] [])) [(.t 98), (.t 99), (.t 100), (.t 101), (.t 102)]), none⟩, ⟨some 15, (.move (.t 103)), none⟩]) (.seq (.region [⟨some 104, (.move (.t 15)), none⟩, ⟨some 1, (.move (.t 104)), none⟩]) (.exit 1))) .skip)) (.seq (.region [⟨some 106, (.move (.t 0)), none⟩, ⟨some 107, (.move (.t 1)), none⟩, ⟨some 108, (.move (.t 2)), none⟩, ⟨some 109, (.move (.t 13)), none⟩, ⟨some 110, (.move (.t 4)), none⟩, ⟨some 111, (.call (.c (.fn (.func 42) [] [])) [(.t 106), (.t 107), (.t 108), (.t 109), (.t 110)]), none⟩, ⟨some 105, (.move (.t 111)), none⟩, ⟨some 112, (.extract (.t 105) 0), none⟩, ⟨some 113, (.extract (.t 105) 1), none⟩, ⟨some 16, (.move (.t 112)), none⟩, ⟨some 17, (.move (.t 113)), none⟩]) (.seq (.region [⟨some 114, (.move (.t 17)), none⟩, ⟨some 11, (.move (.t 114)), none⟩]) (.seq (.region [⟨some 115, (.move (.t 16)), none⟩, ⟨some 116, (.move (.t 1)), none⟩, ⟨some 117, (.bin .sub .no (.t 115) (.t 116)), none⟩, ⟨some 118, (.move (.t 2)), none⟩, ⟨some 119, (.move (.t 16)), none⟩, ⟨some 120, (.bin .sub .no (.t 118) (.t 119)), none⟩, ⟨some 18, (.move (.t 117)), none⟩, ⟨some 19, (.move (.t 120)), none⟩]) (.seq (.region [⟨some 121, (.move (.t 12)), none⟩, ⟨some 122, (.bin .quo .no (.t 121) (.c (.int .i64 8))), none⟩, ⟨some 20, (.move (.t 122)), none⟩]) (.seq (.region [⟨some 123, (.move (.t 18)), none⟩, ⟨some 124, (.move (.t 19)), none⟩, ⟨some 125, (.bin .lss .no (.t 123) (.t 124)), none⟩]) (.cond (.t 125) (.seq (.region [⟨some 126, (.move (.t 18)), none⟩, ⟨some 127, (.move (.t 20)), none⟩, ⟨some 128, (.bin .geq .no (.t 126) (.t 127)), none⟩, ⟨some 10, (.move (.t 128)), none⟩]) (.seq (.region [⟨some 129, (.move (.t 0)), none⟩, ⟨some 130, (.move (.t 1)), none⟩, ⟨some 131, (.move (.t 16)), none⟩, ⟨some 132, (.move (.t 3)), none⟩, ⟨some 133, (.move (.t 4)), none⟩, ⟨some 134, (.call (.c (.fn (.func 27) [] [])) [(.t 129), (.t 130), (.t 131), (.t 132), (.t 133)]), none⟩]) (.region [⟨some 135, (.move (.t 16)), none⟩, ⟨some 136, (.bin .add .no (.t 135) (.c (.int .i64 1))), none⟩, ⟨some 1, (.move (.t 136)), none⟩]))) (.seq (.region [⟨some 137, (.move (.t 19)), none⟩, ⟨some 138, (.move (.t 20)), none⟩, ⟨some 139, (.bin .geq .no (.t 137) (.t 138)), none⟩, ⟨some 10, (.move (.t 139)), none⟩]) (.seq (.region [⟨some 140, (.move (.t 0)), none⟩, ⟨some 141, (.move (.t 16)), none⟩, ⟨some 142, (.bin .add .no (.t 141) (.c (.int .i64 1))), none⟩, ⟨some 143, (.move (.t 2)), none⟩, ⟨some 144, (.move (.t 3)), none⟩, ⟨some 145, (.move (.t 4)), none⟩, ⟨some 146, (.call (.c (.fn (.func 27) [] [])) [(.t 140), (.t 142), (.t 143), (.t 144), (.t 145)]), none⟩]) (.region [⟨some 147, (.move (.t 16)), none⟩, ⟨some 2, (.move (.t 147)), none⟩]))))))))))))))))))))))⟩
theorem prep27 : prepF Try.prog Try.f27 = some fd27 := by kernel_rfl
/-- math/bits.Len -/
def fd28 : FD := ⟨8, [(.tmp 2)], (.seq (.region [⟨some 2, (.move (.c (.int .i64 0))), none⟩]) (.seq (.cond (.c (.bool false)) (.seq (.region [⟨some 3, (.move (.t 0)), none⟩, ⟨some 4, (.convInt .u32 (.t 3)), none⟩, ⟨some 5, (.call (.c (.fn (.func 43) [] [])) [(.t 4)]), none⟩, ⟨some 2, (.move (.t 5)), none⟩]) .ret) .skip) (.seq (.region [⟨some 6, (.move (.t 0)), none⟩, ⟨some 7, (.call (.c (.fn (.func 44) [] [])) [(.t 6)]), none⟩, ⟨some 2, (.move (.t 7)), none⟩]) .ret)))⟩
theorem prep28 : prepF Try.prog Try.f28 = some fd28 := by kernel_rfl
/-- cmp.Or[int] -/
def fd29 : FD := ⟨18, [(.tmp 2)], (.seq (.region [⟨some 2, (.move (.c (.int .i64 0))), none⟩]) (.seq (.region [⟨some 3, (.move (.c (.int .i64 0))), none⟩]) (.seq (.seq (.region [⟨some 6, (.move (.t 0)), none⟩, ⟨some 7, (.len 1 (.t 6)), none⟩, ⟨some 8, (.move (.c (.int .i64 0))), none⟩]) (.block 0 (.loop (.seq (.region [⟨some 9, (.bin .lss .no (.t 8) (.t 7)), none⟩]) (.seq (.cond (.t 9) .skip (.exit 0)) (.seq (.block 1 (.seq (.region [⟨some 10, (.idxSl 1 (.t 6) (.t 8)), none⟩, ⟨some 11, (.load1 (.t 10)), none⟩, ⟨some 5, (.move (.t 11)), none⟩]) (.seq (.region [⟨some 12, (.move (.t 5)), none⟩, ⟨some 13, (.move (.t 3)), none⟩, ⟨some 14, (.bin .neq .no (.t 12) (.t 13)), none⟩]) (.cond (.t 14) (.seq (.region [⟨some 15, (.move (.t 5)), none⟩, ⟨some 2, (.move (.t 15)), none⟩]) .ret) .skip)))) (.region [⟨some 16, (.bin .add .no (.t 8) (.c (.int .i64 1))), none⟩, ⟨some 8, (.move (.t 16)), none⟩]))))))) (.seq (.region [⟨some 17, (.move (.t 3)), none⟩, ⟨some 2, (.move (.t 17)), none⟩]) .ret))))⟩
theorem prep29 : prepF Try.prog Try.f29 = some fd29 := by kernel_rfl
end Go.Proofs.Ytbkpjeooommelaa
