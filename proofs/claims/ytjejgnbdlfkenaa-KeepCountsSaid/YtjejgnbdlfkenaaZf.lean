/- Code that may be left in several ways: what holds of all of them; loops over maps. Plain laws; no program.
keep.spans: of each span the last snapshot. First part: what is gathered.
Whatever the abstract machine does: all that lies has a number that was given out. Plain laws; no program.
slices.Sort over numbers of 32 bits. First part: what an array holds; the insertion sort; the heap.
slices.Sort over numbers of 32 bits. Second part: the heap sort, the reversal, the partitions. Printed by kq.py. -/
import Derived.Test.YtjejgnbdlfkenaaZe
import Derived.Maps.RangeRun
import Derived.Sort.AssemblyPlain
namespace Go.Proofs.Ytjejgnbdlfkenaa.D
noncomputable section
variable {P : Program} {R : Nat}

abbrev NPost := AExit → Tr AV → List Nat → St → Prop

def NLeft (P : Program) (R : Nat) (μ : Place) (s : St) (w : World) (N : Nat) (Q : NPost) : Exit → Act → World → Prop :=
  fun e a' w' => ∃ x ts' ds' s', Q x ts' ds' s' ∧ Left P R μ s w N x ts' ds' s' e a' w'

theorem NLeft.trans {μ ν : Place} {s s1 : St} {w w1 : World} {N : Nat} {Q : NPost} {e : Exit} {a : Act} {w' : World} (m : Mv μ s w ν s1 w1) (h : NLeft P R ν s1 w1 N Q e a w') : NLeft P R μ s w N Q e a w' := by
  obtain ⟨x, ts', ds', s', h1, h2⟩ := h
  exact ⟨x, ts', ds', s', h1, h2.trans m⟩
theorem NLeft.mono {μ : Place} {s : St} {w : World} {N : Nat} {Q Q' : NPost} {e : Exit} {a : Act} {w' : World} (h : NLeft P R μ s w N Q e a w') (hq : ∀ x ts ds s, Q x ts ds s → Q' x ts ds s) : NLeft P R μ s w N Q' e a w' := by
  obtain ⟨x, ts', ds', s', h1, h2⟩ := h
  exact ⟨x, ts', ds', s', hq _ _ _ _ h1, h2⟩

/-- However a piece of code is left, it is as told. -/
def Nk (P : Program) (R : Nat) (pc : PC) (ts : Tr AV) (ds : List Nat) (s : St) (Q : NPost) : Prop :=
  ∀ (c : Code) (N : Nat) (a : Act) (μ : Place) (w : World) (n : Nat), prepC P c = some pc → okPC N pc = true → HR P R μ s w → TR μ ts a.tmps → a.tmps.size = N → DR μ ds a.defers → c.wpIn Fence.wide n P (NLeft P R μ s w N Q) a w
/-- The same, of a loop with that body. -/
def Nl (P : Program) (R : Nat) (pc : PC) (ts : Tr AV) (ds : List Nat) (s : St) (Q : NPost) : Prop :=
  ∀ (c : Code) (N : Nat) (a : Act) (μ : Place) (w : World) (n : Nat), prepC P c = some pc → okPC N pc = true → HR P R μ s w → TR μ ts a.tmps → a.tmps.size = N → DR μ ds a.defers → LoopIn Fence.wide n P c (NLeft P R μ s w N Q) a w

variable {ts : Tr AV} {ds : List Nat} {s : St} {Q : NPost}

theorem Nk.mono {pc : PC} {Q' : NPost} (h : Nk P R pc ts ds s Q) (hq : ∀ x ts ds s, Q x ts ds s → Q' x ts ds s) : Nk P R pc ts ds s Q' :=
  fun c N a μ w n hp hok h0 ht hN hd => wpIn_mono (h c N a μ w n hp hok h0 ht hN hd) fun _ _ _ hl => hl.mono hq

theorem Nk.of_Wk {M : Mach} (hm : P.follows .mixedOrders = true) (hFT : FnsOk P M.FT) (hSM : SumsOk P M.SM) (hSN : SumsNext M.SM) {pc : PC} (h : Wk M none [] pc ts ds s fun x ts' ds' s' => s'.next ≤ R ∧ Q x ts' ds' s') : Nk P R pc ts ds s Q := by
  obtain ⟨x, ts', ds', s', h1, h2⟩ := h
  rw [Wr_nil] at h2
  intro c N a μ w n hp hok h0 ht hN hd
  obtain ⟨k, hk⟩ := (sup_lim M.FT M.SM).ex _ _ _ _ _ _ h1
  exact wpIn_mono ((eng_sound hm hFT hSM hSN k).ex (ro := none) (F := Fence.wide) hk h2.1 h0 hp hok ht hN hd rfl n) fun e a' w' hl => ⟨x, ts', ds', s', h2.2, hl⟩

theorem prepC_reg {id : Nat} {ops : Array Oper} {draw : Bool} {pc : PC} (h : prepC P (.region id ops draw) = some pc) (h1 : ∀ l, pc ≠ .region l) (h2 : ∀ l k, pc ≠ .drawn l k) : False := by
  simp only [prepC] at h
  split at h
  · cases h
  · split at h
    · split at h
      · simp only [Option.some.injEq] at h; exact h2 _ _ h.symm
      · cases h
    · simp only [Option.some.injEq] at h; exact h1 _ h.symm
theorem prepC_seq {c : Code} {a b : PC} (h : prepC P c = some (.seq a b)) : ∃ c1 c2, c = .seq c1 c2 ∧ prepC P c1 = some a ∧ prepC P c2 = some b := by
  cases c with
  | seq c1 c2 =>
    simp only [prepC] at h
    split at h
    case h_1 => cases h
    rename_i p1 hp1
    split at h
    case h_1 => cases h
    rename_i p2 hp2
    cases h
    exact ⟨_, _, rfl, hp1, hp2⟩
  | region id ops draw => exact (prepC_reg h (by simp) (by simp)).elim
  | _ => exfalso; (unfold prepC at h; (repeat' split at h) <;> cases h)
theorem prepC_block {c : Code} {id : Nat} {a : PC} (h : prepC P c = some (.block id a)) : ∃ c1, c = .block id c1 ∧ prepC P c1 = some a := by
  cases c with
  | block id' c1 =>
    simp only [prepC] at h
    split at h
    case h_1 => cases h
    rename_i p1 hp1
    cases h
    exact ⟨_, rfl, hp1⟩
  | region id ops draw => exact (prepC_reg h (by simp) (by simp)).elim
  | _ => exfalso; (unfold prepC at h; (repeat' split at h) <;> cases h)
theorem prepC_loop {c : Code} {a : PC} (h : prepC P c = some (.loop a)) : ∃ c1, c = .loop c1 ∧ prepC P c1 = some a := by
  cases c with
  | loop c1 =>
    simp only [prepC] at h
    split at h
    case h_1 => cases h
    rename_i p1 hp1
    cases h
    exact ⟨_, rfl, hp1⟩
  | region id ops draw => exact (prepC_reg h (by simp) (by simp)).elim
  | _ => exfalso; (unfold prepC at h; (repeat' split at h) <;> cases h)
theorem prepC_cond {c : Code} {x : X} {a b : PC} (h : prepC P c = some (.cond x a b)) : ∃ o c1 c2, c = .cond o c1 c2 ∧ prepX o = some x ∧ prepC P c1 = some a ∧ prepC P c2 = some b := by
  cases c with
  | cond o c1 c2 =>
    simp only [prepC] at h
    split at h
    case h_1 => cases h
    rename_i z hz
    split at h
    case h_1 => cases h
    rename_i p1 hp1
    split at h
    case h_1 => cases h
    rename_i p2 hp2
    cases h
    exact ⟨_, _, _, rfl, hz, hp1, hp2⟩
  | region id ops draw => exact (prepC_reg h (by simp) (by simp)).elim
  | _ => exfalso; (unfold prepC at h; (repeat' split at h) <;> cases h)
theorem prepC_region {c : Code} {ps : List PO} (h : prepC P c = some (.region ps)) : ∃ id ops, c = .region id ops false ∧ prepPOs P ops.toList ops.toList = some ps := by
  cases c with
  | region id ops draw =>
    simp only [prepC] at h
    split at h
    case h_1 => cases h
    rename_i ps hps
    split at h
    · split at h <;> cases h
    · rename_i hdr
      cases h
      have : draw = false := by simpa using hdr
      subst this
      exact ⟨_, _, rfl, hps⟩
  | _ => exfalso; (unfold prepC at h; (repeat' split at h) <;> cases h)

theorem Nk.seq {a b : PC} (h : Nk P R a ts ds s fun x ts' ds' s' => match x with | .normal => Nk P R b ts' ds' s' Q | x => Q x ts' ds' s') : Nk P R (.seq a b) ts ds s Q := by
  intro c N ac μ w n hp hok h0 ht hN hd
  obtain ⟨c1, c2, rfl, hp1, hp2⟩ := prepC_seq hp
  simp only [okPC, Bool.and_eq_true] at hok
  refine wpIn_seq (wpIn_mono (h c1 N ac μ w n hp1 hok.1 h0 ht hN hd) ?_)
  rintro e a1 w1 ⟨x, ts1, ds1, s1, hq, rfl, ν, g1, g2, g3, g4, g5⟩
  cases x with
  | normal => exact wpIn_mono (hq c2 N a1 ν w1 n hp2 hok.2 g4 g1 g2 g3) fun _ _ _ hl => hl.trans g5
  | exit id => exact ⟨_, _, _, _, hq, rfl, ν, g1, g2, g3, g4, g5⟩
  | ret => exact ⟨_, _, _, _, hq, rfl, ν, g1, g2, g3, g4, g5⟩

theorem Nk.block {id : Nat} {a : PC} (h : Nk P R a ts ds s fun x ts' ds' s' => Q (match x with | .exit id' => if id' = id then .normal else .exit id' | x => x) ts' ds' s') : Nk P R (.block id a) ts ds s Q := by
  intro c N ac μ w n hp hok h0 ht hN hd
  obtain ⟨c1, rfl, hp1⟩ := prepC_block hp
  refine wpIn_block (wpIn_mono (h c1 N ac μ w n hp1 hok h0 ht hN hd) ?_)
  rintro e a1 w1 ⟨x, ts1, ds1, s1, hq, rfl, hl⟩
  cases x with
  | normal => exact ⟨_, _, _, _, hq, rfl, hl⟩
  | ret => exact ⟨_, _, _, _, hq, rfl, hl⟩
  | exit id' =>
    simp only [exitOf, Exit.inBlock]
    by_cases hid : id' = id
    · rw [if_pos hid]
      simp only [if_pos hid] at hq
      exact ⟨_, _, _, _, hq, rfl, hl⟩
    · rw [if_neg hid]
      simp only [if_neg hid] at hq
      exact ⟨_, _, _, _, hq, rfl, hl⟩

theorem Nk.cond {x : X} {a b : PC} {v : Bool} (hv : evOf ts x = some (.bool v)) (h : Nk P R (if v then a else b) ts ds s Q) : Nk P R (.cond x a b) ts ds s Q := by
  intro c N ac μ w n hp hok h0 ht hN hd
  obtain ⟨o, c1, c2, rfl, hx, hp1, hp2⟩ := prepC_cond hp
  simp only [okPC, Bool.and_eq_true] at hok
  have := evR_of ht _ _ _ hx hv
  simp only [conc, Option.some.injEq] at this
  cases v with
  | true => exact wpIn_cond (t := true) this.symm (h c1 N ac μ w n hp1 hok.1 h0 ht hN hd)
  | false => exact wpIn_cond (t := false) this.symm (h c2 N ac μ w n hp2 hok.2 h0 ht hN hd)

theorem Nl.step {a : PC} (h : Nk P R a ts ds s fun x ts' ds' s' => match x with | .normal => Nl P R a ts' ds' s' Q | x => Q x ts' ds' s') : Nl P R a ts ds s Q := by
  intro c N ac μ w n hp hok h0 ht hN hd
  refine LoopIn.step (wpIn_mono (h c N ac μ w n hp hok h0 ht hN hd) ?_)
  rintro e a1 w1 ⟨x, ts1, ds1, s1, hq, rfl, ν, g1, g2, g3, g4, g5⟩
  cases x with
  | normal => exact (hq c N a1 ν w1 n hp hok g4 g1 g2 g3).mono fun _ _ _ hl => hl.trans g5
  | exit id => exact ⟨_, _, _, _, hq, rfl, ν, g1, g2, g3, g4, g5⟩
  | ret => exact ⟨_, _, _, _, hq, rfl, ν, g1, g2, g3, g4, g5⟩

theorem Nk.loop {a : PC} (h : Nl P R a ts ds s Q) : Nk P R (.loop a) ts ds s Q := by
  intro c N ac μ w n hp hok h0 ht hN hd
  obtain ⟨c1, rfl, hp1⟩ := prepC_loop hp
  exact LoopIn.wpIn (h c1 N ac μ w n hp1 hok h0 ht hN hd)

/-- A loop, by what holds at its head. -/
theorem Nl.ind {a : PC} (I : Nat → Tr AV → St → Prop) (step : ∀ n ts s, I n ts s → (∀ m ts' s', m < n → I m ts' s' → Nl P R a ts' ds s' Q) → Nk P R a ts ds s fun x ts' ds' s' => match x with | .normal => Nl P R a ts' ds' s' Q | x => Q x ts' ds' s') :
    ∀ {n ts s}, I n ts s → Nl P R a ts ds s Q := by
  intro n
  induction n using Nat.strongRecOn with
  | ind n ih =>
    intro ts s h
    exact Nl.step (step n ts s h fun m ts' s' hm h' => ih m hm h')

theorem entriesR_mem {μ : Place} : ∀ {es : List (AV × AV × Nat)} {ces : List MapEntry} {c : MapEntry}, entriesR μ es ces → c ∈ ces → ∃ e ∈ es, entryR μ e c
  | [], [], _, _, h => by cases h
  | x :: l, y :: m, c, he, h => by
    rcases List.mem_cons.1 h with rfl | h
    · exact ⟨x, List.mem_cons_self .., he.1⟩
    · obtain ⟨e, h1, h2⟩ := entriesR_mem he.2 h
      exact ⟨e, List.mem_cons_of_mem _ h1, h2⟩
  | [], _ :: _, _, he, _ => he.elim
  | _ :: _, [], _, he, _ => he.elim
theorem entriesR_mem' {μ : Place} : ∀ {es : List (AV × AV × Nat)} {ces : List MapEntry} {e : AV × AV × Nat}, entriesR μ es ces → e ∈ es → ∃ c ∈ ces, entryR μ e c
  | [], [], _, _, h => by cases h
  | x :: l, y :: m, c, he, h => by
    rcases List.mem_cons.1 h with rfl | h
    · exact ⟨y, List.mem_cons_self .., he.1⟩
    · obtain ⟨e, h1, h2⟩ := entriesR_mem' he.2 h
      exact ⟨e, List.mem_cons_of_mem _ h1, h2⟩
  | [], _ :: _, _, he, _ => he.elim
  | _ :: _, [], _, he, _ => he.elim

theorem heap_drew (w : World) : w.drew.heap = w.heap := rfl
theorem prepOp_next {o : Oper} {x : X} (h : (prepOp P o).getD .fail = .next x) : ∃ y, o.op = .next y false ∧ prepX y = some x := by
  cases hp : prepOp P o with
  | none => rw [hp] at h; cases h
  | some q =>
    rw [hp] at h
    simp only [Option.getD_some] at h
    subst h
    cases ho : o.op with
    | next y b =>
      simp only [prepOp, ho] at hp
      cases b with
      | true => cases hp
      | false =>
        simp only [Bool.false_eq_true, if_false, Option.map_eq_some_iff] at hp
        obtain ⟨z, hz, e⟩ := hp
        cases e
        exact ⟨y, rfl, hz⟩
    | call c =>
      exfalso
      simp only [prepOp, ho] at hp
      cases hc : c.callee with
      | value y =>
        rw [hc] at hp
        simp only at hp
        split at hp
        · simp only [Option.map_eq_some_iff] at hp; obtain ⟨_, _, e⟩ := hp; cases e
        · cases hp
      | builtin b =>
        rw [hc] at hp
        simp only at hp
        split at hp
        · unfold prepBuiltin prepAppend prepCopy prepLen prepCap prepClear prepDelete at hp
          repeat' split at hp
          all_goals (cases hp)
        · cases hp
      | invoke a b => rw [hc] at hp; cases hp
    | _ =>
      exfalso
      unfold prepOp at hp
      rw [ho] at hp
      (try dsimp only at hp)
      repeat' split at hp
      all_goals first
        | (cases hp; done)
        | (simp only [Option.map_eq_some_iff] at hp; obtain ⟨_, _, hp⟩ := hp; cases hp; done)
        | (simp_all; done)

/-- A step of a loop over a map, and what is done with it in the same region. -/
theorem Nk.next {M : Mach} (hm : P.follows .mixedOrders = true) (hFT : FnsOk P M.FT) (hSM : SumsOk P M.SM) (hSN : SumsNext M.SM) {d it b r since last clock : Nat} {seen : List Nat} {es : List (AV × AV × Nat)} {ps : List PO}
    (g : ts.get it = some (.ptr b 0)) (hb : s.get b = some (.miter (some r) since seen last)) (hr : s.get r = some (.map es clock)) (hold : ∀ e ∈ es, e.2.2 < since) (hsc : since ≤ last) (hR : s.next ≤ R)
    (h0 : (∀ e ∈ es, seen.contains e.2.2 = true) → Wo M none [] none ps (ts.set d (.tup [.bool false])) ds s fun x ts' ds' s' => s'.next ≤ R ∧ Q x ts' ds' s')
    (h1 : ∀ e ∈ es, seen.contains e.2.2 = false → Wo M none [] none ps (ts.set d (.tup [.bool true, e.1, e.2.1])) ds (s.put b (.miter (some r) since (seen ++ [e.2.2]) clock)) fun x ts' ds' s' => s'.next ≤ R ∧ Q x ts' ds' s') :
    Nk P R (.region (⟨some d, .next (.t it), none⟩ :: ps)) ts ds s Q := by
  intro c N ac μ w n hp hok h0' ht hN hd
  obtain ⟨id, ops, rfl, hps⟩ := prepC_region hp
  refine wpIn_region ?_
  have hlen : ∃ o rest, ops.toList = o :: rest := by
    cases hl : ops.toList with
    | nil => rw [hl] at hps; cases hps
    | cons o rest => exact ⟨o, rest, rfl⟩
  obtain ⟨o, rest, hl⟩ := hlen
  have hps' := hps
  rw [hl] at hps'
  simp only [prepPOs] at hps'
  split at hps'
  case h_2 => cases hps'
  rename_i p hp1
  split at hps'
  case h_2 => cases hps'
  rename_i l hp2
  cases hps'
  obtain ⟨e1, e2⟩ := prepPO_op hp1
  obtain ⟨y, hoy, hyx⟩ := prepOp_next e1
  have hy : y = .tmp it := by
    cases y with
    | tmp t => simp only [prepX, Option.some.injEq, X.t.injEq] at hyx; rw [hyx]
    | const v => simp [prepX] at hyx
    | func f => simp [prepX] at hyx
    | global gg => cases hyx
  subst hy
  have hgd : o.guard = none := by
    cases hg : o.guard with
    | none => rfl
    | some jw =>
      obtain ⟨j, want⟩ := jw
      unfold prepPO at hp1
      rw [hg] at hp1
      simp only at hp1
      split at hp1
      · simp only [Option.some.injEq, PO.mk.injEq] at hp1
        exact absurd hp1.2.2 (by simp)
      · cases hp1
  have hsz : ops.size = rest.length + 1 := by rw [← Array.length_toList, hl]; rfl
  have hi : ∀ i : Nat, (o :: rest)[i]? = ops[i]? := by intro i; rw [← hl]; simp
  have hk0 : ops[0]? = some o := by rw [← hi 0]; rfl
  rw [List.range_eq_range', hsz, List.range'_succ]
  simp only [wpOpsIn, hk0]
  have hw : Region.wanted o (yielded ops ac.tmps) = true := by unfold Region.wanted; rw [hgd]
  rw [hw]
  simp only [if_true]
  refine ⟨fun f _ => trivial, ?_⟩
  rw [Oper.semAt_eq _ _ _ (fun c e => by rw [hoy] at e; cases e)]
  obtain ⟨cv, hcv, hcc⟩ := ht it _ g
  obtain ⟨pb, hpb, rfl⟩ := isSome_of_conc_ptr hcc
  have hev : ac.eval (.tmp it) = .pointer (some ⟨pb.1, 0, none⟩) := by simp [Act.eval, hcv]
  obtain ⟨pb', hpb', m', ⟨qm, hqm, rfl⟩, hit⟩ := h0'.obj _ _ hb
  rw [hpb] at hpb'; cases hpb'
  obtain ⟨ces, hce, her⟩ := h0'.mapAt hr hqm
  have hold' : ∀ x ∈ ces.toList, x.born < since := fun x hx => by
    obtain ⟨e, he, h3⟩ := entriesR_mem her hx
    rw [← h3.2.2]; exact hold e he
  have hexec : execOp ac.eval o = (do pure (.value (← Instr.next (.pointer (some ⟨pb.1, 0, none⟩)) false o.type))) := by
    simp only [execOp, hoy, hev]
  have hops : ops = ops.toList.toArray := by simp
  have hi' : ∀ i : Nat, rest[i]? = ops[0 + 1 + i]? := by
    intro i
    have := hi (i + 1)
    rw [List.getElem?_cons_succ] at this
    rw [this]; congr 1; omega
  have hok1 : okPOs N ps = true := by
    have : okPOs N (⟨some d, .next (.t it), none⟩ :: ps) = true := hok
    simp only [okPOs, Bool.and_eq_true] at this
    exact this.2
  have hdN : d < ac.tmps.size := by
    have : okPOs N (⟨some d, .next (.t it), none⟩ :: ps) = true := hok
    simp only [okPOs, Bool.and_eq_true] at this
    rw [hN]
    simpa using this.1
  have fin : ∀ (v : AV) (cvv : Value) (s1 : St) (w1 : World), conc μ v = some cvv → HR P R μ s1 w1 → Mv μ s w μ s1 w1 →
      (Wo M none [] none ps (ts.set d v) ds s1 fun x ts' ds' s' => s'.next ≤ R ∧ Q x ts' ds' s') → wpOpsIn Fence.wide n P ops (NLeft P R μ s w N Q) (List.range' (0 + 1) rest.length) (ac.put o.dst cvv) w1 := by
    intro v cvv s1 w1 k1 k2 k3 k4
    obtain ⟨ts', s', k5, k6⟩ := k4
    rw [Wr_nil] at k6
    obtain ⟨j, hj⟩ := (cont_runOps ps (ts.set d v) s1).fin _ _ (sup_lim M.FT M.SM) _ k5
    have e2' : o.dst = some d := e2.symm
    refine ops_wpIn (eng_sound hm hFT hSM hSN j) (ro := none) (F := Fence.wide) rest ps (0 + 1) _ _ s1 w1 μ (by rw [hl]; exact hp2) hi' hj k6.1 k2 ?_ (by rw [put_size]; exact hN) hok1 (by rw [put_defers]; exact hd) rfl ?_
    · rw [e2']
      exact ht.putT (d := some d) (fun t e => by cases e; exact hdN) k1
    · intro ξ a' w' u1 u2 u3 u4 u5
      exact ⟨_, _, _, _, k6.2, rfl, ξ, u1, u2, u3, u4, k3.trans u5⟩
  rcases run_next_at (P := P) w o.type pb.1 qm.1 since last seen.toArray ces clock hit hce hold' hsc with ⟨hz, hrun⟩ | ⟨e, he, w1, hw1, hrun⟩
  · rw [hexec]
    simp only [Sem.run_bind, hrun, Result.andThen_ok, Sem.run_pure]
    rw [Oper.uponIn_value]
    refine fin (.tup [.bool false]) _ s w (by simp [conc, concs]) h0' (Mv.refl h0' hR) (h0 fun e he => ?_)
    obtain ⟨cc, hcc, h3⟩ := entriesR_mem' her he
    have hem : leftOf ces seen.toArray = #[] := Array.eq_empty_of_size_eq_zero hz
    unfold leftOf at hem
    rw [Array.filter_eq_empty_iff] at hem
    have := hem cc (by simpa using hcc)
    rw [h3.2.2]
    simpa using this
  · rw [hexec]
    simp only [Sem.run_bind, hrun, Result.andThen_ok, Sem.run_pure]
    rw [Oper.uponIn_value]
    unfold leftOf at he
    simp only [Array.toList_filter, List.mem_filter] at he
    obtain ⟨x, hx, h3⟩ := entriesR_mem her he.1
    have hns : seen.contains x.2.2 = false := by rw [h3.2.2]; simpa using he.2
    have hpl : pb.1 < w.heap.size := (h0'.lt _ _ hpb).1
    have hh1 : w1.heap = w.heap := by rcases hw1 with rfl | rfl <;> rfl
    obtain ⟨t1, t2⟩ := h0'.turn (o' := .miter (some r) since (seen ++ [x.2.2]) clock) (w' := ChangeMaps.setBlock w1 pb.1 (.mapIter (some qm.1) since (seen.toArray.push e.born) clock)) hR hb hpb (by simp)
      ⟨some qm.1, ⟨qm, hqm, rfl⟩, by simp only [ChangeMaps.setBlock, hh1]; rw [h3.2.2, Array.getElem?_setIfInBounds_self_of_lt hpl]; simp⟩
      (by rcases hw1 with rfl | rfl <;> rfl) (by rcases hw1 with rfl | rfl <;> rfl) (by rcases hw1 with rfl | rfl; exact ⟨rfl, fun _ => Nat.le_refl _⟩; exact ⟨rfl, fun _ => Nat.le_succ _⟩) (by simp [ChangeMaps.setBlock, hh1])
      (fun k hk => by simp only [ChangeMaps.setBlock, hh1]; rw [Array.getElem?_setIfInBounds_ne (fun e => hk e.symm)])
    exact fin (.tup [.bool true, x.1, x.2.1]) _ _ _ (by simp [conc, concs, h3.1, h3.2.1]) t1 t2 (h1 x hx hns)

theorem Wo_range {M : Mach} {ro : Option Nat} {k : List Fk} {dr : Dr} {ops : List PO} {Q : Post} {d : Option Nat} {x : X} : Wo M ro k dr (⟨d, .range x, none⟩ :: ops) ts ds s Q = Wx M ro (xop (.range x) (evOf ts) s) d k (dr.push s) ops ts ds Q := Wo_op rfl
theorem Wo_entry {M : Mach} {ro : Option Nat} {k : List Fk} {dr : Dr} {ops : List PO} {Q : Post} {d : Option Nat} {x : X} : Wo M ro k dr (⟨d, .entry x, none⟩ :: ops) ts ds s Q = Wx M ro (xop (.entry x) (evOf ts) s) d k (dr.push s) ops ts ds Q := Wo_op rfl
attribute [go_sem] Wo_range Wo_entry

/-- However a function is left, it is as told. -/
def Nf (P : Program) (R : Nat) (f : Nat) (args : List AV) (s : St) (Q : AV → St → Prop) : Prop :=
  ∀ (μ : Place) (w : World) (cargs : List Value), HR P R μ s w → concs μ args = some cargs → ∀ n, CallsIn Fence.wide n P f cargs.toArray w fun e w' => ∃ v s', Q v s' ∧ Rets P R μ s w v s' e w'

theorem Nf.enter {FT : Fns} (hFT : FnsOk P FT) {f : Nat} {fd : FD} (hf : FT f = some fd) {args : List AV} (hlen : Nat.ble args.length fd.ntmps = true) {Q : AV → St → Prop}
    (h : Nk P R fd.body (initT 0 args .lf) [] s fun x ts ds s1 => s1.next ≤ R ∧ Fin fd.results Q x ts ds s1) : Nf P R f args s Q := by
  intro μ w cargs h0 hc n
  obtain ⟨fn, hfn, hp⟩ := hFT _ _ hf
  obtain ⟨c, hb, hpc, hpr, hname, hok, hnp⟩ := prepF_spec hp
  have hcl := concs_length hc
  have hle := Nat.le_of_ble_eq_true hlen
  have hsz : (cargs.toArray ++ Array.replicate (fn.ntmps - cargs.toArray.size) undef).size = fn.ntmps := by
    simp; omega
  refine callsIn_of_wp_marks hfn hb trivial ?_
  refine wpIn_mono (h c fn.ntmps { tmps := _, defers := [] } μ w n hpc hok h0 (TR.init hc _) hsz (show DR μ [] ([] : List Deferred) from trivial)) ?_
  rintro ex a1 w1 ⟨x, ts, ds, s1, ⟨hR, hne, s2, htk, l, hl, hq⟩, rfl, ν, g1, g2, g3, g4, g5⟩
  have leave : LeavesInM Fence.wide n P fn a1.tmps (fun e w' => ∃ v s', Q v s' ∧ Rets P R μ s w v s' e w') a1.defers .returning w1 := by
    refine leaves_sound htk hR g4 g3 fun w' k1 k2 => ?_
    obtain ⟨cv, r1, r2⟩ := run_results k1 g1 hpr hl
    exact ⟨cv, r1, _, _, hq, ν, r2, k1, g5.trans k2⟩
  cases x with
  | normal => exact leave
  | ret => exact leave
  | exit id => exact (hne _ rfl).elim

theorem St.get_skip (s : St) (k b : Nat) : (s.skip k).get b = s.get b := rfl
theorem St.next_skip (s : St) (k : Nat) : (s.skip k).next = s.next + k := rfl

/-- What a call came to, told without any new block. -/
theorem canon0 {μ : Place} {s s1 : St} {w w' : World} {v : AV} {c : Value} {K : Nat} {v2 : AV} (h0 : HR P R μ s w) (hr : Rets P R μ s w v s1 (.returned c) w') (hf : Fr s s1) (hK : s1.next ≤ s.next + K) (hR : s.next + K ≤ R)
    (hv : ∀ ν : Place, conc ν v = some c → conc ν v2 = some c) : Rets P R μ s w v2 (s.skip K) (.returned c) w' := by
  obtain ⟨ν, h1, h2, h3⟩ := hr
  have hget : ∀ b x, (s.skip K).get b = some x → b < s.next ∧ s1.get b = some x := by
    intro b x hb
    rw [St.get_skip] at hb
    have := h0.dom b x hb
    exact ⟨this, (hf.get b this).trans hb⟩
  refine ⟨ν, hv ν h1, ⟨?_, ?_, ?_, ?_⟩, ⟨h3.le, h3.os, h3.output, h3.tape, h3.size, by simp [St.next_skip], ?_, ?_, h3.frame, ?_⟩⟩
  · intro b x hb
    exact h2.obj b x (hget b x hb).2
  · intro b d x y pb pd hb hd hpb hpd e
    exact h2.inj b d _ _ pb pd (hget b x hb).2 (hget d y hd).2 hpb hpd e
  · intro b z hz
    have := h2.lt _ _ hz
    refine ⟨this.1, ?_⟩
    simp only [St.next_skip]
    omega
  · intro b x hb
    have := (hget b x hb).1
    simp only [St.next_skip]
    omega
  · intro b z hz
    have := (h0.lt _ _ hz).2
    simp only [St.next_skip]
    omega
  · intro b z hz
    rcases h3.fresh b z hz with h4 | ⟨h4, h5, h6⟩
    · exact .inl h4
    · exact .inr ⟨h4, by simp only [St.next_skip]; omega, h6⟩
  · intro b vs l z x hb hx
    obtain ⟨h4, h5⟩ := h3.ro b vs l z x hb hx
    exact ⟨hb, h5⟩

/-- What a call came to, told by one new block alone. -/
theorem canon {μ : Place} {s s1 : St} {w w' : World} {v : AV} {c : Value} {K p : Nat} {o : AObj} {v2 : AV} (h0 : HR P R μ s w) (hr : Rets P R μ s w v s1 (.returned c) w') (hf : Fr s s1) (hK : s1.next ≤ s.next + K) (hR : s.next + K + 1 ≤ R) (hp : s.next ≤ p) (ho : s1.get p = some o)
    (hv : ∀ ν ν' : Place, ν.le ν' → ν' (s.next + K) = ν p → conc ν v = some c → conc ν' v2 = some c) : Rets P R μ s w v2 ((s.skip K).new o) (.returned c) w' := by
  obtain ⟨ν, h1, h2, h3⟩ := hr
  obtain ⟨q, hq, hoq⟩ := h2.obj _ _ ho
  have hnone : ν (s.next + K) = none := by
    cases e : ν (s.next + K) with
    | none => rfl
    | some x => have := (h2.lt _ _ e).2; omega
  have hle : ν.le (ν.add (s.next + K) q) := by
    intro b x hb
    unfold Place.add
    rw [if_neg]
    · exact hb
    · intro e; subst e; rw [hnone] at hb; cases hb
  have hself : (ν.add (s.next + K) q) (s.next + K) = some q := by simp [Place.add]
  have hget : ∀ b x, ((s.skip K).new o).get b = some x → (b = s.next + K ∧ x = o) ∨ (b < s.next ∧ s1.get b = some x ∧ b ≠ s.next + K) := by
    intro b x hb
    rw [St.get_new] at hb
    by_cases e : b = (s.skip K).next
    · rw [if_pos e] at hb; cases hb; exact .inl ⟨e, rfl⟩
    · rw [if_neg e, St.get_skip] at hb
      have := h0.dom b x hb
      exact .inr ⟨this, (hf.get b this).trans hb, e⟩
  have hpn : p < s1.next := h2.dom _ _ ho
  refine ⟨ν.add (s.next + K) q, hv ν _ hle (by rw [hself, hq]) h1, ⟨?_, ?_, ?_, ?_⟩, ⟨Place.le_trans h3.le hle, h3.os, h3.output, h3.tape, h3.size, by simp [St.next_skip]; omega, ?_, ?_, h3.frame, ?_⟩⟩
  · intro b x hb
    rcases hget b x hb with ⟨rfl, rfl⟩ | ⟨_, hb1, _⟩
    · exact ⟨q, hself, hoq.mono hle rfl⟩
    · obtain ⟨y, hy, hyo⟩ := h2.obj b x hb1
      exact ⟨y, hle _ _ hy, hyo.mono hle rfl⟩
  · intro b d x y pb pd hb hd hpb hpd e
    have old : ∀ b x z, b < s.next → s1.get b = some x → b ≠ s.next + K → (ν.add (s.next + K) q) b = some z → ν b = some z := by
      intro b x z _ _ hne hz
      unfold Place.add at hz
      rwa [if_neg hne] at hz
    rcases hget b x hb with ⟨rfl, rfl⟩ | ⟨hbl, hb1, hbn⟩ <;> rcases hget d y hd with ⟨rfl, rfl⟩ | ⟨hdl, hd1, hdn⟩
    · rfl
    · rw [hself] at hpb; cases hpb
      have := h2.inj p d _ _ q pd ho hd1 hq (old _ _ _ hdl hd1 hdn hpd) e
      omega
    · rw [hself] at hpd; cases hpd
      have := h2.inj b p _ _ pb q hb1 ho (old _ _ _ hbl hb1 hbn hpb) hq e
      omega
    · exact h2.inj b d _ _ pb pd hb1 hd1 (old _ _ _ hbl hb1 hbn hpb) (old _ _ _ hdl hd1 hdn hpd) e
  · intro b z hz
    unfold Place.add at hz
    by_cases e : b = s.next + K
    · rw [if_pos e] at hz; cases hz
      refine ⟨(h2.lt _ _ hq).1, .inl ?_⟩
      simp [St.next_skip, e]
    · rw [if_neg e] at hz
      have := h2.lt _ _ hz
      refine ⟨this.1, ?_⟩
      simp [St.next_skip]
      omega
  · intro b x hb
    rcases hget b x hb with ⟨rfl, rfl⟩ | ⟨hbl, _, _⟩
    · simp [St.next_skip]
    · simp [St.next_skip]; omega
  · intro b z hz
    have := (h0.lt _ _ hz).2
    simp [St.next_skip]
    omega
  · intro b z hz
    unfold Place.add at hz
    by_cases e : b = s.next + K
    · rw [if_pos e] at hz; cases hz
      refine .inr ⟨by omega, by simp [St.next_skip, e], ?_⟩
      rcases h3.fresh p q hq with h4 | ⟨_, _, h4⟩
      · have := (h0.lt _ _ h4).2
        omega
      · exact h4
    · rw [if_neg e] at hz
      rcases h3.fresh b z hz with h4 | ⟨h4, h5, h6⟩
      · exact .inl h4
      · exact .inr ⟨h4, by simp [St.next_skip]; omega, h6⟩
  · intro b vs l z x hb hx
    obtain ⟨h4, h5⟩ := h3.ro b vs l z x hb hx
    refine ⟨?_, h5⟩
    have := h0.dom _ _ hb
    rw [St.get_new, if_neg (by simp [St.next_skip]; omega), St.get_skip]
    exact hb

theorem sumsOk_addI {SM : Sums} {f : Nat} {g : List AV → St → Option (AV × St)} (hfn : ∃ fn, P.funcs[f]? = some fn ∧ fn.body.isNone = false ∧ (fn.name == "runtime.NumGoroutine") = false)
    (hg : ∀ {args s v s' R μ w cargs}, g args s = some (v, s') → s'.next ≤ R → HR P R μ s w → concs μ args = some cargs → ∀ n, CallsIn Fence.wide n P f cargs.toArray w (Rets P R μ s w v s')) (h : SumsOk P SM) : SumsOk P (addSum SM f g) := by
  intro k g' hk args s v s' R μ w cargs hx hR hr hc
  unfold addSum at hk
  split at hk
  · rename_i e
    subst e
    cases hk
    exact ⟨hfn, hg hx hR hr hc⟩
  · exact h k g' hk hx hR hr hc
theorem sumsNext_addI {SM : Sums} {f : Nat} {g : List AV → St → Option (AV × St)} (hg : ∀ args s v s', g args s = some (v, s') → s.next ≤ s'.next) (h : SumsNext SM) : SumsNext (addSum SM f g) := by
  intro k g' args s v s' hk hx
  unfold addSum at hk
  split at hk
  · cases hk; exact hg args s v s' hx
  · exact h k g' args s v s' hk hx

/-- What a run came to, told with what is not asked for any more left out, and a new block under another number. -/
inductive Can (s : St) (v1 : AV) (s1 : St) (v : AV) (s' : St) : Prop
  | old (hv : v = v1) (hg : ∀ b o, s'.get b = some o → s1.get b = some o) (hn : s1.next ≤ s'.next) (hro : ∀ b vs l e, s.get b = some (.cells vs l true e) → s'.get b = some (.cells vs l true e))
  | new (t : St) (o : AObj) (p : Nat) (hs : s' = t.new o) (hg : ∀ b o, t.get b = some o → s1.get b = some o) (hn : s1.next ≤ t.next) (hro : ∀ b vs l e, s.get b = some (.cells vs l true e) → t.get b = some (.cells vs l true e))
      (hp : s1.get p = some o) (hpn : s.next ≤ p) (hpt : t.get p = none) (hv : ∀ (ν ν' : Place) (c : Value), ν.le ν' → ν' t.next = ν p → conc ν v1 = some c → conc ν' v = some c)

theorem Rets.can {μ : Place} {s s1 s' : St} {w w' : World} {v v1 : AV} {e : Ending} (h0 : HR P R μ s w) (hr : Rets P R μ s w v1 s1 e w') (hc : Can s v1 s1 v s') (hR : s'.next ≤ R) : Rets P R μ s w v s' e w' := by
  cases e with
  | panicked _ => exact hr.elim
  | outgrown => exact hr.elim
  | returned c =>
  obtain ⟨ν, h1, h2, h3⟩ := hr
  cases hc with
  | old hv hg hn hro =>
    subst hv
    refine ⟨ν, h1, ⟨fun b x hb => h2.obj b x (hg b x hb), fun b d x y pb pd hb hd => h2.inj b d _ _ pb pd (hg b x hb) (hg d y hd), fun b z hz => ?_, fun b x hb => Nat.lt_of_lt_of_le (h2.dom b x (hg b x hb)) hn⟩, ⟨h3.le, h3.os, h3.output, h3.tape, h3.size, Nat.le_trans h3.next hn, ?_, ?_, h3.frame, ?_⟩⟩
    · have := h2.lt _ _ hz; omega
    · intro b z hz
      have := (h0.lt _ _ hz).2; omega
    · intro b z hz
      rcases h3.fresh b z hz with h4 | ⟨h4, h5, h6⟩
      · exact .inl h4
      · exact .inr ⟨h4, by omega, h6⟩
    · intro b vs l z x hb hx
      exact ⟨hro b vs l z hb, (h3.ro b vs l z x hb hx).2⟩
  | new t o p hs hg hn hro hp hpn hpt hv =>
    subst hs
    simp only [St.next_new] at hR
    obtain ⟨q, hq, hoq⟩ := h2.obj _ _ hp
    have hpn1 : p < s1.next := h2.dom _ _ hp
    have hnx := h3.next
    have hnone : ν t.next = none := by
      cases e : ν t.next with
      | none => rfl
      | some x => have := (h2.lt _ _ e).2; omega
    have hle : ν.le (ν.add t.next q) := by
      intro b x hb
      unfold Place.add
      rw [if_neg]
      · exact hb
      · intro e; subst e; rw [hnone] at hb; cases hb
    have hself : (ν.add t.next q) t.next = some q := by simp [Place.add]
    have hget : ∀ b x, (t.new o).get b = some x → (b = t.next ∧ x = o) ∨ (s1.get b = some x ∧ b ≠ t.next ∧ b ≠ p) := by
      intro b x hb
      rw [St.get_new] at hb
      by_cases e : b = t.next
      · rw [if_pos e] at hb; cases hb; exact .inl ⟨e, rfl⟩
      · rw [if_neg e] at hb
        refine .inr ⟨hg b x hb, e, fun e' => ?_⟩
        subst e'; rw [hpt] at hb; cases hb
    have old : ∀ b z, b ≠ t.next → (ν.add t.next q) b = some z → ν b = some z := by
      intro b z hne hz
      unfold Place.add at hz
      rwa [if_neg hne] at hz
    refine ⟨ν.add t.next q, hv ν _ c hle (by rw [hself, hq]) h1, ⟨?_, ?_, ?_, ?_⟩, ⟨Place.le_trans h3.le hle, h3.os, h3.output, h3.tape, h3.size, by simp; omega, ?_, ?_, h3.frame, ?_⟩⟩
    · intro b x hb
      rcases hget b x hb with ⟨rfl, rfl⟩ | ⟨hb1, _, _⟩
      · exact ⟨q, hself, hoq.mono hle rfl⟩
      · obtain ⟨y, hy, hyo⟩ := h2.obj b x hb1
        exact ⟨y, hle _ _ hy, hyo.mono hle rfl⟩
    · intro b d x y pb pd hb hd hpb hpd e
      rcases hget b x hb with ⟨rfl, rfl⟩ | ⟨hb1, hbn, hbp⟩ <;> rcases hget d y hd with ⟨rfl, rfl⟩ | ⟨hd1, hdn, hdp⟩
      · rfl
      · rw [hself] at hpb; cases hpb
        exact absurd (h2.inj p d _ _ q pd hp hd1 hq (old _ _ hdn hpd) e).symm hdp
      · rw [hself] at hpd; cases hpd
        exact absurd (h2.inj b p _ _ pb q hb1 hp (old _ _ hbn hpb) hq e) hbp
      · exact h2.inj b d _ _ pb pd hb1 hd1 (old _ _ hbn hpb) (old _ _ hdn hpd) e
    · intro b z hz
      by_cases e : b = t.next
      · subst e; rw [hself] at hz; cases hz
        exact ⟨(h2.lt _ _ hq).1, .inl (by simp)⟩
      · have := h2.lt _ _ (old _ _ e hz)
        refine ⟨this.1, ?_⟩
        simp; omega
    · intro b x hb
      rcases hget b x hb with ⟨rfl, rfl⟩ | ⟨hb1, _, _⟩
      · simp
      · have := h2.dom _ _ hb1; simp; omega
    · intro b z hz
      have := (h0.lt _ _ hz).2
      simp; omega
    · intro b z hz
      by_cases e : b = t.next
      · subst e; rw [hself] at hz; cases hz
        refine .inr ⟨by omega, by simp, ?_⟩
        rcases h3.fresh p q hq with h4 | ⟨_, _, h4⟩
        · have := (h0.lt _ _ h4).2; omega
        · exact h4
      · rcases h3.fresh b z (old _ _ e hz) with h4 | ⟨h4, h5, h6⟩
        · exact .inl h4
        · exact .inr ⟨h4, by simp; omega, h6⟩
    · intro b vs l z x hb hx
      refine ⟨?_, (h3.ro b vs l z x hb hx).2⟩
      rw [St.get_new, if_neg (by have := h0.dom _ _ hb; omega)]
      exact hro b vs l z hb

/-- What is known of a function by its runs. -/
theorem sumsOk_addW {M : Mach} (hm : P.follows .mixedOrders = true) (hFT : FnsOk P M.FT) (hSM : SumsOk P M.SM) (hSN : SumsNext M.SM) {SM : Sums} {f : Nat} {g : List AV → St → Option (AV × St)}
    (hg : ∀ {args s v s'}, g args s = some (v, s') → (∀ b o, s.get b = some o → b < s.next) → Wf M f args s fun v1 s1 => Can s v1 s1 v s') (h : SumsOk P SM) : SumsOk P (addSum SM f g) := by
  intro k g' hk args s v s' R μ w cargs hx hR hr hc
  unfold addSum at hk
  split at hk
  · rename_i e
    subst e
    cases hk
    obtain ⟨v1, s1, hcall, hcan⟩ := hg hx hr.dom
    obtain ⟨j, hj⟩ := (sup_lim M.FT M.SM).call _ _ _ _ hcall
    have hn1 : s1.next ≤ R := by
      cases hcan with
      | old _ _ hn _ => omega
      | new t o p hs hgg hn _ _ _ _ _ => rw [hs] at hR; simp at hR; omega
    obtain ⟨q1, q2⟩ := (eng_sound hm hFT hSM hSN j).call hj hn1 hr hc
    exact ⟨q1, fun n => (q2 n).mono fun e w' hq => Rets.can hr hq hcan hR⟩
  · exact h k g' hk hx hR hr hc
end
end Go.Proofs.Ytjejgnbdlfkenaa.D
namespace Go.Proofs.Ytjejgnbdlfkenaa.Base
open D
set_option linter.unusedSimpArgs false
set_option linter.unusedVariables false
set_option maxRecDepth 10000

abbrev Lies (s : St) (b : Nat) (l : List AV) : Prop := s.get b = some (.cells l false false 0)

theorem CompareN_run (a b : Lb) (s : St) : Wf mm 17 [.agg [.int .u32 a.e, .int .u32 a.q], .agg [.int .u32 b.e, .int .u32 b.q]] s fun v s' => v = .int .i64 (a.cmp b) ∧ Fr s s' ∧ s'.next ≤ s.next + 3 := by
  refine Wf_enter ft17 (sm (by decide)) (by rfl) ?_
  simp only [fd17, go_sem, Wk_block, Wk_drawnC, reduceCtorEq, Nat.reduceEqDiff, Nat.reduceAdd, Nat.reduceLeDiff, Nat.reduceLT, Nat.reduceMul, Nat.reduceSub, ↓reduceIte, Int.reduceLT, Int.reduceLE, Int.reduceNeg, Int.reduceAdd, Int.reduceEq, Nat.reduceBneDiff, Nat.reduceBEq, Int.reduceToNat, Int.reduceMul, Int.reduceSub, Int.reduceBEq, Int.reduceBNe, Wl_eq (compare_run _ _ _)]
  rw [Wl_eq (or_run (cmpI a.e b.e) (cmpI a.q b.q) (by simp only [go_sem, Wk_block, Wk_drawnC, reduceCtorEq, Nat.reduceEqDiff, Nat.reduceAdd, Nat.reduceLeDiff, Nat.reduceLT, Nat.reduceMul, Nat.reduceSub, ↓reduceIte, Int.reduceLT, Int.reduceLE, Int.reduceNeg, Int.reduceAdd, Int.reduceEq, Nat.reduceBneDiff, Nat.reduceBEq, Int.reduceToNat, Int.reduceMul, Int.reduceSub, Int.reduceBEq, Int.reduceBNe]; rfl))]
  simp only [go_sem, Wk_block, Wk_drawnC, reduceCtorEq, Nat.reduceEqDiff, Nat.reduceAdd, Nat.reduceLeDiff, Nat.reduceLT, Nat.reduceMul, Nat.reduceSub, ↓reduceIte, Int.reduceLT, Int.reduceLE, Int.reduceNeg, Int.reduceAdd, Int.reduceEq, Nat.reduceBneDiff, Nat.reduceBEq, Int.reduceToNat, Int.reduceMul, Int.reduceSub, Int.reduceBEq, Int.reduceBNe, cmp_or]
  exact ⟨(((Fr.refl s).new _).new _).new _, Nat.le_refl _⟩

def mxL (a b : Lb) : Lb := if a.lt b then b else a
theorem cmp_gt0 {a b : Lb} : (b.cmp a > 0) ↔ a.lt b := by
  unfold Lb.cmp Lb.lt
  repeat' split
  all_goals omega

theorem Max_run (a b : Lb) {s : St} {p : Nat} (hp : Lies s p [.int .u32 a.e, .int .u32 a.q, .int .u32 b.e, .int .u32 b.q]) (hl : p < s.next) :
    Wf mm 29 [.slice p 0 2 2 false, .fn (.func 17) [] []] s fun v s' => v = .agg (mxL a b).enc ∧ Fr s s' ∧ s'.next ≤ s.next + 5 := by
  refine Wf_enter ft29 (sm (by decide)) (by rfl) ?_
  unfold Lies at hp
  obtain ⟨q, hq⟩ : ∃ q, s.next = q := ⟨_, rfl⟩
  have i0 : ∀ s, idx1 2 (some (.slice p 0 2 2 false)) (some (.int .i64 0)) s = some (.ptr p 0, s) := fun s => rfl
  have i1 : ∀ s, idx1 2 (some (.slice p 0 2 2 false)) (some (.int .i64 1)) s = some (.ptr p 2, s) := fun s => rfl
  have w2 : IntKind.i64.wrap 2 = 2 := rfl
  simp -implicitDefEqProofs only [go_sem, Wk_block, Wk_drawnC, reduceCtorEq, Nat.reduceEqDiff, Nat.reduceAdd, Nat.reduceLeDiff, Nat.reduceLT, Nat.reduceMul, Nat.reduceSub, ↓reduceIte, Int.reduceLT, Int.reduceLE, Int.reduceNeg, Int.reduceAdd, Int.reduceEq, Nat.reduceBneDiff, Nat.reduceBEq, Int.reduceToNat, Int.reduceMul, Int.reduceSub, Int.reduceBEq, Int.reduceBNe, fd29, hp, hl, eq_next_f hl, eq_next_k hl, i0]
  rw [Wk_loop]
  simp -implicitDefEqProofs only [go_sem, Wk_block, Wk_drawnC, reduceCtorEq, Nat.reduceEqDiff, Nat.reduceAdd, Nat.reduceLeDiff, Nat.reduceLT, Nat.reduceMul, Nat.reduceSub, ↓reduceIte, Int.reduceLT, Int.reduceLE, Int.reduceNeg, Int.reduceAdd, Int.reduceEq, Nat.reduceBneDiff, Nat.reduceBEq, Int.reduceToNat, Int.reduceMul, Int.reduceSub, Int.reduceBEq, Int.reduceBNe, hp, hl, eq_next_f hl, eq_next_k hl, i1]
  refine Wl_of (CompareN_run b a _) ?_
  rintro _ s2 ⟨rfl, f, fn⟩
  have hs2 : ∀ b, b < q + 2 → s2.get b = _ := fun b hb => f.get b (by simp only [St.next_new]; omega)
  have g4 : s2.get q = some (.cells [.int .u32 0, .int .u32 0] false false 0) := (hs2 q (by omega)).trans (by rw [St.get_new, if_neg (by simp only [St.next_new]; omega), St.get_new, if_pos hq.symm])
  have g5 : s2.get (q + 1) = some (.cells [.int .u32 a.e, .int .u32 a.q] false false 0) := (hs2 (q + 1) (by omega)).trans (by rw [St.get_new, if_pos (by simp only [St.next_new]; omega)])
  have gp : s2.get p = some (.cells [.int .u32 a.e, .int .u32 a.q, .int .u32 b.e, .int .u32 b.q] false false 0) := (hs2 p (by omega)).trans (by rw [St.get_new, if_neg (by simp only [St.next_new]; omega), St.get_new, if_neg (by omega), hp])
  have fs : Fr s s2 := (((Fr.refl s).new _).new _).trans f
  simp only [St.next_new] at fn
  rw [hq]
  cases hc : decide (b.cmp a > 0)
  · have hl : mxL a b = a := if_neg (fun h => by have := of_decide_eq_false hc; exact this (cmp_gt0.2 h))
    simp -implicitDefEqProofs only [go_sem, Wk_block, Wk_drawnC, reduceCtorEq, Nat.reduceEqDiff, Nat.reduceAdd, Nat.reduceLeDiff, Nat.reduceLT, Nat.reduceMul, Nat.reduceSub, ↓reduceIte, Int.reduceLT, Int.reduceLE, Int.reduceNeg, Int.reduceAdd, Int.reduceEq, Nat.reduceBneDiff, Nat.reduceBEq, Int.reduceToNat, Int.reduceMul, Int.reduceSub, Int.reduceBEq, Int.reduceBNe, hc, w2]
    rw [Wk_loop]
    simp -implicitDefEqProofs only [go_sem, Wk_block, Wk_drawnC, reduceCtorEq, Nat.reduceEqDiff, Nat.reduceAdd, Nat.reduceLeDiff, Nat.reduceLT, Nat.reduceMul, Nat.reduceSub, ↓reduceIte, Int.reduceLT, Int.reduceLE, Int.reduceNeg, Int.reduceAdd, Int.reduceEq, Nat.reduceBneDiff, Nat.reduceBEq, Int.reduceToNat, Int.reduceMul, Int.reduceSub, Int.reduceBEq, Int.reduceBNe, g4, g5]
    exact ⟨by rw [hl]; rfl, fs.put (by omega) _, (Nat.le_trans fn (by omega))⟩
  · have hl : mxL a b = b := if_pos (cmp_gt0.1 (of_decide_eq_true hc))
    have hqq : ¬ q = q + 1 := by omega
    simp -implicitDefEqProofs only [go_sem, Wk_block, Wk_drawnC, reduceCtorEq, Nat.reduceEqDiff, Nat.reduceAdd, Nat.reduceLeDiff, Nat.reduceLT, Nat.reduceMul, Nat.reduceSub, ↓reduceIte, Int.reduceLT, Int.reduceLE, Int.reduceNeg, Int.reduceAdd, Int.reduceEq, Nat.reduceBneDiff, Nat.reduceBEq, Int.reduceToNat, Int.reduceMul, Int.reduceSub, Int.reduceBEq, Int.reduceBNe, hc, w2, g4, g5, gp, i1]
    rw [Wk_loop]
    simp -implicitDefEqProofs only [go_sem, Wk_block, Wk_drawnC, reduceCtorEq, Nat.reduceEqDiff, Nat.reduceAdd, Nat.reduceLeDiff, Nat.reduceLT, Nat.reduceMul, Nat.reduceSub, ↓reduceIte, Int.reduceLT, Int.reduceLE, Int.reduceNeg, Int.reduceAdd, Int.reduceEq, Nat.reduceBneDiff, Nat.reduceBEq, Int.reduceToNat, Int.reduceMul, Int.reduceSub, Int.reduceBEq, Int.reduceBNe, g4, g5, hqq]
    exact ⟨by rw [hl]; rfl, (fs.put (by omega) _).put (by omega) _, (Nat.le_trans fn (by omega))⟩

theorem LastL_run (a b : Lb) {s : St} {p : Nat} (hp : Lies s p [.int .u32 a.e, .int .u32 a.q, .int .u32 b.e, .int .u32 b.q]) (hl : p < s.next) :
    Wf mm 21 [.slice p 0 2 2 false] s fun v s' => v = .agg (mxL a b).enc ∧ Fr s s' ∧ s'.next ≤ s.next + 6 := by
  refine Wf_enter ft21 (sm (by decide)) (by rfl) ?_
  have w2 : ((2 : Int) == 0) = false := rfl
  obtain ⟨q, hq⟩ : ∃ q, s.next = q := ⟨_, rfl⟩
  have hp2 : Lies (s.new (.cells [.int .u32 0, .int .u32 0] false false 0)) p [.int .u32 a.e, .int .u32 a.q, .int .u32 b.e, .int .u32 b.q] := by rw [Lies, St.get_new, if_neg (by omega)]; exact hp
  simp -implicitDefEqProofs only [go_sem, Wk_block, Wk_drawnC, reduceCtorEq, Nat.reduceEqDiff, Nat.reduceAdd, Nat.reduceLeDiff, Nat.reduceLT, Nat.reduceMul, Nat.reduceSub, ↓reduceIte, Int.reduceLT, Int.reduceLE, Int.reduceNeg, Int.reduceAdd, Int.reduceEq, Nat.reduceBneDiff, Nat.reduceBEq, Int.reduceToNat, Int.reduceMul, Int.reduceSub, Int.reduceBEq, Int.reduceBNe, fd21, w2]
  refine Wl_of (Max_run a b hp2 (by simp only [St.next_new]; omega)) ?_
  rintro _ s2 ⟨rfl, f, fn⟩
  simp only [St.next_new] at fn
  have g : s2.get q = some (.cells [.int .u32 0, .int .u32 0] false false 0) := (f.get q (by simp only [St.next_new]; omega)).trans (by rw [St.get_new, if_pos hq.symm])
  rw [hq]
  simp -implicitDefEqProofs only [go_sem, Wk_block, Wk_drawnC, reduceCtorEq, Nat.reduceEqDiff, Nat.reduceAdd, Nat.reduceLeDiff, Nat.reduceLT, Nat.reduceMul, Nat.reduceSub, ↓reduceIte, Int.reduceLT, Int.reduceLE, Int.reduceNeg, Int.reduceAdd, Int.reduceEq, Nat.reduceBneDiff, Nat.reduceBEq, Int.reduceToNat, Int.reduceMul, Int.reduceSub, Int.reduceBEq, Int.reduceBNe, Lb.enc, g]
  exact ⟨(((Fr.refl s).new _).trans f).put (by omega) _, by omega⟩

/-- A snapshot. -/
structure Sn where
  l : Lb
  r : Int
  t : Int
def Sn.enc (x : Sn) : List AV := [.int .u32 x.l.e, .int .u32 x.l.q, .int .i64 x.r, .int .u32 x.t]

/-- A slice that can be read. -/
structure Rd (s : St) (v : AV) (sz : Nat) (xs : List (List AV)) : Prop where
  len : ∀ s', len1 (some v) s' = some (.int .i64 (xs.length : Nat), s')
  max : xs.length ≤ maxLen
  form : 0 < xs.length → ∃ b o cap lo vs lo2 ro z, v = .slice b o xs.length cap lo ∧ s.get b = some (.cells vs lo2 ro z) ∧ b < s.next ∧ ∀ j (h : j < xs.length), o + j * sz + sz ≤ vs.length ∧ (vs.drop (o + j * sz)).take sz = xs[j]
theorem Rd.mono {s s' : St} {v : AV} {sz : Nat} {xs : List (List AV)} (h : Rd s v sz xs) (f : Fr s s') : Rd s' v sz xs where
  len := h.len
  max := h.max
  form hx := by
    obtain ⟨b, o, cap, lo, vs, lo2, ro, z, h1, h2, h3, h4⟩ := h.form hx
    exact ⟨b, o, cap, lo, vs, lo2, ro, z, h1, (f.get b h3).trans h2, Nat.lt_of_lt_of_le h3 f.le, h4⟩
theorem Rd.at_ {s : St} {v : AV} {sz : Nat} {xs : List (List AV)} (h : Rd s v sz xs) {j : Nat} (hj : j < xs.length) : ∃ b o vs lo2 ro z, (∀ s', idx1 sz (some v) (some (.int .i64 (j : Int))) s' = some (.ptr b (o + j * sz), s')) ∧ s.get b = some (.cells vs lo2 ro z) ∧
    o + j * sz + sz ≤ vs.length ∧ (vs.drop (o + j * sz)).take sz = xs[j] ∧ b < s.next := by
  obtain ⟨b, o, cap, lo, vs, lo2, ro, z, rfl, h2, h3, h4⟩ := h.form (by omega)
  exact ⟨b, o, vs, lo2, ro, z, fun s' => idx1_slice hj, h2, (h4 j hj).1, (h4 j hj).2, h3⟩

/-! ### What is the last one of each span -/
def findB : List (Int × Lb) → Int → Nat → Option (Nat × Lb)
  | [], _, _ => none
  | e :: r, n, k => if n == e.1 then some (k, e.2) else findB r n (k + 1)
def encF : Nat → List (Int × Lb) → List (AV × AV × Nat)
  | _, [] => []
  | i, e :: r => (.int .u32 e.1, .agg e.2.enc, i) :: encF (i + 1) r
theorem encF_len : ∀ (i : Nat) (b : List (Int × Lb)), (encF i b).length = b.length
  | _, [] => rfl
  | i, e :: r => by simp [encF, encF_len (i + 1) r]
theorem findA_enc : ∀ (b : List (Int × Lb)) (i k : Nat) (n : Int), findA .u32 n (encF i b) k = some ((findB b n k).map fun x => (x.1, .agg x.2.enc))
  | [], _, _, _ => rfl
  | e :: r, i, k, n => by
    simp only [encF, findA, findB, if_true]
    by_cases h : (n == e.1) = true
    · rw [if_pos h, if_pos h]; rfl
    · rw [if_neg h, if_neg h]; exact findA_enc r _ _ n
theorem encF_append : ∀ (b : List (Int × Lb)) (i : Nat) (x : Int × Lb), encF i (b ++ [x]) = encF i b ++ [(.int .u32 x.1, .agg x.2.enc, i + b.length)]
  | [], i, x => by simp [encF]
  | e :: r, i, x => by
    simp only [List.cons_append, encF, encF_append r (i + 1) x, List.length_cons]
    rw [show i + 1 + r.length = i + (r.length + 1) by omega]
theorem encF_set : ∀ (b : List (Int × Lb)) (i j : Nat) (x : Int × Lb), j < b.length → (encF i b).modify j (fun e => (.int .u32 x.1, .agg x.2.enc, e.2.2)) = encF i (b.set j x)
  | [], _, j, _, h => by simp at h
  | e :: r, i, 0, x, _ => by simp [encF]
  | e :: r, i, j + 1, x, h => by
    have := encF_set r (i + 1) j x (by simpa using h)
    simp only [encF, List.set_cons_succ, List.modify_succ_cons, this]
theorem findB_lt : ∀ (b : List (Int × Lb)) (n : Int) (k j : Nat) (v : Lb), findB b n k = some (j, v) → k ≤ j ∧ j < k + b.length ∧ b[j - k]? = some (n, v)
  | [], _, _, _, _, h => by cases h
  | e :: r, n, k, j, v, h => by
    unfold findB at h
    split at h
    · rename_i hn
      cases h
      have : n = e.1 := by simpa using hn
      refine ⟨Nat.le_refl _, by simp, ?_⟩
      rw [Nat.sub_self, List.getElem?_cons_zero, this]
    · obtain ⟨h1, h2, h3⟩ := findB_lt r n (k + 1) j v h
      refine ⟨by omega, by simp; omega, ?_⟩
      rw [show j - k = (j - (k + 1)) + 1 by omega, List.getElem?_cons_succ]
      exact h3
def pB (b : List (Int × Lb)) (n : Int) (v : Lb) : List (Int × Lb) := match findB b n 0 with
  | some (j, _) => b.set j (n, v)
  | none => b ++ [(n, v)]
def gB (b : List (Int × Lb)) (n : Int) : Lb := match findB b n 0 with
  | some (_, v) => v
  | none => ⟨0, 0⟩
def stepB (span : Int) (b : List (Int × Lb)) (x : Sn) : List (Int × Lb) := pB b (x.t.tdiv span) (mxL (gB b (x.t.tdiv span)) x.l)
def bestOf (span : Int) (l : List Sn) : List (Int × Lb) := l.foldl (stepB span) []
theorem bestOf_take {span : Int} {l : List Sn} {j : Nat} (hj : j < l.length) : bestOf span (l.take (j + 1)) = stepB span (bestOf span (l.take j)) l[j] := by
  rw [List.take_succ_eq_append_getElem hj]
  simp only [bestOf, List.foldl_append, List.foldl_cons, List.foldl_nil]

end Go.Proofs.Ytjejgnbdlfkenaa.Base
namespace Go.Proofs.Ytjejgnbdlfkenaa.D
variable {p : POp} {ev ev' : Ev} {s s' : St} {v : AV}

/-- All that lies has a number that was given out. -/
def DomS (s : St) : Prop := ∀ b o, s.get b = some o → b < s.next
/-- A step that gives out new numbers alone. -/
structure Stp (s s' : St) : Prop where
  le : s.next ≤ s'.next
  dom : DomS s → DomS s'
theorem Stp.refl (s : St) : Stp s s := ⟨Nat.le_refl _, id⟩
theorem Stp.trans {a b c : St} (h : Stp a b) (k : Stp b c) : Stp a c := ⟨Nat.le_trans h.le k.le, fun d => k.dom (h.dom d)⟩
theorem Stp.new (s : St) (o : AObj) : Stp s (s.new o) := ⟨by simp, fun d b x h => by
  rw [St.get_new] at h
  simp only [St.next_new]
  split at h
  · omega
  · have := d b x h; omega⟩
theorem Stp.put {b : Nat} {o : AObj} (h : s.get b = some o) (x : AObj) : Stp s (s.put b x) := ⟨Nat.le_refl _, fun d c y hc => by
  rw [St.get_put] at hc
  show c < s.next
  split at hc
  · subst c; exact d b o h
  · exact d c y hc⟩
theorem Stp.drop (s : St) (b : Nat) : Stp s (s.drop b) := ⟨Nat.le_refl _, fun d c y hc => by
  rw [St.get_drop] at hc
  show c < s.next
  split at hc
  · cases hc
  · exact d c y hc⟩

theorem storeA_stp {b o : Nat} {l : List AV} (h : storeA s b o l = some s') : Stp s s' := by
  unfold storeA at h
  split at h
  · split at h <;> cases h
    exact .put (by assumption) _
  · cases h

theorem appendA_stp {esz eb n : Nat} {x : AV} {l : List AV} (h : appendA esz eb s x n l = some (v, s')) : Stp s s' := by
  unfold appendA newA at h
  repeat' split at h
  all_goals first
    | (cases h; done)
    | (cases h; exact .refl _)
    | (cases h; exact .new _ _)
    | (cases h; exact (Stp.drop _ _).trans (.new _ _))
    | (cases h; exact storeA_stp (by assumption))

theorem xop_stp (h : xop p ev s = some (v, s')) : Stp s s' := by
  unfold xop at h
  simp only [] at h
  repeat' split at h
  all_goals first
    | (cases h; done)
    | exact appendA_stp h
    | (cases h; exact .refl _)
    | (simp only [newA] at h; cases h; exact .new _ _)
    | (cases h; exact .put (by assumption) _)
    | (cases h; exact storeA_stp (by assumption))

/-! ### The whole machine -/

structure EngStp (e : Eng) : Prop where
  call : ∀ {f args s v s'}, e.call f args s = some (v, s') → Stp s s'
  ex : ∀ {ro c ts ds s x ts' ds' s'}, e.ex ro c ts ds s = some (x, ts', ds', s') → Stp s s'

variable {e : Eng}

theorem roundA_stp (he : EngStp e) {r : Nat} {args : List AV} (h : roundA e r args s = some (v, s')) : Stp s s' := by
  unfold roundA at h
  split at h
  case h_2 => cases h
  rename_i g0
  split at h
  case isFalse => cases h
  split at h
  case h_2 => cases h
  rename_i h1
  have n1 := he.ex h1
  split at h
  case h_2 => cases h
  rename_i g1
  split at h
  case h_2 => cases h
  rename_i h2
  have n2 := he.ex h2
  split at h
  case h_2 => cases h
  rename_i g2
  split at h
  all_goals (cases h; exact (n1.trans ((Stp.put g1 _).trans n2)).trans (.put g2 _))

theorem callV_stp (he : EngStp e) {f : AV} {args : List AV} (h : callV e f args s = some (v, s')) : Stp s s' := by
  unfold callV at h
  split at h
  · exact he.call h
  · exact roundA_stp he h
  · cases h

theorem opVal_stp (he : EngStp e) (h : opVal e p ev s = some (v, s')) : Stp s s' := by
  unfold opVal at h
  split at h
  · repeat' split at h
    all_goals first
      | (cases h; done)
      | exact callV_stp he h
  · exact xop_stp h

theorem opStep_stp (he : EngStp e) {p : PO} {ts ts' : Tr AV} (h : opStep e p ts s = some (ts', s')) : Stp s s' := by
  unfold opStep at h
  repeat' split at h
  all_goals first
    | (cases h; done)
    | (cases h; exact .refl _)
    | (cases h; exact opVal_stp he (by assumption))

theorem runOps_stp (he : EngStp e) : ∀ {l : List PO} {ts ts' : Tr AV} {s s' : St}, runOps e l ts s = some (ts', s') → Stp s s'
  | [], _, _, _, _, h => by cases h; exact .refl _
  | p :: r, ts, ts', s, s', h => by
    simp only [runOps] at h
    split at h
    · cases h
    · exact (opStep_stp he (by assumption)).trans (runOps_stp he h)

theorem runSnaps_stp (he : EngStp e) : ∀ {l : List PO} {ts ts' : Tr AV} {s s' : St} {acc out : List St}, runSnaps e l ts s acc = some (ts', s', out) → Stp s s'
  | [], _, _, _, _, _, _, h => by cases h; exact .refl _
  | p :: r, ts, ts', s, s', _, _, h => by
    simp only [runSnaps] at h
    split at h
    · cases h
    · exact (opStep_stp he (by assumption)).trans (runSnaps_stp he h)

theorem takeAll_stp : ∀ {l : List Nat} {s s' : St}, takeAll l s = some s' → Stp s s'
  | [], _, _, h => by cases h; exact .refl _
  | d :: r, s, s', h => by
    simp only [takeAll] at h
    split at h
    · exact (Stp.drop _ _).trans (takeAll_stp h)
    · cases h

theorem rangeA_stp (he : EngStp e) {ro : Option Nat} {f : AV} {params : List Nat} {assign body : PC} {ts ts' : Tr AV} {ds ds' : List Nat} {x : AExit} (h : rangeA e ro f params assign body ts ds s = some (x, ts', ds', s')) : Stp s s' := by
  unfold rangeA at h
  split at h
  case h_2 => cases h
  split at h
  case h_1 => cases h
  rename_i l ds1 s2 h0
  have h1 : Stp s s2 := by
    repeat' split at h0
    all_goals first
      | (cases h0; done)
      | (cases h0; exact .refl _)
      | (cases h0; exact .new _ _)
      | (cases h0; exact (Stp.new _ _).trans (.new _ _))
  split at h
  case h_1 => cases h
  rename_i s3 hc
  have h2 := he.call hc
  split at h
  all_goals first
    | (cases h; done)
    | (cases h; exact (h1.trans h2).trans (.put (by assumption) _))

theorem exStep_stp (he : EngStp e) {ro : Option Nat} {c : PC} {ts ts' : Tr AV} {ds ds' : List Nat} {x : AExit} (h : exStep e ro c ts ds s = some (x, ts', ds', s')) : Stp s s' := by
  cases c with
  | skip => cases h; exact .refl _
  | region ops =>
    simp only [exStep] at h
    split at h
    · cases h; exact runOps_stp he (by assumption)
    · cases h
  | drawn ops looks =>
    simp only [exStep] at h
    split at h
    · split at h
      · cases h; exact runSnaps_stp he (by assumption)
      · cases h
    · cases h
  | seq a b =>
    simp only [exStep] at h
    split at h
    · exact (he.ex (by assumption)).trans (he.ex h)
    · exact he.ex h
  | cond y a b =>
    simp only [exStep] at h
    split at h
    · exact he.ex h
    · exact he.ex h
    · cases h
  | block id a =>
    simp only [exStep] at h
    split at h
    · cases h; exact he.ex (by assumption)
    · exact he.ex h
  | loop a =>
    simp only [exStep] at h
    split at h
    · exact (he.ex (by assumption)).trans (he.ex h)
    · exact he.ex h
  | rangeF f params a b =>
    simp only [exStep] at h
    split at h
    · exact rangeA_stp he h
    · cases h
  | exit id => cases h; exact .refl _
  | ret => cases h; exact .refl _

/-- What is known of functions gives out new numbers alone. -/
def SumsStp (SM : Sums) : Prop := ∀ f g args s v s', SM f = some g → g args s = some (v, s') → Stp s s'
theorem noSums_stp : SumsStp noSums := fun _ _ _ _ _ _ h => by cases h
theorem sumsStp_add {SM : Sums} {f : Nat} {g : List AV → St → Option (AV × St)} (hg : ∀ args s v s', g args s = some (v, s') → Stp s s') (h : SumsStp SM) : SumsStp (addSum SM f g) := by
  intro k g' args s v s' hk
  unfold addSum at hk
  split at hk
  · cases hk; exact hg args s v s'
  · exact h k g' args s v s' hk

theorem callStep_stp {FT : Fns} {SM : Sums} (hS : SumsStp SM) (he : EngStp e) {f : Nat} {args : List AV} (h : callStep FT SM e f args s = some (v, s')) : Stp s s' := by
  unfold callStep at h
  split at h
  · exact hS _ _ _ _ _ _ (by assumption) h
  · split at h
    · cases h
    · split at h
      · unfold finish at h
        repeat' split at h
        all_goals first
          | (cases h; done)
          | (cases h
             exact (he.ex (by assumption)).trans (takeAll_stp (by assumption)))
      · cases h

theorem eng_stp {FT : Fns} {SM : Sums} (hS : SumsStp SM) : ∀ n, EngStp (eng FT SM n)
  | 0 => ⟨fun h => (by cases h), fun h => (by cases h)⟩
  | n + 1 => ⟨fun h => callStep_stp hS (eng_stp hS n) h, fun h => exStep_stp (eng_stp hS n) h⟩
theorem lim_stp {FT : Fns} {SM : Sums} (hS : SumsStp SM) : EngStp (lim FT SM) where
  call h := by
    obtain ⟨n, h⟩ := of_some1 h
    exact (eng_stp hS n).call h
  ex h := by
    obtain ⟨n, h⟩ := of_some1 h
    exact (eng_stp hS n).ex h
theorem Wf.stp {M : Mach} {f : Nat} {l : List AV} {P : AV → St → Prop} (hS : SumsStp M.SM) (h : Wf M f l s P) : Wf M f l s fun v s' => P v s' ∧ Stp s s' := by
  obtain ⟨v, s', h1, h2⟩ := h
  exact ⟨v, s', h1, h2, (lim_stp hS).call h1⟩
end Go.Proofs.Ytjejgnbdlfkenaa.D
namespace Go.Proofs.Ytjejgnbdlfkenaa.Base
open D
set_option linter.unusedSimpArgs false
set_option linter.unusedVariables false
set_option maxRecDepth 10000

/-- A loop, and what is behind it. -/
theorem Wk_loop_post {M : Mach} {ro : Option Nat} {K : List Fk} {id : Nat} {a : PC} {ts : Tr AV} {ds : List Nat} {s : St} {Q : Post} (Pp : Tr AV → St → Prop) (h : Wk M ro [] (.loop a) ts ds s fun x ts' ds' s' => (x = .normal ∨ x = .exit id) ∧ ds' = ds ∧ Pp ts' s')
    (hr : ∀ ts' s', Pp ts' s' → Wr M ro K .normal ts' ds s' Q) : Wk M ro (.bl id :: K) (.loop a) ts ds s Q := by
  obtain ⟨x, ts', ds', s', h1, h2⟩ := h
  rw [Wr_nil] at h2
  obtain ⟨hx, rfl, hp⟩ := h2
  refine ⟨x, ts', ds', s', h1, ?_⟩
  rcases hx with rfl | rfl
  · rw [Wr_bl]; exact hr _ _ hp
  · rw [Wr_bl_exit, if_pos rfl]; exact hr _ _ hp

theorem mm_st : SumsStp mm.SM := noSums_stp
def uI (x : Int) : AV := .int .u32 x
theorem less_run (a b : Int) (s : St) : mm.L.call 49 [uI a, uI b] s = some (.bool (Go.Sort.ltInt a b), s) := by
  refine of_Wf (Wf_enter ft49 (sm (by decide)) (by rfl) ?_)
  have ft : (false == true) = false := rfl
  have e : Go.Sort.ltInt a b = decide (a < b) := rfl
  simp -implicitDefEqProofs only [go_sem, Wk_block, Wk_drawnC, reduceCtorEq, Nat.reduceEqDiff, Nat.reduceAdd, Nat.reduceLeDiff, Nat.reduceLT, Nat.reduceMul, Nat.reduceSub, ↓reduceIte, Int.reduceLT, Int.reduceLE, Int.reduceNeg, Int.reduceAdd, Int.reduceEq, Nat.reduceBneDiff, Nat.reduceBEq, Int.reduceToNat, Int.reduceMul, Int.reduceSub, Int.reduceBEq, Int.reduceBNe, fd49, uI, Wl_eq (isNaN_run _ _), e, ft]
abbrev lt : Int → Int → Bool := Go.Sort.ltInt
theorem call_of_eng {f fuel : Nat} {a : List AV} {s s' : St} {v : AV} (h : (eng mm.FT mm.SM fuel).call f a s = some (v, s')) : mm.L.call f a s = some (v, s') := ((sup_lim mm.FT mm.SM).le fuel).call f a s _ h

/-- An array, where it lies. -/
abbrev ar (d : Array Int) : List AV := d.toList.map uI
abbrev Arr (s : St) (p : Nat) (d : Array Int) : Prop := s.get p = some (.cells (ar d) true false 1)
theorem uI_cells (x : Int) : (uI x).cells = [uI x] := rfl
theorem uI_cell (x : Int) : (uI x).cell = true := rfl
theorem ar_len (d : Array Int) : (ar d).length = d.size := by simp [ar]
theorem ar_get {d : Array Int} {i : Nat} (h : i < d.size) : (ar d)[i]? = some (uI d[i]!) := by
  unfold ar
  rw [List.getElem?_map, Array.getElem?_toList, Array.getElem?_eq_getElem h, getElem!_pos d i h]
  rfl
theorem ar_set {d : Array Int} {i : Nat} (h : i < d.size) (x : Int) : List.take i (ar d) ++ [uI x] ++ List.drop (i + 1) (ar d) = ar (d.setIfInBounds i x) := by
  unfold ar
  rw [Array.toList_setIfInBounds, ← List.map_take, ← List.map_drop, ← List.map_singleton (f := uI) (a := x), ← List.map_append, ← List.map_append, List.set_eq_take_append_cons_drop, if_pos (by simpa using h), List.append_assoc]
  rfl
theorem arr_put (s : St) (p : Nat) (d : Array Int) : Arr (s.put p (.cells (ar d) true false 1)) p d := by unfold Arr; rw [St.get_put, if_pos rfl]
theorem idxA {p n i : Nat} (h : i < n) : ∀ s : St, idx1 1 (some (.slice p 0 n n true)) (some (.int .i64 (i : Int))) s = some (.ptr p i, s) := fun s => by
  rw [idx1_slice h, Nat.mul_one, Nat.zero_add]
theorem set_size (d : Array Int) (i : Nat) (x : Int) : (d.setIfInBounds i x).size = d.size := by simp
theorem swp_size (d : Array Int) (i j : Nat) : (Go.Sort.swp d i j).size = d.size := by simp [Go.Sort.swp]
theorem swp_def (d : Array Int) (i j : Nat) : (d.setIfInBounds i d[j]!).setIfInBounds j d[i]! = Go.Sort.swp d i j := rfl
theorem pred_in {j : Nat} (h : j < 1000000000) : IntKind.i64.wrap (((j + 1 : Nat) : Int) - 1) = (j : Int) := by rw [i64_in (by omega) (by omega)]; omega
theorem add_in {i j : Nat} (h : i + j < 1000000000) : IntKind.i64.wrap ((i : Int) + (j : Int)) = ((i + j : Nat) : Int) := by rw [i64_in (by omega) (by omega)]; omega
theorem sub_in {i j : Nat} (h : j ≤ i) (hi : i < 1000000000) : IntKind.i64.wrap ((i : Int) - (j : Int)) = ((i - j : Nat) : Int) := by rw [i64_in (by omega) (by omega)]; omega

theorem insInner_zero (a : Nat) (d : Array Int) : Go.Sort.insInner lt a 0 d = d := rfl
theorem insInner_succ (a j : Nat) (d : Array Int) : Go.Sort.insInner lt a (j + 1) d = if j + 1 > a && lt d[j + 1]! d[j]! then Go.Sort.insInner lt a j (Go.Sort.swp d (j + 1) j) else d := rfl
theorem insInner_le {a j : Nat} (h : j ≤ a) (d : Array Int) : Go.Sort.insInner lt a j d = d := by
  cases j with
  | zero => rfl
  | succ j => rw [insInner_succ, if_neg (by simp; omega)]
theorem insInner_size (a : Nat) : ∀ (j : Nat) (d : Array Int), (Go.Sort.insInner lt a j d).size = d.size
  | 0, _ => rfl
  | j + 1, d => by
    rw [insInner_succ]
    split
    · rw [insInner_size a j, swp_size]
    · rfl
theorem insOuter_eq (a b i : Nat) (d : Array Int) : Go.Sort.insOuter lt a b i d = if i < b then Go.Sort.insOuter lt a b (i + 1) (Go.Sort.insInner lt a i d) else d := by rw [Go.Sort.insOuter]

theorem Ins_run {d0 : Array Int} {n a b p : Nat} {s : St} (hp : Arr s p d0) (hn : d0.size = n) (hab : a ≤ b) (hbn : b ≤ n) (hn9 : n < 1000000) :
    Wf mm 43 [.slice p 0 n n true, .int .i64 (a : Int), .int .i64 (b : Int)] s fun _ s' => Arr s' p (Go.Sort.insertionSort lt d0 a b) ∧ FrX p s s' ∧ s'.next = s.next := by
  refine Wf_enter ft43 (sm (by decide)) (by rfl) ?_
  have ft : (false == true) = false := rfl
  have wa := succ_in (j := a) (by omega)
  simp -implicitDefEqProofs only [go_sem, Wk_block, Wk_drawnC, reduceCtorEq, Nat.reduceEqDiff, Nat.reduceAdd, Nat.reduceLeDiff, Nat.reduceLT, Nat.reduceMul, Nat.reduceSub, ↓reduceIte, Int.reduceLT, Int.reduceLE, Int.reduceNeg, Int.reduceAdd, Int.reduceEq, Nat.reduceBneDiff, Nat.reduceBEq, Int.reduceToNat, Int.reduceMul, Int.reduceSub, Int.reduceBEq, Int.reduceBNe, fd43, wa, ft]
  refine loop_ind (fun m ts s' => ∃ (i : Nat) (d : Array Int), m = b - i ∧ a < i ∧ ts.get 6 = some (.int .i64 (i : Int)) ∧ ts.get 2 = some (.int .i64 (b : Int)) ∧ ts.get 1 = some (.int .i64 (a : Int)) ∧ ts.get 0 = some (.slice p 0 n n true) ∧
    Arr s' p d ∧ d.size = n ∧ Go.Sort.insOuter lt a b i d = Go.Sort.insertionSort lt d0 a b ∧ FrX p s s' ∧ s'.next = s.next) ?_ (n := b - (a + 1))
    ⟨a + 1, d0, rfl, by omega, by simp only [Tr.get_set, Nat.reduceEqDiff, ↓reduceIte, Int.cast_ofNat_Int], by simp only [Tr.get_set, Nat.reduceEqDiff, ↓reduceIte, Int.cast_ofNat_Int], by simp only [Tr.get_set, Nat.reduceEqDiff, ↓reduceIte, Int.cast_ofNat_Int], by simp only [Tr.get_set, Nat.reduceEqDiff, ↓reduceIte, Int.cast_ofNat_Int], hp, hn, rfl, FrX.refl _ _, rfl⟩
  rintro _ ts s1 ⟨i, d, rfl, hi, g6, g2, g1, g0, hA, hd, he, f1, hn1⟩ IH
  by_cases hlt : i < b
  · simp -implicitDefEqProofs only [go_sem, Wk_block, Wk_drawnC, reduceCtorEq, Nat.reduceEqDiff, Nat.reduceAdd, Nat.reduceLeDiff, Nat.reduceLT, Nat.reduceMul, Nat.reduceSub, ↓reduceIte, Int.reduceLT, Int.reduceLE, Int.reduceNeg, Int.reduceAdd, Int.reduceEq, Nat.reduceBneDiff, Nat.reduceBEq, Int.reduceToNat, Int.reduceMul, Int.reduceSub, Int.reduceBEq, Int.reduceBNe, g6, g2, hlt, ft]
    refine Wk_loop_post (fun ts s' => ∃ d' : Array Int, ts.get 6 = some (.int .i64 (i : Int)) ∧ ts.get 2 = some (.int .i64 (b : Int)) ∧ ts.get 1 = some (.int .i64 (a : Int)) ∧ ts.get 0 = some (.slice p 0 n n true) ∧ Arr s' p d' ∧ d'.size = n ∧ d' = Go.Sort.insInner lt a i d ∧ FrX p s s' ∧ s'.next = s.next) ?_ ?_
    · refine loop_ind (fun m ts s' => ∃ (j : Nat) (d' : Array Int), m = j ∧ j ≤ i ∧ ts.get 7 = some (.int .i64 (j : Int)) ∧ ts.get 6 = some (.int .i64 (i : Int)) ∧ ts.get 2 = some (.int .i64 (b : Int)) ∧ ts.get 1 = some (.int .i64 (a : Int)) ∧ ts.get 0 = some (.slice p 0 n n true) ∧
        Arr s' p d' ∧ d'.size = n ∧ Go.Sort.insInner lt a j d' = Go.Sort.insInner lt a i d ∧ FrX p s s' ∧ s'.next = s.next) ?_ (n := i)
        ⟨i, d, rfl, Nat.le_refl _, by simp only [Tr.get_set, Nat.reduceEqDiff, ↓reduceIte, Int.cast_ofNat_Int, g6], by simp only [Tr.get_set, Nat.reduceEqDiff, ↓reduceIte, Int.cast_ofNat_Int, g6], by simp only [Tr.get_set, Nat.reduceEqDiff, ↓reduceIte, Int.cast_ofNat_Int, g2], by simp only [Tr.get_set, Nat.reduceEqDiff, ↓reduceIte, Int.cast_ofNat_Int, g1], by simp only [Tr.get_set, Nat.reduceEqDiff, ↓reduceIte, Int.cast_ofNat_Int, g0], hA, hd, rfl, f1, hn1⟩
      clear g6 g2 g1 g0 hA f1 hn1 he
      rintro j ts s2 ⟨_, d', rfl, hj, g7, g6, g2, g1, g0, hA, hd', he, f2, hn2⟩ IH2
      by_cases hja : a < j
      rotate_left
      · have c1 : decide ((j : Int) > (a : Int)) = false := decide_eq_false (by omega)
        have c2 : decide (a < j) = false := decide_eq_false hja
        simp -implicitDefEqProofs only [go_sem, Wk_block, Wk_drawnC, reduceCtorEq, Nat.reduceEqDiff, Nat.reduceAdd, Nat.reduceLeDiff, Nat.reduceLT, Nat.reduceMul, Nat.reduceSub, ↓reduceIte, Int.reduceLT, Int.reduceLE, Int.reduceNeg, Int.reduceAdd, Int.reduceEq, Nat.reduceBneDiff, Nat.reduceBEq, Int.reduceToNat, Int.reduceMul, Int.reduceSub, Int.reduceBEq, Int.reduceBNe, g7, g1, c1, c2, ft]
        rw [Wr_nil]
        rw [insInner_le (by omega)] at he
        refine ⟨.inr rfl, rfl, d', ?_, ?_, ?_, ?_, hA, hd', he, f2, hn2⟩
        · simp only [Tr.get_set, Nat.reduceEqDiff, ↓reduceIte, Int.cast_ofNat_Int, g6]
        · simp only [Tr.get_set, Nat.reduceEqDiff, ↓reduceIte, Int.cast_ofNat_Int, g2]
        · simp only [Tr.get_set, Nat.reduceEqDiff, ↓reduceIte, Int.cast_ofNat_Int, g1]
        · simp only [Tr.get_set, Nat.reduceEqDiff, ↓reduceIte, Int.cast_ofNat_Int, g0]
      obtain ⟨k, rfl⟩ : ∃ k, j = k + 1 := ⟨j - 1, by omega⟩
      have c1 : decide (((k + 1 : Nat) : Int) > (a : Int)) = true := decide_eq_true (by omega)
      have c2 : decide (a < k + 1) = true := decide_eq_true hja
      have wk := pred_in (j := k) (by omega)
      have x1 := idxA (p := p) (n := n) (i := k + 1) (by omega)
      have x0 := idxA (p := p) (n := n) (i := k) (by omega)
      have a1 := ar_get (d := d') (i := k + 1) (by omega)
      have a0 := ar_get (d := d') (i := k) (by omega)
      rw [insInner_succ] at he
      cases hc : lt d'[k + 1]! d'[k]!
      · simp -implicitDefEqProofs only [go_sem, Wk_block, Wk_drawnC, reduceCtorEq, Nat.reduceEqDiff, Nat.reduceAdd, Nat.reduceLeDiff, Nat.reduceLT, Nat.reduceMul, Nat.reduceSub, ↓reduceIte, Int.reduceLT, Int.reduceLE, Int.reduceNeg, Int.reduceAdd, Int.reduceEq, Nat.reduceBneDiff, Nat.reduceBEq, Int.reduceToNat, Int.reduceMul, Int.reduceSub, Int.reduceBEq, Int.reduceBNe, g7, g1, g0, c1, c2, wk, x1, x0, hA, a1, a0, Wl_eq (less_run _ _ _), hc, ft]
        rw [Wr_nil]
        rw [hc, if_neg (by simp)] at he
        refine ⟨.inr rfl, rfl, d', ?_, ?_, ?_, ?_, hA, hd', he, f2, hn2⟩
        · simp only [Tr.get_set, Nat.reduceEqDiff, ↓reduceIte, Int.cast_ofNat_Int, g6]
        · simp only [Tr.get_set, Nat.reduceEqDiff, ↓reduceIte, Int.cast_ofNat_Int, g2]
        · simp only [Tr.get_set, Nat.reduceEqDiff, ↓reduceIte, Int.cast_ofNat_Int, g1]
        · simp only [Tr.get_set, Nat.reduceEqDiff, ↓reduceIte, Int.cast_ofNat_Int, g0]
      · have u1 := ar_set (d := d') (i := k + 1) (by omega) d'[k]!
        have u0 := ar_set (d := d'.setIfInBounds (k + 1) d'[k]!) (i := k) (by rw [set_size]; omega) d'[k + 1]!
        have l1 : k + 1 + 1 ≤ (ar d').length := by rw [ar_len]; omega
        have l0 : k + 1 ≤ (ar (d'.setIfInBounds (k + 1) d'[k]!)).length := by rw [ar_len, set_size]; omega
        simp -implicitDefEqProofs only [go_sem, Wk_block, Wk_drawnC, reduceCtorEq, Nat.reduceEqDiff, Nat.reduceAdd, Nat.reduceLeDiff, Nat.reduceLT, Nat.reduceMul, Nat.reduceSub, ↓reduceIte, Int.reduceLT, Int.reduceLE, Int.reduceNeg, Int.reduceAdd, Int.reduceEq, Nat.reduceBneDiff, Nat.reduceBEq, Int.reduceToNat, Int.reduceMul, Int.reduceSub, Int.reduceBEq, Int.reduceBNe, g7, g1, g0, c1, c2, wk, x1, x0, hA, a1, a0, Wl_eq (less_run _ _ _), hc, u1, u0, l1, l0, uI_cells, uI_cell, ft]
        rw [hc] at he
        refine IH2 k _ _ (by omega) ⟨k, Go.Sort.swp d' (k + 1) k, rfl, by omega, ?_, ?_, ?_, ?_, ?_, arr_put _ _ _, by rw [swp_size]; exact hd', ?_, f2.put (.inl rfl) _, hn2⟩
        · simp only [Tr.get_set, Nat.reduceEqDiff, ↓reduceIte, Int.cast_ofNat_Int]
        · simp only [Tr.get_set, Nat.reduceEqDiff, ↓reduceIte, Int.cast_ofNat_Int, g6]
        · simp only [Tr.get_set, Nat.reduceEqDiff, ↓reduceIte, Int.cast_ofNat_Int, g2]
        · simp only [Tr.get_set, Nat.reduceEqDiff, ↓reduceIte, Int.cast_ofNat_Int, g1]
        · simp only [Tr.get_set, Nat.reduceEqDiff, ↓reduceIte, Int.cast_ofNat_Int, g0]
        · rw [← he, if_pos (by simp; omega)]
    · clear g6 g2 g1 g0 hA f1 hn1 hd
      rintro ts s2 ⟨d', g6, g2, g1, g0, hA, hd, hd', f1, hn1⟩
      have wi := succ_in (j := i) (by omega)
      simp -implicitDefEqProofs only [go_sem, Wk_block, Wk_drawnC, reduceCtorEq, Nat.reduceEqDiff, Nat.reduceAdd, Nat.reduceLeDiff, Nat.reduceLT, Nat.reduceMul, Nat.reduceSub, ↓reduceIte, Int.reduceLT, Int.reduceLE, Int.reduceNeg, Int.reduceAdd, Int.reduceEq, Nat.reduceBneDiff, Nat.reduceBEq, Int.reduceToNat, Int.reduceMul, Int.reduceSub, Int.reduceBEq, Int.reduceBNe, g6, wi, ft]
      rw [insOuter_eq, if_pos hlt, ← hd'] at he
      refine IH (b - (i + 1)) _ _ (by omega) ⟨i + 1, d', rfl, by omega, ?_, ?_, ?_, ?_, hA, hd, he, f1, hn1⟩
      · simp only [Tr.get_set, Nat.reduceEqDiff, ↓reduceIte, Int.cast_ofNat_Int]
      · simp only [Tr.get_set, Nat.reduceEqDiff, ↓reduceIte, Int.cast_ofNat_Int, g2]
      · simp only [Tr.get_set, Nat.reduceEqDiff, ↓reduceIte, Int.cast_ofNat_Int, g1]
      · simp only [Tr.get_set, Nat.reduceEqDiff, ↓reduceIte, Int.cast_ofNat_Int, g0]
  · simp -implicitDefEqProofs only [go_sem, Wk_block, Wk_drawnC, reduceCtorEq, Nat.reduceEqDiff, Nat.reduceAdd, Nat.reduceLeDiff, Nat.reduceLT, Nat.reduceMul, Nat.reduceSub, ↓reduceIte, Int.reduceLT, Int.reduceLE, Int.reduceNeg, Int.reduceAdd, Int.reduceEq, Nat.reduceBneDiff, Nat.reduceBEq, Int.reduceToNat, Int.reduceMul, Int.reduceSub, Int.reduceBEq, Int.reduceBNe, g6, g2, hlt, ft]
    rw [insOuter_eq, if_neg hlt] at he
    rw [← he]
    exact ⟨hA, f1, hn1⟩

/-! ### The heap -/
theorem sift_eq (hi first root : Nat) (d : Array Int) : Go.Sort.siftDown lt hi first root d = if 2 * root + 1 ≥ hi then d else
    if 2 * root + 1 + 1 < hi && lt d[first + (2 * root + 1)]! d[first + (2 * root + 1) + 1]! then
      if !lt d[first + root]! d[first + (2 * root + 2)]! then d else Go.Sort.siftDown lt hi first (2 * root + 2) (Go.Sort.swp d (first + root) (first + (2 * root + 2)))
    else
      if !lt d[first + root]! d[first + (2 * root + 1)]! then d else Go.Sort.siftDown lt hi first (2 * root + 1) (Go.Sort.swp d (first + root) (first + (2 * root + 1))) := by
  rw [Go.Sort.siftDown]
  by_cases h1 : 2 * root + 1 ≥ hi
  · rw [dif_pos h1, if_pos h1]
  · rw [dif_neg h1, if_neg h1]
    split
    · rename_i h2
      simp only [Bool.and_eq_true, decide_eq_true_eq] at h2
      split
      · rfl
      · rw [dif_pos (by omega)]
    · rfl
theorem sift_size : ∀ (m hi first root : Nat) (d : Array Int), hi - root ≤ m → (Go.Sort.siftDown lt hi first root d).size = d.size
  | 0, hi, first, root, d, h => by rw [sift_eq, if_pos (by omega)]
  | m + 1, hi, first, root, d, h => by
    rw [sift_eq]
    repeat' split
    all_goals first
      | rfl
      | (rw [sift_size m _ _ _ _ (by omega), swp_size])
theorem Sift_run {d0 : Array Int} {n lo hi first p : Nat} {s : St} (hp : Arr s p d0) (hn : d0.size = n) (hh : first + hi ≤ n) (hlo : lo ≤ hi) (hn9 : n < 1000000) :
    Wf mm 57 [.slice p 0 n n true, .int .i64 (lo : Int), .int .i64 (hi : Int), .int .i64 (first : Int)] s fun _ s' => Arr s' p (Go.Sort.siftDown lt hi first lo d0) ∧ FrX p s s' ∧ s'.next = s.next := by
  refine Wf_enter ft57 (sm (by decide)) (by rfl) ?_
  have ft : (false == true) = false := rfl
  simp -implicitDefEqProofs only [go_sem, Wk_block, Wk_drawnC, reduceCtorEq, Nat.reduceEqDiff, Nat.reduceAdd, Nat.reduceLeDiff, Nat.reduceLT, Nat.reduceMul, Nat.reduceSub, ↓reduceIte, Int.reduceLT, Int.reduceLE, Int.reduceNeg, Int.reduceAdd, Int.reduceEq, Nat.reduceBneDiff, Nat.reduceBEq, Int.reduceToNat, Int.reduceMul, Int.reduceSub, Int.reduceBEq, Int.reduceBNe, fd57, ft]
  refine loop_ind (fun m ts s' => ∃ (root : Nat) (d : Array Int), m = hi - root ∧ root ≤ hi ∧ ts.get 8 = some (.int .i64 (root : Int)) ∧ ts.get 2 = some (.int .i64 (hi : Int)) ∧ ts.get 3 = some (.int .i64 (first : Int)) ∧ ts.get 0 = some (.slice p 0 n n true) ∧
    Arr s' p d ∧ d.size = n ∧ Go.Sort.siftDown lt hi first root d = Go.Sort.siftDown lt hi first lo d0 ∧ FrX p s s' ∧ s'.next = s.next) ?_ (n := hi - lo)
    ⟨lo, d0, rfl, hlo, by simp only [Tr.get_set, Nat.reduceEqDiff, ↓reduceIte, Int.cast_ofNat_Int], by simp only [Tr.get_set, Nat.reduceEqDiff, ↓reduceIte, Int.cast_ofNat_Int], by simp only [Tr.get_set, Nat.reduceEqDiff, ↓reduceIte, Int.cast_ofNat_Int], by simp only [Tr.get_set, Nat.reduceEqDiff, ↓reduceIte, Int.cast_ofNat_Int], hp, hn, rfl, FrX.refl _ _, rfl⟩
  rintro _ ts s1 ⟨root, d, rfl, hr, g8, g2, g3, g0, hA, hd, he, f1, hn1⟩ IH
  have wm : IntKind.i64.wrap (2 * (root : Int)) = ((2 * root : Nat) : Int) := by rw [i64_in (by omega) (by omega)]; omega
  obtain ⟨c, hc⟩ : ∃ c, 2 * root + 1 = c := ⟨_, rfl⟩
  have wc := succ_in (j := 2 * root) (by omega)
  rw [hc] at wc
  rw [sift_eq, hc] at he
  by_cases h1 : hi ≤ c
  · have c1 : decide ((c : Int) ≥ (hi : Int)) = true := decide_eq_true (by omega)
    have c2 : decide (hi ≤ c) = true := decide_eq_true h1
    simp -implicitDefEqProofs only [go_sem, Wk_block, Wk_drawnC, reduceCtorEq, Nat.reduceEqDiff, Nat.reduceAdd, Nat.reduceLeDiff, Nat.reduceLT, Nat.reduceMul, Nat.reduceSub, ↓reduceIte, Int.reduceLT, Int.reduceLE, Int.reduceNeg, Int.reduceAdd, Int.reduceEq, Nat.reduceBneDiff, Nat.reduceBEq, Int.reduceToNat, Int.reduceMul, Int.reduceSub, Int.reduceBEq, Int.reduceBNe, g8, g2, wm, wc, c1, c2, ft]
    rw [if_pos h1] at he
    rw [← he]
    exact ⟨hA, f1, hn1⟩
  have c1 : decide ((c : Int) ≥ (hi : Int)) = false := decide_eq_false (by omega)
  have c2 : decide (hi ≤ c) = false := decide_eq_false h1
  rw [if_neg h1] at he
  obtain ⟨e, hec⟩ : ∃ e, c + 1 = e := ⟨_, rfl⟩
  have we := succ_in (j := c) (by omega)
  rw [hec] at we he
  have hee : 2 * root + 2 = e := by omega
  rw [hee] at he
  have wfc := add_in (i := first) (j := c) (by omega)
  have wfr := add_in (i := first) (j := root) (by omega)
  obtain ⟨x, hx⟩ : ∃ x, first + root = x := ⟨_, rfl⟩
  obtain ⟨y, hy⟩ : ∃ y, first + c = y := ⟨_, rfl⟩
  obtain ⟨z, hz⟩ : ∃ z, y + 1 = z := ⟨_, rfl⟩
  have hfe : first + e = z := by omega
  have wfe := add_in (i := first) (j := e) (by omega)
  have wyz := succ_in (j := y) (by omega)
  rw [hx] at wfr
  rw [hy] at wfc
  rw [hfe] at wfe
  rw [hz] at wyz
  rw [hx, hy, hz, hfe] at he
  have xx := idxA (p := p) (n := n) (i := x) (by omega)
  have xy := idxA (p := p) (n := n) (i := y) (by omega)
  have ax := ar_get (d := d) (i := x) (by omega)
  have ay := ar_get (d := d) (i := y) (by omega)
  by_cases h2 : e < hi
  · have xz := idxA (p := p) (n := n) (i := z) (by omega)
    have az := ar_get (d := d) (i := z) (by omega)
    have c3 : decide ((e : Int) < (hi : Int)) = true := decide_eq_true (by omega)
    have c4 : decide (e < hi) = true := decide_eq_true h2
    rw [c4, Bool.true_and] at he
    cases hl : lt d[y]! d[z]!
    · rw [hl, if_neg (by simp)] at he
      cases hl2 : lt d[x]! d[y]!
      · rw [hl2] at he
        simp -implicitDefEqProofs only [go_sem, Wk_block, Wk_drawnC, reduceCtorEq, Nat.reduceEqDiff, Nat.reduceAdd, Nat.reduceLeDiff, Nat.reduceLT, Nat.reduceMul, Nat.reduceSub, ↓reduceIte, Int.reduceLT, Int.reduceLE, Int.reduceNeg, Int.reduceAdd, Int.reduceEq, Nat.reduceBneDiff, Nat.reduceBEq, Int.reduceToNat, Int.reduceMul, Int.reduceSub, Int.reduceBEq, Int.reduceBNe, g8, g2, g3, g0, wm, wc, c1, c2, we, c3, c4, wfc, wfr, wyz, xx, xy, xz, ax, ay, az, hA, Wl_eq (less_run _ _ _), hl, hl2, Bool.not_false, ft]
        rw [if_pos (by simp)] at he
        rw [← he]
        exact ⟨hA, f1, hn1⟩
      · rw [hl2, if_neg (by simp)] at he
        have a1q := ar_get (d := d) (i := x) (by omega)
        have a2q := ar_get (d := d) (i := y) (by omega)
        have u1q := ar_set (d := d) (i := x) (by omega) d[y]!
        have u2q := ar_set (d := d.setIfInBounds x d[y]!) (i := y) (by rw [set_size]; omega) d[x]!
        have l1q : x + 1 ≤ (ar d).length := by rw [ar_len]; omega
        have l2q : y + 1 ≤ (ar (d.setIfInBounds x d[y]!)).length := by rw [ar_len, set_size]; omega
        have x1q := idxA (p := p) (n := n) (i := x) (by omega)
        have x2q := idxA (p := p) (n := n) (i := y) (by omega)
        simp -implicitDefEqProofs only [go_sem, Wk_block, Wk_drawnC, reduceCtorEq, Nat.reduceEqDiff, Nat.reduceAdd, Nat.reduceLeDiff, Nat.reduceLT, Nat.reduceMul, Nat.reduceSub, ↓reduceIte, Int.reduceLT, Int.reduceLE, Int.reduceNeg, Int.reduceAdd, Int.reduceEq, Nat.reduceBneDiff, Nat.reduceBEq, Int.reduceToNat, Int.reduceMul, Int.reduceSub, Int.reduceBEq, Int.reduceBNe, g8, g2, g3, g0, wm, wc, c1, c2, we, c3, c4, wfc, wfr, wyz, xz, az, hA, Wl_eq (less_run _ _ _), hl, hl2, a1q, a2q, u1q, u2q, l1q, l2q, x1q, x2q, uI_cells, uI_cell, ft]
        refine IH (hi - c) _ _ (by omega) ⟨c, Go.Sort.swp d x y, rfl, by omega, ?_, ?_, ?_, ?_, arr_put _ _ _, by rw [swp_size]; exact hd, he, f1.put (.inl rfl) _, hn1⟩
        · simp only [Tr.get_set, Nat.reduceEqDiff, ↓reduceIte, Int.cast_ofNat_Int]
        · simp only [Tr.get_set, Nat.reduceEqDiff, ↓reduceIte, Int.cast_ofNat_Int, g2]
        · simp only [Tr.get_set, Nat.reduceEqDiff, ↓reduceIte, Int.cast_ofNat_Int, g3]
        · simp only [Tr.get_set, Nat.reduceEqDiff, ↓reduceIte, Int.cast_ofNat_Int, g0]
    · rw [hl, if_pos rfl] at he
      cases hl2 : lt d[x]! d[z]!
      · rw [hl2] at he
        simp -implicitDefEqProofs only [go_sem, Wk_block, Wk_drawnC, reduceCtorEq, Nat.reduceEqDiff, Nat.reduceAdd, Nat.reduceLeDiff, Nat.reduceLT, Nat.reduceMul, Nat.reduceSub, ↓reduceIte, Int.reduceLT, Int.reduceLE, Int.reduceNeg, Int.reduceAdd, Int.reduceEq, Nat.reduceBneDiff, Nat.reduceBEq, Int.reduceToNat, Int.reduceMul, Int.reduceSub, Int.reduceBEq, Int.reduceBNe, g8, g2, g3, g0, wm, wc, c1, c2, we, c3, c4, wfc, wfr, wyz, wfe, xx, xy, xz, ax, ay, az, hA, Wl_eq (less_run _ _ _), hl, hl2, Bool.not_false, ft]
        rw [if_pos (by simp)] at he
        rw [← he]
        exact ⟨hA, f1, hn1⟩
      · rw [hl2, if_neg (by simp)] at he
        have a1q := ar_get (d := d) (i := x) (by omega)
        have a2q := ar_get (d := d) (i := z) (by omega)
        have u1q := ar_set (d := d) (i := x) (by omega) d[z]!
        have u2q := ar_set (d := d.setIfInBounds x d[z]!) (i := z) (by rw [set_size]; omega) d[x]!
        have l1q : x + 1 ≤ (ar d).length := by rw [ar_len]; omega
        have l2q : z + 1 ≤ (ar (d.setIfInBounds x d[z]!)).length := by rw [ar_len, set_size]; omega
        have x1q := idxA (p := p) (n := n) (i := x) (by omega)
        have x2q := idxA (p := p) (n := n) (i := z) (by omega)
        simp -implicitDefEqProofs only [go_sem, Wk_block, Wk_drawnC, reduceCtorEq, Nat.reduceEqDiff, Nat.reduceAdd, Nat.reduceLeDiff, Nat.reduceLT, Nat.reduceMul, Nat.reduceSub, ↓reduceIte, Int.reduceLT, Int.reduceLE, Int.reduceNeg, Int.reduceAdd, Int.reduceEq, Nat.reduceBneDiff, Nat.reduceBEq, Int.reduceToNat, Int.reduceMul, Int.reduceSub, Int.reduceBEq, Int.reduceBNe, g8, g2, g3, g0, wm, wc, c1, c2, we, c3, c4, wfc, wfr, wyz, wfe, xy, ay, hA, Wl_eq (less_run _ _ _), hl, hl2, a1q, a2q, u1q, u2q, l1q, l2q, x1q, x2q, uI_cells, uI_cell, ft]
        refine IH (hi - e) _ _ (by omega) ⟨e, Go.Sort.swp d x z, rfl, by omega, ?_, ?_, ?_, ?_, arr_put _ _ _, by rw [swp_size]; exact hd, he, f1.put (.inl rfl) _, hn1⟩
        · simp only [Tr.get_set, Nat.reduceEqDiff, ↓reduceIte, Int.cast_ofNat_Int]
        · simp only [Tr.get_set, Nat.reduceEqDiff, ↓reduceIte, Int.cast_ofNat_Int, g2]
        · simp only [Tr.get_set, Nat.reduceEqDiff, ↓reduceIte, Int.cast_ofNat_Int, g3]
        · simp only [Tr.get_set, Nat.reduceEqDiff, ↓reduceIte, Int.cast_ofNat_Int, g0]
  · have c3 : decide ((e : Int) < (hi : Int)) = false := decide_eq_false (by omega)
    have c4 : decide (e < hi) = false := decide_eq_false h2
    rw [c4, Bool.false_and, if_neg (by simp)] at he
    cases hl2 : lt d[x]! d[y]!
    · rw [hl2] at he
      simp -implicitDefEqProofs only [go_sem, Wk_block, Wk_drawnC, reduceCtorEq, Nat.reduceEqDiff, Nat.reduceAdd, Nat.reduceLeDiff, Nat.reduceLT, Nat.reduceMul, Nat.reduceSub, ↓reduceIte, Int.reduceLT, Int.reduceLE, Int.reduceNeg, Int.reduceAdd, Int.reduceEq, Nat.reduceBneDiff, Nat.reduceBEq, Int.reduceToNat, Int.reduceMul, Int.reduceSub, Int.reduceBEq, Int.reduceBNe, g8, g2, g3, g0, wm, wc, c1, c2, we, c3, c4, wfc, wfr, xx, xy, ax, ay, hA, Wl_eq (less_run _ _ _), hl2, Bool.not_false, ft]
      rw [if_pos (by simp)] at he
      rw [← he]
      exact ⟨hA, f1, hn1⟩
    · rw [hl2, if_neg (by simp)] at he
      have a1q := ar_get (d := d) (i := x) (by omega)
      have a2q := ar_get (d := d) (i := y) (by omega)
      have u1q := ar_set (d := d) (i := x) (by omega) d[y]!
      have u2q := ar_set (d := d.setIfInBounds x d[y]!) (i := y) (by rw [set_size]; omega) d[x]!
      have l1q : x + 1 ≤ (ar d).length := by rw [ar_len]; omega
      have l2q : y + 1 ≤ (ar (d.setIfInBounds x d[y]!)).length := by rw [ar_len, set_size]; omega
      have x1q := idxA (p := p) (n := n) (i := x) (by omega)
      have x2q := idxA (p := p) (n := n) (i := y) (by omega)
      simp -implicitDefEqProofs only [go_sem, Wk_block, Wk_drawnC, reduceCtorEq, Nat.reduceEqDiff, Nat.reduceAdd, Nat.reduceLeDiff, Nat.reduceLT, Nat.reduceMul, Nat.reduceSub, ↓reduceIte, Int.reduceLT, Int.reduceLE, Int.reduceNeg, Int.reduceAdd, Int.reduceEq, Nat.reduceBneDiff, Nat.reduceBEq, Int.reduceToNat, Int.reduceMul, Int.reduceSub, Int.reduceBEq, Int.reduceBNe, g8, g2, g3, g0, wm, wc, c1, c2, we, c3, c4, wfc, wfr, hA, Wl_eq (less_run _ _ _), hl2, a1q, a2q, u1q, u2q, l1q, l2q, x1q, x2q, uI_cells, uI_cell, ft]
      refine IH (hi - c) _ _ (by omega) ⟨c, Go.Sort.swp d x y, rfl, by omega, ?_, ?_, ?_, ?_, arr_put _ _ _, by rw [swp_size]; exact hd, he, f1.put (.inl rfl) _, hn1⟩
      · simp only [Tr.get_set, Nat.reduceEqDiff, ↓reduceIte, Int.cast_ofNat_Int]
      · simp only [Tr.get_set, Nat.reduceEqDiff, ↓reduceIte, Int.cast_ofNat_Int, g2]
      · simp only [Tr.get_set, Nat.reduceEqDiff, ↓reduceIte, Int.cast_ofNat_Int, g3]
      · simp only [Tr.get_set, Nat.reduceEqDiff, ↓reduceIte, Int.cast_ofNat_Int, g0]
end Go.Proofs.Ytjejgnbdlfkenaa.Base
namespace Go.Proofs.Ytjejgnbdlfkenaa.Base
open D
set_option linter.unusedSimpArgs false
set_option linter.unusedVariables false
set_option maxRecDepth 10000

theorem scanUp_eq (p : Int → Bool) (d : Array Int) (j i : Nat) : Go.Sort.scanUp p d j i = if decide (i ≤ j) && p d[i]! then Go.Sort.scanUp p d j (i + 1) else i := by rw [Go.Sort.scanUp]
theorem scanDown_eq (p : Int → Bool) (d : Array Int) (i j : Nat) : Go.Sort.scanDown p d i (j + 1) = if decide (i ≤ j + 1) && p d[j + 1]! then Go.Sort.scanDown p d i j else j + 1 := rfl
theorem scanDown_lt {p : Int → Bool} {d : Array Int} {i j : Nat} (h : ¬ i ≤ j) : Go.Sort.scanDown p d i j = j := by
  cases j with
  | zero => rfl
  | succ j => rw [scanDown_eq, decide_eq_false h, Bool.false_and, if_neg (by simp)]
theorem pred_of {j k : Nat} (h : j = k + 1) (h2 : j < 1000000000) : IntKind.i64.wrap ((j : Int) - 1) = (k : Int) := by rw [i64_in (by omega) (by omega)]; omega
theorem ar_swp {d : Array Int} {i j : Nat} (h : j < d.size) : List.take j (ar (d.setIfInBounds i d[j]!)) ++ [uI d[i]!] ++ List.drop (j + 1) (ar (d.setIfInBounds i d[j]!)) = ar (Go.Sort.swp d i j) := ar_set (by rw [set_size]; exact h) _

theorem heapPop_eq (a k : Nat) (d : Array Int) : Go.Sort.heapPop lt a (k + 1) d = Go.Sort.heapPop lt a k (Go.Sort.siftDown lt k a 0 (Go.Sort.swp d a (a + k))) := rfl
theorem Heap_run {d0 : Array Int} {n a b p : Nat} {s : St} (hp : Arr s p d0) (hn : d0.size = n) (hab : a < b) (hbn : b ≤ n) (hn9 : n < 1000000) :
    Wf mm 44 [.slice p 0 n n true, .int .i64 (a : Int), .int .i64 (b : Int)] s fun _ s' => Arr s' p (Go.Sort.heapSort lt d0 a b) ∧ FrX p s s' ∧ s'.next = s.next := by
  refine Wf_enter ft44 (sm (by decide)) (by rfl) ?_
  have ft : (false == true) = false := rfl
  have wab := sub_in (i := b) (j := a) (by omega) (by omega)
  obtain ⟨h, hh⟩ : ∃ h, b - a = h + 1 := ⟨b - a - 1, by omega⟩
  have hz : Go.Sort.heapSort lt d0 a b = Go.Sort.heapPop lt a (h + 1) (Go.Sort.heapBuild lt (h + 1) a (h / 2 + 1) d0) := by
    unfold Go.Sort.heapSort
    rw [hh, Nat.add_sub_cancel]
  rw [hh] at wab
  have wh := pred_in (j := h) (by omega)
  have wq : IntKind.i64.wrap ((h : Int).tdiv 2) = ((h / 2 + 1 : Nat) : Int) - 1 := by
    have : (h : Int).tdiv 2 = ((h / 2 : Nat) : Int) := by simp [Int.tdiv]
    rw [this, i64_in (by omega) (by omega)]; omega
  simp -implicitDefEqProofs only [go_sem, Wk_block, Wk_drawnC, reduceCtorEq, Nat.reduceEqDiff, Nat.reduceAdd, Nat.reduceLeDiff, Nat.reduceLT, Nat.reduceMul, Nat.reduceSub, ↓reduceIte, Int.reduceLT, Int.reduceLE, Int.reduceNeg, Int.reduceAdd, Int.reduceEq, Nat.reduceBneDiff, Nat.reduceBEq, Int.reduceToNat, Int.reduceMul, Int.reduceSub, Int.reduceBEq, Int.reduceBNe, fd44, wab, wh, wq, ft]
  refine Wk_loop_post (fun ts s' => ts.get 0 = some (.slice p 0 n n true) ∧ ts.get 6 = some (.int .i64 (a : Int)) ∧ ts.get 7 = some (.int .i64 0) ∧ ts.get 8 = some (.int .i64 ((h + 1 : Nat) : Int)) ∧ Arr s' p (Go.Sort.heapBuild lt (h + 1) a (h / 2 + 1) d0) ∧
      (Go.Sort.heapBuild lt (h + 1) a (h / 2 + 1) d0).size = n ∧ FrX p s s' ∧ s'.next = s.next) ?_ ?_
  · refine loop_ind (fun m ts s' => ∃ d : Array Int, m ≤ h / 2 + 1 ∧ ts.get 9 = some (.int .i64 ((m : Int) - 1)) ∧ ts.get 0 = some (.slice p 0 n n true) ∧ ts.get 6 = some (.int .i64 (a : Int)) ∧ ts.get 7 = some (.int .i64 0) ∧ ts.get 8 = some (.int .i64 ((h + 1 : Nat) : Int)) ∧ Arr s' p d ∧
      d.size = n ∧ Go.Sort.heapBuild lt (h + 1) a m d = Go.Sort.heapBuild lt (h + 1) a (h / 2 + 1) d0 ∧ FrX p s s' ∧ s'.next = s.next) ?_ (n := h / 2 + 1)
      ⟨d0, Nat.le_refl _, by simp only [Tr.get_set, Nat.reduceEqDiff, ↓reduceIte, Int.cast_ofNat_Int], by simp only [Tr.get_set, Nat.reduceEqDiff, ↓reduceIte, Int.cast_ofNat_Int], by simp only [Tr.get_set, Nat.reduceEqDiff, ↓reduceIte, Int.cast_ofNat_Int], by simp only [Tr.get_set, Nat.reduceEqDiff, ↓reduceIte, Int.cast_ofNat_Int], by simp only [Tr.get_set, Nat.reduceEqDiff, ↓reduceIte, Int.cast_ofNat_Int], hp, hn, rfl, FrX.refl _ _, rfl⟩
    rintro m ts s1 ⟨d, hm, g9, g0, g6, g7, g8, hA, hd, he, f1, hn1⟩ IH
    cases m with
    | zero =>
      have cm : decide ((-1 : Int) ≥ 0) = false := rfl
      simp -implicitDefEqProofs only [go_sem, Wk_block, Wk_drawnC, reduceCtorEq, Nat.reduceEqDiff, Nat.reduceAdd, Nat.reduceLeDiff, Nat.reduceLT, Nat.reduceMul, Nat.reduceSub, ↓reduceIte, Int.reduceLT, Int.reduceLE, Int.reduceNeg, Int.reduceAdd, Int.reduceEq, Nat.reduceBneDiff, Nat.reduceBEq, Int.reduceToNat, Int.reduceMul, Int.reduceSub, Int.reduceBEq, Int.reduceBNe, g9, cm, ft]
      rw [Wr_nil]
      have he2 : d = _ := he
      rw [← he2]
      exact ⟨.inr rfl, rfl, by simp only [Tr.get_set, Nat.reduceEqDiff, ↓reduceIte, Int.cast_ofNat_Int, g0], by simp only [Tr.get_set, Nat.reduceEqDiff, ↓reduceIte, Int.cast_ofNat_Int, g6], by simp only [Tr.get_set, Nat.reduceEqDiff, ↓reduceIte, Int.cast_ofNat_Int, g7], by simp only [Tr.get_set, Nat.reduceEqDiff, ↓reduceIte, Int.cast_ofNat_Int, g8], hA, hd, f1, hn1⟩
    | succ k =>
      rw [show ((k + 1 : Nat) : Int) - 1 = (k : Int) by omega] at g9
      have c1 : decide ((k : Int) ≥ 0) = true := decide_eq_true (by omega)
      have wk : IntKind.i64.wrap ((k : Int) - 1) = (k : Int) - 1 := i64_in (by omega) (by omega)
      simp -implicitDefEqProofs only [go_sem, Wk_block, Wk_drawnC, reduceCtorEq, Nat.reduceEqDiff, Nat.reduceAdd, Nat.reduceLeDiff, Nat.reduceLT, Nat.reduceMul, Nat.reduceSub, ↓reduceIte, Int.reduceLT, Int.reduceLE, Int.reduceNeg, Int.reduceAdd, Int.reduceEq, Nat.reduceBneDiff, Nat.reduceBEq, Int.reduceToNat, Int.reduceMul, Int.reduceSub, Int.reduceBEq, Int.reduceBNe, g9, g0, g6, g7, g8, c1, ft]
      refine Wl_of (Sift_run (lo := k) (hi := h + 1) (first := a) hA hd (by omega) (by omega) hn9) ?_
      rintro w s2 ⟨hA2, f2, hn2⟩
      simp -implicitDefEqProofs only [go_sem, Wk_block, Wk_drawnC, reduceCtorEq, Nat.reduceEqDiff, Nat.reduceAdd, Nat.reduceLeDiff, Nat.reduceLT, Nat.reduceMul, Nat.reduceSub, ↓reduceIte, Int.reduceLT, Int.reduceLE, Int.reduceNeg, Int.reduceAdd, Int.reduceEq, Nat.reduceBneDiff, Nat.reduceBEq, Int.reduceToNat, Int.reduceMul, Int.reduceSub, Int.reduceBEq, Int.reduceBNe, g9, wk, ft]
      exact IH k _ _ (by omega) ⟨_, by omega, by simp only [Tr.get_set, Nat.reduceEqDiff, ↓reduceIte, Int.cast_ofNat_Int], by simp only [Tr.get_set, Nat.reduceEqDiff, ↓reduceIte, Int.cast_ofNat_Int, g0], by simp only [Tr.get_set, Nat.reduceEqDiff, ↓reduceIte, Int.cast_ofNat_Int, g6], by simp only [Tr.get_set, Nat.reduceEqDiff, ↓reduceIte, Int.cast_ofNat_Int, g7], by simp only [Tr.get_set, Nat.reduceEqDiff, ↓reduceIte, Int.cast_ofNat_Int, g8], hA2, by rw [sift_size _ _ _ _ _ (Nat.le_refl _)]; exact hd, he, f1.trans f2, hn2.trans hn1⟩
  rintro ts s1 ⟨g0, g6, g7, g8, hA, hd, f1, hn1⟩
  rw [hz]
  generalize Go.Sort.heapBuild lt (h + 1) a (h / 2 + 1) d0 = d1 at hA hd ⊢
  simp -implicitDefEqProofs only [go_sem, Wk_block, Wk_drawnC, reduceCtorEq, Nat.reduceEqDiff, Nat.reduceAdd, Nat.reduceLeDiff, Nat.reduceLT, Nat.reduceMul, Nat.reduceSub, ↓reduceIte, Int.reduceLT, Int.reduceLE, Int.reduceNeg, Int.reduceAdd, Int.reduceEq, Nat.reduceBneDiff, Nat.reduceBEq, Int.reduceToNat, Int.reduceMul, Int.reduceSub, Int.reduceBEq, Int.reduceBNe, g0, g6, g7, g8, wh, ft]
  refine loop_ind (fun m ts s' => ∃ d : Array Int, m ≤ h + 1 ∧ ts.get 10 = some (.int .i64 ((m : Int) - 1)) ∧ ts.get 0 = some (.slice p 0 n n true) ∧ ts.get 6 = some (.int .i64 (a : Int)) ∧ ts.get 7 = some (.int .i64 0) ∧ Arr s' p d ∧
      d.size = n ∧ Go.Sort.heapPop lt a m d = Go.Sort.heapPop lt a (h + 1) d1 ∧ FrX p s s' ∧ s'.next = s.next) ?_ (n := h + 1)
      ⟨d1, Nat.le_refl _, by rw [show ((h + 1 : Nat) : Int) - 1 = (h : Int) by omega]; simp only [Tr.get_set, Nat.reduceEqDiff, ↓reduceIte, Int.cast_ofNat_Int], by simp only [Tr.get_set, Nat.reduceEqDiff, ↓reduceIte, Int.cast_ofNat_Int, g0], by simp only [Tr.get_set, Nat.reduceEqDiff, ↓reduceIte, Int.cast_ofNat_Int, g6], by simp only [Tr.get_set, Nat.reduceEqDiff, ↓reduceIte, Int.cast_ofNat_Int, g7], hA, hd, rfl, f1, hn1⟩
  clear g0 g6 g7 hA hd f1 hn1
  rintro m ts s1 ⟨d, hm, g10, g0, g6, g7, hA, hd, he, f1, hn1⟩ IH
  cases m with
  | zero =>
    have cm : decide ((-1 : Int) ≥ 0) = false := rfl
    simp -implicitDefEqProofs only [go_sem, Wk_block, Wk_drawnC, reduceCtorEq, Nat.reduceEqDiff, Nat.reduceAdd, Nat.reduceLeDiff, Nat.reduceLT, Nat.reduceMul, Nat.reduceSub, ↓reduceIte, Int.reduceLT, Int.reduceLE, Int.reduceNeg, Int.reduceAdd, Int.reduceEq, Nat.reduceBneDiff, Nat.reduceBEq, Int.reduceToNat, Int.reduceMul, Int.reduceSub, Int.reduceBEq, Int.reduceBNe, g10, cm, ft]
    have he2 : d = _ := he
    rw [← he2]
    exact ⟨hA, f1, hn1⟩
  | succ k =>
    rw [show ((k + 1 : Nat) : Int) - 1 = (k : Int) by omega] at g10
    have c1 : decide ((k : Int) ≥ 0) = true := decide_eq_true (by omega)
    have wk : IntKind.i64.wrap ((k : Int) - 1) = (k : Int) - 1 := i64_in (by omega) (by omega)
    have wak := add_in (i := a) (j := k) (by omega)
    rw [heapPop_eq] at he
    obtain ⟨y, hy⟩ : ∃ y, a + k = y := ⟨_, rfl⟩
    rw [hy] at wak he
    have a1q := ar_get (d := d) (i := a) (by omega)
    have a2q := ar_get (d := d) (i := y) (by omega)
    have u1q := ar_set (d := d) (i := a) (by omega) d[y]!
    have u2q := ar_swp (d := d) (i := a) (j := y) (by omega)
    have l1q : a + 1 ≤ (ar d).length := by rw [ar_len]; omega
    have l2q : y + 1 ≤ (ar (d.setIfInBounds a d[y]!)).length := by rw [ar_len, set_size]; omega
    have x1q := idxA (p := p) (n := n) (i := a) (by omega)
    have x2q := idxA (p := p) (n := n) (i := y) (by omega)
    simp -implicitDefEqProofs only [go_sem, Wk_block, Wk_drawnC, reduceCtorEq, Nat.reduceEqDiff, Nat.reduceAdd, Nat.reduceLeDiff, Nat.reduceLT, Nat.reduceMul, Nat.reduceSub, ↓reduceIte, Int.reduceLT, Int.reduceLE, Int.reduceNeg, Int.reduceAdd, Int.reduceEq, Nat.reduceBneDiff, Nat.reduceBEq, Int.reduceToNat, Int.reduceMul, Int.reduceSub, Int.reduceBEq, Int.reduceBNe, g10, g0, g6, g7, c1, wak, hA, a1q, a2q, u1q, u2q, l1q, l2q, x1q, x2q, uI_cells, uI_cell, ft]
    obtain ⟨s2, hs2⟩ : ∃ x, St.put s1 p (.cells (ar (Go.Sort.swp d a y)) true false 1) = x := ⟨_, rfl⟩
    rw [hs2]
    have fs2 : FrX p s s2 := by rw [← hs2]; exact FrX.put (by assumption) (.inl rfl) _
    have ns2 : s2.next = s.next := by rw [← hs2]; assumption
    have hA2 : Arr s2 p (Go.Sort.swp d a y) := by rw [← hs2]; exact arr_put _ _ _
    have hd2 : (Go.Sort.swp d a y).size = n := by rw [swp_size]; assumption
    refine Wl_of (Sift_run (lo := 0) (hi := k) (first := a) hA2 hd2 (by omega) (by omega) hn9) ?_
    rintro w s3 ⟨hA3, f3, hn3⟩
    simp -implicitDefEqProofs only [go_sem, Wk_block, Wk_drawnC, reduceCtorEq, Nat.reduceEqDiff, Nat.reduceAdd, Nat.reduceLeDiff, Nat.reduceLT, Nat.reduceMul, Nat.reduceSub, ↓reduceIte, Int.reduceLT, Int.reduceLE, Int.reduceNeg, Int.reduceAdd, Int.reduceEq, Nat.reduceBneDiff, Nat.reduceBEq, Int.reduceToNat, Int.reduceMul, Int.reduceSub, Int.reduceBEq, Int.reduceBNe, g10, wk, ft]
    exact IH k _ _ (by omega) ⟨_, by omega, by simp only [Tr.get_set, Nat.reduceEqDiff, ↓reduceIte, Int.cast_ofNat_Int], by simp only [Tr.get_set, Nat.reduceEqDiff, ↓reduceIte, Int.cast_ofNat_Int, g0], by simp only [Tr.get_set, Nat.reduceEqDiff, ↓reduceIte, Int.cast_ofNat_Int, g6], by simp only [Tr.get_set, Nat.reduceEqDiff, ↓reduceIte, Int.cast_ofNat_Int, g7], hA3, by rw [sift_size _ _ _ _ _ (Nat.le_refl _)]; exact hd2, he, fs2.trans f3, hn3.trans ns2⟩

theorem reverse_eq (i j : Nat) (d : Array Int) : Go.Sort.reverseLoop i j d = if i < j then Go.Sort.reverseLoop (i + 1) (j - 1) (Go.Sort.swp d i j) else d := by rw [Go.Sort.reverseLoop]
theorem Rev_run {d0 : Array Int} {n a b p : Nat} {s : St} (hp : Arr s p d0) (hn : d0.size = n) (hab : a < b) (hbn : b ≤ n) (hn9 : n < 1000000) :
    Wf mm 47 [.slice p 0 n n true, .int .i64 (a : Int), .int .i64 (b : Int)] s fun _ s' => Arr s' p (Go.Sort.reverseRange d0 a b) ∧ FrX p s s' ∧ s'.next = s.next := by
  refine Wf_enter ft47 (sm (by decide)) (by rfl) ?_
  have ft : (false == true) = false := rfl
  obtain ⟨h, rfl⟩ : ∃ h, b = h + 1 := ⟨b - 1, by omega⟩
  have wb := pred_in (j := h) (by omega)
  simp -implicitDefEqProofs only [go_sem, Wk_block, Wk_drawnC, reduceCtorEq, Nat.reduceEqDiff, Nat.reduceAdd, Nat.reduceLeDiff, Nat.reduceLT, Nat.reduceMul, Nat.reduceSub, ↓reduceIte, Int.reduceLT, Int.reduceLE, Int.reduceNeg, Int.reduceAdd, Int.reduceEq, Nat.reduceBneDiff, Nat.reduceBEq, Int.reduceToNat, Int.reduceMul, Int.reduceSub, Int.reduceBEq, Int.reduceBNe, fd47, wb, ft]
  refine loop_ind (fun m ts s' => ∃ (i j : Nat) (d : Array Int), m = j + 1 - i ∧ j ≤ h ∧ ts.get 6 = some (.int .i64 (i : Int)) ∧ ts.get 7 = some (.int .i64 (j : Int)) ∧ ts.get 0 = some (.slice p 0 n n true) ∧ Arr s' p d ∧ d.size = n ∧ Go.Sort.reverseLoop i j d = Go.Sort.reverseRange d0 a (h + 1) ∧ FrX p s s' ∧ s'.next = s.next) ?_ (n := h + 1 - a)
    ⟨a, h, d0, rfl, Nat.le_refl _, by simp only [Tr.get_set, Nat.reduceEqDiff, ↓reduceIte, Int.cast_ofNat_Int], by simp only [Tr.get_set, Nat.reduceEqDiff, ↓reduceIte, Int.cast_ofNat_Int], by simp only [Tr.get_set, Nat.reduceEqDiff, ↓reduceIte, Int.cast_ofNat_Int], hp, hn, rfl, FrX.refl _ _, rfl⟩
  rintro m ts s1 ⟨i, j, d, rfl, hj, g6, g7, g0, hA, hd, he, f1, hn1⟩ IH
  rw [reverse_eq] at he
  by_cases hij : i < j
  · have c1 : decide (i < j) = true := decide_eq_true hij
    rw [if_pos hij] at he
    obtain ⟨k, hk⟩ : ∃ k, j = k + 1 := ⟨j - 1, by omega⟩
    have wi := succ_in (j := i) (by omega)
    have wk := pred_of hk (by omega)
    rw [show j - 1 = k by omega] at he
    have a1q := ar_get (d := d) (i := i) (by omega)
    have a2q := ar_get (d := d) (i := j) (by omega)
    have u1q := ar_set (d := d) (i := i) (by omega) d[j]!
    have u2q := ar_swp (d := d) (i := i) (j := j) (by omega)
    have l1q : i + 1 ≤ (ar d).length := by rw [ar_len]; omega
    have l2q : j + 1 ≤ (ar (d.setIfInBounds i d[j]!)).length := by rw [ar_len, set_size]; omega
    have x1q := idxA (p := p) (n := n) (i := i) (by omega)
    have x2q := idxA (p := p) (n := n) (i := j) (by omega)
    simp -implicitDefEqProofs only [go_sem, Wk_block, Wk_drawnC, reduceCtorEq, Nat.reduceEqDiff, Nat.reduceAdd, Nat.reduceLeDiff, Nat.reduceLT, Nat.reduceMul, Nat.reduceSub, ↓reduceIte, Int.reduceLT, Int.reduceLE, Int.reduceNeg, Int.reduceAdd, Int.reduceEq, Nat.reduceBneDiff, Nat.reduceBEq, Int.reduceToNat, Int.reduceMul, Int.reduceSub, Int.reduceBEq, Int.reduceBNe, g6, g7, g0, c1, wi, wk, hA, a1q, a2q, u1q, u2q, l1q, l2q, x1q, x2q, uI_cells, uI_cell, ft]
    refine IH (k + 1 - (i + 1)) _ _ (by omega) ⟨i + 1, k, _, rfl, by omega, by simp only [Tr.get_set, Nat.reduceEqDiff, ↓reduceIte, Int.cast_ofNat_Int], by simp only [Tr.get_set, Nat.reduceEqDiff, ↓reduceIte, Int.cast_ofNat_Int], by simp only [Tr.get_set, Nat.reduceEqDiff, ↓reduceIte, Int.cast_ofNat_Int, g0], arr_put _ _ _, by rw [swp_size]; exact hd, he, f1.put (.inl rfl) _, hn1⟩
  · have c1 : decide (i < j) = false := decide_eq_false hij
    rw [if_neg hij] at he
    simp -implicitDefEqProofs only [go_sem, Wk_block, Wk_drawnC, reduceCtorEq, Nat.reduceEqDiff, Nat.reduceAdd, Nat.reduceLeDiff, Nat.reduceLT, Nat.reduceMul, Nat.reduceSub, ↓reduceIte, Int.reduceLT, Int.reduceLE, Int.reduceNeg, Int.reduceAdd, Int.reduceEq, Nat.reduceBneDiff, Nat.reduceBEq, Int.reduceToNat, Int.reduceMul, Int.reduceSub, Int.reduceBEq, Int.reduceBNe, g6, g7, c1, ft]
    rw [← he]
    exact ⟨hA, f1, hn1⟩

end Go.Proofs.Ytjejgnbdlfkenaa.Base
