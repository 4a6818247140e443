/- What a region whose order is open rests on: sameness, the run's trace, what comes before what, and blocks that are laid early. -/
import Derived.Test.YteffppdkofdmdaaDEng3
namespace Go.Proofs.Yteffppdkofdmdaa.D
variable {P : Program}

mutual
theorem same_eq : ∀ {a b : AV}, same a b = true → a = b
  | .bool a, b, h => by cases b <;> simp [same] at h; subst h; rfl
  | .int k a, b, h => by cases b <;> simp [same] at h; obtain ⟨rfl, rfl⟩ := h; rfl
  | .str a, b, h => by
    cases b <;> simp [same] at h
    congr 1
    cases a; cases ‹ByteArray›
    simp only at h
    congr 1
  | .ptr a b, c, h => by cases c <;> simp [same] at h; obtain ⟨rfl, rfl⟩ := h; rfl
  | .nilPtr, b, h => by cases b <;> simp [same] at h; rfl
  | .slice .., b, h => by cases b <;> simp [same] at h; obtain ⟨⟨⟨⟨rfl, rfl⟩, rfl⟩, rfl⟩, rfl⟩ := h; rfl
  | .nilSlice, b, h => by cases b <;> simp [same] at h; rfl
  | .tail .., b, h => by cases b <;> simp [same] at h; obtain ⟨⟨rfl, rfl⟩, rfl⟩ := h; rfl
  | .map a, b, h => by cases b <;> simp [same] at h; subst h; rfl
  | .nilMap, b, h => by cases b <;> simp [same] at h; rfl
  | .nilFn, b, h => by cases b <;> simp [same] at h; rfl
  | .nilIface, b, h => by cases b <;> simp [same] at h; rfl
  | .iface t v, b, h => by
    cases b <;> simp [same] at h
    obtain ⟨rfl, h⟩ := h
    rw [same_eq h]
  | .agg l, b, h => by
    cases b <;> simp [same] at h
    rw [sames_eq h]
  | .tup l, b, h => by
    cases b <;> simp [same] at h
    rw [sames_eq h]
  | .fn .., b, h => by cases b <;> simp [same] at h
  | .yld .., b, h => by cases b <;> simp [same] at h
theorem sames_eq : ∀ {l m : List AV}, sames l m = true → l = m
  | [], m, h => by cases m <;> simp [sames] at h; rfl
  | x :: l, m, h => by
    cases m with
    | nil => simp [sames] at h
    | cons y m =>
      simp only [sames, Bool.and_eq_true] at h
      rw [same_eq h.1, sames_eq h.2]
end

theorem all_zipIdx {α : Type} {l : List α} {f : α × Nat → Bool} : l.zipIdx.all f = true ↔ ∀ i p, l[i]? = some p → f (p, i) = true := by
  rw [List.all_eq_true]
  constructor
  · intro h i p hp
    exact h (p, i) (List.mem_zipIdx_iff_getElem?.2 hp)
  · intro h x hx
    exact h x.2 x.1 (List.mem_zipIdx_iff_getElem?.1 hx)

theorem getD_app {l m : List Nat} {k : Nat} (h : k < l.length) : (l ++ m).getD k 0 = l.getD k 0 := by
  rw [List.getD_eq_getElem?_getD, List.getD_eq_getElem?_getD, List.getElem?_append_left h]
theorem getD_out {l : List Nat} {k : Nat} (h : l.length ≤ k) : l.getD k 0 = 0 := by
  rw [List.getD_eq_getElem?_getD, List.getElem?_eq_none h]; rfl

theorem snoc_rec {α : Type} {p : List α → Prop} (h0 : p []) (h1 : ∀ l x, p l → p (l ++ [x])) (l : List α) : p l := by
  have : ∀ m : List α, p m.reverse := by
    intro m
    induction m with
    | nil => exact h0
    | cons x m ih => rw [List.reverse_cons]; exact h1 _ _ ih
  have := this l.reverse
  rwa [List.reverse_reverse] at this

/-! ### What comes before what -/

def beforeOne (acc : List Nat) (o : Oper) : Nat := o.after.toList.foldl (fun s e => if Region.binds .any e then s ||| 2 ^ e.on ||| acc.getD e.on 0 else s) 0

theorem befores_snoc (l : List Oper) (o : Oper) : befores (l ++ [o]) = befores l ++ [beforeOne (befores l) o] := by
  simp [befores, beforeOne]

theorem befores_length (l : List Oper) : (befores l).length = l.length := by
  induction l using snoc_rec with
  | h0 => rfl
  | h1 l o ih => rw [befores_snoc]; simp [ih]

theorem beforeOne_bit {acc : List Nat} {j : Nat} : ∀ (es : List Edge) (s : Nat), (es.foldl (fun s e => if Region.binds .any e then s ||| 2 ^ e.on ||| acc.getD e.on 0 else s) s).testBit j = true →
    s.testBit j = true ∨ ∃ e ∈ es, Region.binds .any e = true ∧ (j = e.on ∨ (acc.getD e.on 0).testBit j = true)
  | [], s, h => .inl h
  | e :: es, s, h => by
    rw [List.foldl_cons] at h
    rcases beforeOne_bit es _ h with h1 | ⟨e', he, h1⟩
    · by_cases hb : Region.binds .any e = true
      · rw [if_pos hb] at h1
        simp only [Nat.testBit_or, Bool.or_eq_true, Nat.testBit_two_pow, decide_eq_true_eq] at h1
        rcases h1 with (h1 | h1) | h1
        · exact .inl h1
        · exact .inr ⟨e, by simp, hb, .inl h1.symm⟩
        · exact .inr ⟨e, by simp, hb, .inr h1⟩
      · rw [if_neg hb] at h1; exact .inl h1
    · exact .inr ⟨e', by simp [he], h1⟩

theorem ahead_step {j : Nat} : ∀ (ops : List Oper) (i : Nat), ahead (befores ops) j i = true → ∃ o e, ops[i]? = some o ∧ e ∈ o.after.toList ∧ Region.binds .any e = true ∧ (j = e.on ∨ ahead (befores ops) j e.on = true) := by
  intro ops
  induction ops using snoc_rec with
  | h0 => intro i h; simp [ahead, befores] at h
  | h1 l o ih =>
    intro i h
    have hlen := befores_length l
    have up : ∀ k, ahead (befores l) j k = true → ahead (befores (l ++ [o])) j k = true := by
      intro k hk
      unfold ahead at hk ⊢
      rw [befores_snoc]
      by_cases hkl : k < (befores l).length
      · rw [getD_app hkl]; exact hk
      · rw [getD_out (by omega)] at hk; simp at hk
    by_cases hi : i < l.length
    · have h' : ahead (befores l) j i = true := by
        unfold ahead at h ⊢
        rw [befores_snoc, getD_app (by omega)] at h
        exact h
      obtain ⟨o', e, h1, h2, h3, h4⟩ := ih i h'
      exact ⟨o', e, by rw [List.getElem?_append_left hi]; exact h1, h2, h3, h4.imp id (up _)⟩
    · by_cases hi' : i = l.length
      · subst hi'
        unfold ahead at h
        rw [befores_snoc] at h
        have : (befores l ++ [beforeOne (befores l) o]).getD l.length 0 = beforeOne (befores l) o := by
          rw [← hlen]; simp
        rw [this] at h
        rcases beforeOne_bit _ _ h with h1 | ⟨e, he, hb, h1⟩
        · simp at h1
        · exact ⟨o, e, by simp, he, hb, h1.imp id (up _)⟩
      · exfalso
        unfold ahead at h
        rw [befores_snoc, getD_out (by simp; omega)] at h
        simp at h

theorem edgesOk_lt {ops : List Oper} (h : edgesOk ops = true) {i : Nat} {o : Oper} (ho : ops[i]? = some o) {e : Edge} (he : e ∈ o.after.toList) (hb : Region.binds .any e = true) : e.on < i := by
  have := all_zipIdx.1 h i o ho
  simp only [List.all_eq_true] at this
  have := this e he
  simp only [hb, Bool.not_true, Bool.false_or, Nat.blt_eq] at this
  exact this

theorem ahead_lt {ops : List Oper} (h : edgesOk ops = true) {j : Nat} : ∀ (i : Nat), ahead (befores ops) j i = true → j < i := by
  intro i
  induction i using Nat.strongRecOn with
  | _ i ih =>
    intro ha
    obtain ⟨o, e, h1, h2, h3, h4⟩ := ahead_step ops i ha
    have hlt := edgesOk_lt h h1 h2 h3
    rcases h4 with rfl | h4
    · exact hlt
    · exact Nat.lt_trans (ih _ hlt h4) hlt

/-- What is ahead of something in a set that is closed lies in it. -/
theorem ahead_closed {ops : List Oper} (h : edgesOk ops = true) {S : Nat → Prop} (hS : ∀ i o, S i → ops[i]? = some o → ∀ e ∈ o.after.toList, Region.binds .any e = true → S e.on) {j : Nat} :
    ∀ (i : Nat) (o : Oper), ops[i]? = some o → (∀ e ∈ o.after.toList, Region.binds .any e = true → S e.on) → ahead (befores ops) j i = true → S j := by
  intro i
  induction i using Nat.strongRecOn with
  | _ i ih =>
    intro o ho hi ha
    obtain ⟨o', e, h1, h2, h3, h4⟩ := ahead_step ops i ha
    rw [ho] at h1; cases h1
    have hlt := edgesOk_lt h ho h2 h3
    have hs := hi e h2 h3
    rcases h4 with rfl | h4
    · exact hs
    · obtain ⟨o2, _, g1, _⟩ := ahead_step ops e.on h4
      exact ih _ hlt o2 g1 (fun e' he' hb => hS _ _ hs g1 e' he' hb) h4

/-! ### The trace of a run -/

theorem trace {e : Eng} : ∀ (l : List PO) (ts ts' : Tr AV) (s s' : St) (acc snaps : List St), runSnaps e l ts s acc = some (ts', s', snaps) →
    ∃ (TS : Nat → Tr AV) (SS : Nat → St), TS 0 = ts ∧ SS 0 = s ∧ TS l.length = ts' ∧ SS l.length = s' ∧ (∀ i p, l[i]? = some p → opStep e p (TS i) (SS i) = some (TS (i + 1), SS (i + 1))) ∧
      ∀ i, i ≤ l.length → snaps.reverse[acc.length + i]? = some (SS i)
  | [], ts, ts', s, s', acc, snaps, h => by
    simp only [runSnaps, Option.some.injEq, Prod.mk.injEq] at h
    obtain ⟨rfl, rfl, rfl⟩ := h
    refine ⟨fun _ => ts, fun _ => s, rfl, rfl, rfl, rfl, by intro i p hp; simp at hp, ?_⟩
    intro i hi
    have : i = 0 := by simpa using hi
    subst this
    simp
  | p :: l, ts, ts', s, s', acc, snaps, h => by
    simp only [runSnaps] at h
    split at h
    case h_1 => cases h
    rename_i ts1 s1 h1
    obtain ⟨TS, SS, e1, e2, e3, e4, e5, e6⟩ := trace l _ _ _ _ _ _ h
    refine ⟨fun i => match i with | 0 => ts | i + 1 => TS i, fun i => match i with | 0 => s | i + 1 => SS i, rfl, rfl, e3, e4, ?_, ?_⟩
    · intro i q hq
      cases i with
      | zero =>
        simp only [List.getElem?_cons_zero, Option.some.injEq] at hq
        subst hq
        simp only [e1, e2, h1]
      | succ i =>
        rw [List.getElem?_cons_succ] at hq
        exact e5 i q hq
    · intro i hi
      cases i with
      | zero =>
        have hpre : ∀ (l : List PO) (ts ts' : Tr AV) (s s' : St) (acc snaps : List St), runSnaps e l ts s acc = some (ts', s', snaps) → ∃ r, snaps = r ++ acc := by
          intro l
          induction l with
          | nil => intro ts ts' s s' acc snaps h; cases h; exact ⟨[s], rfl⟩
          | cons p l ih =>
            intro ts ts' s s' acc snaps h
            simp only [runSnaps] at h
            split at h
            · cases h
            · obtain ⟨r, hr⟩ := ih _ _ _ _ _ _ h
              exact ⟨r ++ [s], by rw [hr]; simp⟩
        obtain ⟨r, hr⟩ := hpre _ _ _ _ _ _ _ h
        rw [hr]
        simp
      | succ i =>
        have := e6 i (by simpa using hi)
        rw [← this]
        congr 1
        simp
        omega

theorem opStep_spec {e : Eng} {p : PO} {ts ts' : Tr AV} {s s' : St} (h : opStep e p ts s = some (ts', s')) :
    ∃ v, ts' = putT p.dst v ts ∧ ((wantedA p.guard ts = some false ∧ v = undefA ∧ s' = s) ∨ (wantedA p.guard ts = some true ∧ opVal e p.op (evOf ts) s = some (v, s'))) := by
  unfold opStep at h
  split at h
  case h_1 => cases h
  · rename_i hw
    cases h
    exact ⟨undefA, rfl, .inl ⟨hw, rfl, rfl⟩⟩
  · rename_i hw
    split at h
    case h_1 => cases h
    rename_i v s2 hv
    cases h
    exact ⟨v, rfl, .inr ⟨hw, hv⟩⟩

theorem opVal_xop {e : Eng} {p : POp} (hc : p.cls ≠ 2) (ev : Ev) (s : St) : opVal e p ev s = xop p ev s := by
  unfold opVal
  split
  · exact absurd rfl hc
  · rfl

/-! ### A block that is laid early -/

theorem cls3 {p : POp} (h : p.cls = 3) : (∃ z, p = .alloc z) ∨ (∃ x, p = .box x) ∨ ∃ z n l k, p = .buildSlice z n l k := by
  cases p <;> first
    | exact .inl ⟨_, rfl⟩
    | exact .inr (.inl ⟨_, rfl⟩)
    | exact .inr (.inr ⟨_, _, _, _, rfl⟩)
    | (exact absurd h (by simp [POp.cls]))

theorem prepBuiltin_cls {b : Builtin} {ts : List TypeId} {xs : List X} {p : POp} (hp : prepBuiltin P b ts xs = some p) (h3 : p.cls = 3) : False := by
  unfold prepBuiltin prepAppend prepCopy prepLen prepCap prepClear prepDelete at hp
  rcases cls3 h3 with ⟨z, rfl⟩ | ⟨x, rfl⟩ | ⟨z, n, l, k, rfl⟩ <;> (repeat' split at hp) <;> cases hp

theorem late_run {o : Oper} {p : POp} (hp : prepOp P o = some p) (h3 : p.cls = 3) {ev : Ev} {s s' : St} {v : AV} (hx : xop p ev s = some (v, s')) :
    ∃ (vs : List AV) (f : Nat → AV), v = f s.next ∧ s' = s.new (.cells vs false false 0) ∧ ∀ {μ : Place} {ρ : Operand → Value} {w : World}, EvR μ ev ρ →
      ∃ (c : Array Value) (elem : TypeId) (fz : Nat × Nat) (cv : Value), (execOp ρ o).run P w = .ok (.value cv) { w with heap := w.heap.push (.cells c elem fz), drawn := w.drawn } ∧ concs μ vs = some c.toList ∧
        (∀ i, i < c.size → ¬ (fz.1 ≤ i ∧ i < fz.2)) ∧ ∀ (ν : Place) b, ν b = some (w.heap.size, 0) → conc ν (f b) = some cv := by
  cases ho : o.op with
  | alloc e =>
    simp only [prepOp, ho, Option.map_eq_some_iff] at hp
    obtain ⟨z, hz, rfl⟩ := hp
    obtain ⟨zv, hzr, hzc⟩ := zeroB_some hz
    simp only [xop, newA, Option.some.injEq, Prod.mk.injEq] at hx
    obtain ⟨rfl, rfl⟩ := hx
    refine ⟨z, fun b => .ptr b 0, rfl, rfl, ?_⟩
    intro μ ρ w _
    refine ⟨zv.cells, e, (0, 0), .pointer (some ⟨w.heap.size, 0, none⟩), ?_, hzc μ, by intro i _; simp, fun ν b hb => by simp [conc, hb]⟩
    simp [execOp, ho, Instr.alloc, hzr, newVar, newRow]
  | box e x =>
    simp only [prepOp, ho, Option.map_eq_some_iff] at hp
    obtain ⟨a, ha, rfl⟩ := hp
    simp only [xop] at hx
    split at hx
    · rename_i u hu
      simp only [newA, Option.some.injEq, Prod.mk.injEq] at hx
      obtain ⟨rfl, rfl⟩ := hx
      refine ⟨u.cells, fun b => .ptr b 0, rfl, rfl, ?_⟩
      intro μ ρ w hρ
      have hc := hρ _ _ _ ha hu
      refine ⟨(ρ x).cells, e, (0, 0), .pointer (some ⟨w.heap.size, 0, none⟩), ?_, conc_cells hc, by intro i _; simp, fun ν b hb => by simp [conc, hb]⟩
      simp [execOp, ho, Instr.box, newVar, newRow]
    · cases hx
  | buildSlice t n parts =>
    simp only [prepOp, ho] at hp
    split at hp
    case h_2 => cases hp
    rename_i e hu
    split at hp
    case h_2 => cases hp
    rename_i sz z hsz hz
    split at hp
    case isFalse => cases hp
    rename_i hcond
    simp only [Bool.and_eq_true, beq_iff_eq, decide_eq_true_eq] at hcond
    obtain ⟨hszl, hle⟩ := hcond
    simp only [Option.map_eq_some_iff] at hp
    obtain ⟨pp, hpp, rfl⟩ := hp
    simp only [xop] at hx
    split at hx
    case h_2 => cases hx
    rename_i l hl
    simp only [newA, Option.some.injEq, Prod.mk.injEq] at hx
    obtain ⟨rfl, rfl⟩ := hx
    obtain ⟨zv, hzr, hzc⟩ := zeroB_some hz
    refine ⟨l, fun b => .slice b 0 n n false, rfl, rfl, ?_⟩
    intro μ ρ w hρ
    have hzl := concs_length (hzc μ)
    simp at hzl
    have hzs := concs_rep (hzc μ) n
    obtain ⟨cs, h1, h2⟩ := run_fill hpp hρ (zs := (List.replicate n zv.cells.toList).flatten.toArray) (by rw [hzs]) hl
    refine ⟨cs, e, (0, 0), .slice (some ⟨w.heap.size, 0, none⟩) n n, ?_, h2, by intro i _; simp, fun ν b hb => by simp [conc, hb]⟩
    have hge : ¬ (n * sz > 2 ^ 24) := by omega
    have hzv : zv.cells.size = sz := by omega
    have hr := range_mod_flatten zv.cells n
    rw [hzv] at hr
    simp only [execOp, ho, Instr.buildSlice, Sem.run_bind, run_und hu, Result.andThen_ok, run_size hsz, if_neg hge, Sem.run_pure]
    by_cases h0 : n * sz = 0
    · have hrep : (List.replicate n zv.cells.toList).flatten.toArray = #[] := by
        rw [← hr, h0]; simp
      rw [hrep] at h1
      have hz0 : Array.range 0 = #[] := by simp
      simp only [h0, if_true, Sem.run_pure, Result.andThen_ok, hz0, List.map_toArray, List.map_nil, Sem.run_bind]
      simp [h1, newRow]
    · simp only [if_neg h0, Sem.run_bind, hzr, Result.andThen_ok, Sem.run_pure, hzv, hr]
      simp [h1, newRow]
  | call c =>
    exfalso
    cases hc : c.callee with
    | value y =>
      simp only [prepOp, ho, hc] at hp
      split at hp
      · simp only [Option.map_eq_some_iff] at hp
        obtain ⟨x, _, rfl⟩ := hp
        cases h3
      · cases hp
    | builtin b =>
      simp only [prepOp, ho, hc] at hp
      split at hp
      · exact prepBuiltin_cls hp h3
      · cases hp
    | invoke a b => simp only [prepOp, ho, hc] at hp; cases hp
  | _ =>
    exfalso
    rcases cls3 h3 with ⟨z, rfl⟩ | ⟨x, rfl⟩ | ⟨z, n, l, k, rfl⟩
    all_goals
      unfold prepOp at hp
      rw [ho] at hp
      (try dsimp only at hp)
      repeat' split at hp
      all_goals first
        | (cases hp; done)
        | (simp only [Option.map_eq_some_iff] at hp; obtain ⟨_, _, hp⟩ := hp; cases hp; done)
        | (simp_all; done)
end Go.Proofs.Yteffppdkofdmdaa.D
