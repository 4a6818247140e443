/- The abstract machine's operations in a region, calls and all. -/
import Derived.Test.YteffppdkofdmdaaDEng1
namespace Go.Proofs.Yteffppdkofdmdaa.D
variable {P : Program}

theorem prepBuiltin_call {b : Builtin} {ts : List TypeId} {xs : List X} {f : X} {args : List X} : prepBuiltin P b ts xs ≠ some (.call f args) := by
  intro h
  unfold prepBuiltin prepAppend prepCopy prepLen prepCap prepClear prepDelete at h
  repeat' split at h
  all_goals (cases h)

theorem prepOp_call {o : Oper} {f : X} {args : List X} (h : prepOp P o = some (.call f args)) :
    ∃ c y, o.op = .call c ∧ c.callee = .value y ∧ prepXs c.args.toList = some args ∧ prepX y = some f := by
  cases ho : o.op with
  | call c =>
    cases hc : c.callee with
    | value y =>
      simp only [prepOp, ho, hc] at h
      split at h
      · rename_i xs hxs
        simp only [Option.map_eq_some_iff] at h
        obtain ⟨g, hg, e⟩ := h
        cases e
        exact ⟨c, y, rfl, hc, hxs, hg⟩
      · cases h
    | builtin b =>
      simp only [prepOp, ho, hc] at h
      split at h
      · exact absurd h prepBuiltin_call
      · cases h
    | invoke a b => simp only [prepOp, ho, hc] at h; cases h
  | _ =>
    exfalso
    unfold prepOp at h
    rw [ho] at h
    (try dsimp only at h)
    repeat' split at h
    all_goals first
      | (cases h; done)
      | (simp only [Option.map_eq_some_iff] at h; obtain ⟨_, _, h⟩ := h; cases h; done)
      | (simp_all; done)

theorem prepOp_defer {o : Oper} {q : POp} (h : prepOp P o = some q) : ∀ c, o.op ≠ .defer c := by
  intro c e
  unfold prepOp at h
  rw [e] at h
  cases h

theorem run_callFunc {g : FuncId} {fn : Func} (hf : P.funcs[g]? = some fn) (hb : fn.body.isNone = false) (hn : (fn.name == "runtime.NumGoroutine") = false) (args : Array Value) (w : World) : (callFunc g args).run P w = .ok (.enter g args) w := by
  have hn' : ¬ fn.name = "runtime.NumGoroutine" := by simpa using hn
  have hb' : ¬ fn.body = none := by intro e; rw [e] at hb; cases hb
  simp [callFunc, hf, hb', hn']

theorem opVal_wpIn {e : Eng} (hE : EngOk P e) {o : Oper} {q : POp} (hq : (prepOp P o).getD .fail = q) {ev : Ev} {s s' : St} {v : AV} (hx : opVal e q ev s = some (v, s')) {R : Nat} (hR : s'.next ≤ R) {μ : Place} {w : World} (h : HR P R μ s w) {a : Act} (hρ : EvR μ ev a.eval)
    {ro : Option Nat} {F : Fence} (hF : FenceOk μ ro F) {K : Act → World → Prop} {Q : Exit → Act → World → Prop} (hK : ∀ ν c w', conc ν v = some c → HR P R ν s' w' → Mv μ s w ν s' w' → K (a.put o.dst c) w') (n : Nat) : o.wpIn F n P a w K Q := by
  refine ⟨fun f _ => hF.fn f, ?_⟩
  cases hp : prepOp P o with
  | none => rw [hp] at hq; cases hq; cases hx
  | some q' =>
    rw [hp] at hq; simp only [Option.getD_some] at hq; subst hq
    rw [Oper.semAt_eq _ _ _ (prepOp_defer hp)]
    by_cases hc : ∃ f args, q' = .call f args
    · obtain ⟨f, args, rfl⟩ := hc
      obtain ⟨c, y, ho, hcal, hargs, hy⟩ := prepOp_call hp
      simp only [opVal] at hx
      split at hx
      case h_1 => cases hx
      rename_i fv hfv
      split at hx
      case h_1 => cases hx
      rename_i l hl
      have c1 := hρ _ _ _ hy hfv
      have c2 := evs_conc hargs hρ hl
      unfold callV at hx
      split at hx
      · rename_i g first captured
        obtain ⟨xs, ys, _, hxs, hys, e1⟩ := conc_fn c1
        obtain ⟨⟨fn, f1, f2, f3⟩, hcall⟩ := hE.call hx hR h (concs_append (concs_append hxs c2) hys)
        have hrun : (execOp a.eval o).run P w = .ok (.enter g (xs ++ c.args.toList.map a.eval ++ ys).toArray) w := by
          simp only [execOp, ho, resolve, hcal, e1, Deferred.ofValue, Sem.run_bind, Sem.run_pure, Result.andThen_ok, invoke]
          rw [run_callFunc f1 f2 f3]
          simp
        rw [hrun, Oper.uponIn_enter]
        refine ⟨fun hd => (by rw [hF.depth] at hd; cases hd), (hF.calls (hcall (n - 1))).mono ?_⟩
        intro en w' hr
        cases en with
        | returned cv => obtain ⟨ν, h1, h2, h3⟩ := hr; exact hK ν cv w' h1 h2 h3
        | panicked _ => exact hr.elim
        | outgrown => exact hr.elim
      · rename_i r
        obtain ⟨p, hpr, e1⟩ := conc_yld c1
        obtain ⟨g, tmps, as, bd, hy', hround⟩ := roundA_sound hE hx hR h c2 hpr hF
        have hrun : (execOp a.eval o).run P w = .ok (.round p.1 g tmps as bd) w := by
          simp only [execOp, ho, resolve, hcal, e1, Deferred.ofValue, Sem.run_bind, Sem.run_pure, Result.andThen_ok, invoke]
          have : (#[] ++ c.args.map a.eval : Array Value) = (c.args.toList.map a.eval).toArray := by apply Array.ext'; simp
          rw [this, hy']
        rw [hrun, Oper.uponIn_round]
        refine ⟨fun hd => (by rw [hF.depth] at hd; cases hd), (hround (n - 1)).mono ?_⟩
        intro en w' hr
        cases en with
        | returned cv => obtain ⟨ν, h1, h2, h3⟩ := hr; exact hK ν cv w' h1 h2 h3
        | panicked _ => exact hr.elim
        | outgrown => exact hr.elim
      · cases hx
    · have hx' : xop q' ev s = some (v, s') := by
        unfold opVal at hx
        split at hx
        · exact absurd ⟨_, _, rfl⟩ hc
        · exact hx
      obtain ⟨ν, c, w', hg, h1, h2, h3⟩ := xop_sound hp h hρ hx' hR
      rcases hg with hg | ⟨hg, rfl⟩
      · rw [hg, Oper.uponIn_value]; exact hK ν c w' h1 h2 h3
      · rw [hg, Oper.uponIn_skip]; exact hK ν _ w' h1 h2 h3

/-- Whether an operation is carried out. -/
theorem wanted_of {o : Oper} {ops : List Oper} {p : PO} (hp : prepPO P ops o = some p) {ts : Tr AV} {b : Bool} (hb : wantedA p.guard ts = some b) {μ : Place} {tmps : Array Value}
    (hg : ∀ t k, p.guard = some (t, k) → ∀ v, ts.get t = some v → ∃ c, tmps[t]? = some c ∧ conc μ v = some c) : Region.wanted o (yielded ops.toArray tmps) = b := by
  unfold prepPO at hp
  unfold Region.wanted
  cases hgd : o.guard with
  | none =>
    rw [hgd] at hp
    simp only [Option.some.injEq] at hp
    subst hp
    simp only [wantedA, Option.some.injEq] at hb
    exact hb
  | some jw =>
    obtain ⟨j, want⟩ := jw
    rw [hgd] at hp
    simp only [] at hp
    split at hp
    case h_2 => cases hp
    rename_i t ht
    cases hp
    simp only [wantedA] at hb
    have hy : ∀ c, tmps[t]? = some c → yielded ops.toArray tmps j = (match c with | .bool b => some b | _ => none) := by
      intro c hc
      unfold yielded
      rw [List.getElem?_toArray, ht]
      simp only [Option.bind_some, hc]
      cases c <;> rfl
    show (yielded ops.toArray tmps j == some want) = b
    split at hb
    · rename_i x hx
      obtain ⟨c, h1, h2⟩ := hg t want rfl _ hx
      simp only [conc, Option.some.injEq] at h2
      subst h2
      rw [hy _ h1]
      simp only [Option.some.injEq] at hb
      rw [← hb]
      simp
    · rename_i hx
      obtain ⟨c, h1, h2⟩ := hg t want rfl _ hx
      simp only [conc, concs, Option.map_some, Option.some.injEq] at h2
      subst h2
      rw [hy _ h1]
      simpa using hb
    · cases hb
end Go.Proofs.Yteffppdkofdmdaa.D
