/- The abstract machine's functions are the model's.
From the abstract machine to a law.
A call that asks nothing of memory, once run, is known. Plain laws; no program.
The abstract machine without a measure: what it answers with enough at hand; and that it answers step by step. Plain laws; no program.
What a run of the abstract machine comes to, step by step: rules for runs with unknown values. Plain laws; no program.
The rules by which a run with unknown values is carried out, as one set.
The memory that a law finds, as the abstract machine's; and what its arguments hold, by their types. Plain laws; no program.
A law's row, of a run of the abstract machine over what the law finds. Plain laws; no program.
Slices that came in: what is read of them. Plain laws; no program.
Loops over functions: rules for runs with unknown values. Plain laws; no program.
Numbers brought back into their kind, with less work for the kernel. Plain laws. -/
import Derived.Test.YtobogmklajeekaaGreatZc
import Derived.WalkKit
import Derived.ProofKit
import Derived.OpenShut
import Derived.ShutString
import Derived.Attr
import GoSem.ClaimChange
import Derived.Carry
import GoSem.Core.View
namespace Go.Proofs.YtobogmklajeekaaGreat.D
variable {P : Program}

theorem prepF_spec {fn : Func} {fd : FD} (h : prepF P fn = some fd) : ∃ c, fn.body = some c ∧ prepC P c = some fd.body ∧ prepRess P fn.results.toList = some fd.results ∧ (fn.name == "runtime.NumGoroutine") = false ∧
    okPC fn.ntmps fd.body = true ∧ fd.ntmps = fn.ntmps := by
  unfold prepF at h
  split at h
  case h_1 => cases h
  rename_i c hc
  split at h
  case h_1 => cases h
  rename_i b hb
  split at h
  case h_1 => cases h
  rename_i r hr
  split at h
  case isTrue => cases h
  rename_i hcond
  cases h
  simp only [Bool.or_eq_true, not_or, Bool.not_eq_true, Bool.not_eq_eq_eq_not, Bool.not_true] at hcond
  obtain ⟨h1, h2⟩ := hcond
  exact ⟨c, hc, hb, hr, h1, by simpa using h2, rfl⟩

theorem initT_get : ∀ (l : List AV) (i : Nat) (ts : Tr AV) (t : Nat), (initT i l ts).get t = if i ≤ t ∧ t < i + l.length then l[t - i]? else ts.get t
  | [], i, ts, t => by simp only [initT, List.length_nil, Nat.add_zero]; rw [if_neg (by omega)]
  | v :: l, i, ts, t => by
    simp only [initT]
    rw [initT_get l (i + 1)]
    simp only [List.length_cons]
    by_cases h1 : i + 1 ≤ t ∧ t < i + 1 + l.length
    · rw [if_pos h1, if_pos (by omega), show t - i = (t - (i + 1)) + 1 by omega, List.getElem?_cons_succ]
    · rw [if_neg h1, Tr.get_set]
      by_cases h2 : t = i
      · subst h2
        rw [if_pos rfl, if_pos (by omega)]; simp
      · rw [if_neg h2, if_neg (by omega)]

theorem TR.init {μ : Place} {args : List AV} {cs : List Value} (h : concs μ args = some cs) (n : Nat) : TR μ (initT 0 args .lf) (cs.toArray ++ Array.replicate n undef) := by
  intro t v hv
  rw [initT_get] at hv
  have hl := concs_length h
  by_cases h1 : 0 ≤ t ∧ t < 0 + args.length
  · rw [if_pos h1, Nat.sub_zero] at hv
    obtain ⟨x, hx, hc⟩ := concs_get h t v hv
    refine ⟨x, ?_, hc⟩
    rw [Array.getElem?_append_left (by simp; omega)]
    simpa using hx
  · rw [if_neg h1] at hv
    rw [Tr.get_lf] at hv; cases hv

def resOne (tmps : Array Value) : ResultVar → Sem Value
  | .tmp t => pure (tmps.getD t undef)
  | .cell a t => do loadVar t (← asAddr (tmps.getD a undef))

theorem run_res {R : Nat} {μ : Place} {s : St} {w : World} (h : HR P R μ s w) {ts : Tr AV} {tmps : Array Value} (ht : TR μ ts tmps) : ∀ {rs : List ResultVar} {ps : List PRes} {l : List AV}, prepRess P rs = some ps → ressA ts s ps = some l →
    ∃ cs, (rs.mapM (resOne tmps)).run P w = .ok cs w ∧ concs μ l = some cs
  | [], ps, l, hp, hl => by
    cases hp; cases hl
    exact ⟨[], by simp, rfl⟩
  | r :: rs, ps, l, hp, hl => by
    simp only [prepRess] at hp
    split at hp
    case h_2 => cases hp
    rename_i x hx
    split at hp
    case h_2 => cases hp
    rename_i y hy
    cases hp
    simp only [ressA] at hl
    split at hl
    case h_1 => cases hl
    rename_i v hv
    split at hl
    case h_1 => cases hl
    rename_i vs hvs
    cases hl
    obtain ⟨cs, h1, h2⟩ := run_res h ht hy hvs
    have one : ∃ c, (resOne tmps r).run P w = .ok c w ∧ conc μ v = some c := by
      cases r with
      | tmp t =>
        simp only [prepRes, Option.some.injEq] at hx
        subst hx
        obtain ⟨c, g1, g2⟩ := ht t v hv
        refine ⟨c, ?_, g2⟩
        simp [resOne, g1]
      | cell a t =>
        simp only [prepRes] at hx
        split at hx
        case h_3 => cases hx
        · rename_i n hag hsz
          cases hx
          simp only [resA] at hv
          split at hv
          case h_2 => cases hv
          rename_i b o htb
          split at hv
          case h_2 => cases hv
          rename_i l' hl'
          cases hv
          obtain ⟨c, g1, g2⟩ := ht a _ htb
          obtain ⟨p, hp, rfl⟩ := isSome_of_conc_ptr g2
          obtain ⟨xs, k1, k2, k3⟩ := run_loadA (P := P) h hl' hp
          refine ⟨.agg xs.toArray, ?_, by simp [conc, k1]⟩
          have hg : tmps.getD a undef = .pointer (some ⟨p.1, o, none⟩) := by simp [g1]
          simp [resOne, hg, asAddr, loadVar, run_isAgg hag, run_size hsz, k3]
        · rename_i hag
          cases hx
          simp only [resA] at hv
          split at hv
          case h_2 => cases hv
          rename_i b o htb
          split at hv
          case h_2 => cases hv
          rename_i vs' _ _ _ hg
          obtain ⟨c, g1, g2⟩ := ht a _ htb
          obtain ⟨p, hp, rfl⟩ := isSome_of_conc_ptr g2
          obtain ⟨x, k1, k2⟩ := h.cell hg hp hv
          refine ⟨x, ?_, k2⟩
          have hg : tmps.getD a undef = .pointer (some ⟨p.1, o, none⟩) := by simp [g1]
          simp [resOne, hg, asAddr, loadVar, run_isAgg hag, run_load, k1]
    obtain ⟨c, g1, g2⟩ := one
    refine ⟨c :: cs, ?_, by simp [concs, g2, h2]⟩
    rw [List.mapM_cons, Sem.run_bind, g1, Result.andThen_ok, Sem.run_bind, h1, Result.andThen_ok, Sem.run_pure]

theorem run_results {R : Nat} {μ : Place} {s : St} {w : World} (h : HR P R μ s w) {fn : Func} {ts : Tr AV} {tmps : Array Value} (ht : TR μ ts tmps) {ps : List PRes} {l : List AV} (hp : prepRess P fn.results.toList = some ps) (hl : ressA ts s ps = some l) :
    ∃ c, (results fn tmps).run P w = .ok c w ∧ conc μ (oneA l) = some c := by
  obtain ⟨cs, h1, h2⟩ := run_res h ht hp hl
  have hlen := concs_length h2
  have er : results fn tmps = (do let vs ← fn.results.mapM (resOne tmps); pure (if h : vs.size = 1 then vs[0] else .tuple vs)) := by
    unfold results
    rfl
  rw [er, Array.mapM_eq_mapM_toList, Sem.run_bind, Sem.run_map]
  rw [h1]
  refine ⟨if h : cs.toArray.size = 1 then cs.toArray[0] else .tuple cs.toArray, rfl, ?_⟩
  match l, cs, h2, hlen with
  | [], [], _, _ => simp [oneA, conc, concs]
  | [v], [c], h2, _ =>
    simp only [concs, Option.bind_eq_some_iff, Option.map_eq_some_iff, Option.some.injEq] at h2
    obtain ⟨x, hx, y, rfl, e⟩ := h2
    cases e
    simpa [oneA] using hx
  | v :: u :: l, c :: d :: cs, h2, _ =>
    simp [oneA, conc, h2]
  | [], _ :: _, _, h => simp at h
  | [_], [], _, h => simp at h
  | [_], _ :: _ :: _, _, h => simp at h
  | _ :: _ :: _, [], _, h => simp at h
  | _ :: _ :: _, [_], _, h => simp at h

theorem leaves_sound {fn : Func} {tmps : Array Value} {n : Nat} {Rp : Ending → World → Prop} {R : Nat} : ∀ {ds : List Nat} {defers : List Deferred} {s s' : St} {w : World} {μ : Place}, takeAll ds s = some s' → s.next ≤ R → HR P R μ s w → DR μ ds defers →
    (∀ w', HR P R μ s' w' → Mv μ s w μ s' w' → ∃ v, (results fn tmps).run P w' = .ok v w' ∧ Rp (.returned v) w') → LeavesInM Fence.wide n P fn tmps Rp defers .returning w
  | [], [], s, s', w, μ, hx, hR, h, _, hf => by
    cases hx
    exact hf w h (Mv.refl h hR)
  | [], _ :: _, _, _, _, _, _, _, _, hd, _ => hd.elim
  | _ :: _, [], _, _, _, _, _, _, _, hd, _ => hd.elim
  | d :: ds, x :: xs, s, s', w, μ, hx, hR, h, hd, hf => by
    simp only [takeAll] at hx
    split at hx
    case h_2 => cases hx
    rename_i hg
    obtain ⟨⟨p, hp, rfl⟩, hd'⟩ := hd
    obtain ⟨p', hp', ho⟩ := h.obj _ _ hg
    rw [hp] at hp'; cases hp'
    have hob : w.heap[p.1]? = some (.deferred (some [])) := ho
    obtain ⟨g1, g2⟩ := h.shut (w' := w.putObj p.1 (.deferred none)) hR hg hp (by simp) rfl rfl ⟨rfl, fun _ => Nat.le_refl _⟩ (by simp) (fun k hk => World.putObj_heap_other hk)
    refine ⟨by simp, .inl ⟨p.1, _, rfl, run_takeDeferred hob, leaves_sound hx hR g1 hd' ?_⟩⟩
    intro w' k1 k2
    exact hf w' k1 (g2.trans k2)

/-- What is known of functions by their contracts holds. -/
def SumsOk (P : Program) (SM : Sums) : Prop := ∀ f g, SM f = some g → ∀ {args s v s' R μ w cargs}, g args s = some (v, s') → s'.next ≤ R → HR P R μ s w → concs μ args = some cargs →
    (∃ fn, P.funcs[f]? = some fn ∧ fn.body.isNone = false ∧ (fn.name == "runtime.NumGoroutine") = false) ∧ ∀ n, CallsIn Fence.wide n P f cargs.toArray w (Rets P R μ s w v s')

def FnsOk (P : Program) (FT : Fns) : Prop := ∀ f fd, FT f = some fd → ∃ fn, P.funcs[f]? = some fn ∧ prepF P fn = some fd

theorem callStep_sound {FT : Fns} {SM : Sums} (hFT : FnsOk P FT) (hSM : SumsOk P SM) {e : Eng} (hE : EngOk P e) {f : Nat} {args : List AV} {s s' : St} {v : AV} (hx : callStep FT SM e f args s = some (v, s')) {R : Nat} (hR : s'.next ≤ R) {μ : Place} {w : World} (h : HR P R μ s w)
    {cargs : List Value} (hc : concs μ args = some cargs) :
    (∃ fn, P.funcs[f]? = some fn ∧ fn.body.isNone = false ∧ (fn.name == "runtime.NumGoroutine") = false) ∧ ∀ n, CallsIn Fence.wide n P f cargs.toArray w (Rets P R μ s w v s') := by
  unfold callStep at hx
  split at hx
  · exact hSM _ _ (by assumption) hx hR h hc
  · split at hx
    case h_1 => cases hx
    rename_i fd hfd
    obtain ⟨fn, hf, hp⟩ := hFT _ _ hfd
    obtain ⟨c, hb, hpc, hpr, hname, hok, hnp⟩ := prepF_spec hp
    split at hx
    case isFalse => cases hx
    rename_i hlen
    refine ⟨⟨fn, hf, by rw [hb]; rfl, hname⟩, fun n => ?_⟩
    unfold finish at hx
    split at hx
    case h_1 => cases hx
    case h_3 => cases hx
    rename_i x ts ds s1 hne hrun
    split at hx
    case h_1 => cases hx
    rename_i s2 htk
    split at hx
    case h_1 => cases hx
    rename_i l hl
    cases hx
    have hn := takeAll_next htk
    have hcl := concs_length hc
    have hle := Nat.le_of_ble_eq_true hlen
    have hsz : (cargs.toArray ++ Array.replicate (fn.ntmps - cargs.toArray.size) undef).size = fn.ntmps := by
      simp; omega
    refine callsIn_of_wp_marks hf hb trivial ?_
    refine wpIn_mono (hE.ex (R := R) (N := fn.ntmps) (a := { tmps := _, defers := [] }) (F := Fence.wide) hrun (by omega) h hpc hok (TR.init hc _) hsz (show DR μ [] ([] : List Deferred) from trivial) rfl n) ?_
    rintro ex a1 w1 ⟨rfl, ν, g1, g2, g3, g4, g5⟩
    have leave : LeavesInM Fence.wide n P fn a1.tmps (Rets P R μ s w (oneA l) s') a1.defers .returning w1 := by
      refine leaves_sound htk (by omega) g4 g3 fun w' k1 k2 => ?_
      obtain ⟨cv, r1, r2⟩ := run_results k1 g1 hpr hl
      exact ⟨cv, r1, ν, r2, k1, g5.trans k2⟩
    cases x with
    | normal => exact leave
    | ret => exact leave
    | exit id => exact (hne _ rfl).elim

theorem eng_sound {FT : Fns} {SM : Sums} (hm : P.follows .mixedOrders = true) (hFT : FnsOk P FT) (hSM : SumsOk P SM) (hSN : SumsNext SM) : ∀ n, EngOk P (eng FT SM n)
  | 0 => ⟨eng_next hSN 0, fun h => (by cases h), fun h => (by cases h), fun h => (by cases h)⟩
  | n + 1 => ⟨eng_next hSN (n + 1), fun h hR hr hc => callStep_sound hFT hSM (eng_sound hm hFT hSM hSN n) h hR hr hc,
      fun h hR hr hp hok ht hN hd hF k => exStep_sound (eng_sound hm hFT hSM hSN n) hm h hR hr hp hok ht hN hd hF k,
      fun h hR hr hp hok ht hN hd hF k => loop_sound (eng_sound hm hFT hSM hSN n) h hR hr hp hok ht hN hd hF k⟩

def noSums : Sums := fun _ => none
theorem noSums_ok : SumsOk P noSums := fun _ _ h => by cases h
theorem noSums_next : SumsNext noSums := fun _ _ _ _ _ _ h => by cases h
end Go.Proofs.YtobogmklajeekaaGreat.D
namespace Go.Proofs.YtobogmklajeekaaGreat.D
noncomputable section
open Go.RowKit
variable {P : Program}

def FTof (P : Program) : Fns := fun f => match P.funcs[f]? with
  | some fn => prepF P fn
  | none => none

theorem FTof_ok : FnsOk P (FTof P) := by
  intro f fd h
  unfold FTof at h
  split at h
  · rename_i fn hfn
    exact ⟨fn, hfn, h⟩
  · cases h

theorem fnsOk_lf : FnsOk P (Tr.lf : Tr FD).get := fun f fd h => by rw [Tr.get_lf] at h; cases h

theorem FnsOk.set {t : Tr FD} (h : FnsOk P t.get) {k : Nat} {fn : Func} {fd : FD} (hf : P.funcs[k]? = some fn) (hp : prepF P fn = some fd) : FnsOk P (t.set k fd).get := by
  intro f fd' hx
  rw [Tr.get_set] at hx
  by_cases e : f = k
  · rw [if_pos e] at hx; cases hx
    exact ⟨fn, by rw [e]; exact hf, hp⟩
  · rw [if_neg e] at hx; exact h f fd' hx

/-- An empty memory. -/
def St.empty : St := { heap := .lf, base := fun _ => none, next := 0 }

theorem St.get_empty (b : Nat) : St.empty.get b = none := by
  rfl

theorem HR.empty (R : Nat) (w : World) : HR P R (fun _ => none) St.empty w :=
  ⟨fun b o h => (by rw [St.get_empty] at h; cases h), fun b c o o' p q h => (by rw [St.get_empty] at h; cases h), fun b p h => (by cases h), fun b o h => (by rw [St.get_empty] at h; cases h)⟩

theorem Mv.below {s s' : St} {w w' : World} {ν : Place} (h : Mv (fun _ => none) s w ν s' w') : Below w.heap.size w w' :=
  ⟨h.os, h.tape.eq, h.output, h.size, fun k hk => h.frame k hk fun _ _ _ e => by cases e⟩

def isTrue : Option (AV × St) → Bool
  | some (.bool true, _) => true
  | _ => false

theorem isTrue_some {x : Option (AV × St)} (h : isTrue x = true) : ∃ s, x = some (.bool true, s) := by
  unfold isTrue at h
  split at h
  · exact ⟨_, rfl⟩
  · cases h

/-- A call that asks nothing of memory answers true, and what lay lies as it lay. -/
theorem callsIn_closed {SM : Sums} (hm : P.follows .mixedOrders = true) (hSM : SumsOk P SM) (hSN : SumsNext SM) {FT : Fns} (hFT : FnsOk P FT) {fuel f : Nat} (h : isTrue ((eng FT SM fuel).call f [] St.empty) = true) (w : World) :
    Calls P f #[] w fun e w' => e = .returned (.bool true) ∧ Below w.heap.size w w' := by
  obtain ⟨s', hs⟩ := isTrue_some h
  have := ((eng_sound hm hFT hSM hSN fuel).call hs (Nat.le_refl _) (HR.empty s'.next w) (show concs _ [] = some [] from rfl)).2 0
  refine callsIn_wide.1 (this.mono ?_)
  intro e w' hr
  cases e with
  | returned c =>
    obtain ⟨ν, h1, _, h3⟩ := hr
    simp only [conc, Option.some.injEq] at h1
    subst h1
    exact ⟨rfl, h3.below⟩
  | panicked _ => exact hr.elim
  | outgrown => exact hr.elim

section post
variable {H : Type} {enc : TypeId × Value → H}
theorem post_below {f : Func} {s : ChangeSpec} {apart fresh handsOn again : Bool} {W W' : World} {args : Array Value} {v : Value} {ds gs : List (DataW H)} {before pa pv : List MemPlace}
    (hW : DataW.Whole enc P f.params.toList s.vars apart W args.toList ds gs before)
    (hres : ∀ (b : Nat) (sp : Nat → Bool) (hd : Bool), DataW.TrodAll enc P W' b sp hd f.resultTypes.toList (v.resultList f.resultTypes.size) (s.fn H (ds ++ gs)).results [])
    (hargs : ∀ sp : Nat → Bool, (∀ p ∈ before, sp p.block = true) → DataW.TrodAll enc P W' 0 sp true f.params.toList args.toList (s.fn H (ds ++ gs)).args pa)
    (hvars : ∀ sp : Nat → Bool, (∀ p ∈ before, sp p.block = true) → DataW.TrodVars enc P W' sp s.vars (s.fn H (ds ++ gs)).vars pv)
    (hps : before = pa ++ pv) (hb : Below W.heap.size W W')
    (hok : ∀ (j : Nat) (t : TypeId) (r : Value), f.resultTypes[j]? = some t → (v.resultList f.resultTypes.size)[j]? = some r → Value.okWide P W' .any 0 t r) :
    s.post enc P f apart fresh handsOn again W args v W' := by
  have hlt : ∀ p ∈ before, p.block < W.heap.size := fun p hp => hW.lt p hp
  have hold : ∀ p ∈ before, (fun b => decide (b < W.heap.size)) p.block = true := fun p hp => by simpa using hlt p hp
  refine ⟨ds, gs, before, [], pa, pv, hW, hres _ _ _, hargs _ hold, hvars _ hold, hb.frame _, fun _ => ?_⟩
  obtain ⟨_, _, _, _, _, hz, hn⟩ := hW
  refine ⟨hok, _, _, ([] ++ pa) ++ pv, ⟨[] ++ pa, pv, ChangeShapes.trodAll_append (hargs _ (fun _ _ => rfl)) (hres _ _ _), hvars _ (fun _ _ => rfl), rfl, ?_, ?_⟩, ?_⟩
  · intro b off hp
    have hp' : MemPlace.cell b off ∈ before := by rw [hps]; simpa using hp
    rw [hb.frozen (p := ⟨b, off, none⟩) (hlt _ hp')]
    exact hz b off hp'
  · intro ha
    have := hn ha
    rw [hps] at this
    simpa using this
  · intro p hp _
    rw [hps]
    simpa using hp
end post
end
end Go.Proofs.YtobogmklajeekaaGreat.D
namespace Go.Proofs.YtobogmklajeekaaGreat.D
noncomputable section
open Go.RowKit
variable {P : Program}

/-- What is known of a check that holds. -/
def aliveSum : List AV → St → Option (AV × St)
  | [], s => some (.bool true, s)
  | _ :: _, _ => none

def addSum (SM : Sums) (f : Nat) (g : List AV → St → Option (AV × St)) : Sums := fun k => if k = f then some g else SM k

theorem addSum_ne {SM : Sums} {f k : Nat} {g : List AV → St → Option (AV × St)} (h : k ≠ f) : addSum SM f g k = SM k := if_neg h
theorem addSum_eq {SM : Sums} {f : Nat} {g : List AV → St → Option (AV × St)} : addSum SM f g f = some g := if_pos rfl

theorem HR.below {R : Nat} {μ : Place} {s : St} {w w' : World} (h : HR P R μ s w) (hb : Below w.heap.size w w') : HR P R μ s w' where
  obj b o hg := by
    obtain ⟨p, hp, ho⟩ := h.obj b o hg
    exact ⟨p, hp, OR.mono (Place.le_refl _) (hb.block p.1 (h.lt b p hp).1) ho⟩
  inj := h.inj
  lt b p hp := ⟨Nat.lt_of_lt_of_le (h.lt b p hp).1 hb.size, (h.lt b p hp).2⟩
  dom := h.dom

theorem Mv.of_below {R : Nat} {μ : Place} {s : St} {w w' : World} (h : HR P R μ s w) (hR : s.next ≤ R) (hb : Below w.heap.size w w') (ht : TapeLe w w') : Mv μ s w μ s w' where
  le := Place.le_refl μ
  os := hb.os
  output := hb.output
  tape := ht
  size := hb.size
  next := Nat.le_refl _
  res b p hp := (h.lt b p hp).2.imp id (Nat.le_trans hR)
  fresh _ _ hp := .inl hp
  frame k hk _ := hb.block k hk
  ro _ _ _ _ p hg hp := ⟨hg, hb.block _ (h.lt _ p hp).1⟩

theorem sumsOk_add {SM SM0 : Sums} (hm : P.follows .mixedOrders = true) {FT : Fns} (hFT : FnsOk P FT) (h0 : SumsOk P SM0) (n0 : SumsNext SM0) {fuel f : Nat} (h : isTrue ((eng FT SM0 fuel).call f [] St.empty) = true) (hSM : SumsOk P SM) :
    SumsOk P (addSum SM f aliveSum) := by
  intro k g hk args s v s' R μ w cargs hx hR hr hc
  unfold addSum at hk
  split at hk
  · rename_i e
    subst e
    cases hk
    cases args with
    | cons => cases hx
    | nil =>
      cases hx
      cases cargs with
      | cons _ _ => simp [concs] at hc
      | nil =>
      obtain ⟨s1, hs⟩ := isTrue_some h
      have key := (eng_sound hm hFT h0 n0 fuel).call hs (Nat.le_refl _) (HR.empty s1.next w) (show concs _ [] = some [] from rfl)
      refine ⟨key.1, fun n => (key.2 n).mono ?_⟩
      intro e w' he
      cases e with
      | returned c =>
        obtain ⟨ν, h1, _, h3⟩ := he
        simp only [conc, Option.some.injEq] at h1
        subst h1
        have hb := h3.below
        exact ⟨μ, rfl, hr.below hb, Mv.of_below hr hR hb h3.tape⟩
      | panicked _ => exact he.elim
      | outgrown => exact he.elim
  · exact hSM k g hk hx hR hr hc

theorem sumsNext_add {SM : Sums} (hSN : SumsNext SM) (f : Nat) : SumsNext (addSum SM f aliveSum) := by
  intro k g args s v s' hk hx
  unfold addSum at hk
  split at hk
  · cases hk
    cases args with
    | cons => cases hx
    | nil => cases hx; exact Nat.le_refl _
  · exact hSN k g args s v s' hk hx
end
end Go.Proofs.YtobogmklajeekaaGreat.D
namespace Go.Proofs.YtobogmklajeekaaGreat.D
noncomputable section

/-- What one answers, another one answers. -/
def OLe {α : Type} (a b : Option α) : Prop := ∀ r, a = some r → b = some r
structure Eng.le (e e' : Eng) : Prop where
  call : ∀ f a s, OLe (e.call f a s) (e'.call f a s)
  ex : ∀ ro c ts ds s, OLe (e.ex ro c ts ds s) (e'.ex ro c ts ds s)

theorem Eng.le_refl (e : Eng) : e.le e := ⟨fun _ _ _ _ h => h, fun _ _ _ _ _ _ h => h⟩
theorem Eng.le_trans {a b c : Eng} (h : a.le b) (k : b.le c) : a.le c := ⟨fun f x s r e => k.call f x s r (h.call f x s r e), fun ro x ts ds s r e => k.ex ro x ts ds s r (h.ex ro x ts ds s r e)⟩

structure Sup (E : Nat → Eng) (L : Eng) : Prop where
  up : ∀ n, (E n).le (E (n + 1))
  le : ∀ n, (E n).le L
  call : ∀ f a s r, L.call f a s = some r → ∃ n, (E n).call f a s = some r
  ex : ∀ ro c ts ds s r, L.ex ro c ts ds s = some r → ∃ n, (E n).ex ro c ts ds s = some r

theorem Sup.mono {E : Nat → Eng} {L : Eng} (h : Sup E L) {n m : Nat} (k : n ≤ m) : (E n).le (E m) := by
  induction m with
  | zero => cases Nat.le_zero.1 k; exact Eng.le_refl _
  | succ m ih =>
    by_cases e : n = m + 1
    · subst e; exact Eng.le_refl _
    · exact Eng.le_trans (ih (by omega)) (h.up m)

/-- What a step asks of the machine it asks finitely often. -/
structure Cont {α : Type} (a : Eng → Option α) : Prop where
  mono : ∀ e e', e.le e' → OLe (a e) (a e')
  fin : ∀ E L, Sup E L → ∀ r, a L = some r → ∃ n, a (E n) = some r

section
variable {α β : Type}
theorem Cont.const (x : Option α) : Cont fun _ => x := ⟨fun _ _ _ _ h => h, fun _ _ _ _ h => ⟨0, h⟩⟩
theorem Cont.call (f : Nat) (a : List AV) (s : St) : Cont fun e => e.call f a s := ⟨fun _ _ h => h.call f a s, fun _ _ h r e => h.call f a s r e⟩
theorem Cont.ex (ro : Option Nat) (c : PC) (ts : Tr AV) (ds : List Nat) (s : St) : Cont fun e => e.ex ro c ts ds s := ⟨fun _ _ h => h.ex ro c ts ds s, fun _ _ h r e => h.ex ro c ts ds s r e⟩
theorem Cont.bind {f : Eng → Option α} {g : α → Eng → Option β} (hf : Cont f) (hg : ∀ x, Cont (g x)) : Cont fun e => (f e).bind fun x => g x e := by
  refine ⟨fun e e' h r hr => ?_, fun E L h r hr => ?_⟩
  · simp only [Option.bind_eq_some_iff] at hr ⊢
    obtain ⟨x, h1, h2⟩ := hr
    exact ⟨x, hf.mono e e' h x h1, (hg x).mono e e' h r h2⟩
  · simp only [Option.bind_eq_some_iff] at hr ⊢
    obtain ⟨x, h1, h2⟩ := hr
    obtain ⟨n, hn⟩ := hf.fin E L h x h1
    obtain ⟨m, hm⟩ := (hg x).fin E L h r h2
    exact ⟨max n m, x, hf.mono _ _ (h.mono (Nat.le_max_left n m)) x hn, (hg x).mono _ _ (h.mono (Nat.le_max_right n m)) r hm⟩
theorem Cont.of_eq {a b : Eng → Option α} (h : Cont a) (e : ∀ x, b x = a x) : Cont b := by
  have : b = a := funext e
  rw [this]; exact h
end

theorem cont_roundA (r : Nat) (args : List AV) (s : St) : Cont fun e => roundA e r args s := by
  unfold roundA
  split
  · split
    · rename_i ts params assign body _ _ _
      refine (Cont.bind (g := fun y e => match y with
        | (.normal, ts1, [], s1) => match s1.get r with
          | some (.loop .ready pe ts2 ps2 a2 b2 d2) =>
            match e.ex (some r) body ts1 [] (s1.put r (.loop .busy pe ts2 ps2 a2 b2 d2)) with
            | some (x, _, [], s3) => match s3.get r with
              | some (.loop _ _ ts3 ps3 a3 b3 d3) =>
                match x with
                | .normal => some (AV.bool true, s3.put r (.loop .ready .normal ts3 ps3 a3 b3 d3))
                | x => some (.bool false, s3.put r (.loop .done x ts3 ps3 a3 b3 d3))
              | _ => none
            | _ => none
          | _ => none
        | _ => none) (Cont.ex (some r) assign (setTs params args ts) [] s) ?_).of_eq ?_
      · rintro ⟨x, ts1, ds, s1⟩
        split
        · rename_i hy; cases hy
          split
          · rename_i pe ts2 ps2 a2 b2 d2 _
            refine (Cont.bind (g := fun y _ => match y with
              | (x, _, [], s3) => match s3.get r with
                | some (.loop _ _ ts3 ps3 a3 b3 d3) =>
                  match x with
                  | .normal => some (AV.bool true, s3.put r (.loop .ready .normal ts3 ps3 a3 b3 d3))
                  | x => some (.bool false, s3.put r (.loop .done x ts3 ps3 a3 b3 d3))
                | _ => none
              | _ => none) (Cont.ex (some r) body ts1 [] (s1.put r (.loop .busy pe ts2 ps2 a2 b2 d2))) (fun _ => Cont.const _)).of_eq ?_
            intro e
            cases e.ex (some r) body ts1 [] (s1.put r (.loop .busy pe ts2 ps2 a2 b2 d2)) with
            | none => rfl
            | some y => obtain ⟨x, t, ds, s3⟩ := y; cases ds <;> rfl
          · exact Cont.const _
        · exact Cont.const _
      · intro e
        cases e.ex (some r) assign (setTs params args ts) [] s with
        | none => rfl
        | some y => obtain ⟨x, t, ds, s3⟩ := y; cases x <;> cases ds <;> rfl
    · exact Cont.const _
  · exact Cont.const _

theorem cont_callV (f : AV) (args : List AV) (s : St) : Cont fun e => callV e f args s := by
  unfold callV
  split
  · exact Cont.call _ _ _
  · exact cont_roundA _ _ _
  · exact Cont.const _

theorem cont_opVal (p : POp) (ev : Ev) (s : St) : Cont fun e => opVal e p ev s := by
  cases p with
  | call f args =>
    unfold opVal
    dsimp only
    cases ev f with
    | none => exact Cont.const _
    | some fv =>
      cases evs ev args with
      | none => exact Cont.const _
      | some l => exact cont_callV fv l s
  | _ => exact Cont.const _

theorem cont_opStep (p : PO) (ts : Tr AV) (s : St) : Cont fun e => opStep e p ts s := by
  unfold opStep
  cases wantedA p.guard ts with
  | none => exact Cont.const _
  | some b =>
    cases b with
    | false => exact Cont.const _
    | true =>
      refine (Cont.bind (g := fun y _ => some (putT p.dst y.1 ts, y.2)) (cont_opVal p.op (evOf ts) s) (fun _ => Cont.const _)).of_eq ?_
      intro e
      cases opVal e p.op (evOf ts) s <;> rfl

theorem cont_runOps : ∀ (l : List PO) (ts : Tr AV) (s : St), Cont fun e => runOps e l ts s
  | [], _, _ => Cont.const _
  | p :: r, ts, s => by
    refine (Cont.bind (g := fun y e => runOps e r y.1 y.2) (cont_opStep p ts s) (fun y => cont_runOps r y.1 y.2)).of_eq ?_
    intro e
    simp only [runOps]
    cases opStep e p ts s <;> rfl

theorem cont_runSnaps : ∀ (l : List PO) (ts : Tr AV) (s : St) (acc : List St), Cont fun e => runSnaps e l ts s acc
  | [], _, _, _ => Cont.const _
  | p :: r, ts, s, acc => by
    refine (Cont.bind (g := fun y e => runSnaps e r y.1 y.2 (s :: acc)) (cont_opStep p ts s) (fun y => cont_runSnaps r y.1 y.2 _)).of_eq ?_
    intro e
    simp only [runSnaps]
    cases opStep e p ts s <;> rfl

theorem cont_rangeA (ro : Option Nat) (f : AV) (params : List Nat) (assign body : PC) (ts : Tr AV) (ds : List Nat) (s : St) : Cont fun e => rangeA e ro f params assign body ts ds s := by
  unfold rangeA
  split
  · rename_i g first captured
    split
    · exact Cont.const _
    · rename_i l ds' s2 _
      refine (Cont.bind (g := fun y _ => match y.2.get l with
        | some (.loop .busy _ _ _ _ _ _) => none
        | some (.loop _ pend ts2 ps2 a2 b2 d2) => some (pend, ts, ds', y.2.put l (.loop .exhausted pend ts2 ps2 a2 b2 d2))
        | _ => none) (Cont.call g (first ++ [.yld l] ++ captured) s2) (fun _ => Cont.const _)).of_eq ?_
      intro e
      cases e.call g (first ++ [.yld l] ++ captured) s2 <;> rfl
  · exact Cont.const _

theorem cont_exStep (ro : Option Nat) (c : PC) (ts : Tr AV) (ds : List Nat) (s : St) : Cont fun e => exStep e ro c ts ds s := by
  unfold exStep
  cases c with
  | skip => exact Cont.const _
  | region ops =>
    refine (Cont.bind (g := fun y _ => some (AExit.normal, y.1, ds, y.2)) (cont_runOps ops ts s) (fun _ => Cont.const _)).of_eq ?_
    intro e
    dsimp only
    cases runOps e ops ts s <;> rfl
  | drawn ops looks =>
    refine (Cont.bind (g := fun y _ => if looksOk ops y.1 y.2.2.reverse looks then some (AExit.normal, y.1, ds, y.2.1) else none) (cont_runSnaps ops ts s []) (fun _ => Cont.const _)).of_eq ?_
    intro e
    dsimp only
    cases runSnaps e ops ts s [] <;> rfl
  | seq a b =>
    refine (Cont.bind (g := fun y e => match y with
      | (.normal, ts', ds', s') => e.ex ro b ts' ds' s'
      | r => some r) (Cont.ex ro a ts ds s) ?_).of_eq ?_
    · rintro ⟨x, t, d, s'⟩
      cases x with
      | normal => exact Cont.ex _ _ _ _ _
      | _ => exact Cont.const _
    · intro e
      dsimp only
      cases e.ex ro a ts ds s with
      | none => rfl
      | some y => obtain ⟨x, t, d, s'⟩ := y; cases x <;> rfl
  | cond x a b =>
    dsimp only
    split
    · exact Cont.ex _ _ _ _ _
    · exact Cont.ex _ _ _ _ _
    · exact Cont.const _
  | block id a =>
    refine (Cont.bind (g := fun y _ => match y with
      | (.exit id', ts', ds', s') => some (if id' = id then .normal else .exit id', ts', ds', s')
      | r => some r) (Cont.ex ro a ts ds s) (fun _ => Cont.const _)).of_eq ?_
    intro e
    dsimp only
    cases e.ex ro a ts ds s with
    | none => rfl
    | some y => obtain ⟨x, t, d, s'⟩ := y; cases x <;> rfl
  | loop a =>
    refine (Cont.bind (g := fun y e => match y with
      | (.normal, ts', ds', s') => e.ex ro (.loop a) ts' ds' s'
      | r => some r) (Cont.ex ro a ts ds s) ?_).of_eq ?_
    · rintro ⟨x, t, d, s'⟩
      cases x with
      | normal => exact Cont.ex _ _ _ _ _
      | _ => exact Cont.const _
    · intro e
      dsimp only
      cases e.ex ro a ts ds s with
      | none => rfl
      | some y => obtain ⟨x, t, d, s'⟩ := y; cases x <;> rfl
  | rangeF f params assign body =>
    dsimp only
    split
    · exact cont_rangeA _ _ _ _ _ _ _ _
    · exact Cont.const _
  | exit id => exact Cont.const _
  | ret => exact Cont.const _

theorem cont_callStep (FT : Fns) (SM : Sums) (f : Nat) (args : List AV) (s : St) : Cont fun e => callStep FT SM e f args s := by
  unfold callStep
  split
  · exact Cont.const _
  · split
    · exact Cont.const _
    · rename_i fd _
      split
      · refine (Cont.bind (g := fun y _ => finish fd (some y)) (Cont.ex none fd.body (initT 0 args .lf) [] s) (fun _ => Cont.const _)).of_eq ?_
        intro e
        cases e.ex none fd.body (initT 0 args .lf) [] s <;> rfl
      · exact Cont.const _

theorem eng_up_le (FT : Fns) (SM : Sums) : ∀ n, (eng FT SM n).le (eng FT SM (n + 1))
  | 0 => ⟨fun _ _ _ _ h => (by cases h), fun _ _ _ _ _ _ h => (by cases h)⟩
  | n + 1 => ⟨fun f a s => (cont_callStep FT SM f a s).mono _ _ (eng_up_le FT SM n), fun ro c ts ds s => (cont_exStep ro c ts ds s).mono _ _ (eng_up_le FT SM n)⟩

open Classical in
/-- What some answer, if one does. -/
def some1 {α : Type} (a : Nat → Option α) : Option α := if h : ∃ r n, a n = some r then some h.choose else none

theorem some1_of {α : Type} {a : Nat → Option α} (up : ∀ n m, n ≤ m → OLe (a n) (a m)) {n : Nat} {r : α} (h : a n = some r) : some1 a = some r := by
  have hx : ∃ r n, a n = some r := ⟨r, n, h⟩
  unfold some1
  rw [dif_pos hx]
  obtain ⟨m, hm⟩ := hx.choose_spec
  have h1 := up _ _ (Nat.le_max_left n m) r h
  have h2 := up _ _ (Nat.le_max_right n m) _ hm
  rw [h1] at h2; exact h2.symm

theorem of_some1 {α : Type} {a : Nat → Option α} {r : α} (h : some1 a = some r) : ∃ n, a n = some r := by
  unfold some1 at h
  split at h
  · rename_i hx; cases h; exact hx.choose_spec
  · cases h

/-- The machine, with as much at hand as it needs. -/
def lim (FT : Fns) (SM : Sums) : Eng where
  call f a s := some1 fun n => (eng FT SM n).call f a s
  ex ro c ts ds s := some1 fun n => (eng FT SM n).ex ro c ts ds s

theorem eng_le (FT : Fns) (SM : Sums) {n m : Nat} (k : n ≤ m) : (eng FT SM n).le (eng FT SM m) := by
  induction m with
  | zero => cases Nat.le_zero.1 k; exact Eng.le_refl _
  | succ m ih =>
    by_cases e : n = m + 1
    · subst e; exact Eng.le_refl _
    · exact Eng.le_trans (ih (by omega)) (eng_up_le FT SM m)

theorem sup_lim (FT : Fns) (SM : Sums) : Sup (eng FT SM) (lim FT SM) where
  up := eng_up_le FT SM
  le _ := ⟨fun f a s _ h => some1_of (fun _ _ k => (eng_le FT SM k).call f a s) h, fun ro c ts ds s _ h => some1_of (fun _ _ k => (eng_le FT SM k).ex ro c ts ds s) h⟩
  call _ _ _ _ h := of_some1 h
  ex _ _ _ _ _ _ h := of_some1 h

theorem opt_ext {α : Type} {a b : Option α} (h : OLe a b) (k : OLe b a) : a = b := by
  cases a with
  | some x => exact (h x rfl).symm
  | none => cases b with
    | none => rfl
    | some y => exact k y rfl

/-- The machine answers step by step. -/
theorem lim_call (FT : Fns) (SM : Sums) (f : Nat) (a : List AV) (s : St) : (lim FT SM).call f a s = callStep FT SM (lim FT SM) f a s := by
  refine opt_ext (fun r h => ?_) (fun r h => ?_)
  · obtain ⟨n, hn⟩ := (sup_lim FT SM).call f a s r h
    cases n with
    | zero => cases hn
    | succ n => exact (cont_callStep FT SM f a s).mono _ _ ((sup_lim FT SM).le n) r hn
  · obtain ⟨n, hn⟩ := (cont_callStep FT SM f a s).fin _ _ (sup_lim FT SM) r h
    exact ((sup_lim FT SM).le (n + 1)).call f a s r hn

theorem lim_ex (FT : Fns) (SM : Sums) (ro : Option Nat) (c : PC) (ts : Tr AV) (ds : List Nat) (s : St) : (lim FT SM).ex ro c ts ds s = exStep (lim FT SM) ro c ts ds s := by
  refine opt_ext (fun r h => ?_) (fun r h => ?_)
  · obtain ⟨n, hn⟩ := (sup_lim FT SM).ex ro c ts ds s r h
    cases n with
    | zero => cases hn
    | succ n => exact (cont_exStep ro c ts ds s).mono _ _ ((sup_lim FT SM).le n) r hn
  · obtain ⟨n, hn⟩ := (cont_exStep ro c ts ds s).fin _ _ (sup_lim FT SM) r h
    exact ((sup_lim FT SM).le (n + 1)).ex ro c ts ds s r hn

end
end Go.Proofs.YtobogmklajeekaaGreat.D
namespace Go.Proofs.YtobogmklajeekaaGreat.D
noncomputable section

/-- A machine: its functions, and what is known of some. -/
structure Mach where
  FT : Fns
  SM : Sums

/-- What is around a piece of code. -/
inductive Fk where
  | sq (b : PC)
  | bl (id : Nat)
  | lp (a : PC)

abbrev Post := AExit → Tr AV → List Nat → St → Prop

variable (M : Mach) (ro : Option Nat)

abbrev Mach.L : Eng := lim M.FT M.SM

def after : List Fk → AExit → Tr AV → List Nat → St → Res
  | [], x, ts, ds, s => some (x, ts, ds, s)
  | .sq b :: k, .normal, ts, ds, s => match M.L.ex ro b ts ds s with
    | some (x, ts, ds, s) => after k x ts ds s
    | none => none
  | .lp a :: k, .normal, ts, ds, s => match M.L.ex ro (.loop a) ts ds s with
    | some (x, ts, ds, s) => after k x ts ds s
    | none => none
  | .bl id :: k, .exit id', ts, ds, s => after k (if id' = id then .normal else .exit id') ts ds s
  | _ :: k, x, ts, ds, s => after k x ts ds s

def Wr (k : List Fk) (x : AExit) (ts : Tr AV) (ds : List Nat) (s : St) (Q : Post) : Prop :=
  ∃ x' ts' ds' s', after M ro k x ts ds s = some (x', ts', ds', s') ∧ Q x' ts' ds' s'
def Wk (k : List Fk) (c : PC) (ts : Tr AV) (ds : List Nat) (s : St) (Q : Post) : Prop :=
  ∃ x ts' ds' s', M.L.ex ro c ts ds s = some (x, ts', ds', s') ∧ Wr M ro k x ts' ds' s' Q

/-- What a region whose order is open keeps beside. -/
abbrev Dr := Option (List PO × List Look × List St)
def Dr.push : Dr → St → Dr
  | none, _ => none
  | some (o, l, a), s => some (o, l, s :: a)
def Dr.ok : Dr → Tr AV → St → Bool
  | none, _, _ => true
  | some (o, l, a), ts, s => looksOk o ts (s :: a).reverse l

def Wo (k : List Fk) (dr : Dr) (ops : List PO) (ts : Tr AV) (ds : List Nat) (s : St) (Q : Post) : Prop :=
  match dr with
  | none => ∃ ts' s', runOps M.L ops ts s = some (ts', s') ∧ Wr M ro k .normal ts' ds s' Q
  | some (o, l, acc) => ∃ ts' s' sn, runSnaps M.L ops ts s acc = some (ts', s', sn) ∧ looksOk o ts' sn.reverse l = true ∧ Wr M ro k .normal ts' ds s' Q
def Wx (r : Option (AV × St)) (d : Option Nat) (k : List Fk) (dr : Dr) (ops : List PO) (ts : Tr AV) (ds : List Nat) (Q : Post) : Prop :=
  ∃ v s', r = some (v, s') ∧ Wo M ro k dr ops (putT d v ts) ds s' Q
def Wg (g : Option AV) (want : Bool) (d : Option Nat) (p : POp) (k : List Fk) (dr : Dr) (ops : List PO) (ts : Tr AV) (ds : List Nat) (s : St) (Q : Post) : Prop :=
  match g with
  | some (.bool x) => match x == want with
    | true => Wo M ro k dr (⟨d, p, none⟩ :: ops) ts ds s Q
    | false => Wo M ro k (dr.push s) ops (putT d undefA ts) ds s Q
  | some (.tup []) => Wo M ro k (dr.push s) ops (putT d undefA ts) ds s Q
  | _ => False
def Wc (f : Option AV) (l : Option (List AV)) (d : Option Nat) (k : List Fk) (dr : Dr) (ops : List PO) (ts : Tr AV) (ds : List Nat) (s : St) (Q : Post) : Prop :=
  ∃ fv as, f = some fv ∧ l = some as ∧ Wx M ro (callV M.L fv as s) d k dr ops ts ds Q
def Wl (f : Nat) (l : List AV) (d : Option Nat) (k : List Fk) (dr : Dr) (ops : List PO) (ts : Tr AV) (ds : List Nat) (s : St) (Q : Post) : Prop :=
  Wx M ro (M.L.call f l s) d k dr ops ts ds Q
def Wi (c : Option AV) (k : List Fk) (a b : PC) (ts : Tr AV) (ds : List Nat) (s : St) (Q : Post) : Prop :=
  ∃ v, c = some (.bool v) ∧ (v = true → Wk M ro k a ts ds s Q) ∧ (v = false → Wk M ro k b ts ds s Q)

def Wf (f : Nat) (l : List AV) (s : St) (P : AV → St → Prop) : Prop := ∃ v s', M.L.call f l s = some (v, s') ∧ P v s'
def Wy (l : Option (List AV)) (s : St) (P : AV → St → Prop) : Prop := ∃ vs, l = some vs ∧ P (oneA vs) s
def Fin (rs : List PRes) (P : AV → St → Prop) : Post := fun x ts ds s => (∀ id, x ≠ .exit id) ∧ ∃ s', takeAll ds s = some s' ∧ Wy (ressA ts s' rs) s' P

variable {M} {ro}
variable {k : List Fk} {dr : Dr} {ops : List PO} {ts : Tr AV} {ds : List Nat} {s : St} {Q : Post} {d : Option Nat} {p : POp} {P : AV → St → Prop}

@[congr] theorem Wk_congr {c : PC} {ts' : Tr AV} {s' : St} (h : ts = ts') (h' : s = s') : Wk M ro k c ts ds s Q = Wk M ro k c ts' ds s' Q := by rw [h, h']
@[congr] theorem Wr_congr {x x' : AExit} {ts' : Tr AV} {s' : St} (h0 : x = x') (h : ts = ts') (h' : s = s') : Wr M ro k x ts ds s Q = Wr M ro k x' ts' ds s' Q := by rw [h0, h, h']
@[congr] theorem Wo_congr {ts' : Tr AV} {s' : St} {dr' : Dr} (h0 : dr = dr') (h : ts = ts') (h' : s = s') : Wo M ro k dr ops ts ds s Q = Wo M ro k dr' ops ts' ds s' Q := by rw [h0, h, h']
@[congr] theorem Wx_congr {r r' : Option (AV × St)} (h : r = r') : Wx M ro r d k dr ops ts ds Q = Wx M ro r' d k dr ops ts ds Q := by rw [h]
@[congr] theorem Wg_congr {g g' : Option AV} {w : Bool} (h : g = g') : Wg M ro g w d p k dr ops ts ds s Q = Wg M ro g' w d p k dr ops ts ds s Q := by rw [h]
@[congr] theorem Wc_congr {f f' : Option AV} {l l' : Option (List AV)} (h : f = f') (h' : l = l') : Wc M ro f l d k dr ops ts ds s Q = Wc M ro f' l' d k dr ops ts ds s Q := by rw [h, h']
@[congr] theorem Wl_congr {f : Nat} {l l' : List AV} {s' : St} (h : l = l') (h' : s = s') : Wl M ro f l d k dr ops ts ds s Q = Wl M ro f l' d k dr ops ts ds s' Q := by rw [h, h']
@[congr] theorem Wi_congr {c c' : Option AV} {a b : PC} (h : c = c') : Wi M ro c k a b ts ds s Q = Wi M ro c' k a b ts ds s Q := by rw [h]
@[congr] theorem Wy_congr {l l' : Option (List AV)} (h : l = l') : Wy l s P = Wy l' s P := by rw [h]

theorem ex_of {c : PC} {ts : Tr AV} {ds : List Nat} {s : St} {r : Res} (h : exStep M.L ro c ts ds s = r) : M.L.ex ro c ts ds s = r := by rw [lim_ex]; exact h

theorem Wr_nil {x : AExit} : Wr M ro [] x ts ds s Q = Q x ts ds s := by
  unfold Wr after
  apply propext
  constructor
  · rintro ⟨_, _, _, _, h, hq⟩; cases h; exact hq
  · intro h; exact ⟨_, _, _, _, rfl, h⟩

theorem Wk_after {c : PC} {K : List Fk} (e : after M ro K .normal ts ds s = (match M.L.ex ro c ts ds s with | some (x, ts, ds, s) => after M ro k x ts ds s | none => none)) : Wr M ro K .normal ts ds s Q = Wk M ro k c ts ds s Q := by
  unfold Wr Wk
  rw [e]
  apply propext
  cases M.L.ex ro c ts ds s with
  | none =>
    constructor
    · rintro ⟨_, _, _, _, h, _⟩; cases h
    · rintro ⟨_, _, _, _, h, _⟩; cases h
  | some y =>
    obtain ⟨x, t, d, s1⟩ := y
    constructor
    · rintro ⟨x', t', d', s', h, hq⟩; exact ⟨_, _, _, _, rfl, _, _, _, _, h, hq⟩
    · rintro ⟨_, _, _, _, h, h'⟩; cases h; exact h'

theorem Wr_sq {b : PC} : Wr M ro (.sq b :: k) .normal ts ds s Q = Wk M ro k b ts ds s Q := Wk_after rfl
theorem Wr_lp {a : PC} : Wr M ro (.lp a :: k) .normal ts ds s Q = Wk M ro k (.loop a) ts ds s Q := Wk_after rfl
theorem Wr_bl_exit {id id' : Nat} : Wr M ro (.bl id :: k) (.exit id') ts ds s Q = Wr M ro k (if id' = id then .normal else .exit id') ts ds s Q := rfl
theorem Wr_bl {id : Nat} : Wr M ro (.bl id :: k) .normal ts ds s Q = Wr M ro k .normal ts ds s Q := rfl
theorem Wr_bl_ret {id : Nat} : Wr M ro (.bl id :: k) .ret ts ds s Q = Wr M ro k .ret ts ds s Q := rfl
theorem Wr_sq_exit {b : PC} {id : Nat} : Wr M ro (.sq b :: k) (.exit id) ts ds s Q = Wr M ro k (.exit id) ts ds s Q := rfl
theorem Wr_sq_ret {b : PC} : Wr M ro (.sq b :: k) .ret ts ds s Q = Wr M ro k .ret ts ds s Q := rfl
theorem Wr_lp_exit {b : PC} {id : Nat} : Wr M ro (.lp b :: k) (.exit id) ts ds s Q = Wr M ro k (.exit id) ts ds s Q := rfl
theorem Wr_lp_ret {b : PC} : Wr M ro (.lp b :: k) .ret ts ds s Q = Wr M ro k .ret ts ds s Q := rfl

/-- A step of code is a step within what is around it. -/
theorem Wk_step {c c1 : PC} {f : Fk} (e : exStep M.L ro c ts ds s = (match M.L.ex ro c1 ts ds s with | some (x, ts, ds, s) => after M ro [f] x ts ds s | none => none))
    (hf : ∀ x t d' s' , after M ro (f :: k) x t d' s' = (match after M ro [f] x t d' s' with | some (x, ts, ds, s) => after M ro k x ts ds s | none => none)) : Wk M ro k c ts ds s Q = Wk M ro (f :: k) c1 ts ds s Q := by
  unfold Wk
  rw [lim_ex, e]
  apply propext
  cases M.L.ex ro c1 ts ds s with
  | none =>
    constructor
    · rintro ⟨_, _, _, _, h, _⟩; cases h
    · rintro ⟨_, _, _, _, h, _⟩; cases h
  | some y =>
    obtain ⟨x, t, d, s1⟩ := y
    simp only [Option.some.injEq, Prod.mk.injEq]
    constructor
    · rintro ⟨x', t', d', s', h, hq⟩
      refine ⟨x, t, d, s1, ⟨rfl, rfl, rfl, rfl⟩, ?_⟩
      unfold Wr at hq ⊢
      rw [hf, h]; exact hq
    · rintro ⟨_, _, _, _, ⟨rfl, rfl, rfl, rfl⟩, hq⟩
      unfold Wr at hq
      rw [hf] at hq
      cases ha : after M ro [f] x t d s1 with
      | none => rw [ha] at hq; obtain ⟨_, _, _, _, h, _⟩ := hq; cases h
      | some z =>
        obtain ⟨x', t', d', s'⟩ := z
        rw [ha] at hq
        exact ⟨_, _, _, _, rfl, hq⟩

theorem after_one (f : Fk) (k : List Fk) (x : AExit) (t : Tr AV) (d' : List Nat) (s' : St) : after M ro (f :: k) x t d' s' = (match after M ro [f] x t d' s' with | some (x, ts, ds, s) => after M ro k x ts ds s | none => none) := by
  cases f with
  | sq b =>
    cases x with
    | normal =>
      simp only [after]
      cases M.L.ex ro b t d' s' <;> rfl
    | exit id => simp [after]
    | ret => simp [after]
  | lp b =>
    cases x with
    | normal =>
      simp only [after]
      cases M.L.ex ro (.loop b) t d' s' <;> rfl
    | exit id => simp [after]
    | ret => simp [after]
  | bl id =>
    cases x with
    | normal => simp [after]
    | exit id' => simp [after]
    | ret => simp [after]

theorem Wk_seq {a b : PC} : Wk M ro k (.seq a b) ts ds s Q = Wk M ro (.sq b :: k) a ts ds s Q := by
  refine Wk_step ?_ (after_one _ _)
  simp only [exStep]
  cases M.L.ex ro a ts ds s with
  | none => rfl
  | some y =>
    obtain ⟨x, t, d, s1⟩ := y
    cases x with
    | normal =>
      simp only [after]
      cases M.L.ex ro b t d s1 <;> rfl
    | _ => rfl

theorem Wk_loop {a : PC} : Wk M ro k (.loop a) ts ds s Q = Wk M ro (.lp a :: k) a ts ds s Q := by
  refine Wk_step ?_ (after_one _ _)
  simp only [exStep]
  cases M.L.ex ro a ts ds s with
  | none => rfl
  | some y =>
    obtain ⟨x, t, d, s1⟩ := y
    cases x with
    | normal =>
      simp only [after]
      cases M.L.ex ro (.loop a) t d s1 <;> rfl
    | _ => rfl

theorem Wk_block {a : PC} {id : Nat} : Wk M ro k (.block id a) ts ds s Q = Wk M ro (.bl id :: k) a ts ds s Q := by
  refine Wk_step ?_ (after_one _ _)
  simp only [exStep]
  cases M.L.ex ro a ts ds s with
  | none => rfl
  | some y =>
    obtain ⟨x, t, d, s1⟩ := y
    cases x <;> rfl

theorem Wk_now {c : PC} {x : AExit} (e : exStep M.L ro c ts ds s = some (x, ts, ds, s)) : Wk M ro k c ts ds s Q = Wr M ro k x ts ds s Q := by
  unfold Wk
  rw [lim_ex, e]
  apply propext
  constructor
  · rintro ⟨_, _, _, _, h, hq⟩; cases h; exact hq
  · intro h; exact ⟨_, _, _, _, rfl, h⟩

theorem Wk_skip : Wk M ro k .skip ts ds s Q = Wr M ro k .normal ts ds s Q := Wk_now rfl
theorem Wk_exit {id : Nat} : Wk M ro k (.exit id) ts ds s Q = Wr M ro k (.exit id) ts ds s Q := Wk_now rfl
theorem Wk_ret : Wk M ro k .ret ts ds s Q = Wr M ro k .ret ts ds s Q := Wk_now rfl

theorem Wk_region : Wk M ro k (.region ops) ts ds s Q = Wo M ro k none ops ts ds s Q := by
  unfold Wk Wo
  rw [lim_ex]
  simp only [exStep]
  apply propext
  cases runOps M.L ops ts s with
  | none =>
    constructor
    · rintro ⟨_, _, _, _, h, _⟩; cases h
    · rintro ⟨_, _, h, _⟩; cases h
  | some y =>
    obtain ⟨t, s1⟩ := y
    constructor
    · rintro ⟨_, _, _, _, h, hq⟩; cases h; exact ⟨_, _, rfl, hq⟩
    · rintro ⟨_, _, h, hq⟩; cases h; exact ⟨_, _, _, _, rfl, hq⟩

theorem Wk_drawn {l : List Look} : Wk M ro k (.drawn ops l) ts ds s Q = Wo M ro k (some (ops, l, [])) ops ts ds s Q := by
  unfold Wk Wo
  rw [lim_ex]
  simp only [exStep]
  apply propext
  cases runSnaps M.L ops ts s [] with
  | none =>
    constructor
    · rintro ⟨_, _, _, _, h, _⟩; cases h
    · rintro ⟨_, _, _, h, _⟩; cases h
  | some y =>
    obtain ⟨t, s1, sn⟩ := y
    dsimp only
    cases hl : looksOk ops t sn.reverse l with
    | false =>
      constructor
      · rintro ⟨_, _, _, _, h, _⟩; simp at h
      · rintro ⟨_, _, _, h, h', _⟩; cases h; rw [hl] at h'; cases h'
    | true =>
      constructor
      · rintro ⟨_, _, _, _, h, hq⟩; simp only [if_true] at h; cases h; exact ⟨_, _, _, rfl, hl, hq⟩
      · rintro ⟨_, _, _, h, _, hq⟩; cases h; exact ⟨_, _, _, _, rfl, hq⟩

theorem runSnaps_ops (e : Eng) : ∀ (l : List PO) (ts : Tr AV) (s : St) (acc : List St), (runSnaps e l ts s acc).map (fun y => (y.1, y.2.1)) = runOps e l ts s
  | [], _, _, _ => rfl
  | p :: r, ts, s, acc => by
    simp only [runSnaps, runOps]
    cases opStep e p ts s with
    | none => rfl
    | some y => exact runSnaps_ops e r _ _ _

theorem Wk_drawnC {l : Look} {ls : List Look} : Wk M ro k (.drawn ops (l :: ls)) ts ds s Q = Wo M ro k (some (ops, l :: ls, [])) ops ts ds s Q := Wk_drawn

/-- Where nothing is to be looked at again, the order is all one. -/
theorem Wk_drawn0 : Wk M ro k (.drawn ops []) ts ds s Q = Wo M ro k none ops ts ds s Q := by
  rw [Wk_drawn]
  unfold Wo
  dsimp only
  rw [← runSnaps_ops M.L ops ts s []]
  apply propext
  cases runSnaps M.L ops ts s [] with
  | none =>
    constructor
    · rintro ⟨_, _, _, h, _⟩; cases h
    · rintro ⟨_, _, h, _⟩; cases h
  | some y =>
    obtain ⟨t, s1, sn⟩ := y
    constructor
    · rintro ⟨_, _, _, h, _, hq⟩; cases h; exact ⟨_, _, rfl, hq⟩
    · rintro ⟨_, _, h, hq⟩; cases h; exact ⟨_, _, _, rfl, rfl, hq⟩

theorem Wk_cond {x : X} {a b : PC} : Wk M ro k (.cond x a b) ts ds s Q = Wi M ro (evOf ts x) k a b ts ds s Q := by
  unfold Wk Wi
  rw [lim_ex]
  simp only [exStep]
  apply propext
  cases he : evOf ts x with
  | none =>
    constructor
    · rintro ⟨_, _, _, _, h, _⟩; cases h
    · rintro ⟨_, h, _⟩; cases h
  | some v =>
    cases v with
    | bool v =>
      cases v with
      | true =>
        constructor
        · intro h; exact ⟨true, rfl, fun _ => h, fun h => by cases h⟩
        · rintro ⟨_, h, h1, _⟩; cases h; exact h1 rfl
      | false =>
        constructor
        · intro h; exact ⟨false, rfl, fun h => (by cases h), fun _ => h⟩
        · rintro ⟨_, h, _, h1⟩; cases h; exact h1 rfl
    | _ =>
      constructor
      · rintro ⟨_, _, _, _, h, _⟩; cases h
      · rintro ⟨_, h, _⟩; cases h

theorem Wi_t {a b : PC} : Wi M ro (some (.bool true)) k a b ts ds s Q = Wk M ro k a ts ds s Q := by
  apply propext
  constructor
  · rintro ⟨_, h, h1, _⟩; cases h; exact h1 rfl
  · intro h; exact ⟨true, rfl, fun _ => h, fun h => by cases h⟩
theorem Wi_f {a b : PC} : Wi M ro (some (.bool false)) k a b ts ds s Q = Wk M ro k b ts ds s Q := by
  apply propext
  constructor
  · rintro ⟨_, h, _, h1⟩; cases h; exact h1 rfl
  · intro h; exact ⟨false, rfl, fun h => (by cases h), fun _ => h⟩
theorem Wi_split {v : Bool} {a b : PC} (h1 : v = true → Wk M ro k a ts ds s Q) (h2 : v = false → Wk M ro k b ts ds s Q) : Wi M ro (some (.bool v)) k a b ts ds s Q := ⟨v, rfl, h1, h2⟩

theorem Wo_nil : Wo M ro k none [] ts ds s Q = Wr M ro k .normal ts ds s Q := by
  apply propext
  constructor
  · rintro ⟨_, _, h, hq⟩; cases h; exact hq
  · intro h; exact ⟨_, _, rfl, h⟩
theorem Wo_nil' {o : List PO} {l : List Look} {acc : List St} : Wo M ro k (some (o, l, acc)) [] ts ds s Q = (looksOk o ts (s :: acc).reverse l = true ∧ Wr M ro k .normal ts ds s Q) := by
  apply propext
  constructor
  · rintro ⟨_, _, _, h, hl, hq⟩; cases h; exact ⟨hl, hq⟩
  · rintro ⟨hl, h⟩; exact ⟨_, _, _, rfl, hl, h⟩

theorem Wo_cons {q : PO} : Wo M ro k dr (q :: ops) ts ds s Q = ∃ t s', opStep M.L q ts s = some (t, s') ∧ Wo M ro k (dr.push s) ops t ds s' Q := by
  cases dr with
  | none =>
    apply propext
    constructor
    · rintro ⟨t, s', h, hq⟩
      simp only [runOps] at h
      cases ho : opStep M.L q ts s with
      | none => rw [ho] at h; cases h
      | some y => rw [ho] at h; exact ⟨_, _, rfl, t, s', h, hq⟩
    · rintro ⟨t, s', h, t1, s1, h1, hq⟩
      refine ⟨t1, s1, ?_, hq⟩
      simp only [runOps, h, h1]
  | some y =>
    obtain ⟨o, l, acc⟩ := y
    apply propext
    constructor
    · rintro ⟨t, s', sn, h, hl, hq⟩
      simp only [runSnaps] at h
      cases ho : opStep M.L q ts s with
      | none => rw [ho] at h; cases h
      | some y => rw [ho] at h; exact ⟨_, _, rfl, t, s', sn, h, hl, hq⟩
    · rintro ⟨t, s', h, t1, s1, sn, h1, hl, hq⟩
      refine ⟨t1, s1, sn, ?_, hl, hq⟩
      simp only [runSnaps, h, h1]

def POp.isCall : POp → Bool
  | .call .. => true
  | _ => false

theorem Wo_any : Wo M ro k dr (⟨d, p, none⟩ :: ops) ts ds s Q = Wx M ro (opVal M.L p (evOf ts) s) d k (dr.push s) ops ts ds Q := by
  rw [Wo_cons]
  unfold Wx
  simp only [opStep, wantedA]
  apply propext
  cases opVal M.L p (evOf ts) s with
  | none =>
    constructor
    · rintro ⟨_, _, h, _⟩; cases h
    · rintro ⟨_, _, h, _⟩; cases h
  | some y =>
    constructor
    · rintro ⟨_, _, h, hq⟩; cases h; exact ⟨_, _, rfl, hq⟩
    · rintro ⟨_, _, h, hq⟩; cases h; exact ⟨_, _, rfl, hq⟩

theorem Wo_op (h : p.isCall = false) : Wo M ro k dr (⟨d, p, none⟩ :: ops) ts ds s Q = Wx M ro (xop p (evOf ts) s) d k (dr.push s) ops ts ds Q := by
  rw [Wo_any]
  cases p with
  | call => cases h
  | _ => rfl

theorem Wo_move {x : X} : Wo M ro k dr (⟨d, .move x, none⟩ :: ops) ts ds s Q = Wx M ro (xop (.move x) (evOf ts) s) d k (dr.push s) ops ts ds Q := Wo_op rfl
theorem Wo_pick {c a b : X} : Wo M ro k dr (⟨d, .pick c a b, none⟩ :: ops) ts ds s Q = Wx M ro (xop (.pick c a b) (evOf ts) s) d k (dr.push s) ops ts ds Q := Wo_op rfl
theorem Wo_alloc {z : List AV} : Wo M ro k dr (⟨d, .alloc z, none⟩ :: ops) ts ds s Q = Wx M ro (xop (.alloc z) (evOf ts) s) d k (dr.push s) ops ts ds Q := Wo_op rfl
theorem Wo_box {x : X} : Wo M ro k dr (⟨d, .box x, none⟩ :: ops) ts ds s Q = Wx M ro (xop (.box x) (evOf ts) s) d k (dr.push s) ops ts ds Q := Wo_op rfl
theorem Wo_build {z : List AV} {ps : List (Nat × Nat × X)} : Wo M ro k dr (⟨d, .build z ps, none⟩ :: ops) ts ds s Q = Wx M ro (xop (.build z ps) (evOf ts) s) d k (dr.push s) ops ts ds Q := Wo_op rfl
theorem Wo_buildSlice {z : List AV} {n : Nat} {ps : List (Nat × Nat × X)} {e : Nat} : Wo M ro k dr (⟨d, .buildSlice z n ps e, none⟩ :: ops) ts ds s Q = Wx M ro (xop (.buildSlice z n ps e) (evOf ts) s) d k (dr.push s) ops ts ds Q := Wo_op rfl
theorem Wo_load1 {a : X} : Wo M ro k dr (⟨d, .load1 a, none⟩ :: ops) ts ds s Q = Wx M ro (xop (.load1 a) (evOf ts) s) d k (dr.push s) ops ts ds Q := Wo_op rfl
theorem Wo_loadN {n : Nat} {a : X} : Wo M ro k dr (⟨d, .loadN n a, none⟩ :: ops) ts ds s Q = Wx M ro (xop (.loadN n a) (evOf ts) s) d k (dr.push s) ops ts ds Q := Wo_op rfl
theorem Wo_store {n : Nat} {a v : X} : Wo M ro k dr (⟨d, .store n a v, none⟩ :: ops) ts ds s Q = Wx M ro (xop (.store n a v) (evOf ts) s) d k (dr.push s) ops ts ds Q := Wo_op rfl
theorem Wo_nilCheck {x : X} : Wo M ro k dr (⟨d, .nilCheck x, none⟩ :: ops) ts ds s Q = Wx M ro (xop (.nilCheck x) (evOf ts) s) d k (dr.push s) ops ts ds Q := Wo_op rfl
theorem Wo_bin {o : BinOp} {e : EqK} {x y : X} : Wo M ro k dr (⟨d, .bin o e x y, none⟩ :: ops) ts ds s Q = Wx M ro (xop (.bin o e x y) (evOf ts) s) d k (dr.push s) ops ts ds Q := Wo_op rfl
theorem Wo_un {o : UnOp} {x : X} : Wo M ro k dr (⟨d, .un o x, none⟩ :: ops) ts ds s Q = Wx M ro (xop (.un o x) (evOf ts) s) d k (dr.push s) ops ts ds Q := Wo_op rfl
theorem Wo_convInt {i : IntKind} {x : X} : Wo M ro k dr (⟨d, .convInt i x, none⟩ :: ops) ts ds s Q = Wx M ro (xop (.convInt i x) (evOf ts) s) d k (dr.push s) ops ts ds Q := Wo_op rfl
theorem Wo_convSame {x : X} : Wo M ro k dr (⟨d, .convSame x, none⟩ :: ops) ts ds s Q = Wx M ro (xop (.convSame x) (evOf ts) s) d k (dr.push s) ops ts ds Q := Wo_op rfl
theorem Wo_convStr {e : Nat} {x : X} : Wo M ro k dr (⟨d, .convStr e x, none⟩ :: ops) ts ds s Q = Wx M ro (xop (.convStr e x) (evOf ts) s) d k (dr.push s) ops ts ds Q := Wo_op rfl
theorem Wo_convBytes {x : X} : Wo M ro k dr (⟨d, .convBytes x, none⟩ :: ops) ts ds s Q = Wx M ro (xop (.convBytes x) (evOf ts) s) d k (dr.push s) ops ts ds Q := Wo_op rfl
theorem Wo_mkIface {i : TypeId} {x : X} : Wo M ro k dr (⟨d, .mkIface i x, none⟩ :: ops) ts ds s Q = Wx M ro (xop (.mkIface i x) (evOf ts) s) d k (dr.push s) ops ts ds Q := Wo_op rfl
theorem Wo_mkFunc {f : Fn} {a c : List X} : Wo M ro k dr (⟨d, .mkFunc f a c, none⟩ :: ops) ts ds s Q = Wx M ro (xop (.mkFunc f a c) (evOf ts) s) d k (dr.push s) ops ts ds Q := Wo_op rfl
theorem Wo_mkMap  : Wo M ro k dr (⟨d, .mkMap, none⟩ :: ops) ts ds s Q = Wx M ro (xop .mkMap (evOf ts) s) d k (dr.push s) ops ts ds Q := Wo_op rfl
theorem Wo_mkSlice {a b : Nat} {z : List AV} {l c : X} : Wo M ro k dr (⟨d, .mkSlice a b z l c, none⟩ :: ops) ts ds s Q = Wx M ro (xop (.mkSlice a b z l c) (evOf ts) s) d k (dr.push s) ops ts ds Q := Wo_op rfl
theorem Wo_sliceSl {e : Nat} {x : X} {lo hi mx : Option X} : Wo M ro k dr (⟨d, .sliceSl e x lo hi mx, none⟩ :: ops) ts ds s Q = Wx M ro (xop (.sliceSl e x lo hi mx) (evOf ts) s) d k (dr.push s) ops ts ds Q := Wo_op rfl
theorem Wo_sliceStr {x : X} {lo hi : Option X} : Wo M ro k dr (⟨d, .sliceStr x lo hi, none⟩ :: ops) ts ds s Q = Wx M ro (xop (.sliceStr x lo hi) (evOf ts) s) d k (dr.push s) ops ts ds Q := Wo_op rfl
theorem Wo_sliceArr {n e : Nat} {x : X} {lo hi mx : Option X} : Wo M ro k dr (⟨d, .sliceArr n e x lo hi mx, none⟩ :: ops) ts ds s Q = Wx M ro (xop (.sliceArr n e x lo hi mx) (evOf ts) s) d k (dr.push s) ops ts ds Q := Wo_op rfl
theorem Wo_fieldAddr {o : Nat} {x : X} : Wo M ro k dr (⟨d, .fieldAddr o x, none⟩ :: ops) ts ds s Q = Wx M ro (xop (.fieldAddr o x) (evOf ts) s) d k (dr.push s) ops ts ds Q := Wo_op rfl
theorem Wo_field {o : Nat} {n : Option Nat} {x : X} : Wo M ro k dr (⟨d, .field o n x, none⟩ :: ops) ts ds s Q = Wx M ro (xop (.field o n x) (evOf ts) s) d k (dr.push s) ops ts ds Q := Wo_op rfl
theorem Wo_idxArr {n e : Nat} {x i : X} : Wo M ro k dr (⟨d, .idxArr n e x i, none⟩ :: ops) ts ds s Q = Wx M ro (xop (.idxArr n e x i) (evOf ts) s) d k (dr.push s) ops ts ds Q := Wo_op rfl
theorem Wo_idxSl {e : Nat} {x i : X} : Wo M ro k dr (⟨d, .idxSl e x i, none⟩ :: ops) ts ds s Q = Wx M ro (xop (.idxSl e x i) (evOf ts) s) d k (dr.push s) ops ts ds Q := Wo_op rfl
theorem Wo_idxAgg {n e : Nat} {g : Bool} {x i : X} : Wo M ro k dr (⟨d, .idxAgg n e g x i, none⟩ :: ops) ts ds s Q = Wx M ro (xop (.idxAgg n e g x i) (evOf ts) s) d k (dr.push s) ops ts ds Q := Wo_op rfl
theorem Wo_idxStr {x i : X} : Wo M ro k dr (⟨d, .idxStr x i, none⟩ :: ops) ts ds s Q = Wx M ro (xop (.idxStr x i) (evOf ts) s) d k (dr.push s) ops ts ds Q := Wo_op rfl
theorem Wo_lookup {z : AV} {m x : X} {o : Bool} : Wo M ro k dr (⟨d, .lookup z m x o, none⟩ :: ops) ts ds s Q = Wx M ro (xop (.lookup z m x o) (evOf ts) s) d k (dr.push s) ops ts ds Q := Wo_op rfl
theorem Wo_mapUpd {m x v : X} : Wo M ro k dr (⟨d, .mapUpd m x v, none⟩ :: ops) ts ds s Q = Wx M ro (xop (.mapUpd m x v) (evOf ts) s) d k (dr.push s) ops ts ds Q := Wo_op rfl
theorem Wo_extract {x : X} {i : Nat} : Wo M ro k dr (⟨d, .extract x i, none⟩ :: ops) ts ds s Q = Wx M ro (xop (.extract x i) (evOf ts) s) d k (dr.push s) ops ts ds Q := Wo_op rfl
theorem Wo_append {a b : Nat} {z : List AV} {x y : X} : Wo M ro k dr (⟨d, .append a b z x y, none⟩ :: ops) ts ds s Q = Wx M ro (xop (.append a b z x y) (evOf ts) s) d k (dr.push s) ops ts ds Q := Wo_op rfl
theorem Wo_appendN {a b : Nat} {z : List AV} {x y : X} : Wo M ro k dr (⟨d, .appendN a b z x y, none⟩ :: ops) ts ds s Q = Wx M ro (xop (.appendN a b z x y) (evOf ts) s) d k (dr.push s) ops ts ds Q := Wo_op rfl
theorem Wo_copy {e : Nat} {x y : X} : Wo M ro k dr (⟨d, .copy e x y, none⟩ :: ops) ts ds s Q = Wx M ro (xop (.copy e x y) (evOf ts) s) d k (dr.push s) ops ts ds Q := Wo_op rfl
theorem Wo_len {n : Nat} {x : X} : Wo M ro k dr (⟨d, .len n x, none⟩ :: ops) ts ds s Q = Wx M ro (xop (.len n x) (evOf ts) s) d k (dr.push s) ops ts ds Q := Wo_op rfl
theorem Wo_lenArr {n : Nat} : Wo M ro k dr (⟨d, .lenArr n, none⟩ :: ops) ts ds s Q = Wx M ro (xop (.lenArr n) (evOf ts) s) d k (dr.push s) ops ts ds Q := Wo_op rfl
theorem Wo_cap {x : X} : Wo M ro k dr (⟨d, .cap x, none⟩ :: ops) ts ds s Q = Wx M ro (xop (.cap x) (evOf ts) s) d k (dr.push s) ops ts ds Q := Wo_op rfl
theorem Wo_minmax {b : Bool} {l : List X} : Wo M ro k dr (⟨d, .minmax b l, none⟩ :: ops) ts ds s Q = Wx M ro (xop (.minmax b l) (evOf ts) s) d k (dr.push s) ops ts ds Q := Wo_op rfl
theorem Wo_clear {z : List AV} {x : X} : Wo M ro k dr (⟨d, .clear z x, none⟩ :: ops) ts ds s Q = Wx M ro (xop (.clear z x) (evOf ts) s) d k (dr.push s) ops ts ds Q := Wo_op rfl
theorem Wo_clearMap {x : X} : Wo M ro k dr (⟨d, .clearMap x, none⟩ :: ops) ts ds s Q = Wx M ro (xop (.clearMap x) (evOf ts) s) d k (dr.push s) ops ts ds Q := Wo_op rfl
theorem Wo_delete {m x : X} : Wo M ro k dr (⟨d, .delete m x, none⟩ :: ops) ts ds s Q = Wx M ro (xop (.delete m x) (evOf ts) s) d k (dr.push s) ops ts ds Q := Wo_op rfl

theorem Wo_call {f : X} {as : List X} : Wo M ro k dr (⟨d, .call f as, none⟩ :: ops) ts ds s Q = Wc M ro (evOf ts f) (evs (evOf ts) as) d k (dr.push s) ops ts ds s Q := by
  rw [Wo_any]
  unfold Wc
  simp only [opVal]
  apply propext
  cases evOf ts f with
  | none =>
    constructor
    · rintro ⟨_, _, h, _⟩; cases h
    · rintro ⟨_, _, h, _⟩; cases h
  | some fv =>
    cases evs (evOf ts) as with
    | none =>
      constructor
      · rintro ⟨_, _, h, _⟩; cases h
      · rintro ⟨_, _, _, h, _⟩; cases h
    | some l =>
      constructor
      · intro h; exact ⟨_, _, rfl, rfl, h⟩
      · rintro ⟨_, _, h, h', hq⟩; cases h; cases h'; exact hq

theorem Wo_guard {t : Nat} {b : Bool} : Wo M ro k dr (⟨d, p, some (t, b)⟩ :: ops) ts ds s Q = Wg M ro (ts.get t) b d p k dr ops ts ds s Q := by
  rw [Wo_cons]
  unfold Wg
  simp only [opStep, wantedA]
  cases hg : ts.get t with
  | none => simp
  | some v =>
    cases v with
    | bool x =>
      dsimp only
      cases hx : x == b with
      | true =>
        dsimp only
        rw [Wo_any]
        unfold Wx
        apply propext
        cases opVal M.L p (evOf ts) s with
        | none =>
          constructor
          · rintro ⟨_, _, h, _⟩; cases h
          · rintro ⟨_, _, h, _⟩; cases h
        | some y =>
          constructor
          · rintro ⟨_, _, h, hq⟩; cases h; exact ⟨_, _, rfl, hq⟩
          · rintro ⟨_, _, h, hq⟩; cases h; exact ⟨_, _, rfl, hq⟩
      | false =>
        dsimp only
        apply propext
        constructor
        · rintro ⟨_, _, h, hq⟩; cases h; exact hq
        · intro h; exact ⟨_, _, rfl, h⟩
    | tup l =>
      cases l with
      | nil =>
        dsimp only
        apply propext
        constructor
        · rintro ⟨_, _, h, hq⟩; cases h; exact hq
        · intro h; exact ⟨_, _, rfl, h⟩
      | cons => simp
    | _ => simp

theorem Wx_some {v : AV} {s' : St} : Wx M ro (some (v, s')) d k dr ops ts ds Q = Wo M ro k dr ops (putT d v ts) ds s' Q := by
  apply propext
  constructor
  · rintro ⟨_, _, h, hq⟩; cases h; exact hq
  · intro h; exact ⟨_, _, rfl, h⟩
theorem Wg_tt : Wg M ro (some (.bool true)) true d p k dr ops ts ds s Q = Wo M ro k dr (⟨d, p, none⟩ :: ops) ts ds s Q := rfl
theorem Wg_ff : Wg M ro (some (.bool false)) false d p k dr ops ts ds s Q = Wo M ro k dr (⟨d, p, none⟩ :: ops) ts ds s Q := rfl
theorem Wg_tf : Wg M ro (some (.bool true)) false d p k dr ops ts ds s Q = Wo M ro k (dr.push s) ops (putT d undefA ts) ds s Q := rfl
theorem Wg_ft : Wg M ro (some (.bool false)) true d p k dr ops ts ds s Q = Wo M ro k (dr.push s) ops (putT d undefA ts) ds s Q := rfl
theorem Wg_undef {b : Bool} : Wg M ro (some undefA) b d p k dr ops ts ds s Q = Wo M ro k (dr.push s) ops (putT d undefA ts) ds s Q := rfl
theorem Wg_split {c b : Bool} (h1 : c = true → Wg M ro (some (.bool true)) b d p k dr ops ts ds s Q) (h2 : c = false → Wg M ro (some (.bool false)) b d p k dr ops ts ds s Q) : Wg M ro (some (.bool c)) b d p k dr ops ts ds s Q := by
  cases c with
  | true => exact h1 rfl
  | false => exact h2 rfl
theorem Wc_fn {g : Nat} {a c l : List AV} : Wc M ro (some (.fn (.func g) a c)) (some l) d k dr ops ts ds s Q = Wl M ro g (a ++ l ++ c) d k dr ops ts ds s Q := by
  apply propext
  constructor
  · rintro ⟨_, _, h, h', hq⟩; cases h; cases h'; exact hq
  · intro h; exact ⟨_, _, rfl, rfl, h⟩

theorem Wl_of {f : Nat} {l : List AV} (h : Wf M f l s P) (hq : ∀ v s', P v s' → Wo M ro k dr ops (putT d v ts) ds s' Q) : Wl M ro f l d k dr ops ts ds s Q := by
  obtain ⟨v, s', h1, h2⟩ := h
  exact ⟨v, s', h1, hq v s' h2⟩
theorem Wl_eq {f : Nat} {l : List AV} {v : AV} {s' : St} (h : M.L.call f l s = some (v, s')) : Wl M ro f l d k dr ops ts ds s Q = Wo M ro k dr ops (putT d v ts) ds s' Q := by
  unfold Wl
  rw [h, Wx_some]

theorem Wf.mono {f : Nat} {l : List AV} {P' : AV → St → Prop} (h : Wf M f l s P) (hp : ∀ v s', P v s' → P' v s') : Wf M f l s P' := by
  obtain ⟨v, s', h1, h2⟩ := h
  exact ⟨v, s', h1, hp v s' h2⟩

theorem Wf_enter {f : Nat} {l : List AV} {fd : FD} (hf : M.FT f = some fd) (hs : M.SM f = none) (hn : Nat.ble l.length fd.ntmps = true) (h : Wk M none [] fd.body (initT 0 l .lf) [] s (Fin fd.results P)) : Wf M f l s P := by
  obtain ⟨x, t, d, s1, h1, h2⟩ := h
  rw [Wr_nil] at h2
  obtain ⟨hx, s2, ht, vs, hr, hp⟩ := h2
  refine ⟨oneA vs, s2, ?_, hp⟩
  rw [lim_call]
  unfold callStep
  rw [hs, hf]
  dsimp only
  rw [if_pos hn, h1]
  unfold finish
  cases x with
  | exit id => exact (hx id rfl).elim
  | _ => simp only [ht, hr]

theorem Wr_fin {rs : List PRes} : Wr M ro [] .ret ts [] s (Fin rs P) = Wy (ressA ts s rs) s P := by
  rw [Wr_nil]
  apply propext
  constructor
  · rintro ⟨_, _, h, hq⟩; cases h; exact hq
  · intro h; exact ⟨fun _ h => (by cases h), _, rfl, h⟩
theorem Wr_fin' {rs : List PRes} : Wr M ro [] .normal ts [] s (Fin rs P) = Wy (ressA ts s rs) s P := by
  rw [Wr_nil]
  apply propext
  constructor
  · rintro ⟨_, _, h, hq⟩; cases h; exact hq
  · intro h; exact ⟨fun _ h => (by cases h), _, rfl, h⟩
theorem Wy_some {l : List AV} : Wy (some l) s P = P (oneA l) s := by
  apply propext
  constructor
  · rintro ⟨_, h, hq⟩; cases h; exact hq
  · intro h; exact ⟨_, rfl, h⟩

/-- A loop, by what holds at its head. -/
theorem loop_ind {a : PC} (I : Nat → Tr AV → St → Prop) (step : ∀ n ts s, I n ts s → (∀ m ts' s', m < n → I m ts' s' → Wk M ro k (.loop a) ts' ds s' Q) → Wk M ro (.lp a :: k) a ts ds s Q) : ∀ {n ts s}, I n ts s → Wk M ro k (.loop a) ts ds s Q := by
  intro n
  induction n using Nat.strongRecOn with
  | ind n ih =>
    intro ts s h
    rw [Wk_loop]
    exact step n ts s h fun m ts' s' hm h' => ih m hm h'
end
end Go.Proofs.YtobogmklajeekaaGreat.D
namespace Go.Proofs.YtobogmklajeekaaGreat.D
set_option linter.unusedSimpArgs false
set_option linter.unusedVariables false
theorem leaf_int {k : IntKind} {a b : Int} : leafEq 1 (.int k a) (.int k b) = some (a == b) := by simp [leafEq]
theorem cellsEq_int {ks : List Nat} {l m : List AV} {k : IntKind} {a b : Int} {r : Bool} (hl : l.length = ks.length) (hm : m.length = ks.length) (h : cellsEq ks l m = some r) : cellsEq (1 :: ks) (.int k a :: l) (.int k b :: m) = some (a == b && r) := by
  simp only [cellsEq, leaf_int]
  cases hab : a == b with
  | true => simp [h]
  | false => simp [hl, hm]
theorem cellsEq_nil : cellsEq [] [] [] = some true := rfl
theorem cellsEq1 {k : IntKind} {a b : Int} : cellsEq [1] [.int k a] [.int k b] = some (a == b) := by rw [cellsEq_int rfl rfl cellsEq_nil, Bool.and_true]
theorem cellsEq2 {k k' : IntKind} {a b c d : Int} : cellsEq [1, 1] [.int k a, .int k' b] [.int k c, .int k' d] = some (a == c && b == d) := cellsEq_int rfl rfl cellsEq1
theorem cellsEq3 {k k' k2 : IntKind} {a b c d e f : Int} : cellsEq [1, 1, 1] [.int k a, .int k' b, .int k2 e] [.int k c, .int k' d, .int k2 f] = some (a == c && (b == d && e == f)) := cellsEq_int rfl rfl cellsEq2
/-- How long a slice is. -/
def len1 (v : Option AV) (s : St) : Option (AV × St) :=
  match v with
  | some .nilSlice => some (.int .i64 0, s)
  | some (.tail ..) => some (.int .i64 0, s)
  | some (.slice _ _ n _ _) => some (.int .i64 n, s)
  | some (.raw (.slice _ n _)) => some (.int .i64 n, s)
  | _ => none
/-- Where an element of a slice lies. -/
def idx1 (e : Nat) (v i : Option AV) (s : St) : Option (AV × St) :=
  match v, i with
  | some (.slice b o len _ _), some i => match indexA i len with
    | some k => some (.ptr b (o + k * e), s)
    | none => none
  | _, _ => none
theorem len1_nil {s : St} : len1 (some .nilSlice) s = some (.int .i64 0, s) := rfl
theorem len1_tail {s : St} {b o a : Nat} : len1 (some (.tail b o a)) s = some (.int .i64 0, s) := rfl
theorem len1_slice {s : St} {b o n c : Nat} {l : Bool} : len1 (some (.slice b o n c l)) s = some (.int .i64 n, s) := rfl
theorem len1_raw {s : St} {a : Option Addr} {n c : Nat} : len1 (some (.raw (.slice a n c))) s = some (.int .i64 n, s) := rfl
theorem indexA_nat {k : IntKind} {j n : Nat} (h : j < n) : indexA (.int k (j : Int)) n = some j := by
  show (if 0 ≤ (j : Int) ∧ (j : Int) < (n : Int) then some ((j : Int).toNat) else none) = some j
  rw [if_pos ⟨by omega, by omega⟩]
  simp
theorem idx1_slice {e b o n c j : Nat} {l : Bool} {s : St} {k : IntKind} (h : j < n) : idx1 e (some (.slice b o n c l)) (some (.int k (j : Int))) s = some (.ptr b (o + j * e), s) := by
  unfold idx1
  simp only [indexA_nat h]
theorem idx1_slice0 {e b o n c : Nat} {l : Bool} {s : St} {k : IntKind} (h : 0 < n) : idx1 e (some (.slice b o n c l)) (some (.int k 0)) s = some (.ptr b o, s) := by
  have := idx1_slice (e := e) (b := b) (o := o) (c := c) (l := l) (s := s) (k := k) h
  simpa using this
section
variable {M : Mach} {ro : Option Nat} {k : List Fk} {dr : Dr} {ops : List PO} {ts : Tr AV} {ds : List Nat} {s : St} {Q : Post} {d : Option Nat}
theorem Wo_len0 {x : X} : Wo M ro k dr (⟨d, .len 0 x, none⟩ :: ops) ts ds s Q = Wx M ro (xop (.len 0 x) (evOf ts) s) d k (dr.push s) ops ts ds Q := Wo_op rfl
theorem Wo_len1 {x : X} : Wo M ro k dr (⟨d, .len 1 x, none⟩ :: ops) ts ds s Q = Wx M ro (len1 (evOf ts x) s) d k (dr.push s) ops ts ds Q := Wo_op rfl
theorem Wo_len2 {x : X} : Wo M ro k dr (⟨d, .len 2 x, none⟩ :: ops) ts ds s Q = Wx M ro (xop (.len 2 x) (evOf ts) s) d k (dr.push s) ops ts ds Q := Wo_op rfl
theorem Wo_idx1 {e : Nat} {x i : X} : Wo M ro k dr (⟨d, .idxSl e x i, none⟩ :: ops) ts ds s Q = Wx M ro (idx1 e (evOf ts x) (evOf ts i) s) d k (dr.push s) ops ts ds Q := Wo_op rfl
end
theorem Wk_cut {M : Mach} {ro : Option Nat} {k : List Fk} {c : PC} {ts : Tr AV} {ds : List Nat} {s : St} {Q : Post} (I : Tr AV → St → Prop) (h1 : Wk M ro [] c ts ds s fun x ts' ds' s' => x = .normal ∧ ds' = ds ∧ I ts' s')
    (h2 : ∀ ts' s', I ts' s' → Wr M ro k .normal ts' ds s' Q) : Wk M ro k c ts ds s Q := by
  obtain ⟨x, ts', ds', s', he, h⟩ := h1
  rw [Wr_nil] at h
  obtain ⟨rfl, rfl, hI⟩ := h
  exact ⟨_, _, _, _, he, h2 _ _ hI⟩
theorem i64_in {n : Int} (h : -9223372036854775808 ≤ n) (k : n ≤ 9223372036854775807) : IntKind.i64.wrap n = n := by
  simp [IntKind.wrap, IntKind.signed, IntKind.bits]; omega
theorem u64_in {n : Int} (h : 0 ≤ n) (k : n ≤ 18446744073709551615) : IntKind.u64.wrap n = n := by
  simp [IntKind.wrap, IntKind.signed, IntKind.bits]; omega
theorem u32_in {n : Int} (h : 0 ≤ n) (k : n ≤ 4294967295) : IntKind.u32.wrap n = n := by
  simp [IntKind.wrap, IntKind.signed, IntKind.bits]; omega
theorem u8_in {n : Int} (h : 0 ≤ n) (k : n ≤ 255) : IntKind.u8.wrap n = n := by
  simp [IntKind.wrap, IntKind.signed, IntKind.bits]; omega
theorem succ_in {j : Nat} (h : j < 9223372036854775807) : IntKind.i64.wrap ((j : Int) + 1) = ((j + 1 : Nat) : Int) := by
  rw [i64_in (by omega) (by omega)]; simp
theorem Tr.put_one {α : Type} (v u : Option α) : ∀ (n k : Nat), k < n → Tr.put v (Tr.one u n k) k = Tr.one v n k
  | 0, k, h => by omega
  | n + 1, 0, _ => rfl
  | n + 1, k + 1, h => by
    have ih := Tr.put_one v u n (k / 2) (by omega)
    simp only [Tr.one_succ, Tr.beq_mod]
    by_cases hp : k % 2 = 0
    · simp only [hp, decide_true, Tr.put_nd_succ, Tr.beq_mod, ih]
    · simp only [hp, decide_false, Tr.put_nd_succ, Tr.beq_mod, ih]
theorem Tr.put_put {α : Type} (v u : Option α) : ∀ (t : Tr α) (k : Nat), Tr.put v (Tr.put u t k) k = Tr.put v t k
  | .lf, k => by rw [Tr.put_lf, Tr.put_lf, Tr.put_one v u _ _ (by omega)]
  | .nd l x r, 0 => rfl
  | .nd l x r, k + 1 => by
    simp only [Tr.put_nd_succ, Tr.beq_mod]
    by_cases hp : k % 2 = 0
    · simp only [hp, decide_true, Tr.put_nd_succ, Tr.beq_mod, Tr.put_put v u l]
    · simp only [hp, decide_false, Tr.put_nd_succ, Tr.beq_mod, Tr.put_put v u r]
theorem St.put_put {s : St} {b : Nat} {o o' : AObj} : (s.put b o).put b o' = s.put b o' := by
  unfold St.put Tr.set
  simp only [Tr.put_put]
theorem St.put_new {s : St} {o o' : AObj} : (s.new o).put s.next o' = s.new o' := by
  unfold St.put St.new Tr.set
  simp only [Tr.put_put]
theorem St.put_new1 {s : St} {o p o' : AObj} : ((s.new o).new p).put (s.next + 1) o' = (s.new o).new o' := St.put_new
theorem cells_bool {b : Bool} : (.bool b : AV).cells = [.bool b] := rfl
theorem cell_bool {b : Bool} : (.bool b : AV).cell = true := rfl
theorem cells_int {k : IntKind} {n : Int} : (.int k n : AV).cells = [.int k n] := rfl
theorem cell_int {k : IntKind} {n : Int} : (.int k n : AV).cell = true := rfl
theorem cells_str {x : ByteArray} : (.str x : AV).cells = [.str x] := rfl
theorem cell_str {x : ByteArray} : (.str x : AV).cell = true := rfl
theorem cells_ptr {b o : Nat} : (.ptr b o : AV).cells = [.ptr b o] := rfl
theorem cell_ptr {b o : Nat} : (.ptr b o : AV).cell = true := rfl
theorem cells_nilPtr  : (.nilPtr : AV).cells = [.nilPtr] := rfl
theorem cell_nilPtr  : (.nilPtr : AV).cell = true := rfl
theorem cells_slice {b o n c : Nat} {l : Bool} : (.slice b o n c l : AV).cells = [.slice b o n c l] := rfl
theorem cell_slice {b o n c : Nat} {l : Bool} : (.slice b o n c l : AV).cell = true := rfl
theorem cells_nilSlice  : (.nilSlice : AV).cells = [.nilSlice] := rfl
theorem cell_nilSlice  : (.nilSlice : AV).cell = true := rfl
theorem cells_tail {b o a : Nat} : (.tail b o a : AV).cells = [.tail b o a] := rfl
theorem cell_tail {b o a : Nat} : (.tail b o a : AV).cell = true := rfl
theorem cells_map {r : Nat} : (.map r : AV).cells = [.map r] := rfl
theorem cell_map {r : Nat} : (.map r : AV).cell = true := rfl
theorem cells_nilMap  : (.nilMap : AV).cells = [.nilMap] := rfl
theorem cell_nilMap  : (.nilMap : AV).cell = true := rfl
theorem cells_fn {f : Fn} {a c : List AV} : (.fn f a c : AV).cells = [.fn f a c] := rfl
theorem cell_fn {f : Fn} {a c : List AV} : (.fn f a c : AV).cell = true := rfl
theorem cells_yld {r : Nat} : (.yld r : AV).cells = [.yld r] := rfl
theorem cell_yld {r : Nat} : (.yld r : AV).cell = true := rfl
theorem cells_nilFn  : (.nilFn : AV).cells = [.nilFn] := rfl
theorem cell_nilFn  : (.nilFn : AV).cell = true := rfl
theorem cells_iface {t : TypeId} {v : AV} : (.iface t v : AV).cells = [.iface t v] := rfl
theorem cell_iface {t : TypeId} {v : AV} : (.iface t v : AV).cell = true := rfl
theorem cells_nilIface  : (.nilIface : AV).cells = [.nilIface] := rfl
theorem cell_nilIface  : (.nilIface : AV).cell = true := rfl
theorem cells_tup {l : List AV} : (.tup l : AV).cells = [.tup l] := rfl
theorem cells_agg {l : List AV} : (AV.agg l).cells = l := rfl
attribute [go_sem] cells_bool cell_bool cells_int cell_int cells_str cell_str cells_ptr cell_ptr cells_nilPtr cell_nilPtr cells_slice cell_slice cells_nilSlice cell_nilSlice cells_tail cell_tail cells_map cell_map cells_nilMap cell_nilMap cells_fn cell_fn cells_yld cell_yld cells_nilFn cell_nilFn cells_iface cell_iface cells_nilIface cell_nilIface cells_tup cells_agg
attribute [go_sem] St.put_put St.put_new St.put_new1 cellsEq1 cellsEq2 cellsEq3
attribute [go_sem] Wk_seq Wk_skip Wk_exit Wk_ret Wk_region Wk_drawn0 Wk_cond Wi_t Wi_f Wr_sq Wr_lp Wr_bl_exit Wr_bl Wr_bl_ret Wr_sq_exit Wr_sq_ret Wr_lp_exit Wr_lp_ret Wo_nil Wo_nil' Wo_move Wo_pick Wo_alloc Wo_box Wo_build Wo_buildSlice Wo_load1 Wo_loadN Wo_store Wo_nilCheck Wo_bin Wo_un Wo_convInt Wo_convSame Wo_convStr Wo_convBytes Wo_mkIface Wo_mkFunc Wo_mkMap Wo_mkSlice Wo_sliceSl Wo_sliceStr Wo_sliceArr Wo_fieldAddr Wo_field Wo_idxArr Wo_idx1 Wo_idxAgg Wo_idxStr Wo_lookup Wo_mapUpd Wo_extract Wo_append Wo_appendN Wo_copy Wo_len0 Wo_len1 Wo_len2 len1_nil len1_tail len1_slice len1_raw Wo_lenArr Wo_cap Wo_minmax Wo_clear Wo_clearMap Wo_delete Wo_call Wo_guard Wx_some Wg_tt Wg_ff Wg_tf Wg_ft Wg_undef Wc_fn Wr_fin Wr_fin' Wy_some Dr.push
attribute [go_sem] xop evOf evs evO putT Tr.get_set Tr.get_lf binA intBin unA eqA aggEq boolEq nilEq nilOf initT ressA resA oneA loadA storeA splice allCell St.get_put St.get_new St.next_put St.next_new newA fillA partA foldMM indexA looksOk lookOk lookAll wantedA same sames
attribute [go_sem] Nat.add_zero Nat.zero_add if_true if_false ite_true ite_false List.length_cons List.length_nil List.getElem?_cons_succ List.getElem?_cons_zero List.drop_succ_cons List.drop_zero List.take_succ_cons List.take_zero List.cons_append List.nil_append List.append_nil Bool.and_true Bool.true_and and_true true_and and_self Bool.not_true Bool.not_false Option.some.injEq beq_self_eq_true bne_self_eq_false decide_true decide_false List.reverse_cons List.reverse_nil Nat.beq_refl false_implies implies_true imp_false not_false_eq_true
/-- What lay lies as it lay. -/
structure Fr (s s' : St) : Prop where
  le : s.next ≤ s'.next
  get : ∀ b, b < s.next → s'.get b = s.get b
/-- What lay, but for one block, lies as it lay. -/
structure FrX (x : Nat) (s s' : St) : Prop where
  le : s.next ≤ s'.next
  get : ∀ b, b < s.next → b ≠ x → s'.get b = s.get b

theorem Fr.refl (s : St) : Fr s s := ⟨Nat.le_refl _, fun _ _ => rfl⟩
theorem Fr.trans {a b c : St} (h : Fr a b) (k : Fr b c) : Fr a c := ⟨Nat.le_trans h.le k.le, fun x hx => (k.get x (Nat.lt_of_lt_of_le hx h.le)).trans (h.get x hx)⟩
theorem Fr.new {a b : St} (h : Fr a b) (o : AObj) : Fr a (b.new o) := ⟨Nat.le_succ_of_le h.le, fun x hx => by rw [St.get_new, if_neg (by have := h.le; omega)]; exact h.get x hx⟩
theorem Fr.put {a b : St} (h : Fr a b) {x : Nat} (hx : a.next ≤ x) (o : AObj) : Fr a (b.put x o) := ⟨h.le, fun y hy => by rw [St.get_put, if_neg (by omega)]; exact h.get y hy⟩
theorem Fr.drop {a b : St} (h : Fr a b) {x : Nat} (hx : a.next ≤ x) : Fr a (b.drop x) := ⟨h.le, fun y hy => by rw [St.get_drop, if_neg (by omega)]; exact h.get y hy⟩
theorem Fr.x {a b : St} (h : Fr a b) (x : Nat) : FrX x a b := ⟨h.le, fun y hy _ => h.get y hy⟩
theorem FrX.refl (x : Nat) (s : St) : FrX x s s := ⟨Nat.le_refl _, fun _ _ _ => rfl⟩
theorem FrX.then {x : Nat} {a b c : St} (h : FrX x a b) (k : Fr b c) : FrX x a c := ⟨Nat.le_trans h.le k.le, fun y hy hn => (k.get y (Nat.lt_of_lt_of_le hy h.le)).trans (h.get y hy hn)⟩
theorem FrX.trans {x : Nat} {a b c : St} (h : FrX x a b) (k : FrX x b c) : FrX x a c := ⟨Nat.le_trans h.le k.le, fun y hy hn => (k.get y (Nat.lt_of_lt_of_le hy h.le) hn).trans (h.get y hy hn)⟩
theorem FrX.new {x : Nat} {a b : St} (h : FrX x a b) (o : AObj) : FrX x a (b.new o) := ⟨Nat.le_succ_of_le h.le, fun y hy hn => by rw [St.get_new, if_neg (by have := h.le; omega)]; exact h.get y hy hn⟩
theorem FrX.put {x : Nat} {a b : St} (h : FrX x a b) {z : Nat} (hx : z = x ∨ a.next ≤ z) (o : AObj) : FrX x a (b.put z o) := ⟨h.le, fun y hy hn => by rw [St.get_put, if_neg (by omega)]; exact h.get y hy hn⟩

theorem eq_next_f {b : Nat} {s : St} (h : b < s.next) : (b = s.next) = False := by simp; omega
theorem eq_next_f' {b : Nat} {s : St} (h : b < s.next) : (s.next = b) = False := by simp; omega
theorem eq_next_k {b k : Nat} {s : St} (h : b < s.next) : (b = s.next + k) = False := by simp; omega
theorem eq_next_k' {b k : Nat} {s : St} (h : b < s.next) : (s.next + k = b) = False := by simp; omega
end Go.Proofs.YtobogmklajeekaaGreat.D
namespace Go.Proofs.YtobogmklajeekaaGreat.D
noncomputable section
open Go.RowKit
variable {P : Program}

def isCells (w : World) (b : Nat) : Bool :=
  match w.heap[b]? with
  | some (.cells ..) => true
  | _ => false

/-- A value of the memory that a law finds; what isn't read stays as it is. -/
def absA (w : World) (v : Value) : AV :=
  match v with
  | .bool b => .bool b
  | .int k n => .int k n
  | .string s => .str s
  | .pointer none => .nilPtr
  | .pointer (some ⟨b, o, none⟩) => if isCells w b then .ptr b o else .raw (.pointer (some ⟨b, o, none⟩))
  | .slice none 0 0 => .nilSlice
  | .slice (some ⟨b, o, none⟩) len cap => if isCells w b then .slice b o len cap false else .raw (.slice (some ⟨b, o, none⟩) len cap)
  | v => .raw v

def mu0 (w : World) : Place := fun b => if isCells w b then some (b, 0) else none

theorem mu0_some {w : World} {b : Nat} (h : isCells w b = true) : mu0 w b = some (b, 0) := if_pos h

theorem conc_absA (w : World) (v : Value) : conc (mu0 w) (absA w v) = some v := by
  unfold absA
  split
  · rfl
  · rfl
  · rfl
  · rfl
  · split
    · rename_i h; simp [conc, mu0_some h]
    · rfl
  · rfl
  · split
    · rename_i h; simp [conc, mu0_some h]
    · rfl
  · rfl

theorem concs_absA (w : World) : ∀ l : List Value, concs (mu0 w) (l.map (absA w)) = some l
  | [] => rfl
  | v :: r => by simp [concs, conc_absA, concs_absA w r]

def st0 (w : World) : St where
  heap := .lf
  base b := match w.heap[b]? with
    | some (.cells c _ _) => some (.cells (c.toList.map (absA w)) false true 0)
    | _ => none
  next := w.heap.size

theorem get_st0 (w : World) (b : Nat) : (st0 w).get b = match w.heap[b]? with
    | some (.cells c _ _) => some (.cells (c.toList.map (absA w)) false true 0)
    | _ => none := by
  unfold St.get
  show (match (Tr.lf : Tr (Option AObj)).get b with | some o => o | none => (st0 w).base b) = _
  rw [Tr.get_lf]
  rfl

theorem get_st0_some {w : World} {b : Nat} {o : AObj} (h : (st0 w).get b = some o) : ∃ c e fz, w.heap[b]? = some (.cells c e fz) ∧ o = .cells (c.toList.map (absA w)) false true 0 ∧ isCells w b = true := by
  rw [get_st0] at h
  split at h
  · rename_i c e fz hc
    cases h
    exact ⟨c, e, fz, hc, rfl, by unfold isCells; rw [hc]⟩
  · cases h

theorem isCells_lt {w : World} {b : Nat} (h : isCells w b = true) : b < w.heap.size := by
  unfold isCells at h
  split at h
  · rename_i hc
    exact (Array.getElem?_eq_some_iff.1 hc).1
  · cases h

theorem hr0 (R : Nat) (w : World) : HR P R (mu0 w) (st0 w) w where
  obj b o h := by
    obtain ⟨c, e, fz, h1, rfl, h3⟩ := get_st0_some h
    exact ⟨(b, 0), mu0_some h3, c, e, fz, c.toList, [], h1, concs_absA w _, by simp, by simp, fun _ => rfl, fun h => by cases h⟩
  inj b c o o' p q h1 h2 hp hq e := by
    obtain ⟨_, _, _, _, _, h3⟩ := get_st0_some h1
    obtain ⟨_, _, _, _, _, h4⟩ := get_st0_some h2
    rw [mu0_some h3] at hp; cases hp
    rw [mu0_some h4] at hq; cases hq
    exact e
  lt b p h := by
    unfold mu0 at h
    split at h
    · rename_i hb
      cases h
      exact ⟨isCells_lt hb, .inl (isCells_lt hb)⟩
    · cases h
  dom b o h := by
    obtain ⟨_, _, _, _, _, h3⟩ := get_st0_some h
    exact isCells_lt h3

theorem below0 {w w' : World} {ν : Place} {s' : St} (h : Mv (mu0 w) (st0 w) w ν s' w') : Below w.heap.size w w' where
  os := h.os
  tape := h.tape.eq
  output := h.output
  size := h.size
  block k hk := by
    by_cases hc : isCells w k = true
    · have : ∃ c, (st0 w).get k = some (.cells c false true 0) := by
        have hc' := hc
        unfold isCells at hc'
        split at hc'
        · rename_i hx; rw [get_st0, hx]; exact ⟨_, rfl⟩
        · cases hc'
      obtain ⟨c, hg⟩ := this
      exact (h.ro k c false 0 (k, 0) hg (mu0_some hc)).2
    · refine h.frame k hk fun b p _ hb => ?_
      unfold mu0 at hb
      split at hb
      · rename_i hb'
        cases hb
        intro e
        exact hc (by have : b = k := e; rw [← this]; exact hb')
      · cases hb

/-- A run of the abstract machine over what a law finds is a run of the law. -/
theorem calls_of_W {M : Mach} (hm : P.follows .mixedOrders = true) (hFT : FnsOk P M.FT) (hSM : SumsOk P M.SM) (hSN : SumsNext M.SM) {f : Nat} {args : List Value} {w : World}
    (h : Wf M f (args.map (fun v => match v with | .agg cs => .agg (cs.toList.map (absA w)) | v => absA w v)) (st0 w) fun v _ => v = .bool true) :
    Calls P f args.toArray w fun e w' => e = .returned (.bool true) ∧ Below w.heap.size w w' := by
  obtain ⟨v, s', hx, rfl⟩ := h
  obtain ⟨n, hn⟩ := (sup_lim M.FT M.SM).call _ _ _ _ hx
  have hc : ∀ l : List Value, concs (mu0 w) (l.map (fun v => match v with | .agg cs => .agg (cs.toList.map (absA w)) | v => absA w v)) = some l := by
    intro l
    induction l with
    | nil => rfl
    | cons v r ih =>
      simp only [List.map_cons, concs, ih, Option.map_some]
      cases v with
      | agg cs => simp [conc, concs_absA]
      | _ => simp only [conc_absA, Option.bind_some]
  have := ((eng_sound hm hFT hSM hSN n).call hn (Nat.le_refl _) (hr0 s'.next w) (hc args)).2 0
  refine callsIn_wide.1 (this.mono ?_)
  intro e w' hr
  cases e with
  | returned c =>
    obtain ⟨ν, h1, _, h3⟩ := hr
    simp only [conc, Option.some.injEq] at h1
    subst h1
    exact ⟨rfl, below0 h3⟩
  | panicked _ => exact hr.elim
  | outgrown => exact hr.elim

/-! ### What arguments hold -/

inductive Ty where
  | bool
  | int (k : IntKind)
  | str
  | slice (e : Ty)
  | many (l : List Ty)

mutual
def Ty.size : Ty → Nat
  | .many l => sizes l
  | _ => 1
def sizes : List Ty → Nat
  | [] => 0
  | t :: r => t.size + sizes r
end

mutual
/-- Cells that hold a value of a type. -/
def Ok (s : St) : Ty → List AV → Prop
  | .bool, l => ∃ b, l = [.bool b]
  | .int k, l => ∃ n, l = [.int k n] ∧ k.min ≤ n ∧ n ≤ k.max
  | .str, l => ∃ x : ByteArray, l = [.str x] ∧ x.size ≤ maxLen
  | .slice e, l => l = [.nilSlice] ∨ (∃ a, l = [.raw (.slice a 0 0)]) ∨ ∃ b o len cap vs, l = [.slice b o len cap false] ∧ len ≤ cap ∧ cap ≤ maxLen ∧ s.get b = some (.cells vs false true 0) ∧ b < s.next ∧
      (0 < cap → o + cap * e.size ≤ vs.length) ∧ ∀ i, i < cap → Ok s e ((vs.drop (o + i * e.size)).take e.size)
  | .many ts, l => OkAll s ts l
def OkAll (s : St) : List Ty → List AV → Prop
  | [], l => l = []
  | t :: ts, l => ∃ a b, l = a ++ b ∧ Ok s t a ∧ OkAll s ts b
end

section
variable (P)
def tyFs (tf : TypeId → Option Ty) : List Field → Nat → Option (List Ty)
  | [], _ => some []
  | f :: r, off => match tf f.type with
    | none => none
    | some T => if f.offset == off && T.size == P.cellsOf f.type then match tyFs tf r (off + T.size) with
      | some l => some (T :: l)
      | none => none
    else none

def tyOf : Nat → TypeId → Option Ty
  | 0, _ => none
  | d + 1, t => match P.underlying t with
    | some .bool => some .bool
    | some (.int k) => some (.int k)
    | some .string => some .str
    | some (.slice e) => match tyOf d e with
      | some T => if T.size == P.cellsOf e && Nat.ble 1 T.size then some (.slice T) else none
      | none => none
    | some (.struct fs) => match tyFs P (tyOf d) fs.toList 0 with
      | some l => if sizes l == P.cellsOf t then some (.many l) else none
      | none => none
    | some (.array n e) => match tyOf d e with
      | some T => if T.size == P.cellsOf e && n * T.size == P.cellsOf t then some (.many (List.replicate n T)) else none
      | none => none
    | _ => none
end

theorem mapM_some {α β : Type} {f : α → Option β} : ∀ {l : List α} {r : List β}, l.mapM f = some r → ∀ x ∈ l, ∃ y, f x = some y
  | [], _, _, x, hx => by cases hx
  | a :: l, r, h, x, hx => by
    simp only [List.mapM_cons, Option.bind_eq_bind, Option.bind_eq_some_iff] at h
    obtain ⟨y, h1, z, h2, _⟩ := h
    cases hx with
    | head => exact ⟨y, h1⟩
    | tail _ hx => exact mapM_some h2 x hx

theorem mapM_get {α β : Type} {f : α → Option β} : ∀ {l : List α} {r : List β}, l.mapM f = some r → r.length = l.length ∧ ∀ i (hi : i < l.length), ∃ y, f l[i] = some y ∧ r[i]? = some y
  | [], r, h => by
    simp only [List.mapM_nil, Option.pure_def, Option.some.injEq] at h
    subst h
    exact ⟨rfl, fun i hi => by simp at hi⟩
  | a :: l, r, h => by
    simp only [List.mapM_cons, Option.bind_eq_bind, Option.bind_eq_some_iff, Option.pure_def, Option.some.injEq] at h
    obtain ⟨y, h1, z, h2, rfl⟩ := h
    obtain ⟨g1, g2⟩ := mapM_get h2
    refine ⟨by simp [g1], fun i hi => ?_⟩
    cases i with
    | zero => exact ⟨y, h1, rfl⟩
    | succ i => obtain ⟨u, u1, u2⟩ := g2 i (by simpa using hi); exact ⟨u, by simpa using u1, by simpa using u2⟩

theorem cell_read {w : World} {b o : Nat} {sp : Option Nat} {y : Value} (hy : w.cell? ⟨b, o, sp⟩ = some y) : sp = none ∧ ∃ c e fz, w.heap[b]? = some (.cells c e fz) ∧ c[o]? = some y := by
  unfold World.cell? at hy
  split at hy
  · rename_i c e fz hc
    cases sp with
    | none => exact ⟨rfl, c, e, fz, hc, by simpa using hy⟩
    | some x => simp at hy
  · cases hy

/-- Cells that are read from an address on. -/
theorem cells_read {w : World} {b o n : Nat} {sp : Option Nat} {cs : List Value} (hn : 0 < n) (h : w.cells? 0 ⟨b, o, sp⟩ n = some cs) :
    sp = none ∧ ∃ c e fz, w.heap[b]? = some (.cells c e fz) ∧ o + n ≤ c.size ∧ cs = (c.toList.drop o).take n := by
  unfold World.cells? at h
  rw [if_pos (Nat.zero_le _)] at h
  obtain ⟨g1, g2⟩ := mapM_get h
  obtain ⟨y0, hy0, _⟩ := g2 0 (by simpa using hn)
  obtain ⟨rfl, c, e, fz, hc, _⟩ := cell_read (by simpa [Addr.add] using hy0)
  have cellOf : ∀ i, i < n → ∃ y, c[o + i]? = some y ∧ cs[i]? = some y := by
    intro i hi
    obtain ⟨y, h1, h2⟩ := g2 i (by simpa using hi)
    have h1' : w.cell? ⟨b, o + i, none⟩ = some y := by
      rw [List.getElem_range] at h1
      unfold Addr.add at h1
      split at h1
      · rename_i hz; subst hz; exact h1
      · exact h1
    obtain ⟨_, c', _, _, hc', hcc⟩ := cell_read h1'
    rw [hc] at hc'; cases hc'
    exact ⟨y, hcc, h2⟩
  refine ⟨rfl, c, e, fz, hc, ?_, ?_⟩
  · obtain ⟨y, hcc, _⟩ := cellOf (n - 1) (by omega)
    have := (Array.getElem?_eq_some_iff.1 hcc).1
    omega
  · apply List.ext_getElem?
    intro i
    by_cases hi : i < n
    · obtain ⟨y, hcc, hy'⟩ := cellOf i hi
      rw [hy', List.getElem?_take, if_pos hi, List.getElem?_drop]
      simpa using hcc.symm
    · rw [List.getElem?_take, if_neg hi]
      exact List.getElem?_eq_none (by rw [g1]; simp; omega)

theorem sizes_replicate (n : Nat) (T : Ty) : sizes (List.replicate n T) = n * T.size := by
  induction n with
  | zero => simp [sizes]
  | succ n ih => simp [List.replicate_succ, sizes, ih, Nat.succ_mul]; omega

section
variable {H : Type} {enc : TypeId × Value → H} {w : World}

/-- What reading a value of a type has shown. -/
def Shown (P : Program) (enc : TypeId × Value → H) (w : World) (d : Nat) : Prop :=
  ∀ (t : TypeId) (T : Ty) (fuel : Nat) (cs : List Value) (r : DataW H × List MemPlace), tyOf P d t = some T → DataW.trod enc P w 0 (fun _ => true) true fuel t cs = some r → cs.length = T.size ∧ Ok (st0 w) T (cs.map (absA w))

theorem fields_ok {d fuel : Nat} (ih : Shown P enc w d) {cs : List Value} : ∀ {fs : List Field} {off : Nat} {l : List Ty}, tyFs P (tyOf P d) fs off = some l →
    (∀ f ∈ fs, ∃ y, DataW.trod enc P w 0 (fun _ => true) true fuel f.type ((cs.drop f.offset).take (P.cellsOf f.type)) = some y) → off + sizes l = cs.length → OkAll (st0 w) l ((cs.drop off).map (absA w))
  | [], off, l, h, _, hs => by
    simp only [tyFs, Option.some.injEq] at h
    subst h
    simp only [sizes, Nat.add_zero] at hs
    simp [OkAll, hs]
  | f :: fs, off, l, h, ha, hs => by
    simp only [tyFs] at h
    split at h
    case h_1 => cases h
    rename_i T hT
    split at h
    case isFalse => cases h
    rename_i hc
    simp only [Bool.and_eq_true, beq_iff_eq] at hc
    split at h
    case h_2 => cases h
    rename_i l' hl'
    cases h
    obtain ⟨y, hy⟩ := ha f (List.mem_cons_self ..)
    obtain ⟨h1, h2⟩ := ih _ _ _ _ _ hT hy
    simp only [sizes] at hs
    have h3 := fields_ok ih hl' (fun g hg => ha g (List.mem_cons_of_mem _ hg)) (by omega)
    rw [hc.1, ← hc.2] at h2
    refine ⟨_, _, ?_, h2, h3⟩
    rw [← List.map_append]
    congr 1
    rw [← List.drop_drop, List.take_append_drop]

theorem elems_ok {d fuel n e : Nat} (ih : Shown P enc w d) {T : Ty} (hT : tyOf P d e = some T) (hz : T.size = P.cellsOf e) {cs : List Value}
    (ha : ∀ i, i < n → ∃ y, DataW.trod enc P w 0 (fun _ => true) true fuel e ((cs.drop (i * P.cellsOf e)).take (P.cellsOf e)) = some y) (hs : n * T.size = cs.length) :
    ∀ m k, k + m = n → OkAll (st0 w) (List.replicate m T) ((cs.drop (k * T.size)).map (absA w))
  | 0, k, hk => by
    have : k = n := by omega
    subst this
    simp [OkAll, hs]
  | m + 1, k, hk => by
    obtain ⟨y, hy⟩ := ha k (by omega)
    obtain ⟨h1, h2⟩ := ih _ _ _ _ _ hT hy
    have h3 := elems_ok ih hT hz ha hs m (k + 1) (by omega)
    rw [← hz] at h2
    refine ⟨_, _, ?_, h2, h3⟩
    rw [← List.map_append]
    congr 1
    rw [Nat.succ_mul, ← List.drop_drop, List.take_append_drop]

theorem shown : ∀ d, Shown P enc w d
  | 0 => fun t T fuel cs r hT _ => by cases hT
  | d + 1 => by
    intro t T fuel cs r hT hr
    have ih := shown d
    cases fuel with
    | zero => simp [DataW.trod] at hr
    | succ fuel =>
      simp only [tyOf] at hT
      split at hT
      · rename_i hu
        cases hT
        unfold DataW.trod at hr
        rw [hu] at hr
        split at hr <;> simp_all [Ty.size, Ok, absA]
      · rename_i k hu
        cases hT
        unfold DataW.trod at hr
        rw [hu] at hr
        split at hr <;> simp_all [Ty.size, Ok, absA, Lit.wf]
      · rename_i hu
        cases hT
        unfold DataW.trod at hr
        rw [hu] at hr
        split at hr <;> simp_all [Ty.size, Ok, absA]
      · rename_i e hu
        split at hT
        case h_2 => cases hT
        rename_i E hE
        split at hT
        case isFalse => cases hT
        rename_i hc
        simp only [Bool.and_eq_true, beq_iff_eq] at hc
        obtain ⟨hc1, hc2⟩ := hc
        have hc3 : 1 ≤ E.size := Nat.le_of_ble_eq_true hc2
        cases hT
        unfold DataW.trod at hr
        rw [hu] at hr
        split at hr
        all_goals try (rename_i h _; cases h; done)
        all_goals try (rename_i h; cases h; done)
        all_goals try (cases hr; done)
        · exact ⟨rfl, .inl rfl⟩
        · rename_i e' a len cap he
          cases he
          dsimp only at hr
          split at hr
          case isFalse => cases hr
          rename_i hlc
          simp only [Option.bind_eq_some_iff, Option.map_eq_some_iff, if_true] at hr
          obtain ⟨elems, hel, rest, hre, _⟩ := hr
          have hat : ∀ i, i < cap → ∃ cs', w.cells? 0 (a.add (i * P.cellsOf e)) (P.cellsOf e) = some cs' ∧ ∃ y, DataW.trod enc P w 0 (fun _ => true) true fuel e cs' = some y := by
            intro i hi
            by_cases hil : i < len
            · obtain ⟨y, hy⟩ := mapM_some hel i (by simpa using hil)
              simp only [Option.bind_eq_some_iff] at hy
              obtain ⟨cs', h1, h2⟩ := hy
              exact ⟨cs', h1, y, h2⟩
            · obtain ⟨y, hy⟩ := mapM_some hre (i - len) (by simp; omega)
              simp only [Option.bind_eq_some_iff] at hy
              obtain ⟨cs', h1, h2⟩ := hy
              rw [show len + (i - len) = i by omega] at h1
              exact ⟨cs', h1, y, h2⟩
          refine ⟨rfl, ?_⟩
          obtain ⟨b, o, sp⟩ := a
          by_cases hcap : cap = 0
          · subst hcap
            have : len = 0 := by omega
            subst this
            cases sp with
            | some x => exact .inr (.inl ⟨_, rfl⟩)
            | none =>
              cases hb : isCells w b with
              | false =>
                refine .inr (.inl ⟨some ⟨b, o, none⟩, ?_⟩)
                simp [absA, hb]
              | true =>
                have hb' := hb
                unfold isCells at hb
                split at hb
                · rename_i c el fz hx
                  refine .inr (.inr ⟨b, o, 0, 0, c.toList.map (absA w), by simp [absA, hb'], Nat.le_refl _, hlc.2.2, by rw [get_st0, hx], isCells_lt hb', fun h => by omega, fun i hi => by omega⟩)
                · cases hb
          · obtain ⟨cs0, h0, _⟩ := hat 0 (by omega)
            rw [Nat.zero_mul] at h0
            obtain ⟨rfl, c, el, fz, hx, _, _⟩ := cells_read (by omega) (show w.cells? 0 ⟨b, o, sp⟩ (P.cellsOf e) = some cs0 from h0)
            have hb : isCells w b = true := by unfold isCells; rw [hx]
            have row : ∀ i, i < cap → o + i * E.size + E.size ≤ c.size ∧ Ok (st0 w) E ((((c.toList.map (absA w)).drop (o + i * E.size)).take E.size)) := by
              intro i hi
              obtain ⟨cs', h1, y, h2⟩ := hat i hi
              have e1 : (⟨b, o, none⟩ : Addr).add (i * P.cellsOf e) = ⟨b, o + i * P.cellsOf e, none⟩ := by
                unfold Addr.add
                split
                · rename_i hz; rw [hz]; rfl
                · rfl
              rw [e1] at h1
              obtain ⟨_, c', _, _, hx', hle, rfl⟩ := cells_read (by omega) h1
              rw [hx] at hx'; cases hx'
              obtain ⟨_, g2⟩ := ih _ _ _ _ _ hE h2
              rw [← hc1] at hle g2
              refine ⟨hle, ?_⟩
              rw [List.map_take, List.map_drop] at g2
              exact g2
            refine .inr (.inr ⟨b, o, len, cap, c.toList.map (absA w), by simp [absA, hb], hlc.2.1, hlc.2.2, by rw [get_st0, hx], isCells_lt hb, fun _ => ?_, fun i hi => (row i hi).2⟩)
            have := (row (cap - 1) (by omega)).1
            have hm : cap * E.size = (cap - 1) * E.size + E.size := by
              rw [← Nat.succ_mul]; congr 1; omega
            simp; omega
      · rename_i fs hu
        split at hT
        case h_2 => cases hT
        rename_i l hl
        split at hT
        case isFalse => cases hT
        rename_i hc
        simp only [beq_iff_eq] at hc
        cases hT
        unfold DataW.trod at hr
        rw [hu] at hr
        split at hr
        all_goals try (rename_i h _; cases h; done)
        all_goals try (rename_i h; cases h; done)
        all_goals try (cases hr; done)
        all_goals try (exact (‹∀ fs' : Array Field, some (TypeDesc.struct fs) = some (TypeDesc.struct fs') → False› fs rfl).elim)
        rename_i fs' _ he
        cases he
        split at hr
        case isFalse => cases hr
        rename_i hlen
        simp only [Option.map_eq_some_iff] at hr
        obtain ⟨xs, hxs, _⟩ := hr
        refine ⟨by rw [hlen, ← hc]; rfl, ?_⟩
        have := fields_ok ih hl (fun f hf => mapM_some hxs f hf) (by omega)
        simpa [Ok] using this
      · rename_i n e hu
        split at hT
        case h_2 => cases hT
        rename_i E hE
        split at hT
        case isFalse => cases hT
        rename_i hc
        simp only [Bool.and_eq_true, beq_iff_eq] at hc
        cases hT
        unfold DataW.trod at hr
        rw [hu] at hr
        split at hr
        all_goals try (rename_i h _; cases h; done)
        all_goals try (rename_i h; cases h; done)
        all_goals try (cases hr; done)
        all_goals try (exact (‹∀ (n' : Nat) (e' : TypeId), some (TypeDesc.array n e) = some (TypeDesc.array n' e') → False› n e rfl).elim)
        rename_i n' e' _ he
        cases he
        split at hr
        case isFalse => cases hr
        rename_i hlen
        simp only [Option.map_eq_some_iff] at hr
        obtain ⟨xs, hxs, _⟩ := hr
        refine ⟨by rw [hlen, ← hc.2]; simp [Ty.size, sizes_replicate], ?_⟩
        have := elems_ok ih hE hc.1 (fun i hi => mapM_some hxs i (by simpa using hi)) (by rw [hlen, hc.2]) n 0 (by omega)
        simpa [Ok] using this
      · cases hT
end
end
end Go.Proofs.YtobogmklajeekaaGreat.D
namespace Go.Proofs.YtobogmklajeekaaGreat.D
noncomputable section
open Go.RowKit
variable {P : Program} {H : Type} {enc : TypeId × Value → H} {W W' : World}

def carries (P : Program) (ts : List TypeId) : Bool := ts.all fun t => P.readableRec t && decide (t < P.types.size)

theorem trodAll_stays (hl : laidOutB P = true) (hb : Below W.heap.size W W') {sp : Nat → Bool} : ∀ {ts : List TypeId} {vs : List Value} {ds : List (DataW H)} {ps : List MemPlace}, carries P ts = true → DataW.TrodAll enc P W 0 (fun _ => true) true ts vs ds ps →
    (∀ x ∈ ps, x.block < W.heap.size) → (∀ x ∈ ps, sp x.block = true) → DataW.TrodAll enc P W' 0 sp true ts vs ds ps
  | [], [], [], ps, _, h, _, _ => h
  | t :: ts, v :: vs, d :: ds, ps, hc, h, hlt, hsp => by
    obtain ⟨p, q, h1, h2, rfl⟩ := h
    simp only [carries, List.all_cons, Bool.and_eq_true, decide_eq_true_eq] at hc
    refine ⟨p, q, ?_, trodAll_stays hl hb (by simpa [carries] using hc.2) h2 (fun x hx => hlt x (List.mem_append_right _ hx)) (fun x hx => hsp x (List.mem_append_right _ hx)), rfl⟩
    exact WideElems.Trod_stays hl hc.1.1 hc.1.2 h1 (fun x hx => hb.same (hlt x (List.mem_append_left _ hx))) (fun x hx => hsp x (List.mem_append_left _ hx))
  | [], _ :: _, _, _, _, h, _, _ => h.elim
  | [], [], _ :: _, _, _, h, _, _ => h.elim
  | _ :: _, [], _, _, _, h, _, _ => h.elim
  | _ :: _, _ :: _, [], _, _, h, _, _ => h.elim

/-- An argument, as the abstract machine's. -/
def absArg (w : World) (v : Value) : AV :=
  match v with
  | .agg cs => .agg (cs.toList.map (absA w))
  | v => absA w v

/-- What an argument of a type holds. -/
def ArgOk (s : St) : Ty → AV → Prop
  | .many ts, a => ∃ l, a = .agg l ∧ OkAll s ts l
  | T, a => Ok s T [a]

def ArgsOk (s : St) : List Ty → List AV → Prop
  | [], [] => True
  | T :: Ts, a :: as => ArgOk s T a ∧ ArgsOk s Ts as
  | _, _ => False

def tysOf (P : Program) (d : Nat) : List TypeId → Option (List Ty)
  | [] => some []
  | t :: ts => match tyOf P d t with
    | none => none
    | some T => match tysOf P d ts with
      | none => none
      | some Ts => some (T :: Ts)

theorem cells_not_agg {v : Value} (h : ∀ cs, v ≠ .agg cs) : v.cells.toList = [v] := by
  cases v <;> first | rfl | exact (h _ rfl).elim

theorem absArg_not_agg {w : World} {v : Value} (h : ∀ cs, v ≠ .agg cs) : absArg w v = absA w v := by
  cases v <;> first | rfl | exact (h _ rfl).elim

theorem cell_not_agg {P : Program} {w : World} {r : Reach} {base : Nat} {t : TypeId} {cs : Array Value} : ¬ Cell.okWide P w r base t (.agg cs) := by
  intro h
  unfold Cell.okWide Cell.ok at h
  repeat' split at h
  all_goals try exact h
  all_goals simp_all

theorem arg_ok {base : Nat} {d : Nat} {t : TypeId} {T : Ty} (hT : tyOf P d t = some T) {v : Value} {x : DataW H} {ps : List MemPlace} (h : DataW.Trod enc P W 0 (fun _ => true) true t v x ps) (ho : Value.okWide P W .any base t v) : ArgOk (st0 W) T (absArg W v) := by
  obtain ⟨fuel, hf⟩ := h
  obtain ⟨_, h2⟩ := shown d t T fuel _ _ hT hf
  have scalar : (∀ l, T ≠ .many l) → ArgOk (st0 W) T (absArg W v) := by
    intro hne
    have hna : ∀ cs, v ≠ .agg cs := by
      intro cs e
      subst e
      unfold Value.okWide at ho
      cases d with
      | zero => cases hT
      | succ d =>
        simp only [tyOf] at hT
        split at hT
        · rename_i hu; rw [hu] at ho; exact cell_not_agg ho
        · rename_i hu; rw [hu] at ho; exact cell_not_agg ho
        · rename_i hu; rw [hu] at ho; exact cell_not_agg ho
        · rename_i hu; rw [hu] at ho; exact cell_not_agg ho
        · split at hT
          · split at hT
            · cases hT; exact hne _ rfl
            · cases hT
          · cases hT
        · split at hT
          · split at hT
            · cases hT; exact hne _ rfl
            · cases hT
          · cases hT
        · cases hT
    rw [absArg_not_agg hna]
    rw [cells_not_agg hna] at h2
    cases T with
    | many l => exact (hne l rfl).elim
    | _ => exact h2
  cases T with
  | many l =>
    have : ∃ cs, v = .agg cs := by
      unfold Value.okWide at ho
      cases d with
      | zero => cases hT
      | succ d =>
        simp only [tyOf] at hT
        split at hT
        · cases hT
        · cases hT
        · cases hT
        · repeat' split at hT
          all_goals cases hT
        · rename_i fs hu
          rw [hu] at ho
          obtain ⟨cs, h, _⟩ := ho
          exact ⟨cs, h⟩
        · rename_i n e hu
          rw [hu] at ho
          obtain ⟨cs, h, _⟩ := ho
          exact ⟨cs, h⟩
        · cases hT
    obtain ⟨cs, rfl⟩ := this
    exact ⟨_, rfl, h2⟩
  | _ => exact scalar (fun l => by intro h; cases h)

theorem args_ok {base : Nat} {d : Nat} : ∀ {ts : List TypeId} {Ts : List Ty} {vs : List Value} {ds : List (DataW H)} {ps : List MemPlace}, tysOf P d ts = some Ts → DataW.TrodAll enc P W 0 (fun _ => true) true ts vs ds ps →
    (∀ (j : Nat) t v, ts[j]? = some t → vs[j]? = some v → Value.okWide P W .any base t v) → ArgsOk (st0 W) Ts (vs.map (absArg W))
  | [], Ts, [], [], ps, hT, _, _ => by cases hT; trivial
  | t :: ts, Ts, v :: vs, d' :: ds, ps, hT, h, ho => by
    simp only [tysOf] at hT
    split at hT
    case h_1 => cases hT
    rename_i T h1
    split at hT
    case h_1 => cases hT
    rename_i Ts' h2
    cases hT
    obtain ⟨p, q, g1, g2, rfl⟩ := h
    exact ⟨arg_ok h1 g1 (ho 0 t v rfl rfl), args_ok h2 g2 (fun j t v a b => ho (j + 1) t v (by simpa using a) (by simpa using b))⟩
  | [], _, _ :: _, _, _, _, h, _ => h.elim
  | [], _, [], _ :: _, _, _, h, _ => h.elim
  | _ :: _, _, [], _, _, _, h, _ => h.elim
  | _ :: _, _, _ :: _, [], _, _, h, _ => h.elim

theorem argsOk_nil {s : St} {a : List AV} (h : ArgsOk s [] a) : a = [] := by
  cases a with
  | nil => rfl
  | cons _ _ => exact h.elim
theorem argsOk_cons {s : St} {T : Ty} {Ts : List Ty} {a : List AV} (h : ArgsOk s (T :: Ts) a) : ∃ x r, a = x :: r ∧ ArgOk s T x ∧ ArgsOk s Ts r := by
  cases a with
  | nil => exact h.elim
  | cons x r => exact ⟨x, r, rfl, h.1, h.2⟩
theorem argOk_int {s : St} {k : IntKind} {x : AV} (h : ArgOk s (.int k) x) : ∃ n, x = .int k n ∧ k.min ≤ n ∧ n ≤ k.max := by
  obtain ⟨n, h1, h2⟩ := h
  cases h1
  exact ⟨n, rfl, h2⟩
theorem argOk_bool {s : St} {x : AV} (h : ArgOk s .bool x) : ∃ b, x = .bool b := by
  obtain ⟨n, h1⟩ := h
  cases h1
  exact ⟨n, rfl⟩
theorem argOk_slice {s : St} {e : Ty} {x : AV} (h : ArgOk s (.slice e) x) : x = .nilSlice ∨ (∃ a, x = .raw (.slice a 0 0)) ∨ ∃ b o len cap vs, x = .slice b o len cap false ∧ len ≤ cap ∧ cap ≤ maxLen ∧ s.get b = some (.cells vs false true 0) ∧ b < s.next ∧
      (0 < cap → o + cap * e.size ≤ vs.length) ∧ ∀ i, i < cap → Ok s e ((vs.drop (o + i * e.size)).take e.size) := by
  rcases h with h | ⟨a, h⟩ | ⟨b, o, len, cap, vs, h, h'⟩
  · cases h; exact .inl rfl
  · cases h; exact .inr (.inl ⟨a, rfl⟩)
  · cases h; exact .inr (.inr ⟨b, o, len, cap, vs, rfl, h'⟩)

/-- The run of a law. -/
theorem calls_of_args {M : Mach} (hm : P.follows .mixedOrders = true) (hFT : FnsOk P M.FT) (hSM : SumsOk P M.SM) (hSN : SumsNext M.SM) {f : Nat} {Ts : List Ty} (h : ∀ s as, ArgsOk s Ts as → Wf M f as s fun v _ => v = .bool true)
    {args : List Value} (ha : ArgsOk (st0 W) Ts (args.map (absArg W))) : Calls P f args.toArray W fun e w' => e = .returned (.bool true) ∧ Below W.heap.size W w' :=
  calls_of_W hm hFT hSM hSN (h _ _ ha)
end
end Go.Proofs.YtobogmklajeekaaGreat.D
namespace Go.Proofs.YtobogmklajeekaaGreat.D
set_option linter.unusedSimpArgs false
noncomputable section

/-- A slice that came in, its elements' cells one by one, and where they lie. -/
structure Acc (s : St) (v : AV) (sz : Nat) (xs : List (List AV)) (b o : Nat) : Prop where
  len : ∀ s', len1 (some v) s' = some (.int .i64 (xs.length : Nat), s')
  idx : ∀ s' (j : Nat), j < xs.length → idx1 sz (some v) (some (.int .i64 (j : Int))) s' = some (.ptr b (o + j * sz), s')
  at_ : ∀ j (h : j < xs.length), ∃ vs, s.get b = some (.cells vs false true 0) ∧ o + (j * sz + sz) ≤ vs.length ∧ (vs.drop (o + j * sz)).take sz = xs[j]
  lt : 0 < xs.length → b < s.next
  cell : v.cell = true
  cells : v.cells = [v]
  max : xs.length ≤ maxLen
  form : 0 < xs.length → ∃ cap, v = .slice b o xs.length cap false ∧ xs.length ≤ cap ∧ cap ≤ maxLen

theorem Acc.mono {s s' : St} {v : AV} {sz : Nat} {xs : List (List AV)} {b o : Nat} (h : Acc s v sz xs b o) (f : Fr s s') : Acc s' v sz xs b o where
  len := h.len
  idx := h.idx
  at_ j hj := by
    obtain ⟨vs, h1, h2⟩ := h.at_ j hj
    exact ⟨vs, (f.get b (h.lt (by omega))).trans h1, h2⟩
  lt hn := Nat.lt_of_lt_of_le (h.lt hn) f.le
  cell := h.cell
  cells := h.cells
  max := h.max
  form := h.form

theorem Acc.monoX {s s' : St} {v : AV} {sz : Nat} {xs : List (List AV)} {b o : Nat} (h : Acc s v sz xs b o) {x : Nat} (f : FrX x s s') {l : List AV} {lo : Bool} {z : Nat} (hx : s.get x = some (.cells l lo false z)) : Acc s' v sz xs b o where
  len := h.len
  idx := h.idx
  at_ j hj := by
    obtain ⟨vs, h1, h2⟩ := h.at_ j hj
    refine ⟨vs, (f.get b (h.lt (by omega)) ?_).trans h1, h2⟩
    intro e
    rw [e, hx] at h1
    cases h1
  lt hn := Nat.lt_of_lt_of_le (h.lt hn) f.le
  cell := h.cell
  cells := h.cells
  max := h.max
  form := h.form

theorem acc_nil (s : St) (sz : Nat) : Acc s .nilSlice sz [] 0 0 where
  len _ := rfl
  idx _ j h := by simp at h
  at_ j h := by simp at h
  lt h := by simp at h
  cell := rfl
  cells := rfl
  max := by simp
  form h := by simp at h

theorem acc_of_ok {s : St} {e : Ty} {v : AV} (h : ArgOk s (.slice e) v) : ∃ xs b o, Acc s v e.size xs b o ∧ ∀ x ∈ xs, Ok s e x := by
  rcases argOk_slice h with rfl | ⟨a, rfl⟩ | ⟨b, o, len, cap, vs, rfl, h1, h2, h3, h4, h5, h6⟩
  · exact ⟨[], 0, 0, acc_nil s _, by simp⟩
  · exact ⟨[], 0, 0, ⟨fun _ => rfl, fun _ j h => by simp at h, fun j h => by simp at h, fun h => by simp at h, rfl, rfl, by simp, fun h => by simp at h⟩, by simp⟩
  · refine ⟨(List.range len).map fun i => (vs.drop (o + i * e.size)).take e.size, b, o, ⟨?_, ?_, ?_, fun _ => h4, rfl, rfl, by simp; omega, fun _ => ⟨cap, by simp, by simpa using h1, h2⟩⟩, ?_⟩
    · intro s'
      simp [len1]
    · intro s' j hj
      rw [List.length_map, List.length_range] at hj
      exact idx1_slice hj
    · intro j hj
      rw [List.length_map, List.length_range] at hj
      refine ⟨vs, h3, ?_, by simp⟩
      have := h5 (by omega)
      have h7 : (j + 1) * e.size ≤ cap * e.size := Nat.mul_le_mul_right _ (by omega)
      rw [Nat.succ_mul] at h7
      omega
    · intro x hx
      rw [List.mem_map] at hx
      obtain ⟨i, hi, rfl⟩ := hx
      rw [List.mem_range] at hi
      exact h6 i (by omega)

/-- What lies at a place of an element. -/
theorem Acc.part {s : St} {v : AV} {sz : Nat} {xs : List (List AV)} {b o : Nat} (h : Acc s v sz xs b o) (j : Nat) (hj : j < xs.length) : ∃ vs, s.get b = some (.cells vs false true 0) ∧
    (∀ i n, i + n ≤ sz → o + (j * sz + i) + n ≤ vs.length ∧ (vs.drop (o + (j * sz + i))).take n = (xs[j].drop i).take n) ∧ ∀ i, i < sz → vs[o + (j * sz + i)]? = xs[j][i]? := by
  obtain ⟨vs, h1, h2, h3⟩ := h.at_ j hj
  refine ⟨vs, h1, fun i n hi => ⟨by omega, ?_⟩, fun i hi => ?_⟩
  rotate_left
  · rw [← h3, List.getElem?_take_of_lt hi, List.getElem?_drop, Nat.add_assoc]
  rw [← h3, List.drop_take, List.take_take, List.drop_drop, Nat.min_eq_left (by omega), Nat.add_assoc]

/-- The beginning of a slice. -/
theorem Acc.take {s : St} {v : AV} {sz : Nat} {xs : List (List AV)} {b o : Nat} (h : Acc s v sz xs b o) {j : Nat} (hj : j ≤ xs.length) (h0 : 0 < xs.length) :
    ∃ v', sliceA sz v none (some (.int .i64 (j : Int))) none = some v' ∧ Acc s v' sz (xs.take j) b o := by
  obtain ⟨cap, rfl, hc, hm⟩ := h.form h0
  have hl : (xs.take j).length = j := by rw [List.length_take]; omega
  have hs : sliceA sz (.slice b o xs.length cap false) none (some (.int .i64 (j : Int))) none = some (.slice b o j cap false) := by
    have hb : boundsA xs.length cap none (some (.int .i64 (j : Int))) none = some (0, j, cap) := by
      have hb1 : boundA (.int .i64 (j : Int)) cap = some j := by
        show (if 0 ≤ (j : Int) ∧ (j : Int) ≤ (cap : Int) then some ((j : Int).toNat) else none) = some j
        rw [if_pos ⟨by omega, by omega⟩]
        simp
      unfold boundsA
      simp only [hb1]
    unfold sliceA
    simp only [hb]
    simp
  refine ⟨_, hs, ⟨?_, ?_, ?_, ?_, rfl, rfl, by rw [hl]; omega, fun _ => ⟨cap, by rw [hl], by omega, hm⟩⟩⟩
  · intro s'; rw [hl]; rfl
  · intro s' i hi; rw [hl] at hi; exact idx1_slice hi
  · intro i hi
    rw [hl] at hi
    obtain ⟨vs, h1, h2, h3⟩ := h.at_ i (by omega)
    exact ⟨vs, h1, h2, by rw [h3, List.getElem_take]⟩
  · intro _; exact h.lt h0

theorem ok_slice_arg {s : St} {e : Ty} {v : AV} (h : Ok s (.slice e) [v]) : ArgOk s (.slice e) v := h

theorem ok_slice1 {s : St} {e : Ty} {l : List AV} (h : Ok s (.slice e) l) : ∃ v, l = [v] ∧ ArgOk s (.slice e) v := by
  have h' := h
  rcases h with h | ⟨a, h⟩ | ⟨b, o, len, cap, vs, h, _⟩
  · subst h; exact ⟨_, rfl, h'⟩
  · subst h; exact ⟨_, rfl, h'⟩
  · subst h; exact ⟨_, rfl, h'⟩

theorem okAll_cons {s : St} {T : Ty} {Ts : List Ty} {l : List AV} (h : OkAll s (T :: Ts) l) : ∃ a b, l = a ++ b ∧ Ok s T a ∧ OkAll s Ts b := h
theorem okAll_nil {s : St} {l : List AV} (h : OkAll s [] l) : l = [] := h

theorem allCell_append : ∀ {a b : List AV}, allCell a = true → allCell b = true → allCell (a ++ b) = true
  | [], _, _, h => h
  | x :: a, b, h, k => by
    simp only [allCell, Bool.and_eq_true] at h
    simp only [List.cons_append, allCell, Bool.and_eq_true]
    exact ⟨h.1, allCell_append h.2 k⟩

mutual
theorem ok_length {s : St} : ∀ {T : Ty} {l : List AV}, Ok s T l → l.length = T.size
  | .bool, _, ⟨_, h⟩ => by subst h; rfl
  | .int _, _, ⟨_, h, _⟩ => by subst h; rfl
  | .str, _, ⟨_, h, _⟩ => by subst h; rfl
  | .slice _, _, h => by
    obtain ⟨_, rfl, _⟩ := ok_slice1 h
    rfl
  | .many _, _, h => okAll_length h
theorem okAll_length {s : St} : ∀ {Ts : List Ty} {l : List AV}, OkAll s Ts l → l.length = sizes Ts
  | [], _, h => by cases h; rfl
  | _ :: _, _, ⟨_, _, h, h1, h2⟩ => by subst h; rw [List.length_append, ok_length h1, okAll_length h2]; rfl
end

mutual
theorem ok_cell {s : St} : ∀ {T : Ty} {l : List AV}, Ok s T l → allCell l = true
  | .bool, _, ⟨_, h⟩ => by subst h; rfl
  | .int _, _, ⟨_, h, _⟩ => by subst h; rfl
  | .str, _, ⟨_, h, _⟩ => by subst h; rfl
  | .slice e, l, h => by
    obtain ⟨v, rfl, hv⟩ := ok_slice1 h
    obtain ⟨_, _, _, hA, _⟩ := acc_of_ok hv
    simp [allCell, hA.cell]
  | .many _, _, h => okAll_cell h
theorem okAll_cell {s : St} : ∀ {Ts : List Ty} {l : List AV}, OkAll s Ts l → allCell l = true
  | [], _, h => by cases h; rfl
  | _ :: _, _, ⟨_, _, h, h1, h2⟩ => by subst h; exact allCell_append (ok_cell h1) (okAll_cell h2)
end

/-- A list of cells, each read as one thing. -/
theorem list_read {α : Type} {f : α → List AV} {Q : α → Prop} : ∀ {xs : List (List AV)}, (∀ x ∈ xs, ∃ a, x = f a ∧ Q a) → ∃ l : List α, xs = l.map f ∧ ∀ a ∈ l, Q a
  | [], _ => ⟨[], rfl, by simp⟩
  | x :: xs, h => by
    obtain ⟨a, rfl, ha⟩ := h x (List.mem_cons_self ..)
    obtain ⟨l, rfl, hl⟩ := list_read (xs := xs) fun y hy => h y (List.mem_cons_of_mem _ hy)
    exact ⟨a :: l, rfl, fun b hb => by
      rcases List.mem_cons.1 hb with rfl | hb
      · exact ha
      · exact hl b hb⟩
end
end Go.Proofs.YtobogmklajeekaaGreat.D
namespace Go.Proofs.YtobogmklajeekaaGreat.D
set_option linter.unusedSimpArgs false
set_option linter.unusedVariables false
noncomputable section
variable {M : Mach} {ro : Option Nat} {k : List Fk} {dr : Dr} {ops : List PO} {ts : Tr AV} {ds : List Nat} {s : St} {Q : Post} {d : Option Nat} {P : AV → St → Prop}

/-- A round of a loop over a function. -/
def Round (M : Mach) (r : Nat) (args : List AV) (s : St) (P : Bool → St → Prop) : Prop := ∃ b s', roundA M.L r args s = some (.bool b, s') ∧ P b s'

theorem Round.mono {r : Nat} {args : List AV} {P P' : Bool → St → Prop} (h : Round M r args s P) (hp : ∀ b s', P b s' → P' b s') : Round M r args s P' := by
  obtain ⟨b, s', h1, h2⟩ := h
  exact ⟨b, s', h1, hp b s' h2⟩

theorem Wc_yld {r : Nat} {args : List AV} (h : Round M r args s fun b s' => Wo M ro k dr ops (putT d (.bool b) ts) ds s' Q) : Wc M ro (some (.yld r)) (some args) d k dr ops ts ds s Q := by
  obtain ⟨b, s', h1, h2⟩ := h
  exact ⟨_, _, rfl, rfl, _, _, h1, h2⟩

/-- What is put behind a round. -/
def roundEnd (r : Nat) (x : AExit) (s : St) (P : Bool → St → Prop) : Prop :=
  ∃ st pe ts ps a b d, s.get r = some (.loop st pe ts ps a b d) ∧
    match x with
    | .normal => P true (s.put r (.loop .ready .normal ts ps a b d))
    | x => P false (s.put r (.loop .done x ts ps a b d))

theorem Round_of {r : Nat} {args : List AV} {P : Bool → St → Prop} {pe : AExit} {ts0 : Tr AV} {ps : List Nat} {as bd : PC} {d0 : Nat} (hr : s.get r = some (.loop .ready pe ts0 ps as bd d0)) (hl : args.length = ps.length)
    (h : Wk M (some r) [] as (setTs ps args ts0) [] s fun x ts1 ds1 s1 => x = .normal ∧ ds1 = [] ∧ ∃ pe ts2 ps2 a2 b2 d2, s1.get r = some (.loop .ready pe ts2 ps2 a2 b2 d2) ∧
      Wk M (some r) [] bd ts1 [] (s1.put r (.loop .busy pe ts2 ps2 a2 b2 d2)) fun x _ ds3 s3 => ds3 = [] ∧ roundEnd r x s3 P) : Round M r args s P := by
  obtain ⟨x, ts1, ds1, s1, h1, h2⟩ := h
  rw [Wr_nil] at h2
  obtain ⟨rfl, rfl, pe2, ts2, ps2, a2, b2, d2, h3, x3, t3, ds3, s3, h4, h5⟩ := h2
  rw [Wr_nil] at h5
  obtain ⟨rfl, st, pe4, ts4, ps4, a4, b4, d4, h6, h7⟩ := h5
  unfold Round roundA
  rw [hr]
  dsimp only
  rw [if_pos hl, h1]
  dsimp only
  rw [h3]
  dsimp only
  rw [h4]
  dsimp only
  rw [h6]
  cases x3 with
  | normal => exact ⟨true, _, rfl, h7⟩
  | exit id => exact ⟨false, _, rfl, h7⟩
  | ret => exact ⟨false, _, rfl, h7⟩

theorem Wk_range {x : X} {ps : List Nat} {as bd : PC} {g : Nat} {first cap : List AV} (hx : evOf ts x = some (.fn (.func g) first cap))
    (h : Wf M g (first ++ [.yld (s.next + 1)] ++ cap) ((s.new .defd).new (.loop .ready .normal ts ps as bd s.next)) fun _ s3 => ∃ st pe ts2 ps2 a2 b2 d2, s3.get (s.next + 1) = some (.loop st pe ts2 ps2 a2 b2 d2) ∧ st ≠ .busy ∧
      Wr M none k pe ts (s.next :: ds) (s3.put (s.next + 1) (.loop .exhausted pe ts2 ps2 a2 b2 d2)) Q) :
    Wk M none k (.rangeF x ps as bd) ts ds s Q := by
  obtain ⟨v, s3, h1, st, pe, ts2, ps2, a2, b2, d2, h2, h3, h4⟩ := h
  refine ⟨pe, ts, s.next :: ds, _, ?_, h4⟩
  rw [lim_ex]
  simp only [exStep, hx, rangeA]
  rw [show (s.new .defd).next = s.next + 1 from rfl, h1]
  dsimp only
  rw [h2]
  cases st with
  | busy => exact (h3 rfl).elim
  | _ => rfl

theorem Wk_envs {c : PC} (F : Tr AV → Prop) (h : F ts) (h2 : ∀ ts, F ts → Wk M ro k c ts ds s Q) : Wk M ro k c ts ds s Q := h2 ts h

/-- The end of a function, what was put off taken away. -/
def Wz (o : Option St) (ts : Tr AV) (rs : List PRes) (P : AV → St → Prop) : Prop := ∃ s', o = some s' ∧ Wy (ressA ts s' rs) s' P
@[congr] theorem Wz_congr {o o' : Option St} {rs : List PRes} (h : o = o') : Wz o ts rs P = Wz o' ts rs P := by rw [h]
theorem Wz_some {s' : St} {rs : List PRes} : Wz (some s') ts rs P = Wy (ressA ts s' rs) s' P := by
  apply propext
  constructor
  · rintro ⟨_, h, hq⟩; cases h; exact hq
  · intro h; exact ⟨_, rfl, h⟩
theorem Wr_finD {rs : List PRes} {e : Nat} : Wr M ro [] .ret ts (e :: ds) s (Fin rs P) = Wz (takeAll (e :: ds) s) ts rs P := by
  rw [Wr_nil]
  apply propext
  constructor
  · rintro ⟨_, s', h, hq⟩; exact ⟨s', h, hq⟩
  · rintro ⟨s', h, hq⟩; exact ⟨fun _ h => (by cases h), s', h, hq⟩
theorem Wr_finD' {rs : List PRes} {e : Nat} : Wr M ro [] .normal ts (e :: ds) s (Fin rs P) = Wz (takeAll (e :: ds) s) ts rs P := by
  rw [Wr_nil]
  apply propext
  constructor
  · rintro ⟨_, s', h, hq⟩; exact ⟨s', h, hq⟩
  · rintro ⟨s', h, hq⟩; exact ⟨fun _ h => (by cases h), s', h, hq⟩
attribute [go_sem] Wz_some Wr_finD Wr_finD' takeAll setTs St.get_drop St.next_drop
end
end Go.Proofs.YtobogmklajeekaaGreat.D
namespace Go.Proofs.YtobogmklajeekaaGreat.D

def wB : IntKind → Nat
  | .i8 | .u8 => 256
  | .i16 | .u16 => 65536
  | .i32 | .u32 => 4294967296
  | .i64 | .u64 => 18446744073709551616

def wH : IntKind → Nat
  | .i8 => 128
  | .u8 => 256
  | .i16 => 32768
  | .u16 => 65536
  | .i32 => 2147483648
  | .u32 => 4294967296
  | .i64 => 9223372036854775808
  | .u64 => 18446744073709551616

def sgn (B H r : Nat) : Int := match Nat.blt r H with
  | true => .ofNat r
  | false => .negSucc (B - r - 1)

def wrapF (k : IntKind) (n : Int) : Int := match n with
  | .ofNat m => sgn (wB k) (wH k) (m % wB k)
  | .negSucc m => sgn (wB k) (wH k) (wB k - 1 - m % wB k)

theorem sgn_eq {B H r : Nat} (h : r < B) : sgn B H r = if r < H then (r : Int) else (r : Int) - B := by
  unfold sgn
  by_cases e : r < H
  · rw [if_pos e, show Nat.blt r H = true by rw [Nat.blt_eq]; exact e]; rfl
  · rw [if_neg e]
    have : Nat.blt r H = false := by
      cases hb : Nat.blt r H with
      | false => rfl
      | true => rw [Nat.blt_eq] at hb; exact absurd hb e
    rw [this]
    show Int.negSucc (B - r - 1) = _
    omega

theorem wrapF_eq (k : IntKind) (n : Int) : wrapF k n = k.wrap n := by
  have hB : 0 < wB k := by cases k <;> decide
  have key : ∀ r : Nat, r < wB k → (r : Int) = n % (2 ^ k.bits : Int) → sgn (wB k) (wH k) r = k.wrap n := by
    intro r hr he
    rw [sgn_eq hr]
    unfold IntKind.wrap
    simp only [← he]
    cases k <;> simp [IntKind.signed, IntKind.bits, wB, wH] at * <;> omega
  cases n with
  | ofNat m =>
    refine key _ (Nat.mod_lt _ hB) ?_
    cases k <;> simp [IntKind.bits, wB]
  | negSucc m =>
    have hm := Nat.mod_lt m hB
    refine key _ (by omega) ?_
    cases k <;> simp only [IntKind.bits, wB] at * <;> omega

def ltF (a b : Int) : Bool := match a with
  | .ofNat m => match b with
    | .ofNat n => Nat.blt m n
    | .negSucc _ => false
  | .negSucc m => match b with
    | .ofNat _ => true
    | .negSucc n => Nat.blt n m

theorem ltF_eq (a b : Int) : ltF a b = decide (a < b) := by
  apply Bool.eq_iff_iff.2
  rw [decide_eq_true_iff]
  cases a with
  | ofNat m => cases b with
    | ofNat n => simp only [ltF, Int.ofNat_eq_natCast, Nat.blt_eq]; omega
    | negSucc n => simp only [ltF, Int.ofNat_eq_natCast, Bool.false_eq_true, false_iff]; omega
  | negSucc m => cases b with
    | ofNat n => simp only [ltF, Int.ofNat_eq_natCast, true_iff]; omega
    | negSucc n => simp only [ltF, Nat.blt_eq]; omega

def eqF (a b : Int) : Bool := match a with
  | .ofNat m => match b with
    | .ofNat n => Nat.beq m n
    | .negSucc _ => false
  | .negSucc m => match b with
    | .ofNat _ => false
    | .negSucc n => Nat.beq m n

theorem eqF_eq (a b : Int) : eqF a b = (a == b) := by
  apply Bool.eq_iff_iff.2
  rw [beq_iff_eq]
  cases a with
  | ofNat m => cases b with
    | ofNat n => simp only [eqF, Int.ofNat_eq_natCast, Nat.beq_eq]; omega
    | negSucc n => simp only [eqF, Int.ofNat_eq_natCast, Bool.false_eq_true, false_iff]; omega
  | negSucc m => cases b with
    | ofNat n => simp only [eqF, Int.ofNat_eq_natCast, Bool.false_eq_true, false_iff]; omega
    | negSucc n => simp only [eqF, Nat.beq_eq]; omega
end Go.Proofs.YtobogmklajeekaaGreat.D
