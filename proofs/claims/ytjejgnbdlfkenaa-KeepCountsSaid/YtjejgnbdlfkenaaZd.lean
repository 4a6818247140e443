/- The abstract machine's functions are the model's.
From the abstract machine to a law.
Short names for frequent operations, so that the printed functions take less room. Plain definitions.
The functions that are run, as the abstract machine's: their code. Printed by a program.
The functions that are run, as the abstract machine's: their code. Printed by a program.
The table of the functions that are run. Printed by a program.
The functions that are run, as the abstract machine's: that they are. Printed by a program.
The functions that are run, as the abstract machine's: that they are. Printed by a program.
The table of the functions that are run. Printed by a program.
A call that asks nothing of memory, once run, is known. Plain laws; no program.
The abstract machine without a measure: what it answers with enough at hand; and that it answers step by step. Plain laws; no program. -/
import Derived.Test.YtjejgnbdlfkenaaZc
import Derived.WalkKit
import Derived.ProofKit
import Derived.OpenShut
import Derived.ShutString
import Derived.Test.YtjejgnbdlfkenaaProg
import Derived.KernelRfl
namespace Go.Proofs.Ytjejgnbdlfkenaa.D
variable {P : Program}

theorem prepF_spec {fn : Func} {fd : FD} (h : prepF P fn = some fd) : ∃ c, fn.body = some c ∧ prepC P c = some fd.body ∧ prepRess P fn.results.toList = some fd.results ∧ (fn.name == "runtime.NumGoroutine") = false ∧
    okPC fn.ntmps fd.body = true ∧ fd.ntmps = fn.ntmps := by
  unfold prepF at h
  split at h
  case h_1 => cases h
  rename_i c hc
  split at h
  case h_1 => cases h
  rename_i b hb
  split at h
  case h_1 => cases h
  rename_i r hr
  split at h
  case isTrue => cases h
  rename_i hcond
  cases h
  simp only [Bool.or_eq_true, not_or, Bool.not_eq_true, Bool.not_eq_eq_eq_not, Bool.not_true] at hcond
  obtain ⟨h1, h2⟩ := hcond
  exact ⟨c, hc, hb, hr, h1, by simpa using h2, rfl⟩

theorem initT_get : ∀ (l : List AV) (i : Nat) (ts : Tr AV) (t : Nat), (initT i l ts).get t = if i ≤ t ∧ t < i + l.length then l[t - i]? else ts.get t
  | [], i, ts, t => by simp only [initT, List.length_nil, Nat.add_zero]; rw [if_neg (by omega)]
  | v :: l, i, ts, t => by
    simp only [initT]
    rw [initT_get l (i + 1)]
    simp only [List.length_cons]
    by_cases h1 : i + 1 ≤ t ∧ t < i + 1 + l.length
    · rw [if_pos h1, if_pos (by omega), show t - i = (t - (i + 1)) + 1 by omega, List.getElem?_cons_succ]
    · rw [if_neg h1, Tr.get_set]
      by_cases h2 : t = i
      · subst h2
        rw [if_pos rfl, if_pos (by omega)]; simp
      · rw [if_neg h2, if_neg (by omega)]

theorem TR.init {μ : Place} {args : List AV} {cs : List Value} (h : concs μ args = some cs) (n : Nat) : TR μ (initT 0 args .lf) (cs.toArray ++ Array.replicate n undef) := by
  intro t v hv
  rw [initT_get] at hv
  have hl := concs_length h
  by_cases h1 : 0 ≤ t ∧ t < 0 + args.length
  · rw [if_pos h1, Nat.sub_zero] at hv
    obtain ⟨x, hx, hc⟩ := concs_get h t v hv
    refine ⟨x, ?_, hc⟩
    rw [Array.getElem?_append_left (by simp; omega)]
    simpa using hx
  · rw [if_neg h1] at hv
    rw [Tr.get_lf] at hv; cases hv

def resOne (tmps : Array Value) : ResultVar → Sem Value
  | .tmp t => pure (tmps.getD t undef)
  | .cell a t => do loadVar t (← asAddr (tmps.getD a undef))

theorem run_res {R : Nat} {μ : Place} {s : St} {w : World} (h : HR P R μ s w) {ts : Tr AV} {tmps : Array Value} (ht : TR μ ts tmps) : ∀ {rs : List ResultVar} {ps : List PRes} {l : List AV}, prepRess P rs = some ps → ressA ts s ps = some l →
    ∃ cs, (rs.mapM (resOne tmps)).run P w = .ok cs w ∧ concs μ l = some cs
  | [], ps, l, hp, hl => by
    cases hp; cases hl
    exact ⟨[], by simp, rfl⟩
  | r :: rs, ps, l, hp, hl => by
    simp only [prepRess] at hp
    split at hp
    case h_2 => cases hp
    rename_i x hx
    split at hp
    case h_2 => cases hp
    rename_i y hy
    cases hp
    simp only [ressA] at hl
    split at hl
    case h_1 => cases hl
    rename_i v hv
    split at hl
    case h_1 => cases hl
    rename_i vs hvs
    cases hl
    obtain ⟨cs, h1, h2⟩ := run_res h ht hy hvs
    have one : ∃ c, (resOne tmps r).run P w = .ok c w ∧ conc μ v = some c := by
      cases r with
      | tmp t =>
        simp only [prepRes, Option.some.injEq] at hx
        subst hx
        obtain ⟨c, g1, g2⟩ := ht t v hv
        refine ⟨c, ?_, g2⟩
        simp [resOne, g1]
      | cell a t =>
        simp only [prepRes] at hx
        split at hx
        case h_3 => cases hx
        · rename_i n hag hsz
          cases hx
          simp only [resA] at hv
          split at hv
          case h_2 => cases hv
          rename_i b o htb
          split at hv
          case h_2 => cases hv
          rename_i l' hl'
          cases hv
          obtain ⟨c, g1, g2⟩ := ht a _ htb
          obtain ⟨p, hp, rfl⟩ := isSome_of_conc_ptr g2
          obtain ⟨xs, k1, k2, k3⟩ := run_loadA (P := P) h hl' hp
          refine ⟨.agg xs.toArray, ?_, by simp [conc, k1]⟩
          have hg : tmps.getD a undef = .pointer (some ⟨p.1, o, none⟩) := by simp [g1]
          simp [resOne, hg, asAddr, loadVar, run_isAgg hag, run_size hsz, k3]
        · rename_i hag
          cases hx
          simp only [resA] at hv
          split at hv
          case h_2 => cases hv
          rename_i b o htb
          split at hv
          case h_2 => cases hv
          rename_i vs' _ _ _ hg
          obtain ⟨c, g1, g2⟩ := ht a _ htb
          obtain ⟨p, hp, rfl⟩ := isSome_of_conc_ptr g2
          obtain ⟨x, k1, k2⟩ := h.cell hg hp hv
          refine ⟨x, ?_, k2⟩
          have hg : tmps.getD a undef = .pointer (some ⟨p.1, o, none⟩) := by simp [g1]
          simp [resOne, hg, asAddr, loadVar, run_isAgg hag, run_load, k1]
    obtain ⟨c, g1, g2⟩ := one
    refine ⟨c :: cs, ?_, by simp [concs, g2, h2]⟩
    rw [List.mapM_cons, Sem.run_bind, g1, Result.andThen_ok, Sem.run_bind, h1, Result.andThen_ok, Sem.run_pure]

theorem run_results {R : Nat} {μ : Place} {s : St} {w : World} (h : HR P R μ s w) {fn : Func} {ts : Tr AV} {tmps : Array Value} (ht : TR μ ts tmps) {ps : List PRes} {l : List AV} (hp : prepRess P fn.results.toList = some ps) (hl : ressA ts s ps = some l) :
    ∃ c, (results fn tmps).run P w = .ok c w ∧ conc μ (oneA l) = some c := by
  obtain ⟨cs, h1, h2⟩ := run_res h ht hp hl
  have hlen := concs_length h2
  have er : results fn tmps = (do let vs ← fn.results.mapM (resOne tmps); pure (if h : vs.size = 1 then vs[0] else .tuple vs)) := by
    unfold results
    rfl
  rw [er, Array.mapM_eq_mapM_toList, Sem.run_bind, Sem.run_map]
  rw [h1]
  refine ⟨if h : cs.toArray.size = 1 then cs.toArray[0] else .tuple cs.toArray, rfl, ?_⟩
  match l, cs, h2, hlen with
  | [], [], _, _ => simp [oneA, conc, concs]
  | [v], [c], h2, _ =>
    simp only [concs, Option.bind_eq_some_iff, Option.map_eq_some_iff, Option.some.injEq] at h2
    obtain ⟨x, hx, y, rfl, e⟩ := h2
    cases e
    simpa [oneA] using hx
  | v :: u :: l, c :: d :: cs, h2, _ =>
    simp [oneA, conc, h2]
  | [], _ :: _, _, h => simp at h
  | [_], [], _, h => simp at h
  | [_], _ :: _ :: _, _, h => simp at h
  | _ :: _ :: _, [], _, h => simp at h
  | _ :: _ :: _, [_], _, h => simp at h

theorem leaves_sound {fn : Func} {tmps : Array Value} {n : Nat} {Rp : Ending → World → Prop} {R : Nat} : ∀ {ds : List Nat} {defers : List Deferred} {s s' : St} {w : World} {μ : Place}, takeAll ds s = some s' → s.next ≤ R → HR P R μ s w → DR μ ds defers →
    (∀ w', HR P R μ s' w' → Mv μ s w μ s' w' → ∃ v, (results fn tmps).run P w' = .ok v w' ∧ Rp (.returned v) w') → LeavesInM Fence.wide n P fn tmps Rp defers .returning w
  | [], [], s, s', w, μ, hx, hR, h, _, hf => by
    cases hx
    exact hf w h (Mv.refl h hR)
  | [], _ :: _, _, _, _, _, _, _, _, hd, _ => hd.elim
  | _ :: _, [], _, _, _, _, _, _, _, hd, _ => hd.elim
  | d :: ds, x :: xs, s, s', w, μ, hx, hR, h, hd, hf => by
    simp only [takeAll] at hx
    split at hx
    case h_2 => cases hx
    rename_i hg
    obtain ⟨⟨p, hp, rfl⟩, hd'⟩ := hd
    obtain ⟨p', hp', ho⟩ := h.obj _ _ hg
    rw [hp] at hp'; cases hp'
    have hob : w.heap[p.1]? = some (.deferred (some [])) := ho
    obtain ⟨g1, g2⟩ := h.shut (w' := w.putObj p.1 (.deferred none)) hR hg hp (by simp) rfl rfl ⟨rfl, fun _ => Nat.le_refl _⟩ (by simp) (fun k hk => World.putObj_heap_other hk)
    refine ⟨by simp, .inl ⟨p.1, _, rfl, run_takeDeferred hob, leaves_sound hx hR g1 hd' ?_⟩⟩
    intro w' k1 k2
    exact hf w' k1 (g2.trans k2)

/-- What is known of functions by their contracts holds. -/
def SumsOk (P : Program) (SM : Sums) : Prop := ∀ f g, SM f = some g → ∀ {args s v s' R μ w cargs}, g args s = some (v, s') → s'.next ≤ R → HR P R μ s w → concs μ args = some cargs →
    (∃ fn, P.funcs[f]? = some fn ∧ fn.body.isNone = false ∧ (fn.name == "runtime.NumGoroutine") = false) ∧ ∀ n, CallsIn Fence.wide n P f cargs.toArray w (Rets P R μ s w v s')

def FnsOk (P : Program) (FT : Fns) : Prop := ∀ f fd, FT f = some fd → ∃ fn, P.funcs[f]? = some fn ∧ prepF P fn = some fd

theorem callStep_sound {FT : Fns} {SM : Sums} (hFT : FnsOk P FT) (hSM : SumsOk P SM) {e : Eng} (hE : EngOk P e) {f : Nat} {args : List AV} {s s' : St} {v : AV} (hx : callStep FT SM e f args s = some (v, s')) {R : Nat} (hR : s'.next ≤ R) {μ : Place} {w : World} (h : HR P R μ s w)
    {cargs : List Value} (hc : concs μ args = some cargs) :
    (∃ fn, P.funcs[f]? = some fn ∧ fn.body.isNone = false ∧ (fn.name == "runtime.NumGoroutine") = false) ∧ ∀ n, CallsIn Fence.wide n P f cargs.toArray w (Rets P R μ s w v s') := by
  unfold callStep at hx
  split at hx
  · exact hSM _ _ (by assumption) hx hR h hc
  · split at hx
    case h_1 => cases hx
    rename_i fd hfd
    obtain ⟨fn, hf, hp⟩ := hFT _ _ hfd
    obtain ⟨c, hb, hpc, hpr, hname, hok, hnp⟩ := prepF_spec hp
    split at hx
    case isFalse => cases hx
    rename_i hlen
    refine ⟨⟨fn, hf, by rw [hb]; rfl, hname⟩, fun n => ?_⟩
    unfold finish at hx
    split at hx
    case h_1 => cases hx
    case h_3 => cases hx
    rename_i x ts ds s1 hne hrun
    split at hx
    case h_1 => cases hx
    rename_i s2 htk
    split at hx
    case h_1 => cases hx
    rename_i l hl
    cases hx
    have hn := takeAll_next htk
    have hcl := concs_length hc
    have hle := Nat.le_of_ble_eq_true hlen
    have hsz : (cargs.toArray ++ Array.replicate (fn.ntmps - cargs.toArray.size) undef).size = fn.ntmps := by
      simp; omega
    refine callsIn_of_wp_marks hf hb trivial ?_
    refine wpIn_mono (hE.ex (R := R) (N := fn.ntmps) (a := { tmps := _, defers := [] }) (F := Fence.wide) hrun (by omega) h hpc hok (TR.init hc _) hsz (show DR μ [] ([] : List Deferred) from trivial) rfl n) ?_
    rintro ex a1 w1 ⟨rfl, ν, g1, g2, g3, g4, g5⟩
    have leave : LeavesInM Fence.wide n P fn a1.tmps (Rets P R μ s w (oneA l) s') a1.defers .returning w1 := by
      refine leaves_sound htk (by omega) g4 g3 fun w' k1 k2 => ?_
      obtain ⟨cv, r1, r2⟩ := run_results k1 g1 hpr hl
      exact ⟨cv, r1, ν, r2, k1, g5.trans k2⟩
    cases x with
    | normal => exact leave
    | ret => exact leave
    | exit id => exact (hne _ rfl).elim

theorem eng_sound {FT : Fns} {SM : Sums} (hm : P.follows .mixedOrders = true) (hFT : FnsOk P FT) (hSM : SumsOk P SM) (hSN : SumsNext SM) : ∀ n, EngOk P (eng FT SM n)
  | 0 => ⟨eng_next hSN 0, fun h => (by cases h), fun h => (by cases h), fun h => (by cases h)⟩
  | n + 1 => ⟨eng_next hSN (n + 1), fun h hR hr hc => callStep_sound hFT hSM (eng_sound hm hFT hSM hSN n) h hR hr hc,
      fun h hR hr hp hok ht hN hd hF k => exStep_sound (eng_sound hm hFT hSM hSN n) hm h hR hr hp hok ht hN hd hF k,
      fun h hR hr hp hok ht hN hd hF k => loop_sound (eng_sound hm hFT hSM hSN n) h hR hr hp hok ht hN hd hF k⟩

theorem noSums_ok : SumsOk P noSums := fun _ _ h => by cases h
theorem noSums_next : SumsNext noSums := fun _ _ _ _ _ _ h => by cases h
end Go.Proofs.Ytjejgnbdlfkenaa.D
namespace Go.Proofs.Ytjejgnbdlfkenaa.D
noncomputable section
open Go.RowKit
variable {P : Program}

def FTof (P : Program) : Fns := fun f => match P.funcs[f]? with
  | some fn => prepF P fn
  | none => none

theorem FTof_ok : FnsOk P (FTof P) := by
  intro f fd h
  unfold FTof at h
  split at h
  · rename_i fn hfn
    exact ⟨fn, hfn, h⟩
  · cases h

theorem fnsOk_lf : FnsOk P (Tr.lf : Tr FD).get := fun f fd h => by rw [Tr.get_lf] at h; cases h

theorem FnsOk.set {t : Tr FD} (h : FnsOk P t.get) {k : Nat} {fn : Func} {fd : FD} (hf : P.funcs[k]? = some fn) (hp : prepF P fn = some fd) : FnsOk P (t.set k fd).get := by
  intro f fd' hx
  rw [Tr.get_set] at hx
  by_cases e : f = k
  · rw [if_pos e] at hx; cases hx
    exact ⟨fn, by rw [e]; exact hf, hp⟩
  · rw [if_neg e] at hx; exact h f fd' hx

theorem St.get_empty (b : Nat) : St.empty.get b = none := by
  rfl

theorem HR.empty (R : Nat) (w : World) : HR P R (fun _ => none) St.empty w :=
  ⟨fun b o h => (by rw [St.get_empty] at h; cases h), fun b c o o' p q h => (by rw [St.get_empty] at h; cases h), fun b p h => (by cases h), fun b o h => (by rw [St.get_empty] at h; cases h)⟩

theorem Mv.below {s s' : St} {w w' : World} {ν : Place} (h : Mv (fun _ => none) s w ν s' w') : Below w.heap.size w w' :=
  ⟨h.os, h.tape.eq, h.output, h.size, fun k hk => h.frame k hk fun _ _ _ e => by cases e⟩

theorem isTrue_some {x : Option (AV × St)} (h : isTrue x = true) : ∃ s, x = some (.bool true, s) := by
  unfold isTrue at h
  split at h
  · exact ⟨_, rfl⟩
  · cases h

/-- A call that asks nothing of memory answers true, and what lay lies as it lay. -/
theorem callsIn_closed {SM : Sums} (hm : P.follows .mixedOrders = true) (hSM : SumsOk P SM) (hSN : SumsNext SM) {FT : Fns} (hFT : FnsOk P FT) {fuel f : Nat} (h : isTrue ((eng FT SM fuel).call f [] St.empty) = true) (w : World) :
    Calls P f #[] w fun e w' => e = .returned (.bool true) ∧ Below w.heap.size w w' := by
  obtain ⟨s', hs⟩ := isTrue_some h
  have := ((eng_sound hm hFT hSM hSN fuel).call hs (Nat.le_refl _) (HR.empty s'.next w) (show concs _ [] = some [] from rfl)).2 0
  refine callsIn_wide.1 (this.mono ?_)
  intro e w' hr
  cases e with
  | returned c =>
    obtain ⟨ν, h1, _, h3⟩ := hr
    simp only [conc, Option.some.injEq] at h1
    subst h1
    exact ⟨rfl, h3.below⟩
  | panicked _ => exact hr.elim
  | outgrown => exact hr.elim

section post
variable {H : Type} {enc : TypeId × Value → H}
theorem post_below {f : Func} {s : ChangeSpec} {apart fresh handsOn again : Bool} {W W' : World} {args : Array Value} {v : Value} {ds gs : List (DataW H)} {before pa pv : List MemPlace}
    (hW : DataW.Whole enc P f.params.toList s.vars apart W args.toList ds gs before)
    (hres : ∀ (b : Nat) (sp : Nat → Bool) (hd : Bool), DataW.TrodAll enc P W' b sp hd f.resultTypes.toList (v.resultList f.resultTypes.size) (s.fn H (ds ++ gs)).results [])
    (hargs : ∀ sp : Nat → Bool, (∀ p ∈ before, sp p.block = true) → DataW.TrodAll enc P W' 0 sp true f.params.toList args.toList (s.fn H (ds ++ gs)).args pa)
    (hvars : ∀ sp : Nat → Bool, (∀ p ∈ before, sp p.block = true) → DataW.TrodVars enc P W' sp s.vars (s.fn H (ds ++ gs)).vars pv)
    (hps : before = pa ++ pv) (hb : Below W.heap.size W W')
    (hok : ∀ (j : Nat) (t : TypeId) (r : Value), f.resultTypes[j]? = some t → (v.resultList f.resultTypes.size)[j]? = some r → Value.okWide P W' .any 0 t r) :
    s.post enc P f apart fresh handsOn again W args v W' := by
  have hlt : ∀ p ∈ before, p.block < W.heap.size := fun p hp => hW.lt p hp
  have hold : ∀ p ∈ before, (fun b => decide (b < W.heap.size)) p.block = true := fun p hp => by simpa using hlt p hp
  refine ⟨ds, gs, before, [], pa, pv, hW, hres _ _ _, hargs _ hold, hvars _ hold, hb.frame _, fun _ => ?_⟩
  obtain ⟨_, _, _, _, _, hz, hn⟩ := hW
  refine ⟨hok, _, _, ([] ++ pa) ++ pv, ⟨[] ++ pa, pv, ChangeShapes.trodAll_append (hargs _ (fun _ _ => rfl)) (hres _ _ _), hvars _ (fun _ _ => rfl), rfl, ?_, ?_⟩, ?_⟩
  · intro b off hp
    have hp' : MemPlace.cell b off ∈ before := by rw [hps]; simpa using hp
    rw [hb.frozen (p := ⟨b, off, none⟩) (hlt _ hp')]
    exact hz b off hp'
  · intro ha
    have := hn ha
    rw [hps] at this
    simpa using this
  · intro p hp _
    rw [hps]
    simpa using hp
end post
end
end Go.Proofs.Ytjejgnbdlfkenaa.D
namespace Go.Proofs.Ytjejgnbdlfkenaa.D
abbrev kmv (d t : Nat) : PO := ⟨some d, .move (.t t), none⟩
abbrev kmc (d : Nat) (c : AV) : PO := ⟨some d, .move (.c c), none⟩
abbrev kfa (d o t : Nat) : PO := ⟨some d, .fieldAddr o (.t t), none⟩
abbrev kl1 (d t : Nat) : PO := ⟨some d, .load1 (.t t), none⟩
abbrev kln (d n t : Nat) : PO := ⟨some d, .loadN n (.t t), none⟩
abbrev kix (d n t i : Nat) : PO := ⟨some d, .idxSl n (.t t) (.t i), none⟩
abbrev kex (d t n : Nat) : PO := ⟨some d, .extract (.t t) n, none⟩
abbrev knc (d t : Nat) : PO := ⟨some d, .nilCheck (.t t), none⟩
abbrev kst (n a v : Nat) : PO := ⟨none, .store n (.t a) (.t v), none⟩
abbrev kle (d t : Nat) : PO := ⟨some d, .len 1 (.t t), none⟩
abbrev kca (d f : Nat) (l : List X) : PO := ⟨some d, .call (.c (.fn (.func f) [] [])) l, none⟩
abbrev kbt (d : Nat) (b : BinOp) (x y : Nat) : PO := ⟨some d, .bin b .no (.t x) (.t y), none⟩
abbrev kbi (d : Nat) (b : BinOp) (x : Nat) (k : IntKind) (n : Int) : PO := ⟨some d, .bin b .no (.t x) (.c (.int k n)), none⟩
abbrev kn (d : Nat) (p : POp) : PO := ⟨some d, p, none⟩
abbrev kg (d : Nat) (p : POp) (t : Nat) (b : Bool) : PO := ⟨some d, p, some (t, b)⟩
abbrev zi : AV := .int .i64 0
abbrev zb : AV := .int .u8 0
abbrev zw : AV := .int .u32 0
end Go.Proofs.Ytjejgnbdlfkenaa.D
namespace Go.Proofs.Ytjejgnbdlfkenaa
open D
/-- gosem.cut.init -/
def fd2 : FD := ⟨1, [], (.region [kca 0 1 []])⟩
/-- understudy/understudylaw15.KeepTells -/
def fd3 : FD := ⟨40, [(.tmp 6)], (.seq (.region [kn 3 (.box (.t 0)), kmc 6 (.bool false)]) (.seq (.seq (.region [kca 7 6 [], kn 8 (.un .not (.t 7))]) (.cond (.t 8) (.seq (.region [kmc 6 (.bool false)]) .ret) .skip)) (.seq (.seq (.region [kmv 9 1, kle 10 9, kbi 11 .gtr 10 .i64 60, kmv 12 11, kg 13 (.move (.t 2)) 12 false, kg 14 (.len 1 (.t 13)) 12 false, kg 15 (.bin .gtr .no (.t 14) (.c (.int .i64 60))) 12 false, kn 16 (.pick (.t 12) (.c (.bool true)) (.t 15)), kmv 17 16, kg 18 (.move (.t 1)) 17 false, kg 19 (.call (.c (.fn (.func 7) [] [])) [(.t 18)]) 17 false, kg 20 (.un .not (.t 19)) 17 false, kn 21 (.pick (.t 17) (.c (.bool true)) (.t 20))]) (.cond (.t 21) (.seq (.region [kmc 6 (.bool true)]) .ret) .skip)) (.seq (.drawn [kln 22 4 3, kmv 23 1, kca 24 9 [(.t 22), (.t 23)], kln 25 4 3, kmv 26 1, kca 27 10 [(.t 25), (.t 26)], kca 28 8 [(.t 24), (.t 27)], kmv 29 28, kg 30 (.loadN 4 (.t 3)) 29 true, kg 31 (.move (.t 1)) 29 true, kg 32 (.move (.t 2)) 29 true, kg 33 (.call (.c (.fn (.func 11) [] [])) [(.t 30), (.t 31), (.t 32)]) 29 true, kg 34 (.loadN 4 (.t 3)) 29 true, kg 35 (.move (.t 1)) 29 true, kg 36 (.move (.t 2)) 29 true, kg 37 (.call (.c (.fn (.func 12) [] [])) [(.t 34), (.t 35), (.t 36)]) 29 true, kg 38 (.call (.c (.fn (.func 8) [] [])) [(.t 33), (.t 37)]) 29 true, kn 39 (.pick (.t 29) (.t 38) (.c (.bool false))), kmv 6 39] [⟨3, [2, 5]⟩, ⟨12, [11, 15]⟩]) .ret))))⟩
/-- understudy/understudylaw15.KeepAgain -/
def fd4 : FD := ⟨97, [(.tmp 4)], (.seq (.region [kn 2 (.box (.t 0)), kmc 4 (.bool false)]) (.seq (.seq (.region [kca 12 6 [], kn 13 (.un .not (.t 12))]) (.cond (.t 13) (.seq (.region [kmc 4 (.bool false)]) .ret) .skip)) (.seq (.seq (.region [kmv 14 1, kle 15 14, kbi 16 .gtr 15 .i64 60, kmv 17 16, kg 18 (.move (.t 1)) 17 false, kg 19 (.call (.c (.fn (.func 7) [] [])) [(.t 18)]) 17 false, kg 20 (.un .not (.t 19)) 17 false, kn 21 (.pick (.t 17) (.c (.bool true)) (.t 20))]) (.cond (.t 21) (.seq (.region [kmc 4 (.bool true)]) .ret) .skip)) (.seq (.region [kln 22 4 2, kmv 23 1, kca 24 9 [(.t 22), (.t 23)], kmv 5 24]) (.seq (.region [kn 25 (.buildSlice [] 0 [] 4), kmv 6 25]) (.seq (.seq (.region [kmv 26 1, kle 27 26, kmc 28 zi]) (.block 0 (.loop (.seq (.region [kbt 29 .lss 28 27]) (.seq (.cond (.t 29) .skip (.exit 0)) (.seq (.block 1 (.seq (.region [kix 30 4 26 28, kln 31 4 30, kn 8 (.alloc [zw, zw, zi, zw]), kst 4 8 31]) (.seq (.region [kmv 32 5, kle 33 32, kmc 34 zi]) (.block 2 (.loop (.seq (.region [kbt 35 .lss 34 33]) (.seq (.cond (.t 35) .skip (.exit 2)) (.seq (.block 3 (.seq (.region [kix 36 2 32 34, kln 37 2 36, kn 10 (.alloc [zw, zw]), kst 2 10 37]) (.seq (.region [kfa 38 0 8, kln 39 2 38, kln 40 2 10, kn 41 (.bin .eql (.cells [1, 1]) (.t 39) (.t 40))]) (.cond (.t 41) (.region [kmv 42 6, kln 43 4 8, kn 44 (.buildSlice [zw, zw, zi, zw] 1 [(0, 4, (.t 43))] 4), kn 45 (.append 4 24 [zw, zw, zi, zw] (.t 42) (.t 44)), kmv 6 45]) .skip)))) (.region [kbi 46 .add 34 .i64 1, kmv 34 46]))))))))) (.region [kbi 47 .add 28 .i64 1, kmv 28 47]))))))) (.seq (.region [kln 48 4 2, kmv 49 6, kca 50 9 [(.t 48), (.t 49)], kmv 11 50]) (.seq (.seq (.drawn [kfa 51 2 2, kl1 52 51, kbi 53 .gtr 52 .i64 0, kmv 54 53, kg 55 (.move (.t 1)) 54 true, kg 56 (.len 1 (.t 55)) 54 true, kg 57 (.bin .gtr .no (.t 56) (.c zi)) 54 true, kn 58 (.pick (.t 54) (.t 57) (.c (.bool false))), kmv 59 58, kg 60 (.move (.t 5)) 59 true, kg 61 (.len 1 (.t 60)) 59 true, kg 62 (.bin .eql .no (.t 61) (.c zi)) 59 true, kg 63 (.move (.t 62)) 59 true, kg 64 (.move (.t 5)) 63 false, kg 65 (.move (.t 5)) 63 false, kg 66 (.len 1 (.t 65)) 63 false, kg 67 (.bin .sub .no (.t 66) (.c (.int .i64 1))) 63 false, kg 68 (.idxSl 2 (.t 64) (.t 67)) 63 false, kg 69 (.loadN 2 (.t 68)) 63 false, kg 70 (.move (.t 1)) 63 false, kg 71 (.move (.t 1)) 63 false, kg 72 (.len 1 (.t 71)) 63 false, kg 73 (.bin .sub .no (.t 72) (.c (.int .i64 1))) 63 false, kg 74 (.idxSl 4 (.t 70) (.t 73)) 63 false, kg 75 (.fieldAddr 0 (.t 74)) 63 false, kg 76 (.loadN 2 (.t 75)) 63 false, kg 77 (.bin .neq (.cells [1, 1]) (.t 69) (.t 76)) 63 false, kg 78 (.pick (.t 63) (.c (.bool true)) (.t 77)) 59 true, kn 79 (.pick (.t 59) (.t 78) (.c (.bool false)))] []) (.cond (.t 79) (.seq (.region [kmc 4 (.bool false)]) .ret) .skip)) (.seq (.region [kmv 80 6, kle 81 80, kmv 82 5, kle 83 82, kbt 84 .eql 81 83, kmv 85 84, kg 86 (.move (.t 11)) 85 true, kg 87 (.move (.t 5)) 85 true, kg 88 (.call (.c (.fn (.func 8) [] [])) [(.t 86), (.t 87)]) 85 true, kn 89 (.pick (.t 85) (.t 88) (.c (.bool false))), kmv 90 89, kg 91 (.loadN 4 (.t 2)) 90 true, kg 92 (.move (.t 6)) 90 true, kg 93 (.call (.c (.fn (.func 11) [] [])) [(.t 91), (.t 92), (.c .nilSlice)]) 90 true, kg 94 (.len 1 (.t 93)) 90 true, kg 95 (.bin .eql .no (.t 94) (.c zi)) 90 true, kn 96 (.pick (.t 90) (.t 95) (.c (.bool false))), kmv 4 96]) .ret)))))))))⟩
/-- understudy/understudylaw15.KeepCounts -/
def fd5 : FD := ⟨119, [(.tmp 6)], (.seq (.region [kn 3 (.box (.t 0)), kmc 6 (.bool false)]) (.seq (.seq (.region [kca 18 6 [], kn 19 (.un .not (.t 18))]) (.cond (.t 19) (.seq (.region [kmc 6 (.bool false)]) .ret) .skip)) (.seq (.seq (.region [kmv 20 1, kle 21 20, kbi 22 .gtr 21 .i64 60, kmv 23 22, kg 24 (.move (.t 2)) 23 false, kg 25 (.len 1 (.t 24)) 23 false, kg 26 (.bin .gtr .no (.t 25) (.c (.int .i64 60))) 23 false, kn 27 (.pick (.t 23) (.c (.bool true)) (.t 26)), kmv 28 27, kg 29 (.move (.t 1)) 28 false, kg 30 (.call (.c (.fn (.func 7) [] [])) [(.t 29)]) 28 false, kg 31 (.un .not (.t 30)) 28 false, kn 32 (.pick (.t 28) (.c (.bool true)) (.t 31))]) (.cond (.t 32) (.seq (.region [kmc 6 (.bool true)]) .ret) .skip)) (.seq (.drawn [kln 33 4 3, kmv 34 1, kca 35 9 [(.t 33), (.t 34)], kln 36 4 3, kmv 37 1, kmv 38 2, kca 39 11 [(.t 36), (.t 37), (.t 38)], kmv 7 35, kmv 8 39] [⟨3, [2, 6]⟩]) (.seq (.seq (.region [kmv 40 7, kle 41 40, kn 42 (.convInt .u64 (.t 41)), kfa 43 2 3, kl1 44 43, kn 45 (.minmax false [(.t 44), (.c (.int .i64 100))]), kn 46 (.minmax true [(.c zi), (.t 45)]), kn 47 (.convInt .u64 (.t 46)), kfa 48 3 3, kl1 49 48, kn 50 (.minmax false [(.t 49), (.c (.int .i64 100))]), kn 51 (.minmax true [(.c zi), (.t 50)]), kn 52 (.convInt .u64 (.t 51)), kbt 53 .add 47 52, kbt 54 .gtr 42 53, kmv 55 54, kg 56 (.fieldAddr 2 (.t 3)) 55 false, kg 57 (.load1 (.t 56)) 55 false, kg 58 (.bin .leq .no (.t 57) (.c zi)) 55 false, kg 59 (.move (.t 58)) 55 false, kg 60 (.fieldAddr 1 (.t 3)) 59 true, kg 61 (.load1 (.t 60)) 59 true, kg 62 (.bin .eql .no (.t 61) (.c zw)) 59 true, kg 63 (.pick (.t 59) (.t 62) (.c (.bool false))) 55 false, kg 64 (.move (.t 63)) 55 false, kg 65 (.move (.t 7)) 64 true, kg 66 (.len 1 (.t 65)) 64 true, kg 67 (.bin .neq .no (.t 66) (.c zi)) 64 true, kg 68 (.pick (.t 64) (.t 67) (.c (.bool false))) 55 false, kn 69 (.pick (.t 55) (.c (.bool true)) (.t 68))]) (.cond (.t 69) (.seq (.region [kmc 6 (.bool false)]) .ret) .skip)) (.seq (.seq (.region [kmv 70 8, kle 71 70, kmc 72 zi]) (.block 0 (.loop (.seq (.region [kbt 73 .lss 72 71]) (.seq (.cond (.t 73) .skip (.exit 0)) (.seq (.block 1 (.seq (.region [kix 74 2 70 72, kln 75 2 74, kn 10 (.alloc [zw, zw]), kst 2 10 75]) (.seq (.region [kn 76 (.buildSlice [] 0 [] 2), kmv 77 7, kn 78 (.append 2 8 [zw, zw] (.t 76) (.t 77)), kmv 79 2, kn 80 (.append 2 8 [zw, zw] (.t 78) (.t 79)), kle 81 80, kmc 82 zi]) (.block 2 (.loop (.seq (.region [kbt 83 .lss 82 81]) (.seq (.cond (.t 83) .skip (.exit 2)) (.seq (.block 3 (.seq (.region [kix 84 2 80 82, kln 85 2 84, kn 12 (.alloc [zw, zw]), kst 2 12 85]) (.seq (.region [kln 86 2 10, kln 87 2 12, kn 88 (.bin .eql (.cells [1, 1]) (.t 86) (.t 87))]) (.cond (.t 88) (.seq (.region [kmc 6 (.bool false)]) .ret) .skip)))) (.region [kbi 89 .add 82 .i64 1, kmv 82 89]))))))))) (.region [kbi 90 .add 72 .i64 1, kmv 72 90]))))))) (.seq (.seq (.region [kmv 91 1, kle 92 91, kmc 93 zi]) (.block 4 (.loop (.seq (.region [kbt 94 .lss 93 92]) (.seq (.cond (.t 94) .skip (.exit 4)) (.seq (.block 5 (.seq (.region [kix 95 4 91 93, kln 96 4 95, kn 14 (.alloc [zw, zw, zi, zw]), kst 4 14 96]) (.seq (.region [kmc 15 zi]) (.seq (.seq (.region [kn 97 (.buildSlice [] 0 [] 2), kmv 98 7, kn 99 (.append 2 8 [zw, zw] (.t 97) (.t 98)), kmv 100 2, kn 101 (.append 2 8 [zw, zw] (.t 99) (.t 100)), kmv 102 8, kn 103 (.append 2 8 [zw, zw] (.t 101) (.t 102)), kle 104 103, kmc 105 zi]) (.block 6 (.loop (.seq (.region [kbt 106 .lss 105 104]) (.seq (.cond (.t 106) .skip (.exit 6)) (.seq (.block 7 (.seq (.region [kix 107 2 103 105, kln 108 2 107, kn 17 (.alloc [zw, zw]), kst 2 17 108]) (.seq (.region [kfa 109 0 14, kln 110 2 109, kln 111 2 17, kn 112 (.bin .eql (.cells [1, 1]) (.t 110) (.t 111))]) (.cond (.t 112) (.region [kmv 113 15, kbi 114 .add 113 .i64 1, kmv 15 114]) .skip)))) (.region [kbi 115 .add 105 .i64 1, kmv 105 115]))))))) (.seq (.region [kmv 116 15, kbi 117 .eql 116 .i64 0]) (.cond (.t 117) (.seq (.region [kmc 6 (.bool false)]) .ret) .skip)))))) (.region [kbi 118 .add 93 .i64 1, kmv 93 118]))))))) (.seq (.region [kmc 6 (.bool true)]) .ret))))))))⟩
/-- understudy/understudylaw15.keepAlive -/
def fd6 : FD := ⟨52, [(.tmp 0)], (.seq (.region [kmc 0 (.bool false)]) (.seq (.region [kn 5 (.buildSlice [] 0 [] 4), kmv 1 5]) (.seq (.seq (.region [kn 6 (.buildSlice [zw, zw, zw, zw, zw] 5 [(0, 1, (.c (.int .u32 3))), (1, 1, (.c (.int .u32 8))), (2, 1, (.c (.int .u32 12))), (3, 1, (.c (.int .u32 14))), (4, 1, (.c (.int .u32 27)))] 1), kle 7 6, kmc 8 zi]) (.block 0 (.loop (.seq (.region [kbt 9 .lss 8 7]) (.seq (.cond (.t 9) .skip (.exit 0)) (.seq (.block 1 (.seq (.region [kmv 10 8, kix 11 1 6 8, kl1 12 11, kmv 2 10, kmv 3 12]) (.region [kmv 13 1, kmv 14 2, kbi 15 .add 14 .i64 1, kn 16 (.convInt .u32 (.t 15)), kn 17 (.build [zw, zw] [(0, 1, (.c (.int .u32 1))), (1, 1, (.t 16))]), kmv 18 3, kn 19 (.build [zw, zw, zi, zw] [(0, 2, (.t 17)), (3, 1, (.t 18))]), kn 20 (.buildSlice [zw, zw, zi, zw] 1 [(0, 4, (.t 19))] 4), kn 21 (.append 4 24 [zw, zw, zi, zw] (.t 13) (.t 20)), kmv 1 21]))) (.region [kbi 22 .add 8 .i64 1, kmv 8 22]))))))) (.seq (.region [kn 23 (.build [zw, zw, zi, zi] [(2, 1, (.c (.int .i64 1))), (1, 1, (.c (.int .u32 10))), (3, 1, (.c (.int .i64 2)))]), kmv 24 1, kca 25 9 [(.t 23), (.t 24)], kmv 4 25]) (.seq (.region [kmv 26 4, kle 27 26, kbi 28 .eql 27 .i64 2, kmv 29 28, kg 30 (.move (.t 4)) 29 true, kg 31 (.idxSl 2 (.t 30) (.c zi)) 29 true, kg 32 (.fieldAddr 1 (.t 31)) 29 true, kg 33 (.load1 (.t 32)) 29 true, kg 34 (.bin .eql .no (.t 33) (.c (.int .u32 4))) 29 true, kn 35 (.pick (.t 29) (.t 34) (.c (.bool false))), kmv 36 35, kg 37 (.move (.t 4)) 36 true, kg 38 (.idxSl 2 (.t 37) (.c (.int .i64 1))) 36 true, kg 39 (.fieldAddr 1 (.t 38)) 36 true, kg 40 (.load1 (.t 39)) 36 true, kg 41 (.bin .eql .no (.t 40) (.c (.int .u32 5))) 36 true, kn 42 (.pick (.t 36) (.t 41) (.c (.bool false))), kmv 43 42, kg 44 (.build [zw, zw, zi, zi] [(0, 1, (.c (.int .u32 5)))]) 43 true, kg 45 (.call (.c (.fn (.func 13) [] [])) [(.t 44), (.c (.int .u32 3)), (.c (.int .u32 8))]) 43 true, kn 46 (.pick (.t 43) (.t 45) (.c (.bool false))), kmv 47 46, kg 48 (.build [zw, zw, zi, zi] [(0, 1, (.c (.int .u32 5)))]) 47 true, kg 49 (.call (.c (.fn (.func 13) [] [])) [(.t 48), (.c (.int .u32 3)), (.c (.int .u32 7))]) 47 true, kg 50 (.un .not (.t 49)) 47 true, kn 51 (.pick (.t 47) (.t 50) (.c (.bool false))), kmv 0 51]) .ret)))))⟩
/-- understudy/understudyref15.Rising -/
def fd7 : FD := ⟨27, [(.tmp 2)], (.seq (.region [kmc 2 (.bool false)]) (.seq (.seq (.region [kmv 4 0, kle 5 4, kmc 6 zi]) (.block 0 (.loop (.seq (.region [kbt 7 .lss 6 5]) (.seq (.cond (.t 7) .skip (.exit 0)) (.seq (.block 1 (.seq (.region [kmv 8 6, kmv 3 8]) (.seq (.drawn [kmv 9 3, kbi 10 .gtr 9 .i64 0, kmv 11 10, kg 12 (.move (.t 0)) 11 true, kg 13 (.move (.t 3)) 11 true, kg 14 (.bin .sub .no (.t 13) (.c (.int .i64 1))) 11 true, kg 15 (.idxSl 4 (.t 12) (.t 14)) 11 true, kg 16 (.fieldAddr 0 (.t 15)) 11 true, kg 17 (.loadN 2 (.t 16)) 11 true, kg 18 (.move (.t 0)) 11 true, kg 19 (.move (.t 3)) 11 true, kg 20 (.idxSl 4 (.t 18) (.t 19)) 11 true, kg 21 (.fieldAddr 0 (.t 20)) 11 true, kg 22 (.loadN 2 (.t 21)) 11 true, kg 23 (.call (.c (.fn (.func 14) [] [])) [(.t 17), (.t 22)]) 11 true, kg 24 (.un .not (.t 23)) 11 true, kn 25 (.pick (.t 11) (.t 24) (.c (.bool false)))] []) (.cond (.t 25) (.seq (.region [kmc 2 (.bool false)]) .ret) .skip)))) (.region [kbi 26 .add 6 .i64 1, kmv 6 26]))))))) (.seq (.region [kmc 2 (.bool true)]) .ret)))⟩
/-- understudy/understudyref15.Same -/
def fd8 : FD := ⟨26, [(.tmp 4)], (.seq (.region [kmc 4 (.bool false)]) (.seq (.seq (.region [kmv 6 0, kle 7 6, kmv 8 1, kle 9 8, kbt 10 .neq 7 9]) (.cond (.t 10) (.seq (.region [kmc 4 (.bool false)]) .ret) .skip)) (.seq (.seq (.region [kmv 11 0, kle 12 11, kmc 13 zi]) (.block 0 (.loop (.seq (.region [kbt 14 .lss 13 12]) (.seq (.cond (.t 14) .skip (.exit 0)) (.seq (.block 1 (.seq (.region [kmv 15 13, kmv 5 15]) (.seq (.drawn [kmv 16 0, kmv 17 5, kix 18 2 16 17, kln 19 2 18, kmv 20 1, kmv 21 5, kix 22 2 20 21, kln 23 2 22, kn 24 (.bin .neq (.cells [1, 1]) (.t 19) (.t 23))] []) (.cond (.t 24) (.seq (.region [kmc 4 (.bool false)]) .ret) .skip)))) (.region [kbi 25 .add 13 .i64 1, kmv 13 25]))))))) (.seq (.region [kmc 4 (.bool true)]) .ret))))⟩
/-- understudy/keep.Kept -/
def fd9 : FD := ⟨52, [(.tmp 4)], (.seq (.region [kn 2 (.box (.t 0)), kmc 4 .nilSlice]) (.seq (.region [kmc 5 .nilSlice]) (.seq (.seq (.region [kmv 9 1, kmv 10 1, kle 11 10, kfa 12 2 2, kl1 13 12, kmv 14 1, kle 15 14, kn 16 (.minmax false [(.t 13), (.t 15)]), kn 17 (.minmax true [(.c zi), (.t 16)]), kbt 18 .sub 11 17, kn 19 (.sliceSl 4 (.t 9) (some (.t 18)) none none), kle 20 19, kmc 21 zi]) (.block 0 (.loop (.seq (.region [kbt 22 .lss 21 20]) (.seq (.cond (.t 22) .skip (.exit 0)) (.seq (.block 1 (.seq (.region [kix 23 4 19 21, kln 24 4 23, kn 7 (.alloc [zw, zw, zi, zw]), kst 4 7 24]) (.region [kmv 25 5, kfa 26 0 7, kln 27 2 26, kn 28 (.buildSlice [zw, zw] 1 [(0, 2, (.t 27))] 2), kn 29 (.append 2 8 [zw, zw] (.t 25) (.t 28)), kmv 5 29]))) (.region [kbi 30 .add 21 .i64 1, kmv 21 30]))))))) (.seq (.seq (.region [kfa 31 1 2, kl1 32 31, kbi 33 .gtr 32 .u32 0]) (.cond (.t 33) (.seq (.region [kfa 34 1 2, kl1 35 34, kmv 36 1, kca 37 15 [(.t 35), (.t 36)], kmv 8 37]) (.region [kmv 38 5, kmv 39 8, kfa 40 3 2, kl1 41 40, kmv 42 8, kle 43 42, kn 44 (.minmax false [(.t 41), (.t 43)]), kn 45 (.minmax true [(.c zi), (.t 44)]), kn 46 (.sliceSl 2 (.t 39) none (some (.t 45)) none), kn 47 (.append 2 8 [zw, zw] (.t 38) (.t 46)), kmv 5 47])) .skip)) (.seq (.region [kmv 48 5, kn 49 (.call (.c (.fn (.func 16) [] [])) [(.t 48), (.c (.fn (.func 17) [] []))])]) (.seq (.region [kmv 50 5, kca 51 18 [(.t 50)], kmv 4 51]) .ret))))))⟩
/-- understudy/understudyref15.Kept -/
def fd10 : FD := ⟨27, [(.tmp 4)], (.seq (.region [kn 2 (.box (.t 0)), kmc 4 .nilSlice]) (.seq (.region [kn 8 (.buildSlice [] 0 [] 2), kmv 5 8]) (.seq (.seq (.region [kmv 9 1, kle 10 9, kmc 11 zi]) (.block 0 (.loop (.seq (.region [kbt 12 .lss 11 10]) (.seq (.cond (.t 12) .skip (.exit 0)) (.seq (.block 1 (.seq (.region [kmv 13 11, kix 14 4 9 11, kln 15 4 14, kn 7 (.alloc [zw, zw, zi, zw]), kmv 6 13, kst 4 7 15]) (.seq (.region [kln 16 4 2, kmv 17 1, kmv 18 6, kca 19 19 [(.t 16), (.t 17), (.t 18)]]) (.cond (.t 19) (.region [kmv 20 5, kfa 21 0 7, kln 22 2 21, kn 23 (.buildSlice [zw, zw] 1 [(0, 2, (.t 22))] 2), kn 24 (.append 2 8 [zw, zw] (.t 20) (.t 23)), kmv 5 24]) .skip)))) (.region [kbi 25 .add 11 .i64 1, kmv 11 25]))))))) (.seq (.region [kmv 26 5, kmv 4 26]) .ret))))⟩
/-- understudy/keep.Goes -/
def fd11 : FD := ⟨34, [(.tmp 6)], (.seq (.region [kn 3 (.box (.t 0)), kmc 6 .nilSlice]) (.seq (.region [kln 11 4 3, kmv 12 1, kca 13 9 [(.t 11), (.t 12)], kmv 14 2, kn 15 (.append 2 8 [zw, zw] (.t 13) (.t 14)), kmv 7 15]) (.seq (.region [kmc 8 .nilSlice]) (.seq (.seq (.region [kmv 16 1, kle 17 16, kmc 18 zi]) (.block 0 (.loop (.seq (.region [kbt 19 .lss 18 17]) (.seq (.cond (.t 19) .skip (.exit 0)) (.seq (.block 1 (.seq (.region [kix 20 4 16 18, kln 21 4 20, kn 10 (.alloc [zw, zw, zi, zw]), kst 4 10 21]) (.seq (.region [kmv 22 7, kfa 23 0 10, kln 24 2 23, kca 25 20 [(.t 22), (.t 24)], kn 26 (.un .not (.t 25))]) (.cond (.t 26) (.region [kmv 27 8, kfa 28 0 10, kln 29 2 28, kn 30 (.buildSlice [zw, zw] 1 [(0, 2, (.t 29))] 2), kn 31 (.append 2 8 [zw, zw] (.t 27) (.t 30)), kmv 8 31]) .skip)))) (.region [kbi 32 .add 18 .i64 1, kmv 18 32]))))))) (.seq (.region [kmv 33 8, kmv 6 33]) .ret)))))⟩
/-- understudy/understudyref15.Goes -/
def fd12 : FD := ⟨48, [(.tmp 6)], (.seq (.region [kn 3 (.box (.t 0)), kmc 6 .nilSlice]) (.seq (.region [kn 13 (.buildSlice [] 0 [] 2), kmv 7 13]) (.seq (.seq (.region [kmv 14 1, kle 15 14, kmc 16 zi]) (.block 0 (.loop (.seq (.region [kbt 17 .lss 16 15]) (.seq (.cond (.t 17) .skip (.exit 0)) (.seq (.block 1 (.seq (.region [kmv 18 16, kix 19 4 14 16, kln 20 4 19, kn 9 (.alloc [zw, zw, zi, zw]), kmv 8 18, kst 4 9 20]) (.seq (.region [kln 21 4 3, kmv 22 1, kmv 23 8, kca 24 19 [(.t 21), (.t 22), (.t 23)], kmv 10 24]) (.seq (.seq (.region [kmv 25 2, kle 26 25, kmc 27 zi]) (.block 2 (.loop (.seq (.region [kbt 28 .lss 27 26]) (.seq (.cond (.t 28) .skip (.exit 2)) (.seq (.block 3 (.seq (.region [kix 29 2 25 27, kln 30 2 29, kn 12 (.alloc [zw, zw]), kst 2 12 30]) (.region [kmv 31 10, kmv 32 31, kg 33 (.loadN 2 (.t 12)) 32 false, kg 34 (.fieldAddr 0 (.t 9)) 32 false, kg 35 (.loadN 2 (.t 34)) 32 false, kg 36 (.bin .eql (.cells [1, 1]) (.t 33) (.t 35)) 32 false, kn 37 (.pick (.t 32) (.c (.bool true)) (.t 36)), kmv 10 37]))) (.region [kbi 38 .add 27 .i64 1, kmv 27 38]))))))) (.seq (.region [kmv 39 10, kn 40 (.un .not (.t 39))]) (.cond (.t 40) (.region [kmv 41 7, kfa 42 0 9, kln 43 2 42, kn 44 (.buildSlice [zw, zw] 1 [(0, 2, (.t 43))] 2), kn 45 (.append 2 8 [zw, zw] (.t 41) (.t 44)), kmv 7 45]) .skip)))))) (.region [kbi 46 .add 16 .i64 1, kmv 16 46]))))))) (.seq (.region [kmv 47 7, kmv 6 47]) .ret))))⟩
/-- understudy/keep.Due -/
def fd13 : FD := ⟨23, [(.tmp 6)], (.seq (.region [kn 3 (.box (.t 0)), kmc 6 (.bool false)]) (.seq (.region [kfa 7 0 3, kl1 8 7, kbi 9 .gtr 8 .u32 0, kmv 10 9, kg 11 (.move (.t 2)) 10 true, kg 12 (.move (.t 1)) 10 true, kg 13 (.bin .geq .no (.t 11) (.t 12)) 10 true, kn 14 (.pick (.t 10) (.t 13) (.c (.bool false))), kmv 15 14, kg 16 (.move (.t 2)) 15 true, kg 17 (.move (.t 1)) 15 true, kg 18 (.bin .sub .no (.t 16) (.t 17)) 15 true, kg 19 (.fieldAddr 0 (.t 3)) 15 true, kg 20 (.load1 (.t 19)) 15 true, kg 21 (.bin .geq .no (.t 18) (.t 20)) 15 true, kn 22 (.pick (.t 15) (.t 21) (.c (.bool false))), kmv 6 22]) .ret))⟩
/-- understudy/understudyref03.Less -/
def fd14 : FD := ⟨24, [(.tmp 4)], (.seq (.region [kn 2 (.box (.t 0)), kn 3 (.box (.t 1)), kmc 4 (.bool false)]) (.seq (.region [kfa 5 0 2, kl1 6 5, kfa 7 0 3, kl1 8 7, kbt 9 .lss 6 8, kmv 10 9, kg 11 (.fieldAddr 0 (.t 2)) 10 false, kg 12 (.load1 (.t 11)) 10 false, kg 13 (.fieldAddr 0 (.t 3)) 10 false, kg 14 (.load1 (.t 13)) 10 false, kg 15 (.bin .eql .no (.t 12) (.t 14)) 10 false, kg 16 (.move (.t 15)) 10 false, kg 17 (.fieldAddr 1 (.t 2)) 16 true, kg 18 (.load1 (.t 17)) 16 true, kg 19 (.fieldAddr 1 (.t 3)) 16 true, kg 20 (.load1 (.t 19)) 16 true, kg 21 (.bin .lss .no (.t 18) (.t 20)) 16 true, kg 22 (.pick (.t 16) (.t 21) (.c (.bool false))) 10 false, kn 23 (.pick (.t 10) (.c (.bool true)) (.t 22)), kmv 4 23]) .ret))⟩
/-- understudy/keep.spans -/
def fd15 : FD := ⟨58, [(.tmp 4)], (.seq (.region [kmc 4 .nilSlice]) (.seq (.region [⟨some 14, .mkMap, none⟩, kn 5 (.alloc [.nilMap]), kst 1 5 14]) (.seq (.seq (.region [kmv 15 1, kle 16 15, kmc 17 zi]) (.block 0 (.loop (.seq (.region [kbt 18 .lss 17 16]) (.seq (.cond (.t 18) .skip (.exit 0)) (.seq (.block 1 (.seq (.region [kix 19 4 15 17, kln 20 4 19, kn 7 (.alloc [zw, zw, zi, zw]), kst 4 7 20]) (.seq (.region [kfa 21 3 7, kl1 22 21, kmv 23 0, kbt 24 .quo 22 23, kmv 8 24]) (.drawn [kl1 25 5, kmv 26 8, kl1 27 5, kmv 28 8, kn 29 (.lookup (.agg [zw, zw]) (.t 27) (.t 28) false), kfa 30 0 7, kln 31 2 30, kn 32 (.buildSlice [zw, zw, zw, zw] 2 [(0, 2, (.t 29)), (2, 2, (.t 31))] 2), kca 33 21 [(.t 32)], ⟨none, (.mapUpd (.t 25) (.t 26) (.t 33)), none⟩] [⟨0, [7, 8, 9]⟩])))) (.region [kbi 34 .add 17 .i64 1, kmv 17 34]))))))) (.seq (.region [kmc 9 .nilSlice]) (.seq (.seq (.region [kl1 35 5, kn 36 (.range (.t 35))]) (.block 2 (.loop (.seq (.region [kn 37 (.next (.t 36)), kex 38 37 0]) (.seq (.cond (.t 38) .skip (.exit 2)) (.block 3 (.seq (.region [kn 39 (.entry (.t 36)), kex 40 39 0, kmv 10 40]) (.region [kmv 41 9, kmv 42 10, kn 43 (.buildSlice [zw] 1 [(0, 1, (.t 42))] 1), kn 44 (.append 1 4 [zw] (.t 41) (.t 43)), kmv 9 44])))))))) (.seq (.region [kmv 45 9, kca 46 22 [(.t 45)]]) (.seq (.region [kn 11 (.alloc [.nilSlice])]) (.seq (.seq (.region [kmv 47 9, kca 48 23 [(.t 47)]]) (.block 4 (.rangeF (.t 48) [49, 50] (.region [kmv 13 50]) (.block 5 (.region [kl1 51 11, kl1 52 5, kmv 53 13, kn 54 (.lookup (.agg [zw, zw]) (.t 52) (.t 53) false), kn 55 (.buildSlice [zw, zw] 1 [(0, 2, (.t 54))] 2), kn 56 (.append 2 8 [zw, zw] (.t 51) (.t 55)), kst 1 11 56]))))) (.seq (.region [kl1 57 11, kmv 4 57]) .ret)))))))))⟩
/-- slices.SortFunc[[]understudy/api.Label,understudy/api.Label] -/
def fd16 : FD := ⟨14, [], (.seq (.region [kmv 5 0, kle 6 5, kmv 4 6]) (.region [kmv 7 0, kmv 8 4, kmv 9 4, kn 10 (.convInt .u64 (.t 9)), kca 11 25 [(.t 10)], kmv 12 1, kca 13 24 [(.t 7), (.c zi), (.t 8), (.t 11), (.t 12)]]))⟩
/-- understudy/label.Compare -/
def fd17 : FD := ⟨17, [(.tmp 4)], (.seq (.region [kn 2 (.box (.t 0)), kn 3 (.box (.t 1)), kmc 4 zi]) (.seq (.drawn [kfa 5 0 2, kl1 6 5, kfa 7 0 3, kl1 8 7, kca 9 27 [(.t 6), (.t 8)], kfa 10 1 2, kl1 11 10, kfa 12 1 3, kl1 13 12, kca 14 27 [(.t 11), (.t 13)], kn 15 (.buildSlice [zi, zi] 2 [(0, 1, (.t 9)), (1, 1, (.t 14))] 1), kca 16 26 [(.t 15)], kmv 4 16] [⟨6, [4, 9]⟩, ⟨8, [4, 9]⟩]) .ret))⟩
/-- slices.Compact[[]understudy/api.Label,understudy/api.Label] -/
def fd18 : FD := ⟨61, [(.tmp 2)], (.seq (.region [kmc 2 .nilSlice]) (.seq (.seq (.region [kmv 6 0, kle 7 6, kbi 8 .lss 7 .i64 2]) (.cond (.t 8) (.seq (.region [kmv 9 0, kmv 2 9]) .ret) .skip)) (.seq (.seq (.region [kmc 3 (.int .i64 1)]) (.block 0 (.loop (.seq (.seq (.region [kmv 10 3, kmv 11 0, kle 12 11, kbt 13 .lss 10 12]) (.cond (.t 13) .skip (.exit 0))) (.seq (.block 1 (.seq (.drawn [kmv 16 0, kmv 17 3, kix 18 2 16 17, kln 19 2 18, kmv 20 0, kmv 21 3, kbi 22 .sub 21 .i64 1, kix 23 2 20 22, kln 24 2 23, kn 25 (.bin .eql (.cells [1, 1]) (.t 19) (.t 24))] []) (.cond (.t 25) (.seq (.region [kmv 26 0, kmv 27 3, kn 28 (.sliceSl 2 (.t 26) (some (.t 27)) none none), kmv 4 28]) (.seq (.seq (.region [kmc 5 (.int .i64 1)]) (.block 2 (.loop (.seq (.seq (.region [kmv 29 5, kmv 30 4, kle 31 30, kbt 32 .lss 29 31]) (.cond (.t 32) .skip (.exit 2))) (.seq (.block 3 (.seq (.drawn [kmv 35 4, kmv 36 5, kix 37 2 35 36, kln 38 2 37, kmv 39 4, kmv 40 5, kbi 41 .sub 40 .i64 1, kix 42 2 39 41, kln 43 2 42, kn 44 (.bin .neq (.cells [1, 1]) (.t 38) (.t 43))] []) (.cond (.t 44) (.seq (.region [kmv 45 0, kmv 46 3, kmv 47 4, kmv 48 5, kix 49 2 47 48, kln 50 2 49, kix 51 2 45 46, kst 2 51 50]) (.region [kmv 52 3, kbi 53 .add 52 .i64 1, kmv 3 53])) .skip))) (.region [kmv 33 5, kbi 34 .add 33 .i64 1, kmv 5 34])))))) (.seq (.region [kmv 54 0, kmv 55 3, kn 56 (.sliceSl 2 (.t 54) (some (.t 55)) none none), ⟨none, (.clear [zw, zw] (.t 56)), none⟩]) (.seq (.region [kmv 57 0, kmv 58 3, kn 59 (.sliceSl 2 (.t 57) none (some (.t 58)) none), kmv 2 59]) .ret)))) .skip))) (.region [kmv 14 3, kbi 15 .add 14 .i64 1, kmv 3 15])))))) (.seq (.region [kmv 60 0, kmv 2 60]) .ret))))⟩
/-- understudy/understudyref15.kept -/
def fd19 : FD := ⟨88, [(.tmp 6)], (.seq (.region [kn 3 (.box (.t 0)), kmc 6 (.bool false)]) (.seq (.seq (.region [kmv 15 1, kle 16 15, kmv 17 2, kbt 18 .sub 16 17, kfa 19 2 3, kl1 20 19, kbt 21 .leq 18 20]) (.cond (.t 21) (.seq (.region [kmc 6 (.bool true)]) .ret) .skip)) (.seq (.seq (.region [kfa 22 1 3, kl1 23 22, kbi 24 .eql 23 .u32 0]) (.cond (.t 24) (.seq (.region [kmc 6 (.bool false)]) .ret) .skip)) (.seq (.drawn [kmv 25 1, kmv 26 2, kix 27 4 25 26, kfa 28 3 27, kl1 29 28, kfa 30 1 3, kl1 31 30, kbt 32 .quo 29 31, kmv 7 32] []) (.seq (.region [kn 33 (.buildSlice [] 0 [] 1), kmv 8 33]) (.seq (.seq (.region [kmv 34 1, kle 35 34, kmc 36 zi]) (.block 0 (.loop (.seq (.region [kbt 37 .lss 36 35]) (.seq (.cond (.t 37) .skip (.exit 0)) (.seq (.block 1 (.seq (.region [kix 38 4 34 36, kln 39 4 38, kn 10 (.alloc [zw, zw, zi, zw]), kst 4 10 39]) (.seq (.region [kfa 40 3 10, kl1 41 40, kfa 42 1 3, kl1 43 42, kbt 44 .quo 41 43, kmv 11 44]) (.seq (.seq (.drawn [kmv 45 11, kmv 46 7, kbt 47 .eql 45 46, kmv 48 47, kg 49 (.move (.t 1)) 48 true, kg 50 (.move (.t 2)) 48 true, kg 51 (.idxSl 4 (.t 49) (.t 50)) 48 true, kg 52 (.fieldAddr 0 (.t 51)) 48 true, kg 53 (.loadN 2 (.t 52)) 48 true, kg 54 (.fieldAddr 0 (.t 10)) 48 true, kg 55 (.loadN 2 (.t 54)) 48 true, kg 56 (.call (.c (.fn (.func 14) [] [])) [(.t 53), (.t 55)]) 48 true, kn 57 (.pick (.t 48) (.t 56) (.c (.bool false)))] []) (.cond (.t 57) (.seq (.region [kmc 6 (.bool false)]) .ret) .skip)) (.seq (.region [kmc 12 (.bool false)]) (.seq (.seq (.region [kmv 58 8, kle 59 58, kmc 60 zi]) (.block 2 (.loop (.seq (.region [kbt 61 .lss 60 59]) (.seq (.cond (.t 61) .skip (.exit 2)) (.seq (.block 3 (.seq (.region [kix 62 1 58 60, kl1 63 62, kmv 14 63]) (.region [kmv 64 12, kmv 65 64, kg 66 (.move (.t 14)) 65 false, kg 67 (.move (.t 11)) 65 false, kg 68 (.bin .eql .no (.t 66) (.t 67)) 65 false, kn 69 (.pick (.t 65) (.c (.bool true)) (.t 68)), kmv 12 69]))) (.region [kbi 70 .add 60 .i64 1, kmv 60 70]))))))) (.seq (.region [kmv 71 11, kmv 72 7, kbt 73 .gtr 71 72, kmv 74 73, kg 75 (.move (.t 12)) 74 true, kg 76 (.un .not (.t 75)) 74 true, kn 77 (.pick (.t 74) (.t 76) (.c (.bool false)))]) (.cond (.t 77) (.region [kmv 78 8, kmv 79 11, kn 80 (.buildSlice [zw] 1 [(0, 1, (.t 79))] 1), kn 81 (.append 1 4 [zw] (.t 78) (.t 80)), kmv 8 81]) .skip)))))))) (.region [kbi 82 .add 36 .i64 1, kmv 36 82]))))))) (.seq (.region [kmv 83 8, kle 84 83, kfa 85 3 3, kl1 86 85, kbt 87 .lss 84 86, kmv 6 87]) .ret)))))))⟩
/-- slices.Contains[[]understudy/api.Label,understudy/api.Label] -/
def fd20 : FD := ⟨9, [(.tmp 4)], (.seq (.region [kn 3 (.box (.t 1)), kmc 4 (.bool false)]) (.seq (.region [kmv 5 0, kln 6 2 3, kca 7 28 [(.t 5), (.t 6)], kbi 8 .geq 7 .i64 0, kmv 4 8]) .ret))⟩
/-- understudy/label.Last -/
def fd21 : FD := ⟨9, [(.cellN 2 2)], (.seq (.region [kn 2 (.alloc [zw, zw])]) (.seq (.seq (.region [kmv 3 0, kle 4 3, kbi 5 .eql 4 .i64 0]) (.cond (.t 5) (.seq (.region [kn 6 (.build [zw, zw] []), kst 2 2 6]) .ret) .skip)) (.seq (.region [kmv 7 0, kn 8 (.call (.c (.fn (.func 29) [] [])) [(.t 7), (.c (.fn (.func 17) [] []))]), kst 2 2 8]) .ret)))⟩
/-- slices.Sort[[]uint32,uint32] -/
def fd22 : FD := ⟨11, [], (.seq (.region [kmv 3 0, kle 4 3, kmv 2 4]) (.region [kmv 5 0, kmv 6 2, kmv 7 2, kn 8 (.convInt .u64 (.t 7)), kca 9 25 [(.t 8)], kca 10 30 [(.t 5), (.c zi), (.t 6), (.t 9)]]))⟩
/-- slices.Backward[[]uint32,uint32] -/
def fd23 : FD := ⟨4, [(.tmp 2)], (.seq (.region [kn 1 (.box (.t 0)), kmc 2 .nilFn]) (.seq (.region [kn 3 (.mkFunc (.func 31) [] [(.t 1)]), kmv 2 3]) .ret))⟩
/-- slices.pdqsortCmpFunc[understudy/api.Label] -/
def fd24 : FD := ⟨148, [], (.seq (.region [kmc 10 (.bool true)]) (.seq (.region [kmc 11 (.bool true)]) (.block 0 (.loop (.block 1 (.seq (.region [kmv 21 2, kmv 22 1, kbt 23 .sub 21 22, kmv 12 23]) (.seq (.seq (.region [kmv 24 12, kbi 25 .leq 24 .i64 12]) (.cond (.t 25) (.seq (.region [kmv 26 0, kmv 27 1, kmv 28 2, kmv 29 4, kca 30 32 [(.t 26), (.t 27), (.t 28), (.t 29)]]) .ret) .skip)) (.seq (.seq (.region [kmv 31 3, kbi 32 .eql 31 .i64 0]) (.cond (.t 32) (.seq (.region [kmv 33 0, kmv 34 1, kmv 35 2, kmv 36 4, kca 37 33 [(.t 33), (.t 34), (.t 35), (.t 36)]]) .ret) .skip)) (.seq (.seq (.region [kmv 38 10, kn 39 (.un .not (.t 38))]) (.cond (.t 39) (.seq (.region [kmv 40 0, kmv 41 1, kmv 42 2, kmv 43 4, kca 44 34 [(.t 40), (.t 41), (.t 42), (.t 43)]]) (.region [kmv 45 3, kbi 46 .sub 45 .i64 1, kmv 3 46])) .skip)) (.seq (.region [kmv 48 0, kmv 49 1, kmv 50 2, kmv 51 4, kca 52 35 [(.t 48), (.t 49), (.t 50), (.t 51)], kmv 47 52, kex 53 47 0, kex 54 47 1, kmv 13 53, kmv 14 54]) (.seq (.seq (.region [kmv 55 14, kbi 56 .eql 55 .i64 2]) (.cond (.t 56) (.seq (.region [kmv 57 0, kmv 58 1, kmv 59 2, kmv 60 4, kca 61 36 [(.t 57), (.t 58), (.t 59), (.t 60)]]) (.seq (.region [kmv 62 2, kbi 63 .sub 62 .i64 1, kmv 64 13, kmv 65 1, kbt 66 .sub 64 65, kbt 67 .sub 63 66, kmv 13 67]) (.region [kmc 14 (.int .i64 1)]))) .skip)) (.seq (.seq (.region [kmv 68 10, kmv 69 68, kg 70 (.move (.t 11)) 69 true, kn 71 (.pick (.t 69) (.t 70) (.c (.bool false))), kmv 72 71, kg 73 (.move (.t 14)) 72 true, kg 74 (.bin .eql .no (.t 73) (.c (.int .i64 1))) 72 true, kn 75 (.pick (.t 72) (.t 74) (.c (.bool false)))]) (.cond (.t 75) (.seq (.region [kmv 76 0, kmv 77 1, kmv 78 2, kmv 79 4, kca 80 37 [(.t 76), (.t 77), (.t 78), (.t 79)]]) (.cond (.t 80) .ret .skip)) .skip)) (.seq (.seq (.drawn [kmv 81 1, kbi 82 .gtr 81 .i64 0, kmv 83 82, kg 84 (.move (.t 4)) 83 true, kg 85 (.move (.t 0)) 83 true, kg 86 (.move (.t 1)) 83 true, kg 87 (.bin .sub .no (.t 86) (.c (.int .i64 1))) 83 true, kg 88 (.idxSl 2 (.t 85) (.t 87)) 83 true, kg 89 (.loadN 2 (.t 88)) 83 true, kg 90 (.move (.t 0)) 83 true, kg 91 (.move (.t 13)) 83 true, kg 92 (.idxSl 2 (.t 90) (.t 91)) 83 true, kg 93 (.loadN 2 (.t 92)) 83 true, kg 94 (.call (.t 84) [(.t 89), (.t 93)]) 83 true, kg 95 (.bin .lss .no (.t 94) (.c zi)) 83 true, kg 96 (.un .not (.t 95)) 83 true, kn 97 (.pick (.t 83) (.t 96) (.c (.bool false)))] []) (.cond (.t 97) (.seq (.region [kmv 98 0, kmv 99 1, kmv 100 2, kmv 101 13, kmv 102 4, kca 103 38 [(.t 98), (.t 99), (.t 100), (.t 101), (.t 102)], kmv 15 103]) (.seq (.region [kmv 104 15, kmv 1 104]) (.exit 1))) .skip)) (.seq (.region [kmv 106 0, kmv 107 1, kmv 108 2, kmv 109 13, kmv 110 4, kca 111 39 [(.t 106), (.t 107), (.t 108), (.t 109), (.t 110)], kmv 105 111, kex 112 105 0, kex 113 105 1, kmv 16 112, kmv 17 113]) (.seq (.region [kmv 114 17, kmv 11 114]) (.seq (.region [kmv 115 16, kmv 116 1, kbt 117 .sub 115 116, kmv 118 2, kmv 119 16, kbt 120 .sub 118 119, kmv 18 117, kmv 19 120]) (.seq (.region [kmv 121 12, kbi 122 .quo 121 .i64 8, kmv 20 122]) (.seq (.region [kmv 123 18, kmv 124 19, kbt 125 .lss 123 124]) (.cond (.t 125) (.seq (.region [kmv 126 18, kmv 127 20, kbt 128 .geq 126 127, kmv 10 128]) (.seq (.region [kmv 129 0, kmv 130 1, kmv 131 16, kmv 132 3, kmv 133 4, kca 134 24 [(.t 129), (.t 130), (.t 131), (.t 132), (.t 133)]]) (.region [kmv 135 16, kbi 136 .add 135 .i64 1, kmv 1 136]))) (.seq (.region [kmv 137 19, kmv 138 20, kbt 139 .geq 137 138, kmv 10 139]) (.seq (.region [kmv 140 0, kmv 141 16, kbi 142 .add 141 .i64 1, kmv 143 2, kmv 144 3, kmv 145 4, kca 146 24 [(.t 140), (.t 142), (.t 143), (.t 144), (.t 145)]]) (.region [kmv 147 16, kmv 2 147]))))))))))))))))))))))⟩
/-- math/bits.Len -/
def fd25 : FD := ⟨8, [(.tmp 2)], (.seq (.region [kmc 2 zi]) (.seq (.cond (.c (.bool false)) (.seq (.region [kmv 3 0, kn 4 (.convInt .u32 (.t 3)), kca 5 40 [(.t 4)], kmv 2 5]) .ret) .skip) (.seq (.region [kmv 6 0, kca 7 41 [(.t 6)], kmv 2 7]) .ret)))⟩
/-- cmp.Or[int] -/
def fd26 : FD := ⟨18, [(.tmp 2)], (.seq (.region [kmc 2 zi]) (.seq (.region [kmc 3 zi]) (.seq (.seq (.region [kmv 6 0, kle 7 6, kmc 8 zi]) (.block 0 (.loop (.seq (.region [kbt 9 .lss 8 7]) (.seq (.cond (.t 9) .skip (.exit 0)) (.seq (.block 1 (.seq (.region [kix 10 1 6 8, kl1 11 10, kmv 5 11]) (.seq (.region [kmv 12 5, kmv 13 3, kbt 14 .neq 12 13]) (.cond (.t 14) (.seq (.region [kmv 15 5, kmv 2 15]) .ret) .skip)))) (.region [kbi 16 .add 8 .i64 1, kmv 8 16]))))))) (.seq (.region [kmv 17 3, kmv 2 17]) .ret))))⟩
/-- cmp.Compare[uint32] -/
def fd27 : FD := ⟨20, [(.tmp 4)], (.seq (.region [kmc 4 zi]) (.seq (.region [kmv 7 0, kca 8 42 [(.t 7)], kmv 5 8]) (.seq (.region [kmv 9 1, kca 10 42 [(.t 9)], kmv 6 10]) (.seq (.seq (.region [kmv 11 5]) (.cond (.t 11) (.seq (.seq (.region [kmv 12 6]) (.cond (.t 12) (.seq (.region [kmc 4 zi]) .ret) .skip)) (.seq (.region [kmc 4 (.int .i64 (-1))]) .ret)) .skip)) (.seq (.seq (.region [kmv 13 6]) (.cond (.t 13) (.seq (.region [kmc 4 (.int .i64 1)]) .ret) .skip)) (.seq (.seq (.region [kmv 14 0, kmv 15 1, kbt 16 .lss 14 15]) (.cond (.t 16) (.seq (.region [kmc 4 (.int .i64 (-1))]) .ret) .skip)) (.seq (.seq (.region [kmv 17 0, kmv 18 1, kbt 19 .gtr 17 18]) (.cond (.t 19) (.seq (.region [kmc 4 (.int .i64 1)]) .ret) .skip)) (.seq (.region [kmc 4 zi]) .ret))))))))⟩
/-- slices.Index[[]understudy/api.Label,understudy/api.Label] -/
def fd28 : FD := ⟨19, [(.tmp 4)], (.seq (.region [kn 3 (.box (.t 1)), kmc 4 zi]) (.seq (.seq (.region [kmv 6 0, kle 7 6, kmc 8 zi]) (.block 0 (.loop (.seq (.region [kbt 9 .lss 8 7]) (.seq (.cond (.t 9) .skip (.exit 0)) (.seq (.block 1 (.seq (.region [kmv 10 8, kmv 5 10]) (.seq (.drawn [kln 11 2 3, kmv 12 0, kmv 13 5, kix 14 2 12 13, kln 15 2 14, kn 16 (.bin .eql (.cells [1, 1]) (.t 11) (.t 15))] []) (.cond (.t 16) (.seq (.region [kmv 17 5, kmv 4 17]) .ret) .skip)))) (.region [kbi 18 .add 8 .i64 1, kmv 8 18]))))))) (.seq (.region [kmc 4 (.int .i64 (-1))]) .ret)))⟩
/-- slices.MaxFunc[[]understudy/api.Label,understudy/api.Label] -/
def fd29 : FD := ⟨33, [(.cellN 2 4)], (.seq (.region [kn 4 (.alloc [zw, zw])]) (.seq (.seq (.region [kmv 7 0, kle 8 7, kbi 9 .lss 8 .i64 1]) (.cond (.t 9) (.region [kn 10 (.mkIface 9 (.c (.str ⟨#[115, 108, 105, 99, 101, 115, 46, 77, 97, 120, 70, 117, 110, 99, 58, 32, 101, 109, 112, 116, 121, 32, 108, 105, 115, 116]⟩))), ⟨none, .fail, none⟩]) .skip)) (.seq (.region [kmv 11 0, kn 12 (.idxSl 2 (.t 11) (.c zi)), kln 13 2 12, kn 5 (.alloc [zw, zw]), kst 2 5 13]) (.seq (.seq (.region [kmc 6 (.int .i64 1)]) (.block 0 (.loop (.seq (.seq (.region [kmv 14 6, kmv 15 0, kle 16 15, kbt 17 .lss 14 16]) (.cond (.t 17) .skip (.exit 0))) (.seq (.block 1 (.seq (.drawn [kmv 20 1, kmv 21 0, kmv 22 6, kix 23 2 21 22, kln 24 2 23, kln 25 2 5, kn 26 (.call (.t 20) [(.t 24), (.t 25)]), kbi 27 .gtr 26 .i64 0] []) (.cond (.t 27) (.region [kmv 28 0, kmv 29 6, kix 30 2 28 29, kln 31 2 30, kst 2 5 31]) .skip))) (.region [kmv 18 6, kbi 19 .add 18 .i64 1, kmv 6 19])))))) (.seq (.region [kln 32 2 5, kst 2 4 32]) .ret)))))⟩
/-- slices.pdqsortOrdered[uint32] -/
def fd30 : FD := ⟨134, [], (.seq (.region [kmc 8 (.bool true)]) (.seq (.region [kmc 9 (.bool true)]) (.block 0 (.loop (.block 1 (.seq (.region [kmv 19 2, kmv 20 1, kbt 21 .sub 19 20, kmv 10 21]) (.seq (.seq (.region [kmv 22 10, kbi 23 .leq 22 .i64 12]) (.cond (.t 23) (.seq (.region [kmv 24 0, kmv 25 1, kmv 26 2, kca 27 43 [(.t 24), (.t 25), (.t 26)]]) .ret) .skip)) (.seq (.seq (.region [kmv 28 3, kbi 29 .eql 28 .i64 0]) (.cond (.t 29) (.seq (.region [kmv 30 0, kmv 31 1, kmv 32 2, kca 33 44 [(.t 30), (.t 31), (.t 32)]]) .ret) .skip)) (.seq (.seq (.region [kmv 34 8, kn 35 (.un .not (.t 34))]) (.cond (.t 35) (.seq (.region [kmv 36 0, kmv 37 1, kmv 38 2, kca 39 45 [(.t 36), (.t 37), (.t 38)]]) (.region [kmv 40 3, kbi 41 .sub 40 .i64 1, kmv 3 41])) .skip)) (.seq (.region [kmv 43 0, kmv 44 1, kmv 45 2, kca 46 46 [(.t 43), (.t 44), (.t 45)], kmv 42 46, kex 47 42 0, kex 48 42 1, kmv 11 47, kmv 12 48]) (.seq (.seq (.region [kmv 49 12, kbi 50 .eql 49 .i64 2]) (.cond (.t 50) (.seq (.region [kmv 51 0, kmv 52 1, kmv 53 2, kca 54 47 [(.t 51), (.t 52), (.t 53)]]) (.seq (.region [kmv 55 2, kbi 56 .sub 55 .i64 1, kmv 57 11, kmv 58 1, kbt 59 .sub 57 58, kbt 60 .sub 56 59, kmv 11 60]) (.region [kmc 12 (.int .i64 1)]))) .skip)) (.seq (.seq (.region [kmv 61 8, kmv 62 61, kg 63 (.move (.t 9)) 62 true, kn 64 (.pick (.t 62) (.t 63) (.c (.bool false))), kmv 65 64, kg 66 (.move (.t 12)) 65 true, kg 67 (.bin .eql .no (.t 66) (.c (.int .i64 1))) 65 true, kn 68 (.pick (.t 65) (.t 67) (.c (.bool false)))]) (.cond (.t 68) (.seq (.region [kmv 69 0, kmv 70 1, kmv 71 2, kca 72 48 [(.t 69), (.t 70), (.t 71)]]) (.cond (.t 72) .ret .skip)) .skip)) (.seq (.seq (.drawn [kmv 73 1, kbi 74 .gtr 73 .i64 0, kmv 75 74, kg 76 (.move (.t 0)) 75 true, kg 77 (.move (.t 1)) 75 true, kg 78 (.bin .sub .no (.t 77) (.c (.int .i64 1))) 75 true, kg 79 (.idxSl 1 (.t 76) (.t 78)) 75 true, kg 80 (.load1 (.t 79)) 75 true, kg 81 (.move (.t 0)) 75 true, kg 82 (.move (.t 11)) 75 true, kg 83 (.idxSl 1 (.t 81) (.t 82)) 75 true, kg 84 (.load1 (.t 83)) 75 true, kg 85 (.call (.c (.fn (.func 49) [] [])) [(.t 80), (.t 84)]) 75 true, kg 86 (.un .not (.t 85)) 75 true, kn 87 (.pick (.t 75) (.t 86) (.c (.bool false)))] []) (.cond (.t 87) (.seq (.region [kmv 88 0, kmv 89 1, kmv 90 2, kmv 91 11, kca 92 50 [(.t 88), (.t 89), (.t 90), (.t 91)], kmv 13 92]) (.seq (.region [kmv 93 13, kmv 1 93]) (.exit 1))) .skip)) (.seq (.region [kmv 95 0, kmv 96 1, kmv 97 2, kmv 98 11, kca 99 51 [(.t 95), (.t 96), (.t 97), (.t 98)], kmv 94 99, kex 100 94 0, kex 101 94 1, kmv 14 100, kmv 15 101]) (.seq (.region [kmv 102 15, kmv 9 102]) (.seq (.region [kmv 103 14, kmv 104 1, kbt 105 .sub 103 104, kmv 106 2, kmv 107 14, kbt 108 .sub 106 107, kmv 16 105, kmv 17 108]) (.seq (.region [kmv 109 10, kbi 110 .quo 109 .i64 8, kmv 18 110]) (.seq (.region [kmv 111 16, kmv 112 17, kbt 113 .lss 111 112]) (.cond (.t 113) (.seq (.region [kmv 114 16, kmv 115 18, kbt 116 .geq 114 115, kmv 8 116]) (.seq (.region [kmv 117 0, kmv 118 1, kmv 119 14, kmv 120 3, kca 121 30 [(.t 117), (.t 118), (.t 119), (.t 120)]]) (.region [kmv 122 14, kbi 123 .add 122 .i64 1, kmv 1 123]))) (.seq (.region [kmv 124 17, kmv 125 18, kbt 126 .geq 124 125, kmv 8 126]) (.seq (.region [kmv 127 0, kmv 128 14, kbi 129 .add 128 .i64 1, kmv 130 2, kmv 131 3, kca 132 30 [(.t 127), (.t 129), (.t 130), (.t 131)]]) (.region [kmv 133 14, kmv 2 133]))))))))))))))))))))))⟩
/-- slices.Backward[[]uint32,uint32]$1 -/
def fd31 : FD := ⟨19, [], (.seq (.region [kl1 4 1, kle 5 4, kbi 6 .sub 5 .i64 1, kmv 3 6]) (.block 0 (.loop (.seq (.seq (.region [kmv 7 3, kbi 8 .geq 7 .i64 0]) (.cond (.t 8) .skip (.exit 0))) (.seq (.block 1 (.seq (.region [kmv 11 0, kmv 12 3, kl1 13 1, kmv 14 3, kix 15 1 13 14, kl1 16 15, kn 17 (.call (.t 11) [(.t 12), (.t 16)]), kn 18 (.un .not (.t 17))]) (.cond (.t 18) .ret .skip))) (.region [kmv 9 3, kbi 10 .sub 9 .i64 1, kmv 3 10]))))))⟩
/-- slices.insertionSortCmpFunc[understudy/api.Label] -/
def fd32 : FD := ⟨53, [], (.seq (.region [kmv 10 1, kbi 11 .add 10 .i64 1, kmv 8 11]) (.block 0 (.loop (.seq (.seq (.region [kmv 12 8, kmv 13 2, kbt 14 .lss 12 13]) (.cond (.t 14) .skip (.exit 0))) (.seq (.block 1 (.seq (.region [kmv 17 8, kmv 9 17]) (.block 2 (.loop (.seq (.seq (.drawn [kmv 18 9, kmv 19 1, kbt 20 .gtr 18 19, kmv 21 20, kg 22 (.move (.t 3)) 21 true, kg 23 (.move (.t 0)) 21 true, kg 24 (.move (.t 9)) 21 true, kg 25 (.idxSl 2 (.t 23) (.t 24)) 21 true, kg 26 (.loadN 2 (.t 25)) 21 true, kg 27 (.move (.t 0)) 21 true, kg 28 (.move (.t 9)) 21 true, kg 29 (.bin .sub .no (.t 28) (.c (.int .i64 1))) 21 true, kg 30 (.idxSl 2 (.t 27) (.t 29)) 21 true, kg 31 (.loadN 2 (.t 30)) 21 true, kg 32 (.call (.t 22) [(.t 26), (.t 31)]) 21 true, kg 33 (.bin .lss .no (.t 32) (.c zi)) 21 true, kn 34 (.pick (.t 21) (.t 33) (.c (.bool false)))] []) (.cond (.t 34) .skip (.exit 2))) (.seq (.block 3 (.drawn [kmv 37 0, kmv 38 9, kmv 39 0, kmv 40 9, kbi 41 .sub 40 .i64 1, kmv 42 0, kmv 43 9, kbi 44 .sub 43 .i64 1, kix 45 2 42 44, kln 46 2 45, kmv 47 0, kmv 48 9, kix 49 2 47 48, kln 50 2 49, kix 51 2 37 38, kst 2 51 46, kix 52 2 39 41, kst 2 52 50] [])) (.region [kmv 35 9, kbi 36 .sub 35 .i64 1, kmv 9 36]))))))) (.region [kmv 15 8, kbi 16 .add 15 .i64 1, kmv 8 16]))))))⟩
/-- slices.heapSortCmpFunc[understudy/api.Label] -/
def fd33 : FD := ⟨60, [], (.seq (.region [kmv 13 1, kmv 8 13]) (.seq (.region [kmc 9 zi]) (.seq (.region [kmv 14 2, kmv 15 1, kbt 16 .sub 14 15, kmv 10 16]) (.seq (.seq (.region [kmv 17 10, kbi 18 .sub 17 .i64 1, kbi 19 .quo 18 .i64 2, kmv 11 19]) (.block 0 (.loop (.seq (.seq (.region [kmv 20 11, kbi 21 .geq 20 .i64 0]) (.cond (.t 21) .skip (.exit 0))) (.seq (.block 1 (.region [kmv 24 0, kmv 25 11, kmv 26 10, kmv 27 8, kmv 28 3, kca 29 52 [(.t 24), (.t 25), (.t 26), (.t 27), (.t 28)]])) (.region [kmv 22 11, kbi 23 .sub 22 .i64 1, kmv 11 23])))))) (.seq (.region [kmv 30 10, kbi 31 .sub 30 .i64 1, kmv 12 31]) (.block 2 (.loop (.seq (.seq (.region [kmv 32 12, kbi 33 .geq 32 .i64 0]) (.cond (.t 33) .skip (.exit 2))) (.seq (.block 3 (.seq (.drawn [kmv 36 0, kmv 37 8, kmv 38 0, kmv 39 8, kmv 40 12, kbt 41 .add 39 40, kmv 42 0, kmv 43 8, kmv 44 12, kbt 45 .add 43 44, kix 46 2 42 45, kln 47 2 46, kmv 48 0, kmv 49 8, kix 50 2 48 49, kln 51 2 50, kix 52 2 36 37, kst 2 52 47, kix 53 2 38 41, kst 2 53 51] []) (.region [kmv 54 0, kmv 55 9, kmv 56 12, kmv 57 8, kmv 58 3, kca 59 52 [(.t 54), (.t 55), (.t 56), (.t 57), (.t 58)]]))) (.region [kmv 34 12, kbi 35 .sub 34 .i64 1, kmv 12 35]))))))))))⟩
/-- slices.breakPatternsCmpFunc[understudy/api.Label] -/
def fd34 : FD := ⟨67, [], (.seq (.region [kmv 13 2, kmv 14 1, kbt 15 .sub 13 14, kmv 8 15]) (.seq (.region [kmv 16 8, kbi 17 .geq 16 .i64 8]) (.cond (.t 17) (.seq (.region [kmv 18 8, kn 19 (.convInt .u64 (.t 18)), kn 9 (.alloc [(.int .u64 0)]), kst 1 9 19]) (.seq (.region [kmv 20 8, kca 21 53 [(.t 20)], kmv 10 21]) (.seq (.region [kmv 22 1, kmv 23 8, kbi 24 .quo 23 .i64 4, kbi 25 .mul 24 .i64 2, kbt 26 .add 22 25, kbi 27 .sub 26 .i64 1, kmv 11 27]) (.block 0 (.loop (.seq (.seq (.region [kmv 28 11, kmv 29 1, kmv 30 8, kbi 31 .quo 30 .i64 4, kbi 32 .mul 31 .i64 2, kbt 33 .add 29 32, kbi 34 .add 33 .i64 1, kbt 35 .leq 28 34]) (.cond (.t 35) .skip (.exit 0))) (.seq (.block 1 (.seq (.region [kca 38 54 [(.t 9)], kmv 39 10, kbi 40 .sub 39 .u64 1, kbt 41 .and 38 40, kn 42 (.convInt .i64 (.t 41)), kmv 12 42]) (.seq (.seq (.region [kmv 43 12, kmv 44 8, kbt 45 .geq 43 44]) (.cond (.t 45) (.region [kmv 46 12, kmv 47 8, kbt 48 .sub 46 47, kmv 12 48]) .skip)) (.drawn [kmv 49 0, kmv 50 11, kmv 51 0, kmv 52 1, kmv 53 12, kbt 54 .add 52 53, kmv 55 0, kmv 56 1, kmv 57 12, kbt 58 .add 56 57, kix 59 2 55 58, kln 60 2 59, kmv 61 0, kmv 62 11, kix 63 2 61 62, kln 64 2 63, kix 65 2 49 50, kst 2 65 60, kix 66 2 51 54, kst 2 66 64] [])))) (.region [kmv 36 11, kbi 37 .add 36 .i64 1, kmv 11 37])))))))) .skip)))⟩
/-- slices.choosePivotCmpFunc[understudy/api.Label] -/
def fd35 : FD := ⟨63, [(.tmp 8), (.tmp 9)], (.seq (.region [kmc 8 zi, kmc 9 zi]) (.seq (.region [kmv 15 2, kmv 16 1, kbt 17 .sub 15 16, kmv 10 17]) (.seq (.region [kn 11 (.alloc [zi])]) (.seq (.region [kmv 18 1, kmv 19 10, kbi 20 .quo 19 .i64 4, kbi 21 .mul 20 .i64 1, kbt 22 .add 18 21, kmv 12 22]) (.seq (.region [kmv 23 1, kmv 24 10, kbi 25 .quo 24 .i64 4, kbi 26 .mul 25 .i64 2, kbt 27 .add 23 26, kmv 13 27]) (.seq (.region [kmv 28 1, kmv 29 10, kbi 30 .quo 29 .i64 4, kbi 31 .mul 30 .i64 3, kbt 32 .add 28 31, kmv 14 32]) (.seq (.seq (.region [kmv 33 10, kbi 34 .geq 33 .i64 8]) (.cond (.t 34) (.seq (.seq (.region [kmv 35 10, kbi 36 .geq 35 .i64 50]) (.cond (.t 36) (.seq (.region [kmv 37 0, kmv 38 12, kmv 39 3, kca 40 55 [(.t 37), (.t 38), (.t 11), (.t 39)], kmv 12 40]) (.seq (.region [kmv 41 0, kmv 42 13, kmv 43 3, kca 44 55 [(.t 41), (.t 42), (.t 11), (.t 43)], kmv 13 44]) (.region [kmv 45 0, kmv 46 14, kmv 47 3, kca 48 55 [(.t 45), (.t 46), (.t 11), (.t 47)], kmv 14 48]))) .skip)) (.region [kmv 49 0, kmv 50 12, kmv 51 13, kmv 52 14, kmv 53 3, kca 54 56 [(.t 49), (.t 50), (.t 51), (.t 52), (.t 11), (.t 53)], kmv 13 54])) .skip)) (.seq (.region [kl1 55 11]) (.block 0 (.seq (.region [kbi 58 .eql 55 .i64 0, kmv 57 58]) (.cond (.t 57) (.seq (.region [kmv 59 13, kmv 8 59, kmc 9 (.int .i64 1)]) .ret) (.seq (.region [kbi 61 .eql 55 .i64 12, kmv 60 61]) (.cond (.t 60) (.seq (.region [kmv 62 13, kmv 8 62, kmc 9 (.int .i64 2)]) .ret) (.seq (.region [kmv 56 13, kmv 8 56, kmc 9 zi]) .ret))))))))))))))⟩
/-- slices.reverseRangeCmpFunc[understudy/api.Label] -/
def fd36 : FD := ⟨34, [], (.seq (.region [kmv 10 1, kmv 8 10]) (.seq (.region [kmv 11 2, kbi 12 .sub 11 .i64 1, kmv 9 12]) (.block 0 (.loop (.seq (.seq (.region [kmv 13 8, kmv 14 9, kbt 15 .lss 13 14]) (.cond (.t 15) .skip (.exit 0))) (.block 1 (.seq (.drawn [kmv 16 0, kmv 17 8, kmv 18 0, kmv 19 9, kmv 20 0, kmv 21 9, kix 22 2 20 21, kln 23 2 22, kmv 24 0, kmv 25 8, kix 26 2 24 25, kln 27 2 26, kix 28 2 16 17, kst 2 28 23, kix 29 2 18 19, kst 2 29 27] []) (.seq (.region [kmv 30 8, kbi 31 .add 30 .i64 1, kmv 8 31]) (.region [kmv 32 9, kbi 33 .sub 32 .i64 1, kmv 9 33])))))))))⟩
/-- slices.partialInsertionSortCmpFunc[understudy/api.Label] -/
def fd37 : FD := ⟨141, [(.tmp 8)], (.seq (.region [kmc 8 (.bool false)]) (.seq (.region [kmv 13 1, kbi 14 .add 13 .i64 1, kmv 9 14]) (.seq (.seq (.region [kmc 10 zi]) (.block 0 (.loop (.seq (.seq (.region [kmv 15 10, kbi 16 .lss 15 .i64 5]) (.cond (.t 16) .skip (.exit 0))) (.seq (.block 1 (.seq (.block 2 (.loop (.seq (.seq (.drawn [kmv 19 9, kmv 20 2, kbt 21 .lss 19 20, kmv 22 21, kg 23 (.move (.t 3)) 22 true, kg 24 (.move (.t 0)) 22 true, kg 25 (.move (.t 9)) 22 true, kg 26 (.idxSl 2 (.t 24) (.t 25)) 22 true, kg 27 (.loadN 2 (.t 26)) 22 true, kg 28 (.move (.t 0)) 22 true, kg 29 (.move (.t 9)) 22 true, kg 30 (.bin .sub .no (.t 29) (.c (.int .i64 1))) 22 true, kg 31 (.idxSl 2 (.t 28) (.t 30)) 22 true, kg 32 (.loadN 2 (.t 31)) 22 true, kg 33 (.call (.t 23) [(.t 27), (.t 32)]) 22 true, kg 34 (.bin .lss .no (.t 33) (.c zi)) 22 true, kg 35 (.un .not (.t 34)) 22 true, kn 36 (.pick (.t 22) (.t 35) (.c (.bool false)))] []) (.cond (.t 36) .skip (.exit 2))) (.block 3 (.region [kmv 37 9, kbi 38 .add 37 .i64 1, kmv 9 38]))))) (.seq (.seq (.region [kmv 39 9, kmv 40 2, kbt 41 .eql 39 40]) (.cond (.t 41) (.seq (.region [kmc 8 (.bool true)]) .ret) .skip)) (.seq (.seq (.region [kmv 42 2, kmv 43 1, kbt 44 .sub 42 43, kbi 45 .lss 44 .i64 50]) (.cond (.t 45) (.seq (.region [kmc 8 (.bool false)]) .ret) .skip)) (.seq (.drawn [kmv 46 0, kmv 47 9, kmv 48 0, kmv 49 9, kbi 50 .sub 49 .i64 1, kmv 51 0, kmv 52 9, kbi 53 .sub 52 .i64 1, kix 54 2 51 53, kln 55 2 54, kmv 56 0, kmv 57 9, kix 58 2 56 57, kln 59 2 58, kix 60 2 46 47, kst 2 60 55, kix 61 2 48 50, kst 2 61 59] []) (.seq (.seq (.region [kmv 62 9, kmv 63 1, kbt 64 .sub 62 63, kbi 65 .geq 64 .i64 2]) (.cond (.t 65) (.seq (.region [kmv 66 9, kbi 67 .sub 66 .i64 1, kmv 11 67]) (.block 4 (.loop (.seq (.seq (.region [kmv 68 11, kbi 69 .geq 68 .i64 1]) (.cond (.t 69) .skip (.exit 4))) (.seq (.block 5 (.seq (.seq (.drawn [kmv 72 3, kmv 73 0, kmv 74 11, kix 75 2 73 74, kln 76 2 75, kmv 77 0, kmv 78 11, kbi 79 .sub 78 .i64 1, kix 80 2 77 79, kln 81 2 80, kn 82 (.call (.t 72) [(.t 76), (.t 81)]), kbi 83 .lss 82 .i64 0, kn 84 (.un .not (.t 83))] []) (.cond (.t 84) (.exit 4) .skip)) (.drawn [kmv 85 0, kmv 86 11, kmv 87 0, kmv 88 11, kbi 89 .sub 88 .i64 1, kmv 90 0, kmv 91 11, kbi 92 .sub 91 .i64 1, kix 93 2 90 92, kln 94 2 93, kmv 95 0, kmv 96 11, kix 97 2 95 96, kln 98 2 97, kix 99 2 85 86, kst 2 99 94, kix 100 2 87 89, kst 2 100 98] []))) (.region [kmv 70 11, kbi 71 .sub 70 .i64 1, kmv 11 71])))))) .skip)) (.seq (.region [kmv 101 2, kmv 102 9, kbt 103 .sub 101 102, kbi 104 .geq 103 .i64 2]) (.cond (.t 104) (.seq (.region [kmv 105 9, kbi 106 .add 105 .i64 1, kmv 12 106]) (.block 6 (.loop (.seq (.seq (.region [kmv 107 12, kmv 108 2, kbt 109 .lss 107 108]) (.cond (.t 109) .skip (.exit 6))) (.seq (.block 7 (.seq (.seq (.drawn [kmv 112 3, kmv 113 0, kmv 114 12, kix 115 2 113 114, kln 116 2 115, kmv 117 0, kmv 118 12, kbi 119 .sub 118 .i64 1, kix 120 2 117 119, kln 121 2 120, kn 122 (.call (.t 112) [(.t 116), (.t 121)]), kbi 123 .lss 122 .i64 0, kn 124 (.un .not (.t 123))] []) (.cond (.t 124) (.exit 6) .skip)) (.drawn [kmv 125 0, kmv 126 12, kmv 127 0, kmv 128 12, kbi 129 .sub 128 .i64 1, kmv 130 0, kmv 131 12, kbi 132 .sub 131 .i64 1, kix 133 2 130 132, kln 134 2 133, kmv 135 0, kmv 136 12, kix 137 2 135 136, kln 138 2 137, kix 139 2 125 126, kst 2 139 134, kix 140 2 127 129, kst 2 140 138] []))) (.region [kmv 110 12, kbi 111 .add 110 .i64 1, kmv 12 111])))))) .skip)))))))) (.region [kmv 17 10, kbi 18 .add 17 .i64 1, kmv 10 18])))))) (.seq (.region [kmc 8 (.bool false)]) .ret))))⟩
/-- slices.partitionEqualCmpFunc[understudy/api.Label] -/
def fd38 : FD := ⟨90, [(.tmp 10)], (.seq (.region [kmc 10 zi]) (.seq (.drawn [kmv 13 0, kmv 14 1, kmv 15 0, kmv 16 3, kmv 17 0, kmv 18 3, kix 19 2 17 18, kln 20 2 19, kmv 21 0, kmv 22 1, kix 23 2 21 22, kln 24 2 23, kix 25 2 13 14, kst 2 25 20, kix 26 2 15 16, kst 2 26 24] []) (.seq (.region [kmv 27 1, kbi 28 .add 27 .i64 1, kmv 29 2, kbi 30 .sub 29 .i64 1, kmv 11 28, kmv 12 30]) (.seq (.block 0 (.loop (.block 1 (.seq (.block 2 (.loop (.seq (.seq (.drawn [kmv 31 11, kmv 32 12, kbt 33 .leq 31 32, kmv 34 33, kg 35 (.move (.t 4)) 34 true, kg 36 (.move (.t 0)) 34 true, kg 37 (.move (.t 1)) 34 true, kg 38 (.idxSl 2 (.t 36) (.t 37)) 34 true, kg 39 (.loadN 2 (.t 38)) 34 true, kg 40 (.move (.t 0)) 34 true, kg 41 (.move (.t 11)) 34 true, kg 42 (.idxSl 2 (.t 40) (.t 41)) 34 true, kg 43 (.loadN 2 (.t 42)) 34 true, kg 44 (.call (.t 35) [(.t 39), (.t 43)]) 34 true, kg 45 (.bin .lss .no (.t 44) (.c zi)) 34 true, kg 46 (.un .not (.t 45)) 34 true, kn 47 (.pick (.t 34) (.t 46) (.c (.bool false)))] []) (.cond (.t 47) .skip (.exit 2))) (.block 3 (.region [kmv 48 11, kbi 49 .add 48 .i64 1, kmv 11 49]))))) (.seq (.block 4 (.loop (.seq (.seq (.drawn [kmv 50 11, kmv 51 12, kbt 52 .leq 50 51, kmv 53 52, kg 54 (.move (.t 4)) 53 true, kg 55 (.move (.t 0)) 53 true, kg 56 (.move (.t 1)) 53 true, kg 57 (.idxSl 2 (.t 55) (.t 56)) 53 true, kg 58 (.loadN 2 (.t 57)) 53 true, kg 59 (.move (.t 0)) 53 true, kg 60 (.move (.t 12)) 53 true, kg 61 (.idxSl 2 (.t 59) (.t 60)) 53 true, kg 62 (.loadN 2 (.t 61)) 53 true, kg 63 (.call (.t 54) [(.t 58), (.t 62)]) 53 true, kg 64 (.bin .lss .no (.t 63) (.c zi)) 53 true, kn 65 (.pick (.t 53) (.t 64) (.c (.bool false)))] []) (.cond (.t 65) .skip (.exit 4))) (.block 5 (.region [kmv 66 12, kbi 67 .sub 66 .i64 1, kmv 12 67]))))) (.seq (.seq (.region [kmv 68 11, kmv 69 12, kbt 70 .gtr 68 69]) (.cond (.t 70) (.exit 0) .skip)) (.seq (.drawn [kmv 71 0, kmv 72 11, kmv 73 0, kmv 74 12, kmv 75 0, kmv 76 12, kix 77 2 75 76, kln 78 2 77, kmv 79 0, kmv 80 11, kix 81 2 79 80, kln 82 2 81, kix 83 2 71 72, kst 2 83 78, kix 84 2 73 74, kst 2 84 82] []) (.seq (.region [kmv 85 11, kbi 86 .add 85 .i64 1, kmv 11 86]) (.region [kmv 87 12, kbi 88 .sub 87 .i64 1, kmv 12 88]))))))))) (.seq (.region [kmv 89 11, kmv 10 89]) .ret)))))⟩
/-- slices.partitionCmpFunc[understudy/api.Label] -/
def fd39 : FD := ⟨178, [(.tmp 10), (.tmp 11)], (.seq (.region [kmc 10 zi, kmc 11 (.bool false)]) (.seq (.drawn [kmv 14 0, kmv 15 1, kmv 16 0, kmv 17 3, kmv 18 0, kmv 19 3, kix 20 2 18 19, kln 21 2 20, kmv 22 0, kmv 23 1, kix 24 2 22 23, kln 25 2 24, kix 26 2 14 15, kst 2 26 21, kix 27 2 16 17, kst 2 27 25] []) (.seq (.region [kmv 28 1, kbi 29 .add 28 .i64 1, kmv 30 2, kbi 31 .sub 30 .i64 1, kmv 12 29, kmv 13 31]) (.seq (.block 0 (.loop (.seq (.seq (.drawn [kmv 32 12, kmv 33 13, kbt 34 .leq 32 33, kmv 35 34, kg 36 (.move (.t 4)) 35 true, kg 37 (.move (.t 0)) 35 true, kg 38 (.move (.t 12)) 35 true, kg 39 (.idxSl 2 (.t 37) (.t 38)) 35 true, kg 40 (.loadN 2 (.t 39)) 35 true, kg 41 (.move (.t 0)) 35 true, kg 42 (.move (.t 1)) 35 true, kg 43 (.idxSl 2 (.t 41) (.t 42)) 35 true, kg 44 (.loadN 2 (.t 43)) 35 true, kg 45 (.call (.t 36) [(.t 40), (.t 44)]) 35 true, kg 46 (.bin .lss .no (.t 45) (.c zi)) 35 true, kn 47 (.pick (.t 35) (.t 46) (.c (.bool false)))] []) (.cond (.t 47) .skip (.exit 0))) (.block 1 (.region [kmv 48 12, kbi 49 .add 48 .i64 1, kmv 12 49]))))) (.seq (.block 2 (.loop (.seq (.seq (.drawn [kmv 50 12, kmv 51 13, kbt 52 .leq 50 51, kmv 53 52, kg 54 (.move (.t 4)) 53 true, kg 55 (.move (.t 0)) 53 true, kg 56 (.move (.t 13)) 53 true, kg 57 (.idxSl 2 (.t 55) (.t 56)) 53 true, kg 58 (.loadN 2 (.t 57)) 53 true, kg 59 (.move (.t 0)) 53 true, kg 60 (.move (.t 1)) 53 true, kg 61 (.idxSl 2 (.t 59) (.t 60)) 53 true, kg 62 (.loadN 2 (.t 61)) 53 true, kg 63 (.call (.t 54) [(.t 58), (.t 62)]) 53 true, kg 64 (.bin .lss .no (.t 63) (.c zi)) 53 true, kg 65 (.un .not (.t 64)) 53 true, kn 66 (.pick (.t 53) (.t 65) (.c (.bool false)))] []) (.cond (.t 66) .skip (.exit 2))) (.block 3 (.region [kmv 67 13, kbi 68 .sub 67 .i64 1, kmv 13 68]))))) (.seq (.seq (.region [kmv 69 12, kmv 70 13, kbt 71 .gtr 69 70]) (.cond (.t 71) (.seq (.drawn [kmv 72 0, kmv 73 13, kmv 74 0, kmv 75 1, kmv 76 0, kmv 77 1, kix 78 2 76 77, kln 79 2 78, kmv 80 0, kmv 81 13, kix 82 2 80 81, kln 83 2 82, kix 84 2 72 73, kst 2 84 79, kix 85 2 74 75, kst 2 85 83] []) (.seq (.region [kmv 86 13, kmv 10 86, kmc 11 (.bool true)]) .ret)) .skip)) (.seq (.drawn [kmv 87 0, kmv 88 12, kmv 89 0, kmv 90 13, kmv 91 0, kmv 92 13, kix 93 2 91 92, kln 94 2 93, kmv 95 0, kmv 96 12, kix 97 2 95 96, kln 98 2 97, kix 99 2 87 88, kst 2 99 94, kix 100 2 89 90, kst 2 100 98] []) (.seq (.region [kmv 101 12, kbi 102 .add 101 .i64 1, kmv 12 102]) (.seq (.region [kmv 103 13, kbi 104 .sub 103 .i64 1, kmv 13 104]) (.seq (.block 4 (.loop (.block 5 (.seq (.block 6 (.loop (.seq (.seq (.drawn [kmv 105 12, kmv 106 13, kbt 107 .leq 105 106, kmv 108 107, kg 109 (.move (.t 4)) 108 true, kg 110 (.move (.t 0)) 108 true, kg 111 (.move (.t 12)) 108 true, kg 112 (.idxSl 2 (.t 110) (.t 111)) 108 true, kg 113 (.loadN 2 (.t 112)) 108 true, kg 114 (.move (.t 0)) 108 true, kg 115 (.move (.t 1)) 108 true, kg 116 (.idxSl 2 (.t 114) (.t 115)) 108 true, kg 117 (.loadN 2 (.t 116)) 108 true, kg 118 (.call (.t 109) [(.t 113), (.t 117)]) 108 true, kg 119 (.bin .lss .no (.t 118) (.c zi)) 108 true, kn 120 (.pick (.t 108) (.t 119) (.c (.bool false)))] []) (.cond (.t 120) .skip (.exit 6))) (.block 7 (.region [kmv 121 12, kbi 122 .add 121 .i64 1, kmv 12 122]))))) (.seq (.block 8 (.loop (.seq (.seq (.drawn [kmv 123 12, kmv 124 13, kbt 125 .leq 123 124, kmv 126 125, kg 127 (.move (.t 4)) 126 true, kg 128 (.move (.t 0)) 126 true, kg 129 (.move (.t 13)) 126 true, kg 130 (.idxSl 2 (.t 128) (.t 129)) 126 true, kg 131 (.loadN 2 (.t 130)) 126 true, kg 132 (.move (.t 0)) 126 true, kg 133 (.move (.t 1)) 126 true, kg 134 (.idxSl 2 (.t 132) (.t 133)) 126 true, kg 135 (.loadN 2 (.t 134)) 126 true, kg 136 (.call (.t 127) [(.t 131), (.t 135)]) 126 true, kg 137 (.bin .lss .no (.t 136) (.c zi)) 126 true, kg 138 (.un .not (.t 137)) 126 true, kn 139 (.pick (.t 126) (.t 138) (.c (.bool false)))] []) (.cond (.t 139) .skip (.exit 8))) (.block 9 (.region [kmv 140 13, kbi 141 .sub 140 .i64 1, kmv 13 141]))))) (.seq (.seq (.region [kmv 142 12, kmv 143 13, kbt 144 .gtr 142 143]) (.cond (.t 144) (.exit 4) .skip)) (.seq (.drawn [kmv 145 0, kmv 146 12, kmv 147 0, kmv 148 13, kmv 149 0, kmv 150 13, kix 151 2 149 150, kln 152 2 151, kmv 153 0, kmv 154 12, kix 155 2 153 154, kln 156 2 155, kix 157 2 145 146, kst 2 157 152, kix 158 2 147 148, kst 2 158 156] []) (.seq (.region [kmv 159 12, kbi 160 .add 159 .i64 1, kmv 12 160]) (.region [kmv 161 13, kbi 162 .sub 161 .i64 1, kmv 13 162]))))))))) (.seq (.drawn [kmv 163 0, kmv 164 13, kmv 165 0, kmv 166 1, kmv 167 0, kmv 168 1, kix 169 2 167 168, kln 170 2 169, kmv 171 0, kmv 172 13, kix 173 2 171 172, kln 174 2 173, kix 175 2 163 164, kst 2 175 170, kix 176 2 165 166, kst 2 176 174] []) (.seq (.region [kmv 177 13, kmv 10 177, kmc 11 (.bool false)]) .ret))))))))))))⟩
/-- math/bits.Len32 -/
def fd40 : FD := ⟨19, [(.tmp 2)], (.seq (.region [kmc 2 zi]) (.seq (.seq (.region [kmv 3 0, kbi 4 .geq 3 .u32 65536]) (.cond (.t 4) (.seq (.region [kmv 5 0, kbi 6 .shr 5 .u64 16, kmv 0 6]) (.region [kmc 2 (.int .i64 16)])) .skip)) (.seq (.seq (.region [kmv 7 0, kbi 8 .geq 7 .u32 256]) (.cond (.t 8) (.seq (.region [kmv 9 0, kbi 10 .shr 9 .u64 8, kmv 0 10]) (.region [kmv 11 2, kbi 12 .add 11 .i64 8, kmv 2 12])) .skip)) (.seq (.region [kmv 13 2, kmv 14 0, kn 15 (.convInt .u8 (.t 14)), kn 16 (.idxStr (.c (.str ⟨#[0, 1, 2, 2, 3, 3, 3, 3, 4, 4, 4, 4, 4, 4, 4, 4, 5, 5, 5, 5, 5, 5, 5, 5, 5, 5, 5, 5, 5, 5, 5, 5, 6, 6, 6, 6, 6, 6, 6, 6, 6, 6, 6, 6, 6, 6, 6, 6, 6, 6, 6, 6, 6, 6, 6, 6, 6, 6, 6, 6, 6, 6, 6, 6, 7, 7, 7, 7, 7, 7, 7, 7, 7, 7, 7, 7, 7, 7, 7, 7, 7, 7, 7, 7, 7, 7, 7, 7, 7, 7, 7, 7, 7, 7, 7, 7, 7, 7, 7, 7, 7, 7, 7, 7, 7, 7, 7, 7, 7, 7, 7, 7, 7, 7, 7, 7, 7, 7, 7, 7, 7, 7, 7, 7, 7, 7, 7, 7, 8, 8, 8, 8, 8, 8, 8, 8, 8, 8, 8, 8, 8, 8, 8, 8, 8, 8, 8, 8, 8, 8, 8, 8, 8, 8, 8, 8, 8, 8, 8, 8, 8, 8, 8, 8, 8, 8, 8, 8, 8, 8, 8, 8, 8, 8, 8, 8, 8, 8, 8, 8, 8, 8, 8, 8, 8, 8, 8, 8, 8, 8, 8, 8, 8, 8, 8, 8, 8, 8, 8, 8, 8, 8, 8, 8, 8, 8, 8, 8, 8, 8, 8, 8, 8, 8, 8, 8, 8, 8, 8, 8, 8, 8, 8, 8, 8, 8, 8, 8, 8, 8, 8, 8, 8, 8, 8, 8, 8, 8, 8, 8, 8, 8, 8, 8, 8, 8, 8, 8, 8, 8, 8, 8, 8, 8, 8, 8]⟩)) (.t 15)), kn 17 (.convInt .i64 (.t 16)), kbt 18 .add 13 17, kmv 2 18]) .ret))))⟩
/-- math/bits.Len64 -/
def fd41 : FD := ⟨25, [(.tmp 2)], (.seq (.region [kmc 2 zi]) (.seq (.seq (.region [kmv 3 0, kbi 4 .geq 3 .u64 4294967296]) (.cond (.t 4) (.seq (.region [kmv 5 0, kbi 6 .shr 5 .u64 32, kmv 0 6]) (.region [kmc 2 (.int .i64 32)])) .skip)) (.seq (.seq (.region [kmv 7 0, kbi 8 .geq 7 .u64 65536]) (.cond (.t 8) (.seq (.region [kmv 9 0, kbi 10 .shr 9 .u64 16, kmv 0 10]) (.region [kmv 11 2, kbi 12 .add 11 .i64 16, kmv 2 12])) .skip)) (.seq (.seq (.region [kmv 13 0, kbi 14 .geq 13 .u64 256]) (.cond (.t 14) (.seq (.region [kmv 15 0, kbi 16 .shr 15 .u64 8, kmv 0 16]) (.region [kmv 17 2, kbi 18 .add 17 .i64 8, kmv 2 18])) .skip)) (.seq (.region [kmv 19 2, kmv 20 0, kn 21 (.convInt .u8 (.t 20)), kn 22 (.idxStr (.c (.str ⟨#[0, 1, 2, 2, 3, 3, 3, 3, 4, 4, 4, 4, 4, 4, 4, 4, 5, 5, 5, 5, 5, 5, 5, 5, 5, 5, 5, 5, 5, 5, 5, 5, 6, 6, 6, 6, 6, 6, 6, 6, 6, 6, 6, 6, 6, 6, 6, 6, 6, 6, 6, 6, 6, 6, 6, 6, 6, 6, 6, 6, 6, 6, 6, 6, 7, 7, 7, 7, 7, 7, 7, 7, 7, 7, 7, 7, 7, 7, 7, 7, 7, 7, 7, 7, 7, 7, 7, 7, 7, 7, 7, 7, 7, 7, 7, 7, 7, 7, 7, 7, 7, 7, 7, 7, 7, 7, 7, 7, 7, 7, 7, 7, 7, 7, 7, 7, 7, 7, 7, 7, 7, 7, 7, 7, 7, 7, 7, 7, 8, 8, 8, 8, 8, 8, 8, 8, 8, 8, 8, 8, 8, 8, 8, 8, 8, 8, 8, 8, 8, 8, 8, 8, 8, 8, 8, 8, 8, 8, 8, 8, 8, 8, 8, 8, 8, 8, 8, 8, 8, 8, 8, 8, 8, 8, 8, 8, 8, 8, 8, 8, 8, 8, 8, 8, 8, 8, 8, 8, 8, 8, 8, 8, 8, 8, 8, 8, 8, 8, 8, 8, 8, 8, 8, 8, 8, 8, 8, 8, 8, 8, 8, 8, 8, 8, 8, 8, 8, 8, 8, 8, 8, 8, 8, 8, 8, 8, 8, 8, 8, 8, 8, 8, 8, 8, 8, 8, 8, 8, 8, 8, 8, 8, 8, 8, 8, 8, 8, 8, 8, 8, 8, 8, 8, 8, 8, 8]⟩)) (.t 21)), kn 23 (.convInt .i64 (.t 22)), kbt 24 .add 19 23, kmv 2 24]) .ret)))))⟩
/-- cmp.isNaN[uint32] -/
def fd42 : FD := ⟨6, [(.tmp 2)], (.seq (.region [kmc 2 (.bool false)]) (.seq (.region [kmv 3 0, kmv 4 0, kbt 5 .neq 3 4, kmv 2 5]) .ret))⟩
/-- slices.insertionSortOrdered[uint32] -/
def fd43 : FD := ⟨49, [], (.seq (.region [kmv 8 1, kbi 9 .add 8 .i64 1, kmv 6 9]) (.block 0 (.loop (.seq (.seq (.region [kmv 10 6, kmv 11 2, kbt 12 .lss 10 11]) (.cond (.t 12) .skip (.exit 0))) (.seq (.block 1 (.seq (.region [kmv 15 6, kmv 7 15]) (.block 2 (.loop (.seq (.seq (.drawn [kmv 16 7, kmv 17 1, kbt 18 .gtr 16 17, kmv 19 18, kg 20 (.move (.t 0)) 19 true, kg 21 (.move (.t 7)) 19 true, kg 22 (.idxSl 1 (.t 20) (.t 21)) 19 true, kg 23 (.load1 (.t 22)) 19 true, kg 24 (.move (.t 0)) 19 true, kg 25 (.move (.t 7)) 19 true, kg 26 (.bin .sub .no (.t 25) (.c (.int .i64 1))) 19 true, kg 27 (.idxSl 1 (.t 24) (.t 26)) 19 true, kg 28 (.load1 (.t 27)) 19 true, kg 29 (.call (.c (.fn (.func 49) [] [])) [(.t 23), (.t 28)]) 19 true, kn 30 (.pick (.t 19) (.t 29) (.c (.bool false)))] []) (.cond (.t 30) .skip (.exit 2))) (.seq (.block 3 (.drawn [kmv 33 0, kmv 34 7, kmv 35 0, kmv 36 7, kbi 37 .sub 36 .i64 1, kmv 38 0, kmv 39 7, kbi 40 .sub 39 .i64 1, kix 41 1 38 40, kl1 42 41, kmv 43 0, kmv 44 7, kix 45 1 43 44, kl1 46 45, kix 47 1 33 34, kst 1 47 42, kix 48 1 35 37, kst 1 48 46] [])) (.region [kmv 31 7, kbi 32 .sub 31 .i64 1, kmv 7 32]))))))) (.region [kmv 13 6, kbi 14 .add 13 .i64 1, kmv 6 14]))))))⟩
/-- slices.heapSortOrdered[uint32] -/
def fd44 : FD := ⟨56, [], (.seq (.region [kmv 11 1, kmv 6 11]) (.seq (.region [kmc 7 zi]) (.seq (.region [kmv 12 2, kmv 13 1, kbt 14 .sub 12 13, kmv 8 14]) (.seq (.seq (.region [kmv 15 8, kbi 16 .sub 15 .i64 1, kbi 17 .quo 16 .i64 2, kmv 9 17]) (.block 0 (.loop (.seq (.seq (.region [kmv 18 9, kbi 19 .geq 18 .i64 0]) (.cond (.t 19) .skip (.exit 0))) (.seq (.block 1 (.region [kmv 22 0, kmv 23 9, kmv 24 8, kmv 25 6, kca 26 57 [(.t 22), (.t 23), (.t 24), (.t 25)]])) (.region [kmv 20 9, kbi 21 .sub 20 .i64 1, kmv 9 21])))))) (.seq (.region [kmv 27 8, kbi 28 .sub 27 .i64 1, kmv 10 28]) (.block 2 (.loop (.seq (.seq (.region [kmv 29 10, kbi 30 .geq 29 .i64 0]) (.cond (.t 30) .skip (.exit 2))) (.seq (.block 3 (.seq (.drawn [kmv 33 0, kmv 34 6, kmv 35 0, kmv 36 6, kmv 37 10, kbt 38 .add 36 37, kmv 39 0, kmv 40 6, kmv 41 10, kbt 42 .add 40 41, kix 43 1 39 42, kl1 44 43, kmv 45 0, kmv 46 6, kix 47 1 45 46, kl1 48 47, kix 49 1 33 34, kst 1 49 44, kix 50 1 35 38, kst 1 50 48] []) (.region [kmv 51 0, kmv 52 7, kmv 53 10, kmv 54 6, kca 55 57 [(.t 51), (.t 52), (.t 53), (.t 54)]]))) (.region [kmv 31 10, kbi 32 .sub 31 .i64 1, kmv 10 32]))))))))))⟩
/-- slices.breakPatternsOrdered[uint32] -/
def fd45 : FD := ⟨65, [], (.seq (.region [kmv 11 2, kmv 12 1, kbt 13 .sub 11 12, kmv 6 13]) (.seq (.region [kmv 14 6, kbi 15 .geq 14 .i64 8]) (.cond (.t 15) (.seq (.region [kmv 16 6, kn 17 (.convInt .u64 (.t 16)), kn 7 (.alloc [(.int .u64 0)]), kst 1 7 17]) (.seq (.region [kmv 18 6, kca 19 53 [(.t 18)], kmv 8 19]) (.seq (.region [kmv 20 1, kmv 21 6, kbi 22 .quo 21 .i64 4, kbi 23 .mul 22 .i64 2, kbt 24 .add 20 23, kbi 25 .sub 24 .i64 1, kmv 9 25]) (.block 0 (.loop (.seq (.seq (.region [kmv 26 9, kmv 27 1, kmv 28 6, kbi 29 .quo 28 .i64 4, kbi 30 .mul 29 .i64 2, kbt 31 .add 27 30, kbi 32 .add 31 .i64 1, kbt 33 .leq 26 32]) (.cond (.t 33) .skip (.exit 0))) (.seq (.block 1 (.seq (.region [kca 36 54 [(.t 7)], kmv 37 8, kbi 38 .sub 37 .u64 1, kbt 39 .and 36 38, kn 40 (.convInt .i64 (.t 39)), kmv 10 40]) (.seq (.seq (.region [kmv 41 10, kmv 42 6, kbt 43 .geq 41 42]) (.cond (.t 43) (.region [kmv 44 10, kmv 45 6, kbt 46 .sub 44 45, kmv 10 46]) .skip)) (.drawn [kmv 47 0, kmv 48 9, kmv 49 0, kmv 50 1, kmv 51 10, kbt 52 .add 50 51, kmv 53 0, kmv 54 1, kmv 55 10, kbt 56 .add 54 55, kix 57 1 53 56, kl1 58 57, kmv 59 0, kmv 60 9, kix 61 1 59 60, kl1 62 61, kix 63 1 47 48, kst 1 63 58, kix 64 1 49 52, kst 1 64 62] [])))) (.region [kmv 34 9, kbi 35 .add 34 .i64 1, kmv 9 35])))))))) .skip)))⟩
/-- slices.choosePivotOrdered[uint32] -/
def fd46 : FD := ⟨57, [(.tmp 6), (.tmp 7)], (.seq (.region [kmc 6 zi, kmc 7 zi]) (.seq (.region [kmv 13 2, kmv 14 1, kbt 15 .sub 13 14, kmv 8 15]) (.seq (.region [kn 9 (.alloc [zi])]) (.seq (.region [kmv 16 1, kmv 17 8, kbi 18 .quo 17 .i64 4, kbi 19 .mul 18 .i64 1, kbt 20 .add 16 19, kmv 10 20]) (.seq (.region [kmv 21 1, kmv 22 8, kbi 23 .quo 22 .i64 4, kbi 24 .mul 23 .i64 2, kbt 25 .add 21 24, kmv 11 25]) (.seq (.region [kmv 26 1, kmv 27 8, kbi 28 .quo 27 .i64 4, kbi 29 .mul 28 .i64 3, kbt 30 .add 26 29, kmv 12 30]) (.seq (.seq (.region [kmv 31 8, kbi 32 .geq 31 .i64 8]) (.cond (.t 32) (.seq (.seq (.region [kmv 33 8, kbi 34 .geq 33 .i64 50]) (.cond (.t 34) (.seq (.region [kmv 35 0, kmv 36 10, kca 37 58 [(.t 35), (.t 36), (.t 9)], kmv 10 37]) (.seq (.region [kmv 38 0, kmv 39 11, kca 40 58 [(.t 38), (.t 39), (.t 9)], kmv 11 40]) (.region [kmv 41 0, kmv 42 12, kca 43 58 [(.t 41), (.t 42), (.t 9)], kmv 12 43]))) .skip)) (.region [kmv 44 0, kmv 45 10, kmv 46 11, kmv 47 12, kca 48 59 [(.t 44), (.t 45), (.t 46), (.t 47), (.t 9)], kmv 11 48])) .skip)) (.seq (.region [kl1 49 9]) (.block 0 (.seq (.region [kbi 52 .eql 49 .i64 0, kmv 51 52]) (.cond (.t 51) (.seq (.region [kmv 53 11, kmv 6 53, kmc 7 (.int .i64 1)]) .ret) (.seq (.region [kbi 55 .eql 49 .i64 12, kmv 54 55]) (.cond (.t 54) (.seq (.region [kmv 56 11, kmv 6 56, kmc 7 (.int .i64 2)]) .ret) (.seq (.region [kmv 50 11, kmv 6 50, kmc 7 zi]) .ret))))))))))))))⟩
/-- slices.reverseRangeOrdered[uint32] -/
def fd47 : FD := ⟨32, [], (.seq (.region [kmv 8 1, kmv 6 8]) (.seq (.region [kmv 9 2, kbi 10 .sub 9 .i64 1, kmv 7 10]) (.block 0 (.loop (.seq (.seq (.region [kmv 11 6, kmv 12 7, kbt 13 .lss 11 12]) (.cond (.t 13) .skip (.exit 0))) (.block 1 (.seq (.drawn [kmv 14 0, kmv 15 6, kmv 16 0, kmv 17 7, kmv 18 0, kmv 19 7, kix 20 1 18 19, kl1 21 20, kmv 22 0, kmv 23 6, kix 24 1 22 23, kl1 25 24, kix 26 1 14 15, kst 1 26 21, kix 27 1 16 17, kst 1 27 25] []) (.seq (.region [kmv 28 6, kbi 29 .add 28 .i64 1, kmv 6 29]) (.region [kmv 30 7, kbi 31 .sub 30 .i64 1, kmv 7 31])))))))))⟩
/-- slices.partialInsertionSortOrdered[uint32] -/
def fd48 : FD := ⟨133, [(.tmp 6)], (.seq (.region [kmc 6 (.bool false)]) (.seq (.region [kmv 11 1, kbi 12 .add 11 .i64 1, kmv 7 12]) (.seq (.seq (.region [kmc 8 zi]) (.block 0 (.loop (.seq (.seq (.region [kmv 13 8, kbi 14 .lss 13 .i64 5]) (.cond (.t 14) .skip (.exit 0))) (.seq (.block 1 (.seq (.block 2 (.loop (.seq (.seq (.drawn [kmv 17 7, kmv 18 2, kbt 19 .lss 17 18, kmv 20 19, kg 21 (.move (.t 0)) 20 true, kg 22 (.move (.t 7)) 20 true, kg 23 (.idxSl 1 (.t 21) (.t 22)) 20 true, kg 24 (.load1 (.t 23)) 20 true, kg 25 (.move (.t 0)) 20 true, kg 26 (.move (.t 7)) 20 true, kg 27 (.bin .sub .no (.t 26) (.c (.int .i64 1))) 20 true, kg 28 (.idxSl 1 (.t 25) (.t 27)) 20 true, kg 29 (.load1 (.t 28)) 20 true, kg 30 (.call (.c (.fn (.func 49) [] [])) [(.t 24), (.t 29)]) 20 true, kg 31 (.un .not (.t 30)) 20 true, kn 32 (.pick (.t 20) (.t 31) (.c (.bool false)))] []) (.cond (.t 32) .skip (.exit 2))) (.block 3 (.region [kmv 33 7, kbi 34 .add 33 .i64 1, kmv 7 34]))))) (.seq (.seq (.region [kmv 35 7, kmv 36 2, kbt 37 .eql 35 36]) (.cond (.t 37) (.seq (.region [kmc 6 (.bool true)]) .ret) .skip)) (.seq (.seq (.region [kmv 38 2, kmv 39 1, kbt 40 .sub 38 39, kbi 41 .lss 40 .i64 50]) (.cond (.t 41) (.seq (.region [kmc 6 (.bool false)]) .ret) .skip)) (.seq (.drawn [kmv 42 0, kmv 43 7, kmv 44 0, kmv 45 7, kbi 46 .sub 45 .i64 1, kmv 47 0, kmv 48 7, kbi 49 .sub 48 .i64 1, kix 50 1 47 49, kl1 51 50, kmv 52 0, kmv 53 7, kix 54 1 52 53, kl1 55 54, kix 56 1 42 43, kst 1 56 51, kix 57 1 44 46, kst 1 57 55] []) (.seq (.seq (.region [kmv 58 7, kmv 59 1, kbt 60 .sub 58 59, kbi 61 .geq 60 .i64 2]) (.cond (.t 61) (.seq (.region [kmv 62 7, kbi 63 .sub 62 .i64 1, kmv 9 63]) (.block 4 (.loop (.seq (.seq (.region [kmv 64 9, kbi 65 .geq 64 .i64 1]) (.cond (.t 65) .skip (.exit 4))) (.seq (.block 5 (.seq (.seq (.drawn [kmv 68 0, kmv 69 9, kix 70 1 68 69, kl1 71 70, kmv 72 0, kmv 73 9, kbi 74 .sub 73 .i64 1, kix 75 1 72 74, kl1 76 75, kca 77 49 [(.t 71), (.t 76)], kn 78 (.un .not (.t 77))] []) (.cond (.t 78) (.exit 4) .skip)) (.drawn [kmv 79 0, kmv 80 9, kmv 81 0, kmv 82 9, kbi 83 .sub 82 .i64 1, kmv 84 0, kmv 85 9, kbi 86 .sub 85 .i64 1, kix 87 1 84 86, kl1 88 87, kmv 89 0, kmv 90 9, kix 91 1 89 90, kl1 92 91, kix 93 1 79 80, kst 1 93 88, kix 94 1 81 83, kst 1 94 92] []))) (.region [kmv 66 9, kbi 67 .sub 66 .i64 1, kmv 9 67])))))) .skip)) (.seq (.region [kmv 95 2, kmv 96 7, kbt 97 .sub 95 96, kbi 98 .geq 97 .i64 2]) (.cond (.t 98) (.seq (.region [kmv 99 7, kbi 100 .add 99 .i64 1, kmv 10 100]) (.block 6 (.loop (.seq (.seq (.region [kmv 101 10, kmv 102 2, kbt 103 .lss 101 102]) (.cond (.t 103) .skip (.exit 6))) (.seq (.block 7 (.seq (.seq (.drawn [kmv 106 0, kmv 107 10, kix 108 1 106 107, kl1 109 108, kmv 110 0, kmv 111 10, kbi 112 .sub 111 .i64 1, kix 113 1 110 112, kl1 114 113, kca 115 49 [(.t 109), (.t 114)], kn 116 (.un .not (.t 115))] []) (.cond (.t 116) (.exit 6) .skip)) (.drawn [kmv 117 0, kmv 118 10, kmv 119 0, kmv 120 10, kbi 121 .sub 120 .i64 1, kmv 122 0, kmv 123 10, kbi 124 .sub 123 .i64 1, kix 125 1 122 124, kl1 126 125, kmv 127 0, kmv 128 10, kix 129 1 127 128, kl1 130 129, kix 131 1 117 118, kst 1 131 126, kix 132 1 119 121, kst 1 132 130] []))) (.region [kmv 104 10, kbi 105 .add 104 .i64 1, kmv 10 105])))))) .skip)))))))) (.region [kmv 15 8, kbi 16 .add 15 .i64 1, kmv 8 16])))))) (.seq (.region [kmc 6 (.bool false)]) .ret))))⟩
/-- cmp.Less[uint32] -/
def fd49 : FD := ⟨17, [(.tmp 4)], (.seq (.region [kmc 4 (.bool false)]) (.seq (.region [kmv 5 0, kca 6 42 [(.t 5)], kmv 7 6, kg 8 (.move (.t 1)) 7 true, kg 9 (.call (.c (.fn (.func 42) [] [])) [(.t 8)]) 7 true, kg 10 (.un .not (.t 9)) 7 true, kn 11 (.pick (.t 7) (.t 10) (.c (.bool false))), kmv 12 11, kg 13 (.move (.t 0)) 12 false, kg 14 (.move (.t 1)) 12 false, kg 15 (.bin .lss .no (.t 13) (.t 14)) 12 false, kn 16 (.pick (.t 12) (.c (.bool true)) (.t 15)), kmv 4 16]) .ret))⟩
/-- slices.partitionEqualOrdered[uint32] -/
def fd50 : FD := ⟨84, [(.tmp 8)], (.seq (.region [kmc 8 zi]) (.seq (.drawn [kmv 11 0, kmv 12 1, kmv 13 0, kmv 14 3, kmv 15 0, kmv 16 3, kix 17 1 15 16, kl1 18 17, kmv 19 0, kmv 20 1, kix 21 1 19 20, kl1 22 21, kix 23 1 11 12, kst 1 23 18, kix 24 1 13 14, kst 1 24 22] []) (.seq (.region [kmv 25 1, kbi 26 .add 25 .i64 1, kmv 27 2, kbi 28 .sub 27 .i64 1, kmv 9 26, kmv 10 28]) (.seq (.block 0 (.loop (.block 1 (.seq (.block 2 (.loop (.seq (.seq (.drawn [kmv 29 9, kmv 30 10, kbt 31 .leq 29 30, kmv 32 31, kg 33 (.move (.t 0)) 32 true, kg 34 (.move (.t 1)) 32 true, kg 35 (.idxSl 1 (.t 33) (.t 34)) 32 true, kg 36 (.load1 (.t 35)) 32 true, kg 37 (.move (.t 0)) 32 true, kg 38 (.move (.t 9)) 32 true, kg 39 (.idxSl 1 (.t 37) (.t 38)) 32 true, kg 40 (.load1 (.t 39)) 32 true, kg 41 (.call (.c (.fn (.func 49) [] [])) [(.t 36), (.t 40)]) 32 true, kg 42 (.un .not (.t 41)) 32 true, kn 43 (.pick (.t 32) (.t 42) (.c (.bool false)))] []) (.cond (.t 43) .skip (.exit 2))) (.block 3 (.region [kmv 44 9, kbi 45 .add 44 .i64 1, kmv 9 45]))))) (.seq (.block 4 (.loop (.seq (.seq (.drawn [kmv 46 9, kmv 47 10, kbt 48 .leq 46 47, kmv 49 48, kg 50 (.move (.t 0)) 49 true, kg 51 (.move (.t 1)) 49 true, kg 52 (.idxSl 1 (.t 50) (.t 51)) 49 true, kg 53 (.load1 (.t 52)) 49 true, kg 54 (.move (.t 0)) 49 true, kg 55 (.move (.t 10)) 49 true, kg 56 (.idxSl 1 (.t 54) (.t 55)) 49 true, kg 57 (.load1 (.t 56)) 49 true, kg 58 (.call (.c (.fn (.func 49) [] [])) [(.t 53), (.t 57)]) 49 true, kn 59 (.pick (.t 49) (.t 58) (.c (.bool false)))] []) (.cond (.t 59) .skip (.exit 4))) (.block 5 (.region [kmv 60 10, kbi 61 .sub 60 .i64 1, kmv 10 61]))))) (.seq (.seq (.region [kmv 62 9, kmv 63 10, kbt 64 .gtr 62 63]) (.cond (.t 64) (.exit 0) .skip)) (.seq (.drawn [kmv 65 0, kmv 66 9, kmv 67 0, kmv 68 10, kmv 69 0, kmv 70 10, kix 71 1 69 70, kl1 72 71, kmv 73 0, kmv 74 9, kix 75 1 73 74, kl1 76 75, kix 77 1 65 66, kst 1 77 72, kix 78 1 67 68, kst 1 78 76] []) (.seq (.region [kmv 79 9, kbi 80 .add 79 .i64 1, kmv 9 80]) (.region [kmv 81 10, kbi 82 .sub 81 .i64 1, kmv 10 82]))))))))) (.seq (.region [kmv 83 9, kmv 8 83]) .ret)))))⟩
/-- slices.partitionOrdered[uint32] -/
def fd51 : FD := ⟨168, [(.tmp 8), (.tmp 9)], (.seq (.region [kmc 8 zi, kmc 9 (.bool false)]) (.seq (.drawn [kmv 12 0, kmv 13 1, kmv 14 0, kmv 15 3, kmv 16 0, kmv 17 3, kix 18 1 16 17, kl1 19 18, kmv 20 0, kmv 21 1, kix 22 1 20 21, kl1 23 22, kix 24 1 12 13, kst 1 24 19, kix 25 1 14 15, kst 1 25 23] []) (.seq (.region [kmv 26 1, kbi 27 .add 26 .i64 1, kmv 28 2, kbi 29 .sub 28 .i64 1, kmv 10 27, kmv 11 29]) (.seq (.block 0 (.loop (.seq (.seq (.drawn [kmv 30 10, kmv 31 11, kbt 32 .leq 30 31, kmv 33 32, kg 34 (.move (.t 0)) 33 true, kg 35 (.move (.t 10)) 33 true, kg 36 (.idxSl 1 (.t 34) (.t 35)) 33 true, kg 37 (.load1 (.t 36)) 33 true, kg 38 (.move (.t 0)) 33 true, kg 39 (.move (.t 1)) 33 true, kg 40 (.idxSl 1 (.t 38) (.t 39)) 33 true, kg 41 (.load1 (.t 40)) 33 true, kg 42 (.call (.c (.fn (.func 49) [] [])) [(.t 37), (.t 41)]) 33 true, kn 43 (.pick (.t 33) (.t 42) (.c (.bool false)))] []) (.cond (.t 43) .skip (.exit 0))) (.block 1 (.region [kmv 44 10, kbi 45 .add 44 .i64 1, kmv 10 45]))))) (.seq (.block 2 (.loop (.seq (.seq (.drawn [kmv 46 10, kmv 47 11, kbt 48 .leq 46 47, kmv 49 48, kg 50 (.move (.t 0)) 49 true, kg 51 (.move (.t 11)) 49 true, kg 52 (.idxSl 1 (.t 50) (.t 51)) 49 true, kg 53 (.load1 (.t 52)) 49 true, kg 54 (.move (.t 0)) 49 true, kg 55 (.move (.t 1)) 49 true, kg 56 (.idxSl 1 (.t 54) (.t 55)) 49 true, kg 57 (.load1 (.t 56)) 49 true, kg 58 (.call (.c (.fn (.func 49) [] [])) [(.t 53), (.t 57)]) 49 true, kg 59 (.un .not (.t 58)) 49 true, kn 60 (.pick (.t 49) (.t 59) (.c (.bool false)))] []) (.cond (.t 60) .skip (.exit 2))) (.block 3 (.region [kmv 61 11, kbi 62 .sub 61 .i64 1, kmv 11 62]))))) (.seq (.seq (.region [kmv 63 10, kmv 64 11, kbt 65 .gtr 63 64]) (.cond (.t 65) (.seq (.drawn [kmv 66 0, kmv 67 11, kmv 68 0, kmv 69 1, kmv 70 0, kmv 71 1, kix 72 1 70 71, kl1 73 72, kmv 74 0, kmv 75 11, kix 76 1 74 75, kl1 77 76, kix 78 1 66 67, kst 1 78 73, kix 79 1 68 69, kst 1 79 77] []) (.seq (.region [kmv 80 11, kmv 8 80, kmc 9 (.bool true)]) .ret)) .skip)) (.seq (.drawn [kmv 81 0, kmv 82 10, kmv 83 0, kmv 84 11, kmv 85 0, kmv 86 11, kix 87 1 85 86, kl1 88 87, kmv 89 0, kmv 90 10, kix 91 1 89 90, kl1 92 91, kix 93 1 81 82, kst 1 93 88, kix 94 1 83 84, kst 1 94 92] []) (.seq (.region [kmv 95 10, kbi 96 .add 95 .i64 1, kmv 10 96]) (.seq (.region [kmv 97 11, kbi 98 .sub 97 .i64 1, kmv 11 98]) (.seq (.block 4 (.loop (.block 5 (.seq (.block 6 (.loop (.seq (.seq (.drawn [kmv 99 10, kmv 100 11, kbt 101 .leq 99 100, kmv 102 101, kg 103 (.move (.t 0)) 102 true, kg 104 (.move (.t 10)) 102 true, kg 105 (.idxSl 1 (.t 103) (.t 104)) 102 true, kg 106 (.load1 (.t 105)) 102 true, kg 107 (.move (.t 0)) 102 true, kg 108 (.move (.t 1)) 102 true, kg 109 (.idxSl 1 (.t 107) (.t 108)) 102 true, kg 110 (.load1 (.t 109)) 102 true, kg 111 (.call (.c (.fn (.func 49) [] [])) [(.t 106), (.t 110)]) 102 true, kn 112 (.pick (.t 102) (.t 111) (.c (.bool false)))] []) (.cond (.t 112) .skip (.exit 6))) (.block 7 (.region [kmv 113 10, kbi 114 .add 113 .i64 1, kmv 10 114]))))) (.seq (.block 8 (.loop (.seq (.seq (.drawn [kmv 115 10, kmv 116 11, kbt 117 .leq 115 116, kmv 118 117, kg 119 (.move (.t 0)) 118 true, kg 120 (.move (.t 11)) 118 true, kg 121 (.idxSl 1 (.t 119) (.t 120)) 118 true, kg 122 (.load1 (.t 121)) 118 true, kg 123 (.move (.t 0)) 118 true, kg 124 (.move (.t 1)) 118 true, kg 125 (.idxSl 1 (.t 123) (.t 124)) 118 true, kg 126 (.load1 (.t 125)) 118 true, kg 127 (.call (.c (.fn (.func 49) [] [])) [(.t 122), (.t 126)]) 118 true, kg 128 (.un .not (.t 127)) 118 true, kn 129 (.pick (.t 118) (.t 128) (.c (.bool false)))] []) (.cond (.t 129) .skip (.exit 8))) (.block 9 (.region [kmv 130 11, kbi 131 .sub 130 .i64 1, kmv 11 131]))))) (.seq (.seq (.region [kmv 132 10, kmv 133 11, kbt 134 .gtr 132 133]) (.cond (.t 134) (.exit 4) .skip)) (.seq (.drawn [kmv 135 0, kmv 136 10, kmv 137 0, kmv 138 11, kmv 139 0, kmv 140 11, kix 141 1 139 140, kl1 142 141, kmv 143 0, kmv 144 10, kix 145 1 143 144, kl1 146 145, kix 147 1 135 136, kst 1 147 142, kix 148 1 137 138, kst 1 148 146] []) (.seq (.region [kmv 149 10, kbi 150 .add 149 .i64 1, kmv 10 150]) (.region [kmv 151 11, kbi 152 .sub 151 .i64 1, kmv 11 152]))))))))) (.seq (.drawn [kmv 153 0, kmv 154 11, kmv 155 0, kmv 156 1, kmv 157 0, kmv 158 1, kix 159 1 157 158, kl1 160 159, kmv 161 0, kmv 162 11, kix 163 1 161 162, kl1 164 163, kix 165 1 153 154, kst 1 165 160, kix 166 1 155 156, kst 1 166 164] []) (.seq (.region [kmv 167 11, kmv 8 167, kmc 9 (.bool false)]) .ret))))))))))))⟩
/-- slices.siftDownCmpFunc[understudy/api.Label] -/
def fd52 : FD := ⟨82, [], (.seq (.region [kmv 12 1, kmv 10 12]) (.block 0 (.loop (.block 1 (.seq (.region [kmv 13 10, kn 14 (.bin .mul .no (.c (.int .i64 2)) (.t 13)), kbi 15 .add 14 .i64 1, kmv 11 15]) (.seq (.seq (.region [kmv 16 11, kmv 17 2, kbt 18 .geq 16 17]) (.cond (.t 18) (.exit 0) .skip)) (.seq (.seq (.drawn [kmv 19 11, kbi 20 .add 19 .i64 1, kmv 21 2, kbt 22 .lss 20 21, kmv 23 22, kg 24 (.move (.t 4)) 23 true, kg 25 (.move (.t 0)) 23 true, kg 26 (.move (.t 3)) 23 true, kg 27 (.move (.t 11)) 23 true, kg 28 (.bin .add .no (.t 26) (.t 27)) 23 true, kg 29 (.idxSl 2 (.t 25) (.t 28)) 23 true, kg 30 (.loadN 2 (.t 29)) 23 true, kg 31 (.move (.t 0)) 23 true, kg 32 (.move (.t 3)) 23 true, kg 33 (.move (.t 11)) 23 true, kg 34 (.bin .add .no (.t 32) (.t 33)) 23 true, kg 35 (.bin .add .no (.t 34) (.c (.int .i64 1))) 23 true, kg 36 (.idxSl 2 (.t 31) (.t 35)) 23 true, kg 37 (.loadN 2 (.t 36)) 23 true, kg 38 (.call (.t 24) [(.t 30), (.t 37)]) 23 true, kg 39 (.bin .lss .no (.t 38) (.c zi)) 23 true, kn 40 (.pick (.t 23) (.t 39) (.c (.bool false)))] []) (.cond (.t 40) (.region [kmv 41 11, kbi 42 .add 41 .i64 1, kmv 11 42]) .skip)) (.seq (.seq (.drawn [kmv 43 4, kmv 44 0, kmv 45 3, kmv 46 10, kbt 47 .add 45 46, kix 48 2 44 47, kln 49 2 48, kmv 50 0, kmv 51 3, kmv 52 11, kbt 53 .add 51 52, kix 54 2 50 53, kln 55 2 54, kn 56 (.call (.t 43) [(.t 49), (.t 55)]), kbi 57 .lss 56 .i64 0, kn 58 (.un .not (.t 57))] []) (.cond (.t 58) .ret .skip)) (.seq (.drawn [kmv 59 0, kmv 60 3, kmv 61 10, kbt 62 .add 60 61, kmv 63 0, kmv 64 3, kmv 65 11, kbt 66 .add 64 65, kmv 67 0, kmv 68 3, kmv 69 11, kbt 70 .add 68 69, kix 71 2 67 70, kln 72 2 71, kmv 73 0, kmv 74 3, kmv 75 10, kbt 76 .add 74 75, kix 77 2 73 76, kln 78 2 77, kix 79 2 59 62, kst 2 79 72, kix 80 2 63 66, kst 2 80 78] []) (.region [kmv 81 11, kmv 10 81]))))))))))⟩
/-- slices.nextPowerOfTwo -/
def fd53 : FD := ⟨7, [(.tmp 2)], (.seq (.region [kmc 2 (.int .u64 0)]) (.seq (.region [kmv 3 0, kn 4 (.convInt .u64 (.t 3)), kca 5 25 [(.t 4)], kn 6 (.bin .shl .no (.c (.int .u64 1)) (.t 5)), kmv 2 6]) .ret))⟩
/-- (*slices.xorshift).Next -/
def fd54 : FD := ⟨33, [(.tmp 2)], (.seq (.region [kmc 2 (.int .u64 0)]) (.seq (.drawn [kmv 3 0, knc 4 3, kl1 5 4, kmv 6 0, knc 7 6, kl1 8 7, kbi 9 .shl 8 .u64 13, kbt 10 .xor 5 9, knc 11 3, kst 1 11 10] []) (.seq (.drawn [kmv 12 0, knc 13 12, kl1 14 13, kmv 15 0, knc 16 15, kl1 17 16, kbi 18 .shr 17 .u64 7, kbt 19 .xor 14 18, knc 20 12, kst 1 20 19] []) (.seq (.drawn [kmv 21 0, knc 22 21, kl1 23 22, kmv 24 0, knc 25 24, kl1 26 25, kbi 27 .shl 26 .u64 17, kbt 28 .xor 23 27, knc 29 21, kst 1 29 28] []) (.seq (.region [kmv 30 0, knc 31 30, kl1 32 31, kmv 2 32]) .ret)))))⟩
/-- slices.medianAdjacentCmpFunc[understudy/api.Label] -/
def fd55 : FD := ⟨18, [(.tmp 8)], (.seq (.region [kmc 8 zi]) (.seq (.region [kmv 9 0, kmv 10 1, kbi 11 .sub 10 .i64 1, kmv 12 1, kmv 13 1, kbi 14 .add 13 .i64 1, kmv 15 2, kmv 16 3, kca 17 56 [(.t 9), (.t 11), (.t 12), (.t 14), (.t 15), (.t 16)], kmv 8 17]) .ret))⟩
/-- slices.medianCmpFunc[understudy/api.Label] -/
def fd56 : FD := ⟨41, [(.tmp 12)], (.seq (.region [kmc 12 zi]) (.seq (.region [kmv 14 0, kmv 15 1, kmv 16 2, kmv 17 4, kmv 18 5, kca 19 60 [(.t 14), (.t 15), (.t 16), (.t 17), (.t 18)], kmv 13 19, kex 20 13 0, kex 21 13 1, kmv 1 20, kmv 2 21]) (.seq (.region [kmv 23 0, kmv 24 2, kmv 25 3, kmv 26 4, kmv 27 5, kca 28 60 [(.t 23), (.t 24), (.t 25), (.t 26), (.t 27)], kmv 22 28, kex 29 22 0, kex 30 22 1, kmv 2 29, kmv 3 30]) (.seq (.region [kmv 32 0, kmv 33 1, kmv 34 2, kmv 35 4, kmv 36 5, kca 37 60 [(.t 32), (.t 33), (.t 34), (.t 35), (.t 36)], kmv 31 37, kex 38 31 0, kex 39 31 1, kmv 1 38, kmv 2 39]) (.seq (.region [kmv 40 2, kmv 12 40]) .ret)))))⟩
/-- slices.siftDownOrdered[uint32] -/
def fd57 : FD := ⟨76, [], (.seq (.region [kmv 10 1, kmv 8 10]) (.block 0 (.loop (.block 1 (.seq (.region [kmv 11 8, kn 12 (.bin .mul .no (.c (.int .i64 2)) (.t 11)), kbi 13 .add 12 .i64 1, kmv 9 13]) (.seq (.seq (.region [kmv 14 9, kmv 15 2, kbt 16 .geq 14 15]) (.cond (.t 16) (.exit 0) .skip)) (.seq (.seq (.drawn [kmv 17 9, kbi 18 .add 17 .i64 1, kmv 19 2, kbt 20 .lss 18 19, kmv 21 20, kg 22 (.move (.t 0)) 21 true, kg 23 (.move (.t 3)) 21 true, kg 24 (.move (.t 9)) 21 true, kg 25 (.bin .add .no (.t 23) (.t 24)) 21 true, kg 26 (.idxSl 1 (.t 22) (.t 25)) 21 true, kg 27 (.load1 (.t 26)) 21 true, kg 28 (.move (.t 0)) 21 true, kg 29 (.move (.t 3)) 21 true, kg 30 (.move (.t 9)) 21 true, kg 31 (.bin .add .no (.t 29) (.t 30)) 21 true, kg 32 (.bin .add .no (.t 31) (.c (.int .i64 1))) 21 true, kg 33 (.idxSl 1 (.t 28) (.t 32)) 21 true, kg 34 (.load1 (.t 33)) 21 true, kg 35 (.call (.c (.fn (.func 49) [] [])) [(.t 27), (.t 34)]) 21 true, kn 36 (.pick (.t 21) (.t 35) (.c (.bool false)))] []) (.cond (.t 36) (.region [kmv 37 9, kbi 38 .add 37 .i64 1, kmv 9 38]) .skip)) (.seq (.seq (.drawn [kmv 39 0, kmv 40 3, kmv 41 8, kbt 42 .add 40 41, kix 43 1 39 42, kl1 44 43, kmv 45 0, kmv 46 3, kmv 47 9, kbt 48 .add 46 47, kix 49 1 45 48, kl1 50 49, kca 51 49 [(.t 44), (.t 50)], kn 52 (.un .not (.t 51))] []) (.cond (.t 52) .ret .skip)) (.seq (.drawn [kmv 53 0, kmv 54 3, kmv 55 8, kbt 56 .add 54 55, kmv 57 0, kmv 58 3, kmv 59 9, kbt 60 .add 58 59, kmv 61 0, kmv 62 3, kmv 63 9, kbt 64 .add 62 63, kix 65 1 61 64, kl1 66 65, kmv 67 0, kmv 68 3, kmv 69 8, kbt 70 .add 68 69, kix 71 1 67 70, kl1 72 71, kix 73 1 53 56, kst 1 73 66, kix 74 1 57 60, kst 1 74 72] []) (.region [kmv 75 9, kmv 8 75]))))))))))⟩
/-- slices.medianAdjacentOrdered[uint32] -/
def fd58 : FD := ⟨15, [(.tmp 6)], (.seq (.region [kmc 6 zi]) (.seq (.region [kmv 7 0, kmv 8 1, kbi 9 .sub 8 .i64 1, kmv 10 1, kmv 11 1, kbi 12 .add 11 .i64 1, kmv 13 2, kca 14 59 [(.t 7), (.t 9), (.t 10), (.t 12), (.t 13)], kmv 6 14]) .ret))⟩
/-- slices.medianOrdered[uint32] -/
def fd59 : FD := ⟨36, [(.tmp 10)], (.seq (.region [kmc 10 zi]) (.seq (.region [kmv 12 0, kmv 13 1, kmv 14 2, kmv 15 4, kca 16 61 [(.t 12), (.t 13), (.t 14), (.t 15)], kmv 11 16, kex 17 11 0, kex 18 11 1, kmv 1 17, kmv 2 18]) (.seq (.region [kmv 20 0, kmv 21 2, kmv 22 3, kmv 23 4, kca 24 61 [(.t 20), (.t 21), (.t 22), (.t 23)], kmv 19 24, kex 25 19 0, kex 26 19 1, kmv 2 25, kmv 3 26]) (.seq (.region [kmv 28 0, kmv 29 1, kmv 30 2, kmv 31 4, kca 32 61 [(.t 28), (.t 29), (.t 30), (.t 31)], kmv 27 32, kex 33 27 0, kex 34 27 1, kmv 1 33, kmv 2 34]) (.seq (.region [kmv 35 2, kmv 10 35]) .ret)))))⟩
/-- slices.order2CmpFunc[understudy/api.Label] -/
def fd60 : FD := ⟨32, [(.tmp 10), (.tmp 11)], (.seq (.region [kmc 10 zi, kmc 11 zi]) (.seq (.seq (.drawn [kmv 12 4, kmv 13 0, kmv 14 2, kix 15 2 13 14, kln 16 2 15, kmv 17 0, kmv 18 1, kix 19 2 17 18, kln 20 2 19, kn 21 (.call (.t 12) [(.t 16), (.t 20)]), kbi 22 .lss 21 .i64 0] []) (.cond (.t 22) (.seq (.region [kmv 23 3, knc 24 23, kl1 25 24, kbi 26 .add 25 .i64 1, knc 27 23, kst 1 27 26]) (.seq (.region [kmv 28 2, kmv 29 1, kmv 10 28, kmv 11 29]) .ret)) .skip)) (.seq (.region [kmv 30 1, kmv 31 2, kmv 10 30, kmv 11 31]) .ret)))⟩
end Go.Proofs.Ytjejgnbdlfkenaa
namespace Go.Proofs.Ytjejgnbdlfkenaa
open D
/-- slices.order2Ordered[uint32] -/
def fd61 : FD := ⟨28, [(.tmp 8), (.tmp 9)], (.seq (.region [kmc 8 zi, kmc 9 zi]) (.seq (.seq (.drawn [kmv 10 0, kmv 11 2, kix 12 1 10 11, kl1 13 12, kmv 14 0, kmv 15 1, kix 16 1 14 15, kl1 17 16, kca 18 49 [(.t 13), (.t 17)]] []) (.cond (.t 18) (.seq (.region [kmv 19 3, knc 20 19, kl1 21 20, kbi 22 .add 21 .i64 1, knc 23 19, kst 1 23 22]) (.seq (.region [kmv 24 2, kmv 25 1, kmv 8 24, kmv 9 25]) .ret)) .skip)) (.seq (.region [kmv 26 1, kmv 27 2, kmv 8 26, kmv 9 27]) .ret)))⟩
end Go.Proofs.Ytjejgnbdlfkenaa
namespace Go.Proofs.Ytjejgnbdlfkenaa
open D
noncomputable def tab : Tr FD := ((((((((((((((((((((((((((((((((((((((((((((((((((((((((((((Tr.lf.set 2 fd2).set 3 fd3).set 4 fd4).set 5 fd5).set 6 fd6).set 7 fd7).set 8 fd8).set 9 fd9).set 10 fd10).set 11 fd11).set 12 fd12).set 13 fd13).set 14 fd14).set 15 fd15).set 16 fd16).set 17 fd17).set 18 fd18).set 19 fd19).set 20 fd20).set 21 fd21).set 22 fd22).set 23 fd23).set 24 fd24).set 25 fd25).set 26 fd26).set 27 fd27).set 28 fd28).set 29 fd29).set 30 fd30).set 31 fd31).set 32 fd32).set 33 fd33).set 34 fd34).set 35 fd35).set 36 fd36).set 37 fd37).set 38 fd38).set 39 fd39).set 40 fd40).set 41 fd41).set 42 fd42).set 43 fd43).set 44 fd44).set 45 fd45).set 46 fd46).set 47 fd47).set 48 fd48).set 49 fd49).set 50 fd50).set 51 fd51).set 52 fd52).set 53 fd53).set 54 fd54).set 55 fd55).set 56 fd56).set 57 fd57).set 58 fd58).set 59 fd59).set 60 fd60).set 61 fd61)
end Go.Proofs.Ytjejgnbdlfkenaa
namespace Go.Proofs.Ytjejgnbdlfkenaa
open D
theorem prep2 : prepF Try.prog Try.f2 = some fd2 := by kernel_rfl
theorem prep3 : prepF Try.prog Try.f3 = some fd3 := by kernel_rfl
theorem prep4 : prepF Try.prog Try.f4 = some fd4 := by kernel_rfl
theorem prep5 : prepF Try.prog Try.f5 = some fd5 := by kernel_rfl
theorem prep6 : prepF Try.prog Try.f6 = some fd6 := by kernel_rfl
theorem prep7 : prepF Try.prog Try.f7 = some fd7 := by kernel_rfl
theorem prep8 : prepF Try.prog Try.f8 = some fd8 := by kernel_rfl
theorem prep9 : prepF Try.prog Try.f9 = some fd9 := by kernel_rfl
theorem prep10 : prepF Try.prog Try.f10 = some fd10 := by kernel_rfl
theorem prep11 : prepF Try.prog Try.f11 = some fd11 := by kernel_rfl
theorem prep12 : prepF Try.prog Try.f12 = some fd12 := by kernel_rfl
theorem prep13 : prepF Try.prog Try.f13 = some fd13 := by kernel_rfl
theorem prep14 : prepF Try.prog Try.f14 = some fd14 := by kernel_rfl
theorem prep15 : prepF Try.prog Try.f15 = some fd15 := by kernel_rfl
theorem prep16 : prepF Try.prog Try.f16 = some fd16 := by kernel_rfl
theorem prep17 : prepF Try.prog Try.f17 = some fd17 := by kernel_rfl
theorem prep18 : prepF Try.prog Try.f18 = some fd18 := by kernel_rfl
theorem prep19 : prepF Try.prog Try.f19 = some fd19 := by kernel_rfl
theorem prep20 : prepF Try.prog Try.f20 = some fd20 := by kernel_rfl
theorem prep21 : prepF Try.prog Try.f21 = some fd21 := by kernel_rfl
theorem prep22 : prepF Try.prog Try.f22 = some fd22 := by kernel_rfl
theorem prep23 : prepF Try.prog Try.f23 = some fd23 := by kernel_rfl
theorem prep24 : prepF Try.prog Try.f24 = some fd24 := by kernel_rfl
theorem prep25 : prepF Try.prog Try.f25 = some fd25 := by kernel_rfl
theorem prep26 : prepF Try.prog Try.f26 = some fd26 := by kernel_rfl
theorem prep27 : prepF Try.prog Try.f27 = some fd27 := by kernel_rfl
theorem prep28 : prepF Try.prog Try.f28 = some fd28 := by kernel_rfl
theorem prep29 : prepF Try.prog Try.f29 = some fd29 := by kernel_rfl
theorem prep30 : prepF Try.prog Try.f30 = some fd30 := by kernel_rfl
theorem prep31 : prepF Try.prog Try.f31 = some fd31 := by kernel_rfl
theorem prep32 : prepF Try.prog Try.f32 = some fd32 := by kernel_rfl
theorem prep33 : prepF Try.prog Try.f33 = some fd33 := by kernel_rfl
theorem prep34 : prepF Try.prog Try.f34 = some fd34 := by kernel_rfl
theorem prep35 : prepF Try.prog Try.f35 = some fd35 := by kernel_rfl
theorem prep36 : prepF Try.prog Try.f36 = some fd36 := by kernel_rfl
theorem prep37 : prepF Try.prog Try.f37 = some fd37 := by kernel_rfl
theorem prep38 : prepF Try.prog Try.f38 = some fd38 := by kernel_rfl
theorem prep39 : prepF Try.prog Try.f39 = some fd39 := by kernel_rfl
theorem prep40 : prepF Try.prog Try.f40 = some fd40 := by kernel_rfl
theorem prep41 : prepF Try.prog Try.f41 = some fd41 := by kernel_rfl
theorem prep42 : prepF Try.prog Try.f42 = some fd42 := by kernel_rfl
theorem prep43 : prepF Try.prog Try.f43 = some fd43 := by kernel_rfl
theorem prep44 : prepF Try.prog Try.f44 = some fd44 := by kernel_rfl
theorem prep45 : prepF Try.prog Try.f45 = some fd45 := by kernel_rfl
theorem prep46 : prepF Try.prog Try.f46 = some fd46 := by kernel_rfl
theorem prep47 : prepF Try.prog Try.f47 = some fd47 := by kernel_rfl
theorem prep48 : prepF Try.prog Try.f48 = some fd48 := by kernel_rfl
theorem prep49 : prepF Try.prog Try.f49 = some fd49 := by kernel_rfl
theorem prep50 : prepF Try.prog Try.f50 = some fd50 := by kernel_rfl
theorem prep51 : prepF Try.prog Try.f51 = some fd51 := by kernel_rfl
theorem prep52 : prepF Try.prog Try.f52 = some fd52 := by kernel_rfl
theorem prep53 : prepF Try.prog Try.f53 = some fd53 := by kernel_rfl
theorem prep54 : prepF Try.prog Try.f54 = some fd54 := by kernel_rfl
theorem prep55 : prepF Try.prog Try.f55 = some fd55 := by kernel_rfl
theorem prep56 : prepF Try.prog Try.f56 = some fd56 := by kernel_rfl
theorem prep57 : prepF Try.prog Try.f57 = some fd57 := by kernel_rfl
theorem prep58 : prepF Try.prog Try.f58 = some fd58 := by kernel_rfl
theorem prep59 : prepF Try.prog Try.f59 = some fd59 := by kernel_rfl
theorem prep60 : prepF Try.prog Try.f60 = some fd60 := by kernel_rfl
end Go.Proofs.Ytjejgnbdlfkenaa
namespace Go.Proofs.Ytjejgnbdlfkenaa
open D
theorem prep61 : prepF Try.prog Try.f61 = some fd61 := by kernel_rfl
end Go.Proofs.Ytjejgnbdlfkenaa
namespace Go.Proofs.Ytjejgnbdlfkenaa
open D
theorem tab_ok : FnsOk Try.prog tab.get := ((((((((((((((((((((((((((((((((((((((((((((((((((((((((((((fnsOk_lf.set Try.func2 prep2).set Try.func3 prep3).set Try.func4 prep4).set Try.func5 prep5).set Try.func6 prep6).set Try.func7 prep7).set Try.func8 prep8).set Try.func9 prep9).set Try.func10 prep10).set Try.func11 prep11).set Try.func12 prep12).set Try.func13 prep13).set Try.func14 prep14).set Try.func15 prep15).set Try.func16 prep16).set Try.func17 prep17).set Try.func18 prep18).set Try.func19 prep19).set Try.func20 prep20).set Try.func21 prep21).set Try.func22 prep22).set Try.func23 prep23).set Try.func24 prep24).set Try.func25 prep25).set Try.func26 prep26).set Try.func27 prep27).set Try.func28 prep28).set Try.func29 prep29).set Try.func30 prep30).set Try.func31 prep31).set Try.func32 prep32).set Try.func33 prep33).set Try.func34 prep34).set Try.func35 prep35).set Try.func36 prep36).set Try.func37 prep37).set Try.func38 prep38).set Try.func39 prep39).set Try.func40 prep40).set Try.func41 prep41).set Try.func42 prep42).set Try.func43 prep43).set Try.func44 prep44).set Try.func45 prep45).set Try.func46 prep46).set Try.func47 prep47).set Try.func48 prep48).set Try.func49 prep49).set Try.func50 prep50).set Try.func51 prep51).set Try.func52 prep52).set Try.func53 prep53).set Try.func54 prep54).set Try.func55 prep55).set Try.func56 prep56).set Try.func57 prep57).set Try.func58 prep58).set Try.func59 prep59).set Try.func60 prep60).set Try.func61 prep61)
end Go.Proofs.Ytjejgnbdlfkenaa
namespace Go.Proofs.Ytjejgnbdlfkenaa.D
noncomputable section
open Go.RowKit
variable {P : Program}

theorem addSum_ne {SM : Sums} {f k : Nat} {g : List AV → St → Option (AV × St)} (h : k ≠ f) : addSum SM f g k = SM k := if_neg h
theorem addSum_eq {SM : Sums} {f : Nat} {g : List AV → St → Option (AV × St)} : addSum SM f g f = some g := if_pos rfl

theorem HR.below {R : Nat} {μ : Place} {s : St} {w w' : World} (h : HR P R μ s w) (hb : Below w.heap.size w w') : HR P R μ s w' where
  obj b o hg := by
    obtain ⟨p, hp, ho⟩ := h.obj b o hg
    exact ⟨p, hp, OR.mono (Place.le_refl _) (hb.block p.1 (h.lt b p hp).1) ho⟩
  inj := h.inj
  lt b p hp := ⟨Nat.lt_of_lt_of_le (h.lt b p hp).1 hb.size, (h.lt b p hp).2⟩
  dom := h.dom

theorem Mv.of_below {R : Nat} {μ : Place} {s : St} {w w' : World} (h : HR P R μ s w) (hR : s.next ≤ R) (hb : Below w.heap.size w w') (ht : TapeLe w w') : Mv μ s w μ s w' where
  le := Place.le_refl μ
  os := hb.os
  output := hb.output
  tape := ht
  size := hb.size
  next := Nat.le_refl _
  res b p hp := (h.lt b p hp).2.imp id (Nat.le_trans hR)
  fresh _ _ hp := .inl hp
  frame k hk _ := hb.block k hk
  ro _ _ _ _ p hg hp := ⟨hg, hb.block _ (h.lt _ p hp).1⟩

theorem sumsOk_add {SM SM0 : Sums} (hm : P.follows .mixedOrders = true) {FT : Fns} (hFT : FnsOk P FT) (h0 : SumsOk P SM0) (n0 : SumsNext SM0) {fuel f : Nat} (h : isTrue ((eng FT SM0 fuel).call f [] St.empty) = true) (hSM : SumsOk P SM) :
    SumsOk P (addSum SM f aliveSum) := by
  intro k g hk args s v s' R μ w cargs hx hR hr hc
  unfold addSum at hk
  split at hk
  · rename_i e
    subst e
    cases hk
    cases args with
    | cons => cases hx
    | nil =>
      cases hx
      cases cargs with
      | cons _ _ => simp [concs] at hc
      | nil =>
      obtain ⟨s1, hs⟩ := isTrue_some h
      have key := (eng_sound hm hFT h0 n0 fuel).call hs (Nat.le_refl _) (HR.empty s1.next w) (show concs _ [] = some [] from rfl)
      refine ⟨key.1, fun n => (key.2 n).mono ?_⟩
      intro e w' he
      cases e with
      | returned c =>
        obtain ⟨ν, h1, _, h3⟩ := he
        simp only [conc, Option.some.injEq] at h1
        subst h1
        have hb := h3.below
        exact ⟨μ, rfl, hr.below hb, Mv.of_below hr hR hb h3.tape⟩
      | panicked _ => exact he.elim
      | outgrown => exact he.elim
  · exact hSM k g hk hx hR hr hc

theorem sumsNext_add {SM : Sums} (hSN : SumsNext SM) (f : Nat) : SumsNext (addSum SM f aliveSum) := by
  intro k g args s v s' hk hx
  unfold addSum at hk
  split at hk
  · cases hk
    cases args with
    | cons => cases hx
    | nil => cases hx; exact Nat.le_refl _
  · exact hSN k g args s v s' hk hx
end
end Go.Proofs.Ytjejgnbdlfkenaa.D
namespace Go.Proofs.Ytjejgnbdlfkenaa.D
noncomputable section

/-- What one answers, another one answers. -/
def OLe {α : Type} (a b : Option α) : Prop := ∀ r, a = some r → b = some r
structure Eng.le (e e' : Eng) : Prop where
  call : ∀ f a s, OLe (e.call f a s) (e'.call f a s)
  ex : ∀ ro c ts ds s, OLe (e.ex ro c ts ds s) (e'.ex ro c ts ds s)

theorem Eng.le_refl (e : Eng) : e.le e := ⟨fun _ _ _ _ h => h, fun _ _ _ _ _ _ h => h⟩
theorem Eng.le_trans {a b c : Eng} (h : a.le b) (k : b.le c) : a.le c := ⟨fun f x s r e => k.call f x s r (h.call f x s r e), fun ro x ts ds s r e => k.ex ro x ts ds s r (h.ex ro x ts ds s r e)⟩

structure Sup (E : Nat → Eng) (L : Eng) : Prop where
  up : ∀ n, (E n).le (E (n + 1))
  le : ∀ n, (E n).le L
  call : ∀ f a s r, L.call f a s = some r → ∃ n, (E n).call f a s = some r
  ex : ∀ ro c ts ds s r, L.ex ro c ts ds s = some r → ∃ n, (E n).ex ro c ts ds s = some r

theorem Sup.mono {E : Nat → Eng} {L : Eng} (h : Sup E L) {n m : Nat} (k : n ≤ m) : (E n).le (E m) := by
  induction m with
  | zero => cases Nat.le_zero.1 k; exact Eng.le_refl _
  | succ m ih =>
    by_cases e : n = m + 1
    · subst e; exact Eng.le_refl _
    · exact Eng.le_trans (ih (by omega)) (h.up m)

/-- What a step asks of the machine it asks finitely often. -/
structure Cont {α : Type} (a : Eng → Option α) : Prop where
  mono : ∀ e e', e.le e' → OLe (a e) (a e')
  fin : ∀ E L, Sup E L → ∀ r, a L = some r → ∃ n, a (E n) = some r

section
variable {α β : Type}
theorem Cont.const (x : Option α) : Cont fun _ => x := ⟨fun _ _ _ _ h => h, fun _ _ _ _ h => ⟨0, h⟩⟩
theorem Cont.call (f : Nat) (a : List AV) (s : St) : Cont fun e => e.call f a s := ⟨fun _ _ h => h.call f a s, fun _ _ h r e => h.call f a s r e⟩
theorem Cont.ex (ro : Option Nat) (c : PC) (ts : Tr AV) (ds : List Nat) (s : St) : Cont fun e => e.ex ro c ts ds s := ⟨fun _ _ h => h.ex ro c ts ds s, fun _ _ h r e => h.ex ro c ts ds s r e⟩
theorem Cont.bind {f : Eng → Option α} {g : α → Eng → Option β} (hf : Cont f) (hg : ∀ x, Cont (g x)) : Cont fun e => (f e).bind fun x => g x e := by
  refine ⟨fun e e' h r hr => ?_, fun E L h r hr => ?_⟩
  · simp only [Option.bind_eq_some_iff] at hr ⊢
    obtain ⟨x, h1, h2⟩ := hr
    exact ⟨x, hf.mono e e' h x h1, (hg x).mono e e' h r h2⟩
  · simp only [Option.bind_eq_some_iff] at hr ⊢
    obtain ⟨x, h1, h2⟩ := hr
    obtain ⟨n, hn⟩ := hf.fin E L h x h1
    obtain ⟨m, hm⟩ := (hg x).fin E L h r h2
    exact ⟨max n m, x, hf.mono _ _ (h.mono (Nat.le_max_left n m)) x hn, (hg x).mono _ _ (h.mono (Nat.le_max_right n m)) r hm⟩
theorem Cont.of_eq {a b : Eng → Option α} (h : Cont a) (e : ∀ x, b x = a x) : Cont b := by
  have : b = a := funext e
  rw [this]; exact h
end

theorem cont_roundA (r : Nat) (args : List AV) (s : St) : Cont fun e => roundA e r args s := by
  unfold roundA
  split
  · split
    · rename_i ts params assign body _ _ _
      refine (Cont.bind (g := fun y e => match y with
        | (.normal, ts1, [], s1) => match s1.get r with
          | some (.loop .ready pe ts2 ps2 a2 b2 d2) =>
            match e.ex (some r) body ts1 [] (s1.put r (.loop .busy pe ts2 ps2 a2 b2 d2)) with
            | some (x, _, [], s3) => match s3.get r with
              | some (.loop _ _ ts3 ps3 a3 b3 d3) =>
                match x with
                | .normal => some (AV.bool true, s3.put r (.loop .ready .normal ts3 ps3 a3 b3 d3))
                | x => some (.bool false, s3.put r (.loop .done x ts3 ps3 a3 b3 d3))
              | _ => none
            | _ => none
          | _ => none
        | _ => none) (Cont.ex (some r) assign (setTs params args ts) [] s) ?_).of_eq ?_
      · rintro ⟨x, ts1, ds, s1⟩
        split
        · rename_i hy; cases hy
          split
          · rename_i pe ts2 ps2 a2 b2 d2 _
            refine (Cont.bind (g := fun y _ => match y with
              | (x, _, [], s3) => match s3.get r with
                | some (.loop _ _ ts3 ps3 a3 b3 d3) =>
                  match x with
                  | .normal => some (AV.bool true, s3.put r (.loop .ready .normal ts3 ps3 a3 b3 d3))
                  | x => some (.bool false, s3.put r (.loop .done x ts3 ps3 a3 b3 d3))
                | _ => none
              | _ => none) (Cont.ex (some r) body ts1 [] (s1.put r (.loop .busy pe ts2 ps2 a2 b2 d2))) (fun _ => Cont.const _)).of_eq ?_
            intro e
            cases e.ex (some r) body ts1 [] (s1.put r (.loop .busy pe ts2 ps2 a2 b2 d2)) with
            | none => rfl
            | some y => obtain ⟨x, t, ds, s3⟩ := y; cases ds <;> rfl
          · exact Cont.const _
        · exact Cont.const _
      · intro e
        cases e.ex (some r) assign (setTs params args ts) [] s with
        | none => rfl
        | some y => obtain ⟨x, t, ds, s3⟩ := y; cases x <;> cases ds <;> rfl
    · exact Cont.const _
  · exact Cont.const _

theorem cont_callV (f : AV) (args : List AV) (s : St) : Cont fun e => callV e f args s := by
  unfold callV
  split
  · exact Cont.call _ _ _
  · exact cont_roundA _ _ _
  · exact Cont.const _

theorem cont_opVal (p : POp) (ev : Ev) (s : St) : Cont fun e => opVal e p ev s := by
  cases p with
  | call f args =>
    unfold opVal
    dsimp only
    cases ev f with
    | none => exact Cont.const _
    | some fv =>
      cases evs ev args with
      | none => exact Cont.const _
      | some l => exact cont_callV fv l s
  | _ => exact Cont.const _

theorem cont_opStep (p : PO) (ts : Tr AV) (s : St) : Cont fun e => opStep e p ts s := by
  unfold opStep
  cases wantedA p.guard ts with
  | none => exact Cont.const _
  | some b =>
    cases b with
    | false => exact Cont.const _
    | true =>
      refine (Cont.bind (g := fun y _ => some (putT p.dst y.1 ts, y.2)) (cont_opVal p.op (evOf ts) s) (fun _ => Cont.const _)).of_eq ?_
      intro e
      cases opVal e p.op (evOf ts) s <;> rfl

theorem cont_runOps : ∀ (l : List PO) (ts : Tr AV) (s : St), Cont fun e => runOps e l ts s
  | [], _, _ => Cont.const _
  | p :: r, ts, s => by
    refine (Cont.bind (g := fun y e => runOps e r y.1 y.2) (cont_opStep p ts s) (fun y => cont_runOps r y.1 y.2)).of_eq ?_
    intro e
    simp only [runOps]
    cases opStep e p ts s <;> rfl

theorem cont_runSnaps : ∀ (l : List PO) (ts : Tr AV) (s : St) (acc : List St), Cont fun e => runSnaps e l ts s acc
  | [], _, _, _ => Cont.const _
  | p :: r, ts, s, acc => by
    refine (Cont.bind (g := fun y e => runSnaps e r y.1 y.2 (s :: acc)) (cont_opStep p ts s) (fun y => cont_runSnaps r y.1 y.2 _)).of_eq ?_
    intro e
    simp only [runSnaps]
    cases opStep e p ts s <;> rfl

theorem cont_rangeA (ro : Option Nat) (f : AV) (params : List Nat) (assign body : PC) (ts : Tr AV) (ds : List Nat) (s : St) : Cont fun e => rangeA e ro f params assign body ts ds s := by
  unfold rangeA
  split
  · rename_i g first captured
    split
    · exact Cont.const _
    · rename_i l ds' s2 _
      refine (Cont.bind (g := fun y _ => match y.2.get l with
        | some (.loop .busy _ _ _ _ _ _) => none
        | some (.loop _ pend ts2 ps2 a2 b2 d2) => some (pend, ts, ds', y.2.put l (.loop .exhausted pend ts2 ps2 a2 b2 d2))
        | _ => none) (Cont.call g (first ++ [.yld l] ++ captured) s2) (fun _ => Cont.const _)).of_eq ?_
      intro e
      cases e.call g (first ++ [.yld l] ++ captured) s2 <;> rfl
  · exact Cont.const _

theorem cont_exStep (ro : Option Nat) (c : PC) (ts : Tr AV) (ds : List Nat) (s : St) : Cont fun e => exStep e ro c ts ds s := by
  unfold exStep
  cases c with
  | skip => exact Cont.const _
  | region ops =>
    refine (Cont.bind (g := fun y _ => some (AExit.normal, y.1, ds, y.2)) (cont_runOps ops ts s) (fun _ => Cont.const _)).of_eq ?_
    intro e
    dsimp only
    cases runOps e ops ts s <;> rfl
  | drawn ops looks =>
    refine (Cont.bind (g := fun y _ => if looksOk ops y.1 y.2.2.reverse looks then some (AExit.normal, y.1, ds, y.2.1) else none) (cont_runSnaps ops ts s []) (fun _ => Cont.const _)).of_eq ?_
    intro e
    dsimp only
    cases runSnaps e ops ts s [] <;> rfl
  | seq a b =>
    refine (Cont.bind (g := fun y e => match y with
      | (.normal, ts', ds', s') => e.ex ro b ts' ds' s'
      | r => some r) (Cont.ex ro a ts ds s) ?_).of_eq ?_
    · rintro ⟨x, t, d, s'⟩
      cases x with
      | normal => exact Cont.ex _ _ _ _ _
      | _ => exact Cont.const _
    · intro e
      dsimp only
      cases e.ex ro a ts ds s with
      | none => rfl
      | some y => obtain ⟨x, t, d, s'⟩ := y; cases x <;> rfl
  | cond x a b =>
    dsimp only
    split
    · exact Cont.ex _ _ _ _ _
    · exact Cont.ex _ _ _ _ _
    · exact Cont.const _
  | block id a =>
    refine (Cont.bind (g := fun y _ => match y with
      | (.exit id', ts', ds', s') => some (if id' = id then .normal else .exit id', ts', ds', s')
      | r => some r) (Cont.ex ro a ts ds s) (fun _ => Cont.const _)).of_eq ?_
    intro e
    dsimp only
    cases e.ex ro a ts ds s with
    | none => rfl
    | some y => obtain ⟨x, t, d, s'⟩ := y; cases x <;> rfl
  | loop a =>
    refine (Cont.bind (g := fun y e => match y with
      | (.normal, ts', ds', s') => e.ex ro (.loop a) ts' ds' s'
      | r => some r) (Cont.ex ro a ts ds s) ?_).of_eq ?_
    · rintro ⟨x, t, d, s'⟩
      cases x with
      | normal => exact Cont.ex _ _ _ _ _
      | _ => exact Cont.const _
    · intro e
      dsimp only
      cases e.ex ro a ts ds s with
      | none => rfl
      | some y => obtain ⟨x, t, d, s'⟩ := y; cases x <;> rfl
  | rangeF f params assign body =>
    dsimp only
    split
    · exact cont_rangeA _ _ _ _ _ _ _ _
    · exact Cont.const _
  | exit id => exact Cont.const _
  | ret => exact Cont.const _

theorem cont_callStep (FT : Fns) (SM : Sums) (f : Nat) (args : List AV) (s : St) : Cont fun e => callStep FT SM e f args s := by
  unfold callStep
  split
  · exact Cont.const _
  · split
    · exact Cont.const _
    · rename_i fd _
      split
      · refine (Cont.bind (g := fun y _ => finish fd (some y)) (Cont.ex none fd.body (initT 0 args .lf) [] s) (fun _ => Cont.const _)).of_eq ?_
        intro e
        cases e.ex none fd.body (initT 0 args .lf) [] s <;> rfl
      · exact Cont.const _

theorem eng_up_le (FT : Fns) (SM : Sums) : ∀ n, (eng FT SM n).le (eng FT SM (n + 1))
  | 0 => ⟨fun _ _ _ _ h => (by cases h), fun _ _ _ _ _ _ h => (by cases h)⟩
  | n + 1 => ⟨fun f a s => (cont_callStep FT SM f a s).mono _ _ (eng_up_le FT SM n), fun ro c ts ds s => (cont_exStep ro c ts ds s).mono _ _ (eng_up_le FT SM n)⟩

open Classical in
/-- What some answer, if one does. -/
def some1 {α : Type} (a : Nat → Option α) : Option α := if h : ∃ r n, a n = some r then some h.choose else none

theorem some1_of {α : Type} {a : Nat → Option α} (up : ∀ n m, n ≤ m → OLe (a n) (a m)) {n : Nat} {r : α} (h : a n = some r) : some1 a = some r := by
  have hx : ∃ r n, a n = some r := ⟨r, n, h⟩
  unfold some1
  rw [dif_pos hx]
  obtain ⟨m, hm⟩ := hx.choose_spec
  have h1 := up _ _ (Nat.le_max_left n m) r h
  have h2 := up _ _ (Nat.le_max_right n m) _ hm
  rw [h1] at h2; exact h2.symm

theorem of_some1 {α : Type} {a : Nat → Option α} {r : α} (h : some1 a = some r) : ∃ n, a n = some r := by
  unfold some1 at h
  split at h
  · rename_i hx; cases h; exact hx.choose_spec
  · cases h

/-- The machine, with as much at hand as it needs. -/
def lim (FT : Fns) (SM : Sums) : Eng where
  call f a s := some1 fun n => (eng FT SM n).call f a s
  ex ro c ts ds s := some1 fun n => (eng FT SM n).ex ro c ts ds s

theorem eng_le (FT : Fns) (SM : Sums) {n m : Nat} (k : n ≤ m) : (eng FT SM n).le (eng FT SM m) := by
  induction m with
  | zero => cases Nat.le_zero.1 k; exact Eng.le_refl _
  | succ m ih =>
    by_cases e : n = m + 1
    · subst e; exact Eng.le_refl _
    · exact Eng.le_trans (ih (by omega)) (eng_up_le FT SM m)

theorem sup_lim (FT : Fns) (SM : Sums) : Sup (eng FT SM) (lim FT SM) where
  up := eng_up_le FT SM
  le _ := ⟨fun f a s _ h => some1_of (fun _ _ k => (eng_le FT SM k).call f a s) h, fun ro c ts ds s _ h => some1_of (fun _ _ k => (eng_le FT SM k).ex ro c ts ds s) h⟩
  call _ _ _ _ h := of_some1 h
  ex _ _ _ _ _ _ h := of_some1 h

theorem opt_ext {α : Type} {a b : Option α} (h : OLe a b) (k : OLe b a) : a = b := by
  cases a with
  | some x => exact (h x rfl).symm
  | none => cases b with
    | none => rfl
    | some y => exact k y rfl

/-- The machine answers step by step. -/
theorem lim_call (FT : Fns) (SM : Sums) (f : Nat) (a : List AV) (s : St) : (lim FT SM).call f a s = callStep FT SM (lim FT SM) f a s := by
  refine opt_ext (fun r h => ?_) (fun r h => ?_)
  · obtain ⟨n, hn⟩ := (sup_lim FT SM).call f a s r h
    cases n with
    | zero => cases hn
    | succ n => exact (cont_callStep FT SM f a s).mono _ _ ((sup_lim FT SM).le n) r hn
  · obtain ⟨n, hn⟩ := (cont_callStep FT SM f a s).fin _ _ (sup_lim FT SM) r h
    exact ((sup_lim FT SM).le (n + 1)).call f a s r hn

theorem lim_ex (FT : Fns) (SM : Sums) (ro : Option Nat) (c : PC) (ts : Tr AV) (ds : List Nat) (s : St) : (lim FT SM).ex ro c ts ds s = exStep (lim FT SM) ro c ts ds s := by
  refine opt_ext (fun r h => ?_) (fun r h => ?_)
  · obtain ⟨n, hn⟩ := (sup_lim FT SM).ex ro c ts ds s r h
    cases n with
    | zero => cases hn
    | succ n => exact (cont_exStep ro c ts ds s).mono _ _ ((sup_lim FT SM).le n) r hn
  · obtain ⟨n, hn⟩ := (cont_exStep ro c ts ds s).fin _ _ (sup_lim FT SM) r h
    exact ((sup_lim FT SM).le (n + 1)).ex ro c ts ds s r hn

end
end Go.Proofs.Ytjejgnbdlfkenaa.D
