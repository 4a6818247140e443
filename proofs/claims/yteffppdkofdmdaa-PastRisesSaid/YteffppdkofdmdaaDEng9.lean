/- The abstract machine's functions are the model's. -/
import Derived.Test.YteffppdkofdmdaaDEng8
namespace Go.Proofs.Yteffppdkofdmdaa.D
variable {P : Program}

theorem prepF_spec {fn : Func} {fd : FD} (h : prepF P fn = some fd) : ∃ c, fn.body = some c ∧ prepC P c = some fd.body ∧ prepRess P fn.results.toList = some fd.results ∧ (fn.name == "runtime.NumGoroutine") = false ∧
    okPC fn.ntmps fd.body = true ∧ fd.ntmps = fn.ntmps := by
  unfold prepF at h
  split at h
  case h_1 => cases h
  rename_i c hc
  split at h
  case h_1 => cases h
  rename_i b hb
  split at h
  case h_1 => cases h
  rename_i r hr
  split at h
  case isTrue => cases h
  rename_i hcond
  cases h
  simp only [Bool.or_eq_true, not_or, Bool.not_eq_true, Bool.not_eq_eq_eq_not, Bool.not_true] at hcond
  obtain ⟨h1, h2⟩ := hcond
  exact ⟨c, hc, hb, hr, h1, by simpa using h2, rfl⟩

theorem initT_get : ∀ (l : List AV) (i : Nat) (ts : Tr AV) (t : Nat), (initT i l ts).get t = if i ≤ t ∧ t < i + l.length then l[t - i]? else ts.get t
  | [], i, ts, t => by simp only [initT, List.length_nil, Nat.add_zero]; rw [if_neg (by omega)]
  | v :: l, i, ts, t => by
    simp only [initT]
    rw [initT_get l (i + 1)]
    simp only [List.length_cons]
    by_cases h1 : i + 1 ≤ t ∧ t < i + 1 + l.length
    · rw [if_pos h1, if_pos (by omega), show t - i = (t - (i + 1)) + 1 by omega, List.getElem?_cons_succ]
    · rw [if_neg h1, Tr.get_set]
      by_cases h2 : t = i
      · subst h2
        rw [if_pos rfl, if_pos (by omega)]; simp
      · rw [if_neg h2, if_neg (by omega)]

theorem TR.init {μ : Place} {args : List AV} {cs : List Value} (h : concs μ args = some cs) (n : Nat) : TR μ (initT 0 args .lf) (cs.toArray ++ Array.replicate n undef) := by
  intro t v hv
  rw [initT_get] at hv
  have hl := concs_length h
  by_cases h1 : 0 ≤ t ∧ t < 0 + args.length
  · rw [if_pos h1, Nat.sub_zero] at hv
    obtain ⟨x, hx, hc⟩ := concs_get h t v hv
    refine ⟨x, ?_, hc⟩
    rw [Array.getElem?_append_left (by simp; omega)]
    simpa using hx
  · rw [if_neg h1] at hv
    rw [Tr.get_lf] at hv; cases hv

def resOne (tmps : Array Value) : ResultVar → Sem Value
  | .tmp t => pure (tmps.getD t undef)
  | .cell a t => do loadVar t (← asAddr (tmps.getD a undef))

theorem run_res {R : Nat} {μ : Place} {s : St} {w : World} (h : HR P R μ s w) {ts : Tr AV} {tmps : Array Value} (ht : TR μ ts tmps) : ∀ {rs : List ResultVar} {ps : List PRes} {l : List AV}, prepRess P rs = some ps → ressA ts s ps = some l →
    ∃ cs, (rs.mapM (resOne tmps)).run P w = .ok cs w ∧ concs μ l = some cs
  | [], ps, l, hp, hl => by
    cases hp; cases hl
    exact ⟨[], by simp, rfl⟩
  | r :: rs, ps, l, hp, hl => by
    simp only [prepRess] at hp
    split at hp
    case h_2 => cases hp
    rename_i x hx
    split at hp
    case h_2 => cases hp
    rename_i y hy
    cases hp
    simp only [ressA] at hl
    split at hl
    case h_1 => cases hl
    rename_i v hv
    split at hl
    case h_1 => cases hl
    rename_i vs hvs
    cases hl
    obtain ⟨cs, h1, h2⟩ := run_res h ht hy hvs
    have one : ∃ c, (resOne tmps r).run P w = .ok c w ∧ conc μ v = some c := by
      cases r with
      | tmp t =>
        simp only [prepRes, Option.some.injEq] at hx
        subst hx
        obtain ⟨c, g1, g2⟩ := ht t v hv
        refine ⟨c, ?_, g2⟩
        simp [resOne, g1]
      | cell a t =>
        simp only [prepRes] at hx
        split at hx
        case h_3 => cases hx
        · rename_i n hag hsz
          cases hx
          simp only [resA] at hv
          split at hv
          case h_2 => cases hv
          rename_i b o htb
          split at hv
          case h_2 => cases hv
          rename_i l' hl'
          cases hv
          obtain ⟨c, g1, g2⟩ := ht a _ htb
          obtain ⟨p, hp, rfl⟩ := isSome_of_conc_ptr g2
          obtain ⟨xs, k1, k2, k3⟩ := run_loadA (P := P) h hl' hp
          refine ⟨.agg xs.toArray, ?_, by simp [conc, k1]⟩
          have hg : tmps.getD a undef = .pointer (some ⟨p.1, o, none⟩) := by simp [g1]
          simp [resOne, hg, asAddr, loadVar, run_isAgg hag, run_size hsz, k3]
        · rename_i hag
          cases hx
          simp only [resA] at hv
          split at hv
          case h_2 => cases hv
          rename_i b o htb
          split at hv
          case h_2 => cases hv
          rename_i vs' _ _ _ hg
          obtain ⟨c, g1, g2⟩ := ht a _ htb
          obtain ⟨p, hp, rfl⟩ := isSome_of_conc_ptr g2
          obtain ⟨x, k1, k2⟩ := h.cell hg hp hv
          refine ⟨x, ?_, k2⟩
          have hg : tmps.getD a undef = .pointer (some ⟨p.1, o, none⟩) := by simp [g1]
          simp [resOne, hg, asAddr, loadVar, run_isAgg hag, run_load, k1]
    obtain ⟨c, g1, g2⟩ := one
    refine ⟨c :: cs, ?_, by simp [concs, g2, h2]⟩
    rw [List.mapM_cons, Sem.run_bind, g1, Result.andThen_ok, Sem.run_bind, h1, Result.andThen_ok, Sem.run_pure]

theorem run_results {R : Nat} {μ : Place} {s : St} {w : World} (h : HR P R μ s w) {fn : Func} {ts : Tr AV} {tmps : Array Value} (ht : TR μ ts tmps) {ps : List PRes} {l : List AV} (hp : prepRess P fn.results.toList = some ps) (hl : ressA ts s ps = some l) :
    ∃ c, (results fn tmps).run P w = .ok c w ∧ conc μ (oneA l) = some c := by
  obtain ⟨cs, h1, h2⟩ := run_res h ht hp hl
  have hlen := concs_length h2
  have er : results fn tmps = (do let vs ← fn.results.mapM (resOne tmps); pure (if h : vs.size = 1 then vs[0] else .tuple vs)) := by
    unfold results
    rfl
  rw [er, Array.mapM_eq_mapM_toList, Sem.run_bind, Sem.run_map]
  rw [h1]
  refine ⟨if h : cs.toArray.size = 1 then cs.toArray[0] else .tuple cs.toArray, rfl, ?_⟩
  match l, cs, h2, hlen with
  | [], [], _, _ => simp [oneA, conc, concs]
  | [v], [c], h2, _ =>
    simp only [concs, Option.bind_eq_some_iff, Option.map_eq_some_iff, Option.some.injEq] at h2
    obtain ⟨x, hx, y, rfl, e⟩ := h2
    cases e
    simpa [oneA] using hx
  | v :: u :: l, c :: d :: cs, h2, _ =>
    simp [oneA, conc, h2]
  | [], _ :: _, _, h => simp at h
  | [_], [], _, h => simp at h
  | [_], _ :: _ :: _, _, h => simp at h
  | _ :: _ :: _, [], _, h => simp at h
  | _ :: _ :: _, [_], _, h => simp at h

theorem leaves_sound {fn : Func} {tmps : Array Value} {n : Nat} {Rp : Ending → World → Prop} {R : Nat} : ∀ {ds : List Nat} {defers : List Deferred} {s s' : St} {w : World} {μ : Place}, takeAll ds s = some s' → s.next ≤ R → HR P R μ s w → DR μ ds defers →
    (∀ w', HR P R μ s' w' → Mv μ s w μ s' w' → ∃ v, (results fn tmps).run P w' = .ok v w' ∧ Rp (.returned v) w') → LeavesInM Fence.wide n P fn tmps Rp defers .returning w
  | [], [], s, s', w, μ, hx, hR, h, _, hf => by
    cases hx
    exact hf w h (Mv.refl h hR)
  | [], _ :: _, _, _, _, _, _, _, _, hd, _ => hd.elim
  | _ :: _, [], _, _, _, _, _, _, _, hd, _ => hd.elim
  | d :: ds, x :: xs, s, s', w, μ, hx, hR, h, hd, hf => by
    simp only [takeAll] at hx
    split at hx
    case h_2 => cases hx
    rename_i hg
    obtain ⟨⟨p, hp, rfl⟩, hd'⟩ := hd
    obtain ⟨p', hp', ho⟩ := h.obj _ _ hg
    rw [hp] at hp'; cases hp'
    have hob : w.heap[p.1]? = some (.deferred (some [])) := ho
    obtain ⟨g1, g2⟩ := h.shut (w' := w.putObj p.1 (.deferred none)) hR hg hp (by simp) rfl rfl rfl (by simp) (fun k hk => World.putObj_heap_other hk)
    refine ⟨by simp, .inl ⟨p.1, _, rfl, run_takeDeferred hob, leaves_sound hx hR g1 hd' ?_⟩⟩
    intro w' k1 k2
    exact hf w' k1 (g2.trans k2)

/-- What is known of functions by their contracts holds. -/
def SumsOk (P : Program) (SM : Sums) : Prop := ∀ f g, SM f = some g → ∀ {args s v s' R μ w cargs}, g args s = some (v, s') → s'.next ≤ R → HR P R μ s w → concs μ args = some cargs →
    (∃ fn, P.funcs[f]? = some fn ∧ fn.body.isNone = false ∧ (fn.name == "runtime.NumGoroutine") = false) ∧ ∀ n, CallsIn Fence.wide n P f cargs.toArray w (Rets P R μ s w v s')

def FnsOk (P : Program) (FT : Fns) : Prop := ∀ f fd, FT f = some fd → ∃ fn, P.funcs[f]? = some fn ∧ prepF P fn = some fd

theorem callStep_sound {FT : Fns} {SM : Sums} (hFT : FnsOk P FT) (hSM : SumsOk P SM) {e : Eng} (hE : EngOk P e) {f : Nat} {args : List AV} {s s' : St} {v : AV} (hx : callStep FT SM e f args s = some (v, s')) {R : Nat} (hR : s'.next ≤ R) {μ : Place} {w : World} (h : HR P R μ s w)
    {cargs : List Value} (hc : concs μ args = some cargs) :
    (∃ fn, P.funcs[f]? = some fn ∧ fn.body.isNone = false ∧ (fn.name == "runtime.NumGoroutine") = false) ∧ ∀ n, CallsIn Fence.wide n P f cargs.toArray w (Rets P R μ s w v s') := by
  unfold callStep at hx
  split at hx
  · exact hSM _ _ (by assumption) hx hR h hc
  · split at hx
    case h_1 => cases hx
    rename_i fd hfd
    obtain ⟨fn, hf, hp⟩ := hFT _ _ hfd
    obtain ⟨c, hb, hpc, hpr, hname, hok, hnp⟩ := prepF_spec hp
    split at hx
    case isFalse => cases hx
    rename_i hlen
    refine ⟨⟨fn, hf, by rw [hb]; rfl, hname⟩, fun n => ?_⟩
    unfold finish at hx
    split at hx
    case h_1 => cases hx
    case h_3 => cases hx
    rename_i x ts ds s1 hne hrun
    split at hx
    case h_1 => cases hx
    rename_i s2 htk
    split at hx
    case h_1 => cases hx
    rename_i l hl
    cases hx
    have hn := takeAll_next htk
    have hcl := concs_length hc
    have hle := Nat.le_of_ble_eq_true hlen
    have hsz : (cargs.toArray ++ Array.replicate (fn.ntmps - cargs.toArray.size) undef).size = fn.ntmps := by
      simp; omega
    refine callsIn_of_wp_marks hf hb trivial ?_
    refine wpIn_mono (hE.ex (R := R) (N := fn.ntmps) (a := { tmps := _, defers := [] }) (F := Fence.wide) hrun (by omega) h hpc hok (TR.init hc _) hsz (show DR μ [] ([] : List Deferred) from trivial) rfl n) ?_
    rintro ex a1 w1 ⟨rfl, ν, g1, g2, g3, g4, g5⟩
    have leave : LeavesInM Fence.wide n P fn a1.tmps (Rets P R μ s w (oneA l) s') a1.defers .returning w1 := by
      refine leaves_sound htk (by omega) g4 g3 fun w' k1 k2 => ?_
      obtain ⟨cv, r1, r2⟩ := run_results k1 g1 hpr hl
      exact ⟨cv, r1, ν, r2, k1, g5.trans k2⟩
    cases x with
    | normal => exact leave
    | ret => exact leave
    | exit id => exact (hne _ rfl).elim

theorem eng_sound {FT : Fns} {SM : Sums} (hm : P.follows .mixedOrders = true) (hFT : FnsOk P FT) (hSM : SumsOk P SM) (hSN : SumsNext SM) : ∀ n, EngOk P (eng FT SM n)
  | 0 => ⟨eng_next hSN 0, fun h => (by cases h), fun h => (by cases h), fun h => (by cases h)⟩
  | n + 1 => ⟨eng_next hSN (n + 1), fun h hR hr hc => callStep_sound hFT hSM (eng_sound hm hFT hSM hSN n) h hR hr hc,
      fun h hR hr hp hok ht hN hd hF k => exStep_sound (eng_sound hm hFT hSM hSN n) hm h hR hr hp hok ht hN hd hF k,
      fun h hR hr hp hok ht hN hd hF k => loop_sound (eng_sound hm hFT hSM hSN n) h hR hr hp hok ht hN hd hF k⟩

def noSums : Sums := fun _ => none
theorem noSums_ok : SumsOk P noSums := fun _ _ h => by cases h
theorem noSums_next : SumsNext noSums := fun _ _ _ _ _ _ h => by cases h
end Go.Proofs.Yteffppdkofdmdaa.D
