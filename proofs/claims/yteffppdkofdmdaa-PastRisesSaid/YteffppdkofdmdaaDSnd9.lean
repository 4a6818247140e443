/- The operations of the abstract machine do what the model's do: what is built in, and maps. -/
import Derived.Test.YteffppdkofdmdaaDSnd8
namespace Go.Proofs.Yteffppdkofdmdaa.D
variable {P : Program} {R : Nat} {μ : Place} {s : St} {w : World} {ev : Ev} {ρ : Operand → Value} {o : Oper} {p : POp} {v : AV} {s' : St}

/-- A map's entries. -/
theorem HR.mapAt {μ : Place} {s : St} {w : World} (h : HR P R μ s w) {r : Nat} {es : List (AV × AV × Nat)} {cl : Nat} (hg : s.get r = some (.map es cl)) {q : Nat × Nat} (hq : μ r = some q) :
    ∃ ces : Array MapEntry, w.heap[q.1]? = some (.map ces cl) ∧ entriesR μ es ces.toList := by
  obtain ⟨q', hq', ces, h1, h2⟩ := h.obj _ _ hg
  rw [hq] at hq'; cases hq'
  exact ⟨ces, h1, h2⟩

theorem run_getMap {r : Nat} {ces : Array MapEntry} {cl : Nat} (h : w.heap[r]? = some (.map ces cl)) : (getObj r).run P w = .ok (.map ces cl) w := by
  simp only [getObj, Sem.run, h]

theorem run_setMap {r : Nat} {ces : Array MapEntry} {cl : Nat} (h : w.heap[r]? = some (.map ces cl)) (O : Obj) : (setObj r O).run P w = .ok () { w with heap := w.heap.setIfInBounds r O } := by
  simp only [setObj, Sem.run, h]

theorem setObj_turn {μ : Place} {s : St} {w : World} (h : HR P R μ s w) (hR : s.next ≤ R) {r : Nat} {es : List (AV × AV × Nat)} {cl : Nat} (hg : s.get r = some (.map es cl)) {q : Nat × Nat} (hq : μ r = some q) {es' : List (AV × AV × Nat)} {ces' : Array MapEntry} {cl' : Nat}
    (he : entriesR μ es' ces'.toList) : HR P R μ (s.put r (.map es' cl')) { w with heap := w.heap.setIfInBounds q.1 (.map ces' cl') } ∧ Mv μ s w μ (s.put r (.map es' cl')) { w with heap := w.heap.setIfInBounds q.1 (.map ces' cl') } := by
  obtain ⟨ces, h1, _⟩ := h.mapAt hg hq
  have hlt := (Array.getElem?_eq_some_iff.1 h1).1
  refine h.turn hR hg hq (by simp) ⟨ces', ?_, he⟩ rfl rfl rfl (by simp) ?_
  · show (w.heap.setIfInBounds q.1 (.map ces' cl'))[q.1]? = _
    simp [hlt]
  · intro k hk
    show (w.heap.setIfInBounds q.1 (.map ces' cl'))[k]? = _
    rw [Array.getElem?_setIfInBounds_ne (Ne.symm hk)]

/-- A key among entries. -/
theorem findA_run {kk : IntKind} {a : Int} : ∀ {es : List (AV × AV × Nat)} {ces : List MapEntry} {i : Nat} {r : Option (Nat × AV)}, entriesR μ es ces → findA kk a es i = some r → ∀ (k0 : IntKind),
    ∃ cr, Instr.findNow (.int k0) (.int kk a) ces i = some cr ∧ (match r, cr with
      | none, none => True
      | some (j, v), some (j', c) => j = j' ∧ conc μ v = some c ∧ i ≤ j ∧ ∃ e, ces[j - i]? = some e ∧ e.key = .int kk a ∧ ∃ x, es[j - i]? = some x ∧ x.1 = .int kk a
      | _, _ => False)
  | [], [], i, r, _, h, k0 => by simp only [findA, Option.some.injEq] at h; subst h; exact ⟨none, rfl, trivial⟩
  | (key, v', n) :: es, y :: ces, i, r, he, h, k0 => by
    obtain ⟨⟨h1, h2, h3⟩, h4⟩ := he
    cases key with
    | int k' b =>
      simp only [findA] at h
      split at h
      case isFalse => cases h
      rename_i hkk
      subst hkk
      have hk := conc_int h1
      split at h
      · rename_i hab
        cases h
        have hab' : a = b := by simpa using hab
        refine ⟨some (i, y.val), ?_, rfl, h2, Nat.le_refl _, y, by simp, by rw [hk, hab'], (.int kk b, v', n), by simp, by rw [hab']⟩
        simp [Instr.findNow, hk, Instr.sameNow, hab']
      · rename_i hab
        obtain ⟨cr, hc1, hc2⟩ := findA_run h4 h k0
        refine ⟨cr, ?_, ?_⟩
        · have hab' : (a == b) = false := by simpa using hab
          simp only [Instr.findNow, hk, Instr.sameNow, if_true, hab']
          exact hc1
        · cases r with
          | none => cases cr with
            | none => trivial
            | some _ => exact hc2.elim
          | some jv => cases cr with
            | none => exact hc2.elim
            | some jc =>
              obtain ⟨j, v⟩ := jv
              obtain ⟨j', c⟩ := jc
              obtain ⟨rfl, hv, hij, e, he1, he2, x, hx1, hx2⟩ := hc2
              refine ⟨rfl, hv, by omega, e, ?_, he2, x, ?_, hx2⟩
              · rw [show j - i = (j - (i + 1)) + 1 by omega]; simpa using he1
              · rw [show j - i = (j - (i + 1)) + 1 by omega]; simpa using hx1
    | _ => simp [findA] at h
  | [], _ :: _, _, _, he, _, _ => he.elim
  | _ :: _, [], _, _, he, _, _ => he.elim

theorem isIntKey_some {t : TypeId} (h : isIntKey P t = true) : ∃ k, P.underlying t = some (.int k) := by
  unfold isIntKey at h
  split at h
  · rename_i k hk; exact ⟨k, hk⟩
  · cases h

theorem run_checkKey {t : TypeId} {k : IntKind} (hu : P.underlying t = some (.int k)) (b : Bool) (n : Nat) (v : Value) (w : World) : (Instr.checkKey b (n + 1) t v).run P w = .ok () w := by
  simp only [Instr.checkKey, Sem.run_bind, run_und hu, Result.andThen_ok]
  cases v <;> rfl

theorem run_findKey {t : TypeId} {k : IntKind} (hu : P.underlying t = some (.int k)) {kk : IntKind} {a : Int} {es : List (AV × AV × Nat)} {ces : List MapEntry} {r : Option (Nat × AV)} (he : entriesR μ es ces) (hf : findA kk a es 0 = some r) (w : World) :
    ∃ cr, (Instr.findKey t (.int kk a) ces).run P w = .ok cr w ∧ (match r, cr with
      | none, none => True
      | some (j, v), some (j', c) => j = j' ∧ conc μ v = some c ∧ ∃ e, ces[j]? = some e ∧ e.key = .int kk a ∧ ∃ x, es[j]? = some x ∧ x.1 = .int kk a
      | _, _ => False) := by
  obtain ⟨cr, h1, h2⟩ := findA_run he hf k
  refine ⟨cr, by simp [Instr.findKey, run_und hu, h1], ?_⟩
  cases r with
  | none => cases cr with
    | none => trivial
    | some _ => exact h2.elim
  | some jv => cases cr with
    | none => exact h2.elim
    | some jc => obtain ⟨j, v⟩ := jv; obtain ⟨j', c⟩ := jc; obtain ⟨h3, h4, h5, h6⟩ := h2; exact ⟨h3, h4, by simpa using h6⟩

theorem snd_lookup {t : TypeId} {x y : Operand} {ok : Bool} (ho : o.op = .lookup t x y ok) (hp : prepOp P o = some p) (h : HR P R μ s w) (hρ : EvR μ ev ρ) (hx : xop p ev s = some (v, s')) (hR : s'.next ≤ R) : Snd P R μ s w (execOp ρ o) v s' := by
  simp only [prepOp, ho] at hp
  split at hp
  case h_2 => cases hp
  rename_i kt e hu
  split at hp
  case isFalse => cases hp
  rename_i hkt
  obtain ⟨kk0, hkt⟩ := isIntKey_some hkt
  split at hp <;> cases hp
  rename_i z m k hz hm hk
  obtain ⟨zv, hzr, hzc⟩ := zeroV_some hz
  simp only [xop] at hx
  split at hx
  case h_3 => cases hx
  · rename_i kk a hmv hkv
    cases hx
    have hr : ρ x = .map none := by simpa [conc] using (hρ _ _ _ hm hmv).symm
    have hri := conc_int (hρ _ _ _ hk hkv)
    refine Snd.pure h hR (c := if ok then .tuple #[zv, .bool false] else zv) ?_ (by cases ok <;> simp [conc, concs, hzc])
    simp [execOp, ho, Instr.lookup, run_und hu, hr, run_checkKey hkt, Instr.findKey, run_und hkt, Instr.findNow, hzr]
  · rename_i r kk a hmv hkv
    split at hx
    case h_2 => cases hx
    rename_i es cl hg
    obtain ⟨q, hq, hr⟩ := conc_map (hρ _ _ _ hm hmv)
    have hri := conc_int (hρ _ _ _ hk hkv)
    obtain ⟨ces, hh, he⟩ := h.mapAt hg hq
    split at hx <;> cases hx
    · rename_i j v' hf
      obtain ⟨cr, hrun, hcr⟩ := run_findKey hkt he hf w
      cases cr with
      | none => exact hcr.elim
      | some jc =>
        obtain ⟨j', c⟩ := jc
        obtain ⟨rfl, hv, _⟩ := hcr
        refine Snd.pure h hR (c := if ok then .tuple #[c, .bool true] else c) ?_ (by cases ok <;> simp [conc, concs, hv])
        simp [execOp, ho, Instr.lookup, run_und hu, hr, run_getMap hh, run_checkKey hkt, hri, hrun]
    · rename_i hf
      obtain ⟨cr, hrun, hcr⟩ := run_findKey hkt he hf w
      cases cr with
      | some _ => exact hcr.elim
      | none =>
        refine Snd.pure h hR (c := if ok then .tuple #[zv, .bool false] else zv) ?_ (by cases ok <;> simp [conc, concs, hzc])
        simp [execOp, ho, Instr.lookup, run_und hu, hr, run_getMap hh, run_checkKey hkt, hri, hrun, hzr]

theorem entriesR_modify : ∀ {es : List (AV × AV × Nat)} {ces : List MapEntry} (_ : entriesR μ es ces) (j : Nat) {k v : AV} {ck cv : Value} (_ : conc μ k = some ck) (_ : conc μ v = some cv),
    entriesR μ (es.modify j fun e => (k, v, e.2.2)) (ces.modify j fun e => { e with key := ck, val := cv })
  | [], [], _, j, _, _, _, _, _, _ => by simp [entriesR]
  | x :: es, y :: ces, h, 0, k, v, ck, cv, hk, hv => ⟨⟨hk, hv, h.1.2.2⟩, h.2⟩
  | x :: es, y :: ces, h, j + 1, k, v, ck, cv, hk, hv => by
    simp only [List.modify_succ_cons]
    exact ⟨h.1, entriesR_modify h.2 j hk hv⟩
  | [], _ :: _, h, _, _, _, _, _, _, _ => h.elim
  | _ :: _, [], h, _, _, _, _, _, _, _ => h.elim

theorem entriesR_append : ∀ {es fs : List (AV × AV × Nat)} {ces cfs : List MapEntry} (_ : entriesR μ es ces) (_ : entriesR μ fs cfs), entriesR μ (es ++ fs) (ces ++ cfs)
  | [], _, [], _, _, k => k
  | _ :: _, _, _ :: _, _, h, k => ⟨h.1, entriesR_append h.2 k⟩
  | [], _, _ :: _, _, h, _ => h.elim
  | _ :: _, _, [], _, h, _ => h.elim

theorem entriesR_erase : ∀ {es : List (AV × AV × Nat)} {ces : List MapEntry} (_ : entriesR μ es ces) (j : Nat), entriesR μ (es.eraseIdx j) (ces.eraseIdx j)
  | [], [], _, _ => by simp [entriesR]
  | _ :: _, _ :: _, h, 0 => h.2
  | _ :: _, _ :: _, h, j + 1 => ⟨h.1, entriesR_erase h.2 j⟩
  | [], _ :: _, h, _ => h.elim
  | _ :: _, [], h, _ => h.elim

theorem entriesR_length : ∀ {es : List (AV × AV × Nat)} {ces : List MapEntry}, entriesR μ es ces → ces.length = es.length
  | [], [], _ => rfl
  | _ :: _, _ :: _, h => by simp [entriesR_length h.2]
  | [], _ :: _, h => h.elim
  | _ :: _, [], h => h.elim

theorem snd_mapUpdate {t : TypeId} {x y z : Operand} (ho : o.op = .mapUpdate t x y z) (hp : prepOp P o = some p) (h : HR P R μ s w) (hρ : EvR μ ev ρ) (hx : xop p ev s = some (v, s')) (hR : s'.next ≤ R) : Snd P R μ s w (execOp ρ o) v s' := by
  simp only [prepOp, ho] at hp
  split at hp
  case h_2 => cases hp
  rename_i kt e hu
  split at hp
  case isFalse => cases hp
  rename_i hkt
  obtain ⟨kk0, hkt⟩ := isIntKey_some hkt
  split at hp <;> cases hp
  rename_i m k vv hm hk hv
  simp only [xop] at hx
  split at hx
  case h_2 => cases hx
  rename_i r kk a u hmv hkv huv
  split at hx
  case h_2 => cases hx
  rename_i es cl hg
  obtain ⟨q, hq, hr⟩ := conc_map (hρ _ _ _ hm hmv)
  have hri := conc_int (hρ _ _ _ hk hkv)
  have hcv := hρ _ _ _ hv huv
  obtain ⟨ces, hh, he⟩ := h.mapAt hg hq
  split at hx <;> cases hx
  · rename_i j v' hf
    obtain ⟨cr, hrun, hcr⟩ := run_findKey hkt he hf w
    cases cr with
    | none => exact hcr.elim
    | some jc =>
      obtain ⟨j', c⟩ := jc
      obtain ⟨rfl, _, ee, hee, hkey, _⟩ := hcr
      have hee' : ces[j]? = some ee := by simpa using hee
      obtain ⟨h1, h2⟩ := setObj_turn (cl' := cl) h hR hg hq (es' := es.modify j fun e => (.int kk a, u, e.2.2)) (ces' := ces.modify j fun e => { e with key := .int kk a, val := ρ z })
        (by rw [Array.toList_modify]; exact entriesR_modify he j (show conc μ (.int kk a) = some (.int kk a) from rfl) hcv)
      refine ⟨μ, undef, _, .inr ⟨?_, rfl⟩, rfl, h1, h2⟩
      have hstay : (Instr.keyThatStays (.int kk a) (.int kk a)).run P w = .ok (.int kk a) w := by simp [Instr.keyThatStays, Instr.sameBits]
      simp [execOp, ho, Instr.mapUpdate, run_und hu, hr, run_getMap hh, run_checkKey hkt, hri, hrun, hee', hkey, hstay, run_setMap hh]
  · rename_i hf
    obtain ⟨cr, hrun, hcr⟩ := run_findKey hkt he hf w
    cases cr with
    | some _ => exact hcr.elim
    | none =>
      obtain ⟨h1, h2⟩ := setObj_turn (cl' := cl + 1) h hR hg hq (es' := es ++ [(.int kk a, u, cl)]) (ces' := ces.push { key := .int kk a, val := ρ z, born := cl })
        (by rw [Array.toList_push]; exact entriesR_append he ⟨⟨rfl, hcv, rfl⟩, trivial⟩)
      refine ⟨μ, undef, _, .inr ⟨?_, rfl⟩, rfl, h1, h2⟩
      simp [execOp, ho, Instr.mapUpdate, run_und hu, hr, run_getMap hh, run_checkKey hkt, hri, hrun, run_setMap hh]
end Go.Proofs.Yteffppdkofdmdaa.D
