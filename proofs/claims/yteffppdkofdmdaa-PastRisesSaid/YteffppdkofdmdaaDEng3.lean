/- A region in its order. -/
import Derived.Test.YteffppdkofdmdaaDEng2
namespace Go.Proofs.Yteffppdkofdmdaa.D
variable {P : Program}

theorem evR_of {μ : Place} {ts : Tr AV} {a : Act} (hg : TR μ ts a.tmps) : EvR μ (evOf ts) a.eval := by
  intro y x v hy hv
  cases y with
  | tmp t =>
    simp only [prepX, Option.some.injEq] at hy
    subst hy
    obtain ⟨c, h1, h2⟩ := hg t v hv
    rw [h2]
    simp [Act.eval, h1]
  | const u =>
    simp only [prepX, Option.map_eq_some_iff] at hy
    obtain ⟨b, hb, rfl⟩ := hy
    simp only [evOf, Option.some.injEq] at hv
    subst hv
    exact absV_conc hb μ
  | func f =>
    simp only [prepX, Option.some.injEq] at hy
    subst hy
    simp only [evOf, Option.some.injEq] at hv
    subst hv
    simp [conc, Fn.plain, concs, Act.eval]
  | global g => cases hy

theorem prepPO_op {ops : List Oper} {o : Oper} {p : PO} (h : prepPO P ops o = some p) : (prepOp P o).getD .fail = p.op ∧ p.dst = o.dst := by
  unfold prepPO at h
  split at h
  · cases h; exact ⟨rfl, rfl⟩
  · split at h <;> cases h
    exact ⟨rfl, rfl⟩

theorem TR.putT {μ : Place} {ts : Tr AV} {a : Act} (h : TR μ ts a.tmps) {d : Option Nat} (hd : ∀ t, d = some t → t < a.tmps.size) {v : AV} {c : Value} (hc : conc μ v = some c) : TR μ (putT d v ts) (a.put d c).tmps := by
  cases d with
  | none => exact h
  | some t => exact h.put (hd t rfl) hc

theorem put_size (a : Act) (d : Option Nat) (c : Value) : (a.put d c).tmps.size = a.tmps.size := by
  cases d <;> simp [Act.put]
theorem put_defers (a : Act) (d : Option Nat) (c : Value) : (a.put d c).defers = a.defers := by
  cases d <;> rfl

theorem conc_undef (μ : Place) : conc μ undefA = some undef := by simp [undefA, conc, concs, undef]

theorem ops_wpIn {e : Eng} (hE : EngOk P e) {ops : Array Oper} {R N : Nat} {ds : List Nat} {ro : Option Nat} {F : Fence} {n : Nat} {Q : Exit → Act → World → Prop} {ts' : Tr AV} {s' : St} :
    ∀ (rest : List Oper) (ps : List PO) (k : Nat) (a : Act) (ts : Tr AV) (s : St) (w : World) (μ : Place), prepPOs P ops.toList rest = some ps → (∀ i, rest[i]? = ops[k + i]?) → runOps e ps ts s = some (ts', s') → s'.next ≤ R → HR P R μ s w →
      TR μ ts a.tmps → a.tmps.size = N → okPOs N ps = true → DR μ ds a.defers → FenceOk μ ro F →
      (∀ ν a' w', TR ν ts' a'.tmps → a'.tmps.size = N → DR ν ds a'.defers → HR P R ν s' w' → Mv μ s w ν s' w' → Q .normal a' w') → wpOpsIn F n P ops Q (List.range' k rest.length) a w := by
  intro rest
  induction rest with
  | nil =>
    intro ps k a ts s w μ hp _ hx hR h ht hN _ hd hF hQ
    cases hp
    cases hx
    exact hQ μ a w ht hN hd h (Mv.refl h hR)
  | cons o rest ih =>
    intro ps k a ts s w μ hp hi hx hR h ht hN hok hd hF hQ
    simp only [prepPOs] at hp
    split at hp
    case h_2 => cases hp
    rename_i p hp1
    split at hp
    case h_2 => cases hp
    rename_i l hp2
    cases hp
    simp only [runOps] at hx
    split at hx
    case h_1 => cases hx
    rename_i ts1 s1 hs
    have n1 := opStep_next hE.next hs
    have n2 := runOps_next hE.next hx
    have hok1 : okPOs N l = true := by simp only [okPOs, Bool.and_eq_true] at hok; exact hok.2
    have hdst : ∀ t, o.dst = some t → t < a.tmps.size := by
      intro t e'
      obtain ⟨_, e2⟩ := prepPO_op hp1
      simp only [okPOs, Bool.and_eq_true] at hok
      have := hok.1
      rw [e2, e'] at this
      rw [hN]
      simpa using this
    have hk : ops[k]? = some o := by have := hi 0; simpa using this.symm
    have hi' : ∀ i, rest[i]? = ops[k + 1 + i]? := by
      intro i
      have := hi (i + 1)
      rw [List.getElem?_cons_succ] at this
      rw [this]; congr 1; omega
    have hops : ops = ops.toList.toArray := by simp
    obtain ⟨e1, e2⟩ := prepPO_op hp1
    simp only [List.length_cons, List.range'_succ, wpOpsIn, hk]
    unfold opStep at hs
    split at hs
    case h_1 => cases hs
    · rename_i hw
      cases hs
      have := wanted_of hp1 hw (μ := μ) (tmps := a.tmps) (fun t _ _ v hv => ht t v hv)
      rw [← hops] at this
      rw [this]
      simp only [Bool.false_eq_true, if_false]
      refine ⟨fun f _ => hF.fn f, ?_⟩
      refine ih l (k + 1) _ _ s w μ hp2 hi' hx hR h ?_ (by rw [put_size]; exact hN) hok1 (by rw [put_defers]; exact hd) hF hQ
      rw [e2]
      exact ht.putT hdst (conc_undef μ)
    · rename_i hw
      split at hs
      case h_1 => cases hs
      rename_i v s2 hv
      cases hs
      have := wanted_of hp1 hw (μ := μ) (tmps := a.tmps) (fun t _ _ v hv => ht t v hv)
      rw [← hops] at this
      rw [this]
      simp only [if_true]
      refine opVal_wpIn hE e1 hv (by omega) h (evR_of ht) hF ?_ n
      intro ν c w1 h1 h2 h3
      refine ih l (k + 1) _ _ s1 w1 ν hp2 hi' hx hR h2 ?_ (by rw [put_size]; exact hN) hok1 (by rw [put_defers]; exact hd.mono h3.le) (hF.mono h3.le) ?_
      · rw [e2]
        exact (ht.mono h3.le).putT hdst h1
      · intro ξ a' w' u1 u2 u3 u4 u5
        exact hQ ξ a' w' u1 u2 u3 u4 (h3.trans u5)
end Go.Proofs.Yteffppdkofdmdaa.D
