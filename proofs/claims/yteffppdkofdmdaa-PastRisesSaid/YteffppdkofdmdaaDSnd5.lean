/- The operations of the abstract machine do what the model's do: slice expressions, conversions, numbers. -/
import Derived.Test.YteffppdkofdmdaaDSnd4
namespace Go.Proofs.Yteffppdkofdmdaa.D
variable {P : Program} {R : Nat} {μ : Place} {s : St} {w : World} {ev : Ev} {ρ : Operand → Value} {o : Oper} {p : POp} {v : AV} {s' : St}

theorem isZero_bound {x : Option AV} (h : isZero x = true) {c : Option Value} (hc : OptV μ x c) (y : Nat) (code : BoundsCode) (w : World) :
    (match c with | some v => Instr.sliceBound v y code | none => pure 0).run P w = .ok 0 w := by
  cases x with
  | none => cases c with
    | none => rfl
    | some _ => exact hc.elim
  | some v => cases c with
    | none => exact hc.elim
    | some c =>
      cases v <;> simp [isZero] at h
      have := conc_int hc
      subst this
      subst h
      simp [Instr.sliceBound, asIntOf]

theorem snd_slice {t : TypeId} {x : Operand} {lo hi mx : Option Operand} (ho : o.op = .slice t x lo hi mx) (hp : prepOp P o = some p) (h : HR P R μ s w) (hρ : EvR μ ev ρ) (hx : xop p ev s = some (v, s')) (hR : s'.next ≤ R) : Snd P R μ s w (execOp ρ o) v s' := by
  simp only [prepOp, ho] at hp
  split at hp
  case h_5 => cases hp
  · -- a string
    rename_i a lo' hi' hu ha hlo hhi hmx
    cases hp
    simp only [xop] at hx
    split at hx
    case h_2 => cases hx
    rename_i sv vlo vhi hav hvlo hvhi
    split at hx <;> cases hx
    rename_i l hh _ hb
    have hmx' : mx = none := by
      cases mx with
      | none => rfl
      | some y => simp [optX] at hmx
    subst hmx'
    obtain ⟨hrun, hll, hhm, hmc, hme, hhe⟩ := run_bounds (P := P) (cap' := sv.size) (cmx := none) hb (evO_conc hlo hρ hvlo) (evO_conc hhi hρ hvhi) trivial (Nat.le_refl _) false w
    have hr := conc_str (hρ _ _ _ ha hav)
    refine Snd.pure h hR (c := .string (sv.extract l hh)) ?_ rfl
    simp [execOp, ho, Instr.sliceAt, run_und hu, hr, Instr.slice, hrun]
  · -- a slice
    rename_i e a lo' hi' mx' hu ha hlo hhi hmx
    simp only [Option.map_eq_some_iff] at hp
    obtain ⟨sz, hsz, rfl⟩ := hp
    simp only [xop] at hx
    split at hx
    case h_2 => cases hx
    rename_i xv vlo vhi vmx hav hvlo hvhi hvmx
    have hsl : sliceA sz xv vlo vhi vmx = some v ∧ s = s' := pure'_some hx
    obtain ⟨hsl, rfl⟩ := hsl
    have o1 := evO_conc hlo hρ hvlo
    have o2 := evO_conc hhi hρ hvhi
    have o3 := evO_conc hmx hρ hvmx
    have hc := hρ _ _ _ ha hav
    unfold sliceA at hsl
    split at hsl
    case h_4 => cases hsl
    · -- nil
      split at hsl <;> cases hsl
      rename_i r hb
      obtain ⟨l, hh, m⟩ := r
      obtain ⟨hrun, hll, hhm, hmc, hme, hhe⟩ := run_bounds (P := P) hb o1 o2 o3 (Nat.le_refl _) true w
      have hr : ρ x = .slice none 0 0 := by simpa [conc] using hc.symm
      have hm0 : m = 0 := by omega
      subst hm0
      have hh0 : hh = 0 := by omega
      subst hh0
      have hl0 : l = 0 := by omega
      subst hl0
      refine Snd.pure h hR (c := .slice none 0 0) ?_ rfl
      simp only [execOp, ho, Instr.sliceAt, Sem.run_bind, run_und hu, Result.andThen_ok, hr, Instr.slice, hrun, run_size hsz]
      simp
    · -- an empty end
      rename_i b of adv
      split at hsl <;> cases hsl
      rename_i hcond
      simp only [Bool.and_eq_true, Option.isNone_iff_eq_none] at hcond
      obtain ⟨⟨hmx0, hz1⟩, hz2⟩ := hcond
      subst hmx0
      obtain ⟨q, hq, hr⟩ := conc_tail hc
      refine Snd.pure h hR (c := ρ x) ?_ hc
      have hmxn : mx.map ρ = none := by
        cases mx with
        | none => rfl
        | some y => exact o3.elim
      have b1 := fun (y : Nat) code w => isZero_bound (P := P) hz1 o1 y code w
      have b2 := fun (y : Nat) code w => isZero_bound (P := P) hz2 o2 y code w
      have hbounds : (Instr.sliceBounds true 0 q.2 (lo.map ρ) (hi.map ρ) none).run P w = .ok (0, 0, q.2) w := by
        cases hl : lo.map ρ <;> cases hh : hi.map ρ <;> simp only [hl, hh] at b1 b2 <;> simp [Instr.sliceBounds, b1, b2]
      simp only [execOp, ho, Instr.sliceAt, Sem.run_bind, run_und hu, Result.andThen_ok, hr, Instr.slice, hmxn, hbounds, run_size hsz]
      simp
      intro _
      simp [Addr.add]
    · -- a slice of a row
      rename_i b of len cap loose
      split at hsl
      case h_1 => cases hsl
      rename_i l hh m hb
      obtain ⟨q, hq, hr⟩ := conc_slice hc
      obtain ⟨hrun, hll, hhm, hmc, hme, hhe⟩ := run_bounds (P := P) (cap' := if loose then cap + q.2 else cap) hb o1 o2 o3 (by split <;> omega) true w
      have hval : (execOp ρ o).run P w = .ok (.value (.slice (if (if vmx.isNone then (if loose then cap + q.2 else cap) else m) = l then some ⟨q.1, of, none⟩ else some ⟨q.1, of + l * sz, none⟩) (hh - l) ((if vmx.isNone then (if loose then cap + q.2 else cap) else m) - l))) w := by
        simp only [execOp, ho, Instr.sliceAt, Sem.run_bind, run_und hu, Result.andThen_ok, hr, Instr.slice, hrun, run_size hsz, Option.map_some, Addr.add_mk, Sem.run_pure]
      split at hsl
      · rename_i hlo2
        simp only [Bool.and_eq_true, Option.isNone_iff_eq_none] at hlo2
        obtain ⟨rfl, hmxn⟩ := hlo2
        have hmcap := hme hmxn
        subst hmcap
        simp only [hmxn, Option.isNone_none, if_true] at hval
        split at hsl <;> cases hsl
        · rename_i hml
          subst hml
          have hh1 : hh = m := by omega
          refine Snd.pure h hR hval ?_
          simp only [conc, hq, Option.map_some, Option.some.injEq]
          have e1 : hh - m = 0 := by omega
          have e2 : m + q.2 - m = q.2 := by omega
          rw [e1, e2]
          by_cases h0 : q.2 = 0
          · simp [h0]
          · rw [if_neg h0, if_neg (by omega)]
        · rename_i hml
          refine Snd.pure h hR hval ?_
          have : l < m := by omega
          simp only [conc, hq, Option.map_some, Option.some.injEq, if_true]
          rw [if_neg (by omega)]
          congr 1
          omega
      · rename_i hlo2
        cases hsl
        refine Snd.pure h hR hval ?_
        simp only [conc, hq, Option.map_some, Option.some.injEq, if_false, Bool.false_eq_true]
        have hM : (if vmx.isNone then (if loose = true then cap + q.2 else cap) else m) = m := by
          cases hvm : vmx with
          | some _ => simp
          | none =>
            have := hme hvm
            simp [hvm] at hlo2
            simp [hlo2, this]
        rw [hM]
        by_cases hml : m = l <;> simp [hml]
  · -- a pointer to an array
    rename_i a' a lo' hi' mx' hu ha hlo hhi hmx
    split at hp
    case h_2 => cases hp
    rename_i n e hua
    simp only [Option.map_eq_some_iff] at hp
    obtain ⟨sz, hsz, rfl⟩ := hp
    simp only [xop] at hx
    split at hx
    case h_2 => cases hx
    rename_i b of vlo vhi vmx hav hvlo hvhi hvmx
    split at hx <;> cases hx
    rename_i l hh m hb
    obtain ⟨q, hq, hr⟩ := isSome_of_conc_ptr (hρ _ _ _ ha hav)
    obtain ⟨hrun, hll, hhm, hmc, hme, hhe⟩ := run_bounds (P := P) hb (evO_conc hlo hρ hvlo) (evO_conc hhi hρ hvhi) (evO_conc hmx hρ hvmx) (Nat.le_refl _) false w
    have hM : (if vmx.isNone then n else m) = m := by
      cases hvm : vmx with
      | some _ => simp
      | none => simp [hme hvm]
    rw [hM] at hrun
    refine Snd.pure h hR (c := .slice (if m = l then some ⟨q.1, of, none⟩ else some ⟨q.1, of + l * sz, none⟩) (hh - l) (m - l)) ?_ (by simp [conc, hq]; split <;> rfl)
    simp only [execOp, ho, Instr.sliceAt, Sem.run_bind, run_und hu, Result.andThen_ok, hr, Instr.slice, asAddr, Sem.run_pure, run_und hua, hrun, run_size hsz, Addr.add_mk]
    split <;> rfl
  · -- an array by its address
    rename_i n e a lo' hi' mx' hu ha hlo hhi hmx
    simp only [Option.map_eq_some_iff] at hp
    obtain ⟨sz, hsz, rfl⟩ := hp
    simp only [xop] at hx
    split at hx
    case h_2 => cases hx
    rename_i b of vlo vhi vmx hav hvlo hvhi hvmx
    split at hx <;> cases hx
    rename_i l hh m hb
    obtain ⟨q, hq, hr⟩ := isSome_of_conc_ptr (hρ _ _ _ ha hav)
    obtain ⟨hrun, hll, hhm, hmc, hme, hhe⟩ := run_bounds (P := P) hb (evO_conc hlo hρ hvlo) (evO_conc hhi hρ hvhi) (evO_conc hmx hρ hvmx) (Nat.le_refl _) false w
    have hM : (if vmx.isNone then n else m) = m := by
      cases hvm : vmx with
      | some _ => simp
      | none => simp [hme hvm]
    rw [hM] at hrun
    refine Snd.pure h hR (c := .slice (if m = l then some ⟨q.1, of, none⟩ else some ⟨q.1, of + l * sz, none⟩) (hh - l) (m - l)) ?_ (by simp [conc, hq]; split <;> rfl)
    simp only [execOp, ho, Instr.sliceAt, Sem.run_bind, run_und hu, Result.andThen_ok, hr, Instr.sureAddr, Sem.run_pure, hrun, run_size hsz, Addr.add_mk]
    split <;> rfl
end Go.Proofs.Yteffppdkofdmdaa.D
