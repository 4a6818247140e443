/- The operations of the abstract machine do what the model's do: slices, indexes, conversions, numbers. -/
import Derived.Test.YteffppdkofdmdaaDSnd3
namespace Go.Proofs.Yteffppdkofdmdaa.D
variable {P : Program} {R : Nat} {μ : Place} {s : St} {w : World} {ev : Ev} {ρ : Operand → Value} {o : Oper} {p : POp} {v : AV} {s' : St}

theorem concs_rep {z : List AV} {l : List Value} (h : concs μ z = some l) (n : Nat) : concs μ (List.replicate n z).flatten = some (List.replicate n l).flatten := by
  induction n with
  | zero => rfl
  | succ n ih => simp only [List.replicate_succ, List.flatten_cons]; exact concs_append h ih

theorem snd_buildSlice {t : TypeId} {n : Nat} {parts : Array (Nat × Operand)} (ho : o.op = .buildSlice t n parts) (hp : prepOp P o = some p) (h : HR P R μ s w) (hρ : EvR μ ev ρ) (hx : xop p ev s = some (v, s')) (hR : s'.next ≤ R) : Snd P R μ s w (execOp ρ o) v s' := by
  simp only [prepOp, ho] at hp
  split at hp
  case h_2 => cases hp
  rename_i e hu
  split at hp
  case h_2 => cases hp
  rename_i sz z hsz hz
  split at hp
  case isFalse => cases hp
  rename_i hcond
  simp only [Bool.and_eq_true, beq_iff_eq, decide_eq_true_eq] at hcond
  obtain ⟨hszl, hle⟩ := hcond
  simp only [Option.map_eq_some_iff] at hp
  obtain ⟨pp, hpp, rfl⟩ := hp
  simp only [xop] at hx
  split at hx
  case h_2 => cases hx
  rename_i l hl
  simp only [newA, Option.some.injEq, Prod.mk.injEq] at hx
  obtain ⟨rfl, rfl⟩ := hx
  obtain ⟨zv, hzr, hzc⟩ := zeroB_some hz
  have hzl := concs_length (hzc μ)
  simp at hzl
  have hzs := concs_rep (hzc μ) n
  obtain ⟨cs, h1, h2⟩ := run_fill hpp hρ (zs := (List.replicate n zv.cells.toList).flatten.toArray) (by rw [hzs]) hl
  refine snd_new (c := cs) (elem := e) (fz := (0, 0)) (e := 0) (d := w.drawn) (rest := []) (cv := .slice (some ⟨w.heap.size, 0, none⟩) n n) h hR (xs := cs.toList) (fun ν hν => concs_mono hν _ _ h2) (by simp) (by simp) (fun _ => rfl) (by intro i _; simp) ?_ (by simp [conc, Place.add])
  have hge : ¬ (n * sz > 2 ^ 24) := by omega
  have hzv : zv.cells.size = sz := by omega
  have hr := range_mod_flatten zv.cells n
  rw [hzv] at hr
  simp only [execOp, ho, Instr.buildSlice, Sem.run_bind, run_und hu, Result.andThen_ok, run_size hsz, if_neg hge, Sem.run_pure]
  by_cases h0 : n * sz = 0
  · have hrep : (List.replicate n zv.cells.toList).flatten.toArray = #[] := by
      rw [← hr, h0]; simp
    rw [hrep] at h1
    have hz0 : Array.range 0 = #[] := by simp
    simp only [h0, if_true, Sem.run_pure, Result.andThen_ok, hz0, List.map_toArray, List.map_nil, Sem.run_bind]
    simp [h1, newRow]
  · simp only [if_neg h0, Sem.run_bind, hzr, Result.andThen_ok, Sem.run_pure, hzv, hr]
    simp [h1, newRow]

theorem indexA_some {v : AV} {len k : Nat} (h : indexA v len = some k) : ∃ kk n, v = .int kk n ∧ 0 ≤ n ∧ n < (len : Int) ∧ k = n.toNat := by
  unfold indexA at h
  split at h
  · rename_i kk n
    split at h <;> cases h
    rename_i hc
    exact ⟨kk, n, rfl, hc.1, hc.2, rfl⟩
  · cases h

theorem snd_indexAddr {t : TypeId} {x y : Operand} (ho : o.op = .indexAddr t x y) (hp : prepOp P o = some p) (h : HR P R μ s w) (hρ : EvR μ ev ρ) (hx : xop p ev s = some (v, s')) (hR : s'.next ≤ R) : Snd P R μ s w (execOp ρ o) v s' := by
  simp only [prepOp, ho] at hp
  split at hp
  case h_3 => cases hp
  · rename_i n e a i hu ha hi
    simp only [Option.map_eq_some_iff] at hp
    obtain ⟨sz, hsz, rfl⟩ := hp
    simp only [xop] at hx
    split at hx
    case h_2 => cases hx
    rename_i b of iv hav hiv
    split at hx <;> cases hx
    rename_i k hk
    obtain ⟨kk, m, rfl, hm0, hm1, rfl⟩ := indexA_some hk
    obtain ⟨q, hq, hr⟩ := isSome_of_conc_ptr (hρ _ _ _ ha hav)
    have hri := conc_int (hρ _ _ _ hi hiv)
    refine Snd.pure h hR (c := .pointer (some ⟨q.1, of + m.toNat * sz, none⟩)) ?_ (by simp [conc, hq])
    simp [execOp, ho, Instr.indexAt, hri, asIntOf, run_und hu, hr, Instr.sureAddr, hm0, hm1, run_size hsz, Addr.add_mk]
  · rename_i e a i hu ha hi
    simp only [Option.map_eq_some_iff] at hp
    obtain ⟨sz, hsz, rfl⟩ := hp
    simp only [xop] at hx
    split at hx
    case h_2 => cases hx
    rename_i b of len _ _ iv hav hiv
    split at hx <;> cases hx
    rename_i k hk
    obtain ⟨kk, m, rfl, hm0, hm1, rfl⟩ := indexA_some hk
    obtain ⟨q, hq, hr⟩ := conc_slice (hρ _ _ _ ha hav)
    have hri := conc_int (hρ _ _ _ hi hiv)
    refine Snd.pure h hR (c := .pointer (some ⟨q.1, of + m.toNat * sz, none⟩)) ?_ (by simp [conc, hq])
    simp [execOp, ho, Instr.indexAt, hri, asIntOf, run_und hu, hr, hm0, hm1, run_size hsz, Addr.add_mk]

theorem snd_index {t : TypeId} {x y : Operand} (ho : o.op = .index t x y) (hp : prepOp P o = some p) (h : HR P R μ s w) (hρ : EvR μ ev ρ) (hx : xop p ev s = some (v, s')) (hR : s'.next ≤ R) : Snd P R μ s w (execOp ρ o) v s' := by
  simp only [prepOp, ho] at hp
  split at hp
  case h_3 => cases hp
  · rename_i n e a i hu ha hi
    split at hp <;> cases hp
    rename_i b sz hag hsz
    simp only [xop] at hx
    split at hx
    case h_2 => cases hx
    rename_i l iv hav hiv
    split at hx
    case h_2 => cases hx
    rename_i k hk
    obtain ⟨kk, m, rfl, hm0, hm1, rfl⟩ := indexA_some hk
    have hpart : partA (if b = true then some sz else none) l (m.toNat * sz) = some v ∧ s = s' := pure'_some hx
    obtain ⟨hl, rfl⟩ := hpart
    obtain ⟨xs, hxs, hr⟩ := conc_agg (hρ _ _ _ ha hav)
    have hri := conc_int (hρ _ _ _ hi hiv)
    obtain ⟨c, hc, hrun⟩ := run_part (P := P) (t := e) (n := if b = true then some sz else none) (by cases b <;> simp [hag, hsz]) hxs hl w
    refine Snd.pure h hR (c := c) ?_ hc
    simp [execOp, ho, Instr.index, hri, asIntOf, run_und hu, hr, hm0, hm1, run_size hsz, hrun]
  · rename_i a i hu ha hi
    cases hp
    simp only [xop] at hx
    split at hx
    case h_2 => cases hx
    rename_i sv iv hav hiv
    split at hx
    case h_2 => cases hx
    rename_i k hk
    obtain ⟨kk, m, rfl, hm0, hm1, rfl⟩ := indexA_some hk
    split at hx <;> cases hx
    rename_i c hc
    have hr := conc_str (hρ _ _ _ ha hav)
    have hri := conc_int (hρ _ _ _ hi hiv)
    refine Snd.pure h hR (c := .int .u8 c.toNat) ?_ rfl
    simp [execOp, ho, Instr.index, hri, asIntOf, run_und hu, hr, hm0, hc]

theorem boundA_some {v : AV} {y k : Nat} (h : boundA v y = some k) : ∃ kk n, v = .int kk n ∧ 0 ≤ n ∧ n ≤ (y : Int) ∧ k = n.toNat ∧ k ≤ y := by
  unfold boundA at h
  split at h
  · rename_i kk n
    split at h <;> cases h
    rename_i hc
    exact ⟨kk, n, rfl, hc.1, hc.2, rfl, by omega⟩
  · cases h

theorem run_boundA {v : AV} {y y' k : Nat} (h : boundA v y = some k) (hy : y ≤ y') {c : Value} (hc : conc μ v = some c) (code : BoundsCode) (w : World) : (Instr.sliceBound c y' code).run P w = .ok k w := by
  obtain ⟨kk, n, rfl, h0, h1, rfl, _⟩ := boundA_some h
  have := conc_int hc
  subst this
  simp [Instr.sliceBound, asIntOf, h0, show n ≤ (y' : Int) by omega]

/-- An operand that may not be there. -/
def OptV (μ : Place) : Option AV → Option Value → Prop
  | none, none => True
  | some v, some c => conc μ v = some c
  | _, _ => False

theorem evO_conc {x : Option Operand} {y : Option X} (hp : optX x = some y) (hρ : EvR μ ev ρ) {v : Option AV} (hv : evO ev y = some v) : OptV μ v (x.map ρ) := by
  cases x with
  | none => simp only [optX, Option.some.injEq] at hp; subst hp; simp only [evO, Option.some.injEq] at hv; subst hv; trivial
  | some x =>
    simp only [optX, Option.map_eq_some_iff] at hp
    obtain ⟨a, ha, rfl⟩ := hp
    simp only [evO] at hv
    split at hv <;> cases hv
    rename_i u hu
    exact hρ _ _ _ ha hu

/-- The bounds of a slice expression, where the capacity is what is told, or, without a third bound, more. -/
theorem run_bounds {len cap cap' l hh m : Nat} {lo hi mx : Option AV} (h : boundsA len cap lo hi mx = some (l, hh, m)) {clo chi cmx : Option Value} (h1 : OptV μ lo clo) (h2 : OptV μ hi chi) (h3 : OptV μ mx cmx)
    (hcap : cap ≤ cap') (isSlice : Bool) (w : World) :
    (Instr.sliceBounds isSlice len cap' clo chi cmx).run P w = .ok (l, hh, if mx.isNone then cap' else m) w ∧ l ≤ hh ∧ hh ≤ m ∧ m ≤ cap ∧ (mx = none → m = cap) ∧ (hi = none → hh = len) := by
  unfold boundsA at h
  split at h
  case h_1 => cases h
  rename_i m0 hm0
  split at h
  case h_1 => cases h
  rename_i hh0 hh0e
  split at h
  case h_1 => cases h
  rename_i l0 hl0
  cases h
  have hmx : mx = none → m = cap := by intro e; subst e; simp at hm0; exact hm0.symm
  have hmle : m ≤ cap := by
    cases mx with
    | none => simp at hm0; omega
    | some u => simp at hm0; obtain ⟨_, _, _, _, _, _, hle⟩ := boundA_some hm0; exact hle
  -- the run of each
  have hlo : l ≤ hh ∧ ∀ code w, (match clo with | some v => Instr.sliceBound v hh code | none => pure 0).run P w = .ok l w := by
    cases lo with
    | none => cases clo with
      | none => simp at hl0; subst hl0; exact ⟨Nat.zero_le _, fun _ _ => rfl⟩
      | some _ => exact h1.elim
    | some u => cases clo with
      | none => exact h1.elim
      | some c => simp at hl0; obtain ⟨_, _, _, _, _, _, hle⟩ := boundA_some hl0; exact ⟨hle, fun code w => run_boundA hl0 (Nat.le_refl _) h1 code w⟩
  cases mx with
  | none => cases cmx with
    | some _ => exact h3.elim
    | none =>
      have e := hmx rfl
      subst e
      cases hi with
      | none => cases chi with
        | some _ => exact h2.elim
        | none =>
          simp at hh0e
          obtain ⟨hlm, hh0e⟩ := hh0e
          subst hh0e
          refine ⟨?_, hlo.1, hlm, hmle, fun _ => rfl, fun _ => rfl⟩
          have := hlo.2 .sliceB w
          cases clo <;> simp only [] at this <;> simp_all [Instr.sliceBounds]
      | some u => cases chi with
        | none => exact h2.elim
        | some c =>
          simp at hh0e
          obtain ⟨_, _, _, _, _, _, hle⟩ := boundA_some hh0e
          refine ⟨?_, hlo.1, hle, hmle, fun _ => rfl, by simp⟩
          have := hlo.2 .sliceB w
          have hb := fun code w => run_boundA (P := P) hh0e hcap h2 code w
          cases clo <;> simp only [] at this <;> simp_all [Instr.sliceBounds]
  | some u => cases cmx with
    | none => exact h3.elim
    | some cm =>
      simp at hm0
      have hbm := fun code w => run_boundA (P := P) hm0 hcap h3 code w
      cases hi with
      | none => simp at hh0e
      | some u => cases chi with
        | none => exact h2.elim
        | some c =>
          simp at hh0e
          obtain ⟨_, _, _, _, _, _, hle⟩ := boundA_some hh0e
          refine ⟨?_, hlo.1, hle, hmle, fun e => (by cases e), by simp⟩
          have := hlo.2 .slice3C w
          have hb := fun code w => run_boundA (P := P) hh0e (Nat.le_refl _) h2 code w
          cases clo <;> simp only [] at this <;> simp_all [Instr.sliceBounds]
end Go.Proofs.Yteffppdkofdmdaa.D
