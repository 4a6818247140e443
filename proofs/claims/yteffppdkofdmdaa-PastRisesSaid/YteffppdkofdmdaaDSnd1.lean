/- The operations of the abstract machine do what the model's do: the first part. -/
import Derived.Test.YteffppdkofdmdaaDOp
import Derived.OrdersIn
import Derived.RangeFuncIn
import Derived.RangeFuncLeaves
namespace Go.Proofs.Yteffppdkofdmdaa.D
variable {P : Program} {R : Nat}

/-- It runs to its end, with that value. -/
def Goes (P : Program) (x : Sem Next) (w : World) (c : Value) (w' : World) : Prop := x.run P w = .ok (.value c) w' ∨ (x.run P w = .ok .skip w' ∧ c = undef)

/-- What is owed for an operation. -/
def Snd (P : Program) (R : Nat) (μ : Place) (s : St) (w : World) (x : Sem Next) (v : AV) (s' : St) : Prop :=
  ∃ ν c w', Goes P x w c w' ∧ conc ν v = some c ∧ HR P R ν s' w' ∧ Mv μ s w ν s' w'

theorem Snd.pure {μ : Place} {s : St} {w : World} {x : Sem Next} {v : AV} {c : Value} (h : HR P R μ s w) (hR : s.next ≤ R) (hr : x.run P w = .ok (.value c) w) (hc : conc μ v = some c) : Snd P R μ s w x v s :=
  ⟨μ, c, w, .inl hr, hc, h, Mv.refl h hR⟩

theorem run_und {t : TypeId} {d : TypeDesc} (h : P.underlying t = some d) (w : World) : (underlying t).run P w = .ok d w := by
  simp [underlying, h]

theorem run_info {t : TypeId} {i : TypeInfo} (h : P.info? t = some i) (w : World) : (typeInfo t).run P w = .ok i w := by
  simp [typeInfo, h]

theorem run_size {t : TypeId} {n : Nat} (h : sizeB P t = some n) (w : World) : (sizeOf t).run P w = .ok n w := by
  unfold sizeB at h
  simp only [Option.map_eq_some_iff] at h
  obtain ⟨i, hi, rfl⟩ := h
  simp [sizeOf, run_info hi]

theorem run_isAgg {t : TypeId} {b : Bool} (h : isAggB P t = some b) (w : World) : (isAgg t).run P w = .ok b w := by
  unfold isAggB at h
  unfold isAgg
  cases hu : P.underlying t with
  | none => rw [hu] at h; cases h
  | some d =>
    rw [hu] at h
    simp only [Sem.run_bind, run_und hu, Result.andThen_ok]
    cases d <;> simp_all

theorem zeroB_some {t : TypeId} {z : List AV} (h : zeroB P t = some z) : ∃ v : Value, (∀ w, (zeroValue t).run P w = .ok v w) ∧ ∀ μ, concs μ z = some v.cells.toList := by
  unfold zeroB at h
  split at h
  · rename_i v hv
    simp only [Option.bind_eq_some_iff] at hv
    obtain ⟨i, hi, hz⟩ := hv
    exact ⟨v, fun w => by simp [zeroValue, run_info hi, hz], fun μ => absLs_conc μ h⟩
  · cases h

theorem zeroV_some {t : TypeId} {z : AV} (h : zeroV P t = some z) : ∃ v : Value, (∀ w, (zeroValue t).run P w = .ok v w) ∧ ∀ μ, conc μ z = some v := by
  unfold zeroV at h
  split at h
  · rename_i v hv
    simp only [Option.bind_eq_some_iff] at hv
    obtain ⟨i, hi, hz⟩ := hv
    exact ⟨v, fun w => by simp [zeroValue, run_info hi, hz], fun μ => absV_conc h μ⟩
  · cases h

theorem Addr.add_mk (b o n : Nat) : (⟨b, o, none⟩ : Addr).add n = ⟨b, o + n, none⟩ := by
  unfold Addr.add
  split
  · rename_i h; simp [h]
  · rfl

/-- Cells that stand one beside the other are loaded. -/
theorem run_loadFrom (b o : Nat) (w : World) : ∀ (n i : Nat) (acc : Array Value) (l : List Value), l.length = n → (∀ j, j < n → w.cell? ⟨b, o + (i + j), none⟩ = l[j]?) →
    (loadCellsFrom ⟨b, o, none⟩ i n acc).run P w = .ok (acc ++ l.toArray) w := by
  intro n
  induction n with
  | zero => intro i acc l hl _; have : l = [] := List.length_eq_zero_iff.1 hl; subst this; simp [loadCellsFrom]
  | succ n ih =>
    intro i acc l hl h
    cases l with
    | nil => simp at hl
    | cons x l =>
      have h0 := h 0 (by omega)
      simp only [Nat.add_zero, List.getElem?_cons_zero] at h0
      simp only [loadCellsFrom, Sem.run_bind, run_load, Addr.add_mk, h0, Result.andThen_ok]
      rw [ih (i + 1) (acc.push x) l (by simpa using hl)]
      · simp
      · intro j hj
        have := h (j + 1) (by omega)
        simp only [List.getElem?_cons_succ] at this
        rw [← this]
        congr 2
        omega

theorem loadA_some {s : St} {b o n : Nat} {l : List AV} (h : loadA s b o n = some l) : ∃ vs lo ro z, s.get b = some (.cells vs lo ro z) ∧ o + n ≤ vs.length ∧ l = (vs.drop o).take n := by
  unfold loadA at h
  split at h
  · rename_i vs lo ro z hg
    split at h
    · cases h; exact ⟨vs, lo, ro, z, hg, by assumption, rfl⟩
    · cases h
  · cases h

theorem run_loadA {μ : Place} {s : St} {w : World} (h : HR P R μ s w) {b o n : Nat} {l : List AV} (hl : loadA s b o n = some l) {p : Nat × Nat} (hp : μ b = some p) :
    ∃ xs : List Value, concs μ l = some xs ∧ xs.length = n ∧ (loadCells ⟨p.1, o, none⟩ n).run P w = .ok xs.toArray w := by
  obtain ⟨vs, lo, ro, z, hg, hle, rfl⟩ := loadA_some hl
  obtain ⟨q, hq, c, el, fz, xs, rest, h1, h2, h3, _⟩ := h.obj _ _ hg
  rw [hp] at hq; cases hq
  have hlen := concs_length h2
  refine ⟨(xs.drop o).take n, concs_take (concs_drop h2 o) n, by simp; omega, ?_⟩
  unfold loadCells
  rw [run_loadFrom p.1 o w n 0 #[] ((xs.drop o).take n) (by simp; omega)]
  · simp
  · intro j hj
    have hlt : o + j < vs.length := by omega
    obtain ⟨x, hx, _⟩ := h.cell hg hp (List.getElem?_eq_getElem hlt)
    rw [Nat.zero_add, hx, List.getElem?_take_of_lt hj, List.getElem?_drop]
    simp only [World.cell?, h1, Option.isSome_none, Bool.false_eq_true, if_false] at hx
    rw [← hx, ← Array.getElem?_toList, h3, List.getElem?_append_left (by omega)]

theorem isSome_of_conc_ptr {μ : Place} {b o : Nat} {c : Value} (h : conc μ (.ptr b o) = some c) : ∃ p, μ b = some p ∧ c = .pointer (some ⟨p.1, o, none⟩) := by
  simp only [conc, Option.map_eq_some_iff] at h
  obtain ⟨p, hp, rfl⟩ := h
  exact ⟨p, hp, rfl⟩

/-- The operands are what they stand for. -/
def EvR (μ : Place) (ev : Ev) (ρ : Operand → Value) : Prop := ∀ y x v, prepX y = some x → ev x = some v → conc μ v = some (ρ y)

theorem execOp_value (ρ : Operand → Value) (o : Oper) (w : World) {x : Sem Value} {c : Value} {w' : World} (he : execOp ρ o = (do pure (.value (← x)))) (hx : x.run P w = .ok c w') :
    (execOp ρ o).run P w = .ok (.value c) w' := by
  rw [he]; simp [hx]
end Go.Proofs.Yteffppdkofdmdaa.D
