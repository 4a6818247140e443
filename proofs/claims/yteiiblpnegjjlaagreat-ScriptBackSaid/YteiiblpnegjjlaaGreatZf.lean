/- The operations of the abstract machine do what the model's do: the first part.
The operations of the abstract machine do what the model's do: values, loads, what is laid.
The operations of the abstract machine do what the model's do: what is stored, what is built.
The operations of the abstract machine do what the model's do: slices, indexes, conversions, numbers.
The operations of the abstract machine do what the model's do: slice expressions, conversions, numbers.
The operations of the abstract machine do what the model's do: conversions, arithmetic, comparisons.
The operations of the abstract machine do what the model's do: two values held against one another.
The operations of the abstract machine do what the model's do: binary and unary operations, lengths, maps.
The operations of the abstract machine do what the model's do: what is built in, and maps.
The operations of the abstract machine do what the model's do: append, copy, lengths, make.
The operations of the abstract machine do what the model's do: what is built in, as operations. -/
import Derived.Test.YteiiblpnegjjlaaGreatZe
import Derived.OrdersIn
import Derived.RangeFuncIn
import Derived.RangeFuncLeaves
import Derived.Laws.IdiomStrings
import Derived.ChangeKeysEq
import Derived.Maps.RangeRun
namespace Go.Proofs.YteiiblpnegjjlaaGreat.D
variable {P : Program} {R : Nat}

/-- It runs to its end, with that value. -/
def Goes (P : Program) (x : Sem Next) (w : World) (c : Value) (w' : World) : Prop := x.run P w = .ok (.value c) w' ∨ (x.run P w = .ok .skip w' ∧ c = undef)

/-- What is owed for an operation. -/
def Snd (P : Program) (R : Nat) (μ : Place) (s : St) (w : World) (x : Sem Next) (v : AV) (s' : St) : Prop :=
  ∃ ν c w', Goes P x w c w' ∧ conc ν v = some c ∧ HR P R ν s' w' ∧ Mv μ s w ν s' w'

theorem Snd.pure {μ : Place} {s : St} {w : World} {x : Sem Next} {v : AV} {c : Value} (h : HR P R μ s w) (hR : s.next ≤ R) (hr : x.run P w = .ok (.value c) w) (hc : conc μ v = some c) : Snd P R μ s w x v s :=
  ⟨μ, c, w, .inl hr, hc, h, Mv.refl h hR⟩

theorem run_und {t : TypeId} {d : TypeDesc} (h : P.underlying t = some d) (w : World) : (underlying t).run P w = .ok d w := by
  simp [underlying, h]

theorem run_info {t : TypeId} {i : TypeInfo} (h : P.info? t = some i) (w : World) : (typeInfo t).run P w = .ok i w := by
  simp [typeInfo, h]

theorem run_size {t : TypeId} {n : Nat} (h : sizeB P t = some n) (w : World) : (sizeOf t).run P w = .ok n w := by
  unfold sizeB at h
  simp only [Option.map_eq_some_iff] at h
  obtain ⟨i, hi, rfl⟩ := h
  simp [sizeOf, run_info hi]

theorem run_isAgg {t : TypeId} {b : Bool} (h : isAggB P t = some b) (w : World) : (isAgg t).run P w = .ok b w := by
  unfold isAggB at h
  unfold isAgg
  cases hu : P.underlying t with
  | none => rw [hu] at h; cases h
  | some d =>
    rw [hu] at h
    simp only [Sem.run_bind, run_und hu, Result.andThen_ok]
    cases d <;> simp_all

theorem zeroB_some {t : TypeId} {z : List AV} (h : zeroB P t = some z) : ∃ v : Value, (∀ w, (zeroValue t).run P w = .ok v w) ∧ ∀ μ, concs μ z = some v.cells.toList := by
  unfold zeroB at h
  split at h
  · rename_i v hv
    simp only [Option.bind_eq_some_iff] at hv
    obtain ⟨i, hi, hz⟩ := hv
    exact ⟨v, fun w => by simp [zeroValue, run_info hi, hz], fun μ => absLs_conc μ h⟩
  · cases h

theorem zeroV_some {t : TypeId} {z : AV} (h : zeroV P t = some z) : ∃ v : Value, (∀ w, (zeroValue t).run P w = .ok v w) ∧ ∀ μ, conc μ z = some v := by
  unfold zeroV at h
  split at h
  · rename_i v hv
    simp only [Option.bind_eq_some_iff] at hv
    obtain ⟨i, hi, hz⟩ := hv
    exact ⟨v, fun w => by simp [zeroValue, run_info hi, hz], fun μ => absV_conc h μ⟩
  · cases h

theorem Addr.add_mk (b o n : Nat) : (⟨b, o, none⟩ : Addr).add n = ⟨b, o + n, none⟩ := by
  unfold Addr.add
  split
  · rename_i h; simp [h]
  · rfl

/-- Cells that stand one beside the other are loaded. -/
theorem run_loadFrom (b o : Nat) (w : World) : ∀ (n i : Nat) (acc : Array Value) (l : List Value), l.length = n → (∀ j, j < n → w.cell? ⟨b, o + (i + j), none⟩ = l[j]?) →
    (loadCellsFrom ⟨b, o, none⟩ i n acc).run P w = .ok (acc ++ l.toArray) w := by
  intro n
  induction n with
  | zero => intro i acc l hl _; have : l = [] := List.length_eq_zero_iff.1 hl; subst this; simp [loadCellsFrom]
  | succ n ih =>
    intro i acc l hl h
    cases l with
    | nil => simp at hl
    | cons x l =>
      have h0 := h 0 (by omega)
      simp only [Nat.add_zero, List.getElem?_cons_zero] at h0
      simp only [loadCellsFrom, Sem.run_bind, run_load, Addr.add_mk, h0, Result.andThen_ok]
      rw [ih (i + 1) (acc.push x) l (by simpa using hl)]
      · simp
      · intro j hj
        have := h (j + 1) (by omega)
        simp only [List.getElem?_cons_succ] at this
        rw [← this]
        congr 2
        omega

theorem loadA_some {s : St} {b o n : Nat} {l : List AV} (h : loadA s b o n = some l) : ∃ vs lo ro z, s.get b = some (.cells vs lo ro z) ∧ o + n ≤ vs.length ∧ l = (vs.drop o).take n := by
  unfold loadA at h
  split at h
  · rename_i vs lo ro z hg
    split at h
    · cases h; exact ⟨vs, lo, ro, z, hg, by assumption, rfl⟩
    · cases h
  · cases h

theorem run_loadA {μ : Place} {s : St} {w : World} (h : HR P R μ s w) {b o n : Nat} {l : List AV} (hl : loadA s b o n = some l) {p : Nat × Nat} (hp : μ b = some p) :
    ∃ xs : List Value, concs μ l = some xs ∧ xs.length = n ∧ (loadCells ⟨p.1, o, none⟩ n).run P w = .ok xs.toArray w := by
  obtain ⟨vs, lo, ro, z, hg, hle, rfl⟩ := loadA_some hl
  obtain ⟨q, hq, c, el, fz, xs, rest, h1, h2, h3, _⟩ := h.obj _ _ hg
  rw [hp] at hq; cases hq
  have hlen := concs_length h2
  refine ⟨(xs.drop o).take n, concs_take (concs_drop h2 o) n, by simp; omega, ?_⟩
  unfold loadCells
  rw [run_loadFrom p.1 o w n 0 #[] ((xs.drop o).take n) (by simp; omega)]
  · simp
  · intro j hj
    have hlt : o + j < vs.length := by omega
    obtain ⟨x, hx, _⟩ := h.cell hg hp (List.getElem?_eq_getElem hlt)
    rw [Nat.zero_add, hx, List.getElem?_take_of_lt hj, List.getElem?_drop]
    simp only [World.cell?, h1, Option.isSome_none, Bool.false_eq_true, if_false] at hx
    rw [← hx, ← Array.getElem?_toList, h3, List.getElem?_append_left (by omega)]

theorem isSome_of_conc_ptr {μ : Place} {b o : Nat} {c : Value} (h : conc μ (.ptr b o) = some c) : ∃ p, μ b = some p ∧ c = .pointer (some ⟨p.1, o, none⟩) := by
  simp only [conc, Option.map_eq_some_iff] at h
  obtain ⟨p, hp, rfl⟩ := h
  exact ⟨p, hp, rfl⟩

/-- The operands are what they stand for. -/
def EvR (μ : Place) (ev : Ev) (ρ : Operand → Value) : Prop := ∀ y x v, prepX y = some x → ev x = some v → conc μ v = some (ρ y)

theorem execOp_value (ρ : Operand → Value) (o : Oper) (w : World) {x : Sem Value} {c : Value} {w' : World} (he : execOp ρ o = (do pure (.value (← x)))) (hx : x.run P w = .ok c w') :
    (execOp ρ o).run P w = .ok (.value c) w' := by
  rw [he]; simp [hx]
end Go.Proofs.YteiiblpnegjjlaaGreat.D
namespace Go.Proofs.YteiiblpnegjjlaaGreat.D
variable {P : Program} {R : Nat} {μ : Place} {s : St} {w : World} {ev : Ev} {ρ : Operand → Value} {o : Oper} {p : POp} {v : AV} {s' : St}

theorem pure'_some {x : Option AV} {s : St} {v : AV} {s' : St} (h : (match x with | some v => some (v, s) | none => none) = some (v, s')) : x = some v ∧ s = s' := by
  cases x with
  | none => cases h
  | some u => cases h; exact ⟨rfl, rfl⟩

theorem snd_move {x : Operand} (ho : o.op = .move x ∨ o.op = .assign x) (hp : prepOp P o = some p) (h : HR P R μ s w) (hρ : EvR μ ev ρ) (hx : xop p ev s = some (v, s')) (hR : s'.next ≤ R) : Snd P R μ s w (execOp ρ o) v s' := by
  have hp' : (prepX x).map POp.move = some p := by rcases ho with ho | ho <;> simpa only [prepOp, ho] using hp
  simp only [Option.map_eq_some_iff] at hp'
  obtain ⟨a, ha, rfl⟩ := hp'
  simp only [xop] at hx
  obtain ⟨hv, rfl⟩ := pure'_some hx
  refine Snd.pure h hR (c := ρ x) ?_ (hρ _ _ _ ha hv)
  rcases ho with ho | ho <;> simp [execOp, ho]

theorem conc_bool {b : Bool} {c : Value} (h : conc μ (.bool b) = some c) : c = .bool b := by simp only [conc, Option.some.injEq] at h; exact h.symm
theorem conc_int {k : IntKind} {n : Int} {c : Value} (h : conc μ (.int k n) = some c) : c = .int k n := by simp only [conc, Option.some.injEq] at h; exact h.symm
theorem conc_str {x : ByteArray} {c : Value} (h : conc μ (.str x) = some c) : c = .string x := by simp only [conc, Option.some.injEq] at h; exact h.symm
theorem conc_agg {l : List AV} {c : Value} (h : conc μ (.agg l) = some c) : ∃ xs, concs μ l = some xs ∧ c = .agg xs.toArray := by
  simp only [conc, Option.map_eq_some_iff] at h
  obtain ⟨xs, hx, rfl⟩ := h; exact ⟨xs, hx, rfl⟩
theorem conc_tup {l : List AV} {c : Value} (h : conc μ (.tup l) = some c) : ∃ xs, concs μ l = some xs ∧ c = .tuple xs.toArray := by
  simp only [conc, Option.map_eq_some_iff] at h
  obtain ⟨xs, hx, rfl⟩ := h; exact ⟨xs, hx, rfl⟩
theorem conc_slice {b o n k : Nat} {l : Bool} {c : Value} (h : conc μ (.slice b o n k l) = some c) : ∃ p, μ b = some p ∧ c = .slice (some ⟨p.1, o, none⟩) n (if l then k + p.2 else k) := by
  simp only [conc, Option.map_eq_some_iff] at h
  obtain ⟨p, hp, rfl⟩ := h; exact ⟨p, hp, rfl⟩
theorem conc_tail {b o n : Nat} {c : Value} (h : conc μ (.tail b o n) = some c) : ∃ p, μ b = some p ∧ c = .slice (some ⟨p.1, if p.2 = 0 then o else o + n, none⟩) 0 p.2 := by
  simp only [conc, Option.map_eq_some_iff] at h
  obtain ⟨p, hp, rfl⟩ := h; exact ⟨p, hp, rfl⟩
theorem conc_map {r : Nat} {c : Value} (h : conc μ (.map r) = some c) : ∃ p, μ r = some p ∧ c = .map (some p.1) := by
  simp only [conc, Option.map_eq_some_iff] at h
  obtain ⟨p, hp, rfl⟩ := h; exact ⟨p, hp, rfl⟩

theorem snd_pick {c a b : Operand} (ho : o.op = .pick c a b) (hp : prepOp P o = some p) (h : HR P R μ s w) (hρ : EvR μ ev ρ) (hx : xop p ev s = some (v, s')) (hR : s'.next ≤ R) : Snd P R μ s w (execOp ρ o) v s' := by
  simp only [prepOp, ho] at hp
  split at hp <;> first | cases hp | skip
  rename_i c' a' b' hc ha hb
  simp only [xop] at hx
  split at hx
  · rename_i hcv
    obtain ⟨hv, rfl⟩ := pure'_some hx
    have := conc_bool (hρ _ _ _ hc hcv)
    exact Snd.pure h hR (c := ρ a) (by simp [execOp, ho, this, asBool]) (hρ _ _ _ ha hv)
  · rename_i hcv
    obtain ⟨hv, rfl⟩ := pure'_some hx
    have := conc_bool (hρ _ _ _ hc hcv)
    exact Snd.pure h hR (c := ρ b) (by simp [execOp, ho, this, asBool]) (hρ _ _ _ hb hv)
  · cases hx

/-- A new row of cells. -/
theorem snd_new {x : Sem Next} {vs : List AV} {lo : Bool} {z e d : Nat} {c : Array Value} {elem : TypeId} {fz : Nat × Nat} {rest : List Value} {v : AV} {cv : Value}
    (h : HR P R μ s w) (hR : s.next + 1 ≤ R) {xs : List Value} (hxs : ∀ ν, Place.le μ ν → concs ν vs = some xs) (hc : c.toList = xs ++ rest) (hr : rest.length = e * z) (hl : lo = false → e = 0)
    (hf : ∀ i, i < c.size → ¬ (fz.1 ≤ i ∧ i < fz.2))
    (hrun : x.run P w = .ok (.value cv) { w with heap := w.heap.push (.cells c elem fz), drawn := d })
    (hv : conc (μ.add s.next (w.heap.size, e)) v = some cv) (hd : w.drawn ≤ d := by first | exact Nat.le_refl _ | exact Nat.le_succ _ | exact Nat.le_add_right _ _) : Snd P R μ s w x v (s.new (.cells vs lo false z)) := by
  have hle := h.le_add hR (w.heap.size, e)
  obtain ⟨h1, h2⟩ := h.new hR (.cells vs lo false z) (.cells c elem fz) e d ⟨c, elem, fz, xs, rest, World.push_new w _ d, hxs _ hle, hc, hr, hl, fun _ => hf⟩ hd
  exact ⟨_, cv, _, .inl hrun, hv, h1, h2⟩

theorem snd_alloc {e : TypeId} (ho : o.op = .alloc e) (hp : prepOp P o = some p) (h : HR P R μ s w) (_ : EvR μ ev ρ) (hx : xop p ev s = some (v, s')) (hR : s'.next ≤ R) : Snd P R μ s w (execOp ρ o) v s' := by
  simp only [prepOp, ho, Option.map_eq_some_iff] at hp
  obtain ⟨z, hz, rfl⟩ := hp
  obtain ⟨zv, hzr, hzc⟩ := zeroB_some hz
  simp only [xop, newA, Option.some.injEq, Prod.mk.injEq] at hx
  obtain ⟨rfl, rfl⟩ := hx
  refine snd_new (c := zv.cells) (elem := e) (fz := (0, 0)) (e := 0) (d := w.drawn) (rest := []) (cv := .pointer (some ⟨w.heap.size, 0, none⟩)) h hR (xs := zv.cells.toList) (fun ν _ => hzc ν) (by simp) (by simp) (fun _ => rfl) (by intro i _; simp) ?_ ?_
  · simp [execOp, ho, Instr.alloc, hzr, newVar, newRow]
  · simp [conc, Place.add]

theorem snd_box {e : TypeId} {x : Operand} (ho : o.op = .box e x) (hp : prepOp P o = some p) (h : HR P R μ s w) (hρ : EvR μ ev ρ) (hx : xop p ev s = some (v, s')) (hR : s'.next ≤ R) : Snd P R μ s w (execOp ρ o) v s' := by
  simp only [prepOp, ho, Option.map_eq_some_iff] at hp
  obtain ⟨a, ha, rfl⟩ := hp
  simp only [xop] at hx
  split at hx
  · rename_i u hu
    simp only [newA, Option.some.injEq, Prod.mk.injEq] at hx
    obtain ⟨rfl, rfl⟩ := hx
    have hc := hρ _ _ _ ha hu
    refine snd_new (c := (ρ x).cells) (elem := e) (fz := (0, 0)) (e := 0) (d := w.drawn) (rest := []) (cv := .pointer (some ⟨w.heap.size, 0, none⟩)) h hR (xs := (ρ x).cells.toList) (fun ν hν => conc_cells (conc_mono hν _ _ hc)) (by simp) (by simp) (fun _ => rfl) (by intro i _; simp) ?_ ?_
    · simp [execOp, ho, Instr.box, newVar, newRow]
    · simp [conc, Place.add]
  · cases hx

theorem snd_load {t : TypeId} {x : Operand} (ho : o.op = .load t x) (hp : prepOp P o = some p) (h : HR P R μ s w) (hρ : EvR μ ev ρ) (hx : xop p ev s = some (v, s')) (hR : s'.next ≤ R) : Snd P R μ s w (execOp ρ o) v s' := by
  simp only [prepOp, ho] at hp
  split at hp <;> cases hp
  · rename_i n a hag hsz ha
    simp only [xop] at hx
    split at hx <;> try cases hx
    rename_i b of hv
    split at hx <;> cases hx
    rename_i l hl
    obtain ⟨q, hq, hr⟩ := isSome_of_conc_ptr (hρ _ _ _ ha hv)
    obtain ⟨xs, hxs, _, hrun⟩ := run_loadA h hl hq
    refine Snd.pure h hR (c := .agg xs.toArray) ?_ (by simp [conc, hxs])
    simp [execOp, ho, Instr.loadAt, Instr.sureAddr, hr, loadVar, run_isAgg hag, run_size hsz, hrun]
  · rename_i n a hag ha
    simp only [xop] at hx
    split at hx <;> try cases hx
    rename_i b of hv
    split at hx <;> try cases hx
    rename_i vs lo ro z hg
    obtain ⟨hvs, rfl⟩ := pure'_some hx
    obtain ⟨q, hq, hr⟩ := isSome_of_conc_ptr (hρ _ _ _ ha hv)
    obtain ⟨c, hc, hcv⟩ := h.cell hg hq hvs
    refine Snd.pure h hR (c := c) ?_ hcv
    simp [execOp, ho, Instr.loadAt, Instr.sureAddr, hr, loadVar, run_isAgg hag, hc]

theorem snd_nilCheck {x : Operand} (ho : o.op = .nilCheck x) (hp : prepOp P o = some p) (h : HR P R μ s w) (hρ : EvR μ ev ρ) (hx : xop p ev s = some (v, s')) (hR : s'.next ≤ R) : Snd P R μ s w (execOp ρ o) v s' := by
  simp only [prepOp, ho, Option.map_eq_some_iff] at hp
  obtain ⟨a, ha, rfl⟩ := hp
  simp only [xop] at hx
  split at hx <;> cases hx
  · rename_i b of hv
    have hc := hρ _ _ _ ha hv
    obtain ⟨q, hq, hr⟩ := isSome_of_conc_ptr hc
    exact Snd.pure h hR (c := ρ x) (by simp [execOp, ho, hr]) hc
  · rename_i f a' c' hv
    have hc := hρ _ _ _ ha hv
    have hc' := hc
    simp only [conc] at hc'
    rw [if_pos (show Fn.plain (Fn.func f) = true from rfl)] at hc'
    simp only [Option.bind_eq_some_iff, Option.map_eq_some_iff] at hc'
    obtain ⟨y, _, z, _, hr⟩ := hc'
    exact Snd.pure h hR (c := ρ x) (by simp [execOp, ho, ← hr]) hc
  · rename_i r hv
    have hc := hρ _ _ _ ha hv
    have hc' := hc
    simp only [conc, Option.map_eq_some_iff] at hc'
    obtain ⟨q, _, hr⟩ := hc'
    exact Snd.pure h hR (c := ρ x) (by simp [execOp, ho, ← hr]) hc

theorem snd_mkIface {t : TypeId} {x : Operand} (ho : o.op = .makeInterface t x) (hp : prepOp P o = some p) (h : HR P R μ s w) (hρ : EvR μ ev ρ) (hx : xop p ev s = some (v, s')) (hR : s'.next ≤ R) : Snd P R μ s w (execOp ρ o) v s' := by
  simp only [prepOp, ho] at hp
  split at hp <;> cases hp
  rename_i d a hni hu ha
  simp only [xop] at hx
  split at hx <;> cases hx
  rename_i u hu'
  have hc := hρ _ _ _ ha hu'
  refine Snd.pure h hR (c := .iface t (ρ x)) ?_ (by simp [conc, hc])
  simp only [execOp, ho, Instr.makeInterface, Sem.run_bind, run_und hu, Result.andThen_ok]
  cases d <;> first | simp | (exact absurd rfl (hni _))

theorem evs_conc {l : List Operand} {xs : List X} (hp : prepXs l = some xs) (hρ : EvR μ ev ρ) : ∀ {vs : List AV}, evs ev xs = some vs → concs μ vs = some (l.map ρ) := by
  induction l generalizing xs with
  | nil => simp only [prepXs, Option.some.injEq] at hp; subst hp; intro vs hv; simp only [evs, Option.some.injEq] at hv; subst hv; rfl
  | cons y l ih =>
    simp only [prepXs] at hp
    split at hp <;> try cases hp
    rename_i a ha
    split at hp <;> cases hp
    rename_i r hr
    intro vs hv
    simp only [evs] at hv
    split at hv <;> try cases hv
    rename_i u hu
    split at hv <;> cases hv
    rename_i us hus
    simp only [concs, hρ _ _ _ ha hu, ih hr hus, Option.bind_some, Option.map_some, List.map_cons]

theorem snd_mkFunc {f : Fn} {a c : Array Operand} (ho : o.op = .makeFunc f a c) (hp : prepOp P o = some p) (h : HR P R μ s w) (hρ : EvR μ ev ρ) (hx : xop p ev s = some (v, s')) (hR : s'.next ≤ R) : Snd P R μ s w (execOp ρ o) v s' := by
  simp only [prepOp, ho] at hp
  split at hp <;> try cases hp
  rename_i hf
  split at hp <;> cases hp
  rename_i a' c' ha hc
  simp only [xop] at hx
  split at hx <;> cases hx
  rename_i va vc hva hvc
  have h1 := evs_conc ha hρ hva
  have h2 := evs_conc hc hρ hvc
  refine Snd.pure h hR (c := .func f (a.map ρ) (c.map ρ)) (by simp [execOp, ho, Instr.makeFunc]) ?_
  simp only [conc, if_pos hf, h1, h2, Option.bind_some, Option.map_some]
  rw [← Array.toList_map, ← Array.toList_map]

theorem snd_extract {x : Operand} {i : Nat} (ho : o.op = .extract x i) (hp : prepOp P o = some p) (h : HR P R μ s w) (hρ : EvR μ ev ρ) (hx : xop p ev s = some (v, s')) (hR : s'.next ≤ R) : Snd P R μ s w (execOp ρ o) v s' := by
  simp only [prepOp, ho, Option.map_eq_some_iff] at hp
  obtain ⟨a, ha, rfl⟩ := hp
  simp only [xop] at hx
  split at hx <;> try cases hx
  rename_i l hv
  obtain ⟨hl, rfl⟩ := pure'_some hx
  obtain ⟨xs, hxs, hr⟩ := conc_tup (hρ _ _ _ ha hv)
  obtain ⟨c, hc, hcv⟩ := concs_get hxs i v hl
  refine Snd.pure h hR (c := c) ?_ hcv
  simp [execOp, ho, Instr.extract, hr, hc]

theorem snd_makeMap {t : TypeId} (ho : o.op = .makeMap t none) (hp : prepOp P o = some p) (h : HR P R μ s w) (_ : EvR μ ev ρ) (hx : xop p ev s = some (v, s')) (hR : s'.next ≤ R) : Snd P R μ s w (execOp ρ o) v s' := by
  simp only [prepOp, ho, Option.some.injEq] at hp
  subst hp
  simp only [xop, newA, Option.some.injEq, Prod.mk.injEq] at hx
  obtain ⟨rfl, rfl⟩ := hx
  obtain ⟨h1, h2⟩ := h.new hR (.map [] 0) (.map #[] 0) 0 w.drawn ⟨#[], World.push_new w _ _, trivial⟩
  exact ⟨_, .map (some w.heap.size), _, .inl (by simp [execOp, ho, Instr.makeMap]), by simp [conc, Place.add], h1, h2⟩

theorem snd_fieldAddr {t : TypeId} {x : Operand} {i : Nat} (ho : o.op = .fieldAddr t x i) (hp : prepOp P o = some p) (h : HR P R μ s w) (hρ : EvR μ ev ρ) (hx : xop p ev s = some (v, s')) (hR : s'.next ≤ R) : Snd P R μ s w (execOp ρ o) v s' := by
  simp only [prepOp, ho] at hp
  split at hp <;> try cases hp
  rename_i f a hf ha
  split at hp <;> try cases hp
  rename_i n hn
  split at hp <;> cases hp
  rename_i hn0
  simp only [xop] at hx
  split at hx <;> cases hx
  rename_i b of hv
  obtain ⟨q, hq, hr⟩ := isSome_of_conc_ptr (hρ _ _ _ ha hv)
  refine Snd.pure h hR (c := .pointer (some ⟨q.1, of + f.offset, none⟩)) ?_ (by simp [conc, hq])
  unfold fieldOf at hf
  split at hf <;> try cases hf
  rename_i fs hu
  simp [execOp, ho, Instr.fieldAt, run_und hu, hf, Instr.sureAddr, hr, fieldPlace, run_size hn, hn0, Addr.add_mk]

theorem run_part {t : TypeId} {n : Option Nat} {cs : List AV} {off : Nat} {v : AV} {xs : List Value} (hn : (isAggB P t = some true ∧ ∃ k, sizeB P t = some k ∧ n = some k) ∨ (isAggB P t = some false ∧ n = none))
    (hxs : concs μ cs = some xs) (hv : partA n cs off = some v) (w : World) : ∃ c, conc μ v = some c ∧ (part t xs.toArray off).run P w = .ok c w := by
  rcases hn with ⟨hag, k, hk, rfl⟩ | ⟨hag, rfl⟩
  · simp only [partA, Option.some.injEq] at hv
    subst hv
    refine ⟨.agg ((xs.drop off).take k).toArray, by simp [conc, concs_take (concs_drop hxs off) k], ?_⟩
    simp [part, run_isAgg hag, run_size hk]
  · simp only [partA] at hv
    obtain ⟨c, hc, hcv⟩ := concs_get hxs off v hv
    refine ⟨c, hcv, ?_⟩
    simp [part, run_isAgg hag, hc]

theorem snd_field {t : TypeId} {x : Operand} {i : Nat} (ho : o.op = .field t x i) (hp : prepOp P o = some p) (h : HR P R μ s w) (hρ : EvR μ ev ρ) (hx : xop p ev s = some (v, s')) (hR : s'.next ≤ R) : Snd P R μ s w (execOp ρ o) v s' := by
  simp only [prepOp, ho] at hp
  split at hp <;> try cases hp
  rename_i f a hf ha
  unfold fieldOf at hf
  split at hf <;> try cases hf
  rename_i fs hu
  split at hp <;> cases hp
  · rename_i n hag hn
    simp only [xop] at hx
    split at hx
    case h_2 => cases hx
    rename_i l hv
    obtain ⟨hl, rfl⟩ : partA (some n) l f.offset = some v ∧ s = s' := by cases hx; exact ⟨rfl, rfl⟩
    obtain ⟨xs, hxs, hr⟩ := conc_agg (hρ _ _ _ ha hv)
    obtain ⟨c, hc, hrun⟩ := run_part (.inl ⟨hag, n, hn, rfl⟩) hxs hl w
    exact Snd.pure h hR (c := c) (by simp [execOp, ho, Instr.field, run_und hu, hf, asAgg, hr, hrun]) hc
  · rename_i n hag
    simp only [xop] at hx
    split at hx <;> try cases hx
    rename_i l hv
    obtain ⟨hl, rfl⟩ := pure'_some hx
    obtain ⟨xs, hxs, hr⟩ := conc_agg (hρ _ _ _ ha hv)
    obtain ⟨c, hc, hrun⟩ := run_part (.inr ⟨hag, rfl⟩) hxs hl w
    exact Snd.pure h hR (c := c) (by simp [execOp, ho, Instr.field, run_und hu, hf, asAgg, hr, hrun]) hc
end Go.Proofs.YteiiblpnegjjlaaGreat.D
namespace Go.Proofs.YteiiblpnegjjlaaGreat.D
variable {P : Program} {R : Nat} {μ : Place} {s : St} {w : World} {ev : Ev} {ρ : Operand → Value} {o : Oper} {p : POp} {v : AV} {s' : St}

theorem seg_step {α : Type} (l : List α) (k : Nat) (v : α) (rest : List α) (h : k + 1 + rest.length ≤ l.length) :
    (l.set k v).take (k + 1) ++ rest ++ (l.set k v).drop (k + 1 + rest.length) = l.take k ++ (v :: rest) ++ l.drop (k + (rest.length + 1)) := by
  have hk : k < l.length := by omega
  have h1 : (l.set k v).take (k + 1) = l.take k ++ [v] := by
    rw [List.take_set, List.take_succ_eq_append_getElem hk, List.set_append_right _ _ (by simp; omega)]
    simp [Nat.min_eq_left (Nat.le_of_lt hk)]
  have h2 : (l.set k v).drop (k + 1 + rest.length) = l.drop (k + (rest.length + 1)) := by
    rw [List.drop_set_of_lt (by omega)]
    congr 1; omega
  rw [h1, h2]; simp

/-- Cells that stand one beside the other are stored. -/
theorem run_storeList (g o : Nat) (t : TypeId) (fz : Nat × Nat) : ∀ (vs : List Value) (i : Nat) (cur : Array Value) (w : World), w.heap[g]? = some (.cells cur t fz) →
    (∀ j, j < cur.size → ¬ (fz.1 ≤ j ∧ j < fz.2)) → o + i + vs.length ≤ cur.size → (∀ v ∈ vs, v.oneCell' = true) →
    ∃ (w' : World) (cur' : Array Value), (storeCells ⟨g, o, none⟩ vs i).run P w = .ok () w' ∧ w'.heap[g]? = some (.cells cur' t fz) ∧ cur'.toList = cur.toList.take (o + i) ++ vs ++ cur.toList.drop (o + i + vs.length) ∧
      w'.os = w.os ∧ w'.output = w.output ∧ TapeLe w w' ∧ w'.heap.size = w.heap.size ∧ ∀ k, k ≠ g → w'.heap[k]? = w.heap[k]? := by
  intro vs
  induction vs with
  | nil =>
    intro i cur w hg _ _ _
    exact ⟨w, cur, rfl, hg, by simp, rfl, rfl, .refl _, rfl, fun _ _ => rfl⟩
  | cons v rest ih =>
    intro i cur w hg hf hl h1
    have hi : o + i < cur.size := by simp at hl; omega
    have hcell : w.cell? ⟨g, o + i, none⟩ = some cur[o + i] := by simp [World.cell?, hg, hi]
    have hfro : w.frozen? ⟨g, o + i, none⟩ = false := by
      have := hf (o + i) hi
      simp [World.frozen?, hg]
      intro h1
      omega
    have hglt : g < w.heap.size := (Array.getElem?_eq_some_iff.1 hg).1
    have hst : (store ((⟨g, o, none⟩ : Addr).add i) v).run P w = .ok () (w.setCell ⟨g, o + i, none⟩ v) := by
      rw [Addr.add_mk, run_store P w _ v _ (h1 v (by simp)), hcell]
      simp [hfro]
    have hg' : (w.setCell ⟨g, o + i, none⟩ v).heap[g]? = some (.cells (cur.setIfInBounds (o + i) v) t fz) := by
      have := (Array.getElem?_eq_some_iff.1 hg).2
      simp [World.setCell, Array.getElem?_modify, hg]
    obtain ⟨w', cur', e1, e2, e3, e4, e5, e6, e7, e8⟩ := ih (i + 1) (cur.setIfInBounds (o + i) v) (w.setCell ⟨g, o + i, none⟩ v) hg' (by simpa using hf) (by simp at hl ⊢; omega) (fun x hx => h1 x (by simp [hx]))
    refine ⟨w', cur', ?_, e2, ?_, e4, e5, ⟨e6.eq, e6.dr⟩, ?_, ?_⟩
    · simp only [storeCells, Sem.run_bind, hst, Result.andThen_ok, e1]
    · rw [e3]
      have e := seg_step cur.toList (o + i) v rest (by simp at hl ⊢; omega)
      simpa [Array.toList_setIfInBounds, Nat.add_assoc] using e
    · rw [e7]; simp [World.setCell]
    · intro k hk
      rw [e8 k hk]
      simp [World.setCell, Array.getElem?_modify]
      omega

theorem allCell_conc {l : List AV} (h : allCell l = true) : ∀ {xs : List Value}, concs μ l = some xs → ∀ x ∈ xs, x.oneCell' = true := by
  induction l with
  | nil => intro xs hx x hm; simp only [concs, Option.some.injEq] at hx; subst hx; cases hm
  | cons a l ih =>
    intro xs hx x hm
    simp only [allCell, Bool.and_eq_true] at h
    simp only [concs, Option.bind_eq_some_iff, Option.map_eq_some_iff] at hx
    obtain ⟨y, hy, z, hz, rfl⟩ := hx
    cases hm with
    | head =>
      have h2 := conc_cell hy h.1
      cases x <;> first | rfl | exact absurd rfl (h2 _).1 | exact absurd rfl (h2 _).2
    | tail _ hm => exact ih h.2 hz x hm

theorem concs_splice {l vs : List AV} {xs ys : List Value} (h : concs μ l = some xs) (k : concs μ vs = some ys) (off : Nat) : concs μ (splice l off vs) = some (xs.take off ++ ys ++ xs.drop (off + ys.length)) := by
  unfold splice
  rw [← concs_length k]
  exact concs_append (concs_append (concs_take h off) k) (concs_drop h _)

theorem storeA_some {s : St} {b o : Nat} {l : List AV} {s' : St} (h : storeA s b o l = some s') : ∃ vs lo z, s.get b = some (.cells vs lo false z) ∧ o + l.length ≤ vs.length ∧ allCell l = true ∧ s' = s.put b (.cells (splice vs o l) lo false z) := by
  unfold storeA at h
  split at h
  · rename_i vs lo z hg
    split at h
    · rename_i hc
      cases h; exact ⟨vs, lo, z, hg, hc.1, hc.2, rfl⟩
    · cases h
  · cases h

/-- A store into a block that is known. -/
theorem run_storeA {s : St} {w : World} (h : HR P R μ s w) {b o : Nat} {l : List AV} {s' : St} (hR : s'.next ≤ R) (hs : storeA s b o l = some s') {q : Nat × Nat} (hq : μ b = some q) {ys : List Value} (hy : concs μ l = some ys) :
    ∃ w', (storeCells ⟨q.1, o, none⟩ ys).run P w = .ok () w' ∧ HR P R μ s' w' ∧ Mv μ s w μ s' w' := by
  obtain ⟨vs, lo, z, hg, hle, hac, rfl⟩ := storeA_some hs
  obtain ⟨q', hq', c, el, fz, xs, rest, h1, h2, h3, h4, h5, h6⟩ := h.obj _ _ hg
  rw [hq] at hq'; cases hq'
  have hlen := concs_length h2
  have hly := concs_length hy
  have hcs : c.size = xs.length + rest.length := by rw [← Array.length_toList, h3]; simp
  obtain ⟨w', cur', e1, e2, e3, e4, e5, e6, e7, e8⟩ := run_storeList (P := P) q.1 o el fz ys 0 c w h1 (h6 rfl) (by omega) (allCell_conc hac hy)
  refine ⟨w', e1, h.turn hR hg hq (by simp) ?_ e4 e5 e6 e7 e8⟩
  refine ⟨cur', el, fz, xs.take o ++ ys ++ xs.drop (o + ys.length), rest, e2, concs_splice h2 hy o, ?_, h4, h5, ?_⟩
  · rw [e3, h3]
    simp only [Nat.add_zero]
    rw [List.take_append_of_le_length (by omega), List.drop_append_of_le_length (by omega)]
    simp
  · intro _ i hi
    have : cur'.size = c.size := by
      rw [← Array.length_toList, e3, ← Array.length_toList]
      simp
      omega
    exact h6 rfl i (by omega)

theorem snd_store {t : TypeId} {x y : Operand} (ho : o.op = .store t x y) (hp : prepOp P o = some p) (h : HR P R μ s w) (hρ : EvR μ ev ρ) (hx : xop p ev s = some (v, s')) (hR : s'.next ≤ R) : Snd P R μ s w (execOp ρ o) v s' := by
  simp only [prepOp, ho] at hp
  split at hp <;> cases hp
  rename_i n a b hn ha hb
  simp only [xop] at hx
  split at hx <;> try cases hx
  rename_i bb of u hav hbv
  split at hx <;> try cases hx
  rename_i hcl
  split at hx <;> cases hx
  rename_i hs
  obtain ⟨q, hq, hr⟩ := isSome_of_conc_ptr (hρ _ _ _ ha hav)
  have hc := hρ _ _ _ hb hbv
  have hcc := conc_cells hc
  obtain ⟨w', hrun, h1, h2⟩ := run_storeA h hR hs hq hcc
  refine ⟨μ, undef, w', .inr ⟨?_, rfl⟩, rfl, h1, h2⟩
  have hlen : (ρ y).cells.size = n := by have := concs_length hcc; simp at this; omega
  simp [execOp, ho, Instr.storeAt, Instr.sureAddr, hr, storeVar, run_size hn, hlen, hrun]

theorem foldl_splice (off : Nat) : ∀ (l : List Value) (k : Nat) (cs : Array Value), off + k + l.length ≤ cs.size →
    (List.foldl (fun (cs : Array Value) (x : Value × Nat) => cs.setIfInBounds (off + x.2) x.1) cs (l.zipIdx k)).toList = cs.toList.take (off + k) ++ l ++ cs.toList.drop (off + k + l.length) := by
  intro l
  induction l with
  | nil => intro k cs _; simp
  | cons x l ih =>
    intro k cs h
    simp only [List.zipIdx_cons, List.foldl_cons]
    rw [ih (k + 1) _ (by simp at h ⊢; omega)]
    have e := seg_step cs.toList (off + k) x l (by simp at h ⊢; omega)
    simpa [Array.toList_setIfInBounds, Nat.add_assoc] using e

theorem run_fill {place : Nat → Option (Nat × Nat)} : ∀ {parts : List (Nat × Operand)} {pp : List (Nat × Nat × X)} (_ : prepParts place parts = some pp) {z l : List AV} {zs : Array Value} (_ : EvR μ ev ρ)
    (_ : concs μ z = some zs.toList) (_ : fillA ev z pp = some l), ∃ cs : Array Value, Instr.fill place zs (parts.map fun x => (x.1, ρ x.2)) = some cs ∧ concs μ l = some cs.toList
  | [], pp, hp, z, l, zs, _, hz, hf => by
    simp only [prepParts, Option.some.injEq] at hp
    subst hp
    simp only [fillA, Option.some.injEq] at hf
    subst hf
    exact ⟨zs, by simp [Instr.fill], hz⟩
  | (i, y) :: r, pp, hp, z, l, zs, hρ, hz, hf => by
    simp only [prepParts] at hp
    split at hp <;> cases hp
    rename_i off size x l' hi hy hr
    simp only [fillA] at hf
    split at hf
    case h_2 => cases hf
    rename_i u hu
    split at hf
    case isFalse => cases hf
    rename_i hc
    have hcc := conc_cells (hρ _ _ _ hy hu)
    have hlen := concs_length hcc
    have hlz := concs_length hz
    simp at hlen hlz
    have hsz : (ρ y).cells.size = size := by omega
    have hsp := concs_splice hz hcc off
    have e := foldl_splice off (ρ y).cells.toList 0 zs (by simp; omega)
    simp only [Nat.add_zero] at e
    rw [← e] at hsp
    obtain ⟨cs, h1, h2⟩ := run_fill hr hρ hsp hf
    refine ⟨cs, ?_, h2⟩
    simp only [List.map_cons, Instr.fill, hi]
    rw [if_neg (by simp; omega)]
    rw [← h1]
    congr 1
    rw [← Array.foldl_toList]
    simp

theorem fieldPlaces_some {fs : Array Field} {l : List (Nat × Nat)} (h : fieldPlaces P fs = some l) (w : World) : ∃ pl : Array (Nat × Nat), (fs.mapM fun (f : Field) => (do pure (f.offset, ← sizeOf f.type) : Sem (Nat × Nat))).run P w = .ok pl w ∧ pl.toList = l := by
  unfold fieldPlaces at h
  have key : ∀ (fl : List Field) (l : List (Nat × Nat)), fl.foldr (fun f acc => match sizeB P f.type, acc with
      | some s, some l => some ((f.offset, s) :: l)
      | _, _ => none) (some []) = some l → (fl.mapM fun (f : Field) => (do pure (f.offset, ← sizeOf f.type) : Sem (Nat × Nat))).run P w = .ok l w := by
    intro fl
    induction fl with
    | nil => intro l h; simp at h; subst h; simp
    | cons f fl ih =>
      intro l h
      simp only [List.foldr_cons] at h
      split at h <;> cases h
      rename_i n l' hn hl
      simp only [List.mapM_cons, Sem.run_bind, run_size hn, Result.andThen_ok, Sem.run_pure, ih _ hl]
  have := key _ _ h
  refine ⟨l.toArray, ?_, by simp⟩
  rw [Array.mapM_eq_mapM_toList, Sem.run_map, this]
  rfl

theorem snd_build {t : TypeId} {parts : Array (Nat × Operand)} (ho : o.op = .build t parts) (hp : prepOp P o = some p) (h : HR P R μ s w) (hρ : EvR μ ev ρ) (hx : xop p ev s = some (v, s')) (hR : s'.next ≤ R) : Snd P R μ s w (execOp ρ o) v s' := by
  simp only [prepOp, ho] at hp
  split at hp
  case h_3 => cases hp
  · rename_i fs z hu hz
    split at hp
    case h_2 => cases hp
    rename_i pl hpl
    simp only [Option.map_eq_some_iff] at hp
    obtain ⟨pp, hpp, rfl⟩ := hp
    simp only [xop] at hx
    split at hx <;> cases hx
    rename_i l hl
    obtain ⟨zv, hzr, hzc⟩ := zeroB_some hz
    obtain ⟨cs, h1, h2⟩ := run_fill hpp hρ (hzc μ) hl
    obtain ⟨pla, hpr, hpe⟩ := fieldPlaces_some hpl w
    refine Snd.pure h hR (c := .agg cs) ?_ (by simp [conc, h2])
    subst hpe
    have h1' : Instr.fill (fun i => pla[i]?) zv.cells (List.map (fun x => (x.1, ρ x.2)) parts.toList) = some cs := by
      rw [← h1]; congr 1; funext i; simp
    simp only [execOp, ho, Instr.build, Sem.run_bind, hzr, Result.andThen_ok, run_und hu, hpr]
    simp [h1']
  · rename_i n e z hu hz
    split at hp
    case h_2 => cases hp
    rename_i sz hsz
    simp only [Option.map_eq_some_iff] at hp
    obtain ⟨pp, hpp, rfl⟩ := hp
    simp only [xop] at hx
    split at hx <;> cases hx
    rename_i l hl
    obtain ⟨zv, hzr, hzc⟩ := zeroB_some hz
    obtain ⟨cs, h1, h2⟩ := run_fill hpp hρ (hzc μ) hl
    refine Snd.pure h hR (c := .agg cs) ?_ (by simp [conc, h2])
    simp only [execOp, ho, Instr.build, Sem.run_bind, hzr, Result.andThen_ok, run_und hu, run_size hsz]
    simp [h1]

theorem range_mod_flatten (zs : Array Value) (n : Nat) : (Array.range (n * zs.size)).map (fun i => zs[i % zs.size]!) = (List.replicate n zs.toList).flatten.toArray := by
  apply Array.ext'
  simp only [Array.toList_map, Array.toList_range]
  induction n with
  | zero => simp
  | succ n ih =>
    rw [Nat.succ_mul, Nat.add_comm, List.range_add, List.map_append, List.replicate_succ, List.flatten_cons, List.map_map]
    congr 1
    · apply List.ext_getElem
      · simp
      · intro i h1 h2
        simp at h1
        simp [Nat.mod_eq_of_lt h1, h1]
    · rw [← ih]
      apply List.map_congr_left
      intro i _
      simp
end Go.Proofs.YteiiblpnegjjlaaGreat.D
namespace Go.Proofs.YteiiblpnegjjlaaGreat.D
variable {P : Program} {R : Nat} {μ : Place} {s : St} {w : World} {ev : Ev} {ρ : Operand → Value} {o : Oper} {p : POp} {v : AV} {s' : St}

theorem concs_rep {z : List AV} {l : List Value} (h : concs μ z = some l) (n : Nat) : concs μ (List.replicate n z).flatten = some (List.replicate n l).flatten := by
  induction n with
  | zero => rfl
  | succ n ih => simp only [List.replicate_succ, List.flatten_cons]; exact concs_append h ih

theorem snd_buildSlice {t : TypeId} {n : Nat} {parts : Array (Nat × Operand)} (ho : o.op = .buildSlice t n parts) (hp : prepOp P o = some p) (h : HR P R μ s w) (hρ : EvR μ ev ρ) (hx : xop p ev s = some (v, s')) (hR : s'.next ≤ R) : Snd P R μ s w (execOp ρ o) v s' := by
  simp only [prepOp, ho] at hp
  split at hp
  case h_2 => cases hp
  rename_i e hu
  split at hp
  case h_2 => cases hp
  rename_i sz z hsz hz
  split at hp
  case isFalse => cases hp
  rename_i hcond
  simp only [Bool.and_eq_true, beq_iff_eq, decide_eq_true_eq] at hcond
  obtain ⟨hszl, hle⟩ := hcond
  simp only [Option.map_eq_some_iff] at hp
  obtain ⟨pp, hpp, rfl⟩ := hp
  simp only [xop] at hx
  split at hx
  case h_2 => cases hx
  rename_i l hl
  simp only [newA, Option.some.injEq, Prod.mk.injEq] at hx
  obtain ⟨rfl, rfl⟩ := hx
  obtain ⟨zv, hzr, hzc⟩ := zeroB_some hz
  have hzl := concs_length (hzc μ)
  simp at hzl
  have hzs := concs_rep (hzc μ) n
  obtain ⟨cs, h1, h2⟩ := run_fill hpp hρ (zs := (List.replicate n zv.cells.toList).flatten.toArray) (by rw [hzs]) hl
  refine snd_new (c := cs) (elem := e) (fz := (0, 0)) (e := 0) (d := w.drawn) (rest := []) (cv := .slice (some ⟨w.heap.size, 0, none⟩) n n) h hR (xs := cs.toList) (fun ν hν => concs_mono hν _ _ h2) (by simp) (by simp) (fun _ => rfl) (by intro i _; simp) ?_ (by simp [conc, Place.add])
  have hge : ¬ (n * sz > 2 ^ 24) := by omega
  have hzv : zv.cells.size = sz := by omega
  have hr := range_mod_flatten zv.cells n
  rw [hzv] at hr
  simp only [execOp, ho, Instr.buildSlice, Sem.run_bind, run_und hu, Result.andThen_ok, run_size hsz, if_neg hge, Sem.run_pure]
  by_cases h0 : n * sz = 0
  · have hrep : (List.replicate n zv.cells.toList).flatten.toArray = #[] := by
      rw [← hr, h0]; simp
    rw [hrep] at h1
    have hz0 : Array.range 0 = #[] := by simp
    simp only [h0, if_true, Sem.run_pure, Result.andThen_ok, hz0, List.map_toArray, List.map_nil, Sem.run_bind]
    simp [h1, newRow]
  · simp only [if_neg h0, Sem.run_bind, hzr, Result.andThen_ok, Sem.run_pure, hzv, hr]
    simp [h1, newRow]

theorem indexA_some {v : AV} {len k : Nat} (h : indexA v len = some k) : ∃ kk n, v = .int kk n ∧ 0 ≤ n ∧ n < (len : Int) ∧ k = n.toNat := by
  unfold indexA at h
  split at h
  · rename_i kk n
    split at h <;> cases h
    rename_i hc
    exact ⟨kk, n, rfl, hc.1, hc.2, rfl⟩
  · cases h

theorem snd_indexAddr {t : TypeId} {x y : Operand} (ho : o.op = .indexAddr t x y) (hp : prepOp P o = some p) (h : HR P R μ s w) (hρ : EvR μ ev ρ) (hx : xop p ev s = some (v, s')) (hR : s'.next ≤ R) : Snd P R μ s w (execOp ρ o) v s' := by
  simp only [prepOp, ho] at hp
  split at hp
  case h_3 => cases hp
  · rename_i n e a i hu ha hi
    simp only [Option.map_eq_some_iff] at hp
    obtain ⟨sz, hsz, rfl⟩ := hp
    simp only [xop] at hx
    split at hx
    case h_2 => cases hx
    rename_i b of iv hav hiv
    split at hx <;> cases hx
    rename_i k hk
    obtain ⟨kk, m, rfl, hm0, hm1, rfl⟩ := indexA_some hk
    obtain ⟨q, hq, hr⟩ := isSome_of_conc_ptr (hρ _ _ _ ha hav)
    have hri := conc_int (hρ _ _ _ hi hiv)
    refine Snd.pure h hR (c := .pointer (some ⟨q.1, of + m.toNat * sz, none⟩)) ?_ (by simp [conc, hq])
    simp [execOp, ho, Instr.indexAt, hri, asIntOf, run_und hu, hr, Instr.sureAddr, hm0, hm1, run_size hsz, Addr.add_mk]
  · rename_i e a i hu ha hi
    simp only [Option.map_eq_some_iff] at hp
    obtain ⟨sz, hsz, rfl⟩ := hp
    simp only [xop] at hx
    split at hx
    case h_2 => cases hx
    rename_i b of len _ _ iv hav hiv
    split at hx <;> cases hx
    rename_i k hk
    obtain ⟨kk, m, rfl, hm0, hm1, rfl⟩ := indexA_some hk
    obtain ⟨q, hq, hr⟩ := conc_slice (hρ _ _ _ ha hav)
    have hri := conc_int (hρ _ _ _ hi hiv)
    refine Snd.pure h hR (c := .pointer (some ⟨q.1, of + m.toNat * sz, none⟩)) ?_ (by simp [conc, hq])
    simp [execOp, ho, Instr.indexAt, hri, asIntOf, run_und hu, hr, hm0, hm1, run_size hsz, Addr.add_mk]

theorem snd_index {t : TypeId} {x y : Operand} (ho : o.op = .index t x y) (hp : prepOp P o = some p) (h : HR P R μ s w) (hρ : EvR μ ev ρ) (hx : xop p ev s = some (v, s')) (hR : s'.next ≤ R) : Snd P R μ s w (execOp ρ o) v s' := by
  simp only [prepOp, ho] at hp
  split at hp
  case h_3 => cases hp
  · rename_i n e a i hu ha hi
    split at hp <;> cases hp
    rename_i b sz hag hsz
    simp only [xop] at hx
    split at hx
    case h_2 => cases hx
    rename_i l iv hav hiv
    split at hx
    case h_2 => cases hx
    rename_i k hk
    obtain ⟨kk, m, rfl, hm0, hm1, rfl⟩ := indexA_some hk
    have hpart : partA (if b = true then some sz else none) l (m.toNat * sz) = some v ∧ s = s' := pure'_some hx
    obtain ⟨hl, rfl⟩ := hpart
    obtain ⟨xs, hxs, hr⟩ := conc_agg (hρ _ _ _ ha hav)
    have hri := conc_int (hρ _ _ _ hi hiv)
    obtain ⟨c, hc, hrun⟩ := run_part (P := P) (t := e) (n := if b = true then some sz else none) (by cases b <;> simp [hag, hsz]) hxs hl w
    refine Snd.pure h hR (c := c) ?_ hc
    simp [execOp, ho, Instr.index, hri, asIntOf, run_und hu, hr, hm0, hm1, run_size hsz, hrun]
  · rename_i a i hu ha hi
    cases hp
    simp only [xop] at hx
    split at hx
    case h_2 => cases hx
    rename_i sv iv hav hiv
    split at hx
    case h_2 => cases hx
    rename_i k hk
    obtain ⟨kk, m, rfl, hm0, hm1, rfl⟩ := indexA_some hk
    split at hx <;> cases hx
    rename_i c hc
    have hr := conc_str (hρ _ _ _ ha hav)
    have hri := conc_int (hρ _ _ _ hi hiv)
    refine Snd.pure h hR (c := .int .u8 c.toNat) ?_ rfl
    simp [execOp, ho, Instr.index, hri, asIntOf, run_und hu, hr, hm0, hc]

theorem boundA_some {v : AV} {y k : Nat} (h : boundA v y = some k) : ∃ kk n, v = .int kk n ∧ 0 ≤ n ∧ n ≤ (y : Int) ∧ k = n.toNat ∧ k ≤ y := by
  unfold boundA at h
  split at h
  · rename_i kk n
    split at h <;> cases h
    rename_i hc
    exact ⟨kk, n, rfl, hc.1, hc.2, rfl, by omega⟩
  · cases h

theorem run_boundA {v : AV} {y y' k : Nat} (h : boundA v y = some k) (hy : y ≤ y') {c : Value} (hc : conc μ v = some c) (code : BoundsCode) (w : World) : (Instr.sliceBound c y' code).run P w = .ok k w := by
  obtain ⟨kk, n, rfl, h0, h1, rfl, _⟩ := boundA_some h
  have := conc_int hc
  subst this
  simp [Instr.sliceBound, asIntOf, h0, show n ≤ (y' : Int) by omega]

/-- An operand that may not be there. -/
def OptV (μ : Place) : Option AV → Option Value → Prop
  | none, none => True
  | some v, some c => conc μ v = some c
  | _, _ => False

theorem evO_conc {x : Option Operand} {y : Option X} (hp : optX x = some y) (hρ : EvR μ ev ρ) {v : Option AV} (hv : evO ev y = some v) : OptV μ v (x.map ρ) := by
  cases x with
  | none => simp only [optX, Option.some.injEq] at hp; subst hp; simp only [evO, Option.some.injEq] at hv; subst hv; trivial
  | some x =>
    simp only [optX, Option.map_eq_some_iff] at hp
    obtain ⟨a, ha, rfl⟩ := hp
    simp only [evO] at hv
    split at hv <;> cases hv
    rename_i u hu
    exact hρ _ _ _ ha hu

/-- The bounds of a slice expression, where the capacity is what is told, or, without a third bound, more. -/
theorem run_bounds {len cap cap' l hh m : Nat} {lo hi mx : Option AV} (h : boundsA len cap lo hi mx = some (l, hh, m)) {clo chi cmx : Option Value} (h1 : OptV μ lo clo) (h2 : OptV μ hi chi) (h3 : OptV μ mx cmx)
    (hcap : cap ≤ cap') (isSlice : Bool) (w : World) :
    (Instr.sliceBounds isSlice len cap' clo chi cmx).run P w = .ok (l, hh, if mx.isNone then cap' else m) w ∧ l ≤ hh ∧ hh ≤ m ∧ m ≤ cap ∧ (mx = none → m = cap) ∧ (hi = none → hh = len) := by
  unfold boundsA at h
  split at h
  case h_1 => cases h
  rename_i m0 hm0
  split at h
  case h_1 => cases h
  rename_i hh0 hh0e
  split at h
  case h_1 => cases h
  rename_i l0 hl0
  cases h
  have hmx : mx = none → m = cap := by intro e; subst e; simp at hm0; exact hm0.symm
  have hmle : m ≤ cap := by
    cases mx with
    | none => simp at hm0; omega
    | some u => simp at hm0; obtain ⟨_, _, _, _, _, _, hle⟩ := boundA_some hm0; exact hle
  -- the run of each
  have hlo : l ≤ hh ∧ ∀ code w, (match clo with | some v => Instr.sliceBound v hh code | none => pure 0).run P w = .ok l w := by
    cases lo with
    | none => cases clo with
      | none => simp at hl0; subst hl0; exact ⟨Nat.zero_le _, fun _ _ => rfl⟩
      | some _ => exact h1.elim
    | some u => cases clo with
      | none => exact h1.elim
      | some c => simp at hl0; obtain ⟨_, _, _, _, _, _, hle⟩ := boundA_some hl0; exact ⟨hle, fun code w => run_boundA hl0 (Nat.le_refl _) h1 code w⟩
  cases mx with
  | none => cases cmx with
    | some _ => exact h3.elim
    | none =>
      have e := hmx rfl
      subst e
      cases hi with
      | none => cases chi with
        | some _ => exact h2.elim
        | none =>
          simp at hh0e
          obtain ⟨hlm, hh0e⟩ := hh0e
          subst hh0e
          refine ⟨?_, hlo.1, hlm, hmle, fun _ => rfl, fun _ => rfl⟩
          have := hlo.2 .sliceB w
          cases clo <;> simp only [] at this <;> simp_all [Instr.sliceBounds]
      | some u => cases chi with
        | none => exact h2.elim
        | some c =>
          simp at hh0e
          obtain ⟨_, _, _, _, _, _, hle⟩ := boundA_some hh0e
          refine ⟨?_, hlo.1, hle, hmle, fun _ => rfl, by simp⟩
          have := hlo.2 .sliceB w
          have hb := fun code w => run_boundA (P := P) hh0e hcap h2 code w
          cases clo <;> simp only [] at this <;> simp_all [Instr.sliceBounds]
  | some u => cases cmx with
    | none => exact h3.elim
    | some cm =>
      simp at hm0
      have hbm := fun code w => run_boundA (P := P) hm0 hcap h3 code w
      cases hi with
      | none => simp at hh0e
      | some u => cases chi with
        | none => exact h2.elim
        | some c =>
          simp at hh0e
          obtain ⟨_, _, _, _, _, _, hle⟩ := boundA_some hh0e
          refine ⟨?_, hlo.1, hle, hmle, fun e => (by cases e), by simp⟩
          have := hlo.2 .slice3C w
          have hb := fun code w => run_boundA (P := P) hh0e (Nat.le_refl _) h2 code w
          cases clo <;> simp only [] at this <;> simp_all [Instr.sliceBounds]
end Go.Proofs.YteiiblpnegjjlaaGreat.D
namespace Go.Proofs.YteiiblpnegjjlaaGreat.D
variable {P : Program} {R : Nat} {μ : Place} {s : St} {w : World} {ev : Ev} {ρ : Operand → Value} {o : Oper} {p : POp} {v : AV} {s' : St}

theorem isZero_bound {x : Option AV} (h : isZero x = true) {c : Option Value} (hc : OptV μ x c) (y : Nat) (code : BoundsCode) (w : World) :
    (match c with | some v => Instr.sliceBound v y code | none => pure 0).run P w = .ok 0 w := by
  cases x with
  | none => cases c with
    | none => rfl
    | some _ => exact hc.elim
  | some v => cases c with
    | none => exact hc.elim
    | some c =>
      cases v <;> simp [isZero] at h
      have := conc_int hc
      subst this
      subst h
      simp [Instr.sliceBound, asIntOf]

theorem snd_slice {t : TypeId} {x : Operand} {lo hi mx : Option Operand} (ho : o.op = .slice t x lo hi mx) (hp : prepOp P o = some p) (h : HR P R μ s w) (hρ : EvR μ ev ρ) (hx : xop p ev s = some (v, s')) (hR : s'.next ≤ R) : Snd P R μ s w (execOp ρ o) v s' := by
  simp only [prepOp, ho] at hp
  split at hp
  case h_5 => cases hp
  · -- a string
    rename_i a lo' hi' hu ha hlo hhi hmx
    cases hp
    simp only [xop] at hx
    split at hx
    case h_2 => cases hx
    rename_i sv vlo vhi hav hvlo hvhi
    split at hx <;> cases hx
    rename_i l hh _ hb
    have hmx' : mx = none := by
      cases mx with
      | none => rfl
      | some y => simp [optX] at hmx
    subst hmx'
    obtain ⟨hrun, hll, hhm, hmc, hme, hhe⟩ := run_bounds (P := P) (cap' := sv.size) (cmx := none) hb (evO_conc hlo hρ hvlo) (evO_conc hhi hρ hvhi) trivial (Nat.le_refl _) false w
    have hr := conc_str (hρ _ _ _ ha hav)
    refine Snd.pure h hR (c := .string (sv.extract l hh)) ?_ rfl
    simp [execOp, ho, Instr.sliceAt, run_und hu, hr, Instr.slice, hrun]
  · -- a slice
    rename_i e a lo' hi' mx' hu ha hlo hhi hmx
    simp only [Option.map_eq_some_iff] at hp
    obtain ⟨sz, hsz, rfl⟩ := hp
    simp only [xop] at hx
    split at hx
    case h_2 => cases hx
    rename_i xv vlo vhi vmx hav hvlo hvhi hvmx
    have hsl : sliceA sz xv vlo vhi vmx = some v ∧ s = s' := pure'_some hx
    obtain ⟨hsl, rfl⟩ := hsl
    have o1 := evO_conc hlo hρ hvlo
    have o2 := evO_conc hhi hρ hvhi
    have o3 := evO_conc hmx hρ hvmx
    have hc := hρ _ _ _ ha hav
    unfold sliceA at hsl
    split at hsl
    case h_5 => cases hsl
    · -- nil
      split at hsl <;> cases hsl
      rename_i r hb
      obtain ⟨l, hh, m⟩ := r
      obtain ⟨hrun, hll, hhm, hmc, hme, hhe⟩ := run_bounds (P := P) hb o1 o2 o3 (Nat.le_refl _) true w
      have hr : ρ x = .slice none 0 0 := by simpa [conc] using hc.symm
      have hm0 : m = 0 := by omega
      subst hm0
      have hh0 : hh = 0 := by omega
      subst hh0
      have hl0 : l = 0 := by omega
      subst hl0
      refine Snd.pure h hR (c := .slice none 0 0) ?_ rfl
      simp only [execOp, ho, Instr.sliceAt, Sem.run_bind, run_und hu, Result.andThen_ok, hr, Instr.slice, hrun, run_size hsz]
      simp
    · -- an empty end
      rename_i b of adv
      split at hsl <;> cases hsl
      rename_i hcond
      simp only [Bool.and_eq_true, Option.isNone_iff_eq_none] at hcond
      obtain ⟨⟨hmx0, hz1⟩, hz2⟩ := hcond
      subst hmx0
      obtain ⟨q, hq, hr⟩ := conc_tail hc
      refine Snd.pure h hR (c := ρ x) ?_ hc
      have hmxn : mx.map ρ = none := by
        cases mx with
        | none => rfl
        | some y => exact o3.elim
      have b1 := fun (y : Nat) code w => isZero_bound (P := P) hz1 o1 y code w
      have b2 := fun (y : Nat) code w => isZero_bound (P := P) hz2 o2 y code w
      have hbounds : (Instr.sliceBounds true 0 q.2 (lo.map ρ) (hi.map ρ) none).run P w = .ok (0, 0, q.2) w := by
        cases hl : lo.map ρ <;> cases hh : hi.map ρ <;> simp only [hl, hh] at b1 b2 <;> simp [Instr.sliceBounds, b1, b2]
      simp only [execOp, ho, Instr.sliceAt, Sem.run_bind, run_und hu, Result.andThen_ok, hr, Instr.slice, hmxn, hbounds, run_size hsz]
      simp
      intro _
      simp [Addr.add]
    · -- a slice of a row
      rename_i b of len cap loose
      split at hsl
      case h_1 => cases hsl
      rename_i l hh m hb
      obtain ⟨q, hq, hr⟩ := conc_slice hc
      obtain ⟨hrun, hll, hhm, hmc, hme, hhe⟩ := run_bounds (P := P) (cap' := if loose then cap + q.2 else cap) hb o1 o2 o3 (by split <;> omega) true w
      have hval : (execOp ρ o).run P w = .ok (.value (.slice (if (if vmx.isNone then (if loose then cap + q.2 else cap) else m) = l then some ⟨q.1, of, none⟩ else some ⟨q.1, of + l * sz, none⟩) (hh - l) ((if vmx.isNone then (if loose then cap + q.2 else cap) else m) - l))) w := by
        simp only [execOp, ho, Instr.sliceAt, Sem.run_bind, run_und hu, Result.andThen_ok, hr, Instr.slice, hrun, run_size hsz, Option.map_some, Addr.add_mk, Sem.run_pure]
      split at hsl
      · rename_i hlo2
        simp only [Bool.and_eq_true, Option.isNone_iff_eq_none] at hlo2
        obtain ⟨rfl, hmxn⟩ := hlo2
        have hmcap := hme hmxn
        subst hmcap
        simp only [hmxn, Option.isNone_none, if_true] at hval
        split at hsl <;> cases hsl
        · rename_i hml
          subst hml
          have hh1 : hh = m := by omega
          refine Snd.pure h hR hval ?_
          simp only [conc, hq, Option.map_some, Option.some.injEq]
          have e1 : hh - m = 0 := by omega
          have e2 : m + q.2 - m = q.2 := by omega
          rw [e1, e2]
          by_cases h0 : q.2 = 0
          · simp [h0]
          · rw [if_neg h0, if_neg (by omega)]
        · rename_i hml
          refine Snd.pure h hR hval ?_
          have : l < m := by omega
          simp only [conc, hq, Option.map_some, Option.some.injEq, if_true]
          rw [if_neg (by omega)]
          congr 1
          omega
      · rename_i hlo2
        cases hsl
        refine Snd.pure h hR hval ?_
        simp only [conc, hq, Option.map_some, Option.some.injEq, if_false, Bool.false_eq_true]
        have hM : (if vmx.isNone then (if loose = true then cap + q.2 else cap) else m) = m := by
          cases hvm : vmx with
          | some _ => simp
          | none =>
            have := hme hvm
            simp [hvm] at hlo2
            simp [hlo2, this]
        rw [hM]
        by_cases hml : m = l <;> simp [hml]
    · -- an empty one, unread
      rename_i a
      split at hsl <;> cases hsl
      rename_i r hb
      obtain ⟨l, hh, m⟩ := r
      obtain ⟨hrun, hll, hhm, hmc, hme, hhe⟩ := run_bounds (P := P) hb o1 o2 o3 (Nat.le_refl _) true w
      have hr : ρ x = .slice a 0 0 := by simpa [conc] using hc.symm
      have hm0 : m = 0 := by omega
      subst hm0
      have hh0 : hh = 0 := by omega
      subst hh0
      have hl0 : l = 0 := by omega
      subst hl0
      refine Snd.pure h hR (c := .slice a 0 0) ?_ rfl
      simp only [execOp, ho, Instr.sliceAt, Sem.run_bind, run_und hu, Result.andThen_ok, hr, Instr.slice, hrun, run_size hsz]
      simp
  · -- a pointer to an array
    rename_i a' a lo' hi' mx' hu ha hlo hhi hmx
    split at hp
    case h_2 => cases hp
    rename_i n e hua
    simp only [Option.map_eq_some_iff] at hp
    obtain ⟨sz, hsz, rfl⟩ := hp
    simp only [xop] at hx
    split at hx
    case h_2 => cases hx
    rename_i b of vlo vhi vmx hav hvlo hvhi hvmx
    split at hx <;> cases hx
    rename_i l hh m hb
    obtain ⟨q, hq, hr⟩ := isSome_of_conc_ptr (hρ _ _ _ ha hav)
    obtain ⟨hrun, hll, hhm, hmc, hme, hhe⟩ := run_bounds (P := P) hb (evO_conc hlo hρ hvlo) (evO_conc hhi hρ hvhi) (evO_conc hmx hρ hvmx) (Nat.le_refl _) false w
    have hM : (if vmx.isNone then n else m) = m := by
      cases hvm : vmx with
      | some _ => simp
      | none => simp [hme hvm]
    rw [hM] at hrun
    refine Snd.pure h hR (c := .slice (if m = l then some ⟨q.1, of, none⟩ else some ⟨q.1, of + l * sz, none⟩) (hh - l) (m - l)) ?_ (by simp [conc, hq]; split <;> rfl)
    simp only [execOp, ho, Instr.sliceAt, Sem.run_bind, run_und hu, Result.andThen_ok, hr, Instr.slice, asAddr, Sem.run_pure, run_und hua, hrun, run_size hsz, Addr.add_mk]
    split <;> rfl
  · -- an array by its address
    rename_i n e a lo' hi' mx' hu ha hlo hhi hmx
    simp only [Option.map_eq_some_iff] at hp
    obtain ⟨sz, hsz, rfl⟩ := hp
    simp only [xop] at hx
    split at hx
    case h_2 => cases hx
    rename_i b of vlo vhi vmx hav hvlo hvhi hvmx
    split at hx <;> cases hx
    rename_i l hh m hb
    obtain ⟨q, hq, hr⟩ := isSome_of_conc_ptr (hρ _ _ _ ha hav)
    obtain ⟨hrun, hll, hhm, hmc, hme, hhe⟩ := run_bounds (P := P) hb (evO_conc hlo hρ hvlo) (evO_conc hhi hρ hvhi) (evO_conc hmx hρ hvmx) (Nat.le_refl _) false w
    have hM : (if vmx.isNone then n else m) = m := by
      cases hvm : vmx with
      | some _ => simp
      | none => simp [hme hvm]
    rw [hM] at hrun
    refine Snd.pure h hR (c := .slice (if m = l then some ⟨q.1, of, none⟩ else some ⟨q.1, of + l * sz, none⟩) (hh - l) (m - l)) ?_ (by simp [conc, hq]; split <;> rfl)
    simp only [execOp, ho, Instr.sliceAt, Sem.run_bind, run_und hu, Result.andThen_ok, hr, Instr.sureAddr, Sem.run_pure, hrun, run_size hsz, Addr.add_mk]
    split <;> rfl
end Go.Proofs.YteiiblpnegjjlaaGreat.D
namespace Go.Proofs.YteiiblpnegjjlaaGreat.D
variable {P : Program} {R : Nat} {μ : Place} {s : St} {w : World} {ev : Ev} {ρ : Operand → Value} {o : Oper} {p : POp} {v : AV} {s' : St}

theorem bytesA_some : ∀ {l : List AV} {bs : List UInt8} (_ : bytesA l = some bs) {xs : List Value} (_ : concs μ l = some xs), ∃ ns : List Int, xs = ns.map (fun n => Value.int .u8 n) ∧ bs = ns.map fun n => UInt8.ofNat n.toNat
  | [], bs, h, xs, hx => by
    simp only [bytesA, Option.some.injEq] at h
    simp only [concs, Option.some.injEq] at hx
    subst h; subst hx
    exact ⟨[], rfl, rfl⟩
  | v :: r, bs, h, xs, hx => by
    unfold bytesA at h
    split at h
    · rename_i e; cases e
    · rename_i n r' e
      cases e
      split at h <;> cases h
      rename_i l hl
      simp only [concs, conc, Option.bind_some, Option.map_eq_some_iff] at hx
      obtain ⟨y, hy, rfl⟩ := hx
      obtain ⟨ns, h1, h2⟩ := bytesA_some hl hy
      exact ⟨n :: ns, by simp [h1], by simp [h2]⟩
    · cases h

theorem foldl_push (ns : List Int) : ∀ (acc : ByteArray), ns.foldl (fun r n => r.push (UInt8.ofNat n.toNat)) acc = ⟨acc.data ++ (ns.map fun n => UInt8.ofNat n.toNat).toArray⟩ := by
  induction ns with
  | nil => intro acc; simp
  | cons n ns ih =>
    intro acc
    rw [List.foldl_cons, ih]
    simp [ByteArray.push]

theorem snd_convert {t d : TypeId} {x : Operand} (ho : o.op = .convert t d x) (hp : prepOp P o = some p) (h : HR P R μ s w) (hρ : EvR μ ev ρ) (hx : xop p ev s = some (v, s')) (hR : s'.next ≤ R) : Snd P R μ s w (execOp ρ o) v s' := by
  simp only [prepOp, ho] at hp
  split at hp
  case h_5 => cases hp
  · rename_i k0 k a hut hud ha
    cases hp
    simp only [xop] at hx
    split at hx <;> cases hx
    rename_i k1 n hav
    have hr := conc_int (hρ _ _ _ ha hav)
    refine Snd.pure h hR (c := .int k (k.wrap n)) ?_ rfl
    simp [execOp, ho, convert, run_und hut, run_und hud, hr, Conv.intToInt]
  · rename_i a hut hud ha
    cases hp
    simp only [xop] at hx
    split at hx <;> cases hx
    rename_i sv hav
    have hr := conc_str (hρ _ _ _ ha hav)
    refine Snd.pure h hR (c := .string sv) ?_ rfl
    simp [execOp, ho, convert, run_und hut, run_und hud, hr]
  · rename_i e a hut hud ha
    split at hp <;> cases hp
    rename_i hue hsz
    simp only [xop] at hx
    split at hx
    case h_2 => cases hx
    rename_i sv hav
    simp only [newA, Option.some.injEq, Prod.mk.injEq] at hx
    obtain ⟨rfl, rfl⟩ := hx
    have hr := conc_str (hρ _ _ _ ha hav)
    have hrun := run_bytes_of_string (P := P) w t d e sv hut hud hue
    obtain ⟨cap, hcap⟩ : ∃ cap, grownCap w sv.size 0 e = sv.size + cap := ⟨_, rfl⟩
    rw [hcap] at hrun
    refine snd_new (c := bytesRow sv (sv.size + cap)) (elem := e) (fz := ((bytesRow sv (sv.size + cap)).size, (bytesRow sv (sv.size + cap)).size + 1)) (e := cap) (d := w.drawn + 1) (rest := List.replicate cap (Value.int .u8 0))
      (cv := .slice (some ⟨w.heap.size, 0, none⟩) sv.size (sv.size + cap)) h hR (xs := sv.data.toList.map fun c => Value.int .u8 c.toNat) ?_ (by simp [bytesRow]) (by simp) (by simp) ?_ ?_ ?_
    · intro ν _
      induction sv.data.toList with
      | nil => rfl
      | cons c l ih => simp [concs, conc, ih]
    · intro i hi h1
      have := h1.1
      exact absurd hi (Nat.not_lt.2 this)
    · simp only [execOp, ho, Sem.run_bind, hr, hrun, Result.andThen_ok, Sem.run_pure]
      rfl
    · simp [conc, Place.add]
  · rename_i e a hut hud ha
    split at hp <;> cases hp
    rename_i hue
    simp only [xop] at hx
    split at hx
    case h_6 => cases hx
    · rename_i hav
      cases hx
      have hr : ρ x = .slice none 0 0 := by simpa [conc] using (hρ _ _ _ ha hav).symm
      refine Snd.pure h hR (c := .string .empty) ?_ rfl
      simp [execOp, ho, convert, run_und hut, run_und hud, run_und hue, hr, Conv.bytesToString]
    · rename_i b of adv hav
      cases hx
      obtain ⟨q, hq, hr⟩ := conc_tail (hρ _ _ _ ha hav)
      refine Snd.pure h hR (c := .string .empty) ?_ rfl
      simp [execOp, ho, convert, run_und hut, run_und hud, run_und hue, hr, Conv.bytesToString, loadCells, loadCellsFrom]
    · rename_i ad cp hav
      cases hx
      have hr : ρ x = .slice ad 0 cp := by simpa [conc] using (hρ _ _ _ ha hav).symm
      refine Snd.pure h hR (c := .string .empty) ?_ rfl
      cases ad <;> simp [execOp, ho, convert, run_und hut, run_und hud, run_und hue, hr, Conv.bytesToString, loadCells, loadCellsFrom]
    · rename_i b of _ _ hav
      cases hx
      obtain ⟨q, hq, hr⟩ := conc_slice (hρ _ _ _ ha hav)
      refine Snd.pure h hR (c := .string .empty) ?_ rfl
      simp [execOp, ho, convert, run_und hut, run_und hud, run_und hue, hr, Conv.bytesToString, loadCells, loadCellsFrom]
    · rename_i b of len _ _ _ hav
      split at hx
      case h_2 => cases hx
      rename_i l hl
      split at hx <;> cases hx
      rename_i bs hbs
      obtain ⟨q, hq, hr⟩ := conc_slice (hρ _ _ _ ha hav)
      obtain ⟨xs, hxs, _, hrun⟩ := run_loadA h hl hq
      obtain ⟨ns, rfl, rfl⟩ := bytesA_some hbs hxs
      refine Snd.pure h hR (c := .string ⟨(ns.map fun n => UInt8.ofNat n.toNat).toArray⟩) ?_ rfl
      have hrun' := fun c => run_bytesToString (P := P) w ⟨q.1, of, none⟩ len c ns hrun
      simp only [foldl_push] at hrun'
      simp only [execOp, ho, Sem.run_bind, hr]
      rw [run_convert_bytes_string w t d e _ _ _ hut hue hud, hrun']
      simp [ByteArray.empty, ByteArray.emptyWithCapacity]
      rfl
end Go.Proofs.YteiiblpnegjjlaaGreat.D
namespace Go.Proofs.YteiiblpnegjjlaaGreat.D
variable {P : Program} {R : Nat} {μ : Place} {s : St} {w : World} {ev : Ev} {ρ : Operand → Value} {o : Oper} {p : POp} {v : AV} {s' : St}

theorem cellsEq_length : ∀ {ks : List Nat} {a b : List AV} {r : Bool}, cellsEq ks a b = some r → a.length = ks.length ∧ b.length = ks.length
  | [], [], [], _, _ => ⟨rfl, rfl⟩
  | k :: ks, x :: a, y :: b, r, h => by
    simp only [cellsEq] at h
    split at h
    · have := cellsEq_length h; simp; omega
    · split at h
      · rename_i hc; simp; omega
      · cases h
    · cases h
  | [], [], _ :: _, _, h => by simp [cellsEq] at h
  | [], _ :: _, _, _, h => by simp [cellsEq] at h
  | _ :: _, [], _, _, h => by simp [cellsEq] at h
  | _ :: _, _ :: _, [], _, h => by simp [cellsEq] at h

/-- Two rows of cells, part by part: what the first parts say, then what the others say. -/
theorem cellsEq_append : ∀ {k1 k2 : List Nat} {a b : List AV} {r : Bool}, cellsEq (k1 ++ k2) a b = some r →
    ∃ r1, cellsEq k1 (a.take k1.length) (b.take k1.length) = some r1 ∧ (r1 = false → r = false) ∧ (r1 = true → cellsEq k2 (a.drop k1.length) (b.drop k1.length) = some r)
  | [], k2, a, b, r, h => ⟨true, by simp [cellsEq], by simp, fun _ => by simpa using h⟩
  | k :: k1, k2, [], b, r, h => by simp [cellsEq] at h
  | k :: k1, k2, x :: a, [], r, h => by simp [cellsEq] at h
  | k :: k1, k2, x :: a, y :: b, r, h => by
    have hl := cellsEq_length h
    simp only [List.cons_append, cellsEq] at h
    split at h
    · rename_i hx
      obtain ⟨r1, h1, h2, h3⟩ := cellsEq_append h
      exact ⟨r1, by simp [cellsEq, hx, h1], h2, by simpa using h3⟩
    · rename_i hx
      split at h <;> cases h
      rename_i hc
      simp at hl hc
      exact ⟨false, by simp [cellsEq, hx]; omega, fun _ => rfl, by simp⟩
    · cases h

/-- A part of a value, as a value of its own. -/
def asValue (agg : Bool) (xs : List Value) : Value := if agg then .agg xs.toArray else xs.getD 0 undef

theorem run_part_is {t : TypeId} {b : Bool} {n : Nat} (hb : isAggB P t = some b) (hn : sizeB P t = some n) (h1 : b = false → n = 1) (xs : List Value) (off : Nat) (hle : off + n ≤ xs.length) (w : World) :
    (part t xs.toArray off).run P w = .ok (asValue b ((xs.drop off).take n)) w := by
  cases b with
  | true =>
    simp only [part, Sem.run_bind, run_isAgg hb, Result.andThen_ok, if_true, run_size hn, Sem.run_pure, asValue]
    simp
  | false =>
    have := h1 rfl
    subst this
    have hlt : off < xs.length := by omega
    simp [part, run_isAgg hb, asValue, hlt]

theorem flat_agg {d : Nat} {t : TypeId} {ks : List Nat} (h : flat P d t = some ks) : ∃ b, isAggB P t = some b ∧ (b = false → ∃ k, ks = [k]) := by
  cases d with
  | zero => simp [flat] at h
  | succ d =>
    unfold flat at h
    unfold isAggB
    split at h <;> first | (cases h; done) | skip
    all_goals rename_i hu
    all_goals simp only [hu]
    all_goals first
      | (refine ⟨false, rfl, fun _ => ?_⟩; simp only [Option.some.injEq] at h; exact ⟨_, h.symm⟩)
      | exact ⟨true, rfl, by simp⟩

/-- One part of a struct or an array, where the whole's cells are held against one another. -/
theorem step_flat {d D : Nat} (ih : ∀ (t : TypeId) (ks : List Nat), flat P d t = some ks → ∀ (b : Bool) (asg bs : List AV) (xs ys : List Value) (r : Bool), isAggB P t = some b → concs μ asg = some xs → concs μ bs = some ys → cellsEq ks asg bs = some r → ∀ w,
      (Op.equalIn (d + D) t (asValue b xs) (asValue b ys)).run P w = .ok r w)
    {t : TypeId} {m k2 : List Nat} {n off : Nat} (hm : flat P d t = some m) (hn : sizeB P t = some n) (hnm : n = m.length)
    {asg bs : List AV} {xs ys : List Value} {r : Bool} (hxs : concs μ asg = some xs) (hys : concs μ bs = some ys) (hle1 : off + n ≤ asg.length) (hle2 : off + n ≤ bs.length)
    (hr : cellsEq (m ++ k2) (asg.drop off) (bs.drop off) = some r) (w : World) :
    ∃ (x y : Value) (r1 : Bool), (part t xs.toArray off).run P w = .ok x w ∧ (part t ys.toArray off).run P w = .ok y w ∧ (Op.equalIn (d + D) t x y).run P w = .ok r1 w ∧ (r1 = false → r = false) ∧
      (r1 = true → cellsEq k2 (asg.drop (off + n)) (bs.drop (off + n)) = some r) := by
  obtain ⟨b, hb, hb1⟩ := flat_agg hm
  have hl1 := concs_length hxs
  have hl2 := concs_length hys
  have h1 : b = false → n = 1 := fun e => by obtain ⟨k, rfl⟩ := hb1 e; exact hnm
  obtain ⟨r1, e1, e2, e3⟩ := cellsEq_append hr
  rw [← hnm] at e1 e3
  refine ⟨_, _, r1, run_part_is hb hn h1 xs off (by omega) w, run_part_is hb hn h1 ys off (by omega) w, ih t m hm b _ _ _ _ r1 hb (concs_take (concs_drop hxs off) n) (concs_take (concs_drop hys off) n) e1 w, e2, fun e => ?_⟩
  have := e3 e
  rwa [List.drop_drop, List.drop_drop] at this

theorem equal_flat : ∀ (d D : Nat) (t : TypeId) (ks : List Nat), flat P d t = some ks → ∀ (b : Bool) (asg bs : List AV) (xs ys : List Value) (r : Bool), isAggB P t = some b → concs μ asg = some xs → concs μ bs = some ys →
    cellsEq ks asg bs = some r → ∀ w, (Op.equalIn (d + D) t (asValue b xs) (asValue b ys)).run P w = .ok r w := by
  intro d
  induction d with
  | zero => intro D t ks h; simp [flat] at h
  | succ d ih =>
    intro D t ks h b asg bs xs ys r hb hxs hys hr w
    have hD : d + 1 + D = (d + D) + 1 := by omega
    rw [hD]
    have leaf : ∀ k, ks = [k] → b = false → ∃ a c x y, leafEq k a c = some r ∧ conc μ a = some x ∧ conc μ c = some y ∧ xs = [x] ∧ ys = [y] := by
      intro k hk _
      subst hk
      obtain ⟨l1, l2⟩ := cellsEq_length hr
      obtain ⟨a, rfl⟩ := List.length_eq_one_iff.1 l1
      obtain ⟨c, rfl⟩ := List.length_eq_one_iff.1 l2
      simp only [concs, Option.bind_eq_some_iff, Option.map_eq_some_iff, Option.some.injEq] at hxs hys
      obtain ⟨x, hx, _, rfl, rfl⟩ := hxs
      obtain ⟨y, hy, _, rfl, rfl⟩ := hys
      refine ⟨a, c, x, y, ?_, hx, hy, rfl, rfl⟩
      simp only [cellsEq] at hr
      split at hr
      · rename_i e; cases hr; exact e
      · rename_i e; split at hr <;> cases hr; exact e
      · cases hr
    unfold flat at h
    split at h
    case h_6 => cases h
    · rename_i hu
      cases h
      have hbf : b = false := by unfold isAggB at hb; simp [hu] at hb; exact hb
      subst hbf
      obtain ⟨a, c, x, y, e, hx, hy, rfl, rfl⟩ := leaf 0 rfl rfl
      cases a <;> cases c <;> simp [leafEq] at e
      have := conc_bool hx; subst this
      have := conc_bool hy; subst this
      subst e
      simp [asValue, Op.equalIn, run_und hu]
    · rename_i k hu
      cases h
      have hbf : b = false := by unfold isAggB at hb; simp [hu] at hb; exact hb
      subst hbf
      obtain ⟨a, c, x, y, e, hx, hy, rfl, rfl⟩ := leaf 1 rfl rfl
      cases a <;> cases c <;> simp [leafEq] at e
      have := conc_int hx; subst this
      have := conc_int hy; subst this
      obtain ⟨rfl, rfl⟩ := e
      simp [asValue, Op.equalIn, run_und hu]
    · rename_i hu
      cases h
      have hbf : b = false := by unfold isAggB at hb; simp [hu] at hb; exact hb
      subst hbf
      obtain ⟨a, c, x, y, e, hx, hy, rfl, rfl⟩ := leaf 2 rfl rfl
      cases a <;> cases c <;> simp [leafEq] at e
      have := conc_str hx; subst this
      have := conc_str hy; subst this
      subst e
      simp [asValue, Op.equalIn, run_und hu]
    · -- a struct
      rename_i fs hu
      have hbt : b = true := by unfold isAggB at hb; simp [hu] at hb; exact hb
      subst hbt
      split at h
      · cases h
      · rename_i hst
        have hfs : P.underlying t = some (.struct (P.fieldsOf t)) := by simp [Program.fieldsOf, hu]
        have hfe : P.fieldsOf t = fs := by simp [Program.fieldsOf, hu]
        simp only [asValue, if_true]
        rw [run_equalIn_struct w (d + D) t _ _ hfs (by simpa using hst), hfe]
        -- the fields, one behind the other
        have key : ∀ (fl : List Field) (done ks : List Nat), fl.foldl (fun acc f => match acc with
              | none => none
              | some l => if f.name ≠ "_" && f.offset == l.length then
                  match flat P d f.type, (P.info? f.type).map (·.size) with
                  | some m, some s => if s == m.length then some (l ++ m) else none
                  | _, _ => none
                else none) (some done) = some ks → ∃ k2, ks = done ++ k2 ∧
              (asg.length = ks.length → bs.length = ks.length → cellsEq k2 (asg.drop done.length) (bs.drop done.length) = some r → (Op.eqFields (d + D) xs.toArray ys.toArray fl).run P w = .ok r w) := by
          intro fl
          induction fl with
          | nil =>
            intro done ks hk
            simp only [List.foldl_nil, Option.some.injEq] at hk
            subst hk
            refine ⟨[], by simp, fun h1 h2 h3 => ?_⟩
            rw [List.drop_eq_nil_of_le (by omega), List.drop_eq_nil_of_le (by omega)] at h3
            simp only [cellsEq, Option.some.injEq] at h3
            subst h3
            simp [Op.eqFields]
          | cons f fl ihf =>
            intro done ks hk
            simp only [List.foldl_cons] at hk
            have hnone : ∀ fl : List Field, fl.foldl (fun acc f => match acc with
              | none => none
              | some l => if f.name ≠ "_" && f.offset == l.length then
                  match flat P d f.type, (P.info? f.type).map (·.size) with
                  | some m, some s => if s == m.length then some (l ++ m) else none
                  | _, _ => none
                else none) (none : Option (List Nat)) = none := by
              intro fl; induction fl with
              | nil => rfl
              | cons _ _ ih => simpa using ih
            split at hk
            case isFalse => rw [hnone] at hk; cases hk
            rename_i hc
            split at hk
            case h_2 => rw [hnone] at hk; cases hk
            rename_i m n hm hn
            split at hk
            case isFalse => rw [hnone] at hk; cases hk
            rename_i hnm
            simp only [Bool.and_eq_true, beq_iff_eq, ne_eq, decide_not, Bool.not_eq_true', decide_eq_false_iff_not] at hc hnm
            obtain ⟨k2, rfl, hrest⟩ := ihf _ _ hk
            refine ⟨m ++ k2, by simp, fun h1 h2 h3 => ?_⟩
            simp only [List.length_append] at h1 h2
            obtain ⟨x, y, r1, p1, p2, p3, q1, q2⟩ := step_flat (D := D) (fun t ks h b asg bs xs ys r h1 h2 h3 h4 w => ih D t ks h b asg bs xs ys r h1 h2 h3 h4 w) hm hn hnm hxs hys (off := done.length) (by omega) (by omega) h3 w
            simp only [Op.eqFields, ne_eq, hc.1, not_false_eq_true, if_true, Sem.run_bind, hc.2, p1, p2, p3, Result.andThen_ok]
            cases r1
            · simp [q1 rfl]
            · simp only [Bool.not_true, Bool.false_eq_true, if_false]
              refine hrest (by simp; omega) (by simp; omega) ?_
              have := q2 rfl
              rw [hnm] at this
              simpa using this
        obtain ⟨k2, rfl, hk⟩ := key fs.toList [] ks h
        obtain ⟨l1, l2⟩ := cellsEq_length hr
        exact hk (by simpa using l1) (by simpa using l2) (by simpa using hr)
    · -- an array
      rename_i n e hu
      have hbt : b = true := by unfold isAggB at hb; simp [hu] at hb; exact hb
      subst hbt
      split at h
      case h_2 => cases h
      rename_i m sz hm hsz
      split at h <;> cases h
      rename_i hnm
      simp only [beq_iff_eq] at hnm
      simp only [Option.map_eq_some_iff] at hsz
      obtain ⟨i, hi, hisz⟩ := hsz
      have hcell : P.cellsOf e = sz := by simp [Program.cellsOf, hi, hisz]
      have hszB : sizeB P e = some sz := by simp [sizeB, hi, hisz]
      simp only [asValue, if_true]
      rw [run_equalIn_array w (d + D) _ _ hu hi, hcell, List.range_eq_range']
      have key : ∀ (j k : Nat), k + j = n → asg.length = n * sz → bs.length = n * sz → ∀ r, cellsEq (List.replicate j m).flatten (asg.drop (k * sz)) (bs.drop (k * sz)) = some r → (Op.eqItems (d + D) e sz xs.toArray ys.toArray (List.range' k j)).run P w = .ok r w := by
        intro j
        induction j with
        | zero =>
          intro k hk h1 h2 r' hr'
          have hkn : k = n := by omega
          rw [hkn, List.drop_eq_nil_of_le (by omega), List.drop_eq_nil_of_le (by omega)] at hr'
          simp only [List.replicate_zero, List.flatten_nil, cellsEq, Option.some.injEq] at hr'
          subst hr'
          simp [Op.eqItems]
        | succ j ihj =>
          intro k hk h1 h2 r' hr'
          rw [List.replicate_succ, List.flatten_cons] at hr'
          have hks : k * sz + sz ≤ n * sz := by
            have : (k + 1) * sz ≤ n * sz := Nat.mul_le_mul_right _ (by omega)
            rw [Nat.succ_mul] at this; exact this
          obtain ⟨x, y, r1, p1, p2, p3, q1, q2⟩ := step_flat (D := D) (fun t ks h b asg bs xs ys r h1 h2 h3 h4 w => ih D t ks h b asg bs xs ys r h1 h2 h3 h4 w) hm hszB hnm hxs hys (off := k * sz) (by omega) (by omega) hr' w
          simp only [List.range'_succ, Op.eqItems, Sem.run_bind, p1, p2, p3, Result.andThen_ok]
          cases r1
          · simp [q1 rfl]
          · simp only [Bool.not_true, Bool.false_eq_true, if_false]
            refine ihj (k + 1) (by omega) h1 h2 r' ?_
            have := q2 rfl
            rw [Nat.succ_mul]
            exact this
      obtain ⟨l1, l2⟩ := cellsEq_length hr
      have hlen : ((List.replicate n m).flatten).length = n * sz := by simp [hnm]
      exact key n 0 (by omega) (by omega) (by omega) r (by simpa using hr)
end Go.Proofs.YteiiblpnegjjlaaGreat.D
namespace Go.Proofs.YteiiblpnegjjlaaGreat.D
variable {P : Program} {R : Nat} {μ : Place} {s : St} {w : World} {ev : Ev} {ρ : Operand → Value} {o : Oper} {p : POp} {v : AV} {s' : St}

theorem intBin_run {op : BinOp} {k : IntKind} {a b : Int} {v : AV} (h : intBin op k a b = some v) (t : TypeId) (w : World) (hs : op ≠ .shl ∧ op ≠ .shr) : ∃ c, conc μ v = some c ∧ (binOp op t (.int k a) (.int k b)).run P w = .ok c w := by
  cases op <;> simp only [intBin, Option.some.injEq] at h
  case quo =>
    split at h <;> cases h
    rename_i hb
    exact ⟨_, rfl, by simp [binOp, Op.intDiv, hb]⟩
  case rem =>
    split at h <;> cases h
    rename_i hb
    exact ⟨_, rfl, by simp [binOp, Op.intDiv, hb]⟩
  case shl => exact absurd rfl hs.1
  case shr => exact absurd rfl hs.2
  all_goals first
    | (subst h; exact ⟨_, rfl, by simp [binOp, Op.intArith, Op.intBits, Op.intCmp]⟩)
    | cases h

theorem strBin_run {op : BinOp} {a b : ByteArray} {v : AV} (h : strBin op a b = some v) (t : TypeId) (w : World) : ∃ c, conc μ v = some c ∧ (binOp op t (.string a) (.string b)).run P w = .ok c w := by
  cases op <;> simp only [strBin, Option.some.injEq] at h
  case add =>
    split at h <;> cases h
    rename_i hb
    refine ⟨_, rfl, ?_⟩
    simp only [binOp, Op.stringOp, if_neg hb, Sem.run_pure]
  all_goals first
    | (subst h; exact ⟨_, rfl, by simp [binOp, Op.stringOp]⟩)
    | cases h

/-- What a way of holding two values against one another says of their type. -/
def EqK.says (P : Program) (t : TypeId) (x y : Operand) : EqK → Prop
  | .leaf => P.underlying t = some .bool
  | .ptr => ∃ e, P.underlying t = some (.pointer e)
  | .slice => ∃ e, P.underlying t = some (.slice e)
  | .map => ∃ e f, P.underlying t = some (.map e f)
  | .func => ∃ e f g, P.underlying t = some (.func e f g)
  | .iface => (∃ e, P.underlying t = some (.interface e)) ∧ (isC x || isC y) = true
  | .cells ks => P.eqGuardType P.depth t = false ∧ flat P 12 t = some ks ∧ isAggB P t = some true
  | .no => True

theorem eqK_says (t : TypeId) (x y : Operand) : (eqK P t x y).says P t x y := by
  unfold eqK
  cases hu : P.underlying t with
  | none => trivial
  | some d =>
    cases d <;> simp only []
    case bool => exact hu
    case pointer e => exact ⟨e, hu⟩
    case slice e => exact ⟨e, hu⟩
    case map e f => exact ⟨e, f, hu⟩
    case func e f g => exact ⟨e, f, g, hu⟩
    case interface e =>
      split
      · rename_i hc; exact ⟨⟨e, hu⟩, hc⟩
      · trivial
    case struct fs =>
      split
      · trivial
      · rename_i hg
        split
        · rename_i l hl; exact ⟨by simpa using hg, hl, by simp [isAggB, hu]⟩
        · trivial
    case array n e =>
      split
      · trivial
      · rename_i hg
        split
        · rename_i l hl; exact ⟨by simpa using hg, hl, by simp [isAggB, hu]⟩
        · trivial
    all_goals trivial

theorem isC_matches (x : Operand) : (match x with | .const _ => true | _ => false) = isC x := by cases x <;> rfl

/-- The model's comparison, as a whole. -/
def cmpRun (P : Program) (op : BinOp) (t : TypeId) (x y : Operand) (ca cb : Value) (w : World) (r : Bool) : Prop :=
  (eqGuard op t x y ca cb).run P w = .ok () w ∧ (binOp op t ca cb).run P w = .ok (.bool r) w

theorem equal_of {t : TypeId} {d : TypeDesc} (hu : P.underlying t = some d) {x y : Value} {r : Bool} {w : World} {k : TypeDesc → Sem Bool} (hk : Op.equal t x y = underlying t >>= k) (hr : (k d).run P w = .ok r w) : (Op.equal t x y).run P w = .ok r w := by
  rw [hk, Sem.run_bind, run_und hu]; exact hr

theorem cmp_of {t : TypeId} {x y : Operand} {ca cb : Value} {r : Bool} {w : World} (h : (Op.equal t ca cb).run P w = .ok r w) (g1 : (eqGuard .eql t x y ca cb).run P w = .ok () w) (g2 : (eqGuard .neq t x y ca cb).run P w = .ok () w)
    (b1 : binOp .eql t ca cb = Op.equal t ca cb >>= fun b => pure (.bool b)) (b2 : binOp .neq t ca cb = Op.equal t ca cb >>= fun b => pure (.bool (!b))) :
    cmpRun P .eql t x y ca cb w r ∧ cmpRun P .neq t x y ca cb w (!r) :=
  ⟨⟨g1, by rw [b1, Sem.run_bind, h]; rfl⟩, ⟨g2, by rw [b2, Sem.run_bind, h]; rfl⟩⟩

theorem cmp_bool {t : TypeId} {x y : Operand} (hu : P.underlying t = some .bool) {a b : AV} {r : Bool} (h : boolEq a b = some r) {ca cb : Value} (ha : conc μ a = some ca) (hb : conc μ b = some cb) (w : World) :
    cmpRun P .eql t x y ca cb w r ∧ cmpRun P .neq t x y ca cb w (!r) := by
  unfold boolEq at h
  split at h
  · cases h
    have := conc_bool ha; subst this
    have := conc_bool hb; subst this
    exact cmp_of (equal_of hu rfl rfl) rfl rfl rfl rfl
  · cases h

theorem nilEq_some {k : EqK} {a b : AV} {r : Bool} (h : nilEq k a b = some r) : (nilOf k a = some true ∧ nilOf k b = some r) ∨ (nilOf k a = some r ∧ nilOf k b = some true) := by
  unfold nilEq at h
  split at h
  · cases h
  · rename_i x hx
    split at h
    · cases h
    · rename_i y hy
      cases x
      · simp only [Bool.false_eq_true, if_false] at h
        split at h
        · rename_i hyt
          cases h
          exact .inr ⟨hx, by rw [hy, hyt]⟩
        · cases h
      · simp only [if_true, Option.some.injEq] at h
        subst h
        exact .inl ⟨hx, hy⟩

theorem nil_ptr {a : AV} {n : Bool} (h : nilOf .ptr a = some n) {c : Value} (hc : conc μ a = some c) : ∃ p, c = .pointer p ∧ p.isNone = n := by
  cases a <;> simp only [nilOf, Option.some.injEq, reduceCtorEq] at h
  · obtain ⟨q, _, rfl⟩ := isSome_of_conc_ptr hc
    exact ⟨_, rfl, h⟩
  · simp only [conc, Option.some.injEq] at hc; subst hc
    exact ⟨none, rfl, h⟩

theorem nil_slice {a : AV} {n : Bool} (h : nilOf .slice a = some n) {c : Value} (hc : conc μ a = some c) : ∃ p l k, c = .slice p l k ∧ p.isNone = n := by
  cases a <;> simp only [nilOf, Option.some.injEq, reduceCtorEq] at h
  · obtain ⟨q, _, rfl⟩ := conc_slice hc
    exact ⟨_, _, _, rfl, h⟩
  · simp only [conc, Option.some.injEq] at hc; subst hc
    exact ⟨_, _, _, rfl, h⟩
  · obtain ⟨q, _, rfl⟩ := conc_tail hc
    exact ⟨_, _, _, rfl, h⟩
  · rename_i v
    simp only [conc, Option.some.injEq] at hc; subst hc
    cases v <;> simp only [rawNil, Option.some.injEq, reduceCtorEq] at h
    exact ⟨_, _, _, rfl, h⟩

theorem nil_map {a : AV} {n : Bool} (h : nilOf .map a = some n) {c : Value} (hc : conc μ a = some c) : ∃ p, c = .map p ∧ p.isNone = n := by
  cases a <;> simp only [nilOf, Option.some.injEq, reduceCtorEq] at h
  · obtain ⟨q, _, rfl⟩ := conc_map hc
    exact ⟨_, rfl, h⟩
  · simp only [conc, Option.some.injEq] at hc; subst hc
    exact ⟨_, rfl, h⟩

theorem conc_fn {f : Fn} {a c : List AV} {x : Value} (h : conc μ (.fn f a c) = some x) : ∃ xs ys, Fn.plain f = true ∧ concs μ a = some xs ∧ concs μ c = some ys ∧ x = .func f xs.toArray ys.toArray := by
  simp only [conc] at h
  split at h
  · rename_i hf
    simp only [Option.bind_eq_some_iff, Option.map_eq_some_iff] at h
    obtain ⟨xs, h1, ys, h2, rfl⟩ := h
    exact ⟨xs, ys, hf, h1, h2, rfl⟩
  · cases h

theorem nil_func {a : AV} {n : Bool} (h : nilOf .func a = some n) {c : Value} (hc : conc μ a = some c) : (c = .nilFunc ∧ n = true) ∨ ((∃ f x y, c = .func f x y) ∧ n = false) := by
  cases a <;> simp only [nilOf, Option.some.injEq, reduceCtorEq] at h
  · obtain ⟨_, _, _, _, _, rfl⟩ := conc_fn hc
    exact .inr ⟨⟨_, _, _, rfl⟩, h.symm⟩
  · simp only [conc, Option.some.injEq] at hc; subst hc
    exact .inl ⟨rfl, h.symm⟩

theorem nil_iface {a : AV} {n : Bool} (h : nilOf .iface a = some n) {c : Value} (hc : conc μ a = some c) : (c = .nilIface ∧ n = true) ∨ ((∃ f x, c = .iface f x) ∧ n = false) := by
  cases a <;> simp only [nilOf, Option.some.injEq, reduceCtorEq] at h
  · simp only [conc, Option.map_eq_some_iff] at hc
    obtain ⟨x, _, rfl⟩ := hc
    exact .inr ⟨⟨_, _, rfl⟩, h.symm⟩
  · simp only [conc, Option.some.injEq] at hc; subst hc
    exact .inl ⟨rfl, h.symm⟩

theorem cmp_ptr {t e : TypeId} {x y : Operand} (hu : P.underlying t = some (.pointer e)) {a b : AV} {r : Bool} (h : nilEq .ptr a b = some r) {ca cb : Value} (ha : conc μ a = some ca) (hb : conc μ b = some cb) (w : World) :
    cmpRun P .eql t x y ca cb w r ∧ cmpRun P .neq t x y ca cb w (!r) := by
  rcases nilEq_some h with ⟨h1, h2⟩ | ⟨h1, h2⟩
  all_goals
    obtain ⟨p, rfl, hp⟩ := nil_ptr h1 ha
    obtain ⟨q, rfl, hq⟩ := nil_ptr h2 hb
    cases p <;> cases q <;> simp at hp hq <;> subst_vars
    all_goals exact cmp_of (equal_of hu rfl rfl) rfl rfl rfl rfl

theorem cmp_slice {t e : TypeId} {x y : Operand} (hu : P.underlying t = some (.slice e)) {a b : AV} {r : Bool} (h : nilEq .slice a b = some r) {ca cb : Value} (ha : conc μ a = some ca) (hb : conc μ b = some cb) (w : World) :
    cmpRun P .eql t x y ca cb w r ∧ cmpRun P .neq t x y ca cb w (!r) := by
  rcases nilEq_some h with ⟨h1, h2⟩ | ⟨h1, h2⟩
  all_goals
    obtain ⟨p, _, _, rfl, hp⟩ := nil_slice h1 ha
    obtain ⟨q, _, _, rfl, hq⟩ := nil_slice h2 hb
    cases p <;> cases q <;> simp at hp hq <;> subst_vars
    all_goals exact cmp_of (equal_of hu rfl rfl) rfl rfl rfl rfl

theorem cmp_map {t e f : TypeId} {x y : Operand} (hu : P.underlying t = some (.map e f)) {a b : AV} {r : Bool} (h : nilEq .map a b = some r) {ca cb : Value} (ha : conc μ a = some ca) (hb : conc μ b = some cb) (w : World) :
    cmpRun P .eql t x y ca cb w r ∧ cmpRun P .neq t x y ca cb w (!r) := by
  rcases nilEq_some h with ⟨h1, h2⟩ | ⟨h1, h2⟩
  all_goals
    obtain ⟨p, rfl, hp⟩ := nil_map h1 ha
    obtain ⟨q, rfl, hq⟩ := nil_map h2 hb
    cases p <;> cases q <;> simp at hp hq <;> subst_vars
    all_goals exact cmp_of (equal_of hu rfl rfl) rfl rfl rfl rfl

theorem cmp_func {t : TypeId} {e f : Array TypeId} {g : Bool} {x y : Operand} (hu : P.underlying t = some (.func e f g)) {a b : AV} {r : Bool} (h : nilEq .func a b = some r) {ca cb : Value} (ha : conc μ a = some ca) (hb : conc μ b = some cb) (w : World) :
    cmpRun P .eql t x y ca cb w r ∧ cmpRun P .neq t x y ca cb w (!r) := by
  rcases nilEq_some h with ⟨h1, h2⟩ | ⟨h1, h2⟩
  all_goals
    rcases nil_func h1 ha with ⟨rfl, hp⟩ | ⟨⟨_, _, _, rfl⟩, hp⟩ <;> rcases nil_func h2 hb with ⟨rfl, hq⟩ | ⟨⟨_, _, _, rfl⟩, hq⟩ <;> first | (simp at hp; done) | (simp at hq; done) | subst_vars
    all_goals exact cmp_of (equal_of hu rfl rfl) rfl rfl rfl rfl

theorem guard_nil {op : BinOp} {t : TypeId} {x y : Operand} (hc : (isC x || isC y) = true) (w : World) : (eqGuard op t x y .nilIface .nilIface).run P w = .ok () w := by
  cases x <;> cases y <;> first | (simp [isC] at hc; done) | (cases op <;> rfl)

theorem cmp_iface {t : TypeId} {e : Array (String × TypeId)} {x y : Operand} (hu : P.underlying t = some (.interface e)) (hc : (isC x || isC y) = true) {a b : AV} {r : Bool} (h : nilEq .iface a b = some r) {ca cb : Value} (ha : conc μ a = some ca) (hb : conc μ b = some cb) (w : World) :
    cmpRun P .eql t x y ca cb w r ∧ cmpRun P .neq t x y ca cb w (!r) := by
  rcases nilEq_some h with ⟨h1, h2⟩ | ⟨h1, h2⟩
  all_goals
    rcases nil_iface h1 ha with ⟨rfl, hp⟩ | ⟨⟨_, _, rfl⟩, hp⟩ <;> rcases nil_iface h2 hb with ⟨rfl, hq⟩ | ⟨⟨_, _, rfl⟩, hq⟩ <;> first | (simp at hp; done) | (simp at hq; done) | subst_vars
    all_goals first | exact cmp_of (equal_of hu rfl rfl) (guard_nil hc w) (guard_nil hc w) rfl rfl | exact cmp_of (equal_of hu rfl rfl) rfl rfl rfl rfl

theorem cmp_cells {t : TypeId} {ks : List Nat} {x y : Operand} (hg : P.eqGuardType P.depth t = false) (hf : flat P 12 t = some ks) (hag : isAggB P t = some true) {a b : AV} {r : Bool} (h : aggEq ks a b = some r) {ca cb : Value} (ha : conc μ a = some ca) (hb : conc μ b = some cb) (w : World) :
    cmpRun P .eql t x y ca cb w r ∧ cmpRun P .neq t x y ca cb w (!r) := by
  unfold aggEq at h
  split at h
  case h_2 => cases h
  obtain ⟨xs, hxs, rfl⟩ := conc_agg ha
  obtain ⟨ys, hys, rfl⟩ := conc_agg hb
  have hrun := equal_flat (P := P) 12 9988 t ks hf true _ _ xs ys r hag hxs hys h w
  simp only [asValue, if_true] at hrun
  have hrun' : (Op.equal t (.agg xs.toArray) (.agg ys.toArray)).run P w = .ok r w := hrun
  refine ⟨⟨by simp [eqGuard, hg], by simp [binOp, hrun']⟩, ⟨by simp [eqGuard, hg], by simp [binOp, hrun']⟩⟩

theorem eqA_run {t : TypeId} {x y : Operand} {a b : AV} {r : Bool} (h : eqA (eqK P t x y) a b = some r) {ca cb : Value} (ha : conc μ a = some ca) (hb : conc μ b = some cb) (w : World) :
    cmpRun P .eql t x y ca cb w r ∧ cmpRun P .neq t x y ca cb w (!r) := by
  have hs := eqK_says (P := P) t x y
  generalize eqK P t x y = k at *
  cases k with
  | leaf => exact cmp_bool hs h ha hb w
  | ptr => obtain ⟨e, hs⟩ := hs; exact cmp_ptr hs h ha hb w
  | slice => obtain ⟨e, hs⟩ := hs; exact cmp_slice hs h ha hb w
  | map => obtain ⟨e, f, hs⟩ := hs; exact cmp_map hs h ha hb w
  | func => obtain ⟨e, f, g, hs⟩ := hs; exact cmp_func hs h ha hb w
  | iface => obtain ⟨⟨e, hs⟩, hc⟩ := hs; exact cmp_iface hs hc h ha hb w
  | cells ks => exact cmp_cells hs.1 hs.2.1 hs.2.2 h ha hb w
  | no => simp [eqA] at h

theorem snd_bin {op : BinOp} {t t' : TypeId} {x y : Operand} (ho : o.op = .binOp op t x y t') (hp : prepOp P o = some p) (h : HR P R μ s w) (hρ : EvR μ ev ρ) (hx : xop p ev s = some (v, s')) (hR : s'.next ≤ R) : Snd P R μ s w (execOp ρ o) v s' := by
  simp only [prepOp, ho] at hp
  split at hp <;> cases hp
  rename_i a b ha hb
  simp only [xop] at hx
  split at hx
  case h_2 => cases hx
  rename_i va vb hva hvb
  have hbin : binA op (eqK P t x y) va vb = some v ∧ s = s' := pure'_some hx
  obtain ⟨hbin, rfl⟩ := hbin
  have h1 := hρ _ _ _ ha hva
  have h2 := hρ _ _ _ hb hvb
  -- the guard says nothing where the values are no structs
  have hguard : (∀ k n, va = .int k n → True) → ((∃ k n, va = .int k n) ∨ (∃ z, va = .str z)) → (eqGuard op t x y (ρ x) (ρ y)).run P w = .ok () w := by
    intro _ hcase
    rcases hcase with ⟨k, n, rfl⟩ | ⟨z, rfl⟩
    · rw [conc_int h1]; unfold eqGuard; cases op <;> simp
    · rw [conc_str h1]; unfold eqGuard; cases op <;> simp
  unfold binA at hbin
  split at hbin
  · rename_i k a' k' b'
    split at hbin <;> cases hbin
    rename_i hb0
    refine Snd.pure h hR (c := .int k (k.wrap (a' * 2 ^ (min b'.toNat k.bits)))) ?_ rfl
    have hg := hguard (fun _ _ _ => trivial) (.inl ⟨k, a', rfl⟩)
    simp only [execOp, ho, Sem.run_bind, hg, Result.andThen_ok]
    rw [conc_int h1, conc_int h2]
    simp [binOp, Op.shift, hb0]
  · rename_i k a' k' b'
    split at hbin <;> cases hbin
    rename_i hb0
    refine Snd.pure h hR (c := .int k (a'.fdiv (2 ^ (min b'.toNat k.bits)))) ?_ rfl
    have hg := hguard (fun _ _ _ => trivial) (.inl ⟨k, a', rfl⟩)
    simp only [execOp, ho, Sem.run_bind, hg, Result.andThen_ok]
    rw [conc_int h1, conc_int h2]
    simp [binOp, Op.shift, hb0]
  · rename_i k a' k' b' hns1 hns2
    split at hbin
    case isFalse => cases hbin
    rename_i hkk
    subst hkk
    obtain ⟨c, hc, hrun⟩ := intBin_run (P := P) (μ := μ) hbin t w ⟨fun e => by subst e; simp [intBin] at hbin, fun e => by subst e; simp [intBin] at hbin⟩
    refine Snd.pure h hR (c := c) ?_ hc
    have hg := hguard (fun _ _ _ => trivial) (.inl ⟨k, a', rfl⟩)
    simp only [execOp, ho, Sem.run_bind, hg, Result.andThen_ok]
    rw [conc_int h1, conc_int h2, hrun]
    simp
  · rename_i a' b'
    obtain ⟨c, hc, hrun⟩ := strBin_run (P := P) (μ := μ) hbin t w
    refine Snd.pure h hR (c := c) ?_ hc
    have hg := hguard (fun _ _ _ => trivial) (.inr ⟨_, rfl⟩)
    simp only [execOp, ho, Sem.run_bind, hg, Result.andThen_ok]
    rw [conc_str h1, conc_str h2, hrun]
    simp
  · split at hbin <;> cases hbin
    rename_i r hr
    refine Snd.pure h hR (c := .bool r) ?_ rfl
    obtain ⟨⟨e1, e2⟩, _⟩ := eqA_run (P := P) hr h1 h2 w
    simp only [execOp, ho, Sem.run_bind, e1, Result.andThen_ok, e2, Sem.run_pure]
  · split at hbin <;> cases hbin
    rename_i r hr
    refine Snd.pure h hR (c := .bool (!r)) ?_ rfl
    obtain ⟨_, ⟨e1, e2⟩⟩ := eqA_run (P := P) hr h1 h2 w
    simp only [execOp, ho, Sem.run_bind, e1, Result.andThen_ok, e2, Sem.run_pure]
  · cases hbin

theorem snd_un {op : UnOp} {t : TypeId} {x : Operand} (ho : o.op = .unOp op t x) (hp : prepOp P o = some p) (h : HR P R μ s w) (hρ : EvR μ ev ρ) (hx : xop p ev s = some (v, s')) (hR : s'.next ≤ R) : Snd P R μ s w (execOp ρ o) v s' := by
  simp only [prepOp, ho, Option.map_eq_some_iff] at hp
  obtain ⟨a, ha, rfl⟩ := hp
  simp only [xop] at hx
  split at hx
  case h_2 => cases hx
  rename_i u hu
  have hun : unA op u = some v ∧ s = s' := pure'_some hx
  obtain ⟨hun, rfl⟩ := hun
  have hc := hρ _ _ _ ha hu
  cases op <;> cases u <;> first | (simp [unA] at hun; done) | skip
  all_goals simp only [unA, Option.some.injEq] at hun
  all_goals subst hun
  all_goals first
    | (refine Snd.pure h hR (c := .bool _) ?_ rfl; simp [execOp, ho, conc_bool hc, Op.unary]; done)
    | (refine Snd.pure h hR (c := .int _ _) ?_ rfl; simp [execOp, ho, conc_int hc, Op.unary, Op.intArith, Op.intBits]; done)
end Go.Proofs.YteiiblpnegjjlaaGreat.D
namespace Go.Proofs.YteiiblpnegjjlaaGreat.D
variable {P : Program} {R : Nat} {μ : Place} {s : St} {w : World} {ev : Ev} {ρ : Operand → Value} {o : Oper} {p : POp} {v : AV} {s' : St}

/-- A map's entries. -/
theorem HR.mapAt {μ : Place} {s : St} {w : World} (h : HR P R μ s w) {r : Nat} {es : List (AV × AV × Nat)} {cl : Nat} (hg : s.get r = some (.map es cl)) {q : Nat × Nat} (hq : μ r = some q) :
    ∃ ces : Array MapEntry, w.heap[q.1]? = some (.map ces cl) ∧ entriesR μ es ces.toList := by
  obtain ⟨q', hq', ces, h1, h2⟩ := h.obj _ _ hg
  rw [hq] at hq'; cases hq'
  exact ⟨ces, h1, h2⟩

theorem run_getMap {r : Nat} {ces : Array MapEntry} {cl : Nat} (h : w.heap[r]? = some (.map ces cl)) : (getObj r).run P w = .ok (.map ces cl) w := by
  simp only [getObj, Sem.run, h]

theorem run_setMap {r : Nat} {ces : Array MapEntry} {cl : Nat} (h : w.heap[r]? = some (.map ces cl)) (O : Obj) : (setObj r O).run P w = .ok () { w with heap := w.heap.setIfInBounds r O } := by
  simp only [setObj, Sem.run, h]

theorem setObj_turn {μ : Place} {s : St} {w : World} (h : HR P R μ s w) (hR : s.next ≤ R) {r : Nat} {es : List (AV × AV × Nat)} {cl : Nat} (hg : s.get r = some (.map es cl)) {q : Nat × Nat} (hq : μ r = some q) {es' : List (AV × AV × Nat)} {ces' : Array MapEntry} {cl' : Nat}
    (he : entriesR μ es' ces'.toList) : HR P R μ (s.put r (.map es' cl')) { w with heap := w.heap.setIfInBounds q.1 (.map ces' cl') } ∧ Mv μ s w μ (s.put r (.map es' cl')) { w with heap := w.heap.setIfInBounds q.1 (.map ces' cl') } := by
  obtain ⟨ces, h1, _⟩ := h.mapAt hg hq
  have hlt := (Array.getElem?_eq_some_iff.1 h1).1
  refine h.turn hR hg hq (by simp) ⟨ces', ?_, he⟩ rfl rfl ⟨rfl, fun _ => Nat.le_refl _⟩ (by simp) ?_
  · show (w.heap.setIfInBounds q.1 (.map ces' cl'))[q.1]? = _
    simp [hlt]
  · intro k hk
    show (w.heap.setIfInBounds q.1 (.map ces' cl'))[k]? = _
    rw [Array.getElem?_setIfInBounds_ne (Ne.symm hk)]

/-- A key among entries. -/
theorem findA_run {kk : IntKind} {a : Int} : ∀ {es : List (AV × AV × Nat)} {ces : List MapEntry} {i : Nat} {r : Option (Nat × AV)}, entriesR μ es ces → findA kk a es i = some r → ∀ (k0 : IntKind),
    ∃ cr, Instr.findNow (.int k0) (.int kk a) ces i = some cr ∧ (match r, cr with
      | none, none => True
      | some (j, v), some (j', c) => j = j' ∧ conc μ v = some c ∧ i ≤ j ∧ ∃ e, ces[j - i]? = some e ∧ e.key = .int kk a ∧ ∃ x, es[j - i]? = some x ∧ x.1 = .int kk a
      | _, _ => False)
  | [], [], i, r, _, h, k0 => by simp only [findA, Option.some.injEq] at h; subst h; exact ⟨none, rfl, trivial⟩
  | (key, v', n) :: es, y :: ces, i, r, he, h, k0 => by
    obtain ⟨⟨h1, h2, h3⟩, h4⟩ := he
    cases key with
    | int k' b =>
      simp only [findA] at h
      split at h
      case isFalse => cases h
      rename_i hkk
      subst hkk
      have hk := conc_int h1
      split at h
      · rename_i hab
        cases h
        have hab' : a = b := by simpa using hab
        refine ⟨some (i, y.val), ?_, rfl, h2, Nat.le_refl _, y, by simp, by rw [hk, hab'], (.int kk b, v', n), by simp, by rw [hab']⟩
        simp [Instr.findNow, hk, Instr.sameNow, hab']
      · rename_i hab
        obtain ⟨cr, hc1, hc2⟩ := findA_run h4 h k0
        refine ⟨cr, ?_, ?_⟩
        · have hab' : (a == b) = false := by simpa using hab
          simp only [Instr.findNow, hk, Instr.sameNow, if_true, hab']
          exact hc1
        · cases r with
          | none => cases cr with
            | none => trivial
            | some _ => exact hc2.elim
          | some jv => cases cr with
            | none => exact hc2.elim
            | some jc =>
              obtain ⟨j, v⟩ := jv
              obtain ⟨j', c⟩ := jc
              obtain ⟨rfl, hv, hij, e, he1, he2, x, hx1, hx2⟩ := hc2
              refine ⟨rfl, hv, by omega, e, ?_, he2, x, ?_, hx2⟩
              · rw [show j - i = (j - (i + 1)) + 1 by omega]; simpa using he1
              · rw [show j - i = (j - (i + 1)) + 1 by omega]; simpa using hx1
    | _ => simp [findA] at h
  | [], _ :: _, _, _, he, _, _ => he.elim
  | _ :: _, [], _, _, he, _, _ => he.elim

theorem isIntKey_some {t : TypeId} (h : isIntKey P t = true) : ∃ k, P.underlying t = some (.int k) := by
  unfold isIntKey at h
  split at h
  · rename_i k hk; exact ⟨k, hk⟩
  · cases h

theorem run_checkKey {t : TypeId} {k : IntKind} (hu : P.underlying t = some (.int k)) (b : Bool) (n : Nat) (v : Value) (w : World) : (Instr.checkKey b (n + 1) t v).run P w = .ok () w := by
  simp only [Instr.checkKey, Sem.run_bind, run_und hu, Result.andThen_ok]
  cases v <;> rfl

theorem run_findKey {t : TypeId} {k : IntKind} (hu : P.underlying t = some (.int k)) {kk : IntKind} {a : Int} {es : List (AV × AV × Nat)} {ces : List MapEntry} {r : Option (Nat × AV)} (he : entriesR μ es ces) (hf : findA kk a es 0 = some r) (w : World) :
    ∃ cr, (Instr.findKey t (.int kk a) ces).run P w = .ok cr w ∧ (match r, cr with
      | none, none => True
      | some (j, v), some (j', c) => j = j' ∧ conc μ v = some c ∧ ∃ e, ces[j]? = some e ∧ e.key = .int kk a ∧ ∃ x, es[j]? = some x ∧ x.1 = .int kk a
      | _, _ => False) := by
  obtain ⟨cr, h1, h2⟩ := findA_run he hf k
  refine ⟨cr, by simp [Instr.findKey, run_und hu, h1], ?_⟩
  cases r with
  | none => cases cr with
    | none => trivial
    | some _ => exact h2.elim
  | some jv => cases cr with
    | none => exact h2.elim
    | some jc => obtain ⟨j, v⟩ := jv; obtain ⟨j', c⟩ := jc; obtain ⟨h3, h4, h5, h6⟩ := h2; exact ⟨h3, h4, by simpa using h6⟩

theorem snd_lookup {t : TypeId} {x y : Operand} {ok : Bool} (ho : o.op = .lookup t x y ok) (hp : prepOp P o = some p) (h : HR P R μ s w) (hρ : EvR μ ev ρ) (hx : xop p ev s = some (v, s')) (hR : s'.next ≤ R) : Snd P R μ s w (execOp ρ o) v s' := by
  simp only [prepOp, ho] at hp
  split at hp
  case h_2 => cases hp
  rename_i kt e hu
  split at hp
  case isFalse => cases hp
  rename_i hkt
  obtain ⟨kk0, hkt⟩ := isIntKey_some hkt
  split at hp <;> cases hp
  rename_i z m k hz hm hk
  obtain ⟨zv, hzr, hzc⟩ := zeroV_some hz
  simp only [xop] at hx
  split at hx
  case h_3 => cases hx
  · rename_i kk a hmv hkv
    cases hx
    have hr : ρ x = .map none := by simpa [conc] using (hρ _ _ _ hm hmv).symm
    have hri := conc_int (hρ _ _ _ hk hkv)
    refine Snd.pure h hR (c := if ok then .tuple #[zv, .bool false] else zv) ?_ (by cases ok <;> simp [conc, concs, hzc])
    simp [execOp, ho, Instr.lookup, run_und hu, hr, run_checkKey hkt, Instr.findKey, run_und hkt, Instr.findNow, hzr]
  · rename_i r kk a hmv hkv
    split at hx
    case h_2 => cases hx
    rename_i es cl hg
    obtain ⟨q, hq, hr⟩ := conc_map (hρ _ _ _ hm hmv)
    have hri := conc_int (hρ _ _ _ hk hkv)
    obtain ⟨ces, hh, he⟩ := h.mapAt hg hq
    split at hx <;> cases hx
    · rename_i j v' hf
      obtain ⟨cr, hrun, hcr⟩ := run_findKey hkt he hf w
      cases cr with
      | none => exact hcr.elim
      | some jc =>
        obtain ⟨j', c⟩ := jc
        obtain ⟨rfl, hv, _⟩ := hcr
        refine Snd.pure h hR (c := if ok then .tuple #[c, .bool true] else c) ?_ (by cases ok <;> simp [conc, concs, hv])
        simp [execOp, ho, Instr.lookup, run_und hu, hr, run_getMap hh, run_checkKey hkt, hri, hrun]
    · rename_i hf
      obtain ⟨cr, hrun, hcr⟩ := run_findKey hkt he hf w
      cases cr with
      | some _ => exact hcr.elim
      | none =>
        refine Snd.pure h hR (c := if ok then .tuple #[zv, .bool false] else zv) ?_ (by cases ok <;> simp [conc, concs, hzc])
        simp [execOp, ho, Instr.lookup, run_und hu, hr, run_getMap hh, run_checkKey hkt, hri, hrun, hzr]

theorem entriesR_modify : ∀ {es : List (AV × AV × Nat)} {ces : List MapEntry} (_ : entriesR μ es ces) (j : Nat) {k v : AV} {ck cv : Value} (_ : conc μ k = some ck) (_ : conc μ v = some cv),
    entriesR μ (es.modify j fun e => (k, v, e.2.2)) (ces.modify j fun e => { e with key := ck, val := cv })
  | [], [], _, j, _, _, _, _, _, _ => by simp [entriesR]
  | x :: es, y :: ces, h, 0, k, v, ck, cv, hk, hv => ⟨⟨hk, hv, h.1.2.2⟩, h.2⟩
  | x :: es, y :: ces, h, j + 1, k, v, ck, cv, hk, hv => by
    simp only [List.modify_succ_cons]
    exact ⟨h.1, entriesR_modify h.2 j hk hv⟩
  | [], _ :: _, h, _, _, _, _, _, _, _ => h.elim
  | _ :: _, [], h, _, _, _, _, _, _, _ => h.elim

theorem entriesR_append : ∀ {es fs : List (AV × AV × Nat)} {ces cfs : List MapEntry} (_ : entriesR μ es ces) (_ : entriesR μ fs cfs), entriesR μ (es ++ fs) (ces ++ cfs)
  | [], _, [], _, _, k => k
  | _ :: _, _, _ :: _, _, h, k => ⟨h.1, entriesR_append h.2 k⟩
  | [], _, _ :: _, _, h, _ => h.elim
  | _ :: _, _, [], _, h, _ => h.elim

theorem entriesR_erase : ∀ {es : List (AV × AV × Nat)} {ces : List MapEntry} (_ : entriesR μ es ces) (j : Nat), entriesR μ (es.eraseIdx j) (ces.eraseIdx j)
  | [], [], _, _ => by simp [entriesR]
  | _ :: _, _ :: _, h, 0 => h.2
  | _ :: _, _ :: _, h, j + 1 => ⟨h.1, entriesR_erase h.2 j⟩
  | [], _ :: _, h, _ => h.elim
  | _ :: _, [], h, _ => h.elim

theorem entriesR_length : ∀ {es : List (AV × AV × Nat)} {ces : List MapEntry}, entriesR μ es ces → ces.length = es.length
  | [], [], _ => rfl
  | _ :: _, _ :: _, h => by simp [entriesR_length h.2]
  | [], _ :: _, h => h.elim
  | _ :: _, [], h => h.elim

theorem snd_mapUpdate {t : TypeId} {x y z : Operand} (ho : o.op = .mapUpdate t x y z) (hp : prepOp P o = some p) (h : HR P R μ s w) (hρ : EvR μ ev ρ) (hx : xop p ev s = some (v, s')) (hR : s'.next ≤ R) : Snd P R μ s w (execOp ρ o) v s' := by
  simp only [prepOp, ho] at hp
  split at hp
  case h_2 => cases hp
  rename_i kt e hu
  split at hp
  case isFalse => cases hp
  rename_i hkt
  obtain ⟨kk0, hkt⟩ := isIntKey_some hkt
  split at hp <;> cases hp
  rename_i m k vv hm hk hv
  simp only [xop] at hx
  split at hx
  case h_2 => cases hx
  rename_i r kk a u hmv hkv huv
  split at hx
  case h_2 => cases hx
  rename_i es cl hg
  obtain ⟨q, hq, hr⟩ := conc_map (hρ _ _ _ hm hmv)
  have hri := conc_int (hρ _ _ _ hk hkv)
  have hcv := hρ _ _ _ hv huv
  obtain ⟨ces, hh, he⟩ := h.mapAt hg hq
  split at hx <;> cases hx
  · rename_i j v' hf
    obtain ⟨cr, hrun, hcr⟩ := run_findKey hkt he hf w
    cases cr with
    | none => exact hcr.elim
    | some jc =>
      obtain ⟨j', c⟩ := jc
      obtain ⟨rfl, _, ee, hee, hkey, _⟩ := hcr
      have hee' : ces[j]? = some ee := by simpa using hee
      obtain ⟨h1, h2⟩ := setObj_turn (cl' := cl) h hR hg hq (es' := es.modify j fun e => (.int kk a, u, e.2.2)) (ces' := ces.modify j fun e => { e with key := .int kk a, val := ρ z })
        (by rw [Array.toList_modify]; exact entriesR_modify he j (show conc μ (.int kk a) = some (.int kk a) from rfl) hcv)
      refine ⟨μ, undef, _, .inr ⟨?_, rfl⟩, rfl, h1, h2⟩
      have hstay : (Instr.keyThatStays (.int kk a) (.int kk a)).run P w = .ok (.int kk a) w := by simp [Instr.keyThatStays, Instr.sameBits]
      simp [execOp, ho, Instr.mapUpdate, run_und hu, hr, run_getMap hh, run_checkKey hkt, hri, hrun, hee', hkey, hstay, run_setMap hh]
  · rename_i hf
    obtain ⟨cr, hrun, hcr⟩ := run_findKey hkt he hf w
    cases cr with
    | some _ => exact hcr.elim
    | none =>
      obtain ⟨h1, h2⟩ := setObj_turn (cl' := cl + 1) h hR hg hq (es' := es ++ [(.int kk a, u, cl)]) (ces' := ces.push { key := .int kk a, val := ρ z, born := cl })
        (by rw [Array.toList_push]; exact entriesR_append he ⟨⟨rfl, hcv, rfl⟩, trivial⟩)
      refine ⟨μ, undef, _, .inr ⟨?_, rfl⟩, rfl, h1, h2⟩
      simp [execOp, ho, Instr.mapUpdate, run_und hu, hr, run_getMap hh, run_checkKey hkt, hri, hrun, run_setMap hh]

theorem snd_range {t : TypeId} {x : Operand} (ho : o.op = .range t x) (hp : prepOp P o = some p) (h : HR P R μ s w) (hρ : EvR μ ev ρ) (hx : xop p ev s = some (v, s')) (hR : s'.next ≤ R) : Snd P R μ s w (execOp ρ o) v s' := by
  simp only [prepOp, ho] at hp
  split at hp
  case h_2 => cases hp
  rename_i kt et hu
  simp only [Option.map_eq_some_iff] at hp
  obtain ⟨a, ha, rfl⟩ := hp
  simp only [xop] at hx
  split at hx
  case h_3 => cases hx
  · rename_i hv
    simp only [newA, Option.some.injEq, Prod.mk.injEq] at hx
    obtain ⟨rfl, rfl⟩ := hx
    have hr : ρ x = .map none := by simpa [conc] using (hρ _ _ _ ha hv).symm
    obtain ⟨h1, h2⟩ := h.new hR (.miter none 0 [] 0) (.mapIter none 0 #[] 0) 0 w.drawn ⟨none, rfl, World.push_new w _ _⟩
    exact ⟨_, .pointer (some ⟨w.heap.size, 0, none⟩), _, .inl (by simp [execOp, ho, Instr.range, run_und hu, hr]), by simp [conc, Place.add], h1, h2⟩
  · rename_i r hv
    split at hx
    case h_2 => cases hx
    rename_i es clock hg
    simp only [newA, Option.some.injEq, Prod.mk.injEq] at hx
    obtain ⟨rfl, rfl⟩ := hx
    obtain ⟨q, hq, hr⟩ := conc_map (hρ _ _ _ ha hv)
    obtain ⟨ces, hm, he⟩ := h.mapAt hg hq
    obtain ⟨h1, h2⟩ := h.new hR (.miter (some r) clock [] clock) (.mapIter (some q.1) clock #[] clock) 0 w.drawn ⟨some q.1, ⟨q, h.le_add hR _ _ _ hq, rfl⟩, World.push_new w _ _⟩
    exact ⟨_, .pointer (some ⟨w.heap.size, 0, none⟩), _, .inl (by simp [execOp, ho, Instr.range, run_und hu, hr, run_getMap hm]), by simp [conc, Place.add], h1, h2⟩

theorem find_entriesR {k : Nat} : ∀ {es : List (AV × AV × Nat)} {ces : List MapEntry} {e : AV × AV × Nat}, entriesR μ es ces → es.find? (fun e => e.2.2 == k) = some e → ∃ c, ces.find? (fun c => c.born == k) = some c ∧ entryR μ e c
  | [], [], _, _, h => by simp at h
  | x :: l, y :: m, e, he, h => by
    have hb := he.1.2.2
    by_cases hk : x.2.2 = k
    · rw [List.find?_cons_of_pos (by simpa using hk)] at h
      cases h
      exact ⟨y, by rw [List.find?_cons_of_pos (by rw [← hb]; simpa using hk)], he.1⟩
    · rw [List.find?_cons_of_neg (by simpa using hk)] at h
      obtain ⟨c, h1, h2⟩ := find_entriesR he.2 h
      exact ⟨c, by rw [List.find?_cons_of_neg (by rw [← hb]; simpa using hk)]; exact h1, h2⟩
  | [], _ :: _, _, he, _ => he.elim
  | _ :: _, [], _, he, _ => he.elim

theorem snd_entry {x : Operand} (ho : o.op = .entry x) (hp : prepOp P o = some p) (h : HR P R μ s w) (hρ : EvR μ ev ρ) (hx : xop p ev s = some (v, s')) (hR : s'.next ≤ R) : Snd P R μ s w (execOp ρ o) v s' := by
  simp only [prepOp, ho, Option.map_eq_some_iff] at hp
  obtain ⟨a, ha, rfl⟩ := hp
  simp only [xop] at hx
  split at hx
  case h_2 => cases hx
  rename_i b hv
  split at hx
  case h_2 => cases hx
  rename_i r since seen last hg
  split at hx
  case h_2 => cases hx
  rename_i es clock hm
  split at hx
  case isFalse => cases hx
  rename_i hcl
  subst hcl
  split at hx
  case h_2 => cases hx
  rename_i k hk
  split at hx <;> cases hx
  rename_i e hf
  obtain ⟨q, hq, hr⟩ := isSome_of_conc_ptr (hρ _ _ _ ha hv)
  obtain ⟨q', hq', m', ⟨qm, hqm, rfl⟩, hit⟩ := h.obj _ _ hg
  rw [hq] at hq'; cases hq'
  obtain ⟨ces, hce, her⟩ := h.mapAt hm hqm
  obtain ⟨c, hc, h1, h2, _⟩ := find_entriesR her hf
  refine Snd.pure h hR (c := .tuple #[c.key, c.val]) ?_ (by simp [conc, concs, h1, h2])
  have hback : seen.toArray.back? = some k := by simpa [Array.back?, List.getLast?_eq_getElem?] using hk
  have hfa : ces.find? (fun c => c.born == k) = some c := by rw [← Array.find?_toList]; exact hc
  simp only [execOp, ho, Instr.entry, hr, getObj, Sem.run_bind, Sem.run, hit, hce, Result.andThen, hback, bne_self_eq_false, Bool.false_eq_true, if_false, hfa]
  rfl

theorem entriesR_back {μ : Place} : ∀ {es : List (AV × AV × Nat)} {ces : List MapEntry} {c : MapEntry}, entriesR μ es ces → c ∈ ces → ∃ e ∈ es, e.2.2 = c.born
  | [], [], _, _, h => by cases h
  | x :: l, y :: m, c, he, h => by
    rcases List.mem_cons.1 h with rfl | h
    · exact ⟨x, List.mem_cons_self .., he.1.2.2⟩
    · obtain ⟨e, h1, h2⟩ := entriesR_back he.2 h
      exact ⟨e, List.mem_cons_of_mem _ h1, h2⟩
  | [], _ :: _, _, he, _ => he.elim
  | _ :: _, [], _, he, _ => he.elim

theorem snd_next {x : Operand} (ho : o.op = .next x false) (hp : prepOp P o = some p) (h : HR P R μ s w) (hρ : EvR μ ev ρ) (hx : xop p ev s = some (v, s')) (hR : s'.next ≤ R) : Snd P R μ s w (execOp ρ o) v s' := by
  simp only [prepOp, ho, Bool.false_eq_true, if_false, Option.map_eq_some_iff] at hp
  obtain ⟨a, ha, rfl⟩ := hp
  simp only [xop] at hx
  split at hx
  case h_2 => cases hx
  rename_i b hv
  split at hx
  case h_2 => cases hx
  rename_i r since seen last hg
  split at hx
  case h_2 => cases hx
  rename_i es clock hm
  split at hx <;> cases hx
  rename_i hal
  simp only [Bool.and_eq_true, List.all_eq_true, Nat.blt_eq, Nat.ble_eq] at hal
  obtain ⟨hall, hsc⟩ := hal
  obtain ⟨q, hq, hr⟩ := isSome_of_conc_ptr (hρ _ _ _ ha hv)
  obtain ⟨q', hq', m', ⟨qm, hqm, rfl⟩, hit⟩ := h.obj _ _ hg
  rw [hq] at hq'; cases hq'
  obtain ⟨ces, hce, her⟩ := h.mapAt hm hqm
  have hold : ∀ c ∈ ces.toList, c.born < since := fun c hc => by
    obtain ⟨e, he, hb⟩ := entriesR_back her hc
    rw [← hb]; exact (hall e he).1
  refine Snd.pure h hR (c := .tuple #[.bool false]) ?_ (by simp [conc, concs])
  have hexec : execOp ρ o = (do pure (.value (← Instr.next (.pointer (some ⟨q.1, 0, none⟩)) false o.type))) := by
    simp only [execOp, ho, hr]
  rw [hexec]
  rcases run_next_at (P := P) w o.type q.1 qm.1 since last seen.toArray ces clock hit hce hold hsc with ⟨_, hrun⟩ | ⟨c, hc, _⟩
  · simp only [Sem.run_bind, hrun, Result.andThen_ok, Sem.run_pure]
  · exfalso
    unfold leftOf at hc
    simp only [Array.toList_filter, List.mem_filter] at hc
    obtain ⟨e, he, hb⟩ := entriesR_back her hc.1
    have := (hall e he).2
    rw [hb] at this
    have h2 := hc.2
    simp only [Bool.not_eq_true', List.contains_toArray] at h2
    rw [this] at h2
    cases h2
end Go.Proofs.YteiiblpnegjjlaaGreat.D
namespace Go.Proofs.YteiiblpnegjjlaaGreat.D
variable {P : Program} {R : Nat} {μ : Place} {s : St} {w : World} {ev : Ev} {ρ : Operand → Value} {o : Oper} {p : POp} {v : AV} {s' : St}

theorem growBy_le (n : Nat) : ∀ (r c : Nat), Builtin.growBy n r c ≤ max c (n + (n + 768) / 4)
  | 0, c => by simp [Builtin.growBy]; omega
  | r + 1, c => by
    unfold Builtin.growBy
    split
    · omega
    · have := growBy_le n r (c + (c + 768) / 4)
      omega

/-- The capacity that growslice picks is no great one. -/
theorem next_le {n c b : Nat} (hc : c < n) (hb : n * b ≤ 2 ^ 46) : Builtin.nextslicecap n c * b ≤ 2 ^ 48 := by
  have h3 : Builtin.nextslicecap n c ≤ 3 * n := by
    unfold Builtin.nextslicecap
    split
    · omega
    · split
      · omega
      · have := growBy_le n 4 c
        omega
  have : Builtin.nextslicecap n c * b ≤ 3 * n * b := Nat.mul_le_mul_right _ h3
  rw [Nat.mul_assoc] at this
  omega

theorem loadA_take {b o k n : Nat} {l : List AV} (h : loadA s b o k = some l) (hn : n ≤ k) : loadA s b o n = some (l.take n) := by
  obtain ⟨vs, lo, ro, z, hg, hle, rfl⟩ := loadA_some h
  unfold loadA
  rw [hg]
  simp only []
  rw [if_pos (by omega), List.take_take, Nat.min_eq_left hn]

/-- The second operand of append and copy. -/
theorem run_src {esz n : Nat} {x : AV} {l : List AV} (h : HR P R μ s w) (hs : srcA s esz x = some (n, l)) (hl : l.length = n * esz) {c : Value} (hc : conc μ x = some c) :
    (Builtin.lenOf c).run P w = .ok n w ∧ ∃ xs, concs μ l = some xs ∧ ∀ m, m ≤ n → (Builtin.firstCells esz m c).run P w = .ok (xs.take (m * esz)).toArray w := by
  unfold srcA at hs
  split at hs
  · cases hs
    simp only [conc, Option.some.injEq] at hc
    subst hc
    exact ⟨rfl, [], rfl, fun m hm => by simp [Builtin.firstCells]⟩
  · cases hs
    obtain ⟨q, hq, rfl⟩ := conc_tail hc
    refine ⟨rfl, [], rfl, fun m hm => ?_⟩
    have : m = 0 := by omega
    subst this
    simp [Builtin.firstCells, loadCells, loadCellsFrom]
  · cases hs
    simp only [conc, Option.some.injEq] at hc
    subst hc
    refine ⟨rfl, [], rfl, fun m hm => ?_⟩
    have : m = 0 := by omega
    subst this
    rename_i a _
    cases a <;> simp [Builtin.firstCells, loadCells, loadCellsFrom]
  · rename_i b of len cap lo
    split at hs <;> cases hs
    rename_i hla
    obtain ⟨q, hq, rfl⟩ := conc_slice hc
    obtain ⟨xs, hxs, hxl, _⟩ := run_loadA (P := P) h hla hq
    refine ⟨rfl, xs, hxs, fun m hm => ?_⟩
    have hmk : m * esz ≤ n * esz := Nat.mul_le_mul_right _ hm
    obtain ⟨ys, hys, _, hrun⟩ := run_loadA (P := P) h (loadA_take hla hmk) hq
    have := concs_take hxs (m * esz)
    rw [hys] at this
    cases this
    simpa [Builtin.firstCells] using hrun
  · rename_i z
    split at hs <;> cases hs
    rename_i he
    subst he
    have := conc_str hc
    subst this
    refine ⟨rfl, z.data.toList.map fun c => .int .u8 c.toNat, ?_, fun m hm => ?_⟩
    · induction z.data.toList with
      | nil => rfl
      | cons a r ih => simp [concs, conc, ih]
    · simp only [Builtin.firstCells, Sem.run_pure]
      congr 1
      apply Array.ext'
      rw [ByteArray.data_extract, Nat.mul_one, ← List.map_take]
      simp
  · cases hs

/-- append, as the model runs it. -/
theorem run_append {st xt e : TypeId} {dx : TypeDesc} (hst : P.underlying st = some (.slice e)) (hxt : P.underlying xt = some dx) (hnx : ∀ k, dx ≠ .int k) {esz eb : Nat} (hsz : sizeB P e = some esz) (hb : bytesB P e = some eb) (hb1 : 1 ≤ eb)
    {base : Option Addr} {sLen sCap n : Nat} {x : Value} {xs : List Value} (hlen : (Builtin.lenOf x).run P w = .ok n w) (hfc : (Builtin.firstCells esz n x).run P w = .ok xs.toArray w) (ty : TypeId) :
    (sLen + n ≤ sCap → ∀ w', (match base with | some a => storeCells (a.add (sLen * esz)) xs | none => pure ()).run P w = .ok () w' → (Builtin.append_ #[st, xt] ty #[.slice base sLen sCap, x]).run P w = .ok (.slice base (sLen + n) sCap) w') ∧
    (sCap < sLen + n → (sLen + n) * eb ≤ 2 ^ 46 → ∀ zv : Value, (∀ w, (zeroValue e).run P w = .ok zv w) → zv.cells.size = esz → ∀ old : List Value, (∀ d, (Builtin.firstCells esz sLen (.slice base sLen sCap)).run P { w with drawn := d } = .ok old.toArray { w with drawn := d }) →
      (∀ d, (Builtin.firstCells esz n x).run P { w with drawn := d } = .ok xs.toArray { w with drawn := d }) →
      ∃ (ex : Nat) (rest : List Value), rest.length = ex * esz ∧ (Builtin.append_ #[st, xt] ty #[.slice base sLen sCap, x]).run P w = .ok (.slice (some ⟨w.heap.size, 0, none⟩) (sLen + n) (sLen + n + ex))
        { w with heap := w.heap.push (.cells (old ++ xs ++ rest).toArray e), drawn := w.drawn + 1 }) := by
  have hmat : (match dx with | .int _ => true | _ => false) = false := by
    cases dx <;> first | rfl | exact absurd rfl (hnx _)
  unfold bytesB at hb
  simp only [Option.map_eq_some_iff] at hb
  obtain ⟨i, hi, hib⟩ := hb
  constructor
  · intro hle w' hst'
    cases base with
    | none =>
      simp only [Sem.run_pure] at hst'
      cases hst'
      simp only [Builtin.append_, List.getElem?_toArray, List.getElem?_cons_zero, List.getElem?_cons_succ, Sem.run_bind, run_und hst, Result.andThen_ok, run_size hsz, run_und hxt, Sem.run_pure]
      simp [hlen, hfc, hle]
    | some a =>
      simp only [] at hst'
      simp only [Builtin.append_, List.getElem?_toArray, List.getElem?_cons_zero, List.getElem?_cons_succ, Sem.run_bind, run_und hst, Result.andThen_ok, run_size hsz, run_und hxt, Sem.run_pure]
      simp [hlen, hfc, hle, hst']
  · intro hgt hbd zv hz hzs old hold hnew
    obtain ⟨ex, hex⟩ : ∃ ex, Question.cut (.appendCap (sLen + n) sCap e) (w.tape w.drawn (.appendCap (sLen + n) sCap e)) = sLen + n + ex := ⟨_, rfl⟩
    have hnext := next_le (b := eb) hgt hbd
    refine ⟨ex, (Builtin.zeroCells zv.cells ex).toList, by simp [Builtin.zeroCells, hzs], ?_⟩
    have hn1 : ¬ (sLen + n ≤ sCap) := by omega
    have hn3 : ¬ (Builtin.nextslicecap (sLen + n) sCap * i.bytes > 2 ^ 48) := by rw [hib]; omega
    have hn4 : i.bytes ≠ 0 := by omega
    have h1 := hold (w.drawn + 1)
    have h2 := hnew (w.drawn + 1)
    simp only [Builtin.append_, List.getElem?_toArray, List.getElem?_cons_zero, List.getElem?_cons_succ, Sem.run_bind, run_und hst, Result.andThen_ok, run_size hsz, run_und hxt, Sem.run_pure, Bool.false_eq_true, if_false, hlen, if_neg hn1,
      run_info hi, false_or, hn4, and_false, if_neg hn3, run_choose, Question.forced, hex, run_askRoom, h1, Bool.not_false, if_true, h2, hz, newRow, run_newObj, Nat.add_sub_cancel_left]
    have harr : old.toArray ++ xs.toArray ++ Builtin.zeroCells zv.cells ex = (old ++ xs ++ (Builtin.zeroCells zv.cells ex).toList).toArray := by
      apply Array.ext'; simp
    rw [harr]

/-- What append does with a slice, n more values of it being these cells. -/
def AppRuns (P : Program) (st xt ty e : TypeId) (esz eb n : Nat) (x : Value) (xs : List Value) (w : World) : Prop :=
  ∀ (base : Option Addr) (sLen sCap : Nat),
    (sLen + n ≤ sCap → ∀ w', (match base with | some a => storeCells (a.add (sLen * esz)) xs | none => pure ()).run P w = .ok () w' → (Builtin.append_ #[st, xt] ty #[.slice base sLen sCap, x]).run P w = .ok (.slice base (sLen + n) sCap) w') ∧
    (sCap < sLen + n → (sLen + n) * eb ≤ 2 ^ 46 → ∀ zv : Value, (∀ w, (zeroValue e).run P w = .ok zv w) → zv.cells.size = esz → ∀ old : List Value, (∀ d, (Builtin.firstCells esz sLen (.slice base sLen sCap)).run P { w with drawn := d } = .ok old.toArray { w with drawn := d }) →
      ∃ (ex : Nat) (rest : List Value), rest.length = ex * esz ∧ (Builtin.append_ #[st, xt] ty #[.slice base sLen sCap, x]).run P w = .ok (.slice (some ⟨w.heap.size, 0, none⟩) (sLen + n) (sLen + n + ex))
        { w with heap := w.heap.push (.cells (old ++ xs ++ rest).toArray e), drawn := w.drawn + 1 })

theorem appRuns_src {st xt ty e : TypeId} {dx : TypeDesc} (hst : P.underlying st = some (.slice e)) (hxt : P.underlying xt = some dx) (hnx : ∀ k, dx ≠ .int k) {esz eb : Nat} (hsz : sizeB P e = some esz) (hb : bytesB P e = some eb) (hb1 : 1 ≤ eb)
    (h : HR P R μ s w) {n : Nat} {y : AV} {l : List AV} (hsrc : srcA s esz y = some (n, l)) (hl : l.length = n * esz) {cy : Value} (hcy : conc μ y = some cy) : ∃ xs, concs μ l = some xs ∧ AppRuns P st xt ty e esz eb n cy xs w := by
  obtain ⟨hlen, xs, hxs, hfc⟩ := run_src (P := P) h hsrc hl hcy
  have hfc0 := hfc n (Nat.le_refl _)
  have hxl := concs_length hxs
  have htake : xs.take (n * esz) = xs := List.take_of_length_le (by omega)
  rw [htake] at hfc0
  have hfcd : ∀ d, (Builtin.firstCells esz n cy).run P { w with drawn := d } = .ok xs.toArray { w with drawn := d } := fun d => by
    obtain ⟨_, ys, hys, hfc'⟩ := run_src (P := P) (h.heap_eq (w' := { w with drawn := d }) rfl) hsrc hl hcy
    rw [hxs] at hys; cases hys
    have := hfc' n (Nat.le_refl _)
    rwa [htake] at this
  refine ⟨xs, hxs, fun base sLen sCap => ?_⟩
  obtain ⟨r1, r2⟩ := run_append (P := P) (w := w) hst hxt hnx hsz hb hb1 (base := base) (sLen := sLen) (sCap := sCap) hlen hfc0 ty
  exact ⟨r1, fun g1 g2 zv g3 g4 old g5 => r2 g1 g2 zv g3 g4 old g5 hfcd⟩

theorem zeroCells_flat (c : Array Value) (n : Nat) : Builtin.zeroCells c n = (List.replicate n c.toList).flatten.toArray := by
  unfold Builtin.zeroCells
  exact range_mod_flatten c n

theorem appRuns_zeros {st xt ty e : TypeId} {k : IntKind} (hst : P.underlying st = some (.slice e)) (hxt : P.underlying xt = some (.int k)) {esz eb : Nat} (hsz : sizeB P e = some esz) (hb : bytesB P e = some eb) (hb1 : 1 ≤ eb)
    {zv : Value} (hz : ∀ w, (zeroValue e).run P w = .ok zv w) (hzs : zv.cells.size = esz) {m : Int} {k' : IntKind} (h0 : 0 ≤ m) (h1 : m < 2 ^ 40) (h2 : m.toNat * eb ≤ 2 ^ 46) :
    AppRuns P st xt ty e esz eb m.toNat (.int k' m) (List.replicate m.toNat zv.cells.toList).flatten w := by
  unfold bytesB at hb
  simp only [Option.map_eq_some_iff] at hb
  obtain ⟨i, hi, hib⟩ := hb
  have w1 : IntKind.i64.wrap m = m := by
    simp [IntKind.wrap, IntKind.signed, IntKind.bits]; omega
  have hn1 : ¬ (m < 0) := by omega
  have hbig : ¬ (m * i.bytes > 2 ^ 48) := by
    rw [hib]
    have : ((m.toNat * eb : Nat) : Int) ≤ 2 ^ 46 := by exact_mod_cast h2
    rw [Int.natCast_mul, Int.toNat_of_nonneg h0] at this
    omega
  have happ : ∀ w, (if m.toNat * esz = 0 then (pure #[] : Sem (Array Value)) else do pure (Builtin.zeroCells (← zeroValue e).cells m.toNat)).run P w = .ok (List.replicate m.toNat zv.cells.toList).flatten.toArray w := by
    intro w
    by_cases hz0 : m.toNat * esz = 0
    · rw [if_pos hz0]
      have : (List.replicate m.toNat zv.cells.toList).flatten.toArray = #[] := by
        rw [← zeroCells_flat, Builtin.zeroCells, hzs, hz0]; simp
      rw [this]; rfl
    · rw [if_neg hz0]
      simp [hz, zeroCells_flat]
  intro base sLen sCap
  constructor
  · intro hle w' hst'
    cases base with
    | none =>
      simp only [Sem.run_pure] at hst'
      cases hst'
      simp only [Builtin.append_, List.getElem?_toArray, List.getElem?_cons_zero, List.getElem?_cons_succ, Sem.run_bind, run_und hst, Result.andThen_ok, run_size hsz, run_und hxt, Sem.run_pure, if_true, asInt, asIntOf, w1, hn1, if_false,
        run_info hi, hbig, Bool.not_true, Bool.false_eq_true, if_pos hle, happ]
    | some a =>
      simp only [] at hst'
      simp only [Builtin.append_, List.getElem?_toArray, List.getElem?_cons_zero, List.getElem?_cons_succ, Sem.run_bind, run_und hst, Result.andThen_ok, run_size hsz, run_und hxt, Sem.run_pure, if_true, asInt, asIntOf, w1, hn1, if_false,
        run_info hi, hbig, Bool.not_true, Bool.false_eq_true, if_pos hle, happ, hst']
  · intro hgt hbd zv' hz' hzs' old hold
    have hzz : zv' = zv := by
      have g1 := hz' w
      rw [hz w] at g1
      cases g1; rfl
    subst hzz
    obtain ⟨ex, hex⟩ : ∃ ex, Question.cut (.appendCap (sLen + m.toNat) sCap e) (w.tape w.drawn (.appendCap (sLen + m.toNat) sCap e)) = sLen + m.toNat + ex := ⟨_, rfl⟩
    have hnext := next_le (b := eb) hgt hbd
    refine ⟨ex, (Builtin.zeroCells zv'.cells ex).toList, by simp [Builtin.zeroCells, hzs], ?_⟩
    have hn1' : ¬ (sLen + m.toNat ≤ sCap) := by omega
    have hn3 : ¬ (Builtin.nextslicecap (sLen + m.toNat) sCap * i.bytes > 2 ^ 48) := by rw [hib]; omega
    have hneed : sLen + m.toNat ≤ (sLen + m.toNat) * eb := Nat.le_mul_of_pos_right _ hb1
    have hn5 : ¬ (((sLen + m.toNat : Nat) : Int) > IntKind.i64.max) := by
      simp [IntKind.max, IntKind.signed, IntKind.bits]; omega
    have g1 := hold (w.drawn + 1)
    simp only [Builtin.append_, List.getElem?_toArray, List.getElem?_cons_zero, List.getElem?_cons_succ, Sem.run_bind, run_und hst, Result.andThen_ok, run_size hsz, run_und hxt, Sem.run_pure, if_true, asInt, asIntOf, w1, hn1, if_false,
      run_info hi, hbig, Bool.not_true, Bool.false_eq_true, if_neg hn1', hn5, false_and, if_neg hn3, run_choose, Question.forced, hex, run_askRoom, g1, happ, hz, newRow, run_newObj, Nat.add_sub_cancel_left]
    have harr : old.toArray ++ (List.replicate m.toNat zv'.cells.toList).flatten.toArray ++ Builtin.zeroCells zv'.cells ex = (old ++ (List.replicate m.toNat zv'.cells.toList).flatten ++ (Builtin.zeroCells zv'.cells ex).toList).toArray := by
      apply Array.ext'; simp
    rw [harr]
end Go.Proofs.YteiiblpnegjjlaaGreat.D
namespace Go.Proofs.YteiiblpnegjjlaaGreat.D
variable {P : Program} {R : Nat} {μ : Place} {s : St} {w : World} {ev : Ev} {ρ : Operand → Value} {o : Oper} {p : POp} {v : AV} {s' : St}

theorem HR.at_drawn {d : Nat} (h : HR P R μ s w) : HR P R μ s { w with drawn := d } := h.heap_eq rfl

theorem appendA_snd {esz eb n : Nat} {x : AV} {l : List AV} {st xt e ty : TypeId} (hs1 : 1 ≤ esz)
    {zv : Value} (hz : ∀ w, (zeroValue e).run P w = .ok zv w) (hzs : zv.cells.size = esz)
    (h : HR P R μ s w) (hl : l.length = n * esz) {cx cy : Value} (hcx : conc μ x = some cx) {xs : List Value} (hxs : concs μ l = some xs) (hA : AppRuns P st xt ty e esz eb n cy xs w)
    (ha : appendA esz eb s x n l = some (v, s')) (hR : s'.next ≤ R) :
    ∃ ν c w', (Builtin.append_ #[st, xt] ty #[cx, cy]).run P w = .ok c w' ∧ conc ν v = some c ∧ HR P R ν s' w' ∧ Mv μ s w ν s' w' := by
  have hxl := concs_length hxs
  have hn0 : n = 0 → xs = [] := fun e => by subst e; exact List.length_eq_zero_iff.1 (by simpa [hl] using hxl)
  unfold appendA at ha
  split at ha
  case h_3 => cases ha
  · -- a nil slice
    simp only [conc, Option.some.injEq] at hcx
    subst hcx
    obtain ⟨r1, r2⟩ := hA none 0 0
    split at ha
    · rename_i hn
      cases ha
      subst hn
      exact ⟨μ, .slice none 0 0, w, by simpa using r1 (by omega) w rfl, rfl, h, Mv.refl h hR⟩
    · rename_i hn
      split at ha
      case isFalse => cases ha
      rename_i hbd
      simp only [newA, Option.some.injEq, Prod.mk.injEq] at ha
      obtain ⟨rfl, rfl⟩ := ha
      obtain ⟨ex, rest, hrl, hrun⟩ := r2 (by omega) (by simpa using hbd) zv hz hzs [] (fun d => by simp [Builtin.firstCells])
      obtain ⟨h1, h2⟩ := h.new hR (.cells l true false esz) (.cells ([] ++ xs ++ rest).toArray e) ex (w.drawn + 1)
        ⟨_, _, _, xs, rest, World.push_new w _ _, concs_mono (h.le_add hR _) _ _ hxs, by simp, hrl, by simp, fun _ => by intro i _; simp⟩
      exact ⟨_, _, _, hrun, by simp [conc, Place.add], h1, h2⟩
  · rename_i b of len cap loose
    obtain ⟨q, hq, rfl⟩ := conc_slice hcx
    obtain ⟨r1, r2⟩ := hA (some ⟨q.1, of, none⟩) len (if loose then cap + q.2 else cap)
    split at ha
    · rename_i hle
      split at ha
      · rename_i hn
        cases ha
        subst hn
        have := hn0 rfl
        subst this
        refine ⟨μ, _, w, r1 (by split <;> omega) w (by simp [storeCells]), ?_, h, Mv.refl h hR⟩
        simp [conc, hq]
      · split at ha <;> cases ha
        rename_i hst'
        obtain ⟨w', hrun, h1, h2⟩ := run_storeA h hR hst' hq hxs
        refine ⟨μ, _, w', r1 (by split <;> omega) w' (by simpa [Addr.add_mk] using hrun), by simp [conc, hq], h1, h2⟩
    · rename_i hgt
      split at ha
      case isFalse => cases ha
      rename_i hbd
      split at ha
      case h_1 => cases ha
      rename_i old hold
      obtain ⟨ys, hys, hyl, _⟩ := run_loadA (P := P) h hold hq
      have holdd : ∀ k d, (Builtin.firstCells esz len (.slice (some ⟨q.1, of, none⟩) len k)).run P { w with drawn := d } = .ok ys.toArray { w with drawn := d } := fun k d => by
        obtain ⟨zs, hzs', _, hrun⟩ := run_loadA (P := P) (h.at_drawn (d := d)) hold hq
        rw [hys] at hzs'; cases hzs'
        simpa [Builtin.firstCells] using hrun
      split at ha
      · rename_i hloose
        subst hloose
        simp only [if_true] at r1 r2
        split at ha
        case isFalse => cases ha
        rename_i hof
        subst hof
        split at ha
        case h_2 => cases ha
        rename_i vs z hg
        split at ha <;> cases ha
        rename_i hcond
        obtain ⟨hz1, hvl, hac⟩ := hcond
        subst hz1
        -- it may fit into what there is
        by_cases hfit : len + n ≤ cap + q.2
        · obtain ⟨q', hq', c, el, fz, xs0, rest, e1, e2, e3, e4, e5, e6⟩ := h.obj _ _ hg
          rw [hq] at hq'; cases hq'
          have hl0 := concs_length e2
          have hcs : c.size = xs0.length + rest.length := by rw [← Array.length_toList, e3]; simp
          have hmul : (len + n) * z ≤ (cap + q.2) * z := Nat.mul_le_mul_right _ hfit
          rw [Nat.add_mul, Nat.add_mul] at hmul
          obtain ⟨w', cur', f1, f2, f3, f4, f5, f6, f7, f8⟩ := run_storeList (P := P) q.1 (len * z) el fz xs 0 c w e1 (e6 rfl) (by omega) (allCell_conc hac hxs)
          have hcl : cap * z < (len + n) * z := Nat.mul_lt_mul_of_pos_right (by omega) hs1
          rw [Nat.add_mul] at hcl
          have hold' : old = vs.take (len * z) := by
            obtain ⟨vs', _, _, _, hg', _, rfl⟩ := loadA_some hold
            rw [hg] at hg'; cases hg'
            simp
          have hoz : concs (μ.add s.next (q.1, cap + q.2 - (len + n))) (old ++ l) = some (xs0.take (len * z) ++ xs) := by
            refine concs_mono (h.le_add hR _) _ _ ?_
            rw [hold']
            exact concs_append (concs_take e2 _) hxs
          have hlz : len * z ≤ cap * z := by
            have := (loadA_some hold)
            obtain ⟨vs', _, _, _, hg', hle', _⟩ := this
            rw [hg] at hg'; cases hg'
            omega
          obtain ⟨h1, h2⟩ := h.alias (w' := w') hR hg hq (by simp) (o' := .cells (old ++ l) true false z) (e := cap + q.2 - (len + n))
            ⟨cur', el, fz, xs0.take (len * z) ++ xs, (xs0 ++ rest).drop (len * z + xs.length), f2, hoz, by
              rw [f3, e3]
              simp only [Nat.add_zero]
              rw [List.take_append_of_le_length (by omega)], by
              rw [List.length_drop, List.length_append, Nat.sub_mul, Nat.add_mul, Nat.add_mul]
              omega, by simp, fun _ i hi => by
              have : cur'.size = c.size := by
                rw [← Array.length_toList, f3, ← Array.length_toList]
                simp
                omega
              exact e6 rfl i (by omega)⟩ f4 f5 f6 f7 f8
          refine ⟨_, _, w', r1 hfit w' (by simpa [Addr.add_mk] using f1), ?_, h1, h2⟩
          simp only [conc, Place.add, if_true, Option.map_some, Option.some.injEq]
          congr 1
          omega
        · obtain ⟨ex, rest, hrl, hrun⟩ := r2 (by omega) hbd zv hz hzs ys (holdd _)
          have hR1 : s.next ≤ R := Nat.le_trans (Nat.le_succ _) (by simpa using hR)
          obtain ⟨d1, d2⟩ := h.drop hR1 hg (by simp)
          obtain ⟨h1, h2⟩ := d1.new hR (.cells (old ++ l) true false z) (.cells (ys ++ xs ++ rest).toArray e) ex (w.drawn + 1)
            ⟨_, _, _, ys ++ xs, rest, World.push_new w _ _, concs_mono (d1.le_add hR _) _ _ (concs_append hys hxs), by simp, hrl, by simp, fun _ => by intro i _; simp⟩
          exact ⟨_, _, _, hrun, by simp [conc, Place.add], h1, d2.trans h2⟩
      · rename_i hloose
        have hlf : loose = false := by simpa using hloose
        subst hlf
        simp only [Bool.false_eq_true, if_false] at r1 r2
        simp only [newA, Option.some.injEq, Prod.mk.injEq] at ha
        obtain ⟨rfl, rfl⟩ := ha
        obtain ⟨ex, rest, hrl, hrun⟩ := r2 (by omega) hbd zv hz hzs ys (holdd _)
        obtain ⟨h1, h2⟩ := h.new hR (.cells (old ++ l) true false esz) (.cells (ys ++ xs ++ rest).toArray e) ex (w.drawn + 1)
          ⟨_, _, _, ys ++ xs, rest, World.push_new w _ _, concs_mono (h.le_add hR _) _ _ (concs_append hys hxs), by simp, hrl, by simp, fun _ => by intro i _; simp⟩
        exact ⟨_, _, _, hrun, by simp [conc, Place.add], h1, h2⟩
end Go.Proofs.YteiiblpnegjjlaaGreat.D
