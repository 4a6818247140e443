/- The operations of the abstract machine do what the model's do: values, loads, what is laid. -/
import Derived.Test.YteffppdkofdmdaaDSnd1
namespace Go.Proofs.Yteffppdkofdmdaa.D
variable {P : Program} {R : Nat} {μ : Place} {s : St} {w : World} {ev : Ev} {ρ : Operand → Value} {o : Oper} {p : POp} {v : AV} {s' : St}

theorem pure'_some {x : Option AV} {s : St} {v : AV} {s' : St} (h : (match x with | some v => some (v, s) | none => none) = some (v, s')) : x = some v ∧ s = s' := by
  cases x with
  | none => cases h
  | some u => cases h; exact ⟨rfl, rfl⟩

theorem snd_move {x : Operand} (ho : o.op = .move x ∨ o.op = .assign x) (hp : prepOp P o = some p) (h : HR P R μ s w) (hρ : EvR μ ev ρ) (hx : xop p ev s = some (v, s')) (hR : s'.next ≤ R) : Snd P R μ s w (execOp ρ o) v s' := by
  have hp' : (prepX x).map POp.move = some p := by rcases ho with ho | ho <;> simpa only [prepOp, ho] using hp
  simp only [Option.map_eq_some_iff] at hp'
  obtain ⟨a, ha, rfl⟩ := hp'
  simp only [xop] at hx
  obtain ⟨hv, rfl⟩ := pure'_some hx
  refine Snd.pure h hR (c := ρ x) ?_ (hρ _ _ _ ha hv)
  rcases ho with ho | ho <;> simp [execOp, ho]

theorem conc_bool {b : Bool} {c : Value} (h : conc μ (.bool b) = some c) : c = .bool b := by simp only [conc, Option.some.injEq] at h; exact h.symm
theorem conc_int {k : IntKind} {n : Int} {c : Value} (h : conc μ (.int k n) = some c) : c = .int k n := by simp only [conc, Option.some.injEq] at h; exact h.symm
theorem conc_str {x : ByteArray} {c : Value} (h : conc μ (.str x) = some c) : c = .string x := by simp only [conc, Option.some.injEq] at h; exact h.symm
theorem conc_agg {l : List AV} {c : Value} (h : conc μ (.agg l) = some c) : ∃ xs, concs μ l = some xs ∧ c = .agg xs.toArray := by
  simp only [conc, Option.map_eq_some_iff] at h
  obtain ⟨xs, hx, rfl⟩ := h; exact ⟨xs, hx, rfl⟩
theorem conc_tup {l : List AV} {c : Value} (h : conc μ (.tup l) = some c) : ∃ xs, concs μ l = some xs ∧ c = .tuple xs.toArray := by
  simp only [conc, Option.map_eq_some_iff] at h
  obtain ⟨xs, hx, rfl⟩ := h; exact ⟨xs, hx, rfl⟩
theorem conc_slice {b o n k : Nat} {l : Bool} {c : Value} (h : conc μ (.slice b o n k l) = some c) : ∃ p, μ b = some p ∧ c = .slice (some ⟨p.1, o, none⟩) n (if l then k + p.2 else k) := by
  simp only [conc, Option.map_eq_some_iff] at h
  obtain ⟨p, hp, rfl⟩ := h; exact ⟨p, hp, rfl⟩
theorem conc_tail {b o n : Nat} {c : Value} (h : conc μ (.tail b o n) = some c) : ∃ p, μ b = some p ∧ c = .slice (some ⟨p.1, if p.2 = 0 then o else o + n, none⟩) 0 p.2 := by
  simp only [conc, Option.map_eq_some_iff] at h
  obtain ⟨p, hp, rfl⟩ := h; exact ⟨p, hp, rfl⟩
theorem conc_map {r : Nat} {c : Value} (h : conc μ (.map r) = some c) : ∃ p, μ r = some p ∧ c = .map (some p.1) := by
  simp only [conc, Option.map_eq_some_iff] at h
  obtain ⟨p, hp, rfl⟩ := h; exact ⟨p, hp, rfl⟩

theorem snd_pick {c a b : Operand} (ho : o.op = .pick c a b) (hp : prepOp P o = some p) (h : HR P R μ s w) (hρ : EvR μ ev ρ) (hx : xop p ev s = some (v, s')) (hR : s'.next ≤ R) : Snd P R μ s w (execOp ρ o) v s' := by
  simp only [prepOp, ho] at hp
  split at hp <;> first | cases hp | skip
  rename_i c' a' b' hc ha hb
  simp only [xop] at hx
  split at hx
  · rename_i hcv
    obtain ⟨hv, rfl⟩ := pure'_some hx
    have := conc_bool (hρ _ _ _ hc hcv)
    exact Snd.pure h hR (c := ρ a) (by simp [execOp, ho, this, asBool]) (hρ _ _ _ ha hv)
  · rename_i hcv
    obtain ⟨hv, rfl⟩ := pure'_some hx
    have := conc_bool (hρ _ _ _ hc hcv)
    exact Snd.pure h hR (c := ρ b) (by simp [execOp, ho, this, asBool]) (hρ _ _ _ hb hv)
  · cases hx

/-- A new row of cells. -/
theorem snd_new {x : Sem Next} {vs : List AV} {lo : Bool} {z e d : Nat} {c : Array Value} {elem : TypeId} {fz : Nat × Nat} {rest : List Value} {v : AV} {cv : Value}
    (h : HR P R μ s w) (hR : s.next + 1 ≤ R) {xs : List Value} (hxs : ∀ ν, Place.le μ ν → concs ν vs = some xs) (hc : c.toList = xs ++ rest) (hr : rest.length = e * z) (hl : lo = false → e = 0)
    (hf : ∀ i, i < c.size → ¬ (fz.1 ≤ i ∧ i < fz.2))
    (hrun : x.run P w = .ok (.value cv) { w with heap := w.heap.push (.cells c elem fz), drawn := d })
    (hv : conc (μ.add s.next (w.heap.size, e)) v = some cv) : Snd P R μ s w x v (s.new (.cells vs lo false z)) := by
  have hle := h.le_add hR (w.heap.size, e)
  obtain ⟨h1, h2⟩ := h.new hR (.cells vs lo false z) (.cells c elem fz) e d ⟨c, elem, fz, xs, rest, World.push_new w _ d, hxs _ hle, hc, hr, hl, fun _ => hf⟩
  exact ⟨_, cv, _, .inl hrun, hv, h1, h2⟩

theorem snd_alloc {e : TypeId} (ho : o.op = .alloc e) (hp : prepOp P o = some p) (h : HR P R μ s w) (_ : EvR μ ev ρ) (hx : xop p ev s = some (v, s')) (hR : s'.next ≤ R) : Snd P R μ s w (execOp ρ o) v s' := by
  simp only [prepOp, ho, Option.map_eq_some_iff] at hp
  obtain ⟨z, hz, rfl⟩ := hp
  obtain ⟨zv, hzr, hzc⟩ := zeroB_some hz
  simp only [xop, newA, Option.some.injEq, Prod.mk.injEq] at hx
  obtain ⟨rfl, rfl⟩ := hx
  refine snd_new (c := zv.cells) (elem := e) (fz := (0, 0)) (e := 0) (d := w.drawn) (rest := []) (cv := .pointer (some ⟨w.heap.size, 0, none⟩)) h hR (xs := zv.cells.toList) (fun ν _ => hzc ν) (by simp) (by simp) (fun _ => rfl) (by intro i _; simp) ?_ ?_
  · simp [execOp, ho, Instr.alloc, hzr, newVar, newRow]
  · simp [conc, Place.add]

theorem snd_box {e : TypeId} {x : Operand} (ho : o.op = .box e x) (hp : prepOp P o = some p) (h : HR P R μ s w) (hρ : EvR μ ev ρ) (hx : xop p ev s = some (v, s')) (hR : s'.next ≤ R) : Snd P R μ s w (execOp ρ o) v s' := by
  simp only [prepOp, ho, Option.map_eq_some_iff] at hp
  obtain ⟨a, ha, rfl⟩ := hp
  simp only [xop] at hx
  split at hx
  · rename_i u hu
    simp only [newA, Option.some.injEq, Prod.mk.injEq] at hx
    obtain ⟨rfl, rfl⟩ := hx
    have hc := hρ _ _ _ ha hu
    refine snd_new (c := (ρ x).cells) (elem := e) (fz := (0, 0)) (e := 0) (d := w.drawn) (rest := []) (cv := .pointer (some ⟨w.heap.size, 0, none⟩)) h hR (xs := (ρ x).cells.toList) (fun ν hν => conc_cells (conc_mono hν _ _ hc)) (by simp) (by simp) (fun _ => rfl) (by intro i _; simp) ?_ ?_
    · simp [execOp, ho, Instr.box, newVar, newRow]
    · simp [conc, Place.add]
  · cases hx

theorem snd_load {t : TypeId} {x : Operand} (ho : o.op = .load t x) (hp : prepOp P o = some p) (h : HR P R μ s w) (hρ : EvR μ ev ρ) (hx : xop p ev s = some (v, s')) (hR : s'.next ≤ R) : Snd P R μ s w (execOp ρ o) v s' := by
  simp only [prepOp, ho] at hp
  split at hp <;> cases hp
  · rename_i n a hag hsz ha
    simp only [xop] at hx
    split at hx <;> try cases hx
    rename_i b of hv
    split at hx <;> cases hx
    rename_i l hl
    obtain ⟨q, hq, hr⟩ := isSome_of_conc_ptr (hρ _ _ _ ha hv)
    obtain ⟨xs, hxs, _, hrun⟩ := run_loadA h hl hq
    refine Snd.pure h hR (c := .agg xs.toArray) ?_ (by simp [conc, hxs])
    simp [execOp, ho, Instr.loadAt, Instr.sureAddr, hr, loadVar, run_isAgg hag, run_size hsz, hrun]
  · rename_i n a hag ha
    simp only [xop] at hx
    split at hx <;> try cases hx
    rename_i b of hv
    split at hx <;> try cases hx
    rename_i vs lo ro z hg
    obtain ⟨hvs, rfl⟩ := pure'_some hx
    obtain ⟨q, hq, hr⟩ := isSome_of_conc_ptr (hρ _ _ _ ha hv)
    obtain ⟨c, hc, hcv⟩ := h.cell hg hq hvs
    refine Snd.pure h hR (c := c) ?_ hcv
    simp [execOp, ho, Instr.loadAt, Instr.sureAddr, hr, loadVar, run_isAgg hag, hc]

theorem snd_nilCheck {x : Operand} (ho : o.op = .nilCheck x) (hp : prepOp P o = some p) (h : HR P R μ s w) (hρ : EvR μ ev ρ) (hx : xop p ev s = some (v, s')) (hR : s'.next ≤ R) : Snd P R μ s w (execOp ρ o) v s' := by
  simp only [prepOp, ho, Option.map_eq_some_iff] at hp
  obtain ⟨a, ha, rfl⟩ := hp
  simp only [xop] at hx
  split at hx <;> cases hx
  · rename_i b of hv
    have hc := hρ _ _ _ ha hv
    obtain ⟨q, hq, hr⟩ := isSome_of_conc_ptr hc
    exact Snd.pure h hR (c := ρ x) (by simp [execOp, ho, hr]) hc
  · rename_i f a' c' hv
    have hc := hρ _ _ _ ha hv
    have hc' := hc
    simp only [conc] at hc'
    rw [if_pos (show Fn.plain (Fn.func f) = true from rfl)] at hc'
    simp only [Option.bind_eq_some_iff, Option.map_eq_some_iff] at hc'
    obtain ⟨y, _, z, _, hr⟩ := hc'
    exact Snd.pure h hR (c := ρ x) (by simp [execOp, ho, ← hr]) hc
  · rename_i r hv
    have hc := hρ _ _ _ ha hv
    have hc' := hc
    simp only [conc, Option.map_eq_some_iff] at hc'
    obtain ⟨q, _, hr⟩ := hc'
    exact Snd.pure h hR (c := ρ x) (by simp [execOp, ho, ← hr]) hc

theorem snd_mkIface {t : TypeId} {x : Operand} (ho : o.op = .makeInterface t x) (hp : prepOp P o = some p) (h : HR P R μ s w) (hρ : EvR μ ev ρ) (hx : xop p ev s = some (v, s')) (hR : s'.next ≤ R) : Snd P R μ s w (execOp ρ o) v s' := by
  simp only [prepOp, ho] at hp
  split at hp <;> cases hp
  rename_i d a hni hu ha
  simp only [xop] at hx
  split at hx <;> cases hx
  rename_i u hu'
  have hc := hρ _ _ _ ha hu'
  refine Snd.pure h hR (c := .iface t (ρ x)) ?_ (by simp [conc, hc])
  simp only [execOp, ho, Instr.makeInterface, Sem.run_bind, run_und hu, Result.andThen_ok]
  cases d <;> first | simp | (exact absurd rfl (hni _))

theorem evs_conc {l : List Operand} {xs : List X} (hp : prepXs l = some xs) (hρ : EvR μ ev ρ) : ∀ {vs : List AV}, evs ev xs = some vs → concs μ vs = some (l.map ρ) := by
  induction l generalizing xs with
  | nil => simp only [prepXs, Option.some.injEq] at hp; subst hp; intro vs hv; simp only [evs, Option.some.injEq] at hv; subst hv; rfl
  | cons y l ih =>
    simp only [prepXs] at hp
    split at hp <;> try cases hp
    rename_i a ha
    split at hp <;> cases hp
    rename_i r hr
    intro vs hv
    simp only [evs] at hv
    split at hv <;> try cases hv
    rename_i u hu
    split at hv <;> cases hv
    rename_i us hus
    simp only [concs, hρ _ _ _ ha hu, ih hr hus, Option.bind_some, Option.map_some, List.map_cons]

theorem snd_mkFunc {f : Fn} {a c : Array Operand} (ho : o.op = .makeFunc f a c) (hp : prepOp P o = some p) (h : HR P R μ s w) (hρ : EvR μ ev ρ) (hx : xop p ev s = some (v, s')) (hR : s'.next ≤ R) : Snd P R μ s w (execOp ρ o) v s' := by
  simp only [prepOp, ho] at hp
  split at hp <;> try cases hp
  rename_i hf
  split at hp <;> cases hp
  rename_i a' c' ha hc
  simp only [xop] at hx
  split at hx <;> cases hx
  rename_i va vc hva hvc
  have h1 := evs_conc ha hρ hva
  have h2 := evs_conc hc hρ hvc
  refine Snd.pure h hR (c := .func f (a.map ρ) (c.map ρ)) (by simp [execOp, ho, Instr.makeFunc]) ?_
  simp only [conc, if_pos hf, h1, h2, Option.bind_some, Option.map_some]
  rw [← Array.toList_map, ← Array.toList_map]

theorem snd_extract {x : Operand} {i : Nat} (ho : o.op = .extract x i) (hp : prepOp P o = some p) (h : HR P R μ s w) (hρ : EvR μ ev ρ) (hx : xop p ev s = some (v, s')) (hR : s'.next ≤ R) : Snd P R μ s w (execOp ρ o) v s' := by
  simp only [prepOp, ho, Option.map_eq_some_iff] at hp
  obtain ⟨a, ha, rfl⟩ := hp
  simp only [xop] at hx
  split at hx <;> try cases hx
  rename_i l hv
  obtain ⟨hl, rfl⟩ := pure'_some hx
  obtain ⟨xs, hxs, hr⟩ := conc_tup (hρ _ _ _ ha hv)
  obtain ⟨c, hc, hcv⟩ := concs_get hxs i v hl
  refine Snd.pure h hR (c := c) ?_ hcv
  simp [execOp, ho, Instr.extract, hr, hc]

theorem snd_makeMap {t : TypeId} (ho : o.op = .makeMap t none) (hp : prepOp P o = some p) (h : HR P R μ s w) (_ : EvR μ ev ρ) (hx : xop p ev s = some (v, s')) (hR : s'.next ≤ R) : Snd P R μ s w (execOp ρ o) v s' := by
  simp only [prepOp, ho, Option.some.injEq] at hp
  subst hp
  simp only [xop, newA, Option.some.injEq, Prod.mk.injEq] at hx
  obtain ⟨rfl, rfl⟩ := hx
  obtain ⟨h1, h2⟩ := h.new hR (.map [] 0) (.map #[] 0) 0 w.drawn ⟨#[], World.push_new w _ _, trivial⟩
  exact ⟨_, .map (some w.heap.size), _, .inl (by simp [execOp, ho, Instr.makeMap]), by simp [conc, Place.add], h1, h2⟩

theorem snd_fieldAddr {t : TypeId} {x : Operand} {i : Nat} (ho : o.op = .fieldAddr t x i) (hp : prepOp P o = some p) (h : HR P R μ s w) (hρ : EvR μ ev ρ) (hx : xop p ev s = some (v, s')) (hR : s'.next ≤ R) : Snd P R μ s w (execOp ρ o) v s' := by
  simp only [prepOp, ho] at hp
  split at hp <;> try cases hp
  rename_i f a hf ha
  split at hp <;> try cases hp
  rename_i n hn
  split at hp <;> cases hp
  rename_i hn0
  simp only [xop] at hx
  split at hx <;> cases hx
  rename_i b of hv
  obtain ⟨q, hq, hr⟩ := isSome_of_conc_ptr (hρ _ _ _ ha hv)
  refine Snd.pure h hR (c := .pointer (some ⟨q.1, of + f.offset, none⟩)) ?_ (by simp [conc, hq])
  unfold fieldOf at hf
  split at hf <;> try cases hf
  rename_i fs hu
  simp [execOp, ho, Instr.fieldAt, run_und hu, hf, Instr.sureAddr, hr, fieldPlace, run_size hn, hn0, Addr.add_mk]

theorem run_part {t : TypeId} {n : Option Nat} {cs : List AV} {off : Nat} {v : AV} {xs : List Value} (hn : (isAggB P t = some true ∧ ∃ k, sizeB P t = some k ∧ n = some k) ∨ (isAggB P t = some false ∧ n = none))
    (hxs : concs μ cs = some xs) (hv : partA n cs off = some v) (w : World) : ∃ c, conc μ v = some c ∧ (part t xs.toArray off).run P w = .ok c w := by
  rcases hn with ⟨hag, k, hk, rfl⟩ | ⟨hag, rfl⟩
  · simp only [partA, Option.some.injEq] at hv
    subst hv
    refine ⟨.agg ((xs.drop off).take k).toArray, by simp [conc, concs_take (concs_drop hxs off) k], ?_⟩
    simp [part, run_isAgg hag, run_size hk]
  · simp only [partA] at hv
    obtain ⟨c, hc, hcv⟩ := concs_get hxs off v hv
    refine ⟨c, hcv, ?_⟩
    simp [part, run_isAgg hag, hc]

theorem snd_field {t : TypeId} {x : Operand} {i : Nat} (ho : o.op = .field t x i) (hp : prepOp P o = some p) (h : HR P R μ s w) (hρ : EvR μ ev ρ) (hx : xop p ev s = some (v, s')) (hR : s'.next ≤ R) : Snd P R μ s w (execOp ρ o) v s' := by
  simp only [prepOp, ho] at hp
  split at hp <;> try cases hp
  rename_i f a hf ha
  unfold fieldOf at hf
  split at hf <;> try cases hf
  rename_i fs hu
  split at hp <;> cases hp
  · rename_i n hag hn
    simp only [xop] at hx
    split at hx
    case h_2 => cases hx
    rename_i l hv
    obtain ⟨hl, rfl⟩ : partA (some n) l f.offset = some v ∧ s = s' := by cases hx; exact ⟨rfl, rfl⟩
    obtain ⟨xs, hxs, hr⟩ := conc_agg (hρ _ _ _ ha hv)
    obtain ⟨c, hc, hrun⟩ := run_part (.inl ⟨hag, n, hn, rfl⟩) hxs hl w
    exact Snd.pure h hR (c := c) (by simp [execOp, ho, Instr.field, run_und hu, hf, asAgg, hr, hrun]) hc
  · rename_i n hag
    simp only [xop] at hx
    split at hx <;> try cases hx
    rename_i l hv
    obtain ⟨hl, rfl⟩ := pure'_some hx
    obtain ⟨xs, hxs, hr⟩ := conc_agg (hρ _ _ _ ha hv)
    obtain ⟨c, hc, hrun⟩ := run_part (.inr ⟨hag, rfl⟩) hxs hl w
    exact Snd.pure h hR (c := c) (by simp [execOp, ho, Instr.field, run_und hu, hf, asAgg, hr, hrun]) hc
end Go.Proofs.Yteffppdkofdmdaa.D
