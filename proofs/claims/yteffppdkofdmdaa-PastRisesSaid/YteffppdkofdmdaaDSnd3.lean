/- The operations of the abstract machine do what the model's do: what is stored, what is built. -/
import Derived.Test.YteffppdkofdmdaaDSnd2
namespace Go.Proofs.Yteffppdkofdmdaa.D
variable {P : Program} {R : Nat} {μ : Place} {s : St} {w : World} {ev : Ev} {ρ : Operand → Value} {o : Oper} {p : POp} {v : AV} {s' : St}

theorem seg_step {α : Type} (l : List α) (k : Nat) (v : α) (rest : List α) (h : k + 1 + rest.length ≤ l.length) :
    (l.set k v).take (k + 1) ++ rest ++ (l.set k v).drop (k + 1 + rest.length) = l.take k ++ (v :: rest) ++ l.drop (k + (rest.length + 1)) := by
  have hk : k < l.length := by omega
  have h1 : (l.set k v).take (k + 1) = l.take k ++ [v] := by
    rw [List.take_set, List.take_succ_eq_append_getElem hk, List.set_append_right _ _ (by simp; omega)]
    simp [Nat.min_eq_left (Nat.le_of_lt hk)]
  have h2 : (l.set k v).drop (k + 1 + rest.length) = l.drop (k + (rest.length + 1)) := by
    rw [List.drop_set_of_lt (by omega)]
    congr 1; omega
  rw [h1, h2]; simp

/-- Cells that stand one beside the other are stored. -/
theorem run_storeList (g o : Nat) (t : TypeId) (fz : Nat × Nat) : ∀ (vs : List Value) (i : Nat) (cur : Array Value) (w : World), w.heap[g]? = some (.cells cur t fz) →
    (∀ j, j < cur.size → ¬ (fz.1 ≤ j ∧ j < fz.2)) → o + i + vs.length ≤ cur.size → (∀ v ∈ vs, v.oneCell' = true) →
    ∃ (w' : World) (cur' : Array Value), (storeCells ⟨g, o, none⟩ vs i).run P w = .ok () w' ∧ w'.heap[g]? = some (.cells cur' t fz) ∧ cur'.toList = cur.toList.take (o + i) ++ vs ++ cur.toList.drop (o + i + vs.length) ∧
      w'.os = w.os ∧ w'.output = w.output ∧ w'.tape = w.tape ∧ w'.heap.size = w.heap.size ∧ ∀ k, k ≠ g → w'.heap[k]? = w.heap[k]? := by
  intro vs
  induction vs with
  | nil =>
    intro i cur w hg _ _ _
    exact ⟨w, cur, rfl, hg, by simp, rfl, rfl, rfl, rfl, fun _ _ => rfl⟩
  | cons v rest ih =>
    intro i cur w hg hf hl h1
    have hi : o + i < cur.size := by simp at hl; omega
    have hcell : w.cell? ⟨g, o + i, none⟩ = some cur[o + i] := by simp [World.cell?, hg, hi]
    have hfro : w.frozen? ⟨g, o + i, none⟩ = false := by
      have := hf (o + i) hi
      simp [World.frozen?, hg]
      intro h1
      omega
    have hglt : g < w.heap.size := (Array.getElem?_eq_some_iff.1 hg).1
    have hst : (store ((⟨g, o, none⟩ : Addr).add i) v).run P w = .ok () (w.setCell ⟨g, o + i, none⟩ v) := by
      rw [Addr.add_mk, run_store P w _ v _ (h1 v (by simp)), hcell]
      simp [hfro]
    have hg' : (w.setCell ⟨g, o + i, none⟩ v).heap[g]? = some (.cells (cur.setIfInBounds (o + i) v) t fz) := by
      have := (Array.getElem?_eq_some_iff.1 hg).2
      simp [World.setCell, Array.getElem?_modify, hg]
    obtain ⟨w', cur', e1, e2, e3, e4, e5, e6, e7, e8⟩ := ih (i + 1) (cur.setIfInBounds (o + i) v) (w.setCell ⟨g, o + i, none⟩ v) hg' (by simpa using hf) (by simp at hl ⊢; omega) (fun x hx => h1 x (by simp [hx]))
    refine ⟨w', cur', ?_, e2, ?_, e4, e5, e6, ?_, ?_⟩
    · simp only [storeCells, Sem.run_bind, hst, Result.andThen_ok, e1]
    · rw [e3]
      have e := seg_step cur.toList (o + i) v rest (by simp at hl ⊢; omega)
      simpa [Array.toList_setIfInBounds, Nat.add_assoc] using e
    · rw [e7]; simp [World.setCell]
    · intro k hk
      rw [e8 k hk]
      simp [World.setCell, Array.getElem?_modify]
      omega

theorem allCell_conc {l : List AV} (h : allCell l = true) : ∀ {xs : List Value}, concs μ l = some xs → ∀ x ∈ xs, x.oneCell' = true := by
  induction l with
  | nil => intro xs hx x hm; simp only [concs, Option.some.injEq] at hx; subst hx; cases hm
  | cons a l ih =>
    intro xs hx x hm
    simp only [allCell, Bool.and_eq_true] at h
    simp only [concs, Option.bind_eq_some_iff, Option.map_eq_some_iff] at hx
    obtain ⟨y, hy, z, hz, rfl⟩ := hx
    cases hm with
    | head =>
      have h2 := conc_cell hy h.1
      cases x <;> first | rfl | exact absurd rfl (h2 _).1 | exact absurd rfl (h2 _).2
    | tail _ hm => exact ih h.2 hz x hm

theorem concs_splice {l vs : List AV} {xs ys : List Value} (h : concs μ l = some xs) (k : concs μ vs = some ys) (off : Nat) : concs μ (splice l off vs) = some (xs.take off ++ ys ++ xs.drop (off + ys.length)) := by
  unfold splice
  rw [← concs_length k]
  exact concs_append (concs_append (concs_take h off) k) (concs_drop h _)

theorem storeA_some {s : St} {b o : Nat} {l : List AV} {s' : St} (h : storeA s b o l = some s') : ∃ vs lo z, s.get b = some (.cells vs lo false z) ∧ o + l.length ≤ vs.length ∧ allCell l = true ∧ s' = s.put b (.cells (splice vs o l) lo false z) := by
  unfold storeA at h
  split at h
  · rename_i vs lo z hg
    split at h
    · rename_i hc
      cases h; exact ⟨vs, lo, z, hg, hc.1, hc.2, rfl⟩
    · cases h
  · cases h

/-- A store into a block that is known. -/
theorem run_storeA {s : St} {w : World} (h : HR P R μ s w) {b o : Nat} {l : List AV} {s' : St} (hR : s'.next ≤ R) (hs : storeA s b o l = some s') {q : Nat × Nat} (hq : μ b = some q) {ys : List Value} (hy : concs μ l = some ys) :
    ∃ w', (storeCells ⟨q.1, o, none⟩ ys).run P w = .ok () w' ∧ HR P R μ s' w' ∧ Mv μ s w μ s' w' := by
  obtain ⟨vs, lo, z, hg, hle, hac, rfl⟩ := storeA_some hs
  obtain ⟨q', hq', c, el, fz, xs, rest, h1, h2, h3, h4, h5, h6⟩ := h.obj _ _ hg
  rw [hq] at hq'; cases hq'
  have hlen := concs_length h2
  have hly := concs_length hy
  have hcs : c.size = xs.length + rest.length := by rw [← Array.length_toList, h3]; simp
  obtain ⟨w', cur', e1, e2, e3, e4, e5, e6, e7, e8⟩ := run_storeList (P := P) q.1 o el fz ys 0 c w h1 (h6 rfl) (by omega) (allCell_conc hac hy)
  refine ⟨w', e1, h.turn hR hg hq (by simp) ?_ e4 e5 e6 e7 e8⟩
  refine ⟨cur', el, fz, xs.take o ++ ys ++ xs.drop (o + ys.length), rest, e2, concs_splice h2 hy o, ?_, h4, h5, ?_⟩
  · rw [e3, h3]
    simp only [Nat.add_zero]
    rw [List.take_append_of_le_length (by omega), List.drop_append_of_le_length (by omega)]
    simp
  · intro _ i hi
    have : cur'.size = c.size := by
      rw [← Array.length_toList, e3, ← Array.length_toList]
      simp
      omega
    exact h6 rfl i (by omega)

theorem snd_store {t : TypeId} {x y : Operand} (ho : o.op = .store t x y) (hp : prepOp P o = some p) (h : HR P R μ s w) (hρ : EvR μ ev ρ) (hx : xop p ev s = some (v, s')) (hR : s'.next ≤ R) : Snd P R μ s w (execOp ρ o) v s' := by
  simp only [prepOp, ho] at hp
  split at hp <;> cases hp
  rename_i n a b hn ha hb
  simp only [xop] at hx
  split at hx <;> try cases hx
  rename_i bb of u hav hbv
  split at hx <;> try cases hx
  rename_i hcl
  split at hx <;> cases hx
  rename_i hs
  obtain ⟨q, hq, hr⟩ := isSome_of_conc_ptr (hρ _ _ _ ha hav)
  have hc := hρ _ _ _ hb hbv
  have hcc := conc_cells hc
  obtain ⟨w', hrun, h1, h2⟩ := run_storeA h hR hs hq hcc
  refine ⟨μ, undef, w', .inr ⟨?_, rfl⟩, rfl, h1, h2⟩
  have hlen : (ρ y).cells.size = n := by have := concs_length hcc; simp at this; omega
  simp [execOp, ho, Instr.storeAt, Instr.sureAddr, hr, storeVar, run_size hn, hlen, hrun]

theorem foldl_splice (off : Nat) : ∀ (l : List Value) (k : Nat) (cs : Array Value), off + k + l.length ≤ cs.size →
    (List.foldl (fun (cs : Array Value) (x : Value × Nat) => cs.setIfInBounds (off + x.2) x.1) cs (l.zipIdx k)).toList = cs.toList.take (off + k) ++ l ++ cs.toList.drop (off + k + l.length) := by
  intro l
  induction l with
  | nil => intro k cs _; simp
  | cons x l ih =>
    intro k cs h
    simp only [List.zipIdx_cons, List.foldl_cons]
    rw [ih (k + 1) _ (by simp at h ⊢; omega)]
    have e := seg_step cs.toList (off + k) x l (by simp at h ⊢; omega)
    simpa [Array.toList_setIfInBounds, Nat.add_assoc] using e

theorem run_fill {place : Nat → Option (Nat × Nat)} : ∀ {parts : List (Nat × Operand)} {pp : List (Nat × Nat × X)} (_ : prepParts place parts = some pp) {z l : List AV} {zs : Array Value} (_ : EvR μ ev ρ)
    (_ : concs μ z = some zs.toList) (_ : fillA ev z pp = some l), ∃ cs : Array Value, Instr.fill place zs (parts.map fun x => (x.1, ρ x.2)) = some cs ∧ concs μ l = some cs.toList
  | [], pp, hp, z, l, zs, _, hz, hf => by
    simp only [prepParts, Option.some.injEq] at hp
    subst hp
    simp only [fillA, Option.some.injEq] at hf
    subst hf
    exact ⟨zs, by simp [Instr.fill], hz⟩
  | (i, y) :: r, pp, hp, z, l, zs, hρ, hz, hf => by
    simp only [prepParts] at hp
    split at hp <;> cases hp
    rename_i off size x l' hi hy hr
    simp only [fillA] at hf
    split at hf
    case h_2 => cases hf
    rename_i u hu
    split at hf
    case isFalse => cases hf
    rename_i hc
    have hcc := conc_cells (hρ _ _ _ hy hu)
    have hlen := concs_length hcc
    have hlz := concs_length hz
    simp at hlen hlz
    have hsz : (ρ y).cells.size = size := by omega
    have hsp := concs_splice hz hcc off
    have e := foldl_splice off (ρ y).cells.toList 0 zs (by simp; omega)
    simp only [Nat.add_zero] at e
    rw [← e] at hsp
    obtain ⟨cs, h1, h2⟩ := run_fill hr hρ hsp hf
    refine ⟨cs, ?_, h2⟩
    simp only [List.map_cons, Instr.fill, hi]
    rw [if_neg (by simp; omega)]
    rw [← h1]
    congr 1
    rw [← Array.foldl_toList]
    simp

theorem fieldPlaces_some {fs : Array Field} {l : List (Nat × Nat)} (h : fieldPlaces P fs = some l) (w : World) : ∃ pl : Array (Nat × Nat), (fs.mapM fun (f : Field) => (do pure (f.offset, ← sizeOf f.type) : Sem (Nat × Nat))).run P w = .ok pl w ∧ pl.toList = l := by
  unfold fieldPlaces at h
  have key : ∀ (fl : List Field) (l : List (Nat × Nat)), fl.foldr (fun f acc => match sizeB P f.type, acc with
      | some s, some l => some ((f.offset, s) :: l)
      | _, _ => none) (some []) = some l → (fl.mapM fun (f : Field) => (do pure (f.offset, ← sizeOf f.type) : Sem (Nat × Nat))).run P w = .ok l w := by
    intro fl
    induction fl with
    | nil => intro l h; simp at h; subst h; simp
    | cons f fl ih =>
      intro l h
      simp only [List.foldr_cons] at h
      split at h <;> cases h
      rename_i n l' hn hl
      simp only [List.mapM_cons, Sem.run_bind, run_size hn, Result.andThen_ok, Sem.run_pure, ih _ hl]
  have := key _ _ h
  refine ⟨l.toArray, ?_, by simp⟩
  rw [Array.mapM_eq_mapM_toList, Sem.run_map, this]
  rfl

theorem snd_build {t : TypeId} {parts : Array (Nat × Operand)} (ho : o.op = .build t parts) (hp : prepOp P o = some p) (h : HR P R μ s w) (hρ : EvR μ ev ρ) (hx : xop p ev s = some (v, s')) (hR : s'.next ≤ R) : Snd P R μ s w (execOp ρ o) v s' := by
  simp only [prepOp, ho] at hp
  split at hp
  case h_3 => cases hp
  · rename_i fs z hu hz
    split at hp
    case h_2 => cases hp
    rename_i pl hpl
    simp only [Option.map_eq_some_iff] at hp
    obtain ⟨pp, hpp, rfl⟩ := hp
    simp only [xop] at hx
    split at hx <;> cases hx
    rename_i l hl
    obtain ⟨zv, hzr, hzc⟩ := zeroB_some hz
    obtain ⟨cs, h1, h2⟩ := run_fill hpp hρ (hzc μ) hl
    obtain ⟨pla, hpr, hpe⟩ := fieldPlaces_some hpl w
    refine Snd.pure h hR (c := .agg cs) ?_ (by simp [conc, h2])
    subst hpe
    have h1' : Instr.fill (fun i => pla[i]?) zv.cells (List.map (fun x => (x.1, ρ x.2)) parts.toList) = some cs := by
      rw [← h1]; congr 1; funext i; simp
    simp only [execOp, ho, Instr.build, Sem.run_bind, hzr, Result.andThen_ok, run_und hu, hpr]
    simp [h1']
  · rename_i n e z hu hz
    split at hp
    case h_2 => cases hp
    rename_i sz hsz
    simp only [Option.map_eq_some_iff] at hp
    obtain ⟨pp, hpp, rfl⟩ := hp
    simp only [xop] at hx
    split at hx <;> cases hx
    rename_i l hl
    obtain ⟨zv, hzr, hzc⟩ := zeroB_some hz
    obtain ⟨cs, h1, h2⟩ := run_fill hpp hρ (hzc μ) hl
    refine Snd.pure h hR (c := .agg cs) ?_ (by simp [conc, h2])
    simp only [execOp, ho, Instr.build, Sem.run_bind, hzr, Result.andThen_ok, run_und hu, run_size hsz]
    simp [h1]

theorem range_mod_flatten (zs : Array Value) (n : Nat) : (Array.range (n * zs.size)).map (fun i => zs[i % zs.size]!) = (List.replicate n zs.toList).flatten.toArray := by
  apply Array.ext'
  simp only [Array.toList_map, Array.toList_range]
  induction n with
  | zero => simp
  | succ n ih =>
    rw [Nat.succ_mul, Nat.add_comm, List.range_add, List.map_append, List.replicate_succ, List.flatten_cons, List.map_map]
    congr 1
    · apply List.ext_getElem
      · simp
      · intro i h1 h2
        simp at h1
        simp [Nat.mod_eq_of_lt h1, h1]
    · rw [← ih]
      apply List.map_congr_left
      intro i _
      simp
end Go.Proofs.Yteffppdkofdmdaa.D
