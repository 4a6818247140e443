/- The operations of the abstract machine do what the model's do: conversions, arithmetic, comparisons. -/
import Derived.Test.YteffppdkofdmdaaDSnd5
import Derived.Laws.IdiomStrings
namespace Go.Proofs.Yteffppdkofdmdaa.D
variable {P : Program} {R : Nat} {μ : Place} {s : St} {w : World} {ev : Ev} {ρ : Operand → Value} {o : Oper} {p : POp} {v : AV} {s' : St}

theorem bytesA_some : ∀ {l : List AV} {bs : List UInt8} (_ : bytesA l = some bs) {xs : List Value} (_ : concs μ l = some xs), ∃ ns : List Int, xs = ns.map (fun n => Value.int .u8 n) ∧ bs = ns.map fun n => UInt8.ofNat n.toNat
  | [], bs, h, xs, hx => by
    simp only [bytesA, Option.some.injEq] at h
    simp only [concs, Option.some.injEq] at hx
    subst h; subst hx
    exact ⟨[], rfl, rfl⟩
  | v :: r, bs, h, xs, hx => by
    unfold bytesA at h
    split at h
    · rename_i e; cases e
    · rename_i n r' e
      cases e
      split at h <;> cases h
      rename_i l hl
      simp only [concs, conc, Option.bind_some, Option.map_eq_some_iff] at hx
      obtain ⟨y, hy, rfl⟩ := hx
      obtain ⟨ns, h1, h2⟩ := bytesA_some hl hy
      exact ⟨n :: ns, by simp [h1], by simp [h2]⟩
    · cases h

theorem foldl_push (ns : List Int) : ∀ (acc : ByteArray), ns.foldl (fun r n => r.push (UInt8.ofNat n.toNat)) acc = ⟨acc.data ++ (ns.map fun n => UInt8.ofNat n.toNat).toArray⟩ := by
  induction ns with
  | nil => intro acc; simp
  | cons n ns ih =>
    intro acc
    rw [List.foldl_cons, ih]
    simp [ByteArray.push]

theorem snd_convert {t d : TypeId} {x : Operand} (ho : o.op = .convert t d x) (hp : prepOp P o = some p) (h : HR P R μ s w) (hρ : EvR μ ev ρ) (hx : xop p ev s = some (v, s')) (hR : s'.next ≤ R) : Snd P R μ s w (execOp ρ o) v s' := by
  simp only [prepOp, ho] at hp
  split at hp
  case h_5 => cases hp
  · rename_i k0 k a hut hud ha
    cases hp
    simp only [xop] at hx
    split at hx <;> cases hx
    rename_i k1 n hav
    have hr := conc_int (hρ _ _ _ ha hav)
    refine Snd.pure h hR (c := .int k (k.wrap n)) ?_ rfl
    simp [execOp, ho, convert, run_und hut, run_und hud, hr, Conv.intToInt]
  · rename_i a hut hud ha
    cases hp
    simp only [xop] at hx
    split at hx <;> cases hx
    rename_i sv hav
    have hr := conc_str (hρ _ _ _ ha hav)
    refine Snd.pure h hR (c := .string sv) ?_ rfl
    simp [execOp, ho, convert, run_und hut, run_und hud, hr]
  · rename_i e a hut hud ha
    split at hp <;> cases hp
    rename_i hue hsz
    simp only [xop] at hx
    split at hx
    case h_2 => cases hx
    rename_i sv hav
    simp only [newA, Option.some.injEq, Prod.mk.injEq] at hx
    obtain ⟨rfl, rfl⟩ := hx
    have hr := conc_str (hρ _ _ _ ha hav)
    have hrun := run_bytes_of_string (P := P) w t d e sv hut hud hue
    obtain ⟨cap, hcap⟩ : ∃ cap, grownCap w sv.size 0 e = sv.size + cap := ⟨_, rfl⟩
    rw [hcap] at hrun
    refine snd_new (c := bytesRow sv (sv.size + cap)) (elem := e) (fz := ((bytesRow sv (sv.size + cap)).size, (bytesRow sv (sv.size + cap)).size + 1)) (e := cap) (d := w.drawn + 1) (rest := List.replicate cap (Value.int .u8 0))
      (cv := .slice (some ⟨w.heap.size, 0, none⟩) sv.size (sv.size + cap)) h hR (xs := sv.data.toList.map fun c => Value.int .u8 c.toNat) ?_ (by simp [bytesRow]) (by simp) (by simp) ?_ ?_ ?_
    · intro ν _
      induction sv.data.toList with
      | nil => rfl
      | cons c l ih => simp [concs, conc, ih]
    · intro i hi h1
      have := h1.1
      exact absurd hi (Nat.not_lt.2 this)
    · simp only [execOp, ho, Sem.run_bind, hr, hrun, Result.andThen_ok, Sem.run_pure]
      rfl
    · simp [conc, Place.add]
  · rename_i e a hut hud ha
    split at hp <;> cases hp
    rename_i hue
    simp only [xop] at hx
    split at hx
    case h_4 => cases hx
    · rename_i hav
      cases hx
      have hr : ρ x = .slice none 0 0 := by simpa [conc] using (hρ _ _ _ ha hav).symm
      refine Snd.pure h hR (c := .string .empty) ?_ rfl
      simp [execOp, ho, convert, run_und hut, run_und hud, run_und hue, hr, Conv.bytesToString]
    · rename_i b of adv hav
      cases hx
      obtain ⟨q, hq, hr⟩ := conc_tail (hρ _ _ _ ha hav)
      refine Snd.pure h hR (c := .string .empty) ?_ rfl
      simp [execOp, ho, convert, run_und hut, run_und hud, run_und hue, hr, Conv.bytesToString, loadCells, loadCellsFrom]
    · rename_i b of len _ _ hav
      split at hx
      case h_2 => cases hx
      rename_i l hl
      split at hx <;> cases hx
      rename_i bs hbs
      obtain ⟨q, hq, hr⟩ := conc_slice (hρ _ _ _ ha hav)
      obtain ⟨xs, hxs, _, hrun⟩ := run_loadA h hl hq
      obtain ⟨ns, rfl, rfl⟩ := bytesA_some hbs hxs
      refine Snd.pure h hR (c := .string ⟨(ns.map fun n => UInt8.ofNat n.toNat).toArray⟩) ?_ rfl
      have hrun' := fun c => run_bytesToString (P := P) w ⟨q.1, of, none⟩ len c ns hrun
      simp only [foldl_push] at hrun'
      simp only [execOp, ho, Sem.run_bind, hr]
      rw [run_convert_bytes_string w t d e _ _ _ hut hue hud, hrun']
      simp [ByteArray.empty, ByteArray.emptyWithCapacity]
      rfl
end Go.Proofs.Yteffppdkofdmdaa.D
