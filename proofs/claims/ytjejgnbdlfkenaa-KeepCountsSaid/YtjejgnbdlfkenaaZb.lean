/- The operations of the abstract machine do what the model's do: slice expressions, conversions, numbers.
The operations of the abstract machine do what the model's do: conversions, arithmetic, comparisons.
The operations of the abstract machine do what the model's do: two values held against one another.
The operations of the abstract machine do what the model's do: binary and unary operations, lengths, maps.
The operations of the abstract machine do what the model's do: what is built in, and maps.
The operations of the abstract machine do what the model's do: append, copy, lengths, make.
The operations of the abstract machine do what the model's do: what is built in, as operations.
The operations of the abstract machine do what the model's do: the rest, and all of them.
The operations of the abstract machine do what the model's do: all of them.
The abstract machine. Plain definitions. -/
import Derived.Test.YtjejgnbdlfkenaaZa
import Derived.Laws.IdiomStrings
import Derived.ChangeKeysEq
import Derived.Maps.RangeRun
namespace Go.Proofs.Ytjejgnbdlfkenaa.D
variable {P : Program} {R : Nat} {μ : Place} {s : St} {w : World} {ev : Ev} {ρ : Operand → Value} {o : Oper} {p : POp} {v : AV} {s' : St}

theorem isZero_bound {x : Option AV} (h : isZero x = true) {c : Option Value} (hc : OptV μ x c) (y : Nat) (code : BoundsCode) (w : World) :
    (match c with | some v => Instr.sliceBound v y code | none => pure 0).run P w = .ok 0 w := by
  cases x with
  | none => cases c with
    | none => rfl
    | some _ => exact hc.elim
  | some v => cases c with
    | none => exact hc.elim
    | some c =>
      cases v <;> simp [isZero] at h
      have := conc_int hc
      subst this
      subst h
      simp [Instr.sliceBound, asIntOf]

theorem snd_slice {t : TypeId} {x : Operand} {lo hi mx : Option Operand} (ho : o.op = .slice t x lo hi mx) (hp : prepOp P o = some p) (h : HR P R μ s w) (hρ : EvR μ ev ρ) (hx : xop p ev s = some (v, s')) (hR : s'.next ≤ R) : Snd P R μ s w (execOp ρ o) v s' := by
  simp only [prepOp, ho] at hp
  split at hp
  case h_5 => cases hp
  · -- a string
    rename_i a lo' hi' hu ha hlo hhi hmx
    cases hp
    simp only [xop] at hx
    split at hx
    case h_2 => cases hx
    rename_i sv vlo vhi hav hvlo hvhi
    split at hx <;> cases hx
    rename_i l hh _ hb
    have hmx' : mx = none := by
      cases mx with
      | none => rfl
      | some y => simp [optX] at hmx
    subst hmx'
    obtain ⟨hrun, hll, hhm, hmc, hme, hhe⟩ := run_bounds (P := P) (cap' := sv.size) (cmx := none) hb (evO_conc hlo hρ hvlo) (evO_conc hhi hρ hvhi) trivial (Nat.le_refl _) false w
    have hr := conc_str (hρ _ _ _ ha hav)
    refine Snd.pure h hR (c := .string (sv.extract l hh)) ?_ rfl
    simp [execOp, ho, Instr.sliceAt, run_und hu, hr, Instr.slice, hrun]
  · -- a slice
    rename_i e a lo' hi' mx' hu ha hlo hhi hmx
    simp only [Option.map_eq_some_iff] at hp
    obtain ⟨sz, hsz, rfl⟩ := hp
    simp only [xop] at hx
    split at hx
    case h_2 => cases hx
    rename_i xv vlo vhi vmx hav hvlo hvhi hvmx
    have hsl : sliceA sz xv vlo vhi vmx = some v ∧ s = s' := pure'_some hx
    obtain ⟨hsl, rfl⟩ := hsl
    have o1 := evO_conc hlo hρ hvlo
    have o2 := evO_conc hhi hρ hvhi
    have o3 := evO_conc hmx hρ hvmx
    have hc := hρ _ _ _ ha hav
    unfold sliceA at hsl
    split at hsl
    case h_5 => cases hsl
    · -- nil
      split at hsl <;> cases hsl
      rename_i r hb
      obtain ⟨l, hh, m⟩ := r
      obtain ⟨hrun, hll, hhm, hmc, hme, hhe⟩ := run_bounds (P := P) hb o1 o2 o3 (Nat.le_refl _) true w
      have hr : ρ x = .slice none 0 0 := by simpa [conc] using hc.symm
      have hm0 : m = 0 := by omega
      subst hm0
      have hh0 : hh = 0 := by omega
      subst hh0
      have hl0 : l = 0 := by omega
      subst hl0
      refine Snd.pure h hR (c := .slice none 0 0) ?_ rfl
      simp only [execOp, ho, Instr.sliceAt, Sem.run_bind, run_und hu, Result.andThen_ok, hr, Instr.slice, hrun, run_size hsz]
      simp
    · -- an empty end
      rename_i b of adv
      split at hsl <;> cases hsl
      rename_i hcond
      simp only [Bool.and_eq_true, Option.isNone_iff_eq_none] at hcond
      obtain ⟨⟨hmx0, hz1⟩, hz2⟩ := hcond
      subst hmx0
      obtain ⟨q, hq, hr⟩ := conc_tail hc
      refine Snd.pure h hR (c := ρ x) ?_ hc
      have hmxn : mx.map ρ = none := by
        cases mx with
        | none => rfl
        | some y => exact o3.elim
      have b1 := fun (y : Nat) code w => isZero_bound (P := P) hz1 o1 y code w
      have b2 := fun (y : Nat) code w => isZero_bound (P := P) hz2 o2 y code w
      have hbounds : (Instr.sliceBounds true 0 q.2 (lo.map ρ) (hi.map ρ) none).run P w = .ok (0, 0, q.2) w := by
        cases hl : lo.map ρ <;> cases hh : hi.map ρ <;> simp only [hl, hh] at b1 b2 <;> simp [Instr.sliceBounds, b1, b2]
      simp only [execOp, ho, Instr.sliceAt, Sem.run_bind, run_und hu, Result.andThen_ok, hr, Instr.slice, hmxn, hbounds, run_size hsz]
      simp
      intro _
      simp [Addr.add]
    · -- a slice of a row
      rename_i b of len cap loose
      split at hsl
      case h_1 => cases hsl
      rename_i l hh m hb
      obtain ⟨q, hq, hr⟩ := conc_slice hc
      obtain ⟨hrun, hll, hhm, hmc, hme, hhe⟩ := run_bounds (P := P) (cap' := if loose then cap + q.2 else cap) hb o1 o2 o3 (by split <;> omega) true w
      have hval : (execOp ρ o).run P w = .ok (.value (.slice (if (if vmx.isNone then (if loose then cap + q.2 else cap) else m) = l then some ⟨q.1, of, none⟩ else some ⟨q.1, of + l * sz, none⟩) (hh - l) ((if vmx.isNone then (if loose then cap + q.2 else cap) else m) - l))) w := by
        simp only [execOp, ho, Instr.sliceAt, Sem.run_bind, run_und hu, Result.andThen_ok, hr, Instr.slice, hrun, run_size hsz, Option.map_some, Addr.add_mk, Sem.run_pure]
      split at hsl
      · rename_i hlo2
        simp only [Bool.and_eq_true, Option.isNone_iff_eq_none] at hlo2
        obtain ⟨rfl, hmxn⟩ := hlo2
        have hmcap := hme hmxn
        subst hmcap
        simp only [hmxn, Option.isNone_none, if_true] at hval
        split at hsl <;> cases hsl
        · rename_i hml
          subst hml
          have hh1 : hh = m := by omega
          refine Snd.pure h hR hval ?_
          simp only [conc, hq, Option.map_some, Option.some.injEq]
          have e1 : hh - m = 0 := by omega
          have e2 : m + q.2 - m = q.2 := by omega
          rw [e1, e2]
          by_cases h0 : q.2 = 0
          · simp [h0]
          · rw [if_neg h0, if_neg (by omega)]
        · rename_i hml
          refine Snd.pure h hR hval ?_
          have : l < m := by omega
          simp only [conc, hq, Option.map_some, Option.some.injEq, if_true]
          rw [if_neg (by omega)]
          congr 1
          omega
      · rename_i hlo2
        cases hsl
        refine Snd.pure h hR hval ?_
        simp only [conc, hq, Option.map_some, Option.some.injEq, if_false, Bool.false_eq_true]
        have hM : (if vmx.isNone then (if loose = true then cap + q.2 else cap) else m) = m := by
          cases hvm : vmx with
          | some _ => simp
          | none =>
            have := hme hvm
            simp [hvm] at hlo2
            simp [hlo2, this]
        rw [hM]
        by_cases hml : m = l <;> simp [hml]
    · -- an empty one, unread
      rename_i a
      split at hsl <;> cases hsl
      rename_i r hb
      obtain ⟨l, hh, m⟩ := r
      obtain ⟨hrun, hll, hhm, hmc, hme, hhe⟩ := run_bounds (P := P) hb o1 o2 o3 (Nat.le_refl _) true w
      have hr : ρ x = .slice a 0 0 := by simpa [conc] using hc.symm
      have hm0 : m = 0 := by omega
      subst hm0
      have hh0 : hh = 0 := by omega
      subst hh0
      have hl0 : l = 0 := by omega
      subst hl0
      refine Snd.pure h hR (c := .slice a 0 0) ?_ rfl
      simp only [execOp, ho, Instr.sliceAt, Sem.run_bind, run_und hu, Result.andThen_ok, hr, Instr.slice, hrun, run_size hsz]
      simp
  · -- a pointer to an array
    rename_i a' a lo' hi' mx' hu ha hlo hhi hmx
    split at hp
    case h_2 => cases hp
    rename_i n e hua
    simp only [Option.map_eq_some_iff] at hp
    obtain ⟨sz, hsz, rfl⟩ := hp
    simp only [xop] at hx
    split at hx
    case h_2 => cases hx
    rename_i b of vlo vhi vmx hav hvlo hvhi hvmx
    split at hx <;> cases hx
    rename_i l hh m hb
    obtain ⟨q, hq, hr⟩ := isSome_of_conc_ptr (hρ _ _ _ ha hav)
    obtain ⟨hrun, hll, hhm, hmc, hme, hhe⟩ := run_bounds (P := P) hb (evO_conc hlo hρ hvlo) (evO_conc hhi hρ hvhi) (evO_conc hmx hρ hvmx) (Nat.le_refl _) false w
    have hM : (if vmx.isNone then n else m) = m := by
      cases hvm : vmx with
      | some _ => simp
      | none => simp [hme hvm]
    rw [hM] at hrun
    refine Snd.pure h hR (c := .slice (if m = l then some ⟨q.1, of, none⟩ else some ⟨q.1, of + l * sz, none⟩) (hh - l) (m - l)) ?_ (by simp [conc, hq]; split <;> rfl)
    simp only [execOp, ho, Instr.sliceAt, Sem.run_bind, run_und hu, Result.andThen_ok, hr, Instr.slice, asAddr, Sem.run_pure, run_und hua, hrun, run_size hsz, Addr.add_mk]
    split <;> rfl
  · -- an array by its address
    rename_i n e a lo' hi' mx' hu ha hlo hhi hmx
    simp only [Option.map_eq_some_iff] at hp
    obtain ⟨sz, hsz, rfl⟩ := hp
    simp only [xop] at hx
    split at hx
    case h_2 => cases hx
    rename_i b of vlo vhi vmx hav hvlo hvhi hvmx
    split at hx <;> cases hx
    rename_i l hh m hb
    obtain ⟨q, hq, hr⟩ := isSome_of_conc_ptr (hρ _ _ _ ha hav)
    obtain ⟨hrun, hll, hhm, hmc, hme, hhe⟩ := run_bounds (P := P) hb (evO_conc hlo hρ hvlo) (evO_conc hhi hρ hvhi) (evO_conc hmx hρ hvmx) (Nat.le_refl _) false w
    have hM : (if vmx.isNone then n else m) = m := by
      cases hvm : vmx with
      | some _ => simp
      | none => simp [hme hvm]
    rw [hM] at hrun
    refine Snd.pure h hR (c := .slice (if m = l then some ⟨q.1, of, none⟩ else some ⟨q.1, of + l * sz, none⟩) (hh - l) (m - l)) ?_ (by simp [conc, hq]; split <;> rfl)
    simp only [execOp, ho, Instr.sliceAt, Sem.run_bind, run_und hu, Result.andThen_ok, hr, Instr.sureAddr, Sem.run_pure, hrun, run_size hsz, Addr.add_mk]
    split <;> rfl
end Go.Proofs.Ytjejgnbdlfkenaa.D
namespace Go.Proofs.Ytjejgnbdlfkenaa.D
variable {P : Program} {R : Nat} {μ : Place} {s : St} {w : World} {ev : Ev} {ρ : Operand → Value} {o : Oper} {p : POp} {v : AV} {s' : St}

theorem bytesA_some : ∀ {l : List AV} {bs : List UInt8} (_ : bytesA l = some bs) {xs : List Value} (_ : concs μ l = some xs), ∃ ns : List Int, xs = ns.map (fun n => Value.int .u8 n) ∧ bs = ns.map fun n => UInt8.ofNat n.toNat
  | [], bs, h, xs, hx => by
    simp only [bytesA, Option.some.injEq] at h
    simp only [concs, Option.some.injEq] at hx
    subst h; subst hx
    exact ⟨[], rfl, rfl⟩
  | v :: r, bs, h, xs, hx => by
    unfold bytesA at h
    split at h
    · rename_i e; cases e
    · rename_i n r' e
      cases e
      split at h <;> cases h
      rename_i l hl
      simp only [concs, conc, Option.bind_some, Option.map_eq_some_iff] at hx
      obtain ⟨y, hy, rfl⟩ := hx
      obtain ⟨ns, h1, h2⟩ := bytesA_some hl hy
      exact ⟨n :: ns, by simp [h1], by simp [h2]⟩
    · cases h

theorem foldl_push (ns : List Int) : ∀ (acc : ByteArray), ns.foldl (fun r n => r.push (UInt8.ofNat n.toNat)) acc = ⟨acc.data ++ (ns.map fun n => UInt8.ofNat n.toNat).toArray⟩ := by
  induction ns with
  | nil => intro acc; simp
  | cons n ns ih =>
    intro acc
    rw [List.foldl_cons, ih]
    simp [ByteArray.push]

theorem snd_convert {t d : TypeId} {x : Operand} (ho : o.op = .convert t d x) (hp : prepOp P o = some p) (h : HR P R μ s w) (hρ : EvR μ ev ρ) (hx : xop p ev s = some (v, s')) (hR : s'.next ≤ R) : Snd P R μ s w (execOp ρ o) v s' := by
  simp only [prepOp, ho] at hp
  split at hp
  case h_5 => cases hp
  · rename_i k0 k a hut hud ha
    cases hp
    simp only [xop] at hx
    split at hx <;> cases hx
    rename_i k1 n hav
    have hr := conc_int (hρ _ _ _ ha hav)
    refine Snd.pure h hR (c := .int k (k.wrap n)) ?_ rfl
    simp [execOp, ho, convert, run_und hut, run_und hud, hr, Conv.intToInt]
  · rename_i a hut hud ha
    cases hp
    simp only [xop] at hx
    split at hx <;> cases hx
    rename_i sv hav
    have hr := conc_str (hρ _ _ _ ha hav)
    refine Snd.pure h hR (c := .string sv) ?_ rfl
    simp [execOp, ho, convert, run_und hut, run_und hud, hr]
  · rename_i e a hut hud ha
    split at hp <;> cases hp
    rename_i hue hsz
    simp only [xop] at hx
    split at hx
    case h_2 => cases hx
    rename_i sv hav
    simp only [newA, Option.some.injEq, Prod.mk.injEq] at hx
    obtain ⟨rfl, rfl⟩ := hx
    have hr := conc_str (hρ _ _ _ ha hav)
    have hrun := run_bytes_of_string (P := P) w t d e sv hut hud hue
    obtain ⟨cap, hcap⟩ : ∃ cap, grownCap w sv.size 0 e = sv.size + cap := ⟨_, rfl⟩
    rw [hcap] at hrun
    refine snd_new (c := bytesRow sv (sv.size + cap)) (elem := e) (fz := ((bytesRow sv (sv.size + cap)).size, (bytesRow sv (sv.size + cap)).size + 1)) (e := cap) (d := w.drawn + 1) (rest := List.replicate cap (Value.int .u8 0))
      (cv := .slice (some ⟨w.heap.size, 0, none⟩) sv.size (sv.size + cap)) h hR (xs := sv.data.toList.map fun c => Value.int .u8 c.toNat) ?_ (by simp [bytesRow]) (by simp) (by simp) ?_ ?_ ?_
    · intro ν _
      induction sv.data.toList with
      | nil => rfl
      | cons c l ih => simp [concs, conc, ih]
    · intro i hi h1
      have := h1.1
      exact absurd hi (Nat.not_lt.2 this)
    · simp only [execOp, ho, Sem.run_bind, hr, hrun, Result.andThen_ok, Sem.run_pure]
      rfl
    · simp [conc, Place.add]
  · rename_i e a hut hud ha
    split at hp <;> cases hp
    rename_i hue
    simp only [xop] at hx
    split at hx
    case h_6 => cases hx
    · rename_i hav
      cases hx
      have hr : ρ x = .slice none 0 0 := by simpa [conc] using (hρ _ _ _ ha hav).symm
      refine Snd.pure h hR (c := .string .empty) ?_ rfl
      simp [execOp, ho, convert, run_und hut, run_und hud, run_und hue, hr, Conv.bytesToString]
    · rename_i b of adv hav
      cases hx
      obtain ⟨q, hq, hr⟩ := conc_tail (hρ _ _ _ ha hav)
      refine Snd.pure h hR (c := .string .empty) ?_ rfl
      simp [execOp, ho, convert, run_und hut, run_und hud, run_und hue, hr, Conv.bytesToString, loadCells, loadCellsFrom]
    · rename_i ad cp hav
      cases hx
      have hr : ρ x = .slice ad 0 cp := by simpa [conc] using (hρ _ _ _ ha hav).symm
      refine Snd.pure h hR (c := .string .empty) ?_ rfl
      cases ad <;> simp [execOp, ho, convert, run_und hut, run_und hud, run_und hue, hr, Conv.bytesToString, loadCells, loadCellsFrom]
    · rename_i b of _ _ hav
      cases hx
      obtain ⟨q, hq, hr⟩ := conc_slice (hρ _ _ _ ha hav)
      refine Snd.pure h hR (c := .string .empty) ?_ rfl
      simp [execOp, ho, convert, run_und hut, run_und hud, run_und hue, hr, Conv.bytesToString, loadCells, loadCellsFrom]
    · rename_i b of len _ _ _ hav
      split at hx
      case h_2 => cases hx
      rename_i l hl
      split at hx <;> cases hx
      rename_i bs hbs
      obtain ⟨q, hq, hr⟩ := conc_slice (hρ _ _ _ ha hav)
      obtain ⟨xs, hxs, _, hrun⟩ := run_loadA h hl hq
      obtain ⟨ns, rfl, rfl⟩ := bytesA_some hbs hxs
      refine Snd.pure h hR (c := .string ⟨(ns.map fun n => UInt8.ofNat n.toNat).toArray⟩) ?_ rfl
      have hrun' := fun c => run_bytesToString (P := P) w ⟨q.1, of, none⟩ len c ns hrun
      simp only [foldl_push] at hrun'
      simp only [execOp, ho, Sem.run_bind, hr]
      rw [run_convert_bytes_string w t d e _ _ _ hut hue hud, hrun']
      simp [ByteArray.empty, ByteArray.emptyWithCapacity]
      rfl
end Go.Proofs.Ytjejgnbdlfkenaa.D
namespace Go.Proofs.Ytjejgnbdlfkenaa.D
variable {P : Program} {R : Nat} {μ : Place} {s : St} {w : World} {ev : Ev} {ρ : Operand → Value} {o : Oper} {p : POp} {v : AV} {s' : St}

theorem cellsEq_length : ∀ {ks : List Nat} {a b : List AV} {r : Bool}, cellsEq ks a b = some r → a.length = ks.length ∧ b.length = ks.length
  | [], [], [], _, _ => ⟨rfl, rfl⟩
  | k :: ks, x :: a, y :: b, r, h => by
    simp only [cellsEq] at h
    split at h
    · have := cellsEq_length h; simp; omega
    · split at h
      · rename_i hc; simp; omega
      · cases h
    · cases h
  | [], [], _ :: _, _, h => by simp [cellsEq] at h
  | [], _ :: _, _, _, h => by simp [cellsEq] at h
  | _ :: _, [], _, _, h => by simp [cellsEq] at h
  | _ :: _, _ :: _, [], _, h => by simp [cellsEq] at h

/-- Two rows of cells, part by part: what the first parts say, then what the others say. -/
theorem cellsEq_append : ∀ {k1 k2 : List Nat} {a b : List AV} {r : Bool}, cellsEq (k1 ++ k2) a b = some r →
    ∃ r1, cellsEq k1 (a.take k1.length) (b.take k1.length) = some r1 ∧ (r1 = false → r = false) ∧ (r1 = true → cellsEq k2 (a.drop k1.length) (b.drop k1.length) = some r)
  | [], k2, a, b, r, h => ⟨true, by simp [cellsEq], by simp, fun _ => by simpa using h⟩
  | k :: k1, k2, [], b, r, h => by simp [cellsEq] at h
  | k :: k1, k2, x :: a, [], r, h => by simp [cellsEq] at h
  | k :: k1, k2, x :: a, y :: b, r, h => by
    have hl := cellsEq_length h
    simp only [List.cons_append, cellsEq] at h
    split at h
    · rename_i hx
      obtain ⟨r1, h1, h2, h3⟩ := cellsEq_append h
      exact ⟨r1, by simp [cellsEq, hx, h1], h2, by simpa using h3⟩
    · rename_i hx
      split at h <;> cases h
      rename_i hc
      simp at hl hc
      exact ⟨false, by simp [cellsEq, hx]; omega, fun _ => rfl, by simp⟩
    · cases h

/-- A part of a value, as a value of its own. -/
def asValue (agg : Bool) (xs : List Value) : Value := if agg then .agg xs.toArray else xs.getD 0 undef

theorem run_part_is {t : TypeId} {b : Bool} {n : Nat} (hb : isAggB P t = some b) (hn : sizeB P t = some n) (h1 : b = false → n = 1) (xs : List Value) (off : Nat) (hle : off + n ≤ xs.length) (w : World) :
    (part t xs.toArray off).run P w = .ok (asValue b ((xs.drop off).take n)) w := by
  cases b with
  | true =>
    simp only [part, Sem.run_bind, run_isAgg hb, Result.andThen_ok, if_true, run_size hn, Sem.run_pure, asValue]
    simp
  | false =>
    have := h1 rfl
    subst this
    have hlt : off < xs.length := by omega
    simp [part, run_isAgg hb, asValue, hlt]

theorem flat_agg {d : Nat} {t : TypeId} {ks : List Nat} (h : flat P d t = some ks) : ∃ b, isAggB P t = some b ∧ (b = false → ∃ k, ks = [k]) := by
  cases d with
  | zero => simp [flat] at h
  | succ d =>
    unfold flat at h
    unfold isAggB
    split at h <;> first | (cases h; done) | skip
    all_goals rename_i hu
    all_goals simp only [hu]
    all_goals first
      | (refine ⟨false, rfl, fun _ => ?_⟩; simp only [Option.some.injEq] at h; exact ⟨_, h.symm⟩)
      | exact ⟨true, rfl, by simp⟩

/-- One part of a struct or an array, where the whole's cells are held against one another. -/
theorem step_flat {d D : Nat} (ih : ∀ (t : TypeId) (ks : List Nat), flat P d t = some ks → ∀ (b : Bool) (asg bs : List AV) (xs ys : List Value) (r : Bool), isAggB P t = some b → concs μ asg = some xs → concs μ bs = some ys → cellsEq ks asg bs = some r → ∀ w,
      (Op.equalIn (d + D) t (asValue b xs) (asValue b ys)).run P w = .ok r w)
    {t : TypeId} {m k2 : List Nat} {n off : Nat} (hm : flat P d t = some m) (hn : sizeB P t = some n) (hnm : n = m.length)
    {asg bs : List AV} {xs ys : List Value} {r : Bool} (hxs : concs μ asg = some xs) (hys : concs μ bs = some ys) (hle1 : off + n ≤ asg.length) (hle2 : off + n ≤ bs.length)
    (hr : cellsEq (m ++ k2) (asg.drop off) (bs.drop off) = some r) (w : World) :
    ∃ (x y : Value) (r1 : Bool), (part t xs.toArray off).run P w = .ok x w ∧ (part t ys.toArray off).run P w = .ok y w ∧ (Op.equalIn (d + D) t x y).run P w = .ok r1 w ∧ (r1 = false → r = false) ∧
      (r1 = true → cellsEq k2 (asg.drop (off + n)) (bs.drop (off + n)) = some r) := by
  obtain ⟨b, hb, hb1⟩ := flat_agg hm
  have hl1 := concs_length hxs
  have hl2 := concs_length hys
  have h1 : b = false → n = 1 := fun e => by obtain ⟨k, rfl⟩ := hb1 e; exact hnm
  obtain ⟨r1, e1, e2, e3⟩ := cellsEq_append hr
  rw [← hnm] at e1 e3
  refine ⟨_, _, r1, run_part_is hb hn h1 xs off (by omega) w, run_part_is hb hn h1 ys off (by omega) w, ih t m hm b _ _ _ _ r1 hb (concs_take (concs_drop hxs off) n) (concs_take (concs_drop hys off) n) e1 w, e2, fun e => ?_⟩
  have := e3 e
  rwa [List.drop_drop, List.drop_drop] at this

theorem equal_flat : ∀ (d D : Nat) (t : TypeId) (ks : List Nat), flat P d t = some ks → ∀ (b : Bool) (asg bs : List AV) (xs ys : List Value) (r : Bool), isAggB P t = some b → concs μ asg = some xs → concs μ bs = some ys →
    cellsEq ks asg bs = some r → ∀ w, (Op.equalIn (d + D) t (asValue b xs) (asValue b ys)).run P w = .ok r w := by
  intro d
  induction d with
  | zero => intro D t ks h; simp [flat] at h
  | succ d ih =>
    intro D t ks h b asg bs xs ys r hb hxs hys hr w
    have hD : d + 1 + D = (d + D) + 1 := by omega
    rw [hD]
    have leaf : ∀ k, ks = [k] → b = false → ∃ a c x y, leafEq k a c = some r ∧ conc μ a = some x ∧ conc μ c = some y ∧ xs = [x] ∧ ys = [y] := by
      intro k hk _
      subst hk
      obtain ⟨l1, l2⟩ := cellsEq_length hr
      obtain ⟨a, rfl⟩ := List.length_eq_one_iff.1 l1
      obtain ⟨c, rfl⟩ := List.length_eq_one_iff.1 l2
      simp only [concs, Option.bind_eq_some_iff, Option.map_eq_some_iff, Option.some.injEq] at hxs hys
      obtain ⟨x, hx, _, rfl, rfl⟩ := hxs
      obtain ⟨y, hy, _, rfl, rfl⟩ := hys
      refine ⟨a, c, x, y, ?_, hx, hy, rfl, rfl⟩
      simp only [cellsEq] at hr
      split at hr
      · rename_i e; cases hr; exact e
      · rename_i e; split at hr <;> cases hr; exact e
      · cases hr
    unfold flat at h
    split at h
    case h_6 => cases h
    · rename_i hu
      cases h
      have hbf : b = false := by unfold isAggB at hb; simp [hu] at hb; exact hb
      subst hbf
      obtain ⟨a, c, x, y, e, hx, hy, rfl, rfl⟩ := leaf 0 rfl rfl
      cases a <;> cases c <;> simp [leafEq] at e
      have := conc_bool hx; subst this
      have := conc_bool hy; subst this
      subst e
      simp [asValue, Op.equalIn, run_und hu]
    · rename_i k hu
      cases h
      have hbf : b = false := by unfold isAggB at hb; simp [hu] at hb; exact hb
      subst hbf
      obtain ⟨a, c, x, y, e, hx, hy, rfl, rfl⟩ := leaf 1 rfl rfl
      cases a <;> cases c <;> simp [leafEq] at e
      have := conc_int hx; subst this
      have := conc_int hy; subst this
      obtain ⟨rfl, rfl⟩ := e
      simp [asValue, Op.equalIn, run_und hu]
    · rename_i hu
      cases h
      have hbf : b = false := by unfold isAggB at hb; simp [hu] at hb; exact hb
      subst hbf
      obtain ⟨a, c, x, y, e, hx, hy, rfl, rfl⟩ := leaf 2 rfl rfl
      cases a <;> cases c <;> simp [leafEq] at e
      have := conc_str hx; subst this
      have := conc_str hy; subst this
      subst e
      simp [asValue, Op.equalIn, run_und hu]
    · -- a struct
      rename_i fs hu
      have hbt : b = true := by unfold isAggB at hb; simp [hu] at hb; exact hb
      subst hbt
      split at h
      · cases h
      · rename_i hst
        have hfs : P.underlying t = some (.struct (P.fieldsOf t)) := by simp [Program.fieldsOf, hu]
        have hfe : P.fieldsOf t = fs := by simp [Program.fieldsOf, hu]
        simp only [asValue, if_true]
        rw [run_equalIn_struct w (d + D) t _ _ hfs (by simpa using hst), hfe]
        -- the fields, one behind the other
        have key : ∀ (fl : List Field) (done ks : List Nat), fl.foldl (fun acc f => match acc with
              | none => none
              | some l => if f.name ≠ "_" && f.offset == l.length then
                  match flat P d f.type, (P.info? f.type).map (·.size) with
                  | some m, some s => if s == m.length then some (l ++ m) else none
                  | _, _ => none
                else none) (some done) = some ks → ∃ k2, ks = done ++ k2 ∧
              (asg.length = ks.length → bs.length = ks.length → cellsEq k2 (asg.drop done.length) (bs.drop done.length) = some r → (Op.eqFields (d + D) xs.toArray ys.toArray fl).run P w = .ok r w) := by
          intro fl
          induction fl with
          | nil =>
            intro done ks hk
            simp only [List.foldl_nil, Option.some.injEq] at hk
            subst hk
            refine ⟨[], by simp, fun h1 h2 h3 => ?_⟩
            rw [List.drop_eq_nil_of_le (by omega), List.drop_eq_nil_of_le (by omega)] at h3
            simp only [cellsEq, Option.some.injEq] at h3
            subst h3
            simp [Op.eqFields]
          | cons f fl ihf =>
            intro done ks hk
            simp only [List.foldl_cons] at hk
            have hnone : ∀ fl : List Field, fl.foldl (fun acc f => match acc with
              | none => none
              | some l => if f.name ≠ "_" && f.offset == l.length then
                  match flat P d f.type, (P.info? f.type).map (·.size) with
                  | some m, some s => if s == m.length then some (l ++ m) else none
                  | _, _ => none
                else none) (none : Option (List Nat)) = none := by
              intro fl; induction fl with
              | nil => rfl
              | cons _ _ ih => simpa using ih
            split at hk
            case isFalse => rw [hnone] at hk; cases hk
            rename_i hc
            split at hk
            case h_2 => rw [hnone] at hk; cases hk
            rename_i m n hm hn
            split at hk
            case isFalse => rw [hnone] at hk; cases hk
            rename_i hnm
            simp only [Bool.and_eq_true, beq_iff_eq, ne_eq, decide_not, Bool.not_eq_true', decide_eq_false_iff_not] at hc hnm
            obtain ⟨k2, rfl, hrest⟩ := ihf _ _ hk
            refine ⟨m ++ k2, by simp, fun h1 h2 h3 => ?_⟩
            simp only [List.length_append] at h1 h2
            obtain ⟨x, y, r1, p1, p2, p3, q1, q2⟩ := step_flat (D := D) (fun t ks h b asg bs xs ys r h1 h2 h3 h4 w => ih D t ks h b asg bs xs ys r h1 h2 h3 h4 w) hm hn hnm hxs hys (off := done.length) (by omega) (by omega) h3 w
            simp only [Op.eqFields, ne_eq, hc.1, not_false_eq_true, if_true, Sem.run_bind, hc.2, p1, p2, p3, Result.andThen_ok]
            cases r1
            · simp [q1 rfl]
            · simp only [Bool.not_true, Bool.false_eq_true, if_false]
              refine hrest (by simp; omega) (by simp; omega) ?_
              have := q2 rfl
              rw [hnm] at this
              simpa using this
        obtain ⟨k2, rfl, hk⟩ := key fs.toList [] ks h
        obtain ⟨l1, l2⟩ := cellsEq_length hr
        exact hk (by simpa using l1) (by simpa using l2) (by simpa using hr)
    · -- an array
      rename_i n e hu
      have hbt : b = true := by unfold isAggB at hb; simp [hu] at hb; exact hb
      subst hbt
      split at h
      case h_2 => cases h
      rename_i m sz hm hsz
      split at h <;> cases h
      rename_i hnm
      simp only [beq_iff_eq] at hnm
      simp only [Option.map_eq_some_iff] at hsz
      obtain ⟨i, hi, hisz⟩ := hsz
      have hcell : P.cellsOf e = sz := by simp [Program.cellsOf, hi, hisz]
      have hszB : sizeB P e = some sz := by simp [sizeB, hi, hisz]
      simp only [asValue, if_true]
      rw [run_equalIn_array w (d + D) _ _ hu hi, hcell, List.range_eq_range']
      have key : ∀ (j k : Nat), k + j = n → asg.length = n * sz → bs.length = n * sz → ∀ r, cellsEq (List.replicate j m).flatten (asg.drop (k * sz)) (bs.drop (k * sz)) = some r → (Op.eqItems (d + D) e sz xs.toArray ys.toArray (List.range' k j)).run P w = .ok r w := by
        intro j
        induction j with
        | zero =>
          intro k hk h1 h2 r' hr'
          have hkn : k = n := by omega
          rw [hkn, List.drop_eq_nil_of_le (by omega), List.drop_eq_nil_of_le (by omega)] at hr'
          simp only [List.replicate_zero, List.flatten_nil, cellsEq, Option.some.injEq] at hr'
          subst hr'
          simp [Op.eqItems]
        | succ j ihj =>
          intro k hk h1 h2 r' hr'
          rw [List.replicate_succ, List.flatten_cons] at hr'
          have hks : k * sz + sz ≤ n * sz := by
            have : (k + 1) * sz ≤ n * sz := Nat.mul_le_mul_right _ (by omega)
            rw [Nat.succ_mul] at this; exact this
          obtain ⟨x, y, r1, p1, p2, p3, q1, q2⟩ := step_flat (D := D) (fun t ks h b asg bs xs ys r h1 h2 h3 h4 w => ih D t ks h b asg bs xs ys r h1 h2 h3 h4 w) hm hszB hnm hxs hys (off := k * sz) (by omega) (by omega) hr' w
          simp only [List.range'_succ, Op.eqItems, Sem.run_bind, p1, p2, p3, Result.andThen_ok]
          cases r1
          · simp [q1 rfl]
          · simp only [Bool.not_true, Bool.false_eq_true, if_false]
            refine ihj (k + 1) (by omega) h1 h2 r' ?_
            have := q2 rfl
            rw [Nat.succ_mul]
            exact this
      obtain ⟨l1, l2⟩ := cellsEq_length hr
      have hlen : ((List.replicate n m).flatten).length = n * sz := by simp [hnm]
      exact key n 0 (by omega) (by omega) (by omega) r (by simpa using hr)
end Go.Proofs.Ytjejgnbdlfkenaa.D
namespace Go.Proofs.Ytjejgnbdlfkenaa.D
variable {P : Program} {R : Nat} {μ : Place} {s : St} {w : World} {ev : Ev} {ρ : Operand → Value} {o : Oper} {p : POp} {v : AV} {s' : St}

theorem intBin_run {op : BinOp} {k : IntKind} {a b : Int} {v : AV} (h : intBin op k a b = some v) (t : TypeId) (w : World) (hs : op ≠ .shl ∧ op ≠ .shr) : ∃ c, conc μ v = some c ∧ (binOp op t (.int k a) (.int k b)).run P w = .ok c w := by
  cases op <;> simp only [intBin, Option.some.injEq] at h
  case quo =>
    split at h <;> cases h
    rename_i hb
    exact ⟨_, rfl, by simp [binOp, Op.intDiv, hb]⟩
  case rem =>
    split at h <;> cases h
    rename_i hb
    exact ⟨_, rfl, by simp [binOp, Op.intDiv, hb]⟩
  case shl => exact absurd rfl hs.1
  case shr => exact absurd rfl hs.2
  all_goals first
    | (subst h; exact ⟨_, rfl, by simp [binOp, Op.intArith, Op.intBits, Op.intCmp]⟩)
    | cases h

theorem strBin_run {op : BinOp} {a b : ByteArray} {v : AV} (h : strBin op a b = some v) (t : TypeId) (w : World) : ∃ c, conc μ v = some c ∧ (binOp op t (.string a) (.string b)).run P w = .ok c w := by
  cases op <;> simp only [strBin, Option.some.injEq] at h
  case add =>
    split at h <;> cases h
    rename_i hb
    refine ⟨_, rfl, ?_⟩
    simp only [binOp, Op.stringOp, if_neg hb, Sem.run_pure]
  all_goals first
    | (subst h; exact ⟨_, rfl, by simp [binOp, Op.stringOp]⟩)
    | cases h

/-- What a way of holding two values against one another says of their type. -/
def EqK.says (P : Program) (t : TypeId) (x y : Operand) : EqK → Prop
  | .leaf => P.underlying t = some .bool
  | .ptr => ∃ e, P.underlying t = some (.pointer e)
  | .slice => ∃ e, P.underlying t = some (.slice e)
  | .map => ∃ e f, P.underlying t = some (.map e f)
  | .func => ∃ e f g, P.underlying t = some (.func e f g)
  | .iface => (∃ e, P.underlying t = some (.interface e)) ∧ (isC x || isC y) = true
  | .cells ks => P.eqGuardType P.depth t = false ∧ flat P 12 t = some ks ∧ isAggB P t = some true
  | .no => True

theorem eqK_says (t : TypeId) (x y : Operand) : (eqK P t x y).says P t x y := by
  unfold eqK
  cases hu : P.underlying t with
  | none => trivial
  | some d =>
    cases d <;> simp only []
    case bool => exact hu
    case pointer e => exact ⟨e, hu⟩
    case slice e => exact ⟨e, hu⟩
    case map e f => exact ⟨e, f, hu⟩
    case func e f g => exact ⟨e, f, g, hu⟩
    case interface e =>
      split
      · rename_i hc; exact ⟨⟨e, hu⟩, hc⟩
      · trivial
    case struct fs =>
      split
      · trivial
      · rename_i hg
        split
        · rename_i l hl; exact ⟨by simpa using hg, hl, by simp [isAggB, hu]⟩
        · trivial
    case array n e =>
      split
      · trivial
      · rename_i hg
        split
        · rename_i l hl; exact ⟨by simpa using hg, hl, by simp [isAggB, hu]⟩
        · trivial
    all_goals trivial

theorem isC_matches (x : Operand) : (match x with | .const _ => true | _ => false) = isC x := by cases x <;> rfl

/-- The model's comparison, as a whole. -/
def cmpRun (P : Program) (op : BinOp) (t : TypeId) (x y : Operand) (ca cb : Value) (w : World) (r : Bool) : Prop :=
  (eqGuard op t x y ca cb).run P w = .ok () w ∧ (binOp op t ca cb).run P w = .ok (.bool r) w

theorem equal_of {t : TypeId} {d : TypeDesc} (hu : P.underlying t = some d) {x y : Value} {r : Bool} {w : World} {k : TypeDesc → Sem Bool} (hk : Op.equal t x y = underlying t >>= k) (hr : (k d).run P w = .ok r w) : (Op.equal t x y).run P w = .ok r w := by
  rw [hk, Sem.run_bind, run_und hu]; exact hr

theorem cmp_of {t : TypeId} {x y : Operand} {ca cb : Value} {r : Bool} {w : World} (h : (Op.equal t ca cb).run P w = .ok r w) (g1 : (eqGuard .eql t x y ca cb).run P w = .ok () w) (g2 : (eqGuard .neq t x y ca cb).run P w = .ok () w)
    (b1 : binOp .eql t ca cb = Op.equal t ca cb >>= fun b => pure (.bool b)) (b2 : binOp .neq t ca cb = Op.equal t ca cb >>= fun b => pure (.bool (!b))) :
    cmpRun P .eql t x y ca cb w r ∧ cmpRun P .neq t x y ca cb w (!r) :=
  ⟨⟨g1, by rw [b1, Sem.run_bind, h]; rfl⟩, ⟨g2, by rw [b2, Sem.run_bind, h]; rfl⟩⟩

theorem cmp_bool {t : TypeId} {x y : Operand} (hu : P.underlying t = some .bool) {a b : AV} {r : Bool} (h : boolEq a b = some r) {ca cb : Value} (ha : conc μ a = some ca) (hb : conc μ b = some cb) (w : World) :
    cmpRun P .eql t x y ca cb w r ∧ cmpRun P .neq t x y ca cb w (!r) := by
  unfold boolEq at h
  split at h
  · cases h
    have := conc_bool ha; subst this
    have := conc_bool hb; subst this
    exact cmp_of (equal_of hu rfl rfl) rfl rfl rfl rfl
  · cases h

theorem nilEq_some {k : EqK} {a b : AV} {r : Bool} (h : nilEq k a b = some r) : (nilOf k a = some true ∧ nilOf k b = some r) ∨ (nilOf k a = some r ∧ nilOf k b = some true) := by
  unfold nilEq at h
  split at h
  · cases h
  · rename_i x hx
    split at h
    · cases h
    · rename_i y hy
      cases x
      · simp only [Bool.false_eq_true, if_false] at h
        split at h
        · rename_i hyt
          cases h
          exact .inr ⟨hx, by rw [hy, hyt]⟩
        · cases h
      · simp only [if_true, Option.some.injEq] at h
        subst h
        exact .inl ⟨hx, hy⟩

theorem nil_ptr {a : AV} {n : Bool} (h : nilOf .ptr a = some n) {c : Value} (hc : conc μ a = some c) : ∃ p, c = .pointer p ∧ p.isNone = n := by
  cases a <;> simp only [nilOf, Option.some.injEq, reduceCtorEq] at h
  · obtain ⟨q, _, rfl⟩ := isSome_of_conc_ptr hc
    exact ⟨_, rfl, h⟩
  · simp only [conc, Option.some.injEq] at hc; subst hc
    exact ⟨none, rfl, h⟩

theorem nil_slice {a : AV} {n : Bool} (h : nilOf .slice a = some n) {c : Value} (hc : conc μ a = some c) : ∃ p l k, c = .slice p l k ∧ p.isNone = n := by
  cases a <;> simp only [nilOf, Option.some.injEq, reduceCtorEq] at h
  · obtain ⟨q, _, rfl⟩ := conc_slice hc
    exact ⟨_, _, _, rfl, h⟩
  · simp only [conc, Option.some.injEq] at hc; subst hc
    exact ⟨_, _, _, rfl, h⟩
  · obtain ⟨q, _, rfl⟩ := conc_tail hc
    exact ⟨_, _, _, rfl, h⟩
  · rename_i v
    simp only [conc, Option.some.injEq] at hc; subst hc
    cases v <;> simp only [rawNil, Option.some.injEq, reduceCtorEq] at h
    exact ⟨_, _, _, rfl, h⟩

theorem nil_map {a : AV} {n : Bool} (h : nilOf .map a = some n) {c : Value} (hc : conc μ a = some c) : ∃ p, c = .map p ∧ p.isNone = n := by
  cases a <;> simp only [nilOf, Option.some.injEq, reduceCtorEq] at h
  · obtain ⟨q, _, rfl⟩ := conc_map hc
    exact ⟨_, rfl, h⟩
  · simp only [conc, Option.some.injEq] at hc; subst hc
    exact ⟨_, rfl, h⟩

theorem conc_fn {f : Fn} {a c : List AV} {x : Value} (h : conc μ (.fn f a c) = some x) : ∃ xs ys, Fn.plain f = true ∧ concs μ a = some xs ∧ concs μ c = some ys ∧ x = .func f xs.toArray ys.toArray := by
  simp only [conc] at h
  split at h
  · rename_i hf
    simp only [Option.bind_eq_some_iff, Option.map_eq_some_iff] at h
    obtain ⟨xs, h1, ys, h2, rfl⟩ := h
    exact ⟨xs, ys, hf, h1, h2, rfl⟩
  · cases h

theorem nil_func {a : AV} {n : Bool} (h : nilOf .func a = some n) {c : Value} (hc : conc μ a = some c) : (c = .nilFunc ∧ n = true) ∨ ((∃ f x y, c = .func f x y) ∧ n = false) := by
  cases a <;> simp only [nilOf, Option.some.injEq, reduceCtorEq] at h
  · obtain ⟨_, _, _, _, _, rfl⟩ := conc_fn hc
    exact .inr ⟨⟨_, _, _, rfl⟩, h.symm⟩
  · simp only [conc, Option.some.injEq] at hc; subst hc
    exact .inl ⟨rfl, h.symm⟩

theorem nil_iface {a : AV} {n : Bool} (h : nilOf .iface a = some n) {c : Value} (hc : conc μ a = some c) : (c = .nilIface ∧ n = true) ∨ ((∃ f x, c = .iface f x) ∧ n = false) := by
  cases a <;> simp only [nilOf, Option.some.injEq, reduceCtorEq] at h
  · simp only [conc, Option.map_eq_some_iff] at hc
    obtain ⟨x, _, rfl⟩ := hc
    exact .inr ⟨⟨_, _, rfl⟩, h.symm⟩
  · simp only [conc, Option.some.injEq] at hc; subst hc
    exact .inl ⟨rfl, h.symm⟩

theorem cmp_ptr {t e : TypeId} {x y : Operand} (hu : P.underlying t = some (.pointer e)) {a b : AV} {r : Bool} (h : nilEq .ptr a b = some r) {ca cb : Value} (ha : conc μ a = some ca) (hb : conc μ b = some cb) (w : World) :
    cmpRun P .eql t x y ca cb w r ∧ cmpRun P .neq t x y ca cb w (!r) := by
  rcases nilEq_some h with ⟨h1, h2⟩ | ⟨h1, h2⟩
  all_goals
    obtain ⟨p, rfl, hp⟩ := nil_ptr h1 ha
    obtain ⟨q, rfl, hq⟩ := nil_ptr h2 hb
    cases p <;> cases q <;> simp at hp hq <;> subst_vars
    all_goals exact cmp_of (equal_of hu rfl rfl) rfl rfl rfl rfl

theorem cmp_slice {t e : TypeId} {x y : Operand} (hu : P.underlying t = some (.slice e)) {a b : AV} {r : Bool} (h : nilEq .slice a b = some r) {ca cb : Value} (ha : conc μ a = some ca) (hb : conc μ b = some cb) (w : World) :
    cmpRun P .eql t x y ca cb w r ∧ cmpRun P .neq t x y ca cb w (!r) := by
  rcases nilEq_some h with ⟨h1, h2⟩ | ⟨h1, h2⟩
  all_goals
    obtain ⟨p, _, _, rfl, hp⟩ := nil_slice h1 ha
    obtain ⟨q, _, _, rfl, hq⟩ := nil_slice h2 hb
    cases p <;> cases q <;> simp at hp hq <;> subst_vars
    all_goals exact cmp_of (equal_of hu rfl rfl) rfl rfl rfl rfl

theorem cmp_map {t e f : TypeId} {x y : Operand} (hu : P.underlying t = some (.map e f)) {a b : AV} {r : Bool} (h : nilEq .map a b = some r) {ca cb : Value} (ha : conc μ a = some ca) (hb : conc μ b = some cb) (w : World) :
    cmpRun P .eql t x y ca cb w r ∧ cmpRun P .neq t x y ca cb w (!r) := by
  rcases nilEq_some h with ⟨h1, h2⟩ | ⟨h1, h2⟩
  all_goals
    obtain ⟨p, rfl, hp⟩ := nil_map h1 ha
    obtain ⟨q, rfl, hq⟩ := nil_map h2 hb
    cases p <;> cases q <;> simp at hp hq <;> subst_vars
    all_goals exact cmp_of (equal_of hu rfl rfl) rfl rfl rfl rfl

theorem cmp_func {t : TypeId} {e f : Array TypeId} {g : Bool} {x y : Operand} (hu : P.underlying t = some (.func e f g)) {a b : AV} {r : Bool} (h : nilEq .func a b = some r) {ca cb : Value} (ha : conc μ a = some ca) (hb : conc μ b = some cb) (w : World) :
    cmpRun P .eql t x y ca cb w r ∧ cmpRun P .neq t x y ca cb w (!r) := by
  rcases nilEq_some h with ⟨h1, h2⟩ | ⟨h1, h2⟩
  all_goals
    rcases nil_func h1 ha with ⟨rfl, hp⟩ | ⟨⟨_, _, _, rfl⟩, hp⟩ <;> rcases nil_func h2 hb with ⟨rfl, hq⟩ | ⟨⟨_, _, _, rfl⟩, hq⟩ <;> first | (simp at hp; done) | (simp at hq; done) | subst_vars
    all_goals exact cmp_of (equal_of hu rfl rfl) rfl rfl rfl rfl

theorem guard_nil {op : BinOp} {t : TypeId} {x y : Operand} (hc : (isC x || isC y) = true) (w : World) : (eqGuard op t x y .nilIface .nilIface).run P w = .ok () w := by
  cases x <;> cases y <;> first | (simp [isC] at hc; done) | (cases op <;> rfl)

theorem cmp_iface {t : TypeId} {e : Array (String × TypeId)} {x y : Operand} (hu : P.underlying t = some (.interface e)) (hc : (isC x || isC y) = true) {a b : AV} {r : Bool} (h : nilEq .iface a b = some r) {ca cb : Value} (ha : conc μ a = some ca) (hb : conc μ b = some cb) (w : World) :
    cmpRun P .eql t x y ca cb w r ∧ cmpRun P .neq t x y ca cb w (!r) := by
  rcases nilEq_some h with ⟨h1, h2⟩ | ⟨h1, h2⟩
  all_goals
    rcases nil_iface h1 ha with ⟨rfl, hp⟩ | ⟨⟨_, _, rfl⟩, hp⟩ <;> rcases nil_iface h2 hb with ⟨rfl, hq⟩ | ⟨⟨_, _, rfl⟩, hq⟩ <;> first | (simp at hp; done) | (simp at hq; done) | subst_vars
    all_goals first | exact cmp_of (equal_of hu rfl rfl) (guard_nil hc w) (guard_nil hc w) rfl rfl | exact cmp_of (equal_of hu rfl rfl) rfl rfl rfl rfl

theorem cmp_cells {t : TypeId} {ks : List Nat} {x y : Operand} (hg : P.eqGuardType P.depth t = false) (hf : flat P 12 t = some ks) (hag : isAggB P t = some true) {a b : AV} {r : Bool} (h : aggEq ks a b = some r) {ca cb : Value} (ha : conc μ a = some ca) (hb : conc μ b = some cb) (w : World) :
    cmpRun P .eql t x y ca cb w r ∧ cmpRun P .neq t x y ca cb w (!r) := by
  unfold aggEq at h
  split at h
  case h_2 => cases h
  obtain ⟨xs, hxs, rfl⟩ := conc_agg ha
  obtain ⟨ys, hys, rfl⟩ := conc_agg hb
  have hrun := equal_flat (P := P) 12 9988 t ks hf true _ _ xs ys r hag hxs hys h w
  simp only [asValue, if_true] at hrun
  have hrun' : (Op.equal t (.agg xs.toArray) (.agg ys.toArray)).run P w = .ok r w := hrun
  refine ⟨⟨by simp [eqGuard, hg], by simp [binOp, hrun']⟩, ⟨by simp [eqGuard, hg], by simp [binOp, hrun']⟩⟩

theorem eqA_run {t : TypeId} {x y : Operand} {a b : AV} {r : Bool} (h : eqA (eqK P t x y) a b = some r) {ca cb : Value} (ha : conc μ a = some ca) (hb : conc μ b = some cb) (w : World) :
    cmpRun P .eql t x y ca cb w r ∧ cmpRun P .neq t x y ca cb w (!r) := by
  have hs := eqK_says (P := P) t x y
  generalize eqK P t x y = k at *
  cases k with
  | leaf => exact cmp_bool hs h ha hb w
  | ptr => obtain ⟨e, hs⟩ := hs; exact cmp_ptr hs h ha hb w
  | slice => obtain ⟨e, hs⟩ := hs; exact cmp_slice hs h ha hb w
  | map => obtain ⟨e, f, hs⟩ := hs; exact cmp_map hs h ha hb w
  | func => obtain ⟨e, f, g, hs⟩ := hs; exact cmp_func hs h ha hb w
  | iface => obtain ⟨⟨e, hs⟩, hc⟩ := hs; exact cmp_iface hs hc h ha hb w
  | cells ks => exact cmp_cells hs.1 hs.2.1 hs.2.2 h ha hb w
  | no => simp [eqA] at h

theorem snd_bin {op : BinOp} {t t' : TypeId} {x y : Operand} (ho : o.op = .binOp op t x y t') (hp : prepOp P o = some p) (h : HR P R μ s w) (hρ : EvR μ ev ρ) (hx : xop p ev s = some (v, s')) (hR : s'.next ≤ R) : Snd P R μ s w (execOp ρ o) v s' := by
  simp only [prepOp, ho] at hp
  split at hp <;> cases hp
  rename_i a b ha hb
  simp only [xop] at hx
  split at hx
  case h_2 => cases hx
  rename_i va vb hva hvb
  have hbin : binA op (eqK P t x y) va vb = some v ∧ s = s' := pure'_some hx
  obtain ⟨hbin, rfl⟩ := hbin
  have h1 := hρ _ _ _ ha hva
  have h2 := hρ _ _ _ hb hvb
  -- the guard says nothing where the values are no structs
  have hguard : (∀ k n, va = .int k n → True) → ((∃ k n, va = .int k n) ∨ (∃ z, va = .str z)) → (eqGuard op t x y (ρ x) (ρ y)).run P w = .ok () w := by
    intro _ hcase
    rcases hcase with ⟨k, n, rfl⟩ | ⟨z, rfl⟩
    · rw [conc_int h1]; unfold eqGuard; cases op <;> simp
    · rw [conc_str h1]; unfold eqGuard; cases op <;> simp
  unfold binA at hbin
  split at hbin
  · rename_i k a' k' b'
    split at hbin <;> cases hbin
    rename_i hb0
    refine Snd.pure h hR (c := .int k (k.wrap (a' * 2 ^ (min b'.toNat k.bits)))) ?_ rfl
    have hg := hguard (fun _ _ _ => trivial) (.inl ⟨k, a', rfl⟩)
    simp only [execOp, ho, Sem.run_bind, hg, Result.andThen_ok]
    rw [conc_int h1, conc_int h2]
    simp [binOp, Op.shift, hb0]
  · rename_i k a' k' b'
    split at hbin <;> cases hbin
    rename_i hb0
    refine Snd.pure h hR (c := .int k (a'.fdiv (2 ^ (min b'.toNat k.bits)))) ?_ rfl
    have hg := hguard (fun _ _ _ => trivial) (.inl ⟨k, a', rfl⟩)
    simp only [execOp, ho, Sem.run_bind, hg, Result.andThen_ok]
    rw [conc_int h1, conc_int h2]
    simp [binOp, Op.shift, hb0]
  · rename_i k a' k' b' hns1 hns2
    split at hbin
    case isFalse => cases hbin
    rename_i hkk
    subst hkk
    obtain ⟨c, hc, hrun⟩ := intBin_run (P := P) (μ := μ) hbin t w ⟨fun e => by subst e; simp [intBin] at hbin, fun e => by subst e; simp [intBin] at hbin⟩
    refine Snd.pure h hR (c := c) ?_ hc
    have hg := hguard (fun _ _ _ => trivial) (.inl ⟨k, a', rfl⟩)
    simp only [execOp, ho, Sem.run_bind, hg, Result.andThen_ok]
    rw [conc_int h1, conc_int h2, hrun]
    simp
  · rename_i a' b'
    obtain ⟨c, hc, hrun⟩ := strBin_run (P := P) (μ := μ) hbin t w
    refine Snd.pure h hR (c := c) ?_ hc
    have hg := hguard (fun _ _ _ => trivial) (.inr ⟨_, rfl⟩)
    simp only [execOp, ho, Sem.run_bind, hg, Result.andThen_ok]
    rw [conc_str h1, conc_str h2, hrun]
    simp
  · split at hbin <;> cases hbin
    rename_i r hr
    refine Snd.pure h hR (c := .bool r) ?_ rfl
    obtain ⟨⟨e1, e2⟩, _⟩ := eqA_run (P := P) hr h1 h2 w
    simp only [execOp, ho, Sem.run_bind, e1, Result.andThen_ok, e2, Sem.run_pure]
  · split at hbin <;> cases hbin
    rename_i r hr
    refine Snd.pure h hR (c := .bool (!r)) ?_ rfl
    obtain ⟨_, ⟨e1, e2⟩⟩ := eqA_run (P := P) hr h1 h2 w
    simp only [execOp, ho, Sem.run_bind, e1, Result.andThen_ok, e2, Sem.run_pure]
  · cases hbin

theorem snd_un {op : UnOp} {t : TypeId} {x : Operand} (ho : o.op = .unOp op t x) (hp : prepOp P o = some p) (h : HR P R μ s w) (hρ : EvR μ ev ρ) (hx : xop p ev s = some (v, s')) (hR : s'.next ≤ R) : Snd P R μ s w (execOp ρ o) v s' := by
  simp only [prepOp, ho, Option.map_eq_some_iff] at hp
  obtain ⟨a, ha, rfl⟩ := hp
  simp only [xop] at hx
  split at hx
  case h_2 => cases hx
  rename_i u hu
  have hun : unA op u = some v ∧ s = s' := pure'_some hx
  obtain ⟨hun, rfl⟩ := hun
  have hc := hρ _ _ _ ha hu
  cases op <;> cases u <;> first | (simp [unA] at hun; done) | skip
  all_goals simp only [unA, Option.some.injEq] at hun
  all_goals subst hun
  all_goals first
    | (refine Snd.pure h hR (c := .bool _) ?_ rfl; simp [execOp, ho, conc_bool hc, Op.unary]; done)
    | (refine Snd.pure h hR (c := .int _ _) ?_ rfl; simp [execOp, ho, conc_int hc, Op.unary, Op.intArith, Op.intBits]; done)
end Go.Proofs.Ytjejgnbdlfkenaa.D
namespace Go.Proofs.Ytjejgnbdlfkenaa.D
variable {P : Program} {R : Nat} {μ : Place} {s : St} {w : World} {ev : Ev} {ρ : Operand → Value} {o : Oper} {p : POp} {v : AV} {s' : St}

/-- A map's entries. -/
theorem HR.mapAt {μ : Place} {s : St} {w : World} (h : HR P R μ s w) {r : Nat} {es : List (AV × AV × Nat)} {cl : Nat} (hg : s.get r = some (.map es cl)) {q : Nat × Nat} (hq : μ r = some q) :
    ∃ ces : Array MapEntry, w.heap[q.1]? = some (.map ces cl) ∧ entriesR μ es ces.toList := by
  obtain ⟨q', hq', ces, h1, h2⟩ := h.obj _ _ hg
  rw [hq] at hq'; cases hq'
  exact ⟨ces, h1, h2⟩

theorem run_getMap {r : Nat} {ces : Array MapEntry} {cl : Nat} (h : w.heap[r]? = some (.map ces cl)) : (getObj r).run P w = .ok (.map ces cl) w := by
  simp only [getObj, Sem.run, h]

theorem run_setMap {r : Nat} {ces : Array MapEntry} {cl : Nat} (h : w.heap[r]? = some (.map ces cl)) (O : Obj) : (setObj r O).run P w = .ok () { w with heap := w.heap.setIfInBounds r O } := by
  simp only [setObj, Sem.run, h]

theorem setObj_turn {μ : Place} {s : St} {w : World} (h : HR P R μ s w) (hR : s.next ≤ R) {r : Nat} {es : List (AV × AV × Nat)} {cl : Nat} (hg : s.get r = some (.map es cl)) {q : Nat × Nat} (hq : μ r = some q) {es' : List (AV × AV × Nat)} {ces' : Array MapEntry} {cl' : Nat}
    (he : entriesR μ es' ces'.toList) : HR P R μ (s.put r (.map es' cl')) { w with heap := w.heap.setIfInBounds q.1 (.map ces' cl') } ∧ Mv μ s w μ (s.put r (.map es' cl')) { w with heap := w.heap.setIfInBounds q.1 (.map ces' cl') } := by
  obtain ⟨ces, h1, _⟩ := h.mapAt hg hq
  have hlt := (Array.getElem?_eq_some_iff.1 h1).1
  refine h.turn hR hg hq (by simp) ⟨ces', ?_, he⟩ rfl rfl ⟨rfl, fun _ => Nat.le_refl _⟩ (by simp) ?_
  · show (w.heap.setIfInBounds q.1 (.map ces' cl'))[q.1]? = _
    simp [hlt]
  · intro k hk
    show (w.heap.setIfInBounds q.1 (.map ces' cl'))[k]? = _
    rw [Array.getElem?_setIfInBounds_ne (Ne.symm hk)]

/-- A key among entries. -/
theorem findA_run {kk : IntKind} {a : Int} : ∀ {es : List (AV × AV × Nat)} {ces : List MapEntry} {i : Nat} {r : Option (Nat × AV)}, entriesR μ es ces → findA kk a es i = some r → ∀ (k0 : IntKind),
    ∃ cr, Instr.findNow (.int k0) (.int kk a) ces i = some cr ∧ (match r, cr with
      | none, none => True
      | some (j, v), some (j', c) => j = j' ∧ conc μ v = some c ∧ i ≤ j ∧ ∃ e, ces[j - i]? = some e ∧ e.key = .int kk a ∧ ∃ x, es[j - i]? = some x ∧ x.1 = .int kk a
      | _, _ => False)
  | [], [], i, r, _, h, k0 => by simp only [findA, Option.some.injEq] at h; subst h; exact ⟨none, rfl, trivial⟩
  | (key, v', n) :: es, y :: ces, i, r, he, h, k0 => by
    obtain ⟨⟨h1, h2, h3⟩, h4⟩ := he
    cases key with
    | int k' b =>
      simp only [findA] at h
      split at h
      case isFalse => cases h
      rename_i hkk
      subst hkk
      have hk := conc_int h1
      split at h
      · rename_i hab
        cases h
        have hab' : a = b := by simpa using hab
        refine ⟨some (i, y.val), ?_, rfl, h2, Nat.le_refl _, y, by simp, by rw [hk, hab'], (.int kk b, v', n), by simp, by rw [hab']⟩
        simp [Instr.findNow, hk, Instr.sameNow, hab']
      · rename_i hab
        obtain ⟨cr, hc1, hc2⟩ := findA_run h4 h k0
        refine ⟨cr, ?_, ?_⟩
        · have hab' : (a == b) = false := by simpa using hab
          simp only [Instr.findNow, hk, Instr.sameNow, if_true, hab']
          exact hc1
        · cases r with
          | none => cases cr with
            | none => trivial
            | some _ => exact hc2.elim
          | some jv => cases cr with
            | none => exact hc2.elim
            | some jc =>
              obtain ⟨j, v⟩ := jv
              obtain ⟨j', c⟩ := jc
              obtain ⟨rfl, hv, hij, e, he1, he2, x, hx1, hx2⟩ := hc2
              refine ⟨rfl, hv, by omega, e, ?_, he2, x, ?_, hx2⟩
              · rw [show j - i = (j - (i + 1)) + 1 by omega]; simpa using he1
              · rw [show j - i = (j - (i + 1)) + 1 by omega]; simpa using hx1
    | _ => simp [findA] at h
  | [], _ :: _, _, _, he, _, _ => he.elim
  | _ :: _, [], _, _, he, _, _ => he.elim

theorem isIntKey_some {t : TypeId} (h : isIntKey P t = true) : ∃ k, P.underlying t = some (.int k) := by
  unfold isIntKey at h
  split at h
  · rename_i k hk; exact ⟨k, hk⟩
  · cases h

theorem run_checkKey {t : TypeId} {k : IntKind} (hu : P.underlying t = some (.int k)) (b : Bool) (n : Nat) (v : Value) (w : World) : (Instr.checkKey b (n + 1) t v).run P w = .ok () w := by
  simp only [Instr.checkKey, Sem.run_bind, run_und hu, Result.andThen_ok]
  cases v <;> rfl

theorem run_findKey {t : TypeId} {k : IntKind} (hu : P.underlying t = some (.int k)) {kk : IntKind} {a : Int} {es : List (AV × AV × Nat)} {ces : List MapEntry} {r : Option (Nat × AV)} (he : entriesR μ es ces) (hf : findA kk a es 0 = some r) (w : World) :
    ∃ cr, (Instr.findKey t (.int kk a) ces).run P w = .ok cr w ∧ (match r, cr with
      | none, none => True
      | some (j, v), some (j', c) => j = j' ∧ conc μ v = some c ∧ ∃ e, ces[j]? = some e ∧ e.key = .int kk a ∧ ∃ x, es[j]? = some x ∧ x.1 = .int kk a
      | _, _ => False) := by
  obtain ⟨cr, h1, h2⟩ := findA_run he hf k
  refine ⟨cr, by simp [Instr.findKey, run_und hu, h1], ?_⟩
  cases r with
  | none => cases cr with
    | none => trivial
    | some _ => exact h2.elim
  | some jv => cases cr with
    | none => exact h2.elim
    | some jc => obtain ⟨j, v⟩ := jv; obtain ⟨j', c⟩ := jc; obtain ⟨h3, h4, h5, h6⟩ := h2; exact ⟨h3, h4, by simpa using h6⟩

theorem snd_lookup {t : TypeId} {x y : Operand} {ok : Bool} (ho : o.op = .lookup t x y ok) (hp : prepOp P o = some p) (h : HR P R μ s w) (hρ : EvR μ ev ρ) (hx : xop p ev s = some (v, s')) (hR : s'.next ≤ R) : Snd P R μ s w (execOp ρ o) v s' := by
  simp only [prepOp, ho] at hp
  split at hp
  case h_2 => cases hp
  rename_i kt e hu
  split at hp
  case isFalse => cases hp
  rename_i hkt
  obtain ⟨kk0, hkt⟩ := isIntKey_some hkt
  split at hp <;> cases hp
  rename_i z m k hz hm hk
  obtain ⟨zv, hzr, hzc⟩ := zeroV_some hz
  simp only [xop] at hx
  split at hx
  case h_3 => cases hx
  · rename_i kk a hmv hkv
    cases hx
    have hr : ρ x = .map none := by simpa [conc] using (hρ _ _ _ hm hmv).symm
    have hri := conc_int (hρ _ _ _ hk hkv)
    refine Snd.pure h hR (c := if ok then .tuple #[zv, .bool false] else zv) ?_ (by cases ok <;> simp [conc, concs, hzc])
    simp [execOp, ho, Instr.lookup, run_und hu, hr, run_checkKey hkt, Instr.findKey, run_und hkt, Instr.findNow, hzr]
  · rename_i r kk a hmv hkv
    split at hx
    case h_2 => cases hx
    rename_i es cl hg
    obtain ⟨q, hq, hr⟩ := conc_map (hρ _ _ _ hm hmv)
    have hri := conc_int (hρ _ _ _ hk hkv)
    obtain ⟨ces, hh, he⟩ := h.mapAt hg hq
    split at hx <;> cases hx
    · rename_i j v' hf
      obtain ⟨cr, hrun, hcr⟩ := run_findKey hkt he hf w
      cases cr with
      | none => exact hcr.elim
      | some jc =>
        obtain ⟨j', c⟩ := jc
        obtain ⟨rfl, hv, _⟩ := hcr
        refine Snd.pure h hR (c := if ok then .tuple #[c, .bool true] else c) ?_ (by cases ok <;> simp [conc, concs, hv])
        simp [execOp, ho, Instr.lookup, run_und hu, hr, run_getMap hh, run_checkKey hkt, hri, hrun]
    · rename_i hf
      obtain ⟨cr, hrun, hcr⟩ := run_findKey hkt he hf w
      cases cr with
      | some _ => exact hcr.elim
      | none =>
        refine Snd.pure h hR (c := if ok then .tuple #[zv, .bool false] else zv) ?_ (by cases ok <;> simp [conc, concs, hzc])
        simp [execOp, ho, Instr.lookup, run_und hu, hr, run_getMap hh, run_checkKey hkt, hri, hrun, hzr]

theorem entriesR_modify : ∀ {es : List (AV × AV × Nat)} {ces : List MapEntry} (_ : entriesR μ es ces) (j : Nat) {k v : AV} {ck cv : Value} (_ : conc μ k = some ck) (_ : conc μ v = some cv),
    entriesR μ (es.modify j fun e => (k, v, e.2.2)) (ces.modify j fun e => { e with key := ck, val := cv })
  | [], [], _, j, _, _, _, _, _, _ => by simp [entriesR]
  | x :: es, y :: ces, h, 0, k, v, ck, cv, hk, hv => ⟨⟨hk, hv, h.1.2.2⟩, h.2⟩
  | x :: es, y :: ces, h, j + 1, k, v, ck, cv, hk, hv => by
    simp only [List.modify_succ_cons]
    exact ⟨h.1, entriesR_modify h.2 j hk hv⟩
  | [], _ :: _, h, _, _, _, _, _, _, _ => h.elim
  | _ :: _, [], h, _, _, _, _, _, _, _ => h.elim

theorem entriesR_append : ∀ {es fs : List (AV × AV × Nat)} {ces cfs : List MapEntry} (_ : entriesR μ es ces) (_ : entriesR μ fs cfs), entriesR μ (es ++ fs) (ces ++ cfs)
  | [], _, [], _, _, k => k
  | _ :: _, _, _ :: _, _, h, k => ⟨h.1, entriesR_append h.2 k⟩
  | [], _, _ :: _, _, h, _ => h.elim
  | _ :: _, _, [], _, h, _ => h.elim

theorem entriesR_erase : ∀ {es : List (AV × AV × Nat)} {ces : List MapEntry} (_ : entriesR μ es ces) (j : Nat), entriesR μ (es.eraseIdx j) (ces.eraseIdx j)
  | [], [], _, _ => by simp [entriesR]
  | _ :: _, _ :: _, h, 0 => h.2
  | _ :: _, _ :: _, h, j + 1 => ⟨h.1, entriesR_erase h.2 j⟩
  | [], _ :: _, h, _ => h.elim
  | _ :: _, [], h, _ => h.elim

theorem entriesR_length : ∀ {es : List (AV × AV × Nat)} {ces : List MapEntry}, entriesR μ es ces → ces.length = es.length
  | [], [], _ => rfl
  | _ :: _, _ :: _, h => by simp [entriesR_length h.2]
  | [], _ :: _, h => h.elim
  | _ :: _, [], h => h.elim

theorem snd_mapUpdate {t : TypeId} {x y z : Operand} (ho : o.op = .mapUpdate t x y z) (hp : prepOp P o = some p) (h : HR P R μ s w) (hρ : EvR μ ev ρ) (hx : xop p ev s = some (v, s')) (hR : s'.next ≤ R) : Snd P R μ s w (execOp ρ o) v s' := by
  simp only [prepOp, ho] at hp
  split at hp
  case h_2 => cases hp
  rename_i kt e hu
  split at hp
  case isFalse => cases hp
  rename_i hkt
  obtain ⟨kk0, hkt⟩ := isIntKey_some hkt
  split at hp <;> cases hp
  rename_i m k vv hm hk hv
  simp only [xop] at hx
  split at hx
  case h_2 => cases hx
  rename_i r kk a u hmv hkv huv
  split at hx
  case h_2 => cases hx
  rename_i es cl hg
  obtain ⟨q, hq, hr⟩ := conc_map (hρ _ _ _ hm hmv)
  have hri := conc_int (hρ _ _ _ hk hkv)
  have hcv := hρ _ _ _ hv huv
  obtain ⟨ces, hh, he⟩ := h.mapAt hg hq
  split at hx <;> cases hx
  · rename_i j v' hf
    obtain ⟨cr, hrun, hcr⟩ := run_findKey hkt he hf w
    cases cr with
    | none => exact hcr.elim
    | some jc =>
      obtain ⟨j', c⟩ := jc
      obtain ⟨rfl, _, ee, hee, hkey, _⟩ := hcr
      have hee' : ces[j]? = some ee := by simpa using hee
      obtain ⟨h1, h2⟩ := setObj_turn (cl' := cl) h hR hg hq (es' := es.modify j fun e => (.int kk a, u, e.2.2)) (ces' := ces.modify j fun e => { e with key := .int kk a, val := ρ z })
        (by rw [Array.toList_modify]; exact entriesR_modify he j (show conc μ (.int kk a) = some (.int kk a) from rfl) hcv)
      refine ⟨μ, undef, _, .inr ⟨?_, rfl⟩, rfl, h1, h2⟩
      have hstay : (Instr.keyThatStays (.int kk a) (.int kk a)).run P w = .ok (.int kk a) w := by simp [Instr.keyThatStays, Instr.sameBits]
      simp [execOp, ho, Instr.mapUpdate, run_und hu, hr, run_getMap hh, run_checkKey hkt, hri, hrun, hee', hkey, hstay, run_setMap hh]
  · rename_i hf
    obtain ⟨cr, hrun, hcr⟩ := run_findKey hkt he hf w
    cases cr with
    | some _ => exact hcr.elim
    | none =>
      obtain ⟨h1, h2⟩ := setObj_turn (cl' := cl + 1) h hR hg hq (es' := es ++ [(.int kk a, u, cl)]) (ces' := ces.push { key := .int kk a, val := ρ z, born := cl })
        (by rw [Array.toList_push]; exact entriesR_append he ⟨⟨rfl, hcv, rfl⟩, trivial⟩)
      refine ⟨μ, undef, _, .inr ⟨?_, rfl⟩, rfl, h1, h2⟩
      simp [execOp, ho, Instr.mapUpdate, run_und hu, hr, run_getMap hh, run_checkKey hkt, hri, hrun, run_setMap hh]

theorem snd_range {t : TypeId} {x : Operand} (ho : o.op = .range t x) (hp : prepOp P o = some p) (h : HR P R μ s w) (hρ : EvR μ ev ρ) (hx : xop p ev s = some (v, s')) (hR : s'.next ≤ R) : Snd P R μ s w (execOp ρ o) v s' := by
  simp only [prepOp, ho] at hp
  split at hp
  case h_2 => cases hp
  rename_i kt et hu
  simp only [Option.map_eq_some_iff] at hp
  obtain ⟨a, ha, rfl⟩ := hp
  simp only [xop] at hx
  split at hx
  case h_3 => cases hx
  · rename_i hv
    simp only [newA, Option.some.injEq, Prod.mk.injEq] at hx
    obtain ⟨rfl, rfl⟩ := hx
    have hr : ρ x = .map none := by simpa [conc] using (hρ _ _ _ ha hv).symm
    obtain ⟨h1, h2⟩ := h.new hR (.miter none 0 [] 0) (.mapIter none 0 #[] 0) 0 w.drawn ⟨none, rfl, World.push_new w _ _⟩
    exact ⟨_, .pointer (some ⟨w.heap.size, 0, none⟩), _, .inl (by simp [execOp, ho, Instr.range, run_und hu, hr]), by simp [conc, Place.add], h1, h2⟩
  · rename_i r hv
    split at hx
    case h_2 => cases hx
    rename_i es clock hg
    simp only [newA, Option.some.injEq, Prod.mk.injEq] at hx
    obtain ⟨rfl, rfl⟩ := hx
    obtain ⟨q, hq, hr⟩ := conc_map (hρ _ _ _ ha hv)
    obtain ⟨ces, hm, he⟩ := h.mapAt hg hq
    obtain ⟨h1, h2⟩ := h.new hR (.miter (some r) clock [] clock) (.mapIter (some q.1) clock #[] clock) 0 w.drawn ⟨some q.1, ⟨q, h.le_add hR _ _ _ hq, rfl⟩, World.push_new w _ _⟩
    exact ⟨_, .pointer (some ⟨w.heap.size, 0, none⟩), _, .inl (by simp [execOp, ho, Instr.range, run_und hu, hr, run_getMap hm]), by simp [conc, Place.add], h1, h2⟩

theorem find_entriesR {k : Nat} : ∀ {es : List (AV × AV × Nat)} {ces : List MapEntry} {e : AV × AV × Nat}, entriesR μ es ces → es.find? (fun e => e.2.2 == k) = some e → ∃ c, ces.find? (fun c => c.born == k) = some c ∧ entryR μ e c
  | [], [], _, _, h => by simp at h
  | x :: l, y :: m, e, he, h => by
    have hb := he.1.2.2
    by_cases hk : x.2.2 = k
    · rw [List.find?_cons_of_pos (by simpa using hk)] at h
      cases h
      exact ⟨y, by rw [List.find?_cons_of_pos (by rw [← hb]; simpa using hk)], he.1⟩
    · rw [List.find?_cons_of_neg (by simpa using hk)] at h
      obtain ⟨c, h1, h2⟩ := find_entriesR he.2 h
      exact ⟨c, by rw [List.find?_cons_of_neg (by rw [← hb]; simpa using hk)]; exact h1, h2⟩
  | [], _ :: _, _, he, _ => he.elim
  | _ :: _, [], _, he, _ => he.elim

theorem snd_entry {x : Operand} (ho : o.op = .entry x) (hp : prepOp P o = some p) (h : HR P R μ s w) (hρ : EvR μ ev ρ) (hx : xop p ev s = some (v, s')) (hR : s'.next ≤ R) : Snd P R μ s w (execOp ρ o) v s' := by
  simp only [prepOp, ho, Option.map_eq_some_iff] at hp
  obtain ⟨a, ha, rfl⟩ := hp
  simp only [xop] at hx
  split at hx
  case h_2 => cases hx
  rename_i b hv
  split at hx
  case h_2 => cases hx
  rename_i r since seen last hg
  split at hx
  case h_2 => cases hx
  rename_i es clock hm
  split at hx
  case isFalse => cases hx
  rename_i hcl
  subst hcl
  split at hx
  case h_2 => cases hx
  rename_i k hk
  split at hx <;> cases hx
  rename_i e hf
  obtain ⟨q, hq, hr⟩ := isSome_of_conc_ptr (hρ _ _ _ ha hv)
  obtain ⟨q', hq', m', ⟨qm, hqm, rfl⟩, hit⟩ := h.obj _ _ hg
  rw [hq] at hq'; cases hq'
  obtain ⟨ces, hce, her⟩ := h.mapAt hm hqm
  obtain ⟨c, hc, h1, h2, _⟩ := find_entriesR her hf
  refine Snd.pure h hR (c := .tuple #[c.key, c.val]) ?_ (by simp [conc, concs, h1, h2])
  have hback : seen.toArray.back? = some k := by simpa [Array.back?, List.getLast?_eq_getElem?] using hk
  have hfa : ces.find? (fun c => c.born == k) = some c := by rw [← Array.find?_toList]; exact hc
  simp only [execOp, ho, Instr.entry, hr, getObj, Sem.run_bind, Sem.run, hit, hce, Result.andThen, hback, bne_self_eq_false, Bool.false_eq_true, if_false, hfa]
  rfl

theorem entriesR_back {μ : Place} : ∀ {es : List (AV × AV × Nat)} {ces : List MapEntry} {c : MapEntry}, entriesR μ es ces → c ∈ ces → ∃ e ∈ es, e.2.2 = c.born
  | [], [], _, _, h => by cases h
  | x :: l, y :: m, c, he, h => by
    rcases List.mem_cons.1 h with rfl | h
    · exact ⟨x, List.mem_cons_self .., he.1.2.2⟩
    · obtain ⟨e, h1, h2⟩ := entriesR_back he.2 h
      exact ⟨e, List.mem_cons_of_mem _ h1, h2⟩
  | [], _ :: _, _, he, _ => he.elim
  | _ :: _, [], _, he, _ => he.elim

theorem snd_next {x : Operand} (ho : o.op = .next x false) (hp : prepOp P o = some p) (h : HR P R μ s w) (hρ : EvR μ ev ρ) (hx : xop p ev s = some (v, s')) (hR : s'.next ≤ R) : Snd P R μ s w (execOp ρ o) v s' := by
  simp only [prepOp, ho, Bool.false_eq_true, if_false, Option.map_eq_some_iff] at hp
  obtain ⟨a, ha, rfl⟩ := hp
  simp only [xop] at hx
  split at hx
  case h_2 => cases hx
  rename_i b hv
  split at hx
  case h_2 => cases hx
  rename_i r since seen last hg
  split at hx
  case h_2 => cases hx
  rename_i es clock hm
  split at hx <;> cases hx
  rename_i hal
  simp only [Bool.and_eq_true, List.all_eq_true, Nat.blt_eq, Nat.ble_eq] at hal
  obtain ⟨hall, hsc⟩ := hal
  obtain ⟨q, hq, hr⟩ := isSome_of_conc_ptr (hρ _ _ _ ha hv)
  obtain ⟨q', hq', m', ⟨qm, hqm, rfl⟩, hit⟩ := h.obj _ _ hg
  rw [hq] at hq'; cases hq'
  obtain ⟨ces, hce, her⟩ := h.mapAt hm hqm
  have hold : ∀ c ∈ ces.toList, c.born < since := fun c hc => by
    obtain ⟨e, he, hb⟩ := entriesR_back her hc
    rw [← hb]; exact (hall e he).1
  refine Snd.pure h hR (c := .tuple #[.bool false]) ?_ (by simp [conc, concs])
  have hexec : execOp ρ o = (do pure (.value (← Instr.next (.pointer (some ⟨q.1, 0, none⟩)) false o.type))) := by
    simp only [execOp, ho, hr]
  rw [hexec]
  rcases run_next_at (P := P) w o.type q.1 qm.1 since last seen.toArray ces clock hit hce hold hsc with ⟨_, hrun⟩ | ⟨c, hc, _⟩
  · simp only [Sem.run_bind, hrun, Result.andThen_ok, Sem.run_pure]
  · exfalso
    unfold leftOf at hc
    simp only [Array.toList_filter, List.mem_filter] at hc
    obtain ⟨e, he, hb⟩ := entriesR_back her hc.1
    have := (hall e he).2
    rw [hb] at this
    have h2 := hc.2
    simp only [Bool.not_eq_true', List.contains_toArray] at h2
    rw [this] at h2
    cases h2
end Go.Proofs.Ytjejgnbdlfkenaa.D
namespace Go.Proofs.Ytjejgnbdlfkenaa.D
variable {P : Program} {R : Nat} {μ : Place} {s : St} {w : World} {ev : Ev} {ρ : Operand → Value} {o : Oper} {p : POp} {v : AV} {s' : St}

theorem growBy_le (n : Nat) : ∀ (r c : Nat), Builtin.growBy n r c ≤ max c (n + (n + 768) / 4)
  | 0, c => by simp [Builtin.growBy]; omega
  | r + 1, c => by
    unfold Builtin.growBy
    split
    · omega
    · have := growBy_le n r (c + (c + 768) / 4)
      omega

/-- The capacity that growslice picks is no great one. -/
theorem next_le {n c b : Nat} (hc : c < n) (hb : n * b ≤ 2 ^ 46) : Builtin.nextslicecap n c * b ≤ 2 ^ 48 := by
  have h3 : Builtin.nextslicecap n c ≤ 3 * n := by
    unfold Builtin.nextslicecap
    split
    · omega
    · split
      · omega
      · have := growBy_le n 4 c
        omega
  have : Builtin.nextslicecap n c * b ≤ 3 * n * b := Nat.mul_le_mul_right _ h3
  rw [Nat.mul_assoc] at this
  omega

theorem loadA_take {b o k n : Nat} {l : List AV} (h : loadA s b o k = some l) (hn : n ≤ k) : loadA s b o n = some (l.take n) := by
  obtain ⟨vs, lo, ro, z, hg, hle, rfl⟩ := loadA_some h
  unfold loadA
  rw [hg]
  simp only []
  rw [if_pos (by omega), List.take_take, Nat.min_eq_left hn]

/-- The second operand of append and copy. -/
theorem run_src {esz n : Nat} {x : AV} {l : List AV} (h : HR P R μ s w) (hs : srcA s esz x = some (n, l)) (hl : l.length = n * esz) {c : Value} (hc : conc μ x = some c) :
    (Builtin.lenOf c).run P w = .ok n w ∧ ∃ xs, concs μ l = some xs ∧ ∀ m, m ≤ n → (Builtin.firstCells esz m c).run P w = .ok (xs.take (m * esz)).toArray w := by
  unfold srcA at hs
  split at hs
  · cases hs
    simp only [conc, Option.some.injEq] at hc
    subst hc
    exact ⟨rfl, [], rfl, fun m hm => by simp [Builtin.firstCells]⟩
  · cases hs
    obtain ⟨q, hq, rfl⟩ := conc_tail hc
    refine ⟨rfl, [], rfl, fun m hm => ?_⟩
    have : m = 0 := by omega
    subst this
    simp [Builtin.firstCells, loadCells, loadCellsFrom]
  · cases hs
    simp only [conc, Option.some.injEq] at hc
    subst hc
    refine ⟨rfl, [], rfl, fun m hm => ?_⟩
    have : m = 0 := by omega
    subst this
    rename_i a _
    cases a <;> simp [Builtin.firstCells, loadCells, loadCellsFrom]
  · rename_i b of len cap lo
    split at hs <;> cases hs
    rename_i hla
    obtain ⟨q, hq, rfl⟩ := conc_slice hc
    obtain ⟨xs, hxs, hxl, _⟩ := run_loadA (P := P) h hla hq
    refine ⟨rfl, xs, hxs, fun m hm => ?_⟩
    have hmk : m * esz ≤ n * esz := Nat.mul_le_mul_right _ hm
    obtain ⟨ys, hys, _, hrun⟩ := run_loadA (P := P) h (loadA_take hla hmk) hq
    have := concs_take hxs (m * esz)
    rw [hys] at this
    cases this
    simpa [Builtin.firstCells] using hrun
  · rename_i z
    split at hs <;> cases hs
    rename_i he
    subst he
    have := conc_str hc
    subst this
    refine ⟨rfl, z.data.toList.map fun c => .int .u8 c.toNat, ?_, fun m hm => ?_⟩
    · induction z.data.toList with
      | nil => rfl
      | cons a r ih => simp [concs, conc, ih]
    · simp only [Builtin.firstCells, Sem.run_pure]
      congr 1
      apply Array.ext'
      rw [ByteArray.data_extract, Nat.mul_one, ← List.map_take]
      simp
  · cases hs

/-- append, as the model runs it. -/
theorem run_append {st xt e : TypeId} {dx : TypeDesc} (hst : P.underlying st = some (.slice e)) (hxt : P.underlying xt = some dx) (hnx : ∀ k, dx ≠ .int k) {esz eb : Nat} (hsz : sizeB P e = some esz) (hb : bytesB P e = some eb) (hb1 : 1 ≤ eb)
    {base : Option Addr} {sLen sCap n : Nat} {x : Value} {xs : List Value} (hlen : (Builtin.lenOf x).run P w = .ok n w) (hfc : (Builtin.firstCells esz n x).run P w = .ok xs.toArray w) (ty : TypeId) :
    (sLen + n ≤ sCap → ∀ w', (match base with | some a => storeCells (a.add (sLen * esz)) xs | none => pure ()).run P w = .ok () w' → (Builtin.append_ #[st, xt] ty #[.slice base sLen sCap, x]).run P w = .ok (.slice base (sLen + n) sCap) w') ∧
    (sCap < sLen + n → (sLen + n) * eb ≤ 2 ^ 46 → ∀ zv : Value, (∀ w, (zeroValue e).run P w = .ok zv w) → zv.cells.size = esz → ∀ old : List Value, (∀ d, (Builtin.firstCells esz sLen (.slice base sLen sCap)).run P { w with drawn := d } = .ok old.toArray { w with drawn := d }) →
      (∀ d, (Builtin.firstCells esz n x).run P { w with drawn := d } = .ok xs.toArray { w with drawn := d }) →
      ∃ (ex : Nat) (rest : List Value), rest.length = ex * esz ∧ (Builtin.append_ #[st, xt] ty #[.slice base sLen sCap, x]).run P w = .ok (.slice (some ⟨w.heap.size, 0, none⟩) (sLen + n) (sLen + n + ex))
        { w with heap := w.heap.push (.cells (old ++ xs ++ rest).toArray e), drawn := w.drawn + 1 }) := by
  have hmat : (match dx with | .int _ => true | _ => false) = false := by
    cases dx <;> first | rfl | exact absurd rfl (hnx _)
  unfold bytesB at hb
  simp only [Option.map_eq_some_iff] at hb
  obtain ⟨i, hi, hib⟩ := hb
  constructor
  · intro hle w' hst'
    cases base with
    | none =>
      simp only [Sem.run_pure] at hst'
      cases hst'
      simp only [Builtin.append_, List.getElem?_toArray, List.getElem?_cons_zero, List.getElem?_cons_succ, Sem.run_bind, run_und hst, Result.andThen_ok, run_size hsz, run_und hxt, Sem.run_pure]
      simp [hlen, hfc, hle]
    | some a =>
      simp only [] at hst'
      simp only [Builtin.append_, List.getElem?_toArray, List.getElem?_cons_zero, List.getElem?_cons_succ, Sem.run_bind, run_und hst, Result.andThen_ok, run_size hsz, run_und hxt, Sem.run_pure]
      simp [hlen, hfc, hle, hst']
  · intro hgt hbd zv hz hzs old hold hnew
    obtain ⟨ex, hex⟩ : ∃ ex, Question.cut (.appendCap (sLen + n) sCap e) (w.tape w.drawn (.appendCap (sLen + n) sCap e)) = sLen + n + ex := ⟨_, rfl⟩
    have hnext := next_le (b := eb) hgt hbd
    refine ⟨ex, (Builtin.zeroCells zv.cells ex).toList, by simp [Builtin.zeroCells, hzs], ?_⟩
    have hn1 : ¬ (sLen + n ≤ sCap) := by omega
    have hn3 : ¬ (Builtin.nextslicecap (sLen + n) sCap * i.bytes > 2 ^ 48) := by rw [hib]; omega
    have hn4 : i.bytes ≠ 0 := by omega
    have h1 := hold (w.drawn + 1)
    have h2 := hnew (w.drawn + 1)
    simp only [Builtin.append_, List.getElem?_toArray, List.getElem?_cons_zero, List.getElem?_cons_succ, Sem.run_bind, run_und hst, Result.andThen_ok, run_size hsz, run_und hxt, Sem.run_pure, Bool.false_eq_true, if_false, hlen, if_neg hn1,
      run_info hi, false_or, hn4, and_false, if_neg hn3, run_choose, Question.forced, hex, run_askRoom, h1, Bool.not_false, if_true, h2, hz, newRow, run_newObj, Nat.add_sub_cancel_left]
    have harr : old.toArray ++ xs.toArray ++ Builtin.zeroCells zv.cells ex = (old ++ xs ++ (Builtin.zeroCells zv.cells ex).toList).toArray := by
      apply Array.ext'; simp
    rw [harr]

/-- What append does with a slice, n more values of it being these cells. -/
def AppRuns (P : Program) (st xt ty e : TypeId) (esz eb n : Nat) (x : Value) (xs : List Value) (w : World) : Prop :=
  ∀ (base : Option Addr) (sLen sCap : Nat),
    (sLen + n ≤ sCap → ∀ w', (match base with | some a => storeCells (a.add (sLen * esz)) xs | none => pure ()).run P w = .ok () w' → (Builtin.append_ #[st, xt] ty #[.slice base sLen sCap, x]).run P w = .ok (.slice base (sLen + n) sCap) w') ∧
    (sCap < sLen + n → (sLen + n) * eb ≤ 2 ^ 46 → ∀ zv : Value, (∀ w, (zeroValue e).run P w = .ok zv w) → zv.cells.size = esz → ∀ old : List Value, (∀ d, (Builtin.firstCells esz sLen (.slice base sLen sCap)).run P { w with drawn := d } = .ok old.toArray { w with drawn := d }) →
      ∃ (ex : Nat) (rest : List Value), rest.length = ex * esz ∧ (Builtin.append_ #[st, xt] ty #[.slice base sLen sCap, x]).run P w = .ok (.slice (some ⟨w.heap.size, 0, none⟩) (sLen + n) (sLen + n + ex))
        { w with heap := w.heap.push (.cells (old ++ xs ++ rest).toArray e), drawn := w.drawn + 1 })

theorem appRuns_src {st xt ty e : TypeId} {dx : TypeDesc} (hst : P.underlying st = some (.slice e)) (hxt : P.underlying xt = some dx) (hnx : ∀ k, dx ≠ .int k) {esz eb : Nat} (hsz : sizeB P e = some esz) (hb : bytesB P e = some eb) (hb1 : 1 ≤ eb)
    (h : HR P R μ s w) {n : Nat} {y : AV} {l : List AV} (hsrc : srcA s esz y = some (n, l)) (hl : l.length = n * esz) {cy : Value} (hcy : conc μ y = some cy) : ∃ xs, concs μ l = some xs ∧ AppRuns P st xt ty e esz eb n cy xs w := by
  obtain ⟨hlen, xs, hxs, hfc⟩ := run_src (P := P) h hsrc hl hcy
  have hfc0 := hfc n (Nat.le_refl _)
  have hxl := concs_length hxs
  have htake : xs.take (n * esz) = xs := List.take_of_length_le (by omega)
  rw [htake] at hfc0
  have hfcd : ∀ d, (Builtin.firstCells esz n cy).run P { w with drawn := d } = .ok xs.toArray { w with drawn := d } := fun d => by
    obtain ⟨_, ys, hys, hfc'⟩ := run_src (P := P) (h.heap_eq (w' := { w with drawn := d }) rfl) hsrc hl hcy
    rw [hxs] at hys; cases hys
    have := hfc' n (Nat.le_refl _)
    rwa [htake] at this
  refine ⟨xs, hxs, fun base sLen sCap => ?_⟩
  obtain ⟨r1, r2⟩ := run_append (P := P) (w := w) hst hxt hnx hsz hb hb1 (base := base) (sLen := sLen) (sCap := sCap) hlen hfc0 ty
  exact ⟨r1, fun g1 g2 zv g3 g4 old g5 => r2 g1 g2 zv g3 g4 old g5 hfcd⟩

theorem zeroCells_flat (c : Array Value) (n : Nat) : Builtin.zeroCells c n = (List.replicate n c.toList).flatten.toArray := by
  unfold Builtin.zeroCells
  exact range_mod_flatten c n

theorem appRuns_zeros {st xt ty e : TypeId} {k : IntKind} (hst : P.underlying st = some (.slice e)) (hxt : P.underlying xt = some (.int k)) {esz eb : Nat} (hsz : sizeB P e = some esz) (hb : bytesB P e = some eb) (hb1 : 1 ≤ eb)
    {zv : Value} (hz : ∀ w, (zeroValue e).run P w = .ok zv w) (hzs : zv.cells.size = esz) {m : Int} {k' : IntKind} (h0 : 0 ≤ m) (h1 : m < 2 ^ 40) (h2 : m.toNat * eb ≤ 2 ^ 46) :
    AppRuns P st xt ty e esz eb m.toNat (.int k' m) (List.replicate m.toNat zv.cells.toList).flatten w := by
  unfold bytesB at hb
  simp only [Option.map_eq_some_iff] at hb
  obtain ⟨i, hi, hib⟩ := hb
  have w1 : IntKind.i64.wrap m = m := by
    simp [IntKind.wrap, IntKind.signed, IntKind.bits]; omega
  have hn1 : ¬ (m < 0) := by omega
  have hbig : ¬ (m * i.bytes > 2 ^ 48) := by
    rw [hib]
    have : ((m.toNat * eb : Nat) : Int) ≤ 2 ^ 46 := by exact_mod_cast h2
    rw [Int.natCast_mul, Int.toNat_of_nonneg h0] at this
    omega
  have happ : ∀ w, (if m.toNat * esz = 0 then (pure #[] : Sem (Array Value)) else do pure (Builtin.zeroCells (← zeroValue e).cells m.toNat)).run P w = .ok (List.replicate m.toNat zv.cells.toList).flatten.toArray w := by
    intro w
    by_cases hz0 : m.toNat * esz = 0
    · rw [if_pos hz0]
      have : (List.replicate m.toNat zv.cells.toList).flatten.toArray = #[] := by
        rw [← zeroCells_flat, Builtin.zeroCells, hzs, hz0]; simp
      rw [this]; rfl
    · rw [if_neg hz0]
      simp [hz, zeroCells_flat]
  intro base sLen sCap
  constructor
  · intro hle w' hst'
    cases base with
    | none =>
      simp only [Sem.run_pure] at hst'
      cases hst'
      simp only [Builtin.append_, List.getElem?_toArray, List.getElem?_cons_zero, List.getElem?_cons_succ, Sem.run_bind, run_und hst, Result.andThen_ok, run_size hsz, run_und hxt, Sem.run_pure, if_true, asInt, asIntOf, w1, hn1, if_false,
        run_info hi, hbig, Bool.not_true, Bool.false_eq_true, if_pos hle, happ]
    | some a =>
      simp only [] at hst'
      simp only [Builtin.append_, List.getElem?_toArray, List.getElem?_cons_zero, List.getElem?_cons_succ, Sem.run_bind, run_und hst, Result.andThen_ok, run_size hsz, run_und hxt, Sem.run_pure, if_true, asInt, asIntOf, w1, hn1, if_false,
        run_info hi, hbig, Bool.not_true, Bool.false_eq_true, if_pos hle, happ, hst']
  · intro hgt hbd zv' hz' hzs' old hold
    have hzz : zv' = zv := by
      have g1 := hz' w
      rw [hz w] at g1
      cases g1; rfl
    subst hzz
    obtain ⟨ex, hex⟩ : ∃ ex, Question.cut (.appendCap (sLen + m.toNat) sCap e) (w.tape w.drawn (.appendCap (sLen + m.toNat) sCap e)) = sLen + m.toNat + ex := ⟨_, rfl⟩
    have hnext := next_le (b := eb) hgt hbd
    refine ⟨ex, (Builtin.zeroCells zv'.cells ex).toList, by simp [Builtin.zeroCells, hzs], ?_⟩
    have hn1' : ¬ (sLen + m.toNat ≤ sCap) := by omega
    have hn3 : ¬ (Builtin.nextslicecap (sLen + m.toNat) sCap * i.bytes > 2 ^ 48) := by rw [hib]; omega
    have hneed : sLen + m.toNat ≤ (sLen + m.toNat) * eb := Nat.le_mul_of_pos_right _ hb1
    have hn5 : ¬ (((sLen + m.toNat : Nat) : Int) > IntKind.i64.max) := by
      simp [IntKind.max, IntKind.signed, IntKind.bits]; omega
    have g1 := hold (w.drawn + 1)
    simp only [Builtin.append_, List.getElem?_toArray, List.getElem?_cons_zero, List.getElem?_cons_succ, Sem.run_bind, run_und hst, Result.andThen_ok, run_size hsz, run_und hxt, Sem.run_pure, if_true, asInt, asIntOf, w1, hn1, if_false,
      run_info hi, hbig, Bool.not_true, Bool.false_eq_true, if_neg hn1', hn5, false_and, if_neg hn3, run_choose, Question.forced, hex, run_askRoom, g1, happ, hz, newRow, run_newObj, Nat.add_sub_cancel_left]
    have harr : old.toArray ++ (List.replicate m.toNat zv'.cells.toList).flatten.toArray ++ Builtin.zeroCells zv'.cells ex = (old ++ (List.replicate m.toNat zv'.cells.toList).flatten ++ (Builtin.zeroCells zv'.cells ex).toList).toArray := by
      apply Array.ext'; simp
    rw [harr]
end Go.Proofs.Ytjejgnbdlfkenaa.D
namespace Go.Proofs.Ytjejgnbdlfkenaa.D
variable {P : Program} {R : Nat} {μ : Place} {s : St} {w : World} {ev : Ev} {ρ : Operand → Value} {o : Oper} {p : POp} {v : AV} {s' : St}

theorem HR.at_drawn {d : Nat} (h : HR P R μ s w) : HR P R μ s { w with drawn := d } := h.heap_eq rfl

theorem appendA_snd {esz eb n : Nat} {x : AV} {l : List AV} {st xt e ty : TypeId} (hs1 : 1 ≤ esz)
    {zv : Value} (hz : ∀ w, (zeroValue e).run P w = .ok zv w) (hzs : zv.cells.size = esz)
    (h : HR P R μ s w) (hl : l.length = n * esz) {cx cy : Value} (hcx : conc μ x = some cx) {xs : List Value} (hxs : concs μ l = some xs) (hA : AppRuns P st xt ty e esz eb n cy xs w)
    (ha : appendA esz eb s x n l = some (v, s')) (hR : s'.next ≤ R) :
    ∃ ν c w', (Builtin.append_ #[st, xt] ty #[cx, cy]).run P w = .ok c w' ∧ conc ν v = some c ∧ HR P R ν s' w' ∧ Mv μ s w ν s' w' := by
  have hxl := concs_length hxs
  have hn0 : n = 0 → xs = [] := fun e => by subst e; exact List.length_eq_zero_iff.1 (by simpa [hl] using hxl)
  unfold appendA at ha
  split at ha
  case h_3 => cases ha
  · -- a nil slice
    simp only [conc, Option.some.injEq] at hcx
    subst hcx
    obtain ⟨r1, r2⟩ := hA none 0 0
    split at ha
    · rename_i hn
      cases ha
      subst hn
      exact ⟨μ, .slice none 0 0, w, by simpa using r1 (by omega) w rfl, rfl, h, Mv.refl h hR⟩
    · rename_i hn
      split at ha
      case isFalse => cases ha
      rename_i hbd
      simp only [newA, Option.some.injEq, Prod.mk.injEq] at ha
      obtain ⟨rfl, rfl⟩ := ha
      obtain ⟨ex, rest, hrl, hrun⟩ := r2 (by omega) (by simpa using hbd) zv hz hzs [] (fun d => by simp [Builtin.firstCells])
      obtain ⟨h1, h2⟩ := h.new hR (.cells l true false esz) (.cells ([] ++ xs ++ rest).toArray e) ex (w.drawn + 1)
        ⟨_, _, _, xs, rest, World.push_new w _ _, concs_mono (h.le_add hR _) _ _ hxs, by simp, hrl, by simp, fun _ => by intro i _; simp⟩
      exact ⟨_, _, _, hrun, by simp [conc, Place.add], h1, h2⟩
  · rename_i b of len cap loose
    obtain ⟨q, hq, rfl⟩ := conc_slice hcx
    obtain ⟨r1, r2⟩ := hA (some ⟨q.1, of, none⟩) len (if loose then cap + q.2 else cap)
    split at ha
    · rename_i hle
      split at ha
      · rename_i hn
        cases ha
        subst hn
        have := hn0 rfl
        subst this
        refine ⟨μ, _, w, r1 (by split <;> omega) w (by simp [storeCells]), ?_, h, Mv.refl h hR⟩
        simp [conc, hq]
      · split at ha <;> cases ha
        rename_i hst'
        obtain ⟨w', hrun, h1, h2⟩ := run_storeA h hR hst' hq hxs
        refine ⟨μ, _, w', r1 (by split <;> omega) w' (by simpa [Addr.add_mk] using hrun), by simp [conc, hq], h1, h2⟩
    · rename_i hgt
      split at ha
      case isFalse => cases ha
      rename_i hbd
      split at ha
      case h_1 => cases ha
      rename_i old hold
      obtain ⟨ys, hys, hyl, _⟩ := run_loadA (P := P) h hold hq
      have holdd : ∀ k d, (Builtin.firstCells esz len (.slice (some ⟨q.1, of, none⟩) len k)).run P { w with drawn := d } = .ok ys.toArray { w with drawn := d } := fun k d => by
        obtain ⟨zs, hzs', _, hrun⟩ := run_loadA (P := P) (h.at_drawn (d := d)) hold hq
        rw [hys] at hzs'; cases hzs'
        simpa [Builtin.firstCells] using hrun
      split at ha
      · rename_i hloose
        subst hloose
        simp only [if_true] at r1 r2
        split at ha
        case isFalse => cases ha
        rename_i hof
        subst hof
        split at ha
        case h_2 => cases ha
        rename_i vs z hg
        split at ha <;> cases ha
        rename_i hcond
        obtain ⟨hz1, hvl, hac⟩ := hcond
        subst hz1
        -- it may fit into what there is
        by_cases hfit : len + n ≤ cap + q.2
        · obtain ⟨q', hq', c, el, fz, xs0, rest, e1, e2, e3, e4, e5, e6⟩ := h.obj _ _ hg
          rw [hq] at hq'; cases hq'
          have hl0 := concs_length e2
          have hcs : c.size = xs0.length + rest.length := by rw [← Array.length_toList, e3]; simp
          have hmul : (len + n) * z ≤ (cap + q.2) * z := Nat.mul_le_mul_right _ hfit
          rw [Nat.add_mul, Nat.add_mul] at hmul
          obtain ⟨w', cur', f1, f2, f3, f4, f5, f6, f7, f8⟩ := run_storeList (P := P) q.1 (len * z) el fz xs 0 c w e1 (e6 rfl) (by omega) (allCell_conc hac hxs)
          have hcl : cap * z < (len + n) * z := Nat.mul_lt_mul_of_pos_right (by omega) hs1
          rw [Nat.add_mul] at hcl
          have hold' : old = vs.take (len * z) := by
            obtain ⟨vs', _, _, _, hg', _, rfl⟩ := loadA_some hold
            rw [hg] at hg'; cases hg'
            simp
          have hoz : concs (μ.add s.next (q.1, cap + q.2 - (len + n))) (old ++ l) = some (xs0.take (len * z) ++ xs) := by
            refine concs_mono (h.le_add hR _) _ _ ?_
            rw [hold']
            exact concs_append (concs_take e2 _) hxs
          have hlz : len * z ≤ cap * z := by
            have := (loadA_some hold)
            obtain ⟨vs', _, _, _, hg', hle', _⟩ := this
            rw [hg] at hg'; cases hg'
            omega
          obtain ⟨h1, h2⟩ := h.alias (w' := w') hR hg hq (by simp) (o' := .cells (old ++ l) true false z) (e := cap + q.2 - (len + n))
            ⟨cur', el, fz, xs0.take (len * z) ++ xs, (xs0 ++ rest).drop (len * z + xs.length), f2, hoz, by
              rw [f3, e3]
              simp only [Nat.add_zero]
              rw [List.take_append_of_le_length (by omega)], by
              rw [List.length_drop, List.length_append, Nat.sub_mul, Nat.add_mul, Nat.add_mul]
              omega, by simp, fun _ i hi => by
              have : cur'.size = c.size := by
                rw [← Array.length_toList, f3, ← Array.length_toList]
                simp
                omega
              exact e6 rfl i (by omega)⟩ f4 f5 f6 f7 f8
          refine ⟨_, _, w', r1 hfit w' (by simpa [Addr.add_mk] using f1), ?_, h1, h2⟩
          simp only [conc, Place.add, if_true, Option.map_some, Option.some.injEq]
          congr 1
          omega
        · obtain ⟨ex, rest, hrl, hrun⟩ := r2 (by omega) hbd zv hz hzs ys (holdd _)
          have hR1 : s.next ≤ R := Nat.le_trans (Nat.le_succ _) (by simpa using hR)
          obtain ⟨d1, d2⟩ := h.drop hR1 hg (by simp)
          obtain ⟨h1, h2⟩ := d1.new hR (.cells (old ++ l) true false z) (.cells (ys ++ xs ++ rest).toArray e) ex (w.drawn + 1)
            ⟨_, _, _, ys ++ xs, rest, World.push_new w _ _, concs_mono (d1.le_add hR _) _ _ (concs_append hys hxs), by simp, hrl, by simp, fun _ => by intro i _; simp⟩
          exact ⟨_, _, _, hrun, by simp [conc, Place.add], h1, d2.trans h2⟩
      · rename_i hloose
        have hlf : loose = false := by simpa using hloose
        subst hlf
        simp only [Bool.false_eq_true, if_false] at r1 r2
        simp only [newA, Option.some.injEq, Prod.mk.injEq] at ha
        obtain ⟨rfl, rfl⟩ := ha
        obtain ⟨ex, rest, hrl, hrun⟩ := r2 (by omega) hbd zv hz hzs ys (holdd _)
        obtain ⟨h1, h2⟩ := h.new hR (.cells (old ++ l) true false esz) (.cells (ys ++ xs ++ rest).toArray e) ex (w.drawn + 1)
          ⟨_, _, _, ys ++ xs, rest, World.push_new w _ _, concs_mono (h.le_add hR _) _ _ (concs_append hys hxs), by simp, hrl, by simp, fun _ => by intro i _; simp⟩
        exact ⟨_, _, _, hrun, by simp [conc, Place.add], h1, h2⟩
end Go.Proofs.Ytjejgnbdlfkenaa.D
namespace Go.Proofs.Ytjejgnbdlfkenaa.D
variable {P : Program} {R : Nat} {μ : Place} {s : St} {w : World} {ev : Ev} {ρ : Operand → Value} {o : Oper} {p : POp} {v : AV} {s' : St}

theorem prepXs_map : ∀ {l : List Operand} {xs : List X}, prepXs l = some xs → xs.length = l.length ∧ ∀ (i : Nat) (x : X) (y : Operand), xs[i]? = some x → l[i]? = some y → prepX y = some x
  | [], xs, h => by simp only [prepXs, Option.some.injEq] at h; subst h; simp
  | a :: l, xs, h => by
    simp only [prepXs] at h
    split at h
    case h_2 => cases h
    rename_i b hb
    split at h <;> cases h
    rename_i r hr
    obtain ⟨h1, h2⟩ := prepXs_map hr
    refine ⟨by simp [h1], fun i x y hx hy => ?_⟩
    cases i with
    | zero => simp at hx hy; subst hx; subst hy; exact hb
    | succ i => exact h2 i x y (by simpa using hx) (by simpa using hy)

theorem prepXs_1 {l : Array Operand} {a : X} (h : prepXs l.toList = some [a]) : ∃ x, l = #[x] ∧ prepX x = some a := by
  obtain ⟨h1, h2⟩ := prepXs_map h
  obtain ⟨x, hx⟩ := List.length_eq_one_iff.1 h1.symm
  exact ⟨x, Array.ext' hx, h2 0 a x rfl (by rw [hx]; rfl)⟩

theorem prepXs_2 {l : Array Operand} {a b : X} (h : prepXs l.toList = some [a, b]) : ∃ x y, l = #[x, y] ∧ prepX x = some a ∧ prepX y = some b := by
  obtain ⟨h1, h2⟩ := prepXs_map h
  match hl : l.toList, h1 with
  | [x, y], _ => exact ⟨x, y, Array.ext' hl, h2 0 a x rfl (by rw [hl]; rfl), h2 1 b y rfl (by rw [hl]; rfl)⟩

theorem run_builtin {b : Builtin} {c : Call} (ho : o.op = .call c) (hc : c.callee = .builtin b) (x : Sem Value)
    (hb : ∀ consts, builtin b c.argTypes o.type consts (c.args.map ρ) = (do pure (.value (← x)))) {cv : Value} {w' : World} (hx : x.run P w = .ok cv w') : (execOp ρ o).run P w = .ok (.value cv) w' := by
  simp only [execOp, ho, resolve, hc, Sem.run_bind, Sem.run_pure, Result.andThen_ok, invoke, hb, hx]

theorem array_1 {α : Type} {l : Array α} {a : α} (h : l.toList = [a]) : l = #[a] := Array.ext' h
theorem array_2 {α : Type} {l : Array α} {a b : α} (h : l.toList = [a, b]) : l = #[a, b] := Array.ext' h

theorem snd_append {c : Call} (ho : o.op = .call c) (hc : c.callee = .builtin .append) (hp : prepOp P o = some p) (h : HR P R μ s w) (hρ : EvR μ ev ρ) (hx : xop p ev s = some (v, s')) (hR : s'.next ≤ R) : Snd P R μ s w (execOp ρ o) v s' := by
  simp only [prepOp, ho, hc, prepBuiltin] at hp
  split at hp
  case h_2 => cases hp
  rename_i args hargs
  unfold prepAppend at hp
  split at hp
  case h_2 => cases hp
  rename_i st xt a x e2
  split at hp
  case h_2 => cases hp
  rename_i e hst
  split at hp
  case h_1 => cases hp
  rename_i d hxt
  split at hp
  case h_2 => cases hp
  rename_i sz by' z hsz hb hz
  split at hp <;> cases hp
  rename_i hcond
  simp only [Bool.and_eq_true, decide_eq_true_eq, beq_iff_eq] at hcond
  obtain ⟨⟨hs1, hzl⟩, hb1⟩ := hcond
  obtain ⟨ox, oy, harr, ha, hxx⟩ := prepXs_2 hargs
  obtain ⟨zv, hzr, hzc⟩ := zeroB_some hz
  have hzs : zv.cells.size = sz := by have := concs_length (hzc μ); simp at this; omega
  have fin : ∀ {cv : Value} {w' : World}, (Builtin.append_ #[st, xt] o.type #[ρ ox, ρ oy]).run P w = .ok cv w' → (execOp ρ o).run P w = .ok (.value cv) w' := fun hrun =>
    run_builtin ho hc _ (fun _ => by
      rw [array_2 e2, harr]
      simp only [List.map_toArray, List.map_cons, List.map_nil]
      rfl) hrun
  cases hid : isIntD d with
  | false =>
    rw [hid] at hx
    have hnx : ∀ k, d ≠ .int k := by intro k e; subst e; cases hid
    simp only [Bool.false_eq_true, if_false, xop] at hx
    split at hx
    case h_2 => cases hx
    rename_i av xv hav hxv
    split at hx
    case h_2 => cases hx
    rename_i n l hsrc
    split at hx
    case isFalse => cases hx
    rename_i hl
    obtain ⟨xs, hxs, hA⟩ := appRuns_src (ty := o.type) hst hxt hnx hsz hb hb1 h hsrc hl (hρ _ _ _ hxx hxv)
    obtain ⟨ν, cv, w', hrun, h1, h2, h3⟩ := appendA_snd (P := P) hs1 hzr hzs h hl (hρ _ _ _ ha hav) hxs hA hx hR
    exact ⟨ν, cv, w', .inl (fin hrun), h1, h2, h3⟩
  | true =>
    rw [hid] at hx
    obtain ⟨k, rfl⟩ : ∃ k, d = .int k := by cases d <;> first | exact ⟨_, rfl⟩ | cases hid
    simp only [if_true, xop] at hx
    split at hx
    case h_2 => cases hx
    rename_i av kk m hav hxv
    split at hx
    case isFalse => cases hx
    rename_i hm
    obtain ⟨m0, m1, m2⟩ := hm
    have hcy := conc_int (hρ _ _ _ hxx hxv)
    have hl : (List.replicate m.toNat z).flatten.length = m.toNat * sz := by simp [hzl]
    have hA := appRuns_zeros (P := P) (w := w) (ty := o.type) (k' := kk) hst hxt hsz hb hb1 hzr hzs m0 m1 m2
    rw [← hcy] at hA
    obtain ⟨ν, cv, w', hrun, h1, h2, h3⟩ := appendA_snd (P := P) hs1 hzr hzs h hl (hρ _ _ _ ha hav) (concs_rep (hzc μ) _) hA hx hR
    exact ⟨ν, cv, w', .inl (fin hrun), h1, h2, h3⟩

theorem srcA_length {esz n : Nat} {x : AV} {l : List AV} (hs : srcA s esz x = some (n, l)) : l.length = n * esz := by
  unfold srcA at hs
  split at hs
  · cases hs; simp
  · cases hs; simp
  · cases hs; simp
  · split at hs <;> cases hs
    rename_i hla
    obtain ⟨vs, _, _, _, _, hle, rfl⟩ := loadA_some hla
    simp; omega
  · split at hs <;> cases hs
    rename_i he
    subst he
    rw [List.length_map, Array.length_toList, Nat.mul_one]
    rfl
  · cases hs

theorem snd_copy {c : Call} (ho : o.op = .call c) (hc : c.callee = .builtin .copy) (hp : prepOp P o = some p) (h : HR P R μ s w) (hρ : EvR μ ev ρ) (hx : xop p ev s = some (v, s')) (hR : s'.next ≤ R) : Snd P R μ s w (execOp ρ o) v s' := by
  simp only [prepOp, ho, hc, prepBuiltin] at hp
  split at hp
  case h_2 => cases hp
  rename_i args hargs
  unfold prepCopy at hp
  split at hp
  case h_2 => cases hp
  rename_i dt xt a x e2
  split at hp
  case h_2 => cases hp
  rename_i e hdt
  split at hp <;> cases hp
  rename_i sz hsz
  obtain ⟨ox, oy, harr, ha, hxx⟩ := prepXs_2 hargs
  simp only [xop] at hx
  split at hx
  case h_2 => cases hx
  rename_i dv xv hdv hxv
  split at hx
  case h_1 => cases hx
  rename_i n l hsrc
  have hrun : ∀ {cv : Value} {w' : World}, (Builtin.copy_ #[dt, xt] o.type #[ρ ox, ρ oy]).run P w = .ok cv w' → (execOp ρ o).run P w = .ok (.value cv) w' := fun hr =>
    run_builtin ho hc _ (fun _ => by rw [array_2 e2, harr]; simp only [List.map_toArray, List.map_cons, List.map_nil]; rfl) hr
  have hll := srcA_length hsrc
  obtain ⟨hlen, xs, hxs, hfc⟩ := run_src (P := P) h hsrc hll (hρ _ _ _ hxx hxv)
  split at hx
  case h_4 => cases hx
  · cases hx
    have hr : ρ ox = .slice none 0 0 := by simpa [conc] using (hρ _ _ _ ha hdv).symm
    refine Snd.pure h hR (c := .int .i64 0) (hrun ?_) rfl
    have := hfc 0 (Nat.zero_le _)
    simp [Builtin.copy_, run_und hdt, hr, hlen, run_size hsz, this, goInt]
  · cases hx
    obtain ⟨q, hq, hr⟩ := conc_tail (hρ _ _ _ ha hdv)
    refine Snd.pure h hR (c := .int .i64 0) (hrun ?_) rfl
    have := hfc 0 (Nat.zero_le _)
    simp [Builtin.copy_, run_und hdt, hr, hlen, run_size hsz, this, goInt, storeCells]
  · rename_i b of len cap lo
    obtain ⟨q, hq, hr⟩ := conc_slice (hρ _ _ _ ha hdv)
    have hmin : Nat.min n len = min n len := rfl
    have hf := hfc (min n len) (Nat.min_le_left _ _)
    split at hx
    · rename_i hm
      cases hx
      refine Snd.pure h hR (c := .int .i64 0) (hrun ?_) rfl
      rw [hm] at hf
      simp only [Nat.zero_mul, List.take_zero] at hf
      simp [Builtin.copy_, run_und hdt, hr, hlen, run_size hsz, hmin, hm, hf, goInt, storeCells]
    · split at hx <;> cases hx
      rename_i hst
      obtain ⟨w', hrs, h1, h2⟩ := run_storeA h hR hst hq (concs_take hxs (min n len * sz))
      refine ⟨μ, .int .i64 (min n len : Nat), w', .inl (hrun ?_), rfl, h1, h2⟩
      simp [Builtin.copy_, run_und hdt, hr, hlen, run_size hsz, hmin, hf, goInt, hrs]

theorem snd_len {c : Call} (ho : o.op = .call c) (hc : c.callee = .builtin .len) (hp : prepOp P o = some p) (h : HR P R μ s w) (hρ : EvR μ ev ρ) (hx : xop p ev s = some (v, s')) (hR : s'.next ≤ R) : Snd P R μ s w (execOp ρ o) v s' := by
  simp only [prepOp, ho, hc, prepBuiltin] at hp
  split at hp
  case h_2 => cases hp
  rename_i args hargs
  unfold prepLen at hp
  split at hp
  case h_2 => cases hp
  rename_i t x e2
  obtain ⟨ox, harr, ha⟩ := prepXs_1 hargs
  have hrun : ∀ {cv : Value} {w' : World}, (Builtin.len_ #[t] o.type #[ρ ox]).run P w = .ok cv w' → (execOp ρ o).run P w = .ok (.value cv) w' := fun hr =>
    run_builtin ho hc _ (fun _ => by rw [array_1 e2, harr]; simp only [List.map_toArray, List.map_cons, List.map_nil]; rfl) hr
  split at hp
  case h_6 => cases hp
  · rename_i n e hu
    cases hp
    simp only [xop, Option.some.injEq, Prod.mk.injEq] at hx
    obtain ⟨rfl, rfl⟩ := hx
    refine Snd.pure h hR (c := .int .i64 n) (hrun ?_) rfl
    simp [Builtin.len_, run_und hu, goInt]
  · rename_i e hu
    split at hp <;> cases hp
    rename_i n e' hue
    simp only [xop, Option.some.injEq, Prod.mk.injEq] at hx
    obtain ⟨rfl, rfl⟩ := hx
    refine Snd.pure h hR (c := .int .i64 n) (hrun ?_) rfl
    simp [Builtin.len_, run_und hu, run_und hue, goInt]
  · rename_i hu
    cases hp
    simp only [xop] at hx
    split at hx <;> cases hx
    rename_i z hv
    have hr := conc_str (hρ _ _ _ ha hv)
    refine Snd.pure h hR (c := .int .i64 z.size) (hrun ?_) rfl
    simp [Builtin.len_, run_und hu, hr, goInt]
  · rename_i e hu
    cases hp
    simp only [xop] at hx
    split at hx <;> cases hx
    · rename_i hv
      have hr : ρ ox = .slice none 0 0 := by simpa [conc] using (hρ _ _ _ ha hv).symm
      refine Snd.pure h hR (c := .int .i64 0) (hrun ?_) rfl
      simp [Builtin.len_, run_und hu, hr, goInt]
    · rename_i hv
      obtain ⟨q, hq, hr⟩ := conc_tail (hρ _ _ _ ha hv)
      refine Snd.pure h hR (c := .int .i64 0) (hrun ?_) rfl
      simp [Builtin.len_, run_und hu, hr, goInt]
    · rename_i n _ _ hv
      obtain ⟨q, hq, hr⟩ := conc_slice (hρ _ _ _ ha hv)
      refine Snd.pure h hR (c := .int .i64 n) (hrun ?_) rfl
      simp [Builtin.len_, run_und hu, hr, goInt]
    · rename_i a n m hv
      have hr : ρ ox = .slice a n m := by simpa [conc] using (hρ _ _ _ ha hv).symm
      refine Snd.pure h hR (c := .int .i64 n) (hrun ?_) rfl
      simp [Builtin.len_, run_und hu, hr, goInt]
  · rename_i e f hu
    cases hp
    simp only [xop] at hx
    split at hx
    case h_3 => cases hx
    · rename_i hv
      cases hx
      have hr : ρ ox = .map none := by simpa [conc] using (hρ _ _ _ ha hv).symm
      refine Snd.pure h hR (c := .int .i64 0) (hrun ?_) rfl
      simp [Builtin.len_, run_und hu, hr, goInt]
    · rename_i r hv
      split at hx <;> cases hx
      rename_i es cl hg
      obtain ⟨q, hq, hr⟩ := conc_map (hρ _ _ _ ha hv)
      obtain ⟨ces, hh, he⟩ := h.mapAt hg hq
      refine Snd.pure h hR (c := .int .i64 es.length) (hrun ?_) rfl
      have := entriesR_length he
      simp at this
      simp [Builtin.len_, run_und hu, hr, goInt, run_getMap hh, this]

theorem snd_cap {c : Call} (ho : o.op = .call c) (hc : c.callee = .builtin .cap) (hp : prepOp P o = some p) (h : HR P R μ s w) (hρ : EvR μ ev ρ) (hx : xop p ev s = some (v, s')) (hR : s'.next ≤ R) : Snd P R μ s w (execOp ρ o) v s' := by
  simp only [prepOp, ho, hc, prepBuiltin] at hp
  split at hp
  case h_2 => cases hp
  rename_i args hargs
  unfold prepCap at hp
  split at hp
  case h_2 => cases hp
  rename_i t x e2
  obtain ⟨ox, harr, ha⟩ := prepXs_1 hargs
  have hrun : ∀ {cv : Value} {w' : World}, (Builtin.cap_ #[t] o.type #[ρ ox]).run P w = .ok cv w' → (execOp ρ o).run P w = .ok (.value cv) w' := fun hr =>
    run_builtin ho hc _ (fun _ => by rw [array_1 e2, harr]; simp only [List.map_toArray, List.map_cons, List.map_nil]; rfl) hr
  split at hp <;> cases hp
  rename_i e hu
  simp only [xop] at hx
  split at hx <;> cases hx
  · rename_i hv
    have hr : ρ ox = .slice none 0 0 := by simpa [conc] using (hρ _ _ _ ha hv).symm
    refine Snd.pure h hR (c := .int .i64 0) (hrun ?_) rfl
    simp [Builtin.cap_, run_und hu, hr, goInt]
  · rename_i n hv
    obtain ⟨q, hq, hr⟩ := conc_slice (hρ _ _ _ ha hv)
    refine Snd.pure h hR (c := .int .i64 n) (hrun ?_) rfl
    simp [Builtin.cap_, run_und hu, hr, goInt]

theorem foldMM_run (mx : Bool) : ∀ {l : List AV} {a v : AV} (_ : foldMM mx a l = some v) {xs : List Value} {x : Value} (_ : concs μ l = some xs) (_ : conc μ a = some x) (w : World),
    ∃ c, conc μ v = some c ∧ (xs.foldlM (if mx then Builtin.max2 else Builtin.min2) x).run P w = .ok c w
  | [], a, v, h, xs, x, hx, ha, w => by
    simp only [foldMM, Option.some.injEq] at h
    subst h
    simp only [concs, Option.some.injEq] at hx
    subst hx
    exact ⟨x, ha, rfl⟩
  | b :: l, a, v, h, xs, x, hx, ha, w => by
    simp only [concs, Option.bind_eq_some_iff, Option.map_eq_some_iff] at hx
    obtain ⟨y, hy, z, hz, rfl⟩ := hx
    unfold foldMM at h
    split at h
    · rename_i e; cases e
    · rename_i k m k' n r e
      cases e
      have := conc_int ha; subst this
      have := conc_int hy; subst this
      obtain ⟨c, h1, h2⟩ := foldMM_run mx h hz rfl w
      refine ⟨c, h1, ?_⟩
      cases mx
      · simp only [List.foldlM_cons, Bool.false_eq_true, if_false, Builtin.min2, Sem.run_bind, Sem.run_pure, Result.andThen_ok] at h2 ⊢
        exact h2
      · simp only [List.foldlM_cons, if_true, Builtin.max2, Sem.run_bind, Sem.run_pure, Result.andThen_ok] at h2 ⊢
        exact h2
    · cases h

theorem snd_minmax {c : Call} {mx : Bool} (ho : o.op = .call c) (hc : c.callee = .builtin (if mx then .max else .min)) (hp : prepOp P o = some p) (h : HR P R μ s w) (hρ : EvR μ ev ρ) (hx : xop p ev s = some (v, s')) (hR : s'.next ≤ R) : Snd P R μ s w (execOp ρ o) v s' := by
  have hp' : ∃ args, prepXs c.args.toList = some args ∧ p = .minmax mx args := by
    cases mx
    all_goals
      simp only [prepOp, ho, hc, prepBuiltin, Bool.false_eq_true, if_false, if_true] at hp
      split at hp <;> cases hp
      exact ⟨_, by assumption, rfl⟩
  obtain ⟨args, hargs, rfl⟩ := hp'
  simp only [xop] at hx
  split at hx
  case h_2 => cases hx
  rename_i a l hl
  have hf : foldMM mx a l = some v ∧ s = s' := pure'_some hx
  obtain ⟨hf, rfl⟩ := hf
  have hcs := evs_conc hargs hρ hl
  simp only [concs, Option.bind_eq_some_iff, Option.map_eq_some_iff] at hcs
  obtain ⟨y, hy, z, hz, heq⟩ := hcs
  obtain ⟨cv, h1, h2⟩ := foldMM_run (P := P) mx hf hz hy w
  refine Snd.pure h hR (c := cv) ?_ h1
  have hargs' : (c.args.map ρ).toList = y :: z := by rw [Array.toList_map]; exact heq.symm
  cases mx
  · exact run_builtin ho hc (Builtin.min_ c.argTypes o.type (c.args.map ρ)) (fun _ => rfl) (by rw [Builtin.min_, hargs']; exact h2)
  · exact run_builtin ho hc (Builtin.max_ c.argTypes o.type (c.args.map ρ)) (fun _ => rfl) (by rw [Builtin.max_, hargs']; exact h2)

theorem snd_delete {c : Call} (ho : o.op = .call c) (hc : c.callee = .builtin .delete) (hp : prepOp P o = some p) (h : HR P R μ s w) (hρ : EvR μ ev ρ) (hx : xop p ev s = some (v, s')) (hR : s'.next ≤ R) : Snd P R μ s w (execOp ρ o) v s' := by
  simp only [prepOp, ho, hc, prepBuiltin] at hp
  split at hp
  case h_2 => cases hp
  rename_i args hargs
  unfold prepDelete at hp
  split at hp
  case h_2 => cases hp
  rename_i t t2 x y e2
  obtain ⟨ox, oy, harr, ha, hb⟩ := prepXs_2 hargs
  have hrun : ∀ {cv : Value} {w' : World}, (Builtin.delete_ #[t, t2] o.type #[ρ ox, ρ oy]).run P w = .ok cv w' → (execOp ρ o).run P w = .ok (.value cv) w' := fun hr =>
    run_builtin ho hc _ (fun _ => by rw [array_2 e2, harr]; simp only [List.map_toArray, List.map_cons, List.map_nil]; rfl) hr
  split at hp
  case h_2 => cases hp
  rename_i kt e hu
  split at hp <;> cases hp
  rename_i hkt
  obtain ⟨k0, hkt⟩ := isIntKey_some hkt
  simp only [xop] at hx
  split at hx
  case h_3 => cases hx
  · rename_i kk a hmv hkv
    cases hx
    have hr : ρ ox = .map none := by simpa [conc] using (hρ _ _ _ ha hmv).symm
    refine Snd.pure h hR (c := .tuple #[]) (hrun ?_) rfl
    simp [Builtin.delete_, run_und hu, hr, run_checkKey hkt]
  · rename_i r kk a hmv hkv
    split at hx
    case h_2 => cases hx
    rename_i es cl hg
    obtain ⟨q, hq, hr⟩ := conc_map (hρ _ _ _ ha hmv)
    have hri := conc_int (hρ _ _ _ hb hkv)
    obtain ⟨ces, hh, he⟩ := h.mapAt hg hq
    split at hx <;> cases hx
    · rename_i j v' hf
      obtain ⟨cr, hrf, hcr⟩ := run_findKey hkt he hf w
      cases cr with
      | none => exact hcr.elim
      | some jc =>
        obtain ⟨j', c'⟩ := jc
        obtain ⟨rfl, _, ee, hee, _⟩ := hcr
        obtain ⟨h1, h2⟩ := setObj_turn (cl' := cl) h hR hg hq (es' := es.eraseIdx j) (ces' := ces.eraseIdxIfInBounds j) (by
          have hlt : j < ces.size := by have := (List.getElem?_eq_some_iff.1 hee).1; simpa using this
          rw [Array.eraseIdxIfInBounds, dif_pos hlt, Array.toList_eraseIdx]
          exact entriesR_erase he j)
        refine ⟨μ, .tuple #[], _, .inl (hrun ?_), rfl, h1, h2⟩
        simp [Builtin.delete_, run_und hu, hr, run_getMap hh, run_checkKey hkt, hri, hrf, run_setMap hh]
    · rename_i hf
      obtain ⟨cr, hrf, hcr⟩ := run_findKey hkt he hf w
      cases cr with
      | some _ => exact hcr.elim
      | none =>
        refine Snd.pure h hR (c := .tuple #[]) (hrun ?_) rfl
        have hlt := (Array.getElem?_eq_some_iff.1 hh)
        have hsame : w.heap.setIfInBounds q.1 (.map ces cl) = w.heap := by
          obtain ⟨hlt, hval⟩ := hlt
          apply Array.ext (by simp)
          intro i h1 h2
          rw [Array.getElem_setIfInBounds]
          split
          · rename_i e; subst e; exact hval.symm
          · rfl
        simp [Builtin.delete_, run_und hu, hr, run_getMap hh, run_checkKey hkt, hri, hrf, run_setMap hh, hsame]

theorem snd_clear {c : Call} (ho : o.op = .call c) (hc : c.callee = .builtin .clear) (hp : prepOp P o = some p) (h : HR P R μ s w) (hρ : EvR μ ev ρ) (hx : xop p ev s = some (v, s')) (hR : s'.next ≤ R) : Snd P R μ s w (execOp ρ o) v s' := by
  simp only [prepOp, ho, hc, prepBuiltin] at hp
  split at hp
  case h_2 => cases hp
  rename_i args hargs
  unfold prepClear at hp
  split at hp
  case h_2 => cases hp
  rename_i t x e2
  obtain ⟨ox, harr, ha⟩ := prepXs_1 hargs
  have hrun : ∀ {cv : Value} {w' : World}, (Builtin.clear_ #[t] o.type #[ρ ox]).run P w = .ok cv w' → (execOp ρ o).run P w = .ok (.value cv) w' := fun hr =>
    run_builtin ho hc _ (fun _ => by rw [array_1 e2, harr]; simp only [List.map_toArray, List.map_cons, List.map_nil]; rfl) hr
  split at hp
  case h_3 => cases hp
  · rename_i e hu
    split at hp <;> cases hp
    rename_i z hz
    obtain ⟨zv, hzr, hzc⟩ := zeroB_some hz
    simp only [xop] at hx
    split at hx
    case h_4 => cases hx
    · rename_i hv
      cases hx
      have hr : ρ ox = .slice none 0 0 := by simpa [conc] using (hρ _ _ _ ha hv).symm
      refine Snd.pure h hR (c := .tuple #[]) (hrun ?_) rfl
      simp [Builtin.clear_, run_und hu, hr]
    · rename_i hv
      cases hx
      obtain ⟨q, hq, hr⟩ := conc_tail (hρ _ _ _ ha hv)
      refine Snd.pure h hR (c := .tuple #[]) (hrun ?_) rfl
      simp [Builtin.clear_, run_und hu, hr]
    · rename_i b of n _ _ hv
      obtain ⟨q, hq, hr⟩ := conc_slice (hρ _ _ _ ha hv)
      split at hx
      · rename_i hn
        cases hx
        refine Snd.pure h hR (c := .tuple #[]) (hrun ?_) rfl
        simp [Builtin.clear_, run_und hu, hr, hn]
      · rename_i hn
        split at hx <;> cases hx
        rename_i hst
        obtain ⟨w', hrs, h1, h2⟩ := run_storeA h hR hst hq (concs_rep (hzc μ) n)
        refine ⟨μ, .tuple #[], w', .inl (hrun ?_), rfl, h1, h2⟩
        have hzz : (Builtin.zeroCells zv.cells n).toList = (List.replicate n zv.cells.toList).flatten := by
          have := range_mod_flatten zv.cells n
          unfold Builtin.zeroCells
          rw [this]
        obtain ⟨n', rfl⟩ : ∃ m, n = m + 1 := ⟨n - 1, by omega⟩
        simp [Builtin.clear_, run_und hu, hr, hzr, hzz, hrs]
  · rename_i e f hu
    cases hp
    simp only [xop] at hx
    split at hx
    case h_3 => cases hx
    · rename_i hv
      cases hx
      have hr : ρ ox = .map none := by simpa [conc] using (hρ _ _ _ ha hv).symm
      refine Snd.pure h hR (c := .tuple #[]) (hrun ?_) rfl
      simp [Builtin.clear_, run_und hu, hr]
    · rename_i r hv
      split at hx <;> cases hx
      rename_i es cl hg
      obtain ⟨q, hq, hr⟩ := conc_map (hρ _ _ _ ha hv)
      obtain ⟨ces, hh, he⟩ := h.mapAt hg hq
      obtain ⟨h1, h2⟩ := setObj_turn (cl' := cl) h hR hg hq (es' := []) (ces' := #[]) trivial
      refine ⟨μ, .tuple #[], _, .inl (hrun ?_), rfl, h1, h2⟩
      simp [Builtin.clear_, run_und hu, hr, run_getMap hh, run_setMap hh]

theorem snd_makeSlice {t : TypeId} {x y : Operand} (ho : o.op = .makeSlice t x y) (hp : prepOp P o = some p) (h : HR P R μ s w) (hρ : EvR μ ev ρ) (hx : xop p ev s = some (v, s')) (hR : s'.next ≤ R) : Snd P R μ s w (execOp ρ o) v s' := by
  simp only [prepOp, ho] at hp
  split at hp
  case h_2 => cases hp
  rename_i e hu
  split at hp
  case h_2 => cases hp
  rename_i sz b z l c hsz hb hz hl hc
  split at hp <;> cases hp
  rename_i hzl
  simp only [beq_iff_eq] at hzl
  obtain ⟨zv, hzr, hzc⟩ := zeroB_some hz
  have hzs : zv.cells.size = sz := by have := concs_length (hzc μ); simp at this; omega
  simp only [xop] at hx
  split at hx
  case h_2 => cases hx
  rename_i kl nl kc nc hlv hcv
  split at hx
  case isFalse => cases hx
  rename_i hcond
  obtain ⟨h0, h1, h2, h3⟩ := hcond
  simp only [newA, Option.some.injEq, Prod.mk.injEq] at hx
  obtain ⟨rfl, rfl⟩ := hx
  have hr1 := conc_int (hρ _ _ _ hl hlv)
  have hr2 := conc_int (hρ _ _ _ hc hcv)
  refine snd_new (c := (List.replicate nc.toNat zv.cells.toList).flatten.toArray) (elem := e) (fz := (0, 0)) (e := 0) (d := w.drawn) (rest := []) (cv := .slice (some ⟨w.heap.size, 0, none⟩) nl.toNat nc.toNat) h hR (xs := (List.replicate nc.toNat zv.cells.toList).flatten) (fun ν _ => concs_rep (hzc ν) _) (by simp) (by simp) (fun _ => rfl) (by intro i _; simp) ?_ (by simp [conc, Place.add])
  unfold bytesB at hb
  simp only [Option.map_eq_some_iff] at hb
  obtain ⟨i, hi, hib⟩ := hb
  have w1 : IntKind.i64.wrap nl = nl := by
    simp [IntKind.wrap, IntKind.signed, IntKind.bits]; omega
  have w2 : IntKind.i64.wrap nc = nc := by
    simp [IntKind.wrap, IntKind.signed, IntKind.bits]; omega
  have hbig : ¬ ((i.bytes : Int) * nc > 2 ^ 48) := by rw [hib]; omega
  have hn1 : ¬ (nc < 0) := by omega
  have hn2 : ¬ (nl < 0) := by omega
  have hn3 : ¬ (nl > nc) := by omega
  have hrm := range_mod_flatten zv.cells nc.toNat
  rw [hzs] at hrm
  simp only [execOp, ho, Instr.makeSlice, Sem.run_bind, run_und hu, Result.andThen_ok, hr1, hr2, asInt, asIntOf, Sem.run_pure, run_info hi, w1, w2, hbig, hn1, hn2, hn3, decide_false, Bool.or_self, Bool.false_eq_true, if_false, run_askRoom, run_size hsz]
  by_cases hz0 : nc.toNat * sz = 0
  · have hz0' : Array.range 0 = #[] := by simp
    have he : (List.replicate nc.toNat zv.cells.toList).flatten.toArray = #[] := by rw [← hrm, hz0]; simp
    simp only [hz0, if_true, hz0', List.map_toArray, List.map_nil, he]
    simp [newRow]
  · simp only [if_neg hz0, Sem.run_bind, hzr, Result.andThen_ok, Sem.run_pure, hzs, hrm]
    simp [newRow]
end Go.Proofs.Ytjejgnbdlfkenaa.D
namespace Go.Proofs.Ytjejgnbdlfkenaa.D
variable {P : Program} {R : Nat} {μ : Place} {s : St} {w : World} {ev : Ev} {ρ : Operand → Value} {o : Oper} {p : POp} {v : AV} {s' : St}

theorem xop_sound (hp : prepOp P o = some p) (h : HR P R μ s w) (hρ : EvR μ ev ρ) (hx : xop p ev s = some (v, s')) (hR : s'.next ≤ R) : Snd P R μ s w (execOp ρ o) v s' := by
  cases ho : o.op with
  | move x => exact snd_move (.inl ho) hp h hρ hx hR
  | assign x => exact snd_move (.inr ho) hp h hρ hx hR
  | pick => exact snd_pick ho hp h hρ hx hR
  | alloc => exact snd_alloc ho hp h hρ hx hR
  | box => exact snd_box ho hp h hρ hx hR
  | build => exact snd_build ho hp h hρ hx hR
  | buildSlice => exact snd_buildSlice ho hp h hρ hx hR
  | load => exact snd_load ho hp h hρ hx hR
  | store => exact snd_store ho hp h hρ hx hR
  | nilCheck => exact snd_nilCheck ho hp h hρ hx hR
  | binOp => exact snd_bin ho hp h hρ hx hR
  | unOp => exact snd_un ho hp h hρ hx hR
  | convert => exact snd_convert ho hp h hρ hx hR
  | makeInterface => exact snd_mkIface ho hp h hρ hx hR
  | makeFunc => exact snd_mkFunc ho hp h hρ hx hR
  | makeMap t n =>
    cases n with
    | none => exact snd_makeMap ho hp h hρ hx hR
    | some n => unfold prepOp at hp; rw [ho] at hp; cases hp
  | makeSlice => exact snd_makeSlice ho hp h hρ hx hR
  | slice => exact snd_slice ho hp h hρ hx hR
  | fieldAddr => exact snd_fieldAddr ho hp h hρ hx hR
  | field => exact snd_field ho hp h hρ hx hR
  | indexAddr => exact snd_indexAddr ho hp h hρ hx hR
  | index => exact snd_index ho hp h hρ hx hR
  | lookup => exact snd_lookup ho hp h hρ hx hR
  | mapUpdate => exact snd_mapUpdate ho hp h hρ hx hR
  | extract => exact snd_extract ho hp h hρ hx hR
  | range => exact snd_range ho hp h hρ hx hR
  | next x b =>
    unfold prepOp at hp; rw [ho] at hp
    cases b with
    | true => cases hp
    | false => exact snd_next ho (by unfold prepOp; rw [ho]; exact hp) h hρ hx hR
  | entry => exact snd_entry ho hp h hρ hx hR
  | call c =>
    cases hc : c.callee with
    | value f =>
      unfold prepOp at hp
      rw [ho] at hp
      simp only [hc] at hp
      split at hp
      · simp only [Option.map_eq_some_iff] at hp
        obtain ⟨x, _, rfl⟩ := hp
        cases hx
      · cases hp
    | builtin b =>
      cases b with
      | append => exact snd_append ho hc hp h hρ hx hR
      | copy => exact snd_copy ho hc hp h hρ hx hR
      | len => exact snd_len ho hc hp h hρ hx hR
      | cap => exact snd_cap ho hc hp h hρ hx hR
      | min => exact snd_minmax (mx := false) ho hc hp h hρ hx hR
      | max => exact snd_minmax (mx := true) ho hc hp h hρ hx hR
      | clear => exact snd_clear ho hc hp h hρ hx hR
      | delete => exact snd_delete ho hc hp h hρ hx hR
      | _ => unfold prepOp at hp; rw [ho] at hp; simp only [hc] at hp; split at hp <;> cases hp
    | invoke _ _ => unfold prepOp at hp; rw [ho] at hp; simp only [hc] at hp; cases hp
  | _ => unfold prepOp at hp; rw [ho] at hp; cases hp
end Go.Proofs.Ytjejgnbdlfkenaa.D
namespace Go.Proofs.Ytjejgnbdlfkenaa.D
noncomputable section

/-- Are two values that were left unread the same? -/
def sameV : Value → Value → Bool
  | .slice a n c, .slice b m d => decide (a = b ∧ n = m ∧ c = d)
  | _, _ => false
theorem sameV_eq : ∀ {v w : Value}, sameV v w = true → v = w
  | .slice .., w, h => by
    cases w <;> simp [sameV] at h
    obtain ⟨rfl, rfl, rfl⟩ := h
    rfl
  | .bool _, _, h | .int .., _, h | .string _, _, h | .pointer _, _, h | .map _, _, h | .func .., _, h | .nilFunc, _, h | .iface .., _, h | .nilIface, _, h | .agg _, _, h | .tuple _, _, h => by simp [sameV] at h
mutual
/-- Are two values the same? -/
def same : AV → AV → Bool
  | .bool a, .bool b => a == b
  | .int k a, .int l b => decide (k = l) && decide (a = b)
  | .str a, .str b => decide (a.data.toList = b.data.toList)
  | .ptr a b, .ptr c d => Nat.beq a c && Nat.beq b d
  | .nilPtr, .nilPtr => true
  | .slice a b c d e, .slice a' b' c' d' e' => Nat.beq a a' && Nat.beq b b' && Nat.beq c c' && Nat.beq d d' && (e == e')
  | .nilSlice, .nilSlice => true
  | .tail a b c, .tail a' b' c' => Nat.beq a a' && Nat.beq b b' && Nat.beq c c'
  | .map a, .map b => Nat.beq a b
  | .nilMap, .nilMap => true
  | .nilFn, .nilFn => true
  | .nilIface, .nilIface => true
  | .iface t v, .iface u w => Nat.beq t u && same v w
  | .agg l, .agg m => sames l m
  | .tup l, .tup m => sames l m
  | .raw v, .raw w => sameV v w
  | _, _ => false
def sames : List AV → List AV → Bool
  | [], [] => true
  | x :: l, y :: m => same x y && sames l m
  | _, _ => false
end

def evOf (ts : Tr AV) : Ev
  | .t n => ts.get n
  | .c v => some v

def putT (d : Option Nat) (v : AV) (ts : Tr AV) : Tr AV :=
  match d with
  | some t => ts.set t v
  | none => ts

abbrev Res := Option (AExit × Tr AV × List Nat × St)

structure Eng where
  call : Nat → List AV → St → Option (AV × St)
  ex : Option Nat → PC → Tr AV → List Nat → St → Res

def setTs : List Nat → List AV → Tr AV → Tr AV
  | p :: ps, a :: asg, ts => setTs ps asg (ts.set p a)
  | _, _, ts => ts

def initT : Nat → List AV → Tr AV → Tr AV
  | i, a :: asg, ts => initT (i + 1) asg (ts.set i a)
  | _, [], ts => ts

/-- A call of yield: a round of a loop over a function. -/
def roundA (e : Eng) (r : Nat) (args : List AV) (s : St) : Option (AV × St) :=
  match s.get r with
  | some (.loop .ready _ ts params assign body _) =>
    if args.length = params.length then
      match e.ex (some r) assign (setTs params args ts) [] s with
      | some (.normal, ts1, [], s1) => match s1.get r with
        | some (.loop .ready pe ts2 ps2 a2 b2 d2) =>
          match e.ex (some r) body ts1 [] (s1.put r (.loop .busy pe ts2 ps2 a2 b2 d2)) with
          | some (x, _, [], s3) => match s3.get r with
            | some (.loop _ _ ts3 ps3 a3 b3 d3) =>
              match x with
              | .normal => some (.bool true, s3.put r (.loop .ready .normal ts3 ps3 a3 b3 d3))
              | x => some (.bool false, s3.put r (.loop .done x ts3 ps3 a3 b3 d3))
            | _ => none
          | _ => none
        | _ => none
      | _ => none
    else none
  | _ => none

def callV (e : Eng) (f : AV) (args : List AV) (s : St) : Option (AV × St) :=
  match f with
  | .fn (.func f) first captured => e.call f (first ++ args ++ captured) s
  | .yld r => roundA e r args s
  | _ => none

/-- Is an operation carried out, by its test? -/
def wantedA (g : Option (Nat × Bool)) (ts : Tr AV) : Option Bool :=
  match g with
  | none => some true
  | some (t, b) => match ts.get t with
    | some (.bool x) => some (x == b)
    | some (.tup []) => some false
    | _ => none

def opVal (e : Eng) (p : POp) (ev : Ev) (s : St) : Option (AV × St) :=
  match p with
  | .call f args => match ev f with
    | none => none
    | some fv => match evs ev args with
      | none => none
      | some l => callV e fv l s
  | p => xop p ev s

def opStep (e : Eng) (p : PO) (ts : Tr AV) (s : St) : Option (Tr AV × St) :=
  match wantedA p.guard ts with
  | none => none
  | some false => some (putT p.dst undefA ts, s)
  | some true => match opVal e p.op (evOf ts) s with
    | none => none
    | some (v, s') => some (putT p.dst v ts, s')

def runOps (e : Eng) : List PO → Tr AV → St → Option (Tr AV × St)
  | [], ts, s => some (ts, s)
  | p :: r, ts, s => match opStep e p ts s with
    | none => none
    | some (ts', s') => runOps e r ts' s'

/-- The same, and what the memory was ahead of each of them, the last one first. -/
def runSnaps (e : Eng) : List PO → Tr AV → St → List St → Option (Tr AV × St × List St)
  | [], ts, s, acc => some (ts, s, s :: acc)
  | p :: r, ts, s, acc => match opStep e p ts s with
    | none => none
    | some (ts', s') => runSnaps e r ts' s' (s :: acc)

/-- What is looked at is the same at each of these moments. -/
def lookAll (p : PO) (ts : Tr AV) (snaps : List St) (v : AV) : List Nat → Bool
  | [] => true
  | c :: r => (match snaps[c]? with
      | some s => match xop p.op (evOf ts) s with
        | some (u, _) => same u v
        | none => false
      | none => false) && lookAll p ts snaps v r

def lookOk (ops : List PO) (ts : Tr AV) (snaps : List St) (l : Look) : Bool :=
  match ops[l.at_]? with
  | none => false
  | some p => match wantedA p.guard ts with
    | some false => true
    | some true => match p.dst with
      | none => false
      | some d => match ts.get d with
        | none => false
        | some v => lookAll p ts snaps v l.cs
    | none => false

def looksOk (ops : List PO) (ts : Tr AV) (snaps : List St) : List Look → Bool
  | [] => true
  | l :: r => lookOk ops ts snaps l && looksOk ops ts snaps r

def rangeA (e : Eng) (ro : Option Nat) (f : AV) (params : List Nat) (assign body : PC) (ts : Tr AV) (ds : List Nat) (s : St) : Res :=
  match f with
  | .fn (.func g) first captured =>
    match (match ro with
      | none => some ((s.new .defd).next, s.next :: ds, (s.new .defd).new (.loop .ready .normal ts params assign body s.next))
      | some l0 => match s.get l0 with
        | some (.loop _ _ _ _ _ _ d0) => some (s.next, ds, s.new (.loop .ready .normal ts params assign body d0))
        | _ => none) with
    | none => none
    | some (l, ds', s2) => match e.call g (first ++ [.yld l] ++ captured) s2 with
      | none => none
      | some (_, s3) => match s3.get l with
        | some (.loop .busy _ _ _ _ _ _) => none
        | some (.loop _ pend ts2 ps2 a2 b2 d2) => some (pend, ts, ds', s3.put l (.loop .exhausted pend ts2 ps2 a2 b2 d2))
        | _ => none
  | _ => none

def exStep (e : Eng) (ro : Option Nat) (c : PC) (ts : Tr AV) (ds : List Nat) (s : St) : Res :=
  match c with
  | .skip => some (.normal, ts, ds, s)
  | .region ops => match runOps e ops ts s with
    | some (ts', s') => some (.normal, ts', ds, s')
    | none => none
  | .drawn ops looks => match runSnaps e ops ts s [] with
    | some (ts', s', snaps) => if looksOk ops ts' snaps.reverse looks then some (.normal, ts', ds, s') else none
    | none => none
  | .seq a b => match e.ex ro a ts ds s with
    | some (.normal, ts', ds', s') => e.ex ro b ts' ds' s'
    | r => r
  | .cond x a b => match evOf ts x with
    | some (.bool true) => e.ex ro a ts ds s
    | some (.bool false) => e.ex ro b ts ds s
    | _ => none
  | .block id a => match e.ex ro a ts ds s with
    | some (.exit id', ts', ds', s') => some (if id' = id then .normal else .exit id', ts', ds', s')
    | r => r
  | .loop a => match e.ex ro a ts ds s with
    | some (.normal, ts', ds', s') => e.ex ro (.loop a) ts' ds' s'
    | r => r
  | .rangeF f params assign body => match evOf ts f with
    | some fv => rangeA e ro fv params assign body ts ds s
    | none => none
  | .exit id => some (.exit id, ts, ds, s)
  | .ret => some (.ret, ts, ds, s)

def takeAll : List Nat → St → Option St
  | [], s => some s
  | d :: r, s => match s.get d with
    | some .defd => takeAll r (s.drop d)
    | _ => none

def resA (ts : Tr AV) (s : St) : PRes → Option AV
  | .tmp t => ts.get t
  | .cell1 t => match ts.get t with
    | some (.ptr b o) => match s.get b with
      | some (.cells vs _ _ _) => vs[o]?
      | _ => none
    | _ => none
  | .cellN n t => match ts.get t with
    | some (.ptr b o) => match loadA s b o n with
      | some l => some (.agg l)
      | none => none
    | _ => none

def ressA (ts : Tr AV) (s : St) : List PRes → Option (List AV)
  | [] => some []
  | r :: l => match resA ts s r with
    | none => none
    | some v => match ressA ts s l with
      | none => none
      | some vs => some (v :: vs)

def oneA : List AV → AV
  | [v] => v
  | l => .tup l

abbrev Fns := Nat → Option FD
/-- What is known of functions by their contracts. -/
abbrev Sums := Nat → Option (List AV → St → Option (AV × St))

def finish (fd : FD) (r : Res) : Option (AV × St) :=
  match r with
  | some (.exit _, _, _, _) => none
  | some (_, ts, ds, s) => match takeAll ds s with
    | none => none
    | some s' => match ressA ts s' fd.results with
      | none => none
      | some l => some (oneA l, s')
  | none => none

def callStep (FT : Fns) (SM : Sums) (e : Eng) (f : Nat) (args : List AV) (s : St) : Option (AV × St) :=
  match SM f with
  | some g => g args s
  | none => match FT f with
    | none => none
    | some fd => if Nat.ble args.length fd.ntmps then finish fd (e.ex none fd.body (initT 0 args .lf) [] s) else none

/-- The machine, with so much at hand. -/
def eng (FT : Fns) (SM : Sums) : Nat → Eng
  | 0 => ⟨fun _ _ _ => none, fun _ _ _ _ _ => none⟩
  | n + 1 => ⟨callStep FT SM (eng FT SM n), exStep (eng FT SM n)⟩
end
end Go.Proofs.Ytjejgnbdlfkenaa.D
