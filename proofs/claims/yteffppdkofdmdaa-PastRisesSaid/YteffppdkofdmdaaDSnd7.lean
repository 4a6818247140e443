/- The operations of the abstract machine do what the model's do: two values held against one another. -/
import Derived.Test.YteffppdkofdmdaaDSnd6
import Derived.ChangeKeysEq
namespace Go.Proofs.Yteffppdkofdmdaa.D
variable {P : Program} {R : Nat} {μ : Place} {s : St} {w : World} {ev : Ev} {ρ : Operand → Value} {o : Oper} {p : POp} {v : AV} {s' : St}

theorem cellsEq_length : ∀ {ks : List Nat} {a b : List AV} {r : Bool}, cellsEq ks a b = some r → a.length = ks.length ∧ b.length = ks.length
  | [], [], [], _, _ => ⟨rfl, rfl⟩
  | k :: ks, x :: a, y :: b, r, h => by
    simp only [cellsEq] at h
    split at h
    · have := cellsEq_length h; simp; omega
    · split at h
      · rename_i hc; simp; omega
      · cases h
    · cases h
  | [], [], _ :: _, _, h => by simp [cellsEq] at h
  | [], _ :: _, _, _, h => by simp [cellsEq] at h
  | _ :: _, [], _, _, h => by simp [cellsEq] at h
  | _ :: _, _ :: _, [], _, h => by simp [cellsEq] at h

/-- Two rows of cells, part by part: what the first parts say, then what the others say. -/
theorem cellsEq_append : ∀ {k1 k2 : List Nat} {a b : List AV} {r : Bool}, cellsEq (k1 ++ k2) a b = some r →
    ∃ r1, cellsEq k1 (a.take k1.length) (b.take k1.length) = some r1 ∧ (r1 = false → r = false) ∧ (r1 = true → cellsEq k2 (a.drop k1.length) (b.drop k1.length) = some r)
  | [], k2, a, b, r, h => ⟨true, by simp [cellsEq], by simp, fun _ => by simpa using h⟩
  | k :: k1, k2, [], b, r, h => by simp [cellsEq] at h
  | k :: k1, k2, x :: a, [], r, h => by simp [cellsEq] at h
  | k :: k1, k2, x :: a, y :: b, r, h => by
    have hl := cellsEq_length h
    simp only [List.cons_append, cellsEq] at h
    split at h
    · rename_i hx
      obtain ⟨r1, h1, h2, h3⟩ := cellsEq_append h
      exact ⟨r1, by simp [cellsEq, hx, h1], h2, by simpa using h3⟩
    · rename_i hx
      split at h <;> cases h
      rename_i hc
      simp at hl hc
      exact ⟨false, by simp [cellsEq, hx]; omega, fun _ => rfl, by simp⟩
    · cases h

/-- A part of a value, as a value of its own. -/
def asValue (agg : Bool) (xs : List Value) : Value := if agg then .agg xs.toArray else xs.getD 0 undef

theorem run_part_is {t : TypeId} {b : Bool} {n : Nat} (hb : isAggB P t = some b) (hn : sizeB P t = some n) (h1 : b = false → n = 1) (xs : List Value) (off : Nat) (hle : off + n ≤ xs.length) (w : World) :
    (part t xs.toArray off).run P w = .ok (asValue b ((xs.drop off).take n)) w := by
  cases b with
  | true =>
    simp only [part, Sem.run_bind, run_isAgg hb, Result.andThen_ok, if_true, run_size hn, Sem.run_pure, asValue]
    simp
  | false =>
    have := h1 rfl
    subst this
    have hlt : off < xs.length := by omega
    simp [part, run_isAgg hb, asValue, hlt]

theorem flat_agg {d : Nat} {t : TypeId} {ks : List Nat} (h : flat P d t = some ks) : ∃ b, isAggB P t = some b ∧ (b = false → ∃ k, ks = [k]) := by
  cases d with
  | zero => simp [flat] at h
  | succ d =>
    unfold flat at h
    unfold isAggB
    split at h <;> first | (cases h; done) | skip
    all_goals rename_i hu
    all_goals simp only [hu]
    all_goals first
      | (refine ⟨false, rfl, fun _ => ?_⟩; simp only [Option.some.injEq] at h; exact ⟨_, h.symm⟩)
      | exact ⟨true, rfl, by simp⟩

/-- One part of a struct or an array, where the whole's cells are held against one another. -/
theorem step_flat {d D : Nat} (ih : ∀ (t : TypeId) (ks : List Nat), flat P d t = some ks → ∀ (b : Bool) (as bs : List AV) (xs ys : List Value) (r : Bool), isAggB P t = some b → concs μ as = some xs → concs μ bs = some ys → cellsEq ks as bs = some r → ∀ w,
      (Op.equalIn (d + D) t (asValue b xs) (asValue b ys)).run P w = .ok r w)
    {t : TypeId} {m k2 : List Nat} {n off : Nat} (hm : flat P d t = some m) (hn : sizeB P t = some n) (hnm : n = m.length)
    {as bs : List AV} {xs ys : List Value} {r : Bool} (hxs : concs μ as = some xs) (hys : concs μ bs = some ys) (hle1 : off + n ≤ as.length) (hle2 : off + n ≤ bs.length)
    (hr : cellsEq (m ++ k2) (as.drop off) (bs.drop off) = some r) (w : World) :
    ∃ (x y : Value) (r1 : Bool), (part t xs.toArray off).run P w = .ok x w ∧ (part t ys.toArray off).run P w = .ok y w ∧ (Op.equalIn (d + D) t x y).run P w = .ok r1 w ∧ (r1 = false → r = false) ∧
      (r1 = true → cellsEq k2 (as.drop (off + n)) (bs.drop (off + n)) = some r) := by
  obtain ⟨b, hb, hb1⟩ := flat_agg hm
  have hl1 := concs_length hxs
  have hl2 := concs_length hys
  have h1 : b = false → n = 1 := fun e => by obtain ⟨k, rfl⟩ := hb1 e; exact hnm
  obtain ⟨r1, e1, e2, e3⟩ := cellsEq_append hr
  rw [← hnm] at e1 e3
  refine ⟨_, _, r1, run_part_is hb hn h1 xs off (by omega) w, run_part_is hb hn h1 ys off (by omega) w, ih t m hm b _ _ _ _ r1 hb (concs_take (concs_drop hxs off) n) (concs_take (concs_drop hys off) n) e1 w, e2, fun e => ?_⟩
  have := e3 e
  rwa [List.drop_drop, List.drop_drop] at this

theorem equal_flat : ∀ (d D : Nat) (t : TypeId) (ks : List Nat), flat P d t = some ks → ∀ (b : Bool) (as bs : List AV) (xs ys : List Value) (r : Bool), isAggB P t = some b → concs μ as = some xs → concs μ bs = some ys →
    cellsEq ks as bs = some r → ∀ w, (Op.equalIn (d + D) t (asValue b xs) (asValue b ys)).run P w = .ok r w := by
  intro d
  induction d with
  | zero => intro D t ks h; simp [flat] at h
  | succ d ih =>
    intro D t ks h b as bs xs ys r hb hxs hys hr w
    have hD : d + 1 + D = (d + D) + 1 := by omega
    rw [hD]
    have leaf : ∀ k, ks = [k] → b = false → ∃ a c x y, leafEq k a c = some r ∧ conc μ a = some x ∧ conc μ c = some y ∧ xs = [x] ∧ ys = [y] := by
      intro k hk _
      subst hk
      obtain ⟨l1, l2⟩ := cellsEq_length hr
      obtain ⟨a, rfl⟩ := List.length_eq_one_iff.1 l1
      obtain ⟨c, rfl⟩ := List.length_eq_one_iff.1 l2
      simp only [concs, Option.bind_eq_some_iff, Option.map_eq_some_iff, Option.some.injEq] at hxs hys
      obtain ⟨x, hx, _, rfl, rfl⟩ := hxs
      obtain ⟨y, hy, _, rfl, rfl⟩ := hys
      refine ⟨a, c, x, y, ?_, hx, hy, rfl, rfl⟩
      simp only [cellsEq] at hr
      split at hr
      · rename_i e; cases hr; exact e
      · rename_i e; split at hr <;> cases hr; exact e
      · cases hr
    unfold flat at h
    split at h
    case h_6 => cases h
    · rename_i hu
      cases h
      have hbf : b = false := by unfold isAggB at hb; simp [hu] at hb; exact hb
      subst hbf
      obtain ⟨a, c, x, y, e, hx, hy, rfl, rfl⟩ := leaf 0 rfl rfl
      cases a <;> cases c <;> simp [leafEq] at e
      have := conc_bool hx; subst this
      have := conc_bool hy; subst this
      subst e
      simp [asValue, Op.equalIn, run_und hu]
    · rename_i k hu
      cases h
      have hbf : b = false := by unfold isAggB at hb; simp [hu] at hb; exact hb
      subst hbf
      obtain ⟨a, c, x, y, e, hx, hy, rfl, rfl⟩ := leaf 1 rfl rfl
      cases a <;> cases c <;> simp [leafEq] at e
      have := conc_int hx; subst this
      have := conc_int hy; subst this
      obtain ⟨rfl, rfl⟩ := e
      simp [asValue, Op.equalIn, run_und hu]
    · rename_i hu
      cases h
      have hbf : b = false := by unfold isAggB at hb; simp [hu] at hb; exact hb
      subst hbf
      obtain ⟨a, c, x, y, e, hx, hy, rfl, rfl⟩ := leaf 2 rfl rfl
      cases a <;> cases c <;> simp [leafEq] at e
      have := conc_str hx; subst this
      have := conc_str hy; subst this
      subst e
      simp [asValue, Op.equalIn, run_und hu]
    · -- a struct
      rename_i fs hu
      have hbt : b = true := by unfold isAggB at hb; simp [hu] at hb; exact hb
      subst hbt
      split at h
      · cases h
      · rename_i hst
        have hfs : P.underlying t = some (.struct (P.fieldsOf t)) := by simp [Program.fieldsOf, hu]
        have hfe : P.fieldsOf t = fs := by simp [Program.fieldsOf, hu]
        simp only [asValue, if_true]
        rw [run_equalIn_struct w (d + D) t _ _ hfs (by simpa using hst), hfe]
        -- the fields, one behind the other
        have key : ∀ (fl : List Field) (done ks : List Nat), fl.foldl (fun acc f => match acc with
              | none => none
              | some l => if f.name ≠ "_" && f.offset == l.length then
                  match flat P d f.type, (P.info? f.type).map (·.size) with
                  | some m, some s => if s == m.length then some (l ++ m) else none
                  | _, _ => none
                else none) (some done) = some ks → ∃ k2, ks = done ++ k2 ∧
              (as.length = ks.length → bs.length = ks.length → cellsEq k2 (as.drop done.length) (bs.drop done.length) = some r → (Op.eqFields (d + D) xs.toArray ys.toArray fl).run P w = .ok r w) := by
          intro fl
          induction fl with
          | nil =>
            intro done ks hk
            simp only [List.foldl_nil, Option.some.injEq] at hk
            subst hk
            refine ⟨[], by simp, fun h1 h2 h3 => ?_⟩
            rw [List.drop_eq_nil_of_le (by omega), List.drop_eq_nil_of_le (by omega)] at h3
            simp only [cellsEq, Option.some.injEq] at h3
            subst h3
            simp [Op.eqFields]
          | cons f fl ihf =>
            intro done ks hk
            simp only [List.foldl_cons] at hk
            have hnone : ∀ fl : List Field, fl.foldl (fun acc f => match acc with
              | none => none
              | some l => if f.name ≠ "_" && f.offset == l.length then
                  match flat P d f.type, (P.info? f.type).map (·.size) with
                  | some m, some s => if s == m.length then some (l ++ m) else none
                  | _, _ => none
                else none) (none : Option (List Nat)) = none := by
              intro fl; induction fl with
              | nil => rfl
              | cons _ _ ih => simpa using ih
            split at hk
            case isFalse => rw [hnone] at hk; cases hk
            rename_i hc
            split at hk
            case h_2 => rw [hnone] at hk; cases hk
            rename_i m n hm hn
            split at hk
            case isFalse => rw [hnone] at hk; cases hk
            rename_i hnm
            simp only [Bool.and_eq_true, beq_iff_eq, ne_eq, decide_not, Bool.not_eq_true', decide_eq_false_iff_not] at hc hnm
            obtain ⟨k2, rfl, hrest⟩ := ihf _ _ hk
            refine ⟨m ++ k2, by simp, fun h1 h2 h3 => ?_⟩
            simp only [List.length_append] at h1 h2
            obtain ⟨x, y, r1, p1, p2, p3, q1, q2⟩ := step_flat (D := D) (fun t ks h b as bs xs ys r h1 h2 h3 h4 w => ih D t ks h b as bs xs ys r h1 h2 h3 h4 w) hm hn hnm hxs hys (off := done.length) (by omega) (by omega) h3 w
            simp only [Op.eqFields, ne_eq, hc.1, not_false_eq_true, if_true, Sem.run_bind, hc.2, p1, p2, p3, Result.andThen_ok]
            cases r1
            · simp [q1 rfl]
            · simp only [Bool.not_true, Bool.false_eq_true, if_false]
              refine hrest (by simp; omega) (by simp; omega) ?_
              have := q2 rfl
              rw [hnm] at this
              simpa using this
        obtain ⟨k2, rfl, hk⟩ := key fs.toList [] ks h
        obtain ⟨l1, l2⟩ := cellsEq_length hr
        exact hk (by simpa using l1) (by simpa using l2) (by simpa using hr)
    · -- an array
      rename_i n e hu
      have hbt : b = true := by unfold isAggB at hb; simp [hu] at hb; exact hb
      subst hbt
      split at h
      case h_2 => cases h
      rename_i m sz hm hsz
      split at h <;> cases h
      rename_i hnm
      simp only [beq_iff_eq] at hnm
      simp only [Option.map_eq_some_iff] at hsz
      obtain ⟨i, hi, hisz⟩ := hsz
      have hcell : P.cellsOf e = sz := by simp [Program.cellsOf, hi, hisz]
      have hszB : sizeB P e = some sz := by simp [sizeB, hi, hisz]
      simp only [asValue, if_true]
      rw [run_equalIn_array w (d + D) _ _ hu hi, hcell, List.range_eq_range']
      have key : ∀ (j k : Nat), k + j = n → as.length = n * sz → bs.length = n * sz → ∀ r, cellsEq (List.replicate j m).flatten (as.drop (k * sz)) (bs.drop (k * sz)) = some r → (Op.eqItems (d + D) e sz xs.toArray ys.toArray (List.range' k j)).run P w = .ok r w := by
        intro j
        induction j with
        | zero =>
          intro k hk h1 h2 r' hr'
          have hkn : k = n := by omega
          rw [hkn, List.drop_eq_nil_of_le (by omega), List.drop_eq_nil_of_le (by omega)] at hr'
          simp only [List.replicate_zero, List.flatten_nil, cellsEq, Option.some.injEq] at hr'
          subst hr'
          simp [Op.eqItems]
        | succ j ihj =>
          intro k hk h1 h2 r' hr'
          rw [List.replicate_succ, List.flatten_cons] at hr'
          have hks : k * sz + sz ≤ n * sz := by
            have : (k + 1) * sz ≤ n * sz := Nat.mul_le_mul_right _ (by omega)
            rw [Nat.succ_mul] at this; exact this
          obtain ⟨x, y, r1, p1, p2, p3, q1, q2⟩ := step_flat (D := D) (fun t ks h b as bs xs ys r h1 h2 h3 h4 w => ih D t ks h b as bs xs ys r h1 h2 h3 h4 w) hm hszB hnm hxs hys (off := k * sz) (by omega) (by omega) hr' w
          simp only [List.range'_succ, Op.eqItems, Sem.run_bind, p1, p2, p3, Result.andThen_ok]
          cases r1
          · simp [q1 rfl]
          · simp only [Bool.not_true, Bool.false_eq_true, if_false]
            refine ihj (k + 1) (by omega) h1 h2 r' ?_
            have := q2 rfl
            rw [Nat.succ_mul]
            exact this
      obtain ⟨l1, l2⟩ := cellsEq_length hr
      have hlen : ((List.replicate n m).flatten).length = n * sz := by simp [hnm]
      exact key n 0 (by omega) (by omega) (by omega) r (by simpa using hr)
end Go.Proofs.Yteffppdkofdmdaa.D
