/- The operations of the abstract machine do what the model's do: what is built in, as operations. -/
import Derived.Test.YteffppdkofdmdaaDSnd10
namespace Go.Proofs.Yteffppdkofdmdaa.D
variable {P : Program} {R : Nat} {μ : Place} {s : St} {w : World} {ev : Ev} {ρ : Operand → Value} {o : Oper} {p : POp} {v : AV} {s' : St}

theorem HR.at_drawn {d : Nat} (h : HR P R μ s w) : HR P R μ s { w with drawn := d } := h.heap_eq rfl

theorem appendA_snd {esz eb n : Nat} {x : AV} {l : List AV} {st xt e ty : TypeId} (hs1 : 1 ≤ esz)
    {zv : Value} (hz : ∀ w, (zeroValue e).run P w = .ok zv w) (hzs : zv.cells.size = esz)
    (h : HR P R μ s w) (hl : l.length = n * esz) {cx cy : Value} (hcx : conc μ x = some cx) {xs : List Value} (hxs : concs μ l = some xs) (hA : AppRuns P st xt ty e esz eb n cy xs w)
    (ha : appendA esz eb s x n l = some (v, s')) (hR : s'.next ≤ R) :
    ∃ ν c w', (Builtin.append_ #[st, xt] ty #[cx, cy]).run P w = .ok c w' ∧ conc ν v = some c ∧ HR P R ν s' w' ∧ Mv μ s w ν s' w' := by
  have hxl := concs_length hxs
  have hn0 : n = 0 → xs = [] := fun e => by subst e; exact List.length_eq_zero_iff.1 (by simpa [hl] using hxl)
  unfold appendA at ha
  split at ha
  case h_3 => cases ha
  · -- a nil slice
    simp only [conc, Option.some.injEq] at hcx
    subst hcx
    obtain ⟨r1, r2⟩ := hA none 0 0
    split at ha
    · rename_i hn
      cases ha
      subst hn
      exact ⟨μ, .slice none 0 0, w, by simpa using r1 (by omega) w rfl, rfl, h, Mv.refl h hR⟩
    · rename_i hn
      split at ha
      case isFalse => cases ha
      rename_i hbd
      simp only [newA, Option.some.injEq, Prod.mk.injEq] at ha
      obtain ⟨rfl, rfl⟩ := ha
      obtain ⟨ex, rest, hrl, hrun⟩ := r2 (by omega) (by simpa using hbd) zv hz hzs [] (fun d => by simp [Builtin.firstCells])
      obtain ⟨h1, h2⟩ := h.new hR (.cells l true false esz) (.cells ([] ++ xs ++ rest).toArray e) ex (w.drawn + 1)
        ⟨_, _, _, xs, rest, World.push_new w _ _, concs_mono (h.le_add hR _) _ _ hxs, by simp, hrl, by simp, fun _ => by intro i _; simp⟩
      exact ⟨_, _, _, hrun, by simp [conc, Place.add], h1, h2⟩
  · rename_i b of len cap loose
    obtain ⟨q, hq, rfl⟩ := conc_slice hcx
    obtain ⟨r1, r2⟩ := hA (some ⟨q.1, of, none⟩) len (if loose then cap + q.2 else cap)
    split at ha
    · rename_i hle
      split at ha
      · rename_i hn
        cases ha
        subst hn
        have := hn0 rfl
        subst this
        refine ⟨μ, _, w, r1 (by split <;> omega) w (by simp [storeCells]), ?_, h, Mv.refl h hR⟩
        simp [conc, hq]
      · split at ha <;> cases ha
        rename_i hst'
        obtain ⟨w', hrun, h1, h2⟩ := run_storeA h hR hst' hq hxs
        refine ⟨μ, _, w', r1 (by split <;> omega) w' (by simpa [Addr.add_mk] using hrun), by simp [conc, hq], h1, h2⟩
    · rename_i hgt
      split at ha
      case isFalse => cases ha
      rename_i hbd
      split at ha
      case h_1 => cases ha
      rename_i old hold
      obtain ⟨ys, hys, hyl, _⟩ := run_loadA (P := P) h hold hq
      have holdd : ∀ k d, (Builtin.firstCells esz len (.slice (some ⟨q.1, of, none⟩) len k)).run P { w with drawn := d } = .ok ys.toArray { w with drawn := d } := fun k d => by
        obtain ⟨zs, hzs', _, hrun⟩ := run_loadA (P := P) (h.at_drawn (d := d)) hold hq
        rw [hys] at hzs'; cases hzs'
        simpa [Builtin.firstCells] using hrun
      split at ha
      · rename_i hloose
        subst hloose
        simp only [if_true] at r1 r2
        split at ha
        case isFalse => cases ha
        rename_i hof
        subst hof
        split at ha
        case h_2 => cases ha
        rename_i vs z hg
        split at ha <;> cases ha
        rename_i hcond
        obtain ⟨hz1, hvl, hac⟩ := hcond
        subst hz1
        -- it may fit into what there is
        by_cases hfit : len + n ≤ cap + q.2
        · obtain ⟨q', hq', c, el, fz, xs0, rest, e1, e2, e3, e4, e5, e6⟩ := h.obj _ _ hg
          rw [hq] at hq'; cases hq'
          have hl0 := concs_length e2
          have hcs : c.size = xs0.length + rest.length := by rw [← Array.length_toList, e3]; simp
          have hmul : (len + n) * z ≤ (cap + q.2) * z := Nat.mul_le_mul_right _ hfit
          rw [Nat.add_mul, Nat.add_mul] at hmul
          obtain ⟨w', cur', f1, f2, f3, f4, f5, f6, f7, f8⟩ := run_storeList (P := P) q.1 (len * z) el fz xs 0 c w e1 (e6 rfl) (by omega) (allCell_conc hac hxs)
          have hcl : cap * z < (len + n) * z := Nat.mul_lt_mul_of_pos_right (by omega) hs1
          rw [Nat.add_mul] at hcl
          have hold' : old = vs.take (len * z) := by
            obtain ⟨vs', _, _, _, hg', _, rfl⟩ := loadA_some hold
            rw [hg] at hg'; cases hg'
            simp
          have hoz : concs (μ.add s.next (q.1, cap + q.2 - (len + n))) (old ++ l) = some (xs0.take (len * z) ++ xs) := by
            refine concs_mono (h.le_add hR _) _ _ ?_
            rw [hold']
            exact concs_append (concs_take e2 _) hxs
          have hlz : len * z ≤ cap * z := by
            have := (loadA_some hold)
            obtain ⟨vs', _, _, _, hg', hle', _⟩ := this
            rw [hg] at hg'; cases hg'
            omega
          obtain ⟨h1, h2⟩ := h.alias (w' := w') hR hg hq (by simp) (o' := .cells (old ++ l) true false z) (e := cap + q.2 - (len + n))
            ⟨cur', el, fz, xs0.take (len * z) ++ xs, (xs0 ++ rest).drop (len * z + xs.length), f2, hoz, by
              rw [f3, e3]
              simp only [Nat.add_zero]
              rw [List.take_append_of_le_length (by omega)], by
              rw [List.length_drop, List.length_append, Nat.sub_mul, Nat.add_mul, Nat.add_mul]
              omega, by simp, fun _ i hi => by
              have : cur'.size = c.size := by
                rw [← Array.length_toList, f3, ← Array.length_toList]
                simp
                omega
              exact e6 rfl i (by omega)⟩ f4 f5 f6 f7 f8
          refine ⟨_, _, w', r1 hfit w' (by simpa [Addr.add_mk] using f1), ?_, h1, h2⟩
          simp only [conc, Place.add, if_true, Option.map_some, Option.some.injEq]
          congr 1
          omega
        · obtain ⟨ex, rest, hrl, hrun⟩ := r2 (by omega) hbd zv hz hzs ys (holdd _)
          have hR1 : s.next ≤ R := Nat.le_trans (Nat.le_succ _) (by simpa using hR)
          obtain ⟨d1, d2⟩ := h.drop hR1 hg (by simp)
          obtain ⟨h1, h2⟩ := d1.new hR (.cells (old ++ l) true false z) (.cells (ys ++ xs ++ rest).toArray e) ex (w.drawn + 1)
            ⟨_, _, _, ys ++ xs, rest, World.push_new w _ _, concs_mono (d1.le_add hR _) _ _ (concs_append hys hxs), by simp, hrl, by simp, fun _ => by intro i _; simp⟩
          exact ⟨_, _, _, hrun, by simp [conc, Place.add], h1, d2.trans h2⟩
      · rename_i hloose
        have hlf : loose = false := by simpa using hloose
        subst hlf
        simp only [Bool.false_eq_true, if_false] at r1 r2
        simp only [newA, Option.some.injEq, Prod.mk.injEq] at ha
        obtain ⟨rfl, rfl⟩ := ha
        obtain ⟨ex, rest, hrl, hrun⟩ := r2 (by omega) hbd zv hz hzs ys (holdd _)
        obtain ⟨h1, h2⟩ := h.new hR (.cells (old ++ l) true false esz) (.cells (ys ++ xs ++ rest).toArray e) ex (w.drawn + 1)
          ⟨_, _, _, ys ++ xs, rest, World.push_new w _ _, concs_mono (h.le_add hR _) _ _ (concs_append hys hxs), by simp, hrl, by simp, fun _ => by intro i _; simp⟩
        exact ⟨_, _, _, hrun, by simp [conc, Place.add], h1, h2⟩
end Go.Proofs.Yteffppdkofdmdaa.D
