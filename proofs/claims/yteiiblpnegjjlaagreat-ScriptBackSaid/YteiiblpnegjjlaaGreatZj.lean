/- What is known of a few functions of the lowest layers. First part: which widths there are; the sum of bytes.
What is known of a few functions of the lowest layers. Second part: the pool's states.
What is known of a few functions of the lowest layers. Third part: the next number of a reader.
What is known of a few functions of the lowest layers. Fourth part: bytes copied, taken; numbers put.
What is known of a few functions of the lowest layers. Fifth part: bytes copied; numbers put behind bytes.
What is known of a few functions of the lowest layers. Sixth part: numbers put behind bytes.
The machine of this seat: its functions that are run, and what is known of some. Printed by a program.
The machine of this seat's laws with arguments: its functions; what is known of the sum's step and of the check that comes first. Printed by a program.
What is known of a few functions of the lowest layers: the plain definitions that the machine's run needs. -/
import Derived.Test.YteiiblpnegjjlaaGreatZi
import Derived.KernelRfl
namespace Go.Proofs.YteiiblpnegjjlaaGreat.Base
open D
set_option linter.unusedSimpArgs false
set_option linter.unusedVariables false
set_option maxRecDepth 10000

theorem Sums_exact {f : Nat} {args : List AV} {s s' : St} {v : AV} (hro : ∀ b vs l e, s.get b = some (.cells vs l true e) → s'.get b = some (.cells vs l true e)) (h : mm.L.call f args s = some (v, s')) : Wf mm f args s fun v1 s1 => D.Can s v1 s1 v s' :=
  ⟨v, s', h, .old rfl (fun _ _ h => h) (Nat.le_refl _) hro⟩

set_option maxRecDepth 100000 in
theorem right_small (s : St) : ∀ w : Nat, 0 < w → w ≤ 8 → mm.L.call 55 [.int .i64 (w : Int)] s = some (.bool (w == 1 || w == 2 || w == 4 || w == 8), s)
  | 1, _, _ => call_of_eng (fuel := 60) (by kernel_rfl)
  | 2, _, _ => call_of_eng (fuel := 60) (by kernel_rfl)
  | 3, _, _ => call_of_eng (fuel := 60) (by kernel_rfl)
  | 4, _, _ => call_of_eng (fuel := 60) (by kernel_rfl)
  | 5, _, _ => call_of_eng (fuel := 60) (by kernel_rfl)
  | 6, _, _ => call_of_eng (fuel := 60) (by kernel_rfl)
  | 7, _, _ => call_of_eng (fuel := 60) (by kernel_rfl)
  | 8, _, _ => call_of_eng (fuel := 60) (by kernel_rfl)
  | 0, h, _ => by omega
  | n + 9, _, h => by omega
theorem right_eq (w : Int) (s : St) : mm.L.call 55 [.int .i64 w] s = some (.bool (okW w), s) := by
  by_cases h : 0 < w ∧ w ≤ 8
  · obtain ⟨n, rfl⟩ : ∃ n : Nat, w = (n : Int) := ⟨w.toNat, by omega⟩
    have := right_small s n (by omega) (by omega)
    rw [this]
    have e : ∀ k, (n == k) = Nat.beq n k := fun k => by
      by_cases hk : n = k
      · subst hk; simp
      · rw [show (n == k) = false by simpa using hk]
        cases hb : Nat.beq n k with
        | false => rfl
        | true => exact absurd (Nat.eq_of_beq_eq_true hb) hk
    simp only [e]
    rfl
  · have hw : okW w = false := by
      cases w with
      | negSucc n => rfl
      | ofNat n =>
        have : ¬ (n = 1 ∨ n = 2 ∨ n = 4 ∨ n = 8) := by
          have h' : ¬ (0 < (n : Int) ∧ (n : Int) ≤ 8) := h
          omega
        have e : ∀ k, n ≠ k → Nat.beq n k = false := fun k hk => by
          cases hb : Nat.beq n k with
          | false => rfl
          | true => exact absurd (Nat.eq_of_beq_eq_true hb) hk
        show (Nat.beq n 1 || Nat.beq n 2 || Nat.beq n 4 || Nat.beq n 8) = false
        rw [e 1 (by omega), e 2 (by omega), e 4 (by omega), e 8 (by omega)]
        rfl
    rw [hw]
    refine of_Wf (Wf_enter ft55 (sm (by decide)) (by rfl) ?_)
    have ft : (false == true) = false := rfl
    cases c1 : decide (w > 0)
    · simp -implicitDefEqProofs only [go_sem, Wk_block, Wk_drawnC, reduceCtorEq, Nat.reduceEqDiff, Nat.reduceAdd, Nat.reduceLeDiff, Nat.reduceLT, Nat.reduceMul, Nat.reduceSub, ↓reduceIte, Int.reduceLT, Int.reduceLE, Int.reduceNeg, Int.reduceAdd, Int.reduceEq, Nat.reduceBneDiff, Nat.reduceBEq, Int.reduceToNat, Int.reduceMul, Int.reduceSub, Int.reduceBEq, Int.reduceBNe, fd55, c1, ft]
    · have p1 := of_decide_eq_true c1
      have c2 : decide (w ≤ 8) = false := decide_eq_false (by omega)
      simp -implicitDefEqProofs only [go_sem, Wk_block, Wk_drawnC, reduceCtorEq, Nat.reduceEqDiff, Nat.reduceAdd, Nat.reduceLeDiff, Nat.reduceLT, Nat.reduceMul, Nat.reduceSub, ↓reduceIte, Int.reduceLT, Int.reduceLE, Int.reduceNeg, Int.reduceAdd, Int.reduceEq, Nat.reduceBneDiff, Nat.reduceBEq, Int.reduceToNat, Int.reduceMul, Int.reduceSub, Int.reduceBEq, Int.reduceBNe, fd55, c1, c2, ft]
theorem sumRight_run {args : List AV} {s s' : St} {v : AV} (h : sumRight args s = some (v, s')) (_ : ∀ b o, s.get b = some o → b < s.next) : Wf mm 55 args s fun v1 s1 => D.Can s v1 s1 v s' := by
  unfold sumRight at h
  split at h
  · cases h
    exact Sums_exact (fun _ _ _ _ h => h) (right_eq _ _)
  · cases h

theorem sumRight_next (args : List AV) (s : St) (v : AV) (s' : St) (hx : sumRight args s = some (v, s')) : s.next ≤ s'.next := by
  unfold sumRight at hx
  repeat' split at hx
  all_goals first
    | (cases hx; done)
    | (cases hx; exact Nat.le_refl _)

/-! ### Bytes -/
theorem decU_some : ∀ {l : List AV} {L : List Nat}, decU l = some L → l = L.map u8 ∧ ∀ x ∈ L, x < 256
  | [], L, h => by cases h; exact ⟨rfl, by simp⟩
  | x :: r, L, h => by
    unfold decU at h
    split at h
    · rename_i hm; cases hm
    · rename_i n r' hm
      cases hm
      split at h
      · rename_i hn
        split at h
        · rename_i l hl
          cases h
          obtain ⟨h1, h2⟩ := decU_some hl
          refine ⟨by rw [h1]; rfl, fun y hy => ?_⟩
          rcases List.mem_cons.1 hy with rfl | hy
          · simpa using hn
          · exact h2 y hy
        · cases h
      · cases h
    · cases h
/-- A slice that holds those bytes. -/
structure Bs (s : St) (v : AV) (L : List Nat) : Prop where
  len : ∀ s', len1 (some v) s' = some (.int .i64 (L.length : Nat), s')
  lt : ∀ x ∈ L, x < 256
  at_ : ∀ j (h : j < L.length), ∃ b o vs lo ro z, (∀ s', idx1 1 (some v) (some (.int .i64 (j : Int))) s' = some (.ptr b (o + j), s')) ∧ s.get b = some (.cells vs lo ro z) ∧ vs[o + j]? = some (u8 L[j])
  src : 0 < L.length → ∃ b o c lo, v = .slice b o L.length c lo ∧ loadA s b o L.length = some (L.map u8)
  cell : v.cells = [v] ∧ v.cell = true
theorem readU_bs {s : St} {v : AV} {L : List Nat} (h : readU s v = some L) : Bs s v L := by
  unfold readU at h
  split at h
  · cases h; exact ⟨fun _ => rfl, by simp, fun j h => by simp at h, fun h => by simp at h, rfl, rfl⟩
  · cases h; exact ⟨fun _ => rfl, by simp, fun j h => by simp at h, fun h => by simp at h, rfl, rfl⟩
  · rename_i b o n c lo
    split at h
    · rename_i l hl
      obtain ⟨h1, h2⟩ := decU_some h
      have hl0 := hl
      obtain ⟨vs, lo2, ro, z, g1, g2, rfl⟩ := loadA_some hl
      have hn : L.length = n := by
        have := congrArg List.length h1
        rw [List.length_take, List.length_drop, List.length_map] at this
        omega
      subst hn
      refine ⟨fun _ => rfl, h2, fun j hj => ⟨b, o, vs, lo2, ro, z, fun s' => by rw [idx1_slice hj, Nat.mul_one], g1, ?_⟩, fun _ => ⟨b, o, c, lo, rfl, by rw [hl0, h1]⟩, rfl, rfl⟩
      have := congrArg (fun l => l[j]?) h1
      simp only [List.getElem?_take_of_lt hj, List.getElem?_drop] at this
      rw [this, List.getElem?_map, List.getElem?_eq_getElem hj]
      rfl
    · cases h
  · cases h

theorem stps_lt : ∀ (k : Nat) {n : Nat}, stps (k + 1) n < 4294967296
  | 0, n => stp_lt
  | k + 1, n => stps_lt k
theorem crcStep_lt (n c : Nat) : crcStep n c < 4294967296 := stps_lt 7
theorem step_run (n c : Nat) (hn : n < 4294967296) (hc : c < 256) (s : St) : mm.L.call 282 [.int .u32 (n : Int), u8 c] s = some (.int .u32 ((crcStep n c : Nat) : Int), s) := by
  rw [step_eq]
  unfold u8
  show (if (n : Int) < 0 ∨ (c : Int) < 0 ∨ 4294967296 ≤ (n : Int) ∨ 256 ≤ (c : Int) then none else some (AV.int .u32 ((crcStep (n : Int).toNat (c : Int).toNat : Nat) : Int), s)) = _
  rw [if_neg (by omega)]
  rfl
theorem crcB_take {n : Nat} {L : List Nat} {j : Nat} (h : j < L.length) : crcB n (L.take (j + 1)) = crcStep (crcB n (L.take j)) L[j] := by
  unfold crcB
  rw [List.take_succ_eq_append_getElem h, List.foldl_append]
  rfl
theorem crcB_lt {n : Nat} (hn : n < 4294967296) (L : List Nat) : crcB n L < 4294967296 := by
  unfold crcB
  induction L generalizing n with
  | nil => exact hn
  | cons a l ih => exact ih (crcStep_lt n a)
theorem crcP_take {n : Nat} {L : List (List Nat)} {j : Nat} (h : j < L.length) : crcP n (L.take (j + 1)) = crcB (crcP n (L.take j)) L[j] := by
  unfold crcP
  rw [List.take_succ_eq_append_getElem h, List.foldl_append]
  rfl
theorem crcP_lt {n : Nat} (hn : n < 4294967296) (L : List (List Nat)) : crcP n L < 4294967296 := by
  unfold crcP
  induction L generalizing n with
  | nil => exact hn
  | cons a l ih => exact ih (crcB_lt hn a)

theorem readPs_some {s : St} : ∀ {l : List AV} {Ps : List (List Nat)}, readPs s l = some Ps → l.length = Ps.length ∧ ∀ j (h : j < Ps.length), ∃ w, l[j]? = some w ∧ Bs s w Ps[j]
  | [], Ps, h => by cases h; exact ⟨rfl, fun j h => by simp at h⟩
  | w :: r, Ps, h => by
    simp only [readPs] at h
    split at h
    · rename_i L hL
      split at h
      · rename_i l hl
        cases h
        obtain ⟨h1, h2⟩ := readPs_some hl
        refine ⟨by simp [h1], fun j hj => ?_⟩
        cases j with
        | zero => exact ⟨w, rfl, readU_bs hL⟩
        | succ j => simpa using h2 j (by simpa using hj)
      · cases h
    · cases h

theorem Of_run {Ps : List (List Nat)} {ws : List AV} {s : St} {v : AV} (hl : ws.length = Ps.length) (hP : ∀ j (h : j < Ps.length), ∃ w, ws[j]? = some w ∧ Bs s w Ps[j])
    (hv : ∀ s', len1 (some v) s' = some (.int .i64 (Ps.length : Nat), s')) (hi : ∀ j, j < Ps.length → ∃ b o vs lo ro z, (∀ s', idx1 1 (some v) (some (.int .i64 (j : Int))) s' = some (.ptr b (o + j), s')) ∧ s.get b = some (.cells vs lo ro z) ∧ vs[o + j]? = ws[j]?) (hm : Ps.length < 1000000000) (hmP : ∀ L ∈ Ps, L.length < 1000000000) :
    mm.L.call 243 [v] s = some (.int .u32 ((crcP 4294967295 Ps : Nat) : Int), s) := by
  refine of_Wf (Wf_enter ft243 (sm (by decide)) (by rfl) ?_)
  simp -implicitDefEqProofs only [go_sem, Wk_block, Wk_drawnC, reduceCtorEq, Nat.reduceEqDiff, Nat.reduceAdd, Nat.reduceLeDiff, Nat.reduceLT, Nat.reduceMul, Nat.reduceSub, ↓reduceIte, Int.reduceLT, Int.reduceLE, Int.reduceNeg, Int.reduceAdd, Int.reduceEq, Nat.reduceBneDiff, Nat.reduceBEq, Int.reduceToNat, Int.reduceMul, Int.reduceSub, Int.reduceBEq, Int.reduceBNe, fd243, hv]
  refine loop_ind (fun m ts s' => ∃ j : Nat, m = Ps.length - j ∧ j ≤ Ps.length ∧ ts.get 10 = some (.int .i64 (j : Int)) ∧ ts.get 9 = some (.int .i64 (Ps.length : Int)) ∧ ts.get 8 = some v ∧ ts.get 3 = some (.int .u32 ((crcP 4294967295 (Ps.take j) : Nat) : Int)) ∧ s' = s) ?_ (n := Ps.length)
    ⟨0, rfl, by omega, by simp only [Tr.get_set, Nat.reduceEqDiff, ↓reduceIte, Int.cast_ofNat_Int], by simp only [Tr.get_set, Nat.reduceEqDiff, ↓reduceIte, Int.cast_ofNat_Int], by simp only [Tr.get_set, Nat.reduceEqDiff, ↓reduceIte, Int.cast_ofNat_Int], by simp only [Tr.get_set, Nat.reduceEqDiff, ↓reduceIte, Int.cast_ofNat_Int]; rfl, rfl⟩
  rintro m ts s' ⟨j, rfl, hj, g10, g9, g8, g3, rfl⟩ IH
  by_cases hlt : j < Ps.length
  · obtain ⟨w, hw, hB⟩ := hP j hlt
    obtain ⟨b, o, vs, lo, ro, z, hidx, hg, hvj⟩ := hi j hlt
    rw [hw] at hvj
    have hct := crcP_take (n := 4294967295) hlt
    have hcl := crcP_lt (n := 4294967295) (by omega) (Ps.take j)
    have hL := hmP Ps[j] (List.getElem_mem hlt)
    generalize Ps[j] = L at hB hct hL
    generalize crcP 4294967295 (Ps.take j) = c0 at g3 hct hcl
    have wj := succ_in (j := j) (by omega)
    simp -implicitDefEqProofs only [go_sem, Wk_block, Wk_drawnC, reduceCtorEq, Nat.reduceEqDiff, Nat.reduceAdd, Nat.reduceLeDiff, Nat.reduceLT, Nat.reduceMul, Nat.reduceSub, ↓reduceIte, Int.reduceLT, Int.reduceLE, Int.reduceNeg, Int.reduceAdd, Int.reduceEq, Nat.reduceBneDiff, Nat.reduceBEq, Int.reduceToNat, Int.reduceMul, Int.reduceSub, Int.reduceBEq, Int.reduceBNe, g10, g9, g8, hlt, hidx, hg, hvj, hB.len]
    refine loop_ind (fun m ts s1 => ∃ i : Nat, m = L.length - i ∧ i ≤ L.length ∧ ts.get 16 = some (.int .i64 (i : Int)) ∧ ts.get 15 = some (.int .i64 (L.length : Int)) ∧ ts.get 14 = some w ∧ ts.get 3 = some (.int .u32 ((crcB c0 (L.take i) : Nat) : Int)) ∧
      ts.get 10 = some (.int .i64 (j : Int)) ∧ ts.get 9 = some (.int .i64 (Ps.length : Int)) ∧ ts.get 8 = some v ∧ s1 = s') ?_ (n := L.length)
      ⟨0, rfl, by omega, by simp only [Tr.get_set, Nat.reduceEqDiff, ↓reduceIte, Int.cast_ofNat_Int], by simp only [Tr.get_set, Nat.reduceEqDiff, ↓reduceIte, Int.cast_ofNat_Int], by simp only [Tr.get_set, Nat.reduceEqDiff, ↓reduceIte, Int.cast_ofNat_Int], by simp only [Tr.get_set, Nat.reduceEqDiff, ↓reduceIte, Int.cast_ofNat_Int, g3]; rfl, by simp only [Tr.get_set, Nat.reduceEqDiff, ↓reduceIte, Int.cast_ofNat_Int, g10], by simp only [Tr.get_set, Nat.reduceEqDiff, ↓reduceIte, Int.cast_ofNat_Int, g9], by simp only [Tr.get_set, Nat.reduceEqDiff, ↓reduceIte, Int.cast_ofNat_Int, g8], rfl⟩
    clear g10 g9 g8 g3
    rintro m ts s1 ⟨i, rfl, hi2, g16, g15, g14, g3, g10, g9, g8, rfl⟩ IH2
    by_cases hlt2 : i < L.length
    · obtain ⟨b2, o2, vs2, lo2, ro2, z2, hidx2, hg2, hv2⟩ := hB.at_ i hlt2
      have hxl := hB.lt L[i] (List.getElem_mem hlt2)
      have hct2 := crcB_take (n := c0) hlt2
      have hcl2 := crcB_lt hcl (L.take i)
      generalize L[i] = x at hv2 hxl hct2
      generalize crcB c0 (L.take i) = c1 at g3 hct2 hcl2
      have wi := succ_in (j := i) (by omega)
      simp -implicitDefEqProofs only [go_sem, Wk_block, Wk_drawnC, reduceCtorEq, Nat.reduceEqDiff, Nat.reduceAdd, Nat.reduceLeDiff, Nat.reduceLT, Nat.reduceMul, Nat.reduceSub, ↓reduceIte, Int.reduceLT, Int.reduceLE, Int.reduceNeg, Int.reduceAdd, Int.reduceEq, Nat.reduceBneDiff, Nat.reduceBEq, Int.reduceToNat, Int.reduceMul, Int.reduceSub, Int.reduceBEq, Int.reduceBNe, g16, g15, g14, g3, hlt2, hidx2, hg2, hv2, Wl_eq (step_run c1 x hcl2 hxl _), wi]
      refine IH2 (L.length - (i + 1)) _ _ (by omega) ⟨i + 1, rfl, by omega, ?_, ?_, ?_, ?_, ?_, ?_, ?_, rfl⟩
      · simp only [Tr.get_set, Nat.reduceEqDiff, ↓reduceIte, Int.cast_ofNat_Int]
      · simp only [Tr.get_set, Nat.reduceEqDiff, ↓reduceIte, Int.cast_ofNat_Int, g15]
      · simp only [Tr.get_set, Nat.reduceEqDiff, ↓reduceIte, Int.cast_ofNat_Int, g14]
      · rw [hct2]; simp only [Tr.get_set, Nat.reduceEqDiff, ↓reduceIte, Int.cast_ofNat_Int]
      · simp only [Tr.get_set, Nat.reduceEqDiff, ↓reduceIte, Int.cast_ofNat_Int, g10]
      · simp only [Tr.get_set, Nat.reduceEqDiff, ↓reduceIte, Int.cast_ofNat_Int, g9]
      · simp only [Tr.get_set, Nat.reduceEqDiff, ↓reduceIte, Int.cast_ofNat_Int, g8]
    · have : i = L.length := by omega
      subst this
      rw [List.take_length] at g3
      have hlf : decide ((L.length : Int) < (L.length : Int)) = false := decide_eq_false (by omega)
      simp -implicitDefEqProofs only [go_sem, Wk_block, Wk_drawnC, reduceCtorEq, Nat.reduceEqDiff, Nat.reduceAdd, Nat.reduceLeDiff, Nat.reduceLT, Nat.reduceMul, Nat.reduceSub, ↓reduceIte, Int.reduceLT, Int.reduceLE, Int.reduceNeg, Int.reduceAdd, Int.reduceEq, Nat.reduceBneDiff, Nat.reduceBEq, Int.reduceToNat, Int.reduceMul, Int.reduceSub, Int.reduceBEq, Int.reduceBNe, g16, g15, hlf, hlt2, g10, wj]
      refine IH (Ps.length - (j + 1)) _ _ (by omega) ⟨j + 1, rfl, by omega, ?_, ?_, ?_, ?_, rfl⟩
      · simp only [Tr.get_set, Nat.reduceEqDiff, ↓reduceIte, Int.cast_ofNat_Int]
      · simp only [Tr.get_set, Nat.reduceEqDiff, ↓reduceIte, Int.cast_ofNat_Int, g9]
      · simp only [Tr.get_set, Nat.reduceEqDiff, ↓reduceIte, Int.cast_ofNat_Int, g8]
      · rw [hct]; simp only [Tr.get_set, Nat.reduceEqDiff, ↓reduceIte, Int.cast_ofNat_Int, g3]
  · have : j = Ps.length := by omega
    subst this
    rw [List.take_length] at g3
    have hlf : decide ((Ps.length : Int) < (Ps.length : Int)) = false := decide_eq_false (by omega)
    simp -implicitDefEqProofs only [go_sem, Wk_block, Wk_drawnC, reduceCtorEq, Nat.reduceEqDiff, Nat.reduceAdd, Nat.reduceLeDiff, Nat.reduceLT, Nat.reduceMul, Nat.reduceSub, ↓reduceIte, Int.reduceLT, Int.reduceLE, Int.reduceNeg, Int.reduceAdd, Int.reduceEq, Nat.reduceBneDiff, Nat.reduceBEq, Int.reduceToNat, Int.reduceMul, Int.reduceSub, Int.reduceBEq, Int.reduceBNe, g10, g9, hlf, hlt, g3]

theorem sumOf_run {args : List AV} {s s' : St} {v : AV} (h : sumOf args s = some (v, s')) (_ : ∀ b o, s.get b = some o → b < s.next) : Wf mm 243 args s fun v1 s1 => D.Can s v1 s1 v s' := by
  unfold sumOf at h
  split at h
  case h_2 => cases h
  rename_i b o n c lo
  split at h
  case h_2 => cases h
  rename_i l hl
  split at h
  case h_2 => cases h
  rename_i Ps hP
  split at h
  case isFalse => cases h
  rename_i hs
  cases h
  obtain ⟨h1, h2⟩ := readPs_some hP
  obtain ⟨vs, lo2, ro, z, g1, g2, rfl⟩ := loadA_some hl
  have hn : Ps.length = n := by rw [← h1, List.length_take, List.length_drop]; omega
  subst hn
  simp only [Bool.and_eq_true] at hs
  refine Sums_exact (fun _ _ _ _ h => h) (Of_run h1 h2 (fun _ => rfl) (fun j hj => ⟨b, o, vs, lo2, ro, z, fun s' => by rw [idx1_slice hj, Nat.mul_one], g1, ?_⟩) (by simpa using hs.1) fun L hL => ?_)
  · rw [List.getElem?_take_of_lt hj, List.getElem?_drop]
  · have := List.all_eq_true.1 hs.2 L hL
    simpa using this
theorem sumOf_next (args : List AV) (s : St) (v : AV) (s' : St) (hx : sumOf args s = some (v, s')) : s.next ≤ s'.next := by
  unfold sumOf at hx
  repeat' split at hx
  all_goals first
    | (cases hx; done)
    | (cases hx; exact Nat.le_refl _)
end Go.Proofs.YteiiblpnegjjlaaGreat.Base
namespace Go.Proofs.YteiiblpnegjjlaaGreat.Base
open D
set_option linter.unusedSimpArgs false
set_option linter.unusedVariables false
set_option maxRecDepth 10000

theorem splice_snoc (vs A : List AV) (o : Nat) (y : AV) (h : o + A.length < vs.length) : List.take (o + A.length) (splice vs o A) ++ [y] ++ List.drop (o + A.length + 1) (splice vs o A) = splice vs o (A ++ [y]) := by
  unfold splice
  obtain ⟨P, hPd⟩ : ∃ P, List.take o vs ++ A = P := ⟨_, rfl⟩
  have hP : P.length = o + A.length := by rw [← hPd, List.length_append, List.length_take]; omega
  rw [← List.append_assoc, hPd, ← hP, List.take_left, List.drop_append, List.drop_eq_nil_of_le (by omega), List.nil_append, List.drop_drop]
  simp only [List.append_assoc, List.length_append, List.length_cons, List.length_nil, Nat.zero_add]
  congr 2
  rw [show P.length + (P.length + 1 - P.length) = o + (A.length + 1) by omega]
theorem splice_same (vs A : List AV) (o : Nat) (y : AV) (h : vs[o + A.length]? = some y) : splice vs o (A ++ [y]) = splice vs o A := by
  unfold splice
  obtain ⟨hlt, hy⟩ := List.getElem?_eq_some_iff.1 h
  rw [List.drop_eq_getElem_cons hlt, hy, List.length_append, List.length_cons, List.length_nil]
  simp only [List.append_assoc, List.cons_append, List.nil_append, Nat.zero_add]
  rw [show o + (A.length + 1) = o + A.length + 1 by omega]
theorem splice_len (vs A : List AV) (o : Nat) (h : o + A.length ≤ vs.length) : (splice vs o A).length = vs.length := by
  unfold splice
  simp only [List.length_append, List.length_take, List.length_drop]
  omega
theorem splice_nil (vs : List AV) (o : Nat) : splice vs o [] = vs := by
  unfold splice
  simp

theorem Turn_run {p z : Nat} {lo : Bool} {vs : List AV} {L : List Nat} (f t : Int) {s : St} (hp : s.get p = some (.cells vs lo false z)) (hL : L.length = 240) (hv : (vs.drop 241).take 240 = L.map u8) :
    Wf mm 220 [.ptr p 0, .int .u8 f, .int .u8 t] s fun v s' => v = .tup [] ∧ s'.get p = some (.cells (splice vs 241 (L.map (trn f t))) lo false z) ∧ (∀ b, b ≠ p → s'.get b = s.get b) ∧ s'.next = s.next := by
  refine Wf_enter ft220 (sm (by decide)) (by rfl) ?_
  have hlen : 241 + 240 ≤ vs.length := by
    have := congrArg List.length hv
    rw [List.length_take, List.length_drop, List.length_map, hL] at this
    omega
  simp only [Nat.reduceAdd] at hlen
  simp -implicitDefEqProofs only [go_sem, Wk_block, Wk_drawnC, reduceCtorEq, Nat.reduceEqDiff, Nat.reduceAdd, Nat.reduceLeDiff, Nat.reduceLT, Nat.reduceMul, Nat.reduceSub, ↓reduceIte, Int.reduceLT, Int.reduceLE, Int.reduceNeg, Int.reduceAdd, Int.reduceEq, Nat.reduceBneDiff, Nat.reduceBEq, Int.reduceToNat, Int.reduceMul, Int.reduceSub, Int.reduceBEq, Int.reduceBNe, fd220, hp, hv, hlen]
  refine loop_ind (fun m ts s' => ∃ (i : Nat) (C : List AV), m = 240 - i ∧ i ≤ 240 ∧ ts.get 12 = some (.int .i64 (i : Int)) ∧ ts.get 11 = some (.agg (L.map u8)) ∧ ts.get 0 = some (.ptr p 0) ∧ ts.get 1 = some (.int .u8 f) ∧ ts.get 2 = some (.int .u8 t) ∧
    C = splice vs 241 ((L.take i).map (trn f t)) ∧ s'.get p = some (.cells C lo false z) ∧ (∀ b, b ≠ p → s'.get b = s.get b) ∧ s'.next = s.next) ?_ (n := 240)
    ⟨0, vs, rfl, by omega, by simp only [Tr.get_set, Nat.reduceEqDiff, ↓reduceIte, Int.cast_ofNat_Int], by simp only [Tr.get_set, Nat.reduceEqDiff, ↓reduceIte, Int.cast_ofNat_Int], by simp only [Tr.get_set, Nat.reduceEqDiff, ↓reduceIte, Int.cast_ofNat_Int], by simp only [Tr.get_set, Nat.reduceEqDiff, ↓reduceIte, Int.cast_ofNat_Int], by simp only [Tr.get_set, Nat.reduceEqDiff, ↓reduceIte, Int.cast_ofNat_Int], by rw [List.take_zero, List.map_nil, splice_nil], hp, fun _ _ => rfl, rfl⟩
  rintro m ts s1 ⟨i, C, rfl, hi, g12, g11, g0, g1, g2, hC, hp1, ho, hn⟩ IH
  by_cases hlt : i < 240
  · have hli : i < L.length := by omega
    have hA : ((L.take i).map (trn f t)).length = i := by rw [List.length_map, List.length_take]; omega
    have hx : (L.map u8)[i]? = some (u8 L[i]) := by rw [List.getElem?_map, List.getElem?_eq_getElem hli]; rfl
    have hvx : vs[241 + i]? = some (u8 L[i]) := by
      have := congrArg (fun l => l[i]?) hv
      simp only [List.getElem?_take_of_lt hlt, List.getElem?_drop] at this
      rw [this, hx]
    have hsn : ((L.take (i + 1)).map (trn f t)) = ((L.take i).map (trn f t)) ++ [trn f t L[i]] := by
      rw [List.take_succ_eq_append_getElem hli, List.map_append, List.map_singleton]
    have h1 := splice_snoc vs ((L.take i).map (trn f t)) 241 (.int .u8 t) (by rw [hA]; omega)
    have h2 := splice_same vs ((L.take i).map (trn f t)) 241 (u8 L[i]) (by rw [hA]; exact hvx)
    have hCl := splice_len vs ((L.take i).map (trn f t)) 241 (by rw [hA]; omega)
    rw [hA, ← hC] at h1
    rw [← hC] at hCl h2
    generalize L[i] = x at hx hsn h2
    have z1 : (0 : Int) ≤ (i : Int) := by omega
    have z2 : (i : Int) < 240 := by omega
    have z3 : 241 + (i + 1) ≤ C.length := by omega
    have wi := succ_in (j := i) (by omega)
    rw [Nat.add_assoc] at h1
    have hx : (L.map u8)[i]? = some (.int .u8 (x : Int)) := hx
    have hdi : decide ((i : Int) < 240) = true := decide_eq_true z2
    cases hc : ((x : Int) == f)
    · have ht : trn f t x = u8 x := by unfold trn; rw [hc]
      simp -implicitDefEqProofs only [go_sem, Wk_block, Wk_drawnC, reduceCtorEq, Nat.reduceEqDiff, Nat.reduceAdd, Nat.reduceLeDiff, Nat.reduceLT, Nat.reduceMul, Nat.reduceSub, ↓reduceIte, Int.reduceLT, Int.reduceLE, Int.reduceNeg, Int.reduceAdd, Int.reduceEq, Nat.reduceBneDiff, Nat.reduceBEq, Int.reduceToNat, Int.reduceMul, Int.reduceSub, Int.reduceBEq, Int.reduceBNe, g12, g11, g0, g1, g2, hdi, hx, z1, z2, hc, wi, Nat.mul_one]
      refine IH (240 - (i + 1)) _ _ (by omega) ⟨i + 1, C, rfl, by omega, ?_, ?_, ?_, ?_, ?_, by rw [hsn, ht, h2], hp1, ho, hn⟩
      · simp only [Tr.get_set, Nat.reduceEqDiff, ↓reduceIte, Int.cast_ofNat_Int]
      · simp only [Tr.get_set, Nat.reduceEqDiff, ↓reduceIte, Int.cast_ofNat_Int, g11]
      · simp only [Tr.get_set, Nat.reduceEqDiff, ↓reduceIte, Int.cast_ofNat_Int, g0]
      · simp only [Tr.get_set, Nat.reduceEqDiff, ↓reduceIte, Int.cast_ofNat_Int, g1]
      · simp only [Tr.get_set, Nat.reduceEqDiff, ↓reduceIte, Int.cast_ofNat_Int, g2]
    · have ht : trn f t x = .int .u8 t := by unfold trn; rw [hc]
      simp -implicitDefEqProofs only [go_sem, Wk_block, Wk_drawnC, reduceCtorEq, Nat.reduceEqDiff, Nat.reduceAdd, Nat.reduceLeDiff, Nat.reduceLT, Nat.reduceMul, Nat.reduceSub, ↓reduceIte, Int.reduceLT, Int.reduceLE, Int.reduceNeg, Int.reduceAdd, Int.reduceEq, Nat.reduceBneDiff, Nat.reduceBEq, Int.reduceToNat, Int.reduceMul, Int.reduceSub, Int.reduceBEq, Int.reduceBNe, g12, g11, g0, g1, g2, hdi, hx, z1, z2, z3, hc, wi, Nat.mul_one, hp1, h1]
      refine IH (240 - (i + 1)) _ _ (by omega) ⟨i + 1, splice vs 241 ((L.take i).map (trn f t) ++ [.int .u8 t]), rfl, by omega, ?_, ?_, ?_, ?_, ?_, by rw [hsn, ht], by rw [St.get_put, if_pos rfl]; rfl, fun b hb => by rw [St.get_put, if_neg hb]; exact ho b hb, hn⟩
      · simp only [Tr.get_set, Nat.reduceEqDiff, ↓reduceIte, Int.cast_ofNat_Int]
      · simp only [Tr.get_set, Nat.reduceEqDiff, ↓reduceIte, Int.cast_ofNat_Int, g11]
      · simp only [Tr.get_set, Nat.reduceEqDiff, ↓reduceIte, Int.cast_ofNat_Int, g0]
      · simp only [Tr.get_set, Nat.reduceEqDiff, ↓reduceIte, Int.cast_ofNat_Int, g1]
      · simp only [Tr.get_set, Nat.reduceEqDiff, ↓reduceIte, Int.cast_ofNat_Int, g2]
  · have : i = 240 := by omega
    subst this
    have hdi : decide (((240 : Nat) : Int) < 240) = false := rfl
    rw [show ((240 : Nat) : Int) = 240 from rfl] at g12
    have hdi2 : decide ((240 : Int) < 240) = false := rfl
    rw [List.take_of_length_le (by omega)] at hC
    simp -implicitDefEqProofs only [go_sem, Wk_block, Wk_drawnC, reduceCtorEq, Nat.reduceEqDiff, Nat.reduceAdd, Nat.reduceLeDiff, Nat.reduceLT, Nat.reduceMul, Nat.reduceSub, ↓reduceIte, Int.reduceLT, Int.reduceLE, Int.reduceNeg, Int.reduceAdd, Int.reduceEq, Nat.reduceBneDiff, Nat.reduceBEq, Int.reduceToNat, Int.reduceMul, Int.reduceSub, Int.reduceBEq, Int.reduceBNe, g12, hdi2]
    exact ⟨by rw [hp1, hC]; rfl, ho, hn⟩

theorem sumTurn_run {args : List AV} {s s' : St} {v : AV} (h : sumTurn args s = some (v, s')) (_ : ∀ b o, s.get b = some o → b < s.next) : Wf mm 220 args s fun v1 s1 => D.Can s v1 s1 v s' := by
  unfold sumTurn at h
  split at h
  case h_2 => cases h
  rename_i p f t
  split at h
  case h_2 => cases h
  rename_i vs lo z hp
  split at h
  case h_2 => cases h
  rename_i L hL
  split at h
  case isFalse => cases h
  rename_i hl
  cases h
  refine (Turn_run (p := p) (z := z) (lo := lo) f t hp (Nat.eq_of_beq_eq_true hl) (decU_some hL).1).mono ?_
  rintro _ s1 ⟨rfl, h1, h2, h3⟩
  refine .old rfl (fun b o hb => ?_) (by simp; omega) (fun b vs' l e hb => ?_)
  · rw [St.get_put] at hb
    by_cases e : b = p
    · subst e; rw [if_pos rfl] at hb; rw [h1]; exact hb
    · rw [if_neg e] at hb; rw [h2 b e]; exact hb
  · rw [St.get_put, if_neg]
    · exact hb
    · intro e'; subst e'; rw [hp] at hb; cases hb
theorem sumTurn_next (args : List AV) (s : St) (v : AV) (s' : St) (hx : sumTurn args s = some (v, s')) : s.next ≤ s'.next := by
  unfold sumTurn at hx
  repeat' split at hx
  all_goals first
    | (cases hx; done)
    | (cases hx; exact Nat.le_refl _)
end Go.Proofs.YteiiblpnegjjlaaGreat.Base
namespace Go.Proofs.YteiiblpnegjjlaaGreat.Base
open D
set_option linter.unusedSimpArgs false
set_option linter.unusedVariables false
set_option maxRecDepth 10000

theorem Bs.mono {s s' : St} {v : AV} {L : List Nat} (h : Bs s v L) (hn : ∀ b o, s.get b = some o → s'.get b = some o) : Bs s' v L where
  len := h.len
  lt := h.lt
  at_ j hj := by
    obtain ⟨b, o, vs, lo, ro, z, h1, h2, h3⟩ := h.at_ j hj
    exact ⟨b, o, vs, lo, ro, z, h1, hn _ _ h2, h3⟩
  src hl := by
    obtain ⟨b, o, c, lo, h1, h2⟩ := h.src hl
    refine ⟨b, o, c, lo, h1, ?_⟩
    obtain ⟨vs, lo2, ro, z, g1, g2, g3⟩ := loadA_some h2
    unfold loadA
    rw [hn _ _ g1]
    simp only [g2, if_true]
    rw [g3]
  cell := h.cell
theorem bs_new {s : St} {p : Nat} {L : List Nat} {c : Nat} {z : Nat} {ro lo : Bool} {lo2 : Bool} (h : s.get p = some (.cells (L.map u8) lo2 ro z)) (hl : ∀ x ∈ L, x < 256) : Bs s (.slice p 0 L.length c lo) L where
  len _ := rfl
  lt := hl
  at_ j hj := ⟨p, 0, L.map u8, lo2, ro, z, fun s' => by rw [idx1_slice hj, Nat.mul_one], h, by rw [Nat.zero_add, List.getElem?_map, List.getElem?_eq_getElem hj]; rfl⟩
  src _ := ⟨p, 0, c, lo, rfl, by unfold loadA; rw [h]; simp [List.take_of_length_le]⟩
  cell := ⟨rfl, rfl⟩

theorem Clone_eq {s : St} {v : AV} {L : List Nat} (h : Bs s v L) (h0 : 0 < L.length) (hl : L.length < 1000000000) (hd : ∀ b o, s.get b = some o → b < s.next) :
    mm.L.call 39 [v] s = some (.slice (s.next + 1) 0 L.length L.length true, (s.new (.cells [] false false 0)).new (.cells (L.map u8) true false 1)) := by
  obtain ⟨b, o, c, lo, rfl, hsrc⟩ := h.src h0
  obtain ⟨vs, lo2, ro, z, g1, g2, g3⟩ := loadA_some hsrc
  have hbn := hd _ _ g1
  refine of_Wf (Wf_enter ft39 (sm (by decide)) (by rfl) ?_)
  have ft : (false == true) = false := rfl
  have hs : srcA (s.new (.cells [] false false 0)) 1 (.slice b o L.length c lo) = some (L.length, L.map u8) := by
    show (match loadA (s.new (.cells [] false false 0)) b o (L.length * 1) with | some l => some (L.length, l) | none => none) = _
    rw [Nat.mul_one]
    unfold loadA at hsrc ⊢
    rw [St.get_new, if_neg (by omega), hsrc]
  have ha : appendA 1 1 (s.new (.cells [] false false 0)) (.slice s.next 0 0 0 false) L.length (L.map u8) = some (.slice (s.next + 1) 0 L.length L.length true, (s.new (.cells [] false false 0)).new (.cells (L.map u8) true false 1)) := by
    unfold appendA
    have hlo : loadA (s.new (.cells [] false false 0)) s.next 0 (0 * 1) = some [] := by unfold loadA; rw [St.get_new, if_pos rfl]; simp
    simp only [Nat.zero_add, hlo]
    rw [if_neg (by omega), if_pos (by omega)]
    simp [newA]
  have hlen : (L.map u8).length = L.length * 1 := by simp
  simp -implicitDefEqProofs only [go_sem, Wk_block, Wk_drawnC, reduceCtorEq, Nat.reduceEqDiff, Nat.reduceAdd, Nat.reduceLeDiff, Nat.reduceLT, Nat.reduceMul, Nat.reduceSub, ↓reduceIte, Int.reduceLT, Int.reduceLE, Int.reduceNeg, Int.reduceAdd, Int.reduceEq, Nat.reduceBneDiff, Nat.reduceBEq, Int.reduceToNat, Int.reduceMul, Int.reduceSub, Int.reduceBEq, Int.reduceBNe, fd39, ft, hs, ha, hlen]

/-- The loop that goes through bytes from behind. -/
theorem BackB_run (L : List Nat) (hL : L.length < 1000000000) {v : AV} {r p : Nat} {s : St} (Inv : Nat → St → Prop)
    (hI : ∀ j s1, Inv j s1 → s1.get p = some (.cells [v] false false 0) ∧ Bs s1 v L)
    (hrd : ∀ j (hj : j < L.length) s1, s.next ≤ s1.next → Inv j s1 → Round mm r [.int .i64 ((L.length - 1 - j : Nat) : Int), u8 (L[L.length - 1 - j]'(by omega))] s1 fun b s2 => b = true ∧ s1.next ≤ s2.next ∧ Inv (j + 1) s2)
    (h0 : Inv 0 s) : Wf mm 78 [.yld r, .ptr p 0] s fun _ s' => s.next ≤ s'.next ∧ Inv L.length s' := by
  refine Wf_enter ft78 (sm (by decide)) (by rfl) ?_
  obtain ⟨hp, hv⟩ := hI 0 s h0
  have hl := hv.len
  simp -implicitDefEqProofs only [go_sem, Wk_block, Wk_drawnC, reduceCtorEq, Nat.reduceEqDiff, Nat.reduceAdd, Nat.reduceLeDiff, Nat.reduceLT, Nat.reduceMul, Nat.reduceSub, ↓reduceIte, Int.reduceLT, Int.reduceLE, Int.reduceNeg, Int.reduceAdd, Int.reduceEq, Nat.reduceBneDiff, Nat.reduceBEq, Int.reduceToNat, Int.reduceMul, Int.reduceSub, Int.reduceBEq, Int.reduceBNe, fd78, hp, hl]
  refine loop_ind (fun m ts s' => ∃ j : Nat, m = L.length - j ∧ j ≤ L.length ∧ ts.get 3 = some (.int .i64 ((L.length : Int) - 1 - (j : Int))) ∧ ts.get 0 = some (.yld r) ∧ ts.get 1 = some (.ptr p 0) ∧ s.next ≤ s'.next ∧ Inv j s') ?_ (n := L.length)
    ⟨0, rfl, by omega, by simp only [Tr.get_set, Nat.reduceEqDiff, ↓reduceIte, Int.cast_ofNat_Int]; rw [i64_in (by omega) (by omega)]; simp, by simp only [Tr.get_set, Nat.reduceEqDiff, ↓reduceIte, Int.cast_ofNat_Int], by simp only [Tr.get_set, Nat.reduceEqDiff, ↓reduceIte, Int.cast_ofNat_Int], Nat.le_refl _, h0⟩
  rintro m ts s1 ⟨j, rfl, hj, g3, g0, g1, hn, hi⟩ IH
  by_cases hlt : j < L.length
  · obtain ⟨hp1, hv1⟩ := hI j s1 hi
    obtain ⟨i, hie⟩ : ∃ i : Nat, i = L.length - 1 - j := ⟨_, rfl⟩
    have hic : ((L.length : Int) - 1 - (j : Int)) = (i : Int) := by omega
    rw [hic] at g3
    obtain ⟨b, o, vs, lo2, ro, z, hidx, hg, hgi⟩ := hv1.at_ i (by omega)
    have hge : decide ((i : Int) ≥ 0) = true := decide_eq_true (by omega)
    have wi : IntKind.i64.wrap ((i : Int) - 1) = (i : Int) - 1 := i64_in (by omega) (by omega)
    have hr1 := hrd j hlt s1 hn hi
    simp -implicitDefEqProofs only [go_sem, Wk_block, Wk_drawnC, reduceCtorEq, Nat.reduceEqDiff, Nat.reduceAdd, Nat.reduceLeDiff, Nat.reduceLT, Nat.reduceMul, Nat.reduceSub, ↓reduceIte, Int.reduceLT, Int.reduceLE, Int.reduceNeg, Int.reduceAdd, Int.reduceEq, Nat.reduceBneDiff, Nat.reduceBEq, Int.reduceToNat, Int.reduceMul, Int.reduceSub, Int.reduceBEq, Int.reduceBNe, g3, g0, g1, hp1, hge, hidx, hg, hgi]
    refine Wc_yld ?_
    have e1 : L.length - 1 - j = i := hie.symm
    simp only [e1] at hr1
    refine hr1.mono ?_
    rintro bb s2 ⟨rfl, hn2, hi2⟩
    simp -implicitDefEqProofs only [go_sem, Wk_block, Wk_drawnC, reduceCtorEq, Nat.reduceEqDiff, Nat.reduceAdd, Nat.reduceLeDiff, Nat.reduceLT, Nat.reduceMul, Nat.reduceSub, ↓reduceIte, Int.reduceLT, Int.reduceLE, Int.reduceNeg, Int.reduceAdd, Int.reduceEq, Nat.reduceBneDiff, Nat.reduceBEq, Int.reduceToNat, Int.reduceMul, Int.reduceSub, Int.reduceBEq, Int.reduceBNe, g3, wi]
    refine IH (L.length - (j + 1)) _ _ (by omega) ⟨j + 1, rfl, by omega, ?_, ?_, ?_, by omega, hi2⟩
    · rw [show ((L.length : Int) - 1 - ((j + 1 : Nat) : Int)) = (i : Int) - 1 by omega]
      simp only [Tr.get_set, Nat.reduceEqDiff, ↓reduceIte, Int.cast_ofNat_Int]
    · simp only [Tr.get_set, Nat.reduceEqDiff, ↓reduceIte, Int.cast_ofNat_Int, g0]
    · simp only [Tr.get_set, Nat.reduceEqDiff, ↓reduceIte, Int.cast_ofNat_Int, g1]
  · have : j = L.length := by omega
    subst this
    have hge : decide ((L.length : Int) - 1 - (L.length : Int) ≥ 0) = false := decide_eq_false (by omega)
    simp -implicitDefEqProofs only [go_sem, Wk_block, Wk_drawnC, reduceCtorEq, Nat.reduceEqDiff, Nat.reduceAdd, Nat.reduceLeDiff, Nat.reduceLT, Nat.reduceMul, Nat.reduceSub, ↓reduceIte, Int.reduceLT, Int.reduceLE, Int.reduceNeg, Int.reduceAdd, Int.reduceEq, Nat.reduceBneDiff, Nat.reduceBEq, Int.reduceToNat, Int.reduceMul, Int.reduceSub, Int.reduceBEq, Int.reduceBNe, g3, hge]
    exact ⟨hn, hi⟩
theorem BackwardB_eq (v : AV) (s : St) (hc : v.cells = [v]) : mm.L.call 56 [v] s = some (.fn (.func 78) [] [.ptr s.next 0], s.new (.cells [v] false false 0)) := by
  refine of_Wf (Wf_enter ft56 (sm (by decide)) (by rfl) ?_)
  simp -implicitDefEqProofs only [go_sem, Wk_block, Wk_drawnC, reduceCtorEq, Nat.reduceEqDiff, Nat.reduceAdd, Nat.reduceLeDiff, Nat.reduceLT, Nat.reduceMul, Nat.reduceSub, ↓reduceIte, Int.reduceLT, Int.reduceLE, Int.reduceNeg, Int.reduceAdd, Int.reduceEq, Nat.reduceBneDiff, Nat.reduceBEq, Int.reduceToNat, Int.reduceMul, Int.reduceSub, Int.reduceBEq, Int.reduceBNe, fd56, hc]

theorem bound_nat {k n : Nat} (h : k ≤ n) : boundA (.int .i64 (k : Int)) n = some k := by
  show (if 0 ≤ (k : Int) ∧ (k : Int) ≤ (n : Int) then some ((k : Int).toNat) else none) = some k
  rw [if_pos ⟨by omega, by omega⟩]
  simp

theorem leN_lt : ∀ (L : List Nat), (∀ x ∈ L, x < 256) → leN L < 256 ^ L.length
  | [], _ => by simp [leN]
  | c :: r, h => by
    have h1 := leN_lt r fun x hx => h x (List.mem_cons_of_mem _ hx)
    have h2 := h c (List.mem_cons_self ..)
    rw [List.length_cons, Nat.pow_succ, leN]
    omega
theorem shl_u64 {n : Nat} (h : n < 72057594037927936) : IntKind.u64.wrap ((n : Int) * 2 ^ 8) = ((n * 256 : Nat) : Int) := by
  rw [show (n : Int) * 2 ^ 8 = ((n * 256 : Nat) : Int) by omega]
  exact u64_in (by omega) (by omega)
theorem or_u64 {n c : Nat} (h : n < 72057594037927936) (hc : c < 256) : IntKind.u64.wrap ((BitVec.ofInt IntKind.u64.bits ((n * 256 : Nat) : Int) ||| BitVec.ofInt IntKind.u64.bits (c : Int)).toNat : Nat) = ((c + 256 * n : Nat) : Int) := by
  have h1 : (BitVec.ofInt IntKind.u64.bits ((n * 256 : Nat) : Int)).toNat = n * 256 := by
    simp [IntKind.bits]; omega
  have h2 : (BitVec.ofInt IntKind.u64.bits (c : Int)).toNat = c := by
    simp [IntKind.bits]; omega
  rw [BitVec.toNat_or, h1, h2]
  have h3 : n * 256 ||| c = c + 256 * n := by
    have := Nat.shiftLeft_add_eq_or_of_lt (i := 8) (b := c) (by omega) n
    rw [Nat.shiftLeft_eq] at this
    rw [show (2 : Nat) ^ 8 = 256 from rfl] at this
    omega
  rw [h3]
  exact u64_in (by omega) (by omega)

theorem Take_run {q z w : Nat} {lo fl : Bool} {rest : AV} {L : List Nat} {s : St} (hq : s.get q = some (.cells [rest, .bool fl] lo false z)) (hd : ∀ b o, s.get b = some o → b < s.next) (hB : Bs s rest L) (hw : 0 < w) (hL : L.length < 1000000000) (hcap : ∀ b o n c lo, rest = .slice b o n c lo → n ≤ c) :
    Wf mm 41 [.ptr q 0, .int .i64 (w : Int)] s fun v s' => s'.next ≤ s.next + 2 ∧ s.next ≤ s'.next ∧ (∀ b, b < s.next → b ≠ q → s'.get b = s.get b) ∧ v.cells = [v] ∧
      (((fl = true ∨ L.length < w) ∧ v = .nilSlice ∧ s'.get q = some (.cells [rest, .bool true] lo false z)) ∨
        (fl = false ∧ w ≤ L.length ∧ ∃ rest', sliceA 1 rest (some (.int .i64 (w : Int))) none none = some rest' ∧ s'.get q = some (.cells [rest', .bool false] lo false z) ∧ v = .slice (s.next + 1) 0 w w true ∧ s'.get (s.next + 1) = some (.cells ((L.take w).map u8) true false 1) ∧ s'.next = s.next + 2)) := by
  refine Wf_enter ft41 (sm (by decide)) (by rfl) ?_
  have hqn := hd _ _ hq
  have hce := hB.cell
  have ft : (false == true) = false := rfl
  have tf : (true == false) = false := rfl
  cases fl with
  | true =>
    simp -implicitDefEqProofs only [go_sem, Wk_block, Wk_drawnC, reduceCtorEq, Nat.reduceEqDiff, Nat.reduceAdd, Nat.reduceLeDiff, Nat.reduceLT, Nat.reduceMul, Nat.reduceSub, ↓reduceIte, Int.reduceLT, Int.reduceLE, Int.reduceNeg, Int.reduceAdd, Int.reduceEq, Nat.reduceBneDiff, Nat.reduceBEq, Int.reduceToNat, Int.reduceMul, Int.reduceSub, Int.reduceBEq, Int.reduceBNe, fd41, hq, ft, tf, hce]
    exact ⟨Nat.le_add_right _ _, Nat.le_refl _, fun b h1 h2 => if_neg h2, .inl (.inl trivial)⟩
  | false =>
    have c1 : decide ((w : Int) < 0) = false := decide_eq_false (by omega)
    by_cases hlt : L.length < w
    · have c2 : decide ((w : Int) > (L.length : Int)) = true := decide_eq_true (by omega)
      have c3 : decide (L.length < w) = true := decide_eq_true hlt
      simp -implicitDefEqProofs only [go_sem, Wk_block, Wk_drawnC, reduceCtorEq, Nat.reduceEqDiff, Nat.reduceAdd, Nat.reduceLeDiff, Nat.reduceLT, Nat.reduceMul, Nat.reduceSub, ↓reduceIte, Int.reduceLT, Int.reduceLE, Int.reduceNeg, Int.reduceAdd, Int.reduceEq, Nat.reduceBneDiff, Nat.reduceBEq, Int.reduceToNat, Int.reduceMul, Int.reduceSub, Int.reduceBEq, Int.reduceBNe, fd41, hq, ft, tf, hce, hB.len, c1, c2, c3]
      exact ⟨Nat.le_add_right _ _, Nat.le_refl _, fun b h1 h2 => if_neg h2, .inl (.inr hlt)⟩
    · have c2 : decide ((w : Int) > (L.length : Int)) = false := decide_eq_false (by omega)
      have c3 : decide (L.length < w) = false := decide_eq_false hlt
      obtain ⟨b, o, c, lo2, rfl, hsrc⟩ := hB.src (by omega)
      have hcl := hcap _ _ _ _ _ rfl
      have b1 : boundsA L.length c none (some (.int .i64 (w : Int))) none = some (0, w, c) := by
        unfold boundsA
        simp only [bound_nat (show w ≤ c by omega)]
      have b2 : boundsA L.length c (some (.int .i64 (w : Int))) none none = some (w, L.length, c) := by
        unfold boundsA
        simp only [hcl, if_true, bound_nat (show w ≤ L.length by omega)]
      have s1 : sliceA 1 (.slice b o L.length c lo2) none (some (.int .i64 (w : Int))) none = some (.slice b o w c lo2) := by
        unfold sliceA
        simp only [b1]
        have : ¬ c = 0 := by omega
        cases lo2 <;> simp [this]
      obtain ⟨rest', hr', hce'⟩ : ∃ rest', sliceA 1 (.slice b o L.length c lo2) (some (.int .i64 (w : Int))) none none = some rest' ∧ rest'.cells = [rest'] ∧ rest'.cell = true := by
        unfold sliceA
        simp only [b2]
        cases lo2
        · exact ⟨_, rfl, rfl, rfl⟩
        · by_cases hcw : c = w
          · exact ⟨.tail b o (w * 1), by simp [hcw], rfl, rfl⟩
          · exact ⟨.slice b (o + w * 1) (L.length - w) (c - w) true, by simp [hcw], rfl, rfl⟩
      have hB1 : Bs s (.slice b o w c lo2) (L.take w) := by
        have hl : (L.take w).length = w := by rw [List.length_take]; omega
        obtain ⟨vs, lo3, ro, z3, g1, g2, g3⟩ := loadA_some hsrc
        have h2 : loadA s b o w = some ((L.take w).map u8) := by
          unfold loadA
          rw [g1]
          simp only
          rw [if_pos (by omega), List.map_take, g3, List.take_take, Nat.min_eq_left (by omega)]
        refine ⟨fun _ => by rw [hl]; rfl, fun x hx => hB.lt x (List.mem_of_mem_take hx), fun j hj => ?_, fun _ => ⟨b, o, c, lo2, by rw [hl], by rw [hl]; exact h2⟩, rfl, rfl⟩
        rw [hl] at hj
        obtain ⟨b', o', vs', lo', ro', z', q1, q2, q3⟩ := hB.at_ j (by omega)
        have := q1 s
        rw [idx1_slice (by omega)] at this
        simp only [Option.some.injEq, Prod.mk.injEq, AV.ptr.injEq, and_true, Nat.mul_one] at this
        obtain ⟨rfl, e2⟩ := this
        refine ⟨b, o', vs', lo', ro', z', fun s' => by rw [idx1_slice hj, Nat.mul_one, show o + j = o' + j from e2], q2, ?_⟩
        rw [List.getElem_take]; exact q3
      have hcq := Clone_eq hB1 (by rw [List.length_take]; omega) (by rw [List.length_take]; omega) hd
      have hl : (L.take w).length = w := by rw [List.length_take]; omega
      rw [hl] at hcq
      have k1 : ¬ q = s.next := by omega
      have k2 : ¬ q = s.next + 1 := by omega
      simp -implicitDefEqProofs only [go_sem, Wk_block, Wk_drawnC, reduceCtorEq, Nat.reduceEqDiff, Nat.reduceAdd, Nat.reduceLeDiff, Nat.reduceLT, Nat.reduceMul, Nat.reduceSub, ↓reduceIte, Int.reduceLT, Int.reduceLE, Int.reduceNeg, Int.reduceAdd, Int.reduceEq, Nat.reduceBneDiff, Nat.reduceBEq, Int.reduceToNat, Int.reduceMul, Int.reduceSub, Int.reduceBEq, Int.reduceBNe, fd41, hq, ft, tf, hce, hB.len, c1, c2, c3, s1, Wl_eq hcq, k1, k2, hr', hce']
      refine ⟨by simp, by simp, fun b' h1 h2 => ?_, .inr ⟨by omega, rest', rfl, rfl, if_neg (by omega)⟩⟩
      rw [if_neg h2, if_neg (by omega), if_neg (by omega)]

theorem drop_leN (L : List Nat) (j : Nat) (h : j < L.length) : leN (L.drop (L.length - (j + 1))) = L[L.length - 1 - j]'(by omega) + 256 * leN (L.drop (L.length - j)) := by
  have e : L.length - (j + 1) = L.length - 1 - j := by omega
  have e2 : L.length - 1 - j + 1 = L.length - j := by omega
  rw [e, List.drop_eq_getElem_cons (by omega), leN, e2]
def Pv (s : St) (e : Nat) (v : AV) (L : List Nat) : Prop := (v = .nilSlice ∧ L = []) ∨ ∃ pv, v = .slice pv 0 L.length L.length true ∧ s.get pv = some (.cells (L.map u8) true false 1) ∧ pv < e
theorem Pv.bs {s : St} {e : Nat} {v : AV} {L : List Nat} (h : Pv s e v L) (hl : ∀ x ∈ L, x < 256) : Bs s v L := by
  rcases h with ⟨rfl, rfl⟩ | ⟨pv, rfl, h1, _⟩
  · exact ⟨fun _ => rfl, by simp, fun j h => by simp at h, fun h => by simp at h, rfl, rfl⟩
  · exact bs_new h1 hl
theorem Pv.mono {s s' : St} {e : Nat} {v : AV} {L : List Nat} (h : Pv s e v L) {a : Nat} (ha : ∀ pv, s.get pv = some (.cells (L.map u8) true false 1) → pv ≠ a) (hg : ∀ b, b < e → b ≠ a → s'.get b = s.get b) : Pv s' e v L := by
  rcases h with h | ⟨pv, h1, h2, h3⟩
  · exact .inl h
  · exact .inr ⟨pv, h1, (hg pv h3 (ha pv h2)).trans h2, h3⟩

theorem Loop_run {a p w : Nat} {v : AV} {L : List Nat} {ts : Tr AV} {s : St} (hl : ∀ x ∈ L, x < 256) (hL8 : L.length ≤ 8) (g5 : ts.get 5 = some (.ptr a 0)) (g17 : ts.get 17 = some (.fn (.func 78) [] [.ptr p 0])) (ha : s.get a = some (.cells [.int .u64 0] false false 0)) (hp : s.get p = some (.cells [v] false false 0))
    (hap : a < s.next) (hpp : p < s.next) (hne : a ≠ p) (hv : Pv s s.next v L) {k : List Fk} {Q : Post}
    (hQ : ∀ s', s'.get a = some (.cells [.int .u64 ((leN L : Nat) : Int)] false false 0) → s'.get s.next = some .defd → s'.next = s.next + 2 → (∀ b, b < s.next → b ≠ a → s'.get b = s.get b) → Wr mm none k .normal ts [s.next] s' Q) :
    Wk mm none k (.rangeF (.t 17) [18, 19] (.region [⟨some 7, .move (.t 19), none⟩]) (.block 1 (.region [⟨some 20, .load1 (.t 5), none⟩, ⟨some 21, .bin .shl .no (.t 20) (.c (.int .u64 8)), none⟩, ⟨some 22, .move (.t 7), none⟩, ⟨some 23, .convInt .u64 (.t 22), none⟩,
      ⟨some 24, .bin .or .no (.t 21) (.t 23), none⟩, ⟨none, .store 1 (.t 5) (.t 24), none⟩]))) ts [] s Q := by
  refine Wk_range g17 ?_
  obtain ⟨e, he⟩ : ∃ e, s.next = e := ⟨_, rfl⟩
  rw [he]
  generalize hasn : PC.region [⟨some 7, POp.move (X.t 19), none⟩] = asn
  generalize hbd : PC.block 1 _ = bd
  have hg2 : ∀ b, b < e → ((s.new .defd).new (.loop .ready .normal ts [18, 19] asn bd e)).get b = s.get b := fun b hb => by
    rw [St.get_new, if_neg (by simp only [St.next_new]; omega), St.get_new, if_neg (by omega)]
  have hd2 : ((s.new .defd).new (.loop .ready .normal ts [18, 19] asn bd e)).get e = some .defd := by rw [St.get_new, if_neg (by simp only [St.next_new]; omega), St.get_new, if_pos he.symm]
  have hl2 : ((s.new .defd).new (.loop .ready .normal ts [18, 19] asn bd e)).get (e + 1) = some (.loop .ready .normal ts [18, 19] asn bd e) := by rw [St.get_new, if_pos (by simp only [St.next_new]; omega)]
  have hn2 : ((s.new .defd).new (.loop .ready .normal ts [18, 19] asn bd e)).next = e + 2 := by simp only [St.next_new]; omega
  generalize (s.new .defd).new (.loop .ready .normal ts [18, 19] asn bd e) = s2 at hg2 hd2 hl2 hn2 ⊢
  have hpa : ∀ pv, s.get pv = some (.cells (L.map u8) true false 1) → pv ≠ a := fun pv h1 e1 => by
    subst e1; rw [ha] at h1; simp at h1
  refine (BackB_run L (by omega) (v := v) (r := e + 1) (p := p) (s := s2)
    (fun j s' => s'.get (e + 1) = some (.loop .ready .normal ts [18, 19] asn bd e) ∧ s'.get e = some .defd ∧ s'.get a = some (.cells [.int .u64 ((leN (L.drop (L.length - j)) : Nat) : Int)] false false 0) ∧ (∀ b, b < e → b ≠ a → s'.get b = s.get b) ∧ s'.next = e + 2)
    (fun j s' h => ⟨(h.2.2.2.1 p (by omega) (fun e1 => hne e1.symm)).trans hp, (hv.mono hpa fun b hb hba => h.2.2.2.1 b (by omega) hba).bs hl⟩) ?_ ?_).mono ?_
  · rintro j hj s3 hn3 ⟨h1, h2, h3, h4, h5⟩
    refine Round_of h1 rfl ?_
    rw [← hasn]
    have hdl := drop_leN L j hj
    have hxl := hl (L[L.length - 1 - j]'(by omega)) (List.getElem_mem _)
    have hnl : leN (L.drop (L.length - j)) < 72057594037927936 := by
      have h1 := leN_lt (L.drop (L.length - j)) fun x hx => hl x (List.mem_of_mem_drop hx)
      rw [List.length_drop] at h1
      have h2 : 256 ^ (L.length - (L.length - j)) ≤ 256 ^ 7 := Nat.pow_le_pow_right (by omega) (by omega)
      have h3 : (256 : Nat) ^ 7 = 72057594037927936 := rfl
      omega
    generalize L[L.length - 1 - j]'(by omega) = x at hdl hxl ⊢
    generalize leN (L.drop (L.length - j)) = n at hdl hnl h3
    unfold u8
    simp -implicitDefEqProofs only [go_sem, Wk_block, Wk_drawnC, reduceCtorEq, Nat.reduceEqDiff, Nat.reduceAdd, Nat.reduceLeDiff, Nat.reduceLT, Nat.reduceMul, Nat.reduceSub, ↓reduceIte, Int.reduceLT, Int.reduceLE, Int.reduceNeg, Int.reduceAdd, Int.reduceEq, Nat.reduceBneDiff, Nat.reduceBEq, Int.reduceToNat, Int.reduceMul, Int.reduceSub, Int.reduceBEq, Int.reduceBNe, Wr_nil, h1, setTs]
    refine ⟨_, _, _, _, _, _, rfl, ?_⟩
    have q1 : a ≠ e + 1 := by omega
    rw [← hbd]
    have wx : IntKind.u64.wrap (x : Int) = (x : Int) := u64_in (by omega) (by omega)
    have hm8 : min (8 : Int).toNat IntKind.u64.bits = 8 := rfl
    have hor : IntKind.u64.wrap ((BitVec.ofInt 64 ((n * 256 : Nat) : Int) ||| BitVec.ofInt 64 (x : Int)).toNat : Nat) = ((x + 256 * n : Nat) : Int) := or_u64 hnl hxl
    have hsh : IntKind.u64.wrap ((n : Int) * 2 ^ min 8 64) = ((n * 256 : Nat) : Int) := shl_u64 hnl
    simp -implicitDefEqProofs only [go_sem, Wk_block, Wk_drawnC, reduceCtorEq, Nat.reduceEqDiff, Nat.reduceAdd, Nat.reduceLeDiff, Nat.reduceLT, Nat.reduceMul, Nat.reduceSub, ↓reduceIte, Int.reduceLT, Int.reduceLE, Int.reduceNeg, Int.reduceAdd, Int.reduceEq, Nat.reduceBneDiff, Nat.reduceBEq, Int.reduceToNat, Int.reduceMul, Int.reduceSub, Int.reduceBEq, Int.reduceBNe, g5, h3, q1, wx, hm8, hsh, hor, Wr_nil]
    refine ⟨_, _, _, _, _, _, _, by rw [St.get_put, if_neg (by omega), St.get_put, if_pos rfl], ?_⟩
    refine ⟨rfl, Nat.le_refl _, by rw [St.get_put, if_pos rfl, hasn, hbd], ?_, ?_, fun b hb hba => ?_, h5⟩
    · rw [St.get_put, if_neg (by omega), St.get_put, if_neg (by omega), St.get_put, if_neg (by omega)]; exact h2
    · rw [St.get_put, if_neg (by omega), St.get_put, if_pos rfl, hdl]
      exact congrArg (fun z => some (AObj.cells [AV.int .u64 z] false false 0)) hor
    · rw [St.get_put, if_neg (by omega), St.get_put, if_neg hba, St.get_put, if_neg (by omega)]; exact h4 b hb hba
  · refine ⟨hl2, hd2, ?_, fun b hb _ => hg2 b hb, hn2⟩
    rw [hg2 a (by omega), ha, Nat.sub_zero, List.drop_length]
    rfl
  · rintro w s3 ⟨hle, h1, h2, h3, h4, h5⟩
    refine ⟨_, _, _, _, _, _, _, h1, (by intro h; cases h), ?_⟩
    rw [Nat.sub_self, List.drop_zero] at h3
    have := hQ (s3.put (e + 1) (.loop .exhausted .normal ts [18, 19] asn bd e)) (by rw [St.get_put, if_neg (by omega)]; exact h3) (by rw [he, St.get_put, if_neg (by omega)]; exact h2) (by rw [he]; exact h5) fun b hb hba => by rw [St.get_put, if_neg (by omega)]; exact h4 b (by omega) hba
    rw [he] at this
    exact this

theorem Num_run {q z w : Nat} {lo fl : Bool} {rest : AV} {L : List Nat} {s : St} (hq : s.get q = some (.cells [rest, .bool fl] lo false z)) (hd : ∀ b o, s.get b = some o → b < s.next) (hB : Bs s rest L) (hok : okW (w : Int) = true) (hw : 0 < w) (hw8 : w ≤ 8) (hL : L.length < 1000000000)
    (hcap : ∀ b o n c lo, rest = .slice b o n c lo → n ≤ c) :
    Wf mm 40 [.ptr q 0, .int .i64 (w : Int)] s fun v s' => s'.next ≤ s.next + 10 ∧ s.next ≤ s'.next ∧ (∀ b, b < s.next → b ≠ q → s'.get b = s.get b) ∧
      (((fl = true ∨ L.length < w) ∧ v = .int .u64 0 ∧ s'.get q = some (.cells [rest, .bool true] lo false z)) ∨
        (fl = false ∧ w ≤ L.length ∧ v = .int .u64 ((leN (L.take w) : Nat) : Int) ∧ ∃ rest', sliceA 1 rest (some (.int .i64 (w : Int))) none none = some rest' ∧ s'.get q = some (.cells [rest', .bool false] lo false z))) := by
  refine Wf_enter ft40 (sm (by decide)) (by rfl) ?_
  have hqn := hd _ _ hq
  obtain ⟨a, ha⟩ : ∃ a, s.next = a := ⟨_, rfl⟩
  have hqa : ¬ q = s.next := by omega
  simp -implicitDefEqProofs only [go_sem, Wk_block, Wk_drawnC, reduceCtorEq, Nat.reduceEqDiff, Nat.reduceAdd, Nat.reduceLeDiff, Nat.reduceLT, Nat.reduceMul, Nat.reduceSub, ↓reduceIte, Int.reduceLT, Int.reduceLE, Int.reduceNeg, Int.reduceAdd, Int.reduceEq, Nat.reduceBneDiff, Nat.reduceBEq, Int.reduceToNat, Int.reduceMul, Int.reduceSub, Int.reduceBEq, Int.reduceBNe, fd40, Wl_eq (right_eq _ _), hok]
  have hd1 : ∀ b o, (s.new (.cells [.int .u64 0] false false 0)).get b = some o → b < (s.new (.cells [.int .u64 0] false false 0)).next := fun b o h => by
    rw [St.get_new] at h
    by_cases e : b = s.next
    · simp; omega
    · rw [if_neg e] at h
      have := hd b o h
      simp; omega
  have hq1 : (s.new (.cells [.int .u64 0] false false 0)).get q = some (.cells [rest, .bool fl] lo false z) := by rw [St.get_new, if_neg hqa]; exact hq
  have hB1 := hB.mono (s' := s.new (.cells [.int .u64 0] false false 0)) fun b o h => by
    rw [St.get_new, if_neg (by have := hd b o h; omega)]; exact h
  refine Wl_of (Take_run hq1 hd1 hB1 hw hL hcap) ?_
  rintro v s2 ⟨n1, n2, hg, hce, hcs⟩
  simp only [St.next_new] at n1 n2 hg hcs
  have ga : s2.get a = some (.cells [.int .u64 0] false false 0) := by rw [hg a (by omega) (by omega), St.get_new, if_pos ha.symm]
  obtain ⟨L', hl', hL', hPv, hcase⟩ : ∃ L' : List Nat, (∀ x ∈ L', x < 256) ∧ L'.length ≤ 8 ∧ Pv (s2.new (.cells [v] false false 0)) (s2.next + 1) v L' ∧ ((L' = [] ∧ (fl = true ∨ L.length < w)) ∨ (L' = L.take w ∧ fl = false ∧ w ≤ L.length)) := by
    rcases hcs with ⟨h1, rfl, _⟩ | ⟨h1, h2, r', h3, h4, rfl, h5, h55⟩
    · exact ⟨[], by simp, by simp, .inl ⟨rfl, rfl⟩, .inl ⟨rfl, h1⟩⟩
    · have hl : (L.take w).length = w := by rw [List.length_take]; omega
      have hlt2 : s.next + 1 + 1 < s2.next := by
        omega
      exact ⟨L.take w, fun x hx => hB.lt x (List.mem_of_mem_take hx), by omega, .inr ⟨s.next + 1 + 1, by rw [hl], by rw [St.get_new, if_neg (by omega)]; exact h5, by omega⟩, .inr ⟨rfl, h1, h2⟩⟩
  have hsn : s2.next = s2.next := rfl
  simp -implicitDefEqProofs only [go_sem, Wk_block, Wk_drawnC, reduceCtorEq, Nat.reduceEqDiff, Nat.reduceAdd, Nat.reduceLeDiff, Nat.reduceLT, Nat.reduceMul, Nat.reduceSub, ↓reduceIte, Int.reduceLT, Int.reduceLE, Int.reduceNeg, Int.reduceAdd, Int.reduceEq, Nat.reduceBneDiff, Nat.reduceBEq, Int.reduceToNat, Int.reduceMul, Int.reduceSub, Int.reduceBEq, Int.reduceBNe, Wl_eq (BackwardB_eq v _ hce)]
  refine Loop_run (a := a) (p := s2.next) (w := w) (v := v) (L := L') hl' hL' (by simp only [go_sem, Wk_block, Wk_drawnC, reduceCtorEq, Nat.reduceEqDiff, Nat.reduceAdd, Nat.reduceLeDiff, Nat.reduceLT, Nat.reduceMul, Nat.reduceSub, ↓reduceIte, Int.reduceLT, Int.reduceLE, Int.reduceNeg, Int.reduceAdd, Int.reduceEq, Nat.reduceBneDiff, Nat.reduceBEq, Int.reduceToNat, Int.reduceMul, Int.reduceSub, Int.reduceBEq, Int.reduceBNe, ha]) (by simp only [Tr.get_set, Nat.reduceEqDiff, ↓reduceIte, Int.cast_ofNat_Int]) (by rw [St.get_new, if_neg (by omega)]; exact ga) (by rw [St.get_new, if_pos rfl]) (by simp only [St.next_new]; omega) (by simp only [St.next_new]; omega) (by omega) (by simp only [St.next_new]; exact hPv) ?_
  rintro s3 k1 k2 k3 k4
  simp only [St.next_new] at k2 k3 k4
  have k5 : ∀ b, b < s2.next → b ≠ a → s3.get b = s2.get b := fun b h1 h2 => by rw [k4 b (by omega) h2, St.get_new, if_neg (by omega)]
  have q1 : ¬ a = s2.next + 1 := by omega
  simp -implicitDefEqProofs only [go_sem, Wk_block, Wk_drawnC, reduceCtorEq, Nat.reduceEqDiff, Nat.reduceAdd, Nat.reduceLeDiff, Nat.reduceLT, Nat.reduceMul, Nat.reduceSub, ↓reduceIte, Int.reduceLT, Int.reduceLE, Int.reduceNeg, Int.reduceAdd, Int.reduceEq, Nat.reduceBneDiff, Nat.reduceBEq, Int.reduceToNat, Int.reduceMul, Int.reduceSub, Int.reduceBEq, Int.reduceBNe, ha, k1, k2, q1, St.get_drop]
  have hqq : s3.get q = s2.get q := k5 q (by omega) (by omega)
  refine ⟨by first | omega | (simp only [St.next_drop]; omega), by first | omega | (simp only [St.next_drop]; omega), fun b h1 h2 => ?_, ?_⟩
  · rw [if_neg (by omega), k5 b (by omega) (by omega), hg b (by omega) h2, St.get_new, if_neg (by omega)]
  · rw [if_neg (by omega), hqq]
    rcases hcs with ⟨h1, rfl, h2⟩ | ⟨h1, h2, r', h3, h4, rfl, h5, h55⟩
    · rcases hcase with ⟨rfl, _⟩ | ⟨_, h5, h6⟩
      · exact .inl ⟨h1, rfl, h2⟩
      · rcases h1 with h1 | h1
        · rw [h1] at h5; cases h5
        · omega
    · rcases hcase with ⟨_, h6⟩ | ⟨rfl, _, _⟩
      · rcases h6 with h6 | h6
        · rw [h6] at h1; cases h1
        · omega
      · exact .inr ⟨h1, h2, rfl, r', h3, h4⟩

theorem okW_small {w : Nat} (h : okW (.ofNat w) = true) : 0 < w ∧ w ≤ 8 := by
  have : (Nat.beq w 1 || Nat.beq w 2 || Nat.beq w 4 || Nat.beq w 8) = true := h
  simp only [Bool.or_eq_true] at this
  rcases this with ((h | h) | h) | h <;> (have := Nat.eq_of_beq_eq_true h; omega)
theorem can_put {s s1 : St} {q K : Nat} {v1 v : AV} {o ol : AObj} (hq : s.get q = some ol) (hro : ∀ vs l e, ol ≠ .cells vs l true e) (hd : ∀ b o, s.get b = some o → b < s.next) (hv : v = v1) (hg : ∀ b, b < s.next → b ≠ q → s1.get b = s.get b) (h1 : s1.get q = some o) (hn : s1.next ≤ s.next + K) : D.Can s v1 s1 v ((s.put q o).skip K) := by
  refine .old hv (fun b x hb => ?_) hn (fun b vs l e hb => ?_)
  · rw [St.get_skip, St.get_put] at hb
    by_cases e : b = q
    · subst e; rw [if_pos rfl] at hb; rw [h1]; exact hb
    · rw [if_neg e] at hb
      rw [hg b (hd b x hb) e]; exact hb
  · rw [St.get_skip, St.get_put, if_neg]
    · exact hb
    · intro e'; subst e'; rw [hq] at hb; cases hb; exact hro _ _ _ rfl
theorem sumNum_run {args : List AV} {s s' : St} {v : AV} (h : sumNum args s = some (v, s')) (hd : ∀ b o, s.get b = some o → b < s.next) : Wf mm 40 args s fun v1 s1 => D.Can s v1 s1 v s' := by
  unfold sumNum at h
  split at h
  case h_2 => cases h
  rename_i q w
  split at h
  case isFalse => cases h
  rename_i hok
  obtain ⟨hw, hw8⟩ := okW_small hok
  split at h
  case h_2 => cases h
  rename_i rest fl lo z hq
  split at h
  case h_2 => cases h
  rename_i L hL
  split at h
  case isFalse => cases h
  rename_i hc
  simp only [Bool.and_eq_true] at hc
  obtain ⟨hc1, hc2⟩ := hc
  have hB := readU_bs hL
  have hl : L.length < 1000000000 := by simpa using hc1
  refine (Num_run hq hd hB hok hw hw8 hl (fun b o n c lo he => by subst he; exact Nat.le_of_ble_eq_true hc2)).mono ?_
  rintro v1 s1 ⟨n1, n2, hg, hcs⟩
  split at h
  · rename_i hbad
    cases h
    have hbad' : fl = true ∨ L.length < w := by
      rw [Bool.or_eq_true] at hbad
      rcases hbad with h | h
      · exact .inl h
      · exact .inr (by simpa using h)
    rcases hcs with ⟨_, rfl, h3⟩ | ⟨h1, h2, _⟩
    · exact can_put hq (by simp) hd rfl hg h3 n1
    · rcases hbad' with h4 | h4
      · rw [h4] at h1; cases h1
      · omega
  · rename_i hbad
    split at h <;> cases h
    rename_i rest' hr
    have hgood : ¬ (fl = true ∨ L.length < w) := by
      intro hh
      apply hbad
      rw [Bool.or_eq_true]
      rcases hh with h | h
      · exact .inl h
      · exact .inr (by simpa using h)
    rcases hcs with ⟨h1, _⟩ | ⟨h1, h2, rfl, r2, h3, h4⟩
    · exact absurd h1 hgood
    · have e : r2 = rest' := by
        have : sliceA 1 rest (some (.int .i64 (w : Int))) none none = some rest' := hr
        rw [this] at h3
        exact (Option.some.inj h3).symm
      subst e
      exact can_put hq (by simp) hd rfl hg h4 n1
theorem sumNum_next (args : List AV) (s : St) (v : AV) (s' : St) (hx : sumNum args s = some (v, s')) : s.next ≤ s'.next := by
  unfold sumNum at hx
  repeat' split at hx
  all_goals first
    | (cases hx; done)
    | (cases hx; simp only [St.next_skip, St.next_put]; omega)
end Go.Proofs.YteiiblpnegjjlaaGreat.Base
namespace Go.Proofs.YteiiblpnegjjlaaGreat.Base
open D
set_option linter.unusedSimpArgs false
set_option linter.unusedVariables false
set_option maxRecDepth 10000

/-! ### How many bits -/
theorem tab8_all : (List.range 256).all (fun k => tab8[k]? == some (UInt8.ofNat (blen8 k)) && ((UInt8.ofNat (blen8 k)).toNat == blen8 k)) = true := by decide +kernel
theorem tab8_get (k : Nat) (h : k < 256) : ∃ c, tab8[k]? = some c ∧ c.toNat = blen8 k := by
  have := List.all_eq_true.1 tab8_all k (List.mem_range.2 h)
  simp only [Bool.and_eq_true, beq_iff_eq] at this
  exact ⟨_, this.1, this.2⟩
theorem tab8_size : tab8.size = 256 := by decide +kernel
theorem blen8_le (n : Nat) : blen8 n ≤ 8 := by
  unfold blen8
  (repeat' split) <;> omega
theorem ge_ble (m n : Nat) : decide ((n : Int) ≥ (m : Int)) = Nat.ble m n := by
  cases h : Nat.ble m n with
  | true => exact decide_eq_true (by have := Nat.le_of_ble_eq_true h; omega)
  | false => exact decide_eq_false (by intro h2; have : Nat.ble m n = true := Nat.ble_eq_true_of_le (by omega); rw [h] at this; cases this)
theorem shr_u64 {n k m : Nat} (hm : (2 : Nat) ^ k = m) : ((n : Int).fdiv (2 ^ k)) = ((n / m : Nat) : Int) := by
  rw [Int.fdiv_eq_ediv_of_nonneg _ (by exact Int.le_of_lt (Int.pow_pos (by omega))), ← hm]
  rw [Int.natCast_ediv, Int.natCast_pow]
  rfl
theorem Len64_eq (n : Nat) (h : n < 18446744073709551616) (s : St) : mm.L.call 59 [.int .u64 (n : Int)] s = some (.int .i64 (blen n : Int), s) := by
  refine of_Wf (Wf_enter ft59 (sm (by decide)) (by rfl) ?_)
  have htab : (⟨#[0, 1, 2, 2, 3, 3, 3, 3, 4, 4, 4, 4, 4, 4, 4, 4, 5, 5, 5, 5, 5, 5, 5, 5, 5, 5, 5, 5, 5, 5, 5, 5, 6, 6, 6, 6, 6, 6, 6, 6, 6, 6, 6, 6, 6, 6, 6, 6, 6, 6, 6, 6, 6, 6, 6, 6, 6, 6, 6, 6, 6, 6, 6, 6, 7, 7, 7, 7, 7, 7, 7, 7, 7, 7, 7, 7, 7, 7, 7, 7, 7, 7, 7, 7, 7, 7, 7, 7, 7, 7, 7, 7, 7, 7, 7, 7, 7, 7, 7, 7, 7, 7, 7, 7, 7, 7, 7, 7, 7, 7, 7, 7, 7, 7, 7, 7, 7, 7, 7, 7, 7, 7, 7, 7, 7, 7, 7, 7, 8, 8, 8, 8, 8, 8, 8, 8, 8, 8, 8, 8, 8, 8, 8, 8, 8, 8, 8, 8, 8, 8, 8, 8, 8, 8, 8, 8, 8, 8, 8, 8, 8, 8, 8, 8, 8, 8, 8, 8, 8, 8, 8, 8, 8, 8, 8, 8, 8, 8, 8, 8, 8, 8, 8, 8, 8, 8, 8, 8, 8, 8, 8, 8, 8, 8, 8, 8, 8, 8, 8, 8, 8, 8, 8, 8, 8, 8, 8, 8, 8, 8, 8, 8, 8, 8, 8, 8, 8, 8, 8, 8, 8, 8, 8, 8, 8, 8, 8, 8, 8, 8, 8, 8, 8, 8, 8, 8, 8, 8, 8, 8, 8, 8, 8, 8, 8, 8, 8, 8, 8, 8, 8, 8, 8, 8, 8, 8]⟩ : ByteArray) = tab8 := rfl
  have d1 : decide ((n : Int) ≥ 4294967296) = Nat.ble 4294967296 n := ge_ble 4294967296 n
  have d2 : ∀ k : Nat, decide ((k : Int) ≥ 65536) = Nat.ble 65536 k := ge_ble 65536
  have d3 : ∀ k : Nat, decide ((k : Int) ≥ 256) = Nat.ble 256 k := ge_ble 256
  have s32 : ∀ k : Nat, ((k : Int).fdiv (2 ^ min 32 64)) = ((k / 4294967296 : Nat) : Int) := fun k => shr_u64 rfl
  have s16 : ∀ k : Nat, ((k : Int).fdiv (2 ^ min 16 64)) = ((k / 65536 : Nat) : Int) := fun k => shr_u64 rfl
  have s8 : ∀ k : Nat, ((k : Int).fdiv (2 ^ min 8 64)) = ((k / 256 : Nat) : Int) := fun k => shr_u64 rfl
  have nb : ∀ {m k : Nat}, Nat.ble m k = false → k < m := fun {m k} hb => by
    rcases Nat.lt_or_ge k m with h | h
    · exact h
    · rw [Nat.ble_eq_true_of_le h] at hb; cases hb
  have fin : ∀ (k a : Nat), k < 256 → a ≤ 56 → ∃ c, tab8[k]? = some c ∧ IntKind.u8.wrap (k : Int) = (k : Int) ∧ (0 : Int) ≤ (k : Int) ∧ (k : Int) < 256 ∧ IntKind.i64.wrap (c.toNat : Int) = (blen8 k : Int) ∧ IntKind.i64.wrap ((a : Int) + (blen8 k : Int)) = ((a + blen8 k : Nat) : Int) := fun k a hk ha => by
    obtain ⟨c, h1, h2⟩ := tab8_get k hk
    have hb8 := blen8_le k
    exact ⟨c, h1, u8_in (by omega) (by omega), by omega, by omega, by rw [h2]; exact i64_in (by omega) (by omega), by rw [i64_in (by omega) (by omega)]; omega⟩
  have w8 : IntKind.i64.wrap 8 = 8 := rfl
  have w16 : IntKind.i64.wrap 16 = 16 := rfl
  have w24 : IntKind.i64.wrap 24 = 24 := rfl
  have w40 : IntKind.i64.wrap 40 = 40 := rfl
  have w48 : IntKind.i64.wrap 48 = 48 := rfl
  have w56 : IntKind.i64.wrap 56 = 56 := rfl
  obtain ⟨B, hB⟩ : ∃ B, blen n = B := ⟨_, rfl⟩
  rw [hB]
  unfold blen sh3 sh2 sh1 at hB
  cases b0 : Nat.ble 4294967296 n
  · simp only [b0, cond_false, Nat.zero_add, Nat.add_zero] at hB
    have l0 := nb b0
    cases b1 : Nat.ble 65536 n
    · simp only [b1, cond_false, Nat.zero_add, Nat.add_zero] at hB
      have l1 := nb b1
      cases b2 : Nat.ble 256 n
      · simp only [b2, cond_false, Nat.zero_add, Nat.add_zero] at hB
        have l2 := nb b2
        obtain ⟨c, q1, q2, q3, q4, q5, q6⟩ := fin n 0 (by omega) (by omega)
        have e : 0 + blen8 n = B := by omega
        rw [e] at q6
        simp -implicitDefEqProofs only [go_sem, Wk_block, Wk_drawnC, reduceCtorEq, Nat.reduceEqDiff, Nat.reduceAdd, Nat.reduceLeDiff, Nat.reduceLT, Nat.reduceMul, Nat.reduceSub, ↓reduceIte, Int.reduceLT, Int.reduceLE, Int.reduceNeg, Int.reduceAdd, Int.reduceEq, Nat.reduceBneDiff, Nat.reduceBEq, Int.reduceToNat, Int.reduceMul, Int.reduceSub, Int.reduceBEq, Int.reduceBNe, fd59, htab, tab8_size, b0, b1, b2, d1, d2, d3, s32, s16, s8, w8, w16, w24, w40, w48, w56, q1, q2, q3, q4, q5, q6]
        exact congrArg (AV.int .i64) q6
      · simp only [b2, cond_true, Nat.zero_add, Nat.add_zero] at hB
        obtain ⟨n2, hn2⟩ : ∃ k, n / 256 = k := ⟨_, rfl⟩
        rw [hn2] at hB
        have l2 : n2 < 16777216 := by omega
        obtain ⟨c, q1, q2, q3, q4, q5, q6⟩ := fin n2 8 (by omega) (by omega)
        have e : 8 + blen8 n2 = B := by omega
        rw [e] at q6
        simp -implicitDefEqProofs only [go_sem, Wk_block, Wk_drawnC, reduceCtorEq, Nat.reduceEqDiff, Nat.reduceAdd, Nat.reduceLeDiff, Nat.reduceLT, Nat.reduceMul, Nat.reduceSub, ↓reduceIte, Int.reduceLT, Int.reduceLE, Int.reduceNeg, Int.reduceAdd, Int.reduceEq, Nat.reduceBneDiff, Nat.reduceBEq, Int.reduceToNat, Int.reduceMul, Int.reduceSub, Int.reduceBEq, Int.reduceBNe, fd59, htab, tab8_size, b0, b1, b2, hn2, d1, d2, d3, s32, s16, s8, w8, w16, w24, w40, w48, w56, q1, q2, q3, q4, q5, q6]
        exact congrArg (AV.int .i64) q6
    · simp only [b1, cond_true, Nat.zero_add, Nat.add_zero] at hB
      obtain ⟨n1, hn1⟩ : ∃ k, n / 65536 = k := ⟨_, rfl⟩
      rw [hn1] at hB
      have l1 : n1 < 65536 := by omega
      cases b2 : Nat.ble 256 n1
      · simp only [b2, cond_false, Nat.zero_add, Nat.add_zero] at hB
        have l2 := nb b2
        obtain ⟨c, q1, q2, q3, q4, q5, q6⟩ := fin n1 16 (by omega) (by omega)
        have e : 16 + blen8 n1 = B := by omega
        rw [e] at q6
        simp -implicitDefEqProofs only [go_sem, Wk_block, Wk_drawnC, reduceCtorEq, Nat.reduceEqDiff, Nat.reduceAdd, Nat.reduceLeDiff, Nat.reduceLT, Nat.reduceMul, Nat.reduceSub, ↓reduceIte, Int.reduceLT, Int.reduceLE, Int.reduceNeg, Int.reduceAdd, Int.reduceEq, Nat.reduceBneDiff, Nat.reduceBEq, Int.reduceToNat, Int.reduceMul, Int.reduceSub, Int.reduceBEq, Int.reduceBNe, fd59, htab, tab8_size, b0, b1, hn1, b2, d1, d2, d3, s32, s16, s8, w8, w16, w24, w40, w48, w56, q1, q2, q3, q4, q5, q6]
        exact congrArg (AV.int .i64) q6
      · simp only [b2, cond_true, Nat.zero_add, Nat.add_zero] at hB
        obtain ⟨n2, hn2⟩ : ∃ k, n1 / 256 = k := ⟨_, rfl⟩
        rw [hn2] at hB
        have l2 : n2 < 16777216 := by omega
        obtain ⟨c, q1, q2, q3, q4, q5, q6⟩ := fin n2 24 (by omega) (by omega)
        have e : 24 + blen8 n2 = B := by omega
        rw [e] at q6
        simp -implicitDefEqProofs only [go_sem, Wk_block, Wk_drawnC, reduceCtorEq, Nat.reduceEqDiff, Nat.reduceAdd, Nat.reduceLeDiff, Nat.reduceLT, Nat.reduceMul, Nat.reduceSub, ↓reduceIte, Int.reduceLT, Int.reduceLE, Int.reduceNeg, Int.reduceAdd, Int.reduceEq, Nat.reduceBneDiff, Nat.reduceBEq, Int.reduceToNat, Int.reduceMul, Int.reduceSub, Int.reduceBEq, Int.reduceBNe, fd59, htab, tab8_size, b0, b1, hn1, b2, hn2, d1, d2, d3, s32, s16, s8, w8, w16, w24, w40, w48, w56, q1, q2, q3, q4, q5, q6]
        exact congrArg (AV.int .i64) q6
  · simp only [b0, cond_true, Nat.zero_add, Nat.add_zero] at hB
    obtain ⟨n0, hn0⟩ : ∃ k, n / 4294967296 = k := ⟨_, rfl⟩
    rw [hn0] at hB
    have l0 : n0 < 4294967296 := by omega
    cases b1 : Nat.ble 65536 n0
    · simp only [b1, cond_false, Nat.zero_add, Nat.add_zero] at hB
      have l1 := nb b1
      cases b2 : Nat.ble 256 n0
      · simp only [b2, cond_false, Nat.zero_add, Nat.add_zero] at hB
        have l2 := nb b2
        obtain ⟨c, q1, q2, q3, q4, q5, q6⟩ := fin n0 32 (by omega) (by omega)
        have e : 32 + blen8 n0 = B := by omega
        rw [e] at q6
        simp -implicitDefEqProofs only [go_sem, Wk_block, Wk_drawnC, reduceCtorEq, Nat.reduceEqDiff, Nat.reduceAdd, Nat.reduceLeDiff, Nat.reduceLT, Nat.reduceMul, Nat.reduceSub, ↓reduceIte, Int.reduceLT, Int.reduceLE, Int.reduceNeg, Int.reduceAdd, Int.reduceEq, Nat.reduceBneDiff, Nat.reduceBEq, Int.reduceToNat, Int.reduceMul, Int.reduceSub, Int.reduceBEq, Int.reduceBNe, fd59, htab, tab8_size, b0, hn0, b1, b2, d1, d2, d3, s32, s16, s8, w8, w16, w24, w40, w48, w56, q1, q2, q3, q4, q5, q6]
        exact congrArg (AV.int .i64) q6
      · simp only [b2, cond_true, Nat.zero_add, Nat.add_zero] at hB
        obtain ⟨n2, hn2⟩ : ∃ k, n0 / 256 = k := ⟨_, rfl⟩
        rw [hn2] at hB
        have l2 : n2 < 16777216 := by omega
        obtain ⟨c, q1, q2, q3, q4, q5, q6⟩ := fin n2 40 (by omega) (by omega)
        have e : 40 + blen8 n2 = B := by omega
        rw [e] at q6
        simp -implicitDefEqProofs only [go_sem, Wk_block, Wk_drawnC, reduceCtorEq, Nat.reduceEqDiff, Nat.reduceAdd, Nat.reduceLeDiff, Nat.reduceLT, Nat.reduceMul, Nat.reduceSub, ↓reduceIte, Int.reduceLT, Int.reduceLE, Int.reduceNeg, Int.reduceAdd, Int.reduceEq, Nat.reduceBneDiff, Nat.reduceBEq, Int.reduceToNat, Int.reduceMul, Int.reduceSub, Int.reduceBEq, Int.reduceBNe, fd59, htab, tab8_size, b0, hn0, b1, b2, hn2, d1, d2, d3, s32, s16, s8, w8, w16, w24, w40, w48, w56, q1, q2, q3, q4, q5, q6]
        exact congrArg (AV.int .i64) q6
    · simp only [b1, cond_true, Nat.zero_add, Nat.add_zero] at hB
      obtain ⟨n1, hn1⟩ : ∃ k, n0 / 65536 = k := ⟨_, rfl⟩
      rw [hn1] at hB
      have l1 : n1 < 65536 := by omega
      cases b2 : Nat.ble 256 n1
      · simp only [b2, cond_false, Nat.zero_add, Nat.add_zero] at hB
        have l2 := nb b2
        obtain ⟨c, q1, q2, q3, q4, q5, q6⟩ := fin n1 48 (by omega) (by omega)
        have e : 48 + blen8 n1 = B := by omega
        rw [e] at q6
        simp -implicitDefEqProofs only [go_sem, Wk_block, Wk_drawnC, reduceCtorEq, Nat.reduceEqDiff, Nat.reduceAdd, Nat.reduceLeDiff, Nat.reduceLT, Nat.reduceMul, Nat.reduceSub, ↓reduceIte, Int.reduceLT, Int.reduceLE, Int.reduceNeg, Int.reduceAdd, Int.reduceEq, Nat.reduceBneDiff, Nat.reduceBEq, Int.reduceToNat, Int.reduceMul, Int.reduceSub, Int.reduceBEq, Int.reduceBNe, fd59, htab, tab8_size, b0, hn0, b1, hn1, b2, d1, d2, d3, s32, s16, s8, w8, w16, w24, w40, w48, w56, q1, q2, q3, q4, q5, q6]
        exact congrArg (AV.int .i64) q6
      · simp only [b2, cond_true, Nat.zero_add, Nat.add_zero] at hB
        obtain ⟨n2, hn2⟩ : ∃ k, n1 / 256 = k := ⟨_, rfl⟩
        rw [hn2] at hB
        have l2 : n2 < 16777216 := by omega
        obtain ⟨c, q1, q2, q3, q4, q5, q6⟩ := fin n2 56 (by omega) (by omega)
        have e : 56 + blen8 n2 = B := by omega
        rw [e] at q6
        simp -implicitDefEqProofs only [go_sem, Wk_block, Wk_drawnC, reduceCtorEq, Nat.reduceEqDiff, Nat.reduceAdd, Nat.reduceLeDiff, Nat.reduceLT, Nat.reduceMul, Nat.reduceSub, ↓reduceIte, Int.reduceLT, Int.reduceLE, Int.reduceNeg, Int.reduceAdd, Int.reduceEq, Nat.reduceBneDiff, Nat.reduceBEq, Int.reduceToNat, Int.reduceMul, Int.reduceSub, Int.reduceBEq, Int.reduceBNe, fd59, htab, tab8_size, b0, hn0, b1, hn1, b2, hn2, d1, d2, d3, s32, s16, s8, w8, w16, w24, w40, w48, w56, q1, q2, q3, q4, q5, q6]
        exact congrArg (AV.int .i64) q6
end Go.Proofs.YteiiblpnegjjlaaGreat.Base
namespace Go.Proofs.YteiiblpnegjjlaaGreat.Base
open D
set_option linter.unusedSimpArgs false
set_option linter.unusedVariables false
set_option maxRecDepth 10000

theorem sumLen_run {args : List AV} {s s' : St} {v : AV} (h : sumLen args s = some (v, s')) (_ : ∀ b o, s.get b = some o → b < s.next) : Wf mm 59 args s fun v1 s1 => D.Can s v1 s1 v s' := by
  unfold sumLen at h
  split at h
  case h_2 => cases h
  rename_i n
  split at h
  case isFalse => cases h
  rename_i hn
  cases h
  exact Sums_exact (fun _ _ _ _ h => h) (Len64_eq n (by simpa using hn) _)
theorem sumLen_next (args : List AV) (s : St) (v : AV) (s' : St) (hx : sumLen args s = some (v, s')) : s.next ≤ s'.next := by
  unfold sumLen at hx
  repeat' split at hx
  all_goals first
    | (cases hx; done)
    | (cases hx; exact Nat.le_refl _)

theorem Clone_raw {s : St} {b o n c : Nat} {lo : Bool} {l : List AV} (hsrc : loadA s b o n = some l) (hl : n < 1000000000) (hd : ∀ b o, s.get b = some o → b < s.next) :
    mm.L.call 39 [.slice b o n c lo] s = some (match n with | 0 => (.slice s.next 0 0 0 false, s.new (.cells [] false false 0)) | n + 1 => (.slice (s.next + 1) 0 (n + 1) (n + 1) true, (s.new (.cells [] false false 0)).new (.cells l true false 1))) := by
  obtain ⟨vs, lo2, ro, z, g1, g2, g3⟩ := loadA_some hsrc
  have hbn := hd _ _ g1
  have hll : l.length = n := by rw [g3, List.length_take, List.length_drop]; omega
  refine of_Wf (Wf_enter ft39 (sm (by decide)) (by rfl) ?_)
  have ft : (false == true) = false := rfl
  have hs : srcA (s.new (.cells [] false false 0)) 1 (.slice b o n c lo) = some (n, l) := by
    show (match loadA (s.new (.cells [] false false 0)) b o (n * 1) with | some l => some (n, l) | none => none) = _
    rw [Nat.mul_one]
    unfold loadA at hsrc ⊢
    rw [St.get_new, if_neg (by omega), hsrc]
  have hlen : l.length = n * 1 := by omega
  have hlen2 : (l.length = n) = True := by simp [hll]
  cases n with
  | zero =>
    have ha : appendA 1 1 (s.new (.cells [] false false 0)) (.slice s.next 0 0 0 false) 0 l = some (.slice s.next 0 0 0 false, s.new (.cells [] false false 0)) := by
      unfold appendA
      simp
    simp -implicitDefEqProofs only [go_sem, Wk_block, Wk_drawnC, reduceCtorEq, Nat.reduceEqDiff, Nat.reduceAdd, Nat.reduceLeDiff, Nat.reduceLT, Nat.reduceMul, Nat.reduceSub, ↓reduceIte, Int.reduceLT, Int.reduceLE, Int.reduceNeg, Int.reduceAdd, Int.reduceEq, Nat.reduceBneDiff, Nat.reduceBEq, Int.reduceToNat, Int.reduceMul, Int.reduceSub, Int.reduceBEq, Int.reduceBNe, fd39, ft, hs, ha, hlen, Nat.zero_mul]
  | succ n =>
    have h0 : ¬ n + 1 = 0 := by omega
    have ha : appendA 1 1 (s.new (.cells [] false false 0)) (.slice s.next 0 0 0 false) (n + 1) l = some (.slice (s.next + 1) 0 (n + 1) (n + 1) true, (s.new (.cells [] false false 0)).new (.cells l true false 1)) := by
      unfold appendA
      have hlo : loadA (s.new (.cells [] false false 0)) s.next 0 (0 * 1) = some [] := by unfold loadA; rw [St.get_new, if_pos rfl]; simp
      simp only [Nat.zero_add, hlo]
      rw [if_neg (by omega), if_pos (by omega)]
      simp [newA]
    simp -implicitDefEqProofs only [go_sem, Wk_block, Wk_drawnC, reduceCtorEq, Nat.reduceEqDiff, Nat.reduceAdd, Nat.reduceLeDiff, Nat.reduceLT, Nat.reduceMul, Nat.reduceSub, ↓reduceIte, Int.reduceLT, Int.reduceLE, Int.reduceNeg, Int.reduceAdd, Int.reduceEq, Nat.reduceBneDiff, Nat.reduceBEq, Int.reduceToNat, Int.reduceMul, Int.reduceSub, Int.reduceBEq, Int.reduceBNe, fd39, ft, hs, ha, hlen, Nat.mul_one, eq_self]
theorem can_exact {f : Nat} {args : List AV} {s s' : St} {v : AV} (hf : ∀ b o, s.get b = some o → s'.get b = some o) (h : mm.L.call f args s = some (v, s')) : Wf mm f args s fun v1 s1 => D.Can s v1 s1 v s' :=
  Sums_exact (fun b _ _ _ hb => hf b _ hb) h
theorem keeps_new {s : St} (hd : ∀ b o, s.get b = some o → b < s.next) (x : AObj) : ∀ b o, s.get b = some o → (s.new x).get b = some o := fun b o hb => by
  rw [St.get_new, if_neg (by have := hd b o hb; omega)]; exact hb
theorem dom_new {s : St} (hd : ∀ b o, s.get b = some o → b < s.next) (x : AObj) : ∀ b o, (s.new x).get b = some o → b < (s.new x).next := fun b o hb => by
  rw [St.get_new] at hb
  by_cases e : b = s.next
  · simp; omega
  · rw [if_neg e] at hb
    have := hd b o hb
    simp; omega
theorem Clone_nil (s : St) : mm.L.call 39 [.nilSlice] s = some (.nilSlice, s) := by
  refine of_Wf (Wf_enter ft39 (sm (by decide)) (by rfl) ?_)
  simp -implicitDefEqProofs only [go_sem, Wk_block, Wk_drawnC, reduceCtorEq, Nat.reduceEqDiff, Nat.reduceAdd, Nat.reduceLeDiff, Nat.reduceLT, Nat.reduceMul, Nat.reduceSub, ↓reduceIte, Int.reduceLT, Int.reduceLE, Int.reduceNeg, Int.reduceAdd, Int.reduceEq, Nat.reduceBneDiff, Nat.reduceBEq, Int.reduceToNat, Int.reduceMul, Int.reduceSub, Int.reduceBEq, Int.reduceBNe, fd39]
theorem Clone_tail (b o a : Nat) (s : St) : mm.L.call 39 [.tail b o a] s = some (.slice s.next 0 0 0 false, s.new (.cells [] false false 0)) := by
  refine of_Wf (Wf_enter ft39 (sm (by decide)) (by rfl) ?_)
  have ft : (false == true) = false := rfl
  have ha : appendA 1 1 (s.new (.cells [] false false 0)) (.slice s.next 0 0 0 false) 0 [] = some (.slice s.next 0 0 0 false, s.new (.cells [] false false 0)) := by
    unfold appendA
    simp
  simp -implicitDefEqProofs only [go_sem, Wk_block, Wk_drawnC, reduceCtorEq, Nat.reduceEqDiff, Nat.reduceAdd, Nat.reduceLeDiff, Nat.reduceLT, Nat.reduceMul, Nat.reduceSub, ↓reduceIte, Int.reduceLT, Int.reduceLE, Int.reduceNeg, Int.reduceAdd, Int.reduceEq, Nat.reduceBneDiff, Nat.reduceBEq, Int.reduceToNat, Int.reduceMul, Int.reduceSub, Int.reduceBEq, Int.reduceBNe, fd39, ft, srcA, ha, Nat.zero_mul]
theorem sumClone_run {args : List AV} {s s' : St} {v : AV} (h : sumClone args s = some (v, s')) (hd : ∀ b o, s.get b = some o → b < s.next) : Wf mm 39 args s fun v1 s1 => D.Can s v1 s1 v s' := by
  unfold sumClone at h
  split at h
  · cases h; exact can_exact (fun _ _ h => h) (Clone_nil _)
  · rename_i b o n c lo
    split at h
    case isFalse => cases h
    rename_i hn
    split at h
    case h_2 => cases h
    rename_i l hl
    have hc := Clone_raw (c := c) (lo := lo) hl (by simpa using hn) hd
    cases n with
    | zero => cases h; exact can_exact (keeps_new hd _) hc
    | succ n => cases h; exact can_exact (fun b o hb => keeps_new (dom_new hd _) _ b o (keeps_new hd _ b o hb)) hc
  · cases h; exact can_exact (keeps_new hd _) (Clone_tail _ _ _ _)
  · cases h
theorem sumClone_next (args : List AV) (s : St) (v : AV) (s' : St) (hx : sumClone args s = some (v, s')) : s.next ≤ s'.next := by
  unfold sumClone at hx
  split at hx
  · cases hx; exact Nat.le_refl _
  · split at hx
    case isFalse => cases hx
    split at hx
    case h_2 => cases hx
    rename_i n _ _ _ _ _ _
    split at hx <;> (cases hx; simp; try omega)
  · cases hx; simp
  · cases hx
end Go.Proofs.YteiiblpnegjjlaaGreat.Base
namespace Go.Proofs.YteiiblpnegjjlaaGreat.Base
open D
set_option linter.unusedSimpArgs false
set_option linter.unusedVariables false
set_option maxRecDepth 10000

/-- A slice that append made, of bytes; or none yet. -/
def OutB (s : St) (N : Nat) (w : AV) (L : List AV) : Prop := (w = .nilSlice ∧ L = []) ∨ (∃ p, w = .slice p 0 0 0 false ∧ L = [] ∧ N ≤ p ∧ p < s.next ∧ s.get p = some (.cells [] false false 0)) ∨
  ∃ p, w = .slice p 0 L.length L.length true ∧ 0 < L.length ∧ N ≤ p ∧ p < s.next ∧ s.get p = some (.cells L true false 1)
theorem OutB.new {s : St} {N : Nat} {w : AV} {L : List AV} (h : OutB s N w L) (o : AObj) : OutB (s.new o) N w L := by
  rcases h with h | ⟨p, h1, h2, h3, h4, h5⟩ | ⟨p, h1, h2, h3, h4, h5⟩
  · exact .inl h
  · exact .inr (.inl ⟨p, h1, h2, h3, by simp only [St.next_new]; omega, by rw [St.get_new, if_neg (by omega)]; exact h5⟩)
  · exact .inr (.inr ⟨p, h1, h2, h3, by simp only [St.next_new]; omega, by rw [St.get_new, if_neg (by omega)]; exact h5⟩)
theorem OutB.cell {s : St} {N : Nat} {w : AV} {L : List AV} (h : OutB s N w L) : w.cell = true ∧ w.cells = [w] := by
  rcases h with ⟨rfl, _⟩ | ⟨p, rfl, _⟩ | ⟨p, rfl, _⟩ <;> exact ⟨rfl, rfl⟩
theorem OutB.push {s : St} {N : Nat} {w : AV} {L : List AV} (h : OutB s N w L) (hN : N ≤ s.next) (hl : L.length < 1000000000) (n : Int) :
    ∃ w' s', appendA 1 1 s w 1 [.int .u8 n] = some (w', s') ∧ OutB s' N w' (L ++ [.int .u8 n]) ∧ s'.next = s.next + 1 ∧ ∀ b, b < N → s'.get b = s.get b := by
  rcases h with ⟨rfl, rfl⟩ | ⟨p, rfl, rfl, h2, h3, h4⟩ | ⟨p, rfl, h1, h2, h3, h4⟩
  · refine ⟨.slice s.next 0 1 1 true, s.new (.cells [.int .u8 n] true false 1), rfl, .inr (.inr ⟨s.next, rfl, by simp, hN, Nat.lt_succ_self _, ?_⟩), rfl, fun b hb => ?_⟩
    · rw [St.get_new, if_pos rfl]; rfl
    · rw [St.get_new, if_neg (by omega)]
  · refine ⟨.slice s.next 0 1 1 true, s.new (.cells [.int .u8 n] true false 1), ?_, .inr (.inr ⟨s.next, rfl, by simp, hN, Nat.lt_succ_self _, ?_⟩), rfl, fun b hb => ?_⟩
    · have hlo : loadA s p 0 (0 * 1) = some [] := by unfold loadA; rw [h4]; simp
      unfold appendA
      simp only [Nat.zero_add, hlo]
      rw [if_neg (by omega), if_pos (by omega)]
      simp [newA]
    · rw [St.get_new, if_pos rfl]; rfl
    · rw [St.get_new, if_neg (by omega)]
  · refine ⟨.slice s.next 0 (L.length + 1) (L.length + 1) true, (s.drop p).new (.cells (L ++ [.int .u8 n]) true false 1), ?_, .inr (.inr ⟨s.next, by simp, by simp, hN, Nat.lt_succ_self _, ?_⟩), rfl, fun b hb => ?_⟩
    · have hlo : loadA s p 0 (L.length * 1) = some L := by
        unfold loadA
        rw [h4]
        simp [List.take_of_length_le]
      unfold appendA
      simp only [hlo, h4]
      rw [if_neg (by omega), if_pos (by omega)]
      simp only [Nat.mul_one, if_true, allCell]
      rfl
    · rw [St.get_new, if_pos (by simp)]
    · rw [St.get_new, if_neg (by simp; omega), St.get_drop, if_neg (by omega)]

theorem leB_snoc : ∀ (k n : Nat), leB (k + 1) n = leB k n ++ [.int .u8 ((shf k n % 256 : Nat) : Int)]
  | 0, n => rfl
  | k + 1, n => by
    have := leB_snoc k (n / 256)
    rw [leB, this]
    rfl
theorem shf_succ : ∀ (k n : Nat), shf (k + 1) n = shf k n / 256
  | 0, n => rfl
  | k + 1, n => shf_succ k (n / 256)
theorem leB_len : ∀ (k n : Nat), (leB k n).length = k
  | 0, _ => rfl
  | k + 1, n => by rw [leB, List.length_cons, leB_len k]
theorem putL_take {w : Nat} {ns : List Nat} {j : Nat} (h : j < ns.length) : putL w (ns.take (j + 1)) = putL w (ns.take j) ++ leB w ns[j] := by
  rw [List.take_succ_eq_append_getElem h]
  unfold putL
  rw [List.flatMap_append]
  simp
theorem putL_len (w : Nat) (ns : List Nat) : (putL w ns).length = ns.length * w := by
  induction ns with
  | nil => simp [putL]
  | cons a l ih =>
    unfold putL at *
    rw [List.flatMap_cons, List.length_append, ih, leB_len, List.length_cons, Nat.succ_mul]
    omega

theorem Put_run {b : AV} {w : Nat} {ns : List Nat} {l : List AV} {lv : AV} {s sc : St} {u : AV} (hok : okW (w : Int) = true) (hw : 0 < w) (hw8 : w ≤ 8) (hcl : mm.L.call 39 [b] s = some (u, sc)) (hu : OutB sc s.next u l) (hsn : s.next ≤ sc.next) (hsn2 : sc.next ≤ s.next + 2) (hsg : ∀ b, b < s.next → sc.get b = s.get b)
    (hll : l.length < 100000000) (hnl : ns.length < 1000) (hlv : ∀ s', len1 (some lv) s' = some (.int .i64 (ns.length : Nat), s'))
    (hli : ∀ j (h : j < ns.length), ∃ p o vs lo ro z, (∀ s', idx1 1 (some lv) (some (.int .i64 (j : Int))) s' = some (.ptr p (o + j), s')) ∧ s.get p = some (.cells vs lo ro z) ∧ p < s.next ∧ vs[o + j]? = some (.int .u64 (ns[j] : Int)) ∧ ns[j] < 18446744073709551616 ∧ blen ns[j] ≤ 8 * w) :
    Wf mm 44 [b, .int .i64 (w : Int), lv] s fun v s' => ∃ v0, v = .tup [v0, .int .i64 0] ∧ OutB s' s.next v0 (l ++ putL w ns) ∧ (∀ b, b < s.next → s'.get b = s.get b) ∧ s'.next ≤ s.next + 2 + 16 * ns.length ∧ s.next ≤ s'.next := by
  refine Wf_enter ft44 (sm (by decide)) (by rfl) ?_
  have hce := hu.cell
  simp -implicitDefEqProofs only [go_sem, Wk_block, Wk_drawnC, reduceCtorEq, Nat.reduceEqDiff, Nat.reduceAdd, Nat.reduceLeDiff, Nat.reduceLT, Nat.reduceMul, Nat.reduceSub, ↓reduceIte, Int.reduceLT, Int.reduceLE, Int.reduceNeg, Int.reduceAdd, Int.reduceEq, Nat.reduceBneDiff, Nat.reduceBEq, Int.reduceToNat, Int.reduceMul, Int.reduceSub, Int.reduceBEq, Int.reduceBNe, fd44, Wl_eq (right_eq _ _), hok, Wl_eq hcl, hlv]
  refine loop_ind (fun m ts s' => ∃ (j : Nat) (u : AV), m = ns.length - j ∧ j ≤ ns.length ∧ ts.get 18 = some (.int .i64 (j : Int)) ∧ ts.get 17 = some (.int .i64 (ns.length : Int)) ∧ ts.get 16 = some lv ∧ ts.get 8 = some u ∧ ts.get 1 = some (.int .i64 (w : Int)) ∧ OutB s' s.next u (l ++ putL w (ns.take j)) ∧
    (∀ b, b < s.next → s'.get b = s.get b) ∧ s'.next ≤ s.next + 2 + 16 * j ∧ s.next ≤ s'.next) ?_ (n := ns.length)
    ⟨0, u, rfl, by omega, by simp only [Tr.get_set, Nat.reduceEqDiff, ↓reduceIte, Int.cast_ofNat_Int], by simp only [Tr.get_set, Nat.reduceEqDiff, ↓reduceIte, Int.cast_ofNat_Int], by simp only [Tr.get_set, Nat.reduceEqDiff, ↓reduceIte, Int.cast_ofNat_Int], by simp only [Tr.get_set, Nat.reduceEqDiff, ↓reduceIte, Int.cast_ofNat_Int], by simp only [Tr.get_set, Nat.reduceEqDiff, ↓reduceIte, Int.cast_ofNat_Int], by rw [List.take_zero]; show OutB sc s.next u (l ++ []); rw [List.append_nil]; exact hu, hsg, by omega, hsn⟩
  clear hcl hu hsn hsn2 hsg hce
  rintro m ts s1 ⟨j, u, rfl, hj, g18, g17, g16, g8, g1, ho, hg, hn, hn2⟩ IH
  by_cases hlt : j < ns.length
  · obtain ⟨p, o, vs, lo, ro, z, hidx, hp, hpn, hv, hx, hbl⟩ := hli j hlt
    have hp1 := (hg p hpn).trans hp
    have hpt := putL_take (w := w) hlt
    have hpl := putL_len w (ns.take j)
    rw [List.length_take, Nat.min_eq_left (by omega)] at hpl
    have hpl2 : j * w ≤ j * 8 := Nat.mul_le_mul_left _ hw8
    generalize ns[j] = x at hv hx hbl hpt
    generalize hP : l ++ putL w (ns.take j) = P0 at ho
    have hP0 : P0.length < 100010000 := by rw [← hP, List.length_append]; omega
    have w8 : IntKind.i64.wrap (8 * (w : Int)) = ((8 * w : Nat) : Int) := by rw [i64_in (by omega) (by omega)]; omega
    have hgt : decide ((blen x : Int) > ((8 * w : Nat) : Int)) = false := decide_eq_false (by omega)
    have hgt2 : decide (8 * w < blen x) = false := decide_eq_false (by omega)
    have wj := succ_in (j := j) (by omega)
    simp -implicitDefEqProofs only [go_sem, Wk_block, Wk_drawnC, reduceCtorEq, Nat.reduceEqDiff, Nat.reduceAdd, Nat.reduceLeDiff, Nat.reduceLT, Nat.reduceMul, Nat.reduceSub, ↓reduceIte, Int.reduceLT, Int.reduceLE, Int.reduceNeg, Int.reduceAdd, Int.reduceEq, Nat.reduceBneDiff, Nat.reduceBEq, Int.reduceToNat, Int.reduceMul, Int.reduceSub, Int.reduceBEq, Int.reduceBNe, g18, g17, g16, g8, g1, hlt, hidx, hp1, hv, Wl_eq (Len64_eq x hx _), w8, hgt, hgt2]
    refine loop_ind (fun m ts s' => ∃ (k : Nat) (u : AV), m = w - k ∧ k ≤ w ∧ ts.get 28 = some (.int .i64 (k : Int)) ∧ ts.get 27 = some (.int .i64 (w : Int)) ∧ ts.get 10 = some (.int .u64 ((shf k x : Nat) : Int)) ∧ ts.get 8 = some u ∧ ts.get 18 = some (.int .i64 (j : Int)) ∧ ts.get 17 = some (.int .i64 (ns.length : Int)) ∧ ts.get 16 = some lv ∧ ts.get 1 = some (.int .i64 (w : Int)) ∧
      OutB s' s.next u (P0 ++ leB k x) ∧ (∀ b, b < s.next → s'.get b = s.get b) ∧ s'.next ≤ s.next + 2 + 16 * j + 2 * k ∧ s.next ≤ s'.next ∧ shf k x < 18446744073709551616) ?_ (n := w)
      ⟨0, u, rfl, by omega, by simp only [Tr.get_set, Nat.reduceEqDiff, ↓reduceIte, Int.cast_ofNat_Int], by simp only [Tr.get_set, Nat.reduceEqDiff, ↓reduceIte, Int.cast_ofNat_Int, g1], by simp only [Tr.get_set, Nat.reduceEqDiff, ↓reduceIte, Int.cast_ofNat_Int]; rfl, by simp only [Tr.get_set, Nat.reduceEqDiff, ↓reduceIte, Int.cast_ofNat_Int, g8], by simp only [Tr.get_set, Nat.reduceEqDiff, ↓reduceIte, Int.cast_ofNat_Int, g18], by simp only [Tr.get_set, Nat.reduceEqDiff, ↓reduceIte, Int.cast_ofNat_Int, g17], by simp only [Tr.get_set, Nat.reduceEqDiff, ↓reduceIte, Int.cast_ofNat_Int, g16], by simp only [Tr.get_set, Nat.reduceEqDiff, ↓reduceIte, Int.cast_ofNat_Int, g1], by show OutB s1 s.next u (P0 ++ []); rw [List.append_nil]; exact ho, hg, by omega, hn2, hx⟩
    clear g18 g17 g16 g8 g1 ho hg hn hn2 hp1
    rintro m ts s2 ⟨k, u, rfl, hk, g28, g27, g10, g8, g18, g17, g16, g1, ho, hg, hn, hn2, hsx⟩ IH2
    by_cases hlt2 : k < w
    · have hls := leB_snoc k x
      have hss := shf_succ k x
      have hlk := leB_len k x
      generalize shf k x = y at g10 hls hss hsx
      have wy : IntKind.u8.wrap (y : Int) = ((y % 256 : Nat) : Int) := by simp [IntKind.wrap, IntKind.signed, IntKind.bits]
      have sy : ((y : Int).fdiv (2 ^ min 8 64)) = ((y / 256 : Nat) : Int) := shr_u64 rfl
      have wk := succ_in (j := k) (by omega)
      obtain ⟨w', s3, happ, ho3, hn3, hfr⟩ := (ho.new (.cells [.int .u8 ((y % 256 : Nat) : Int)] false false 0)).push (by simp only [St.next_new]; omega) (by rw [List.length_append, hlk]; omega) ((y % 256 : Nat) : Int)
      simp only [St.next_new] at hn3
      simp -implicitDefEqProofs only [go_sem, Wk_block, Wk_drawnC, reduceCtorEq, Nat.reduceEqDiff, Nat.reduceAdd, Nat.reduceLeDiff, Nat.reduceLT, Nat.reduceMul, Nat.reduceSub, ↓reduceIte, Int.reduceLT, Int.reduceLE, Int.reduceNeg, Int.reduceAdd, Int.reduceEq, Nat.reduceBneDiff, Nat.reduceBEq, Int.reduceToNat, Int.reduceMul, Int.reduceSub, Int.reduceBEq, Int.reduceBNe, g28, g27, g10, g8, hlt2, wy, sy, wk, srcA, happ]
      refine IH2 (w - (k + 1)) _ _ (by omega) ⟨k + 1, w', rfl, by omega, ?_, ?_, ?_, ?_, ?_, ?_, ?_, ?_, by rw [hls, ← List.append_assoc]; exact ho3, fun b hb => ?_, by omega, by omega, by rw [hss]; omega⟩
      · simp only [Tr.get_set, Nat.reduceEqDiff, ↓reduceIte, Int.cast_ofNat_Int]
      · simp only [Tr.get_set, Nat.reduceEqDiff, ↓reduceIte, Int.cast_ofNat_Int, g27]
      · rw [hss]; simp only [Tr.get_set, Nat.reduceEqDiff, ↓reduceIte, Int.cast_ofNat_Int]
      · simp only [Tr.get_set, Nat.reduceEqDiff, ↓reduceIte, Int.cast_ofNat_Int]
      · simp only [Tr.get_set, Nat.reduceEqDiff, ↓reduceIte, Int.cast_ofNat_Int, g18]
      · simp only [Tr.get_set, Nat.reduceEqDiff, ↓reduceIte, Int.cast_ofNat_Int, g17]
      · simp only [Tr.get_set, Nat.reduceEqDiff, ↓reduceIte, Int.cast_ofNat_Int, g16]
      · simp only [Tr.get_set, Nat.reduceEqDiff, ↓reduceIte, Int.cast_ofNat_Int, g1]
      · rw [hfr b hb, St.get_new, if_neg (by omega)]; exact hg b hb
    · have : k = w := by omega
      subst this
      have hlf : decide ((k : Int) < (k : Int)) = false := decide_eq_false (by omega)
      simp -implicitDefEqProofs only [go_sem, Wk_block, Wk_drawnC, reduceCtorEq, Nat.reduceEqDiff, Nat.reduceAdd, Nat.reduceLeDiff, Nat.reduceLT, Nat.reduceMul, Nat.reduceSub, ↓reduceIte, Int.reduceLT, Int.reduceLE, Int.reduceNeg, Int.reduceAdd, Int.reduceEq, Nat.reduceBneDiff, Nat.reduceBEq, Int.reduceToNat, Int.reduceMul, Int.reduceSub, Int.reduceBEq, Int.reduceBNe, g28, g27, hlf, hlt2, g18, wj]
      refine IH (ns.length - (j + 1)) _ _ (by omega) ⟨j + 1, u, rfl, by omega, ?_, ?_, ?_, ?_, ?_, by rw [hpt, ← List.append_assoc, hP]; exact ho, hg, by omega, hn2⟩
      · simp only [Tr.get_set, Nat.reduceEqDiff, ↓reduceIte, Int.cast_ofNat_Int]
      · simp only [Tr.get_set, Nat.reduceEqDiff, ↓reduceIte, Int.cast_ofNat_Int, g17]
      · simp only [Tr.get_set, Nat.reduceEqDiff, ↓reduceIte, Int.cast_ofNat_Int, g16]
      · simp only [Tr.get_set, Nat.reduceEqDiff, ↓reduceIte, Int.cast_ofNat_Int, g8]
      · simp only [Tr.get_set, Nat.reduceEqDiff, ↓reduceIte, Int.cast_ofNat_Int, g1]
  · have : j = ns.length := by omega
    subst this
    rw [List.take_length] at ho
    have hlf : decide ((ns.length : Int) < (ns.length : Int)) = false := decide_eq_false (by omega)
    simp -implicitDefEqProofs only [go_sem, Wk_block, Wk_drawnC, reduceCtorEq, Nat.reduceEqDiff, Nat.reduceAdd, Nat.reduceLeDiff, Nat.reduceLT, Nat.reduceMul, Nat.reduceSub, ↓reduceIte, Int.reduceLT, Int.reduceLE, Int.reduceNeg, Int.reduceAdd, Int.reduceEq, Nat.reduceBneDiff, Nat.reduceBEq, Int.reduceToNat, Int.reduceMul, Int.reduceSub, Int.reduceBEq, Int.reduceBNe, g18, g17, hlf, hlt, g8]
    exact ⟨u, rfl, ho, hg, by omega, hn2⟩

theorem decW_some : ∀ {l : List AV} {L : List Nat}, decW l = some L → l = L.map (fun n => .int .u64 (n : Int)) ∧ ∀ x ∈ L, x < 18446744073709551616
  | [], L, h => by cases h; exact ⟨rfl, by simp⟩
  | x :: r, L, h => by
    unfold decW at h
    split at h
    · rename_i hm; cases hm
    · rename_i n r' hm
      cases hm
      split at h
      · rename_i hn
        split at h
        · rename_i l hl
          cases h
          obtain ⟨h1, h2⟩ := decW_some hl
          refine ⟨by rw [h1]; rfl, fun y hy => ?_⟩
          rcases List.mem_cons.1 hy with rfl | hy
          · simpa using hn
          · exact h2 y hy
        · cases h
      · cases h
    · cases h
theorem cloned_run {s : St} {b : AV} {l : List AV} (h : cloned s b = some l) (hd : ∀ b o, s.get b = some o → b < s.next) : l.length < 100000000 ∧ ∃ u sc, mm.L.call 39 [b] s = some (u, sc) ∧ OutB sc s.next u l ∧ s.next ≤ sc.next ∧ sc.next ≤ s.next + 2 ∧ ∀ b, b < s.next → sc.get b = s.get b := by
  unfold cloned at h
  split at h
  · cases h; exact ⟨by simp, _, _, Clone_nil s, .inl ⟨rfl, rfl⟩, Nat.le_refl _, by omega, fun _ _ => rfl⟩
  · cases h
    exact ⟨by simp, _, _, Clone_tail _ _ _ s, .inr (.inl ⟨s.next, rfl, rfl, Nat.le_refl _, Nat.lt_succ_self _, by rw [St.get_new, if_pos rfl]⟩), by simp, by simp, fun b hb => by rw [St.get_new, if_neg (by omega)]⟩
  · rename_i b o n c lo
    split at h
    case isFalse => cases h
    rename_i hn
    have hn : n < 100000000 := by simpa using hn
    have hc := Clone_raw (c := c) (lo := lo) h (by omega) hd
    obtain ⟨vs, lo2, ro, z, g1, g2, g3⟩ := loadA_some h
    have hll : l.length = n := by rw [g3, List.length_take, List.length_drop]; omega
    refine ⟨by omega, ?_⟩
    cases n with
    | zero =>
      have : l = [] := List.eq_nil_of_length_eq_zero hll
      subst this
      exact ⟨_, _, hc, .inr (.inl ⟨s.next, rfl, rfl, Nat.le_refl _, Nat.lt_succ_self _, by rw [St.get_new, if_pos rfl]⟩), by simp, by simp, fun b hb => by rw [St.get_new, if_neg (by omega)]⟩
    | succ n =>
      refine ⟨_, _, hc, .inr (.inr ⟨s.next + 1, by rw [hll], by omega, by omega, by simp, by rw [St.get_new, if_pos (by simp)]⟩), by simp; omega, by simp, fun b hb => by rw [St.get_new, if_neg (by simp; omega), St.get_new, if_neg (by omega)]⟩
  · cases h

theorem sumPut_run {args : List AV} {s s' : St} {v : AV} (h : sumPut args s = some (v, s')) (hd : ∀ b o, s.get b = some o → b < s.next) : Wf mm 44 args s fun v1 s1 => D.Can s v1 s1 v s' := by
  unfold sumPut at h
  split at h
  case h_2 => cases h
  rename_i b w lb lo n c lz
  split at h
  case isFalse => cases h
  rename_i hc
  simp only [Bool.and_eq_true] at hc
  obtain ⟨hok, hn0, hn1⟩ := hc
  obtain ⟨hw, hw8⟩ := okW_small hok
  split at h
  case h_2 => cases h
  rename_i l hl
  split at h
  case h_2 => cases h
  rename_i x hx
  split at h
  case h_2 => cases h
  rename_i ns hns
  split at h
  case isFalse => cases h
  rename_i hall
  split at h
  case h_1 => cases h
  rename_i y r hyr
  cases h
  obtain ⟨hll, u, sc, hcl, hu, hsn, hsn2, hsg⟩ := cloned_run hl hd
  obtain ⟨hxm, hxl⟩ := decW_some hns
  obtain ⟨vs, lo2, ro, z, g1, g2, g3⟩ := loadA_some hx
  have hlen : ns.length = n := by
    have := congrArg List.length hxm
    rw [List.length_map, g3, List.length_take, List.length_drop] at this
    omega
  subst hlen
  have hn1 : ns.length < 1000 := by simpa using hn1
  refine (Put_run (lv := .slice lb lo ns.length c lz) hok hw hw8 hcl hu hsn hsn2 hsg hll hn1 (fun _ => rfl) fun j hj => ?_).mono ?_
  · refine ⟨lb, lo, vs, lo2, ro, z, fun s' => by rw [idx1_slice hj, Nat.mul_one], g1, hd _ _ g1, ?_, hxl _ (List.getElem_mem hj), ?_⟩
    · have := congrArg (fun l => l[j]?) hxm
      simp only [g3, List.getElem?_take_of_lt hj, List.getElem?_drop] at this
      rw [this, List.getElem?_map, List.getElem?_eq_getElem hj]
      rfl
    · have := List.all_eq_true.1 hall ns[j] (List.getElem_mem hj)
      exact Nat.le_of_ble_eq_true this
  · rintro _ s1 ⟨v0, rfl, ho, hg, hn, hn2⟩
    rw [hyr] at ho
    rcases ho with ⟨_, h1⟩ | ⟨_, _, h1, _⟩ | ⟨p, rfl, h1, h2, h3, h4⟩
    · cases h1
    · cases h1
    · refine .new (s.skip (2 + 16 * ns.length)) _ p rfl (fun b o hb => ?_) (by simp only [St.next_skip]; omega) (fun b vs l e hb => hb) h4 h2 ?_ fun ν ν' c hle hp hc => ?_
      · rw [St.get_skip] at hb
        rw [hg b (hd b o hb)]; exact hb
      · rw [St.get_skip]
        cases e : s.get p with
        | none => rfl
        | some o => have := hd p o e; omega
      · simp only [conc, concs, Option.map_eq_some_iff, Option.bind_eq_some_iff] at hc ⊢
        obtain ⟨a, ⟨b, ⟨q, hq, rfl⟩, rest, ⟨_, ⟨rfl⟩, e1, ⟨rfl⟩, rfl⟩, rfl⟩, rfl⟩ := hc
        refine ⟨_, ⟨_, ⟨q, by rw [← hq, ← hp]; rfl, rfl⟩, _, ⟨_, rfl, _, rfl, rfl⟩, rfl⟩, rfl⟩
theorem sumPut_next (args : List AV) (s : St) (v : AV) (s' : St) (hx : sumPut args s = some (v, s')) : s.next ≤ s'.next := by
  unfold sumPut at hx
  repeat' split at hx
  all_goals first
    | (cases hx; done)
    | (cases hx; simp only [St.next_new, St.next_skip]; omega)
end Go.Proofs.YteiiblpnegjjlaaGreat.Base
namespace Go.Proofs.YteiiblpnegjjlaaGreat
open D
theorem mm_mixed : Tryz.prog.follows .mixedOrders = true := Base.mm_mixed
set_option maxRecDepth 1000000 in
theorem mm_ft : FnsOk Tryz.prog mm.FT := tab_ok
set_option maxRecDepth 1000000 in
theorem mm_sm : SumsOk Tryz.prog mm.SM := sumsOk_addW Base.mm_mixed Base.mm_ft Base.mm_sm Base.mm_sn Base.sumPut_run (sumsOk_addW Base.mm_mixed Base.mm_ft Base.mm_sm Base.mm_sn Base.sumClone_run (sumsOk_addW Base.mm_mixed Base.mm_ft Base.mm_sm Base.mm_sn Base.sumLen_run (sumsOk_addW Base.mm_mixed Base.mm_ft Base.mm_sm Base.mm_sn Base.sumNum_run (sumsOk_addW Base.mm_mixed Base.mm_ft Base.mm_sm Base.mm_sn Base.sumTurn_run (sumsOk_addW Base.mm_mixed Base.mm_ft Base.mm_sm Base.mm_sn Base.sumOf_run (sumsOk_addW Base.mm_mixed Base.mm_ft Base.mm_sm Base.mm_sn Base.sumRight_run (Base.mm_sm)))))))
theorem mm_sn : SumsNext mm.SM := sumsNext_addI Base.sumPut_next (sumsNext_addI Base.sumClone_next (sumsNext_addI Base.sumLen_next (sumsNext_addI Base.sumNum_next (sumsNext_addI Base.sumTurn_next (sumsNext_addI Base.sumOf_next (sumsNext_addI Base.sumRight_next (Base.mm_sn)))))))
end Go.Proofs.YteiiblpnegjjlaaGreat
namespace Go.Proofs.YteiiblpnegjjlaaGreat.Lw
open D
noncomputable def mm : Mach := ⟨tab.get, addSum Base.SM1 6 aliveSum⟩
theorem mm_mixed : Tryz.prog.follows .mixedOrders = true := Base.mm_mixed
set_option maxRecDepth 1000000 in
theorem mm_ft : FnsOk Tryz.prog mm.FT := tab_ok
set_option maxRecDepth 1000000 in
theorem mm_sm : SumsOk Tryz.prog mm.SM := sumsOk_add YteiiblpnegjjlaaGreat.mm_mixed YteiiblpnegjjlaaGreat.mm_ft YteiiblpnegjjlaaGreat.mm_sm YteiiblpnegjjlaaGreat.mm_sn alive_ran Base.mm_sm
theorem mm_sn : SumsNext mm.SM := sumsNext_add Base.mm_sn _
theorem sm {f : Nat} (h : f ≠ 282 ∧ f ≠ 6) : mm.SM f = none := (addSum_ne h.2).trans (addSum_ne h.1)
theorem step_eq (args : List AV) (s : St) : mm.L.call 282 args s = sumStep args s := by
  rw [lim_call]
  unfold callStep
  rw [show mm.SM 282 = some sumStep by show addSum (addSum noSums 282 sumStep) 6 aliveSum 282 = _; rw [addSum_ne (by decide)]; exact addSum_eq]
theorem alive_eq (s : St) : mm.L.call 6 [] s = some (.bool true, s) := by
  rw [lim_call]
  unfold callStep
  rw [show mm.SM 6 = some aliveSum by show addSum (addSum noSums 282 sumStep) 6 aliveSum 6 = _; exact addSum_eq]
  rfl
theorem of_Wf {f : Nat} {l : List AV} {s s' : St} {v : AV} (h : Wf mm f l s fun v1 s1 => v1 = v ∧ s1 = s') : mm.L.call f l s = some (v, s') := by
  obtain ⟨v1, s1, h, rfl, rfl⟩ := h; exact h
theorem call_of_eng {f fuel : Nat} {a : List AV} {s s' : St} {v : AV} (h : (eng mm.FT mm.SM fuel).call f a s = some (v, s')) : mm.L.call f a s = some (v, s') := ((sup_lim mm.FT mm.SM).le fuel).call f a s _ h
theorem ft3 : mm.FT 3 = some fd3 := by kernel_rfl
theorem ft4 : mm.FT 4 = some fd4 := by kernel_rfl
theorem ft5 : mm.FT 5 = some fd5 := by kernel_rfl
theorem ft6 : mm.FT 6 = some fd6 := by kernel_rfl
theorem ft7 : mm.FT 7 = some fd7 := by kernel_rfl
theorem ft8 : mm.FT 8 = some fd8 := by kernel_rfl
theorem ft9 : mm.FT 9 = some fd9 := by kernel_rfl
theorem ft10 : mm.FT 10 = some fd10 := by kernel_rfl
theorem ft11 : mm.FT 11 = some fd11 := by kernel_rfl
theorem ft12 : mm.FT 12 = some fd12 := by kernel_rfl
theorem ft13 : mm.FT 13 = some fd13 := by kernel_rfl
theorem ft14 : mm.FT 14 = some fd14 := by kernel_rfl
theorem ft15 : mm.FT 15 = some fd15 := by kernel_rfl
theorem ft16 : mm.FT 16 = some fd16 := by kernel_rfl
theorem ft17 : mm.FT 17 = some fd17 := by kernel_rfl
theorem ft18 : mm.FT 18 = some fd18 := by kernel_rfl
theorem ft19 : mm.FT 19 = some fd19 := by kernel_rfl
theorem ft20 : mm.FT 20 = some fd20 := by kernel_rfl
theorem ft21 : mm.FT 21 = some fd21 := by kernel_rfl
theorem ft22 : mm.FT 22 = some fd22 := by kernel_rfl
theorem ft23 : mm.FT 23 = some fd23 := by kernel_rfl
theorem ft24 : mm.FT 24 = some fd24 := by kernel_rfl
theorem ft25 : mm.FT 25 = some fd25 := by kernel_rfl
theorem ft26 : mm.FT 26 = some fd26 := by kernel_rfl
theorem ft27 : mm.FT 27 = some fd27 := by kernel_rfl
theorem ft28 : mm.FT 28 = some fd28 := by kernel_rfl
theorem ft29 : mm.FT 29 = some fd29 := by kernel_rfl
theorem ft30 : mm.FT 30 = some fd30 := by kernel_rfl
theorem ft31 : mm.FT 31 = some fd31 := by kernel_rfl
theorem ft32 : mm.FT 32 = some fd32 := by kernel_rfl
theorem ft33 : mm.FT 33 = some fd33 := by kernel_rfl
theorem ft34 : mm.FT 34 = some fd34 := by kernel_rfl
theorem ft35 : mm.FT 35 = some fd35 := by kernel_rfl
theorem ft36 : mm.FT 36 = some fd36 := by kernel_rfl
theorem ft37 : mm.FT 37 = some fd37 := by kernel_rfl
theorem ft38 : mm.FT 38 = some fd38 := by kernel_rfl
theorem ft39 : mm.FT 39 = some fd39 := by kernel_rfl
theorem ft40 : mm.FT 40 = some fd40 := by kernel_rfl
theorem ft41 : mm.FT 41 = some fd41 := by kernel_rfl
theorem ft42 : mm.FT 42 = some fd42 := by kernel_rfl
theorem ft43 : mm.FT 43 = some fd43 := by kernel_rfl
theorem ft44 : mm.FT 44 = some fd44 := by kernel_rfl
theorem ft45 : mm.FT 45 = some fd45 := by kernel_rfl
theorem ft46 : mm.FT 46 = some fd46 := by kernel_rfl
theorem ft47 : mm.FT 47 = some fd47 := by kernel_rfl
theorem ft48 : mm.FT 48 = some fd48 := by kernel_rfl
theorem ft49 : mm.FT 49 = some fd49 := by kernel_rfl
theorem ft50 : mm.FT 50 = some fd50 := by kernel_rfl
theorem ft51 : mm.FT 51 = some fd51 := by kernel_rfl
theorem ft52 : mm.FT 52 = some fd52 := by kernel_rfl
theorem ft53 : mm.FT 53 = some fd53 := by kernel_rfl
theorem ft54 : mm.FT 54 = some fd54 := by kernel_rfl
theorem ft55 : mm.FT 55 = some fd55 := by kernel_rfl
theorem ft56 : mm.FT 56 = some fd56 := by kernel_rfl
theorem ft57 : mm.FT 57 = some fd57 := by kernel_rfl
theorem ft58 : mm.FT 58 = some fd58 := by kernel_rfl
theorem ft59 : mm.FT 59 = some fd59 := by kernel_rfl
theorem ft60 : mm.FT 60 = some fd60 := by kernel_rfl
theorem ft61 : mm.FT 61 = some fd61 := by kernel_rfl
theorem ft62 : mm.FT 62 = some fd62 := by kernel_rfl
theorem ft63 : mm.FT 63 = some fd63 := by kernel_rfl
theorem ft74 : mm.FT 74 = some fd74 := by kernel_rfl
theorem ft75 : mm.FT 75 = some fd75 := by kernel_rfl
theorem ft76 : mm.FT 76 = some fd76 := by kernel_rfl
theorem ft77 : mm.FT 77 = some fd77 := by kernel_rfl
theorem ft78 : mm.FT 78 = some fd78 := by kernel_rfl
theorem ft79 : mm.FT 79 = some fd79 := by kernel_rfl
theorem ft80 : mm.FT 80 = some fd80 := by kernel_rfl
theorem ft81 : mm.FT 81 = some fd81 := by kernel_rfl
theorem ft94 : mm.FT 94 = some fd94 := by kernel_rfl
theorem ft95 : mm.FT 95 = some fd95 := by kernel_rfl
theorem ft96 : mm.FT 96 = some fd96 := by kernel_rfl
theorem ft104 : mm.FT 104 = some fd104 := by kernel_rfl
theorem ft105 : mm.FT 105 = some fd105 := by kernel_rfl
theorem ft106 : mm.FT 106 = some fd106 := by kernel_rfl
theorem ft107 : mm.FT 107 = some fd107 := by kernel_rfl
theorem ft108 : mm.FT 108 = some fd108 := by kernel_rfl
theorem ft109 : mm.FT 109 = some fd109 := by kernel_rfl
theorem ft110 : mm.FT 110 = some fd110 := by kernel_rfl
theorem ft111 : mm.FT 111 = some fd111 := by kernel_rfl
theorem ft112 : mm.FT 112 = some fd112 := by kernel_rfl
theorem ft113 : mm.FT 113 = some fd113 := by kernel_rfl
theorem ft114 : mm.FT 114 = some fd114 := by kernel_rfl
theorem ft116 : mm.FT 116 = some fd116 := by kernel_rfl
theorem ft118 : mm.FT 118 = some fd118 := by kernel_rfl
theorem ft120 : mm.FT 120 = some fd120 := by kernel_rfl
theorem ft128 : mm.FT 128 = some fd128 := by kernel_rfl
theorem ft140 : mm.FT 140 = some fd140 := by kernel_rfl
theorem ft143 : mm.FT 143 = some fd143 := by kernel_rfl
theorem ft152 : mm.FT 152 = some fd152 := by kernel_rfl
theorem ft153 : mm.FT 153 = some fd153 := by kernel_rfl
theorem ft154 : mm.FT 154 = some fd154 := by kernel_rfl
theorem ft155 : mm.FT 155 = some fd155 := by kernel_rfl
theorem ft156 : mm.FT 156 = some fd156 := by kernel_rfl
theorem ft157 : mm.FT 157 = some fd157 := by kernel_rfl
theorem ft158 : mm.FT 158 = some fd158 := by kernel_rfl
theorem ft159 : mm.FT 159 = some fd159 := by kernel_rfl
theorem ft160 : mm.FT 160 = some fd160 := by kernel_rfl
theorem ft161 : mm.FT 161 = some fd161 := by kernel_rfl
theorem ft162 : mm.FT 162 = some fd162 := by kernel_rfl
theorem ft163 : mm.FT 163 = some fd163 := by kernel_rfl
theorem ft164 : mm.FT 164 = some fd164 := by kernel_rfl
theorem ft165 : mm.FT 165 = some fd165 := by kernel_rfl
theorem ft167 : mm.FT 167 = some fd167 := by kernel_rfl
theorem ft169 : mm.FT 169 = some fd169 := by kernel_rfl
theorem ft170 : mm.FT 170 = some fd170 := by kernel_rfl
theorem ft173 : mm.FT 173 = some fd173 := by kernel_rfl
theorem ft174 : mm.FT 174 = some fd174 := by kernel_rfl
theorem ft179 : mm.FT 179 = some fd179 := by kernel_rfl
theorem ft180 : mm.FT 180 = some fd180 := by kernel_rfl
theorem ft197 : mm.FT 197 = some fd197 := by kernel_rfl
theorem ft207 : mm.FT 207 = some fd207 := by kernel_rfl
theorem ft210 : mm.FT 210 = some fd210 := by kernel_rfl
theorem ft211 : mm.FT 211 = some fd211 := by kernel_rfl
theorem ft212 : mm.FT 212 = some fd212 := by kernel_rfl
theorem ft213 : mm.FT 213 = some fd213 := by kernel_rfl
theorem ft214 : mm.FT 214 = some fd214 := by kernel_rfl
theorem ft215 : mm.FT 215 = some fd215 := by kernel_rfl
theorem ft216 : mm.FT 216 = some fd216 := by kernel_rfl
theorem ft217 : mm.FT 217 = some fd217 := by kernel_rfl
theorem ft218 : mm.FT 218 = some fd218 := by kernel_rfl
theorem ft219 : mm.FT 219 = some fd219 := by kernel_rfl
theorem ft220 : mm.FT 220 = some fd220 := by kernel_rfl
theorem ft223 : mm.FT 223 = some fd223 := by kernel_rfl
theorem ft226 : mm.FT 226 = some fd226 := by kernel_rfl
theorem ft227 : mm.FT 227 = some fd227 := by kernel_rfl
theorem ft228 : mm.FT 228 = some fd228 := by kernel_rfl
theorem ft233 : mm.FT 233 = some fd233 := by kernel_rfl
theorem ft234 : mm.FT 234 = some fd234 := by kernel_rfl
theorem ft243 : mm.FT 243 = some fd243 := by kernel_rfl
theorem ft248 : mm.FT 248 = some fd248 := by kernel_rfl
theorem ft260 : mm.FT 260 = some fd260 := by kernel_rfl
theorem ft261 : mm.FT 261 = some fd261 := by kernel_rfl
theorem ft262 : mm.FT 262 = some fd262 := by kernel_rfl
theorem ft263 : mm.FT 263 = some fd263 := by kernel_rfl
theorem ft269 : mm.FT 269 = some fd269 := by kernel_rfl
theorem ft271 : mm.FT 271 = some fd271 := by kernel_rfl
theorem ft275 : mm.FT 275 = some fd275 := by kernel_rfl
theorem ft282 : mm.FT 282 = some fd282 := by kernel_rfl
theorem ft289 : mm.FT 289 = some fd289 := by kernel_rfl
theorem ft290 : mm.FT 290 = some fd290 := by kernel_rfl
theorem ft295 : mm.FT 295 = some fd295 := by kernel_rfl
theorem ft296 : mm.FT 296 = some fd296 := by kernel_rfl
theorem ft297 : mm.FT 297 = some fd297 := by kernel_rfl
theorem ft302 : mm.FT 302 = some fd302 := by kernel_rfl
theorem ft303 : mm.FT 303 = some fd303 := by kernel_rfl
theorem ft315 : mm.FT 315 = some fd315 := by kernel_rfl
theorem ft320 : mm.FT 320 = some fd320 := by kernel_rfl
theorem ft321 : mm.FT 321 = some fd321 := by kernel_rfl
theorem ft323 : mm.FT 323 = some fd323 := by kernel_rfl
theorem ft325 : mm.FT 325 = some fd325 := by kernel_rfl
theorem ft355 : mm.FT 355 = some fd355 := by kernel_rfl
end Go.Proofs.YteiiblpnegjjlaaGreat.Lw
namespace Go.Proofs.YteiiblpnegjjlaaGreat.Lw
open D
set_option linter.unusedSimpArgs false
set_option linter.unusedVariables false
set_option maxRecDepth 10000
noncomputable section
def okW (w : Int) : Bool := match w with
  | .ofNat n => Nat.beq n 1 || Nat.beq n 2 || Nat.beq n 4 || Nat.beq n 8
  | .negSucc _ => false
def sumRight : List AV → St → Option (AV × St)
  | [.int .i64 w], s => some (.bool (okW w), s)
  | _, _ => none
def u8 (c : Nat) : AV := .int .u8 (c : Int)
def decU : List AV → Option (List Nat)
  | [] => some []
  | .int .u8 (.ofNat n) :: r => if Nat.blt n 256 then match decU r with
      | some l => some (n :: l)
      | none => none
    else none
  | _ :: _ => none
/-- The bytes of a slice. -/
noncomputable def readU (s : St) : AV → Option (List Nat)
  | .nilSlice => some []
  | .tail _ _ _ => some []
  | .slice b o n _ _ => match loadA s b o n with
    | some l => decU l
    | none => none
  | _ => none
def crcB (n : Nat) (L : List Nat) : Nat := L.foldl crcStep n
def crcP (n : Nat) (Ps : List (List Nat)) : Nat := Ps.foldl crcB n
noncomputable def readPs (s : St) : List AV → Option (List (List Nat))
  | [] => some []
  | w :: r => match readU s w with
    | some L => match readPs s r with
      | some l => some (L :: l)
      | none => none
    | none => none
def small (Ps : List (List Nat)) : Bool := Ps.all fun L => Nat.blt L.length 1000000000
noncomputable def sumOf : List AV → St → Option (AV × St)
  | [.slice b o n _ _], s => match loadA s b o n with
    | some l => match readPs s l with
      | some Ps => if Nat.blt Ps.length 1000000000 && small Ps then some (.int .u32 ((crcP 4294967295 Ps : Nat) : Int), s) else none
      | none => none
    | none => none
  | _, _ => none
def trn (f t : Int) (x : Nat) : AV := match ((x : Int) == f) with
  | true => .int .u8 t
  | false => u8 x
noncomputable def sumTurn : List AV → St → Option (AV × St)
  | [.ptr p 0, .int .u8 f, .int .u8 t], s => match s.get p with
    | some (.cells vs lo false z) => match decU ((vs.drop 241).take 240) with
      | some L => if Nat.beq L.length 240 then some (.tup [], s.put p (.cells (splice vs 241 (L.map (trn f t))) lo false z)) else none
      | none => none
    | _ => none
  | _, _ => none
/-- The number of some bytes, the lowest first. -/
def leN : List Nat → Nat
  | [] => 0
  | c :: r => c + 256 * leN r
def capOk : AV → Bool
  | .slice _ _ n c _ => Nat.ble n c
  | _ => true
noncomputable def sumNum : List AV → St → Option (AV × St)
  | [.ptr q 0, .int .i64 (.ofNat w)], s => if okW (.ofNat w) then match s.get q with
      | some (.cells [rest, .bool fl] lo false z) => match readU s rest with
        | some L => if Nat.blt L.length 1000000000 && capOk rest then
            (if fl || Nat.blt L.length w then some (.int .u64 0, (s.put q (.cells [rest, .bool true] lo false z)).skip 10)
            else match sliceA 1 rest (some (.int .i64 (.ofNat w))) none none with
              | some rest' => some (.int .u64 (.ofNat (leN (L.take w))), (s.put q (.cells [rest', .bool false] lo false z)).skip 10)
              | none => none)
          else none
        | none => none
      | _ => none
    else none
  | _, _ => none
def tab8 : ByteArray := ⟨#[0, 1, 2, 2, 3, 3, 3, 3, 4, 4, 4, 4, 4, 4, 4, 4, 5, 5, 5, 5, 5, 5, 5, 5, 5, 5, 5, 5, 5, 5, 5, 5, 6, 6, 6, 6, 6, 6, 6, 6, 6, 6, 6, 6, 6, 6, 6, 6, 6, 6, 6, 6, 6, 6, 6, 6, 6, 6, 6, 6, 6, 6, 6, 6, 7, 7, 7, 7, 7, 7, 7, 7, 7, 7, 7, 7, 7, 7, 7, 7, 7, 7, 7, 7, 7, 7, 7, 7, 7, 7, 7, 7, 7, 7, 7, 7, 7, 7, 7, 7, 7, 7, 7, 7, 7, 7, 7, 7, 7, 7, 7, 7, 7, 7, 7, 7, 7, 7, 7, 7, 7, 7, 7, 7, 7, 7, 7, 7, 8, 8, 8, 8, 8, 8, 8, 8, 8, 8, 8, 8, 8, 8, 8, 8, 8, 8, 8, 8, 8, 8, 8, 8, 8, 8, 8, 8, 8, 8, 8, 8, 8, 8, 8, 8, 8, 8, 8, 8, 8, 8, 8, 8, 8, 8, 8, 8, 8, 8, 8, 8, 8, 8, 8, 8, 8, 8, 8, 8, 8, 8, 8, 8, 8, 8, 8, 8, 8, 8, 8, 8, 8, 8, 8, 8, 8, 8, 8, 8, 8, 8, 8, 8, 8, 8, 8, 8, 8, 8, 8, 8, 8, 8, 8, 8, 8, 8, 8, 8, 8, 8, 8, 8, 8, 8, 8, 8, 8, 8, 8, 8, 8, 8, 8, 8, 8, 8, 8, 8, 8, 8, 8, 8, 8, 8, 8, 8]⟩
def blen8 (n : Nat) : Nat := if n = 0 then 0 else if n < 2 then 1 else if n < 4 then 2 else if n < 8 then 3 else if n < 16 then 4 else if n < 32 then 5 else if n < 64 then 6 else if n < 128 then 7 else 8
def sh1 (n : Nat) : Nat := bif Nat.ble 4294967296 n then n / 4294967296 else n
def sh2 (n : Nat) : Nat := bif Nat.ble 65536 n then n / 65536 else n
def sh3 (n : Nat) : Nat := bif Nat.ble 256 n then n / 256 else n
def blen (n : Nat) : Nat := (bif Nat.ble 4294967296 n then 32 else 0) + (bif Nat.ble 65536 (sh1 n) then 16 else 0) + (bif Nat.ble 256 (sh2 (sh1 n)) then 8 else 0) + blen8 (sh3 (sh2 (sh1 n)))
def sumLen : List AV → St → Option (AV × St)
  | [.int .u64 (.ofNat n)], s => if Nat.blt n 18446744073709551616 then some (.int .i64 (.ofNat (blen n)), s) else none
  | _, _ => none
noncomputable def sumClone : List AV → St → Option (AV × St)
  | [.nilSlice], s => some (.nilSlice, s)
  | [.slice b o n _ _], s => if Nat.blt n 1000000000 then match loadA s b o n with
      | some l => some (match n with
        | 0 => (.slice s.next 0 0 0 false, s.new (.cells [] false false 0))
        | n + 1 => (.slice (s.next + 1) 0 (n + 1) (n + 1) true, (s.new (.cells [] false false 0)).new (.cells l true false 1)))
      | none => none
    else none
  | [.tail _ _ _], s => some (.slice s.next 0 0 0 false, s.new (.cells [] false false 0))
  | _, _ => none
/-- A number's bytes, the lowest first. -/
def leB : Nat → Nat → List AV
  | 0, _ => []
  | k + 1, n => .int .u8 ((n % 256 : Nat) : Int) :: leB k (n / 256)
def shf : Nat → Nat → Nat
  | 0, n => n
  | k + 1, n => shf k (n / 256)
def putL (w : Nat) (ns : List Nat) : List AV := ns.flatMap (leB w)
def decW : List AV → Option (List Nat)
  | [] => some []
  | .int .u64 (.ofNat n) :: r => if Nat.blt n 18446744073709551616 then match decW r with
      | some l => some (n :: l)
      | none => none
    else none
  | _ :: _ => none
/-- What is copied, and what it holds. -/
noncomputable def cloned (s : St) : AV → Option (List AV)
  | .nilSlice => some []
  | .tail _ _ _ => some []
  | .slice b o n _ _ => if Nat.blt n 100000000 then loadA s b o n else none
  | _ => none
noncomputable def sumPut : List AV → St → Option (AV × St)
  | [b, .int .i64 (.ofNat w), .slice lb lo n _ _], s => if okW (.ofNat w) && (Nat.blt 0 n && Nat.blt n 1000) then match cloned s b with
      | some l => match loadA s lb lo n with
        | some x => match decW x with
          | some ns => if ns.all (fun n => Nat.ble (blen n) (8 * w)) then match l ++ putL w ns with
              | [] => none
              | y :: r => some (.tup [.slice (s.next + (2 + 16 * n)) 0 (r.length + 1) (r.length + 1) true, .int .i64 0], (s.skip (2 + 16 * n)).new (.cells (y :: r) true false 1))
            else none
          | none => none
        | none => none
      | none => none
    else none
  | _, _ => none
end
end Go.Proofs.YteiiblpnegjjlaaGreat.Lw
