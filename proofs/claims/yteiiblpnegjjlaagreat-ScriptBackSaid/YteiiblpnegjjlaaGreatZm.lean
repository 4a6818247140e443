/- Scripts. Numbers put behind bytes: rows of bytes that grow; out.put; label.Put.
Scripts. A script's bytes: the program's answer.
Scripts. A script's bytes: the program's answer, whole.
Scripts. Numbers put behind bytes: the document's answer.
Scripts. A script's bytes: the document's answer, whole.
The law of scripts' bytes. -/
import Derived.Test.YteiiblpnegjjlaaGreatZl
namespace Go.Proofs.YteiiblpnegjjlaaGreat.Lw
open D
set_option linter.unusedSimpArgs false
set_option linter.unusedVariables false
set_option maxRecDepth 10000

theorem sumStep_stp (args : List AV) (s : St) (v : AV) (s' : St) (h : sumStep args s = some (v, s')) : Stp s s' := by
  unfold sumStep at h
  repeat' split at h
  all_goals first
    | (cases h; done)
    | (cases h; exact .refl _)
theorem alive_stp (args : List AV) (s : St) (v : AV) (s' : St) (h : aliveSum args s = some (v, s')) : Stp s s' := by
  unfold aliveSum at h
  repeat' split at h
  all_goals first
    | (cases h; done)
    | (cases h; exact .refl _)
theorem mm_st : SumsStp mm.SM := sumsStp_add alive_stp (sumsStp_add sumStep_stp noSums_stp)
theorem Stp.domS {s s' : St} (h : Stp s s') (hd : Dom s) : Dom s' := h.dom hd

theorem leB_leb : ∀ k n, leB k n = (leb k n).map u8
  | 0, _ => rfl
  | k + 1, n => by rw [leB, leb, leB_leb k (n / 256), List.map_cons]; rfl
theorem putL_lebs (w : Nat) (ns : List Nat) : putL w ns = (lebs w ns).map u8 := by
  unfold putL lebs
  rw [List.map_flatMap]
  congr 1
  funext n
  exact leB_leb w n
theorem blen_w {w n : Nat} (hw : w = 1 ∨ w = 2 ∨ w = 4) (h : n < 256 ^ w) : n < 18446744073709551616 ∧ blen n ≤ 8 * w := by
  have h4 : n < 4294967296 := by
    rcases hw with rfl | rfl | rfl <;> omega
  refine ⟨by omega, ?_⟩
  have nb : ∀ m, n < m → Nat.ble m n = false := fun m hm => by
    cases hb : Nat.ble m n with
    | false => rfl
    | true => have := Nat.le_of_ble_eq_true hb; omega
  have b8 := blen8_le
  have e0 : Nat.ble 4294967296 n = false := nb _ h4
  have e1 : sh1 n = n := by unfold sh1; rw [e0]; rfl
  unfold blen
  rw [e0, e1]
  rcases hw with rfl | rfl | rfl
  · have e2 : Nat.ble 65536 n = false := nb _ (by omega)
    have e3 : sh2 n = n := by unfold sh2; rw [e2]; rfl
    have e4 : Nat.ble 256 n = false := nb _ (by omega)
    have e5 : sh3 n = n := by unfold sh3; rw [e4]; rfl
    rw [e2, e3, e4, e5]
    have := b8 n
    simp
    omega
  · have e2 : Nat.ble 65536 n = false := nb _ (by omega)
    have e3 : sh2 n = n := by unfold sh2; rw [e2]; rfl
    rw [e2, e3]
    have := b8 (sh3 n)
    cases Nat.ble 256 n <;> simp <;> omega
  · have := b8 (sh3 (sh2 n))
    cases Nat.ble 65536 n <;> cases Nat.ble 256 (sh2 n) <;> simp <;> omega

/-! ### Rows of bytes that grow -/
theorem OutB.le {s : St} {N N' : Nat} {w : AV} {L : List AV} (h : OutB s N w L) (k : N' ≤ N) : OutB s N' w L := by
  rcases h with h | ⟨p, h1, h2, h3, h4⟩ | ⟨p, h1, h2, h3, h4⟩
  · exact .inl h
  · exact .inr (.inl ⟨p, h1, h2, by omega, h4⟩)
  · exact .inr (.inr ⟨p, h1, h2, by omega, h4⟩)
theorem OutB.put {s : St} {N q : Nat} {w : AV} {L : List AV} (h : OutB s N w L) (hq : q < N) (o : AObj) : OutB (s.put q o) N w L := by
  rcases h with h | ⟨p, h1, h2, h3, h4, h5⟩ | ⟨p, h1, h2, h3, h4, h5⟩
  · exact .inl h
  · exact .inr (.inl ⟨p, h1, h2, h3, h4, by rw [St.get_put, if_neg (by omega)]; exact h5⟩)
  · exact .inr (.inr ⟨p, h1, h2, h3, h4, by rw [St.get_put, if_neg (by omega)]; exact h5⟩)
theorem OutB.int {s : St} {N : Nat} {L : List AV} {k : IntKind} {n : Int} (h : OutB s N (.int k n) L) : False := by
  rcases h with ⟨h, _⟩ | ⟨p, h, _⟩ | ⟨p, h, _⟩ <;> cases h
theorem OutB.frx {s s' : St} {N : Nat} {w : AV} {L : List AV} (h : OutB s N w L) {q : Nat} (hq : q < N) (f : FrX q s s') : OutB s' N w L := by
  rcases h with h | ⟨p, h1, h2, h3, h4, h5⟩ | ⟨p, h1, h2, h3, h4, h5⟩
  · exact .inl h
  · exact .inr (.inl ⟨p, h1, h2, h3, Nat.lt_of_lt_of_le h4 f.le, (f.get p h4 (by omega)).trans h5⟩)
  · exact .inr (.inr ⟨p, h1, h2, h3, Nat.lt_of_lt_of_le h4 f.le, (f.get p h4 (by omega)).trans h5⟩)
theorem allCell_u8 : ∀ M : List Nat, allCell (M.map u8) = true
  | [] => rfl
  | c :: M => by simp [allCell, allCell_u8 M, u8, AV.cell]
theorem OutB.cloned {s : St} {N : Nat} {w : AV} {L : List AV} (h : OutB s N w L) (hl : L.length < 100000000) : cloned s w = some L := by
  rcases h with ⟨rfl, rfl⟩ | ⟨p, rfl, rfl, h2, h3, h4⟩ | ⟨p, rfl, h1, h2, h3, h4⟩
  · rfl
  · unfold Lw.cloned
    have : loadA s p 0 0 = some [] := by unfold loadA; rw [h4]; simp
    simp [this]
  · unfold Lw.cloned
    have : loadA s p 0 L.length = some L := by unfold loadA; rw [h4]; simp
    simp [this, hl]
theorem OutB.app {s : St} {N : Nat} {w : AV} {L : List AV} (h : OutB s N w L) (hN : N ≤ s.next) (M : List Nat) (hl : L.length + M.length < 1000000000) :
    ∃ w' s', appendA 1 1 s w M.length (M.map u8) = some (w', s') ∧ OutB s' N w' (L ++ M.map u8) ∧ s.next ≤ s'.next ∧ (∀ b, b < N → s'.get b = s.get b) ∧ Stp s s' ∧ (Dom s → ∀ b vs ro z, s.get b = some (.cells vs false ro z) → s'.get b = some (.cells vs false ro z)) := by
  have hnew : ∀ o : AObj, Dom s → ∀ b vs ro z, s.get b = some (.cells vs false ro z) → (s.new o).get b = some (.cells vs false ro z) := fun o hd b vs ro z hb => by
    rw [St.get_new, if_neg (by have := hd _ _ hb; omega)]; exact hb
  cases M with
  | nil =>
    refine ⟨w, s, ?_, by simpa using h, Nat.le_refl _, fun _ _ => rfl, .refl _, fun _ _ _ _ _ h => h⟩
    rcases h with ⟨rfl, _⟩ | ⟨p, rfl, _⟩ | ⟨p, rfl, _⟩
    · rfl
    · simp [appendA]
    · simp [appendA]
  | cons c M =>
    have hm : 0 < (c :: M).length := by simp
    generalize hM : c :: M = K at hl hm ⊢
    have hc : allCell (K.map u8) = true := allCell_u8 K
    have hk : K.length * 1 ≤ 2 ^ 46 := by omega
    rcases h with ⟨rfl, rfl⟩ | ⟨p, rfl, rfl, h2, h3, h4⟩ | ⟨p, rfl, h1, h2, h3, h4⟩
    · refine ⟨.slice s.next 0 K.length K.length true, s.new (.cells (K.map u8) true false 1), ?_, .inr (.inr ⟨s.next, by simp, by simpa using hm, hN, Nat.lt_succ_self _, ?_⟩), by simp, fun b hb => ?_, .new _ _, hnew _⟩
      · unfold appendA
        simp only [newA]
        rw [if_neg (by omega), if_pos hk]
      · rw [St.get_new, if_pos rfl]; rfl
      · rw [St.get_new, if_neg (by omega)]
    · refine ⟨.slice s.next 0 K.length K.length true, s.new (.cells (K.map u8) true false 1), ?_, .inr (.inr ⟨s.next, by simp, by simpa using hm, hN, Nat.lt_succ_self _, ?_⟩), by simp, fun b hb => ?_, .new _ _, hnew _⟩
      · have hlo : loadA s p 0 (0 * 1) = some [] := by unfold loadA; rw [h4]; simp
        unfold appendA
        simp only [Nat.zero_add, hlo]
        rw [if_neg (by omega), if_pos hk]
        simp [newA]
      · rw [St.get_new, if_pos rfl]; rfl
      · rw [St.get_new, if_neg (by omega)]
    · refine ⟨.slice s.next 0 (L.length + K.length) (L.length + K.length) true, (s.drop p).new (.cells (L ++ K.map u8) true false 1), ?_, .inr (.inr ⟨s.next, by simp, by simp; omega, hN, Nat.lt_succ_self _, ?_⟩), by simp, fun b hb => ?_, (Stp.drop _ _).trans (.new _ _), fun hd b vs ro z hb => ?_⟩
      · have hlo : loadA s p 0 (L.length * 1) = some L := by
          unfold loadA
          rw [h4]
          simp [List.take_of_length_le]
        unfold appendA
        simp only [hlo, h4]
        rw [if_neg (by omega), if_pos (by omega)]
        simp [hc]
      · rw [St.get_new, if_pos (by simp)]
      · rw [St.get_new, if_neg (by simp; omega), St.get_drop, if_neg (by omega)]
      · have hbp : b ≠ p := by rintro rfl; rw [h4] at hb; cases hb
        rw [St.get_new, if_neg (by have := hd _ _ hb; simp; omega), St.get_drop, if_neg hbp]; exact hb

theorem Rw.int_ne {s : St} {v u : AV} {ns : List Nat} {q N : Nat} {L : List AV} (h : Rw s v (ns.map fun n : Nat => AV.int .i64 (n : Int))) (hq : s.get q = some (.cells [u] false false 0)) (hu : OutB s N u L) {j b o : Nat} (hj : j < ns.length) {vs : List AV} {lo ro : Bool} {z : Nat}
    (hb : s.get b = some (.cells vs lo ro z)) (hv : vs[o + j]? = some (.int .i64 (ns[j] : Int))) : b ≠ q := by
  rintro rfl
  rw [hq] at hb
  cases hb
  cases hoj : o + j with
  | zero =>
    rw [hoj] at hv
    simp only [List.getElem?_cons_zero, Option.some.injEq] at hv
    subst hv
    exact hu.int
  | succ k =>
    rw [hoj] at hv
    simp at hv
theorem u64_of {n : Nat} (h : n < 18446744073709551616) : IntKind.u64.wrap (n : Int) = (n : Int) := u64_in (by omega) (by omega)

/-- Numbers behind bytes. -/
theorem PutB_run {u : AV} {N w p c : Nat} {L ns : List Nat} {s : St} {lo ro : Bool} {z : Nat} (hok : okW (w : Int) = true) (hw : 0 < w) (hw8 : w ≤ 8) (hu : OutB s N u (L.map u8)) (hL : L.length < 100000000) (hd : Dom s)
    (hp : s.get p = some (.cells (ns.map fun n : Nat => AV.int .u64 (n : Int)) lo ro z)) (hb : ∀ n ∈ ns, n < 18446744073709551616 ∧ blen n ≤ 8 * w) (hnl : ns.length < 1000) :
    Wf mm 44 [u, .int .i64 (w : Int), .slice p 0 ns.length c false] s fun v s' => ∃ v0, v = .tup [v0, .int .i64 0] ∧ OutB s' s.next v0 ((L ++ lebs w ns).map u8) ∧ Fr s s' ∧ Dom s' := by
  obtain ⟨hll3, x, sc, hcl, hx, hsn, hsn2, hsg⟩ := cloned_run (hu.cloned (by rw [List.length_map]; exact hL)) hd
  refine ((Put_run (ns := ns) (lv := .slice p 0 ns.length c false) hok hw hw8 hcl hx hsn hsn2 hsg hll3 hnl (fun _ => rfl) ?_).stp mm_st).mono ?_
  · intro i hi
    obtain ⟨h1, h2⟩ := hb ns[i] (List.getElem_mem hi)
    exact ⟨p, 0, _, _, _, _, fun s' => by rw [idx1_slice hi, Nat.mul_one], hp, hd _ _ hp, by rw [Nat.zero_add, List.getElem?_map, List.getElem?_eq_getElem hi]; rfl, h1, h2⟩
  · rintro _ s2 ⟨⟨v0, rfl, ho, hg, -, -⟩, st⟩
    rw [putL_lebs, ← List.map_append] at ho
    exact ⟨v0, rfl, ho, ⟨st.le, hg⟩, st.dom hd⟩

theorem oput_run {q w N : Nat} {ns L : List Nat} {lv u : AV} {s : St} (hok : okW (w : Int) = true) (hw : 0 < w) (hw8 : w ≤ 8) (hq : s.get q = some (.cells [u] false false 0)) (hu : OutB s N u (L.map u8)) (hqN : q < N) (hN : N ≤ s.next) (hd : Dom s)
    (hlv : Rw s lv (ns.map fun n : Nat => AV.int .i64 (n : Int))) (hb : ∀ n ∈ ns, n < 18446744073709551616 ∧ blen n ≤ 8 * w) (hL : L.length + 8 * ns.length < 100000000) :
    Wf mm 26 [.ptr q 0, .int .i64 (w : Int), lv] s fun _ s' => (∃ u', s'.get q = some (.cells [u'] false false 0) ∧ OutB s' N u' ((L ++ lebs w ns).map u8)) ∧ FrX q s s' ∧ Dom s' := by
  refine Wf_enter ft26 (sm (by decide)) (by rfl) ?_
  have ft : (false == true) = false := rfl
  have tf : (true == false) = false := rfl
  have hlen := hlv.len
  simp only [List.length_map] at hlen
  simp -implicitDefEqProofs only [go_sem, Wk_block, Wk_drawnC, reduceCtorEq, Nat.reduceEqDiff, Nat.reduceAdd, Nat.reduceLeDiff, Nat.reduceLT, Nat.reduceMul, Nat.reduceSub, ↓reduceIte, Int.reduceLT, Int.reduceLE, Int.reduceNeg, Int.reduceAdd, Int.reduceEq, Nat.reduceBneDiff, Nat.reduceBEq, Int.reduceToNat, Int.reduceMul, Int.reduceSub, Int.reduceBEq, Int.reduceBNe, fd26, hlen, ft, tf]
  refine loop_ind (fun m ts s' => ∃ (j : Nat) (u : AV), m = ns.length - j ∧ j ≤ ns.length ∧ ts.get 12 = some (.int .i64 (j : Int)) ∧ ts.get 11 = some (.int .i64 (ns.length : Int)) ∧ ts.get 10 = some lv ∧ ts.get 0 = some (.ptr q 0) ∧ ts.get 1 = some (.int .i64 (w : Int)) ∧
      s'.get q = some (.cells [u] false false 0) ∧ OutB s' N u ((L ++ lebs w (ns.take j)).map u8) ∧ FrX q s s' ∧ Dom s') ?_ (n := ns.length)
    ⟨0, u, rfl, by omega, by simp only [Tr.get_set, Nat.reduceEqDiff, ↓reduceIte, Int.cast_ofNat_Int], by simp only [Tr.get_set, Nat.reduceEqDiff, ↓reduceIte, Int.cast_ofNat_Int], by simp only [Tr.get_set, Nat.reduceEqDiff, ↓reduceIte, Int.cast_ofNat_Int], by simp only [Tr.get_set, Nat.reduceEqDiff, ↓reduceIte, Int.cast_ofNat_Int], by simp only [Tr.get_set, Nat.reduceEqDiff, ↓reduceIte, Int.cast_ofNat_Int], hq, by simpa [lebs] using hu, FrX.refl _ _, hd⟩
  rintro m ts s1 ⟨j, u1, rfl, hj, g12, g11, g10, g0, g1, hq1, hu1, f, dd⟩ IH
  by_cases hlt : j < ns.length
  · obtain ⟨b, o, vs, lo, ro, z, hidx, hv, hvj⟩ := hlv.at_ j (by rw [List.length_map]; exact hlt)
    rw [List.getElem_map] at hvj
    have hbq := hlv.int_ne hq hu hlt hv hvj
    have hv1 : s1.get b = some (.cells vs lo ro z) := (f.get b (hd _ _ hv) hbq).trans hv
    obtain ⟨hn1, hn2⟩ := hb ns[j] (List.getElem_mem hlt)
    have htk : lebs w (ns.take (j + 1)) = lebs w (ns.take j) ++ leb w ns[j] := by
      rw [List.take_succ_eq_append_getElem hlt, lebs_append]
      simp [lebs]
    have hll := lebs_len w (ns.take j)
    rw [List.length_take, Nat.min_eq_left (by omega)] at hll
    have hll2 : j * w ≤ j * 8 := Nat.mul_le_mul_left _ hw8
    generalize ns[j] = n at hvj hn1 hn2 htk
    have wn := u64_of hn1
    have wj := succ_in (j := j) (by omega)
    simp -implicitDefEqProofs only [go_sem, Wk_block, Wk_drawnC, reduceCtorEq, Nat.reduceEqDiff, Nat.reduceAdd, Nat.reduceLeDiff, Nat.reduceLT, Nat.reduceMul, Nat.reduceSub, ↓reduceIte, Int.reduceLT, Int.reduceLE, Int.reduceNeg, Int.reduceAdd, Int.reduceEq, Nat.reduceBneDiff, Nat.reduceBEq, Int.reduceToNat, Int.reduceMul, Int.reduceSub, Int.reduceBEq, Int.reduceBNe, g12, g11, g10, g0, g1, hlt, hidx, hv1, hvj, hq1, wn, ft, tf]
    have hlen2 : (L ++ lebs w (ns.take j)).length < 100000000 := by rw [List.length_append, hll]; omega
    generalize hP : L ++ lebs w (ns.take j) = P at hu1 hlen2
    have hu2 := hu1.new (.cells [.int .u64 (n : Int)] false false 0)
    have hd2 : Dom (s1.new (.cells [.int .u64 (n : Int)] false false 0)) := dom_new dd _
    have hg2 : (s1.new (.cells [.int .u64 (n : Int)] false false 0)).get s1.next = some (.cells [.int .u64 (n : Int)] false false 0) := by rw [St.get_new, if_pos rfl]
    obtain ⟨hll3, x, sc, hcl, hx, hsn, hsn2, hsg⟩ := cloned_run (hu2.cloned (by rw [List.length_map]; exact hlen2)) hd2
    have hNs : N ≤ s1.next := Nat.le_trans hN f.le
    refine Wl_of ((Put_run (ns := [n]) (lv := .slice s1.next 0 1 1 false) hok hw hw8 hcl hx hsn hsn2 hsg hll3 (by simp) (fun _ => rfl) ?_).stp mm_st) ?_
    · intro i hi
      have : i = 0 := by simpa using hi
      subst this
      exact ⟨s1.next, 0, _, _, _, _, fun s' => by rw [idx1_slice (by omega)], hg2, by simp, rfl, hn1, hn2⟩
    rintro _ s2 ⟨⟨v0, rfl, ho, hg, -, -⟩, st⟩
    simp only [St.next_new] at ho hg
    have hq2 : s2.get q = some (.cells [u1] false false 0) := by rw [hg q (by omega), St.get_new, if_neg (by omega)]; exact hq1
    have f2 : FrX q s s2 := by
      refine f.then ⟨?_, fun b hb => ?_⟩
      · have h9 := st.le; simp only [St.next_new] at h9; omega
      · rw [hg b (by omega), St.get_new, if_neg (by omega)]
    have dd2 : Dom s2 := st.dom hd2
    have hc0 := ho.cell
    simp -implicitDefEqProofs only [go_sem, Wk_block, Wk_drawnC, reduceCtorEq, Nat.reduceEqDiff, Nat.reduceAdd, Nat.reduceLeDiff, Nat.reduceLT, Nat.reduceMul, Nat.reduceSub, ↓reduceIte, Int.reduceLT, Int.reduceLE, Int.reduceNeg, Int.reduceAdd, Int.reduceEq, Nat.reduceBneDiff, Nat.reduceBEq, Int.reduceToNat, Int.reduceMul, Int.reduceSub, Int.reduceBEq, Int.reduceBNe, g12, g11, g10, g0, g1, hq2, hc0, wj, ft, tf]
    refine IH (ns.length - (j + 1)) _ _ (by omega) ⟨j + 1, v0, rfl, by omega, ?_, ?_, ?_, ?_, ?_, by rw [St.get_put, if_pos rfl], ?_, f2.put (.inl rfl) _, (Stp.put hq2 _).dom dd2⟩
    · simp only [Tr.get_set, Nat.reduceEqDiff, ↓reduceIte, Int.cast_ofNat_Int]
    · simp only [Tr.get_set, Nat.reduceEqDiff, ↓reduceIte, Int.cast_ofNat_Int, g11]
    · simp only [Tr.get_set, Nat.reduceEqDiff, ↓reduceIte, Int.cast_ofNat_Int, g10]
    · simp only [Tr.get_set, Nat.reduceEqDiff, ↓reduceIte, Int.cast_ofNat_Int, g0]
    · simp only [Tr.get_set, Nat.reduceEqDiff, ↓reduceIte, Int.cast_ofNat_Int, g1]
    · refine OutB.put ?_ hqN _
      rw [htk, ← List.append_assoc, hP, List.map_append]
      rw [putL_lebs] at ho
      have e : lebs w [n] = leb w n := by simp [lebs]
      rw [e] at ho
      exact ho.le (by omega)
  · have : j = ns.length := by omega
    subst this
    rw [List.take_length] at hu1
    have hlf : decide ((ns.length : Int) < (ns.length : Int)) = false := decide_eq_false (by omega)
    simp -implicitDefEqProofs only [go_sem, Wk_block, Wk_drawnC, reduceCtorEq, Nat.reduceEqDiff, Nat.reduceAdd, Nat.reduceLeDiff, Nat.reduceLT, Nat.reduceMul, Nat.reduceSub, ↓reduceIte, Int.reduceLT, Int.reduceLE, Int.reduceNeg, Int.reduceAdd, Int.reduceEq, Nat.reduceBneDiff, Nat.reduceBEq, Int.reduceToNat, Int.reduceMul, Int.reduceSub, Int.reduceBEq, Int.reduceBNe, g12, g11, hlf, hlt, ft, tf]
    exact ⟨⟨u1, hq1, hu1⟩, f, dd⟩
end Go.Proofs.YteiiblpnegjjlaaGreat.Lw
namespace Go.Proofs.YteiiblpnegjjlaaGreat.Lw
open D
set_option linter.unusedSimpArgs false
set_option linter.unusedVariables false
set_option maxRecDepth 10000

/-- What an op says. -/
def Sop.con (x : Sop) : Con := ⟨x.kind, x.node, x.key, x.at_, x.keys, x.blk, x.e, x.q, x.mask, x.keep⟩
theorem plain_con (x : Sop) : plainOp x = plainC x.con := rfl
theorem plain_cons (c : Cfg) (l : List Sop) : plainS c l = plainA c (l.map Sop.con) := by
  unfold plainS plainA
  rw [List.length_map, List.any_map]
  rfl
theorem encC_len (x : Con) (hb : x.blk.length = 16) (hp : plainC x = true) : (encC x).length ≤ 351 := by
  unfold plainC listsC at hp
  simp only [Bool.and_eq_true, decide_eq_true_eq] at hp
  obtain ⟨⟨⟨⟨_, ⟨⟨h1, _⟩, h2⟩⟩, _⟩, _⟩, _⟩ := hp
  unfold encC
  simp only [List.length_append, lebs_len, List.length_map, List.length_cons, List.length_nil]
  omega
theorem flat_len (l : List Con) (h : ∀ x ∈ l, x.blk.length = 16 ∧ plainC x = true) : (l.flatMap encC).length ≤ 351 * l.length := by
  induction l with
  | nil => simp
  | cons a l ih =>
    have h1 := encC_len a (h a (List.mem_cons_self ..)).1 (h a (List.mem_cons_self ..)).2
    have h2 := ih fun x hx => h x (List.mem_cons_of_mem _ hx)
    rw [List.flatMap_cons, List.length_append, List.length_cons]
    omega

/-- One label behind bytes. -/
theorem lput_run {w : AV} {L : List Nat} {e q p N : Nat} {s : St} (hu : OutB s N w (L.map u8)) (hL : L.length < 1000000) (hN : N ≤ s.next) (hp : s.get p = some (.cells [.int .u32 (e : Int), .int .u32 (q : Int)] false false 0)) (hd : Dom s) (he : e < 4294967296) (hq : q < 4294967296) :
    Wf mm 27 [w, .slice p 0 1 1 false] s fun v s' => OutB s' s.next v ((L ++ lebs 4 [e, q]).map u8) ∧ Fr s s' ∧ Dom s' := by
  refine ((Wf_enter ft27 (sm (by decide)) (by rfl) ?_ : Wf mm 27 [w, .slice p 0 1 1 false] s fun v s' => OutB s' s.next v ((L ++ lebs 4 [e, q]).map u8) ∧ ∀ b, b < s.next → s'.get b = s.get b).stp mm_st).mono ?_
  rotate_left
  · rintro v s' ⟨⟨h1, h2⟩, st⟩
    exact ⟨h1, ⟨st.le, h2⟩, st.dom hd⟩
  have ft : (false == true) = false := rfl
  have tf : (true == false) = false := rfl
  obtain ⟨hll, u, sc, hcl, hx, hsn, hsn2, hsg⟩ := cloned_run (hu.cloned (by rw [List.length_map]; omega)) hd
  have hdc : Dom sc := (lim_stp mm_st).call hcl |>.dom hd
  have w1 : IntKind.i64.wrap 1 = 1 := rfl
  have hcx := hx.cell
  have hpl := hd _ _ hp
  simp -implicitDefEqProofs only [go_sem, Wk_block, Wk_drawnC, reduceCtorEq, Nat.reduceEqDiff, Nat.reduceAdd, Nat.reduceLeDiff, Nat.reduceLT, Nat.reduceMul, Nat.reduceSub, ↓reduceIte, Int.reduceLT, Int.reduceLE, Int.reduceNeg, Int.reduceAdd, Int.reduceEq, Nat.reduceBneDiff, Nat.reduceBEq, Int.reduceToNat, Int.reduceMul, Int.reduceSub, Int.reduceBEq, Int.reduceBNe, fd27, Wl_eq hcl, hcx, ft, tf]
  have hpc : sc.get p = some (.cells [.int .u32 (e : Int), .int .u32 (q : Int)] false false 0) := (hsg p hpl).trans hp
  have i0 : ∀ s, idx1 2 (some (.slice p 0 1 1 false)) (some (.int .i64 0)) s = some (.ptr p 0, s) := fun s => rfl
  have we := u64_of (n := e) (by omega)
  have wq := u64_of (n := q) (by omega)
  rw [Wk_loop]
  simp -implicitDefEqProofs only [go_sem, Wk_block, Wk_drawnC, reduceCtorEq, Nat.reduceEqDiff, Nat.reduceAdd, Nat.reduceLeDiff, Nat.reduceLT, Nat.reduceMul, Nat.reduceSub, ↓reduceIte, Int.reduceLT, Int.reduceLE, Int.reduceNeg, Int.reduceAdd, Int.reduceEq, Nat.reduceBneDiff, Nat.reduceBEq, Int.reduceToNat, Int.reduceMul, Int.reduceSub, Int.reduceBEq, Int.reduceBNe, i0, hpc, we, wq, ft, tf]
  refine Wl_of (PutB_run (ns := [e, q]) (w := 4) rfl (by omega) (by omega) ((hx.new _).new _) (by omega) (dom_new (dom_new hdc _) _) (p := sc.next + 1) (by rw [St.get_new, if_pos (by simp)]; rfl) ?_ (by simp)) ?_
  · intro n hn
    rcases List.mem_cons.1 hn with rfl | hn
    · exact blen_w (.inr (.inr rfl)) he
    · rw [List.mem_singleton.1 hn]
      exact blen_w (.inr (.inr rfl)) hq
  rintro _ s2 ⟨v0, rfl, ho, f, -⟩
  simp only [St.next_new] at ho
  have hc0 := ho.cell
  simp -implicitDefEqProofs only [go_sem, Wk_block, Wk_drawnC, reduceCtorEq, Nat.reduceEqDiff, Nat.reduceAdd, Nat.reduceLeDiff, Nat.reduceLT, Nat.reduceMul, Nat.reduceSub, ↓reduceIte, Int.reduceLT, Int.reduceLE, Int.reduceNeg, Int.reduceAdd, Int.reduceEq, Nat.reduceBneDiff, Nat.reduceBEq, Int.reduceToNat, Int.reduceMul, Int.reduceSub, Int.reduceBEq, Int.reduceBNe, w1, hc0, ft, tf]
  rw [Wk_loop]
  simp -implicitDefEqProofs only [go_sem, Wk_block, Wk_drawnC, reduceCtorEq, Nat.reduceEqDiff, Nat.reduceAdd, Nat.reduceLeDiff, Nat.reduceLT, Nat.reduceMul, Nat.reduceSub, ↓reduceIte, Int.reduceLT, Int.reduceLE, Int.reduceNeg, Int.reduceAdd, Int.reduceEq, Nat.reduceBneDiff, Nat.reduceBEq, Int.reduceToNat, Int.reduceMul, Int.reduceSub, Int.reduceBEq, Int.reduceBNe, ft, tf]
  refine ⟨ho.le (by omega), fun b hb => ?_⟩
  rw [f.get b (by simp only [St.next_new]; omega), St.get_new, if_neg (by simp only [St.next_new]; omega), St.get_new, if_neg (by omega)]
  exact hsg b hb

theorem oput_lit {q w N p c k : Nat} {x : Bool} {ns L : List Nat} {l : List AV} {lo ro : Bool} {z : Nat} {u : AV} {s : St} (hok : okW (w : Int) = true) (hw : 0 < w) (hw8 : w ≤ 8) (hq : s.get q = some (.cells [u] false false 0)) (hu : OutB s N u (L.map u8)) (hqN : q < N) (hN : N ≤ s.next) (hd : Dom s)
    (hp : s.get p = some (.cells l lo ro z)) (hl : l = ns.map fun n : Nat => AV.int .i64 (n : Int)) (hk : ns.length = k) (hb : ∀ n ∈ ns, n < 18446744073709551616 ∧ blen n ≤ 8 * w) (hL : L.length + 8 * k < 100000000) :
    Wf mm 26 [.ptr q 0, .int .i64 (w : Int), .slice p 0 k c x] s fun _ s' => (∃ u', s'.get q = some (.cells [u'] false false 0) ∧ OutB s' N u' ((L ++ lebs w ns).map u8)) ∧ FrX q s s' ∧ Dom s' := by
  subst hl
  subst hk
  exact oput_run hok hw hw8 hq hu hqN hN hd (rw_row hp (by simp) _ _) hb hL
theorem toNat_map {L : List Int} (h : ∀ k ∈ L, 0 ≤ k) : L.map (AV.int .i64) = (L.map Int.toNat).map fun n : Nat => AV.int .i64 (n : Int) := by
  rw [List.map_map]
  refine List.map_congr_left fun k hk => ?_
  show AV.int .i64 k = AV.int .i64 ((k.toNat : Nat) : Int)
  rw [Int.toNat_of_nonneg (h k hk)]
theorem frx_fr {q : Nat} {s s1 s2 : St} (h : Fr s s1) (k : FrX q s1 s2) (hq : s.next ≤ q) : Fr s s2 := ⟨Nat.le_trans h.le k.le, fun b hb => (k.get b (Nat.lt_of_lt_of_le hb h.le) (by omega)).trans (h.get b hb)⟩
/-- What a plain op's numbers are. -/
theorem plain_nums {x : Con} (hp : plainC x = true) : (0 ≤ x.kind ∧ x.kind ≤ 18) ∧ (0 ≤ x.node ∧ x.node < 2) ∧ (0 ≤ x.key ∧ x.key ≤ 255) ∧ (-1 ≤ x.at_ ∧ x.at_ < 65535) ∧ x.keys.length ≤ 64 ∧ (∀ k ∈ x.keys, 0 ≤ k ∧ k ≤ 255) ∧ x.keep.length ≤ 255 := by
  unfold plainC rightC listsC at hp
  simp only [Bool.and_eq_true, Bool.not_eq_true', decide_eq_true_eq] at hp
  obtain ⟨⟨⟨⟨⟨⟨⟨h1, h2⟩, h3⟩, h4⟩, ⟨⟨h5, h6⟩, h7⟩⟩, h8⟩, h9⟩, h10⟩ := hp
  exact ⟨⟨h1, h2⟩, ⟨h3, h4⟩, bad_of h8, ⟨h9, h10⟩, h5, fun k hk => bad_of (by
    have := List.any_eq_false.1 h6 k hk
    simpa using this), h7⟩
theorem b1 {n : Nat} (h : n < 256) : n < 18446744073709551616 ∧ blen n ≤ 8 * 1 := blen_w (.inl rfl) h
theorem b2 {n : Nat} (h : n < 65536) : n < 18446744073709551616 ∧ blen n ≤ 8 * 2 := blen_w (.inr (.inl rfl)) h
theorem b4 {n : Nat} (h : n < 4294967296) : n < 18446744073709551616 ∧ blen n ≤ 8 * 4 := blen_w (.inr (.inr rfl)) h

/-- Bytes are being put behind each other, in a cell of their own. -/
structure Stg (s0 : St) (q : Nat) (P : List Nat) (t : St) : Prop where
  get : ∃ u, t.get q = some (.cells [u] false false 0) ∧ OutB t (q + 1) u (P.map u8)
  fr : Fr s0 t
  dom : Dom t
  q0 : s0.next ≤ q
theorem Stg.lt {s0 : St} {q : Nat} {P : List Nat} {t : St} (h : Stg s0 q P t) : q < t.next := by
  obtain ⟨u, h1, _⟩ := h.get
  exact h.dom _ _ h1
theorem Stg.new {s0 : St} {q : Nat} {P : List Nat} {t : St} (h : Stg s0 q P t) (o : AObj) : Stg s0 q P (t.new o) where
  get := by
    obtain ⟨u, h1, h2⟩ := h.get
    exact ⟨u, by rw [St.get_new, if_neg (by have := h.lt; omega)]; exact h1, h2.new _⟩
  fr := h.fr.new _
  dom := dom_new h.dom _
  q0 := h.q0
theorem Stg.frx {s0 : St} {q : Nat} {P P' : List Nat} {t t' : St} (h : Stg s0 q P t) (hg : ∃ u, t'.get q = some (.cells [u] false false 0) ∧ OutB t' (q + 1) u (P'.map u8)) (f : FrX q t t') (hd : Dom t') : Stg s0 q P' t' := ⟨hg, frx_fr h.fr f h.q0, hd, h.q0⟩
theorem Stg.row {s0 : St} {q w : Nat} {P ns : List Nat} {t : St} {lv : AV} (h : Stg s0 q P t) (hok : okW (w : Int) = true) (hw : 0 < w) (hw8 : w ≤ 8) (hlv : Rw t lv (ns.map fun n : Nat => AV.int .i64 (n : Int))) (hb : ∀ n ∈ ns, n < 18446744073709551616 ∧ blen n ≤ 8 * w) (hL : P.length + 8 * ns.length < 100000000) :
    Wf mm 26 [.ptr q 0, .int .i64 (w : Int), lv] t fun _ t' => Stg s0 q (P ++ lebs w ns) t' ∧ FrX q t t' := by
  obtain ⟨u, h1, h2⟩ := h.get
  refine (oput_run hok hw hw8 h1 h2 (Nat.lt_succ_self _) h.lt h.dom hlv hb hL).mono ?_
  rintro _ t' ⟨hg, f, hd⟩
  exact ⟨h.frx hg f hd, f⟩
theorem Stg.lit {s0 : St} {q w p c k : Nat} {x : Bool} {P ns : List Nat} {t : St} {l : List AV} {lo ro : Bool} {z : Nat} (h : Stg s0 q P t) (hok : okW (w : Int) = true) (hw : 0 < w) (hw8 : w ≤ 8) (hp : t.get p = some (.cells l lo ro z)) (hl : l = ns.map fun n : Nat => AV.int .i64 (n : Int)) (hk : ns.length = k)
    (hb : ∀ n ∈ ns, n < 18446744073709551616 ∧ blen n ≤ 8 * w) (hL : P.length + 8 * k < 100000000) : Wf mm 26 [.ptr q 0, .int .i64 (w : Int), .slice p 0 k c x] t fun _ t' => Stg s0 q (P ++ lebs w ns) t' ∧ FrX q t t' := by
  subst hl
  subst hk
  exact h.row hok hw hw8 (rw_row hp (by simp) _ _) hb hL
theorem Stg.app {s0 : St} {q : Nat} {P : List Nat} {t : St} (h : Stg s0 q P t) (M : List Nat) (hL : P.length + M.length < 1000000000) :
    ∃ u u' t', t.get q = some (.cells [u] false false 0) ∧ appendA 1 1 t u M.length (M.map u8) = some (u', t') ∧ t'.get q = some (.cells [u] false false 0) ∧ (u'.cell = true ∧ u'.cells = [u']) ∧ Stg s0 q (P ++ M) (t'.put q (.cells [u'] false false 0)) ∧
      ∀ b vs ro z, b ≠ q → t.get b = some (.cells vs false ro z) → (t'.put q (.cells [u'] false false 0)).get b = some (.cells vs false ro z) := by
  obtain ⟨u, h1, h2⟩ := h.get
  have hlt := h.lt
  obtain ⟨u', t', ha, ho, hn, hg, st, hk⟩ := h2.app hlt M (by rw [List.length_map]; exact hL)
  have hq' : t'.get q = some (.cells [u] false false 0) := (hg q (Nat.lt_succ_self _)).trans h1
  refine ⟨u, u', t', h1, ha, hq', ho.cell, ⟨⟨u', by rw [St.get_put, if_pos rfl], ?_⟩, ?_, (Stp.put hq' _).dom (st.dom h.dom), h.q0⟩, fun b vs ro z hb hv => ?_⟩
  · rw [List.map_append]
    exact ho.put (Nat.lt_succ_self _) _
  · refine ⟨Nat.le_trans h.fr.le hn, fun b hb => ?_⟩
    have := h.q0
    rw [St.get_put, if_neg (by omega), hg b (by omega)]
    exact h.fr.get b hb
  · rw [St.get_put, if_neg hb]
    exact hk h.dom b vs ro z hv
theorem Stg.lab {s0 : St} {q p e n : Nat} {P : List Nat} {t : St} (h : Stg s0 q P t) (hL : P.length < 1000000) (hp : t.get p = some (.cells [.int .u32 (e : Int), .int .u32 (n : Int)] false false 0)) (he : e < 4294967296) (hn : n < 4294967296) :
    ∃ u, t.get q = some (.cells [u] false false 0) ∧ Wf mm 27 [u, .slice p 0 1 1 false] t fun v t' => t'.get q = some (.cells [u] false false 0) ∧ (v.cell = true ∧ v.cells = [v]) ∧ Stg s0 q (P ++ lebs 4 [e, n]) (t'.put q (.cells [v] false false 0)) ∧ FrX q t (t'.put q (.cells [v] false false 0)) := by
  obtain ⟨u, h1, h2⟩ := h.get
  have hlt := h.lt
  refine ⟨u, h1, (lput_run h2 hL hlt hp h.dom he hn).mono ?_⟩
  rintro v t' ⟨ho, f, hd⟩
  have hq' : t'.get q = some (.cells [u] false false 0) := (f.get q hlt).trans h1
  have fx : FrX q t (t'.put q (.cells [v] false false 0)) := (f.x q).put (.inl rfl) _
  refine ⟨hq', ho.cell, h.frx ⟨v, by rw [St.get_put, if_pos rfl], ?_⟩ fx ((Stp.put hq' _).dom hd), fx⟩
  exact (ho.le (by omega)).put (Nat.lt_succ_self _) _
end Go.Proofs.YteiiblpnegjjlaaGreat.Lw
namespace Go.Proofs.YteiiblpnegjjlaaGreat.Lw
open D
set_option linter.unusedSimpArgs false
set_option linter.unusedVariables false
set_option maxRecDepth 10000

theorem Bytes_run (c : Cfg) (l : List Sop) {v : AV} {s : St} (hA : RdS s v l) (hl : ∀ x ∈ l, SopOk s x) (hk : ∀ x ∈ l, x.keys.length ≤ 1000) (hd : Dom s) (hL : l.length < 1000000000) (hc : CfgOk c) :
    Wf mm 11 [.agg c.enc, v] s fun w s' => (plainS c l = true → ∃ u, w = .tup [u, .int .i64 0] ∧ OutB s' s.next u ((encA c (l.map Sop.con)).map u8)) ∧ (plainS c l = false → w = .tup [.nilSlice, .int .i64 241]) ∧ Fr s s' ∧ Dom s' := by
  refine Wf_enter ft11 (sm (by decide)) (by rfl) ?_
  have ft : (false == true) = false := rfl
  have tf : (true == false) = false := rfl
  have hn := keeps_new hd (.cells c.enc false false 0)
  have hd2 := dom_new hd (.cells c.enc false false 0)
  have f1 : Fr s (s.new (.cells c.enc false false 0)) := by (repeat (first | exact FrX.refl _ _ | exact Fr.refl _ | assumption | exact Fr.x (by assumption) _ | refine FrX.put ?_ (.inl rfl) _ | refine FrX.put ?_ (.inr (by first | omega | (simp; done) | (simp; omega))) _ | refine FrX.new ?_ _ | refine Fr.put ?_ (by first | omega | (simp; done) | (simp; omega)) _ | refine Fr.new ?_ _ | refine FrX.then ?_ (by assumption) | refine Fr.trans ?_ (by assumption)))
  have g1 : (s.new (.cells c.enc false false 0)).get s.next = some (.cells c.enc false false 0) := by rw [St.get_new, if_pos rfl]
  have n1 : (s.new (.cells c.enc false false 0)).next = s.next + 1 := rfl
  have hce : 7 ≤ c.enc.length := Nat.le_refl 7
  have hct : List.take 7 c.enc = c.enc := rfl
  have hlen := hA.len
  simp -implicitDefEqProofs only [go_sem, Wk_block, Wk_drawnC, reduceCtorEq, Nat.reduceEqDiff, Nat.reduceAdd, Nat.reduceLeDiff, Nat.reduceLT, Nat.reduceMul, Nat.reduceSub, ↓reduceIte, Int.reduceLT, Int.reduceLE, Int.reduceNeg, Int.reduceAdd, Int.reduceEq, Nat.reduceBneDiff, Nat.reduceBEq, Int.reduceToNat, Int.reduceMul, Int.reduceSub, Int.reduceBEq, Int.reduceBNe, fd11, hce, hct, ft, tf]
  obtain ⟨a0, ha0⟩ : ∃ a0, s.next = a0 := ⟨_, rfl⟩
  rw [ha0] at g1 n1 ⊢
  generalize s.new (.cells c.enc false false 0) = s1 at *
  refine Wl_of (PlainS_run c l (hA.mono f1) (fun x hx => (hl x hx).mono hn) hk hd2 hL) ?_
  rintro _ s2 ⟨rfl, f2, d2⟩
  have g2 := (fr_keeps f2 hd2) _ _ g1
  have f02 := f1.trans f2
  cases hp : plainS c l
  · simp -implicitDefEqProofs only [go_sem, Wk_block, Wk_drawnC, reduceCtorEq, Nat.reduceEqDiff, Nat.reduceAdd, Nat.reduceLeDiff, Nat.reduceLT, Nat.reduceMul, Nat.reduceSub, ↓reduceIte, Int.reduceLT, Int.reduceLE, Int.reduceNeg, Int.reduceAdd, Int.reduceEq, Nat.reduceBneDiff, Nat.reduceBEq, Int.reduceToNat, Int.reduceMul, Int.reduceSub, Int.reduceBEq, Int.reduceBNe, ft, tf]
    exact ⟨f02, d2⟩
  have hp' := hp
  rw [plain_cons] at hp'
  unfold plainA at hp'
  rw [Bool.and_eq_true, Bool.not_eq_true', Bool.not_eq_true', Bool.or_eq_false_iff, List.length_map] at hp'
  obtain ⟨⟨h400, hops⟩, hnums⟩ := hp'
  have h400 : l.length ≤ 400 := by simpa using h400
  have hops : ∀ x ∈ l, plainC x.con = true := fun x hx => by
    have := List.any_eq_false.1 hops x.con (List.mem_map_of_mem hx)
    simpa using this
  have hn' : ∀ n ∈ c.nums, 0 ≤ n ∧ n ≤ 65535 := fun n hn => bad_of (by
    have := List.any_eq_false.1 hnums n hn
    simpa using this)
  have m1 := hn' c.pages (by simp [Cfg.nums])
  have m2 := hn' c.last (by simp [Cfg.nums])
  have m3 := hn' c.spans (by simp [Cfg.nums])
  have m4 := hn' c.chunk (by simp [Cfg.nums])
  have m5 := hn' c.retry (by simp [Cfg.nums])
  have we : IntKind.i64.wrap (c.every : Int) = (c.every : Int) := i64_in (by omega) (by have := hc.every; omega)
  have ws : IntKind.i64.wrap (c.span : Int) = (c.span : Int) := i64_in (by omega) (by have := hc.span; omega)
  unfold Cfg.enc at g2
  have hq : ¬ a0 = s2.next := by have := d2 _ _ g2; omega
  have hab : a0 < s2.next := d2 _ _ g2
  obtain ⟨q, hqe⟩ : ∃ q, s2.next = q := ⟨_, rfl⟩
  have hS : Stg s2 q [] (s2.new (.cells [.nilSlice] false false 0)) := ⟨⟨.nilSlice, by rw [St.get_new, if_pos hqe.symm], .inl ⟨rfl, rfl⟩⟩, (Fr.refl _).new _, dom_new d2 _, by omega⟩
  have g3 : (s2.new (.cells [.nilSlice] false false 0)).get a0 = _ := (St.get_new ..).trans ((if_neg hq).trans g2)
  have hq2 : ¬ a0 = q := by omega
  simp -implicitDefEqProofs only [go_sem, Wk_block, Wk_drawnC, reduceCtorEq, Nat.reduceEqDiff, Nat.reduceAdd, Nat.reduceLeDiff, Nat.reduceLT, Nat.reduceMul, Nat.reduceSub, ↓reduceIte, Int.reduceLT, Int.reduceLE, Int.reduceNeg, Int.reduceAdd, Int.reduceEq, Nat.reduceBneDiff, Nat.reduceBEq, Int.reduceToNat, Int.reduceMul, Int.reduceSub, Int.reduceBEq, Int.reduceBNe, g2, hq2, hqe, ft, tf]
  have n3 : (s2.new (.cells [.nilSlice] false false 0)).next = q + 1 := by rw [St.next_new, hqe]
  generalize s2.new (.cells [.nilSlice] false false 0) = s3 at hS g3 n3 ⊢
  refine Wl_of ((hS.new _).lit (w := 2) (p := q + 1) (l := [.int .i64 c.pages]) (ns := [c.pages.toNat]) rfl (by omega) (by omega) (by rw [St.get_new, if_pos n3.symm]) (by simp [Int.toNat_of_nonneg m1.1]) rfl (by intro n hn; rw [List.mem_singleton.1 hn]; exact b2 (by omega)) (by simp)) ?_
  rintro _ s4 ⟨hS4, f4⟩
  have g4 := (f4.get a0 (by simp only [St.next_new]; omega) (by omega)).trans ((St.get_new ..).trans ((if_neg (by omega)).trans g3))
  simp -implicitDefEqProofs only [go_sem, Wk_block, Wk_drawnC, reduceCtorEq, Nat.reduceEqDiff, Nat.reduceAdd, Nat.reduceLeDiff, Nat.reduceLT, Nat.reduceMul, Nat.reduceSub, ↓reduceIte, Int.reduceLT, Int.reduceLE, Int.reduceNeg, Int.reduceAdd, Int.reduceEq, Nat.reduceBneDiff, Nat.reduceBEq, Int.reduceToNat, Int.reduceMul, Int.reduceSub, Int.reduceBEq, Int.reduceBNe, g4, we, ws, ft, tf]
  refine Wl_of ((hS4.new _).lit (w := 4) (p := s4.next) (l := [.int .i64 (c.every : Int), .int .i64 (c.span : Int)]) (ns := [c.every, c.span]) rfl (by omega) (by omega) (by rw [St.get_new, if_pos rfl]) (by simp) rfl (by
    intro n hn
    simp only [List.mem_cons, List.not_mem_nil, or_false] at hn
    rcases hn with rfl | rfl
    · exact b4 hc.every
    · exact b4 hc.span) (by simp [lebs_len])) ?_
  rintro _ s5 ⟨hS5, f5⟩
  have l4 := hS4.lt
  have g5 := (f5.get a0 (by simp only [St.next_new]; omega) (by omega)).trans ((St.get_new ..).trans ((if_neg (by omega)).trans g4))
  simp -implicitDefEqProofs only [go_sem, Wk_block, Wk_drawnC, reduceCtorEq, Nat.reduceEqDiff, Nat.reduceAdd, Nat.reduceLeDiff, Nat.reduceLT, Nat.reduceMul, Nat.reduceSub, ↓reduceIte, Int.reduceLT, Int.reduceLE, Int.reduceNeg, Int.reduceAdd, Int.reduceEq, Nat.reduceBneDiff, Nat.reduceBEq, Int.reduceToNat, Int.reduceMul, Int.reduceSub, Int.reduceBEq, Int.reduceBNe, g5, hlen, ft, tf]
  refine Wl_of ((hS5.new _).lit (w := 2) (p := s5.next) (l := [.int .i64 c.last, .int .i64 c.spans, .int .i64 c.chunk, .int .i64 c.retry, .int .i64 (l.length : Int)]) (ns := [c.last.toNat, c.spans.toNat, c.chunk.toNat, c.retry.toNat, l.length]) rfl (by omega) (by omega) (by rw [St.get_new, if_pos rfl]) (by simp [Int.toNat_of_nonneg m2.1, Int.toNat_of_nonneg m3.1, Int.toNat_of_nonneg m4.1, Int.toNat_of_nonneg m5.1]) rfl (by
    intro n hn
    simp only [List.mem_cons, List.not_mem_nil, or_false] at hn
    rcases hn with rfl | rfl | rfl | rfl | rfl <;> exact b2 (by omega)) (by simp [lebs_len])) ?_
  rintro _ s6 ⟨hS6, f6⟩
  have hP : ([] ++ lebs 2 [c.pages.toNat] ++ lebs 4 [c.every, c.span] ++ lebs 2 [c.last.toNat, c.spans.toNat, c.chunk.toNat, c.retry.toNat, l.length]) = encHead c l.length := rfl
  rw [hP] at hS6
  clear f4 f5 f6 g3 g4 g5 hS hS4 hS5 n3 l4
  simp -implicitDefEqProofs only [go_sem, Wk_block, Wk_drawnC, reduceCtorEq, Nat.reduceEqDiff, Nat.reduceAdd, Nat.reduceLeDiff, Nat.reduceLT, Nat.reduceMul, Nat.reduceSub, ↓reduceIte, Int.reduceLT, Int.reduceLE, Int.reduceNeg, Int.reduceAdd, Int.reduceEq, Nat.reduceBneDiff, Nat.reduceBEq, Int.reduceToNat, Int.reduceMul, Int.reduceSub, Int.reduceBEq, Int.reduceBNe, hlen, ft, tf]
  have hhl : (encHead c l.length).length = 20 := by unfold encHead; simp [lebs_len]
  have hfl : ∀ j, j ≤ l.length → (((l.take j).map Sop.con).flatMap encC).length ≤ 351 * j := fun j hj => by
    have := flat_len ((l.take j).map Sop.con) fun x hx => by
      obtain ⟨y, hy, rfl⟩ := List.mem_map.1 hx
      exact ⟨(hl y (List.mem_of_mem_take hy)).blen, hops y (List.mem_of_mem_take hy)⟩
    rw [List.length_map, List.length_take, Nat.min_eq_left hj] at this
    exact this
  refine loop_ind (fun m ts s' => ∃ j : Nat, m = l.length - j ∧ j ≤ l.length ∧ ts.get 49 = some (.int .i64 (j : Int)) ∧ ts.get 48 = some (.int .i64 (l.length : Int)) ∧ ts.get 47 = some v ∧ ts.get 6 = some (.ptr q 0) ∧ Stg s2 q (encHead c l.length ++ ((l.take j).map Sop.con).flatMap encC) s') ?_ (n := l.length)
    ⟨0, rfl, by omega, by simp only [Tr.get_set, Nat.reduceEqDiff, ↓reduceIte, Int.cast_ofNat_Int], by simp only [Tr.get_set, Nat.reduceEqDiff, ↓reduceIte, Int.cast_ofNat_Int], by simp only [Tr.get_set, Nat.reduceEqDiff, ↓reduceIte, Int.cast_ofNat_Int], by simp only [Tr.get_set, Nat.reduceEqDiff, ↓reduceIte, Int.cast_ofNat_Int], by simpa using hS6⟩
  clear hS6
  rintro m ts t0 ⟨j, rfl, hj, g49, g48, g47, g6, hS⟩ IH
  by_cases hlt : j < l.length
  · have hPl := hfl j hj
    have hA1 := (hA.mono f02).mono hS.fr
    obtain ⟨b, o, vs, lo, ro, z, hidx, hv, hbl, hle, he⟩ := hA1.at_ j hlt
    have hmem := List.getElem_mem hlt
    have hokS := hl l[j] hmem
    have hok := hokS.mono (fr_keeps (f02.trans hS.fr) hd)
    have hpl := hops l[j] hmem
    have htk : ((l.take (j + 1)).map Sop.con).flatMap encC = ((l.take j).map Sop.con).flatMap encC ++ encC l[j].con := by
      rw [List.take_succ_eq_append_getElem hlt, List.map_append, List.flatMap_append]
      simp only [List.map_cons, List.map_nil, List.flatMap_cons, List.flatMap_nil, List.append_nil]
    generalize l[j] = x at he hok hokS hpl htk
    have wj := succ_in (j := j) (by omega)
    have ht : x.cells.take 25 = x.cells := List.take_of_length_le (by rw [hok.len]; omega)
    obtain ⟨p1, p2, p3, p4, p5, p6, p7⟩ := plain_nums hpl
    have hPl2 : (encHead c l.length ++ ((l.take j).map Sop.con).flatMap encC).length ≤ 20 + 351 * j := by rw [List.length_append, hhl]; omega
    generalize hPe : encHead c l.length ++ ((l.take j).map Sop.con).flatMap encC = P at hS hPl2
    have hkl := hok.keys.len
    simp only [List.length_map] at hkl
    obtain ⟨a8, ha8⟩ : ∃ a8, t0.next = a8 := ⟨_, rfl⟩
    simp -implicitDefEqProofs only [go_sem, Wk_block, Wk_drawnC, reduceCtorEq, Nat.reduceEqDiff, Nat.reduceAdd, Nat.reduceLeDiff, Nat.reduceLT, Nat.reduceMul, Nat.reduceSub, ↓reduceIte, Int.reduceLT, Int.reduceLE, Int.reduceNeg, Int.reduceAdd, Int.reduceEq, Nat.reduceBneDiff, Nat.reduceBEq, Int.reduceToNat, Int.reduceMul, Int.reduceSub, Int.reduceBEq, Int.reduceBNe, g49, g48, g47, g6, hlt, hidx, hv, hle, he, hok.len, hok.cell, ht, hok.c0, hok.c1, hok.c2, hok.c3, hkl, ft, tf]
    refine Wl_of (((hS.new _).new _).lit (w := 1) (p := t0.next + 1) (l := [.int .i64 x.kind, .int .i64 x.node, .int .i64 x.key, .int .i64 (x.keys.length : Int)]) (ns := [x.kind.toNat, x.node.toNat, x.key.toNat, x.keys.length]) rfl (by omega) (by omega) (by rw [St.get_new, if_pos (by simp)])
      (by simp [Int.toNat_of_nonneg (show 0 ≤ x.kind from p1.1), Int.toNat_of_nonneg (show 0 ≤ x.node from p2.1), Int.toNat_of_nonneg (show 0 ≤ x.key from p3.1)]) rfl (by
      have q1 : x.kind ≤ 18 := p1.2
      have q2 : x.node < 2 := p2.2
      have q3 : x.key ≤ 255 := p3.2
      have q5 : x.keys.length ≤ 64 := p5
      intro n hn
      simp only [List.mem_cons, List.not_mem_nil, or_false] at hn
      rcases hn with rfl | rfl | rfl | rfl <;> exact b1 (by omega)) (by omega)) ?_
    rintro _ t1 ⟨hS1, f1'⟩
    have l1 := hS.lt
    have ga1 := (f1'.get a8 (by simp only [St.next_new]; omega) (by omega)).trans ((St.get_new ..).trans ((if_neg (by simp only [St.next_new]; omega)).trans ((St.get_new ..).trans (if_pos ha8.symm))))
    have hok1 := hokS.mono (fr_keeps (f02.trans hS1.fr) hd)
    simp -implicitDefEqProofs only [go_sem, Wk_block, Wk_drawnC, reduceCtorEq, Nat.reduceEqDiff, Nat.reduceAdd, Nat.reduceLeDiff, Nat.reduceLT, Nat.reduceMul, Nat.reduceSub, ↓reduceIte, Int.reduceLT, Int.reduceLE, Int.reduceNeg, Int.reduceAdd, Int.reduceEq, Nat.reduceBneDiff, Nat.reduceBEq, Int.reduceToNat, Int.reduceMul, Int.reduceSub, Int.reduceBEq, Int.reduceBNe, ha8, g6, ga1, hok.c3, ft, tf]
    have hks0 : ∀ k ∈ x.keys, 0 ≤ k ∧ k ≤ 255 := p6
    have hrow := hok1.keys
    rw [toNat_map fun k hk => (hks0 k hk).1] at hrow
    have p5' : x.keys.length ≤ 64 := p5
    have l1' : (P ++ lebs 1 [x.kind.toNat, x.node.toNat, x.key.toNat, x.keys.length]).length ≤ 24 + 351 * j := by simp [lebs_len]; omega
    refine Wl_of (hS1.row (w := 1) (ns := x.keys.map Int.toNat) rfl (by omega) (by omega) hrow (by
      intro n hn
      obtain ⟨k, hk, rfl⟩ := List.mem_map.1 hn
      have := hks0 k hk
      exact b1 (by omega)) (by rw [List.length_map]; omega)) ?_
    rintro _ t2 ⟨hS2, f2'⟩
    have l2 := hS1.lt
    have ha8q : a8 ≠ q := by omega
    have ga2 := (f2'.get a8 (hS1.dom _ _ ga1) ha8q).trans ga1
    have l2' : (P ++ lebs 1 [x.kind.toNat, x.node.toNat, x.key.toNat, x.keys.length] ++ lebs 1 (x.keys.map Int.toNat)).length ≤ 88 + 351 * j := by rw [List.length_append, lebs_len, List.length_map]; omega
    obtain ⟨u2, u3, t3, e1, e2, e3, e4, hS3, k3⟩ := hS2.app x.blk (by rw [hok.blen]; omega)
    have hsrc : srcA t2 1 (.slice a8 4 16 16 false) = some (16, x.blk.map u8) := by
      show (match loadA t2 a8 4 (16 * 1) with | some l => some (16, l) | none => none) = _
      have : loadA t2 a8 4 (16 * 1) = some (x.blk.map u8) := by
        unfold loadA
        rw [ga2]
        simp only
        rw [if_pos (by rw [hok.len]; omega), hok.blk]
      rw [this]
    rw [hok.blen] at e2
    have ga3 := k3 a8 _ _ _ ha8q ga2
    have hbl16 : (x.blk.map u8).length = 16 := by rw [List.length_map, hok.blen]
    have hbd : boundsA 16 16 none none none = some (0, 16, 16) := rfl
    have ga3t : t3.get a8 = some (.cells x.cells false false 0) := by
      rw [St.get_put, if_neg ha8q] at ga3
      exact ga3
    have hl2 : 22 ≤ x.cells.length := by rw [hok.len]; omega
    have h4 : (t3.put q (.cells [u3] false false 0)).get q = some (.cells [u3] false false 0) := by rw [St.get_put, if_pos rfl]
    have n4 : (t3.put q (.cells [u3] false false 0)).next = t3.next := rfl
    simp -implicitDefEqProofs only [go_sem, Wk_block, Wk_drawnC, reduceCtorEq, Nat.reduceEqDiff, Nat.reduceAdd, Nat.reduceLeDiff, Nat.reduceLT, Nat.reduceMul, Nat.reduceSub, ↓reduceIte, Int.reduceLT, Int.reduceLE, Int.reduceNeg, Int.reduceAdd, Int.reduceEq, Nat.reduceBneDiff, Nat.reduceBEq, Int.reduceToNat, Int.reduceMul, Int.reduceSub, Int.reduceBEq, Int.reduceBNe, ha8, g6, e1, ga2, hsrc, e2, e3, e4, hbl16, hbd, ga3t, ha8q, hok.lab, hl2, ft, tf]
    rw [← n4]
    generalize t3.put q (.cells [u3] false false 0) = t4 at hS3 ga3 h4 ⊢
    have l4 := hS3.lt
    have l3' : (P ++ lebs 1 [x.kind.toNat, x.node.toNat, x.key.toNat, x.keys.length] ++ lebs 1 (x.keys.map Int.toNat) ++ x.blk).length ≤ 104 + 351 * j := by rw [List.length_append, hok.blen]; omega
    obtain ⟨u5, h5, hW⟩ := (hS3.new (.cells [.int .u32 (x.e : Int), .int .u32 (x.q : Int)] false false 0)).lab (p := t4.next) (e := x.e) (n := x.q) (by omega) (by rw [St.get_new, if_pos rfl]) hok.elt hok.qlt
    rw [St.get_new, if_neg (by omega), h4] at h5
    cases h5
    refine Wl_of hW ?_
    rintro v5 t5 ⟨e5, e6, hS5, f5⟩
    have ga5 := (f5.get a8 (by have := hS3.dom _ _ ga3; simp only [St.next_new]; omega) ha8q).trans ((St.get_new ..).trans ((if_neg (by have := hS3.dom _ _ ga3; omega)).trans ga3))
    have ga5t : t5.get a8 = some (.cells x.cells false false 0) := by
      rw [St.get_put, if_neg ha8q] at ga5
      exact ga5
    have hat : IntKind.i64.wrap (x.at_ + 1) = ((x.at_ + 1).toNat : Int) := by
      have q1 : -1 ≤ x.at_ := p4.1
      have q2 : x.at_ < 65535 := p4.2
      rw [i64_in (by omega) (by omega)]
      omega
    have hat2 : (x.at_ + 1).toNat < 65536 := by
      have q2 : x.at_ < 65535 := p4.2
      omega
    have n5 : (t5.put q (.cells [v5] false false 0)).next = t5.next := rfl
    simp -implicitDefEqProofs only [go_sem, Wk_block, Wk_drawnC, reduceCtorEq, Nat.reduceEqDiff, Nat.reduceAdd, Nat.reduceLeDiff, Nat.reduceLT, Nat.reduceMul, Nat.reduceSub, ↓reduceIte, Int.reduceLT, Int.reduceLE, Int.reduceNeg, Int.reduceAdd, Int.reduceEq, Nat.reduceBneDiff, Nat.reduceBEq, Int.reduceToNat, Int.reduceMul, Int.reduceSub, Int.reduceBEq, Int.reduceBNe, ha8, g6, e5, e6, ga5t, ha8q, hok.c22, hat, ft, tf]
    rw [← n5]
    generalize t5.put q (.cells [v5] false false 0) = t6 at hS5 ga5 ⊢
    have l6 := hS5.lt
    have l6' := hS5.dom _ _ ga5
    have l5' : (P ++ lebs 1 [x.kind.toNat, x.node.toNat, x.key.toNat, x.keys.length] ++ lebs 1 (x.keys.map Int.toNat) ++ x.blk ++ lebs 4 [x.e, x.q]).length ≤ 112 + 351 * j := by rw [List.length_append, lebs_len]; simp only [List.length_cons, List.length_nil]; omega
    refine Wl_of ((hS5.new _).lit (w := 2) (p := t6.next) (l := [.int .i64 ((x.at_ + 1).toNat : Int)]) (ns := [(x.at_ + 1).toNat]) rfl (by omega) (by omega) (by rw [St.get_new, if_pos rfl]) rfl rfl (by intro n hn; rw [List.mem_singleton.1 hn]; exact b2 hat2) (by omega)) ?_
    rintro _ t7 ⟨hS7, f7⟩
    have ga7 := (f7.get a8 (by simp only [St.next_new]; omega) ha8q).trans ((St.get_new ..).trans ((if_neg (by omega)).trans ga5))
    have hwl := hok.keep.len
    have hmk : IntKind.i64.wrap (x.mask : Int) = (x.mask : Int) := i64_in (by omega) (by have := hok.mlt; omega)
    simp -implicitDefEqProofs only [go_sem, Wk_block, Wk_drawnC, reduceCtorEq, Nat.reduceEqDiff, Nat.reduceAdd, Nat.reduceLeDiff, Nat.reduceLT, Nat.reduceMul, Nat.reduceSub, ↓reduceIte, Int.reduceLT, Int.reduceLE, Int.reduceNeg, Int.reduceAdd, Int.reduceEq, Nat.reduceBneDiff, Nat.reduceBEq, Int.reduceToNat, Int.reduceMul, Int.reduceSub, Int.reduceBEq, Int.reduceBNe, ha8, g6, ga7, hok.c23, hok.c24, hmk, hwl, ft, tf]
    have l7' : (P ++ lebs 1 [x.kind.toNat, x.node.toNat, x.key.toNat, x.keys.length] ++ lebs 1 (x.keys.map Int.toNat) ++ x.blk ++ lebs 4 [x.e, x.q] ++ lebs 2 [(x.at_ + 1).toNat]).length ≤ 114 + 351 * j := by rw [List.length_append, lebs_len]; simp only [List.length_cons, List.length_nil]; omega
    have p7' : x.keep.length ≤ 255 := p7
    refine Wl_of ((hS7.new _).lit (w := 1) (p := t7.next) (l := [.int .i64 (x.mask : Int), .int .i64 (x.keep.length : Int)]) (ns := [x.mask, x.keep.length]) rfl (by omega) (by omega) (by rw [St.get_new, if_pos rfl]) rfl rfl (by
      have := hok.mlt
      intro n hn
      simp only [List.mem_cons, List.not_mem_nil, or_false] at hn
      rcases hn with rfl | rfl <;> exact b1 (by omega)) (by omega)) ?_
    rintro _ t8 ⟨hS8, f8⟩
    have l7 := hS7.dom _ _ ga7
    have ga8 := (f8.get a8 (by simp only [St.next_new]; omega) ha8q).trans ((St.get_new ..).trans ((if_neg (by omega)).trans ga7))
    have l8' : (P ++ lebs 1 [x.kind.toNat, x.node.toNat, x.key.toNat, x.keys.length] ++ lebs 1 (x.keys.map Int.toNat) ++ x.blk ++ lebs 4 [x.e, x.q] ++ lebs 2 [(x.at_ + 1).toNat] ++ lebs 1 [x.mask, x.keep.length]).length ≤ 116 + 351 * j := by rw [List.length_append, lebs_len]; simp only [List.length_cons, List.length_nil]; omega
    obtain ⟨u8, u9, t9, i1, i2, i3, i4, hS9, -⟩ := hS8.app x.keep (by omega)
    have hsrc8 := (hokS.mono (fr_keeps (f02.trans hS8.fr) hd)).src t8 (fun _ _ h => h)
    have hkl16 : (x.keep.map Lw.u8).length = x.keep.length := by rw [List.length_map]
    simp -implicitDefEqProofs only [go_sem, Wk_block, Wk_drawnC, reduceCtorEq, Nat.reduceEqDiff, Nat.reduceAdd, Nat.reduceLeDiff, Nat.reduceLT, Nat.reduceMul, Nat.reduceSub, ↓reduceIte, Int.reduceLT, Int.reduceLE, Int.reduceNeg, Int.reduceAdd, Int.reduceEq, Nat.reduceBneDiff, Nat.reduceBEq, Int.reduceToNat, Int.reduceMul, Int.reduceSub, Int.reduceBEq, Int.reduceBNe, ha8, g6, g49, g48, g47, i1, ga8, hok.c24, hsrc8, i2, i3, i4, hkl16, Nat.mul_one, eq_self, wj, ft, tf]
    refine IH (l.length - (j + 1)) _ _ (by omega) ⟨j + 1, rfl, by omega, ?_, ?_, ?_, ?_, ?_⟩
    · simp only [Tr.get_set, Nat.reduceEqDiff, ↓reduceIte, Int.cast_ofNat_Int]
    · simp only [Tr.get_set, Nat.reduceEqDiff, ↓reduceIte, Int.cast_ofNat_Int, g48]
    · simp only [Tr.get_set, Nat.reduceEqDiff, ↓reduceIte, Int.cast_ofNat_Int, g47]
    · simp only [Tr.get_set, Nat.reduceEqDiff, ↓reduceIte, Int.cast_ofNat_Int, g6]
    · rw [htk, ← List.append_assoc, hPe]
      have hec : encC x.con = lebs 1 [x.kind.toNat, x.node.toNat, x.key.toNat, x.keys.length] ++ lebs 1 (x.keys.map Int.toNat) ++ x.blk ++ lebs 4 [x.e, x.q] ++ lebs 2 [(x.at_ + 1).toNat] ++ lebs 1 [x.mask, x.keep.length] ++ x.keep := rfl
      rw [hec]
      simp only [List.append_assoc] at hS9 ⊢
      exact hS9
  · have : j = l.length := by omega
    subst this
    rw [List.take_length] at hS
    have hlf : decide ((l.length : Int) < (l.length : Int)) = false := decide_eq_false (by omega)
    obtain ⟨u, hu1, hu2⟩ := hS.get
    have huc := hu2.cell
    simp -implicitDefEqProofs only [go_sem, Wk_block, Wk_drawnC, reduceCtorEq, Nat.reduceEqDiff, Nat.reduceAdd, Nat.reduceLeDiff, Nat.reduceLT, Nat.reduceMul, Nat.reduceSub, ↓reduceIte, Int.reduceLT, Int.reduceLE, Int.reduceNeg, Int.reduceAdd, Int.reduceEq, Nat.reduceBneDiff, Nat.reduceBEq, Int.reduceToNat, Int.reduceMul, Int.reduceSub, Int.reduceBEq, Int.reduceBNe, g49, g48, g6, hlf, hlt, hu1, huc, ft, tf]
    refine ⟨fun _ => ⟨u, rfl, ?_⟩, f02.trans hS.fr, hS.dom⟩
    unfold encA
    rw [List.length_map]
    exact hu2.le (by omega)
end Go.Proofs.YteiiblpnegjjlaaGreat.Lw
namespace Go.Proofs.YteiiblpnegjjlaaGreat.Lw
open D
set_option linter.unusedSimpArgs false
set_option linter.unusedVariables false
set_option maxRecDepth 10000

theorem leb_snoc : ∀ (k n : Nat), leb (k + 1) n = leb k n ++ [shf k n % 256]
  | 0, n => rfl
  | k + 1, n => by
    have := leb_snoc k (n / 256)
    rw [leb, this]
    rfl
theorem OutB.len {s : St} {N : Nat} {w : AV} {L : List AV} (h : OutB s N w L) (s' : St) : len1 (some w) s' = some (.int .i64 (L.length : Nat), s') := by
  rcases h with ⟨rfl, rfl⟩ | ⟨p, rfl, rfl, _⟩ | ⟨p, rfl, _⟩ <;> rfl
theorem OutB.src {s : St} {N : Nat} {w : AV} {L : List AV} (h : OutB s N w L) : srcA s 1 w = some (L.length, L) := by
  rcases h with ⟨rfl, rfl⟩ | ⟨p, rfl, rfl, h2, h3, h4⟩ | ⟨p, rfl, h1, h2, h3, h4⟩
  · rfl
  · show (match loadA s p 0 (0 * 1) with | some l => some (0, l) | none => none) = _
    have : loadA s p 0 (0 * 1) = some [] := by unfold loadA; rw [h4]; simp
    rw [this]; rfl
  · show (match loadA s p 0 (L.length * 1) with | some l => some (L.length, l) | none => none) = _
    have : loadA s p 0 (L.length * 1) = some L := by unfold loadA; rw [h4]; simp [List.take_of_length_le]
    rw [this]
theorem OutB.frx' {s s' : St} {N : Nat} {w : AV} {L : List AV} (h : OutB s N w L) (f : Fr s s') : OutB s' N w L := by
  rcases h with h | ⟨p, h1, h2, h3, h4, h5⟩ | ⟨p, h1, h2, h3, h4, h5⟩
  · exact .inl h
  · exact .inr (.inl ⟨p, h1, h2, h3, Nat.lt_of_lt_of_le h4 f.le, (f.get p h4).trans h5⟩)
  · exact .inr (.inr ⟨p, h1, h2, h3, Nat.lt_of_lt_of_le h4 f.le, (f.get p h4).trans h5⟩)
theorem shf_lt : ∀ (k n m : Nat), n < m → shf k n < m
  | 0, n, m, h => h
  | k + 1, n, m, h => shf_lt k (n / 256) m (by omega)

theorem refB_run (n w : Nat) (hn : n < 18446744073709551616) (hw : w ≤ 8) {s : St} (hd : Dom s) : Wf mm 45 [.int .u64 (n : Int), .int .i64 (w : Int)] s fun v s' => (∃ u b, v = .tup [u, .bool b] ∧ OutB s' s.next u ((leb w n).map u8)) ∧ Fr s s' ∧ Dom s' := by
  refine ((Wf_enter ft45 (sm (by decide)) (by rfl) ?_ : Wf mm 45 [.int .u64 (n : Int), .int .i64 (w : Int)] s fun v s' => (∃ u b, v = .tup [u, .bool b] ∧ OutB s' s.next u ((leb w n).map u8)) ∧ ∀ b, b < s.next → s'.get b = s.get b).stp mm_st).mono ?_
  rotate_left
  · rintro v s' ⟨⟨h1, h2⟩, st⟩
    exact ⟨h1, ⟨st.le, h2⟩, st.dom hd⟩
  have ft : (false == true) = false := rfl
  have tf : (true == false) = false := rfl
  have g0 : (s.new (.cells [] false false 0)).get s.next = some (.cells [] false false 0) := by rw [St.get_new, if_pos rfl]
  simp -implicitDefEqProofs only [go_sem, Wk_block, Wk_drawnC, reduceCtorEq, Nat.reduceEqDiff, Nat.reduceAdd, Nat.reduceLeDiff, Nat.reduceLT, Nat.reduceMul, Nat.reduceSub, ↓reduceIte, Int.reduceLT, Int.reduceLE, Int.reduceNeg, Int.reduceAdd, Int.reduceEq, Nat.reduceBneDiff, Nat.reduceBEq, Int.reduceToNat, Int.reduceMul, Int.reduceSub, Int.reduceBEq, Int.reduceBNe, fd45, ft, tf]
  refine loop_ind (fun m ts s' => ∃ (k : Nat) (u : AV), m = w - k ∧ k ≤ w ∧ ts.get 6 = some u ∧ ts.get 0 = some (.int .u64 ((shf k n : Nat) : Int)) ∧ ts.get 1 = some (.int .i64 (w : Int)) ∧ OutB s' s.next u ((leb k n).map u8) ∧ s.next ≤ s'.next ∧ ∀ b, b < s.next → s'.get b = s.get b) ?_ (n := w)
    ⟨0, .slice s.next 0 0 0 false, rfl, by omega, by simp only [Tr.get_set, Nat.reduceEqDiff, ↓reduceIte, Int.cast_ofNat_Int], by simp only [Tr.get_set, Nat.reduceEqDiff, ↓reduceIte, Int.cast_ofNat_Int]; rfl, by simp only [Tr.get_set, Nat.reduceEqDiff, ↓reduceIte, Int.cast_ofNat_Int], .inr (.inl ⟨s.next, rfl, rfl, Nat.le_refl _, by simp, g0⟩), by simp, fun b hb => by rw [St.get_new, if_neg (by omega)]⟩
  rintro m ts s1 ⟨k, u, rfl, hk, g6, g0', g1, ho, hn1, hg⟩ IH
  have hol := ho.len
  rw [List.length_map, leb_len] at hol
  by_cases hlt : k < w
  · have hls := leb_snoc k n
    have hss := shf_succ k n
    have hlk := leb_len k n
    have hsl := shf_lt k n _ hn
    generalize shf k n = y at g0' hls hss hsl
    obtain ⟨w', s3, happ, ho3, hn3, hfr, st, -⟩ := (ho.new (.cells [.int .u8 ((y % 256 : Nat) : Int)] false false 0)).app (by simp only [St.next_new]; omega) [y % 256] (by rw [List.length_map, hlk]; simp; omega)
    have hlt2 : w' = w' := rfl
    have wm0 : ((y : Int).tmod 256) = ((y % 256 : Nat) : Int) := by rw [Int.tmod_eq_emod_of_nonneg (by omega)]; omega
    have wm : IntKind.u8.wrap ((y % 256 : Nat) : Int) = ((y % 256 : Nat) : Int) := u8_in (by omega) (by omega)
    have wq0 : ((y : Int).tdiv 256) = ((y / 256 : Nat) : Int) := by rw [Int.tdiv_eq_ediv_of_nonneg (by omega)]; omega
    have wq : IntKind.u64.wrap ((y / 256 : Nat) : Int) = ((y / 256 : Nat) : Int) := u64_in (by omega) (by omega)
    have happ' : appendA 1 1 (s1.new (.cells [.int .u8 ((y % 256 : Nat) : Int)] false false 0)) u 1 [.int .u8 ((y % 256 : Nat) : Int)] = some (w', s3) := happ
    simp -implicitDefEqProofs only [go_sem, Wk_block, Wk_drawnC, reduceCtorEq, Nat.reduceEqDiff, Nat.reduceAdd, Nat.reduceLeDiff, Nat.reduceLT, Nat.reduceMul, Nat.reduceSub, ↓reduceIte, Int.reduceLT, Int.reduceLE, Int.reduceNeg, Int.reduceAdd, Int.reduceEq, Nat.reduceBneDiff, Nat.reduceBEq, Int.reduceToNat, Int.reduceMul, Int.reduceSub, Int.reduceBEq, Int.reduceBNe, g6, g0', g1, hol, hlt, wm0, wm, wq0, wq, srcA, happ', Nat.mul_one, eq_self, ft, tf]
    refine IH (w - (k + 1)) _ _ (by omega) ⟨k + 1, w', rfl, by omega, ?_, ?_, ?_, ?_, ?_, fun b hb => ?_⟩
    · simp only [Tr.get_set, Nat.reduceEqDiff, ↓reduceIte, Int.cast_ofNat_Int]
    · rw [hss]; simp only [Tr.get_set, Nat.reduceEqDiff, ↓reduceIte, Int.cast_ofNat_Int]
    · simp only [Tr.get_set, Nat.reduceEqDiff, ↓reduceIte, Int.cast_ofNat_Int, g1]
    · rw [hls, List.map_append]; exact ho3
    · simp only [St.next_new] at hn3; omega
    · rw [hfr b hb, St.get_new, if_neg (by omega)]; exact hg b hb
  · have : k = w := by omega
    subst this
    have hlf : decide ((k : Int) < (k : Int)) = false := decide_eq_false (by omega)
    simp -implicitDefEqProofs only [go_sem, Wk_block, Wk_drawnC, reduceCtorEq, Nat.reduceEqDiff, Nat.reduceAdd, Nat.reduceLeDiff, Nat.reduceLT, Nat.reduceMul, Nat.reduceSub, ↓reduceIte, Int.reduceLT, Int.reduceLE, Int.reduceNeg, Int.reduceAdd, Int.reduceEq, Nat.reduceBneDiff, Nat.reduceBEq, Int.reduceToNat, Int.reduceMul, Int.reduceSub, Int.reduceBEq, Int.reduceBNe, g6, g0', g1, hol, hlt, hlf, ft, tf]
    exact ⟨⟨_, _, rfl, ho⟩, hg⟩

/-- Pairs of a width and a number, as cells. -/
def pairC (x : Nat × Nat) : List AV := [.int .u64 (x.1 : Int), .int .u64 (x.2 : Int)]
def fieldsN (l : List (Nat × Nat)) : List Nat := l.flatMap fun x => leb x.1 x.2
theorem pair_at : ∀ (l : List (Nat × Nat)) (i : Nat) (h : i < l.length), ((l.flatMap pairC).drop (i * 2)).take 2 = pairC l[i]
  | x :: l, 0, _ => by simp [pairC]
  | x :: l, i + 1, h => by
    have := pair_at l i (by simpa using h)
    rw [List.flatMap_cons, show (i + 1) * 2 = i * 2 + 1 + 1 by omega]
    simpa [pairC] using this
theorem pair_len (l : List (Nat × Nat)) : (l.flatMap pairC).length = l.length * 2 := by
  induction l with
  | nil => rfl
  | cons a l ih => rw [List.flatMap_cons, List.length_append, ih, List.length_cons]; simp [pairC]; omega
theorem fields_len (l : List (Nat × Nat)) (h : ∀ x ∈ l, x.1 ≤ 8) : (fieldsN l).length ≤ 8 * l.length := by
  induction l with
  | nil => simp [fieldsN]
  | cons a l ih =>
    have h1 := h a (List.mem_cons_self ..)
    have h2 := ih fun x hx => h x (List.mem_cons_of_mem _ hx)
    unfold fieldsN at *
    rw [List.flatMap_cons, List.length_append, leb_len, List.length_cons]
    omega
theorem refF_run (l : List (Nat × Nat)) (hl : ∀ x ∈ l, x.1 ≤ 8 ∧ x.2 < 18446744073709551616) (hll : l.length ≤ 100) {s : St} {p c k : Nat} {x : Bool} {L : List AV} {lo ro : Bool} {z : Nat} (hp : s.get p = some (.cells L lo ro z)) (hL : L = l.flatMap pairC) (hk : l.length = k) (hd : Dom s) :
    Wf mm 29 [.slice p 0 k c x] s fun v s' => OutB s' s.next v ((fieldsN l).map u8) ∧ Fr s s' ∧ Dom s' := by
  subst hL
  subst hk
  refine ((Wf_enter ft29 (sm (by decide)) (by rfl) ?_ : Wf mm 29 [.slice p 0 l.length c x] s fun v s' => OutB s' s.next v ((fieldsN l).map u8) ∧ ∀ b, b < s.next → s'.get b = s.get b).stp mm_st).mono ?_
  rotate_left
  · rintro v s' ⟨⟨h1, h2⟩, st⟩
    exact ⟨h1, ⟨st.le, h2⟩, st.dom hd⟩
  have ft : (false == true) = false := rfl
  have tf : (true == false) = false := rfl
  have hpl := hd _ _ hp
  have g0 : (s.new (.cells [] false false 0)).get s.next = some (.cells [] false false 0) := by rw [St.get_new, if_pos rfl]
  simp -implicitDefEqProofs only [go_sem, Wk_block, Wk_drawnC, reduceCtorEq, Nat.reduceEqDiff, Nat.reduceAdd, Nat.reduceLeDiff, Nat.reduceLT, Nat.reduceMul, Nat.reduceSub, ↓reduceIte, Int.reduceLT, Int.reduceLE, Int.reduceNeg, Int.reduceAdd, Int.reduceEq, Nat.reduceBneDiff, Nat.reduceBEq, Int.reduceToNat, Int.reduceMul, Int.reduceSub, Int.reduceBEq, Int.reduceBNe, fd29, ft, tf]
  refine loop_ind (fun m ts s' => ∃ (j : Nat) (u : AV), m = l.length - j ∧ j ≤ l.length ∧ ts.get 11 = some (.int .i64 (j : Int)) ∧ ts.get 10 = some (.int .i64 (l.length : Int)) ∧ ts.get 9 = some (.slice p 0 l.length c x) ∧ ts.get 3 = some u ∧ OutB s' s.next u ((fieldsN (l.take j)).map u8) ∧ s.next ≤ s'.next ∧ (∀ b, b < s.next → s'.get b = s.get b) ∧ Dom s') ?_ (n := l.length)
    ⟨0, .slice s.next 0 0 0 false, rfl, by omega, by simp only [Tr.get_set, Nat.reduceEqDiff, ↓reduceIte, Int.cast_ofNat_Int], by simp only [Tr.get_set, Nat.reduceEqDiff, ↓reduceIte, Int.cast_ofNat_Int], by simp only [Tr.get_set, Nat.reduceEqDiff, ↓reduceIte, Int.cast_ofNat_Int], by simp only [Tr.get_set, Nat.reduceEqDiff, ↓reduceIte, Int.cast_ofNat_Int], .inr (.inl ⟨s.next, rfl, rfl, Nat.le_refl _, by simp, g0⟩), by simp, fun b hb => by rw [St.get_new, if_neg (by omega)], dom_new hd _⟩
  rintro m ts s1 ⟨j, u, rfl, hj, g11, g10, g9, g3, ho, hn1, hg, dd⟩ IH
  by_cases hlt : j < l.length
  · have hidx : ∀ s', idx1 2 (some (.slice p 0 l.length c x)) (some (.int .i64 (j : Int))) s' = some (.ptr p (0 + j * 2), s') := fun s' => idx1_slice hlt
    have hv : s1.get p = some (.cells (l.flatMap pairC) lo ro z) := (hg p hpl).trans hp
    have hle : j * 2 + 2 ≤ (l.flatMap pairC).length := by rw [pair_len]; omega
    have hat := pair_at l j hlt
    obtain ⟨h8, h64⟩ := hl l[j] (List.getElem_mem hlt)
    have htk : fieldsN (l.take (j + 1)) = fieldsN (l.take j) ++ leb l[j].1 l[j].2 := by
      rw [List.take_succ_eq_append_getElem hlt]
      unfold fieldsN
      rw [List.flatMap_append]
      simp
    have hfl := fields_len (l.take j) fun x hx => (hl x (List.mem_of_mem_take hx)).1
    rw [List.length_take, Nat.min_eq_left (by omega)] at hfl
    generalize l[j] = y at hat h8 h64 htk
    obtain ⟨w, n⟩ := y
    have wj := succ_in (j := j) (by omega)
    have ww : IntKind.i64.wrap (w : Int) = (w : Int) := i64_in (by omega) (by simp only at h8; omega)
    simp only [pairC] at hat
    simp -implicitDefEqProofs only [go_sem, Wk_block, Wk_drawnC, reduceCtorEq, Nat.reduceEqDiff, Nat.reduceAdd, Nat.reduceLeDiff, Nat.reduceLT, Nat.reduceMul, Nat.reduceSub, ↓reduceIte, Int.reduceLT, Int.reduceLE, Int.reduceNeg, Int.reduceAdd, Int.reduceEq, Nat.reduceBneDiff, Nat.reduceBEq, Int.reduceToNat, Int.reduceMul, Int.reduceSub, Int.reduceBEq, Int.reduceBNe, g11, g10, g9, g3, hlt, hidx, hv, hle, hat, ww, ft, tf]
    refine Wl_of (refB_run n w h64 h8 (dom_new dd _)) ?_
    rintro _ s2 ⟨⟨u2, b2, rfl, ho2⟩, f2, dd2⟩
    simp only [St.next_new] at ho2
    have hsrc := ho2.src
    have hl2 : ((leb w n).map u8).length = w := by rw [List.length_map, leb_len]
    rw [hl2] at hsrc
    have ho' : OutB s2 s.next u ((fieldsN (l.take j)).map u8) := (ho.new _).frx' f2
    obtain ⟨w', s3, happ, ho3, hn3, hfr, st, -⟩ := ho'.app (Nat.le_trans (Nat.le_succ_of_le hn1) (by have := f2.le; simp only [St.next_new] at this; omega)) (leb w n) (by rw [List.length_map, leb_len]; simp only at h8; omega)
    rw [leb_len] at happ
    simp -implicitDefEqProofs only [go_sem, Wk_block, Wk_drawnC, reduceCtorEq, Nat.reduceEqDiff, Nat.reduceAdd, Nat.reduceLeDiff, Nat.reduceLT, Nat.reduceMul, Nat.reduceSub, ↓reduceIte, Int.reduceLT, Int.reduceLE, Int.reduceNeg, Int.reduceAdd, Int.reduceEq, Nat.reduceBneDiff, Nat.reduceBEq, Int.reduceToNat, Int.reduceMul, Int.reduceSub, Int.reduceBEq, Int.reduceBNe, g11, g10, g9, g3, hsrc, hl2, happ, wj, Nat.mul_one, eq_self, ft, tf]
    have hn2 := f2.le
    simp only [St.next_new] at hn2
    refine IH (l.length - (j + 1)) _ _ (by omega) ⟨j + 1, w', rfl, by omega, ?_, ?_, ?_, ?_, ?_, by omega, fun b hb => ?_, st.dom dd2⟩
    · simp only [Tr.get_set, Nat.reduceEqDiff, ↓reduceIte, Int.cast_ofNat_Int]
    · simp only [Tr.get_set, Nat.reduceEqDiff, ↓reduceIte, Int.cast_ofNat_Int, g10]
    · simp only [Tr.get_set, Nat.reduceEqDiff, ↓reduceIte, Int.cast_ofNat_Int, g9]
    · simp only [Tr.get_set, Nat.reduceEqDiff, ↓reduceIte, Int.cast_ofNat_Int]
    · rw [htk, List.map_append]; exact ho3
    · rw [hfr b hb, f2.get b (by simp only [St.next_new]; omega), St.get_new, if_neg (by omega)]; exact hg b hb
  · have : j = l.length := by omega
    subst this
    rw [List.take_length] at ho
    have hlf : decide ((l.length : Int) < (l.length : Int)) = false := decide_eq_false (by omega)
    simp -implicitDefEqProofs only [go_sem, Wk_block, Wk_drawnC, reduceCtorEq, Nat.reduceEqDiff, Nat.reduceAdd, Nat.reduceLeDiff, Nat.reduceLT, Nat.reduceMul, Nat.reduceSub, ↓reduceIte, Int.reduceLT, Int.reduceLE, Int.reduceNeg, Int.reduceAdd, Int.reduceEq, Nat.reduceBneDiff, Nat.reduceBEq, Int.reduceToNat, Int.reduceMul, Int.reduceSub, Int.reduceBEq, Int.reduceBNe, g11, g10, g3, hlf, hlt, ft, tf]
    exact ⟨ho, hg⟩

/-- One label behind bytes. -/
theorem refP_run {w : AV} {L : List Nat} {e q p N : Nat} {s : St} (hu : OutB s N w (L.map u8)) (hL : L.length < 1000000) (hp : s.get p = some (.cells [.int .u32 (e : Int), .int .u32 (q : Int)] false false 0)) (hd : Dom s) (he : e < 4294967296) (hq : q < 4294967296) :
    Wf mm 30 [w, .slice p 0 1 1 false] s fun v s' => OutB s' s.next v ((L ++ lebs 4 [e, q]).map u8) ∧ Fr s s' ∧ Dom s' := by
  refine ((Wf_enter ft30 (sm (by decide)) (by rfl) ?_ : Wf mm 30 [w, .slice p 0 1 1 false] s fun v s' => OutB s' s.next v ((L ++ lebs 4 [e, q]).map u8) ∧ ∀ b, b < s.next → s'.get b = s.get b).stp mm_st).mono ?_
  rotate_left
  · rintro v s' ⟨⟨h1, h2⟩, st⟩
    exact ⟨h1, ⟨st.le, h2⟩, st.dom hd⟩
  have ft : (false == true) = false := rfl
  have tf : (true == false) = false := rfl
  have hpl := hd _ _ hp
  have g0 : (s.new (.cells [] false false 0)).get s.next = some (.cells [] false false 0) := by rw [St.get_new, if_pos rfl]
  have ho0 : OutB (s.new (.cells [] false false 0)) s.next (.slice s.next 0 0 0 false) ([] : List AV) := .inr (.inl ⟨s.next, rfl, rfl, Nat.le_refl _, by simp, g0⟩)
  obtain ⟨u1, s1, happ, ho1, hn1, hfr, st, -⟩ := ho0.app (by simp) L (by simp; omega)
  rw [List.nil_append] at ho1
  have hsrc := (hu.new (.cells [] false false 0)).src
  rw [List.length_map] at hsrc
  have hll : (L.map u8).length = L.length := List.length_map _
  have dd1 : Dom s1 := st.dom (dom_new hd _)
  have hp1 : s1.get p = some (.cells [.int .u32 (e : Int), .int .u32 (q : Int)] false false 0) := by rw [hfr p hpl, St.get_new, if_neg (by omega)]; exact hp
  have w1 : IntKind.i64.wrap 1 = 1 := rfl
  have i0 : ∀ s, idx1 2 (some (.slice p 0 1 1 false)) (some (.int .i64 0)) s = some (.ptr p 0, s) := fun s => rfl
  have we := u64_of (n := e) (by omega)
  have wq := u64_of (n := q) (by omega)
  simp -implicitDefEqProofs only [go_sem, Wk_block, Wk_drawnC, reduceCtorEq, Nat.reduceEqDiff, Nat.reduceAdd, Nat.reduceLeDiff, Nat.reduceLT, Nat.reduceMul, Nat.reduceSub, ↓reduceIte, Int.reduceLT, Int.reduceLE, Int.reduceNeg, Int.reduceAdd, Int.reduceEq, Nat.reduceBneDiff, Nat.reduceBEq, Int.reduceToNat, Int.reduceMul, Int.reduceSub, Int.reduceBEq, Int.reduceBNe, fd30, hsrc, hll, happ, Nat.mul_one, eq_self, ft, tf]
  rw [Wk_loop]
  simp -implicitDefEqProofs only [go_sem, Wk_block, Wk_drawnC, reduceCtorEq, Nat.reduceEqDiff, Nat.reduceAdd, Nat.reduceLeDiff, Nat.reduceLT, Nat.reduceMul, Nat.reduceSub, ↓reduceIte, Int.reduceLT, Int.reduceLE, Int.reduceNeg, Int.reduceAdd, Int.reduceEq, Nat.reduceBneDiff, Nat.reduceBEq, Int.reduceToNat, Int.reduceMul, Int.reduceSub, Int.reduceBEq, Int.reduceBNe, i0, hp1, we, wq, ft, tf]
  refine Wl_of (refF_run [(4, e), (4, q)] (by
    intro x hx
    simp only [List.mem_cons, List.not_mem_nil, or_false] at hx
    rcases hx with rfl | rfl <;> (constructor <;> (dsimp only; omega))) (by simp) (p := s1.next + 1) (k := 2) (L := [.int .u64 4, .int .u64 (e : Int), .int .u64 4, .int .u64 (q : Int)]) (by rw [St.get_new, if_pos (by simp)]) rfl rfl (dom_new (dom_new dd1 _) _)) ?_
  rintro v s2 ⟨ho2, f2, dd2⟩
  have hsrc2 := ho2.src
  have hl2 : ((fieldsN [(4, e), (4, q)]).map u8).length = 8 := by simp [fieldsN, leb_len]
  rw [hl2] at hsrc2
  have hf8 : (fieldsN [(4, e), (4, q)]).length = 8 := by simp [fieldsN, leb_len]
  have hn2 := f2.le
  simp only [St.next_new] at hn2 hn1
  obtain ⟨w', s3, happ3, ho3, hn3, hfr3, st3, -⟩ := (((ho1.new _).new _).frx' f2).app (by omega) (fieldsN [(4, e), (4, q)]) (by rw [List.length_map, hf8]; omega)
  rw [hf8] at happ3
  have hc3 := ho3.cell
  simp -implicitDefEqProofs only [go_sem, Wk_block, Wk_drawnC, reduceCtorEq, Nat.reduceEqDiff, Nat.reduceAdd, Nat.reduceLeDiff, Nat.reduceLT, Nat.reduceMul, Nat.reduceSub, ↓reduceIte, Int.reduceLT, Int.reduceLE, Int.reduceNeg, Int.reduceAdd, Int.reduceEq, Nat.reduceBneDiff, Nat.reduceBEq, Int.reduceToNat, Int.reduceMul, Int.reduceSub, Int.reduceBEq, Int.reduceBNe, hsrc2, hl2, happ3, w1, hc3, Nat.mul_one, eq_self, ft, tf]
  rw [Wk_loop]
  simp -implicitDefEqProofs only [go_sem, Wk_block, Wk_drawnC, reduceCtorEq, Nat.reduceEqDiff, Nat.reduceAdd, Nat.reduceLeDiff, Nat.reduceLT, Nat.reduceMul, Nat.reduceSub, ↓reduceIte, Int.reduceLT, Int.reduceLE, Int.reduceNeg, Int.reduceAdd, Int.reduceEq, Nat.reduceBneDiff, Nat.reduceBEq, Int.reduceToNat, Int.reduceMul, Int.reduceSub, Int.reduceBEq, Int.reduceBNe, ft, tf]
  refine ⟨?_, fun b hb => ?_⟩
  · rw [List.map_append]
    have e1 : fieldsN [(4, e), (4, q)] = lebs 4 [e, q] := rfl
    rw [← e1]
    exact ho3
  · rw [hfr3 b hb, f2.get b (by simp only [St.next_new]; omega), St.get_new, if_neg (by simp only [St.next_new]; omega), St.get_new, if_neg (by omega), hfr b hb, St.get_new, if_neg (by omega)]
end Go.Proofs.YteiiblpnegjjlaaGreat.Lw
namespace Go.Proofs.YteiiblpnegjjlaaGreat.Lw
open D
set_option linter.unusedSimpArgs false
set_option linter.unusedVariables false
set_option maxRecDepth 10000

/-- Bytes are being put behind each other, in a value. -/
structure Stq (s0 : St) (u : AV) (P : List Nat) (t : St) : Prop where
  out : OutB t s0.next u (P.map u8)
  fr : Fr s0 t
  dom : Dom t
theorem Stq.new {s0 : St} {u : AV} {P : List Nat} {t : St} (h : Stq s0 u P t) (o : AObj) : Stq s0 u P (t.new o) := ⟨h.out.new _, h.fr.new _, dom_new h.dom _⟩
theorem Stq.call {s0 : St} {u : AV} {P : List Nat} {t t' : St} (h : Stq s0 u P t) (f : Fr t t') (hd : Dom t') : Stq s0 u P t' := ⟨h.out.frx' f, h.fr.trans f, hd⟩
theorem Stq.app {s0 : St} {u : AV} {P : List Nat} {t : St} (h : Stq s0 u P t) (M : List Nat) (hL : P.length + M.length < 1000000000) :
    ∃ u' t', appendA 1 1 t u M.length (M.map u8) = some (u', t') ∧ (u'.cell = true ∧ u'.cells = [u']) ∧ Stq s0 u' (P ++ M) t' ∧ t.next ≤ t'.next ∧ ∀ b vs ro z, t.get b = some (.cells vs false ro z) → t'.get b = some (.cells vs false ro z) := by
  obtain ⟨u', t', ha, ho, hn, hg, st, hk⟩ := h.out.app h.fr.le M (by rw [List.length_map]; exact hL)
  refine ⟨u', t', ha, ho.cell, ⟨by rw [List.map_append]; exact ho, ⟨Nat.le_trans h.fr.le hn, fun b hb => (hg b hb).trans (h.fr.get b hb)⟩, st.dom h.dom⟩, hn, hk h.dom⟩
theorem Stq.set {s0 : St} {u v : AV} {P P' : List Nat} {t t' : St} (h : Stq s0 u P t) (f : Fr t t') (hd : Dom t') (ho : OutB t' t.next v (P'.map u8)) : Stq s0 v P' t' := ⟨ho.le h.fr.le, h.fr.trans f, hd⟩
theorem u8_of {a : Int} (h : 0 ≤ a) : IntKind.u8.wrap a = ((a.toNat % 256 : Nat) : Int) := by
  obtain ⟨n, rfl⟩ : ∃ n : Nat, a = (n : Int) := ⟨a.toNat, by omega⟩
  simp [IntKind.wrap, IntKind.signed, IntKind.bits]
theorem head_fields (c : Cfg) (n : Nat) : fieldsN [(2, c.pages.toNat), (4, c.every), (4, c.span), (2, c.last.toNat), (2, c.spans.toNat), (2, c.chunk.toNat), (2, c.retry.toNat), (2, n)] = encHead c n := by
  simp [fieldsN, encHead, lebs]

theorem refBytes_run (c : Cfg) (l : List Sop) {v : AV} {s : St} (hA : RdS s v l) (hl : ∀ x ∈ l, SopOk s x) (hk : ∀ x ∈ l, x.keys.length ≤ 1000) (hd : Dom s) (hL : l.length < 1000000000) (hc : CfgOk c) :
    Wf mm 14 [.agg c.enc, v] s fun w s' => (plainS c l = true → ∃ u, w = .tup [u, .int .i64 0] ∧ OutB s' s.next u ((encA c (l.map Sop.con)).map u8)) ∧ (plainS c l = false → w = .tup [.nilSlice, .int .i64 241]) ∧ Fr s s' ∧ Dom s' := by
  refine Wf_enter ft14 (sm (by decide)) (by rfl) ?_
  have ft : (false == true) = false := rfl
  have tf : (true == false) = false := rfl
  have hn := keeps_new hd (.cells c.enc false false 0)
  have hd2 := dom_new hd (.cells c.enc false false 0)
  have f1 : Fr s (s.new (.cells c.enc false false 0)) := by (repeat (first | exact FrX.refl _ _ | exact Fr.refl _ | assumption | exact Fr.x (by assumption) _ | refine FrX.put ?_ (.inl rfl) _ | refine FrX.put ?_ (.inr (by first | omega | (simp; done) | (simp; omega))) _ | refine FrX.new ?_ _ | refine Fr.put ?_ (by first | omega | (simp; done) | (simp; omega)) _ | refine Fr.new ?_ _ | refine FrX.then ?_ (by assumption) | refine Fr.trans ?_ (by assumption)))
  have g1 : (s.new (.cells c.enc false false 0)).get s.next = some (.cells c.enc false false 0) := by rw [St.get_new, if_pos rfl]
  have n1 : (s.new (.cells c.enc false false 0)).next = s.next + 1 := rfl
  have hce : 7 ≤ c.enc.length := Nat.le_refl 7
  have hct : List.take 7 c.enc = c.enc := rfl
  have hlen := hA.len
  simp -implicitDefEqProofs only [go_sem, Wk_block, Wk_drawnC, reduceCtorEq, Nat.reduceEqDiff, Nat.reduceAdd, Nat.reduceLeDiff, Nat.reduceLT, Nat.reduceMul, Nat.reduceSub, ↓reduceIte, Int.reduceLT, Int.reduceLE, Int.reduceNeg, Int.reduceAdd, Int.reduceEq, Nat.reduceBneDiff, Nat.reduceBEq, Int.reduceToNat, Int.reduceMul, Int.reduceSub, Int.reduceBEq, Int.reduceBNe, fd14, hce, hct, ft, tf]
  obtain ⟨a0, ha0⟩ : ∃ a0, s.next = a0 := ⟨_, rfl⟩
  rw [ha0] at g1 n1 ⊢
  generalize s.new (.cells c.enc false false 0) = s1 at *
  refine Wl_of (refPlain_run c l (hA.mono f1) (fun x hx => (hl x hx).mono hn) hk hd2 hL) ?_
  rintro _ s2 ⟨rfl, f2, d2⟩
  have g2 := (fr_keeps f2 hd2) _ _ g1
  have f02 := f1.trans f2
  cases hp : plainS c l
  · simp -implicitDefEqProofs only [go_sem, Wk_block, Wk_drawnC, reduceCtorEq, Nat.reduceEqDiff, Nat.reduceAdd, Nat.reduceLeDiff, Nat.reduceLT, Nat.reduceMul, Nat.reduceSub, ↓reduceIte, Int.reduceLT, Int.reduceLE, Int.reduceNeg, Int.reduceAdd, Int.reduceEq, Nat.reduceBneDiff, Nat.reduceBEq, Int.reduceToNat, Int.reduceMul, Int.reduceSub, Int.reduceBEq, Int.reduceBNe, ft, tf]
    exact ⟨f02, d2⟩
  have hp' := hp
  rw [plain_cons] at hp'
  unfold plainA at hp'
  rw [Bool.and_eq_true, Bool.not_eq_true', Bool.not_eq_true', Bool.or_eq_false_iff, List.length_map] at hp'
  obtain ⟨⟨h400, hops⟩, hnums⟩ := hp'
  have h400 : l.length ≤ 400 := by simpa using h400
  have hops : ∀ x ∈ l, plainC x.con = true := fun x hx => by
    have := List.any_eq_false.1 hops x.con (List.mem_map_of_mem hx)
    simpa using this
  have hn' : ∀ n ∈ c.nums, 0 ≤ n ∧ n ≤ 65535 := fun n hn => bad_of (by
    have := List.any_eq_false.1 hnums n hn
    simpa using this)
  have m1 := hn' c.pages (by simp [Cfg.nums])
  have m2 := hn' c.last (by simp [Cfg.nums])
  have m3 := hn' c.spans (by simp [Cfg.nums])
  have m4 := hn' c.chunk (by simp [Cfg.nums])
  have m5 := hn' c.retry (by simp [Cfg.nums])
  have hu : ∀ a : Int, 0 ≤ a → a ≤ 65535 → IntKind.u64.wrap a = ((a.toNat : Nat) : Int) := fun a h1 h2 => by rw [u64_in (by omega) (by omega)]; omega
  have w1 := hu _ m1.1 m1.2
  have w2 := hu _ m2.1 m2.2
  have w3 := hu _ m3.1 m3.2
  have w4 := hu _ m4.1 m4.2
  have w5 := hu _ m5.1 m5.2
  have w6 : IntKind.u64.wrap (l.length : Int) = ((l.length : Nat) : Int) := u64_in (by omega) (by omega)
  have we := u64_of (n := c.every) (by have := hc.every; omega)
  have ws := u64_of (n := c.span) (by have := hc.span; omega)
  unfold Cfg.enc at g2
  have hab : a0 < s2.next := d2 _ _ g2
  have hq : ¬ a0 = s2.next := by omega
  simp -implicitDefEqProofs only [go_sem, Wk_block, Wk_drawnC, reduceCtorEq, Nat.reduceEqDiff, Nat.reduceAdd, Nat.reduceLeDiff, Nat.reduceLT, Nat.reduceMul, Nat.reduceSub, ↓reduceIte, Int.reduceLT, Int.reduceLE, Int.reduceNeg, Int.reduceAdd, Int.reduceEq, Nat.reduceBneDiff, Nat.reduceBEq, Int.reduceToNat, Int.reduceMul, Int.reduceSub, Int.reduceBEq, Int.reduceBNe, g2, hq, hlen, w1, w2, w3, w4, w5, w6, we, ws, ft, tf]
  have hS0 : Stq s (.nilSlice) [] (s2.new (.cells [.int .u32 (c.every : Int), .int .u32 (c.span : Int), .int .i64 c.last, .int .i64 c.spans] false false 0)) := ⟨.inl ⟨rfl, rfl⟩, f02.new _, dom_new d2 _⟩
  refine Wl_of (refF_run [(2, c.pages.toNat), (4, c.every), (4, c.span), (2, c.last.toNat), (2, c.spans.toNat), (2, c.chunk.toNat), (2, c.retry.toNat), (2, l.length)] (by
    have := hc.every
    have := hc.span
    intro x hx
    simp only [List.mem_cons, List.not_mem_nil, or_false] at hx
    rcases hx with rfl | rfl | rfl | rfl | rfl | rfl | rfl | rfl <;> (constructor <;> (dsimp only; omega))) (by simp) (p := s2.next + 1) (k := 8) (L := [.int .u64 2, .int .u64 (c.pages.toNat : Int), .int .u64 4, .int .u64 (c.every : Int), .int .u64 4, .int .u64 (c.span : Int), .int .u64 2, .int .u64 (c.last.toNat : Int), .int .u64 2, .int .u64 (c.spans.toNat : Int), .int .u64 2, .int .u64 (c.chunk.toNat : Int), .int .u64 2, .int .u64 (c.retry.toNat : Int), .int .u64 2, .int .u64 (l.length : Int)])
    (by rw [St.get_new, if_pos (by simp)]) rfl rfl (dom_new hS0.dom _)) ?_
  rintro u0 s3 ⟨ho3, f3, dd3⟩
  rw [head_fields] at ho3
  have hS3 : Stq s u0 (encHead c l.length) s3 := (hS0.new _).set f3 dd3 ho3
  clear ho3 f3 dd3 hS0
  simp -implicitDefEqProofs only [go_sem, Wk_block, Wk_drawnC, reduceCtorEq, Nat.reduceEqDiff, Nat.reduceAdd, Nat.reduceLeDiff, Nat.reduceLT, Nat.reduceMul, Nat.reduceSub, ↓reduceIte, Int.reduceLT, Int.reduceLE, Int.reduceNeg, Int.reduceAdd, Int.reduceEq, Nat.reduceBneDiff, Nat.reduceBEq, Int.reduceToNat, Int.reduceMul, Int.reduceSub, Int.reduceBEq, Int.reduceBNe, hlen, ft, tf]
  have hhl : (encHead c l.length).length = 20 := by unfold encHead; simp [lebs_len]
  have hfl : ∀ j, j ≤ l.length → (((l.take j).map Sop.con).flatMap encC).length ≤ 351 * j := fun j hj => by
    have := flat_len ((l.take j).map Sop.con) fun x hx => by
      obtain ⟨y, hy, rfl⟩ := List.mem_map.1 hx
      exact ⟨(hl y (List.mem_of_mem_take hy)).blen, hops y (List.mem_of_mem_take hy)⟩
    rw [List.length_map, List.length_take, Nat.min_eq_left hj] at this
    exact this
  refine loop_ind (fun m ts s' => ∃ (j : Nat) (u : AV), m = l.length - j ∧ j ≤ l.length ∧ ts.get 57 = some (.int .i64 (j : Int)) ∧ ts.get 56 = some (.int .i64 (l.length : Int)) ∧ ts.get 55 = some v ∧ ts.get 7 = some u ∧ Stq s u (encHead c l.length ++ ((l.take j).map Sop.con).flatMap encC) s') ?_ (n := l.length)
    ⟨0, u0, rfl, by omega, by simp only [Tr.get_set, Nat.reduceEqDiff, ↓reduceIte, Int.cast_ofNat_Int], by simp only [Tr.get_set, Nat.reduceEqDiff, ↓reduceIte, Int.cast_ofNat_Int], by simp only [Tr.get_set, Nat.reduceEqDiff, ↓reduceIte, Int.cast_ofNat_Int], by simp only [Tr.get_set, Nat.reduceEqDiff, ↓reduceIte, Int.cast_ofNat_Int], by simpa using hS3⟩
  clear hS3
  rintro m ts t0 ⟨j, u, rfl, hj, g57, g56, g55, g7, hS⟩ IH
  by_cases hlt : j < l.length
  · have hPl := hfl j hj
    have hA1 := hA.mono hS.fr
    obtain ⟨b, o, vs, lo, ro, z, hidx, hv, hbl, hle, he⟩ := hA1.at_ j hlt
    have hmem := List.getElem_mem hlt
    have hokS := hl l[j] hmem
    have hok := hokS.mono (fr_keeps hS.fr hd)
    have hpl := hops l[j] hmem
    have htk : ((l.take (j + 1)).map Sop.con).flatMap encC = ((l.take j).map Sop.con).flatMap encC ++ encC l[j].con := by
      rw [List.take_succ_eq_append_getElem hlt, List.map_append, List.flatMap_append]
      simp only [List.map_cons, List.map_nil, List.flatMap_cons, List.flatMap_nil, List.append_nil]
    generalize l[j] = x at he hok hokS hpl htk
    have wj := succ_in (j := j) (by omega)
    have ht : x.cells.take 25 = x.cells := List.take_of_length_le (by rw [hok.len]; omega)
    obtain ⟨p1, p2, p3, p4, p5, p6, p7⟩ := plain_nums hpl
    have hPl2 : (encHead c l.length ++ ((l.take j).map Sop.con).flatMap encC).length ≤ 20 + 351 * j := by rw [List.length_append, hhl]; omega
    generalize hPe : encHead c l.length ++ ((l.take j).map Sop.con).flatMap encC = P at hS hPl2
    have hkl := hok.keys.len
    simp only [List.length_map] at hkl
    have k1 := u8_of (a := x.kind) p1.1
    have k2 := u8_of (a := x.node) p2.1
    have k3 := u8_of (a := x.key) p3.1
    have k4 : IntKind.u8.wrap (x.keys.length : Int) = ((x.keys.length % 256 : Nat) : Int) := u8_of (a := (x.keys.length : Int)) (by omega)
    obtain ⟨u1, t1, e1, e2, hS1, hn1, kp1⟩ := ((hS.new (.cells x.cells false false 0)).new (.cells [.int .u8 ((x.kind.toNat % 256 : Nat) : Int), .int .u8 ((x.node.toNat % 256 : Nat) : Int), .int .u8 ((x.key.toNat % 256 : Nat) : Int), .int .u8 ((x.keys.length % 256 : Nat) : Int)] false false 0)).app (lebs 1 [x.kind.toNat, x.node.toNat, x.key.toNat, x.keys.length]) (by rw [lebs_len]; simp only [List.length_cons, List.length_nil]; omega)
    have e1' : appendA 1 1 ((t0.new (.cells x.cells false false 0)).new (.cells [.int .u8 ((x.kind.toNat % 256 : Nat) : Int), .int .u8 ((x.node.toNat % 256 : Nat) : Int), .int .u8 ((x.key.toNat % 256 : Nat) : Int), .int .u8 ((x.keys.length % 256 : Nat) : Int)] false false 0)) u 4 [.int .u8 ((x.kind.toNat % 256 : Nat) : Int), .int .u8 ((x.node.toNat % 256 : Nat) : Int), .int .u8 ((x.key.toNat % 256 : Nat) : Int), .int .u8 ((x.keys.length % 256 : Nat) : Int)] = some (u1, t1) := e1
    have ga1 : t1.get t0.next = some (.cells x.cells false false 0) := kp1 _ _ _ _ (by rw [St.get_new, if_neg (by simp only [St.next_new]; omega), St.get_new, if_pos rfl])
    simp -implicitDefEqProofs only [go_sem, Wk_block, Wk_drawnC, reduceCtorEq, Nat.reduceEqDiff, Nat.reduceAdd, Nat.reduceLeDiff, Nat.reduceLT, Nat.reduceMul, Nat.reduceSub, ↓reduceIte, Int.reduceLT, Int.reduceLE, Int.reduceNeg, Int.reduceAdd, Int.reduceEq, Nat.reduceBneDiff, Nat.reduceBEq, Int.reduceToNat, Int.reduceMul, Int.reduceSub, Int.reduceBEq, Int.reduceBNe, g57, g56, g55, g7, hlt, hidx, hv, hle, he, hok.len, hok.cell, ht, hok.c0, hok.c1, hok.c2, hok.c3, hkl, k1, k2, k3, k4, srcA, e1', ga1, Nat.mul_one, eq_self, ft, tf]
    obtain ⟨a9, ha9⟩ : ∃ a9, t0.next = a9 := ⟨_, rfl⟩
    rw [ha9] at ga1 ⊢
    have hkl0 : x.keys.length ≤ 64 := p5
    have hks0 : ∀ k ∈ x.keys, 0 ≤ k ∧ k ≤ 255 := p6
    have hsm : ∀ i, (lebs 1 ((x.keys.take i).map Int.toNat)).length ≤ 64 := fun i => by
      rw [lebs_len, List.length_map, List.length_take]; omega
    have l1' : (P ++ lebs 1 [x.kind.toNat, x.node.toNat, x.key.toNat, x.keys.length]).length ≤ 24 + 351 * j := by simp [lebs_len]; omega
    generalize hP1 : P ++ lebs 1 [x.kind.toNat, x.node.toNat, x.key.toNat, x.keys.length] = P1 at hS1 l1'
    refine loop_ind (fun m ts s' => ∃ (i : Nat) (u : AV), m = x.keys.length - i ∧ i ≤ x.keys.length ∧ ts.get 80 = some (.int .i64 (i : Int)) ∧ ts.get 79 = some (.int .i64 (x.keys.length : Int)) ∧ ts.get 78 = some x.kv ∧ ts.get 7 = some u ∧ ts.get 9 = some (.ptr a9 0) ∧
        ts.get 57 = some (.int .i64 (j : Int)) ∧ ts.get 56 = some (.int .i64 (l.length : Int)) ∧ ts.get 55 = some v ∧ Stq s u (P1 ++ lebs 1 ((x.keys.take i).map Int.toNat)) s' ∧ s'.get a9 = some (.cells x.cells false false 0)) ?_ (n := x.keys.length)
      ⟨0, u1, rfl, by omega, by simp only [Tr.get_set, Nat.reduceEqDiff, ↓reduceIte, Int.cast_ofNat_Int], by simp only [Tr.get_set, Nat.reduceEqDiff, ↓reduceIte, Int.cast_ofNat_Int], by simp only [Tr.get_set, Nat.reduceEqDiff, ↓reduceIte, Int.cast_ofNat_Int], by simp only [Tr.get_set, Nat.reduceEqDiff, ↓reduceIte, Int.cast_ofNat_Int], by simp only [Tr.get_set, Nat.reduceEqDiff, ↓reduceIte, Int.cast_ofNat_Int], by simp only [Tr.get_set, Nat.reduceEqDiff, ↓reduceIte, Int.cast_ofNat_Int, g57], by simp only [Tr.get_set, Nat.reduceEqDiff, ↓reduceIte, Int.cast_ofNat_Int, g56], by simp only [Tr.get_set, Nat.reduceEqDiff, ↓reduceIte, Int.cast_ofNat_Int, g55], by simpa [lebs] using hS1, ga1⟩
    clear hS1 ga1 hn1 kp1 e1 e1' g7 g57 g56 g55
    rintro m ts t2 ⟨i, u2, rfl, hi, g80, g79, g78, g7, g9, g57, g56, g55, hS2, ga2⟩ IH2
    by_cases hlt2 : i < x.keys.length
    · obtain ⟨b2, o2, vs2, lo2, ro2, z2, hidx2, hg2, hv2⟩ := (hokS.mono (fr_keeps hS2.fr hd)).keys.at_ i (by rw [List.length_map]; exact hlt2)
      rw [List.getElem_map] at hv2
      have hkm := hks0 x.keys[i] (List.getElem_mem hlt2)
      have htk2 : lebs 1 ((x.keys.take (i + 1)).map Int.toNat) = lebs 1 ((x.keys.take i).map Int.toNat) ++ [x.keys[i].toNat % 256] := by
        rw [List.take_succ_eq_append_getElem hlt2, List.map_append, lebs_append]
        rfl
      generalize x.keys[i] = y at hv2 hkm htk2
      have wi := succ_in (j := i) (by omega)
      have ky := u8_of hkm.1
      obtain ⟨u3, t3, e3, e4, hS3, hn3, kp3⟩ := (hS2.new (.cells [.int .u8 ((y.toNat % 256 : Nat) : Int)] false false 0)).app [y.toNat % 256] (by rw [List.length_append]; have := hsm i; simp only [List.length_cons, List.length_nil]; omega)
      have e3' : appendA 1 1 (t2.new (.cells [.int .u8 ((y.toNat % 256 : Nat) : Int)] false false 0)) u2 1 [.int .u8 ((y.toNat % 256 : Nat) : Int)] = some (u3, t3) := e3
      simp -implicitDefEqProofs only [go_sem, Wk_block, Wk_drawnC, reduceCtorEq, Nat.reduceEqDiff, Nat.reduceAdd, Nat.reduceLeDiff, Nat.reduceLT, Nat.reduceMul, Nat.reduceSub, ↓reduceIte, Int.reduceLT, Int.reduceLE, Int.reduceNeg, Int.reduceAdd, Int.reduceEq, Nat.reduceBneDiff, Nat.reduceBEq, Int.reduceToNat, Int.reduceMul, Int.reduceSub, Int.reduceBEq, Int.reduceBNe, g80, g79, g78, g7, hlt2, hidx2, hg2, hv2, ky, srcA, e3', wi, Nat.mul_one, eq_self, ft, tf]
      refine IH2 (x.keys.length - (i + 1)) _ _ (by omega) ⟨i + 1, u3, rfl, by omega, ?_, ?_, ?_, ?_, ?_, ?_, ?_, ?_, ?_, ?_⟩
      · simp only [Tr.get_set, Nat.reduceEqDiff, ↓reduceIte, Int.cast_ofNat_Int]
      · simp only [Tr.get_set, Nat.reduceEqDiff, ↓reduceIte, Int.cast_ofNat_Int, g79]
      · simp only [Tr.get_set, Nat.reduceEqDiff, ↓reduceIte, Int.cast_ofNat_Int, g78]
      · simp only [Tr.get_set, Nat.reduceEqDiff, ↓reduceIte, Int.cast_ofNat_Int]
      · simp only [Tr.get_set, Nat.reduceEqDiff, ↓reduceIte, Int.cast_ofNat_Int, g9]
      · simp only [Tr.get_set, Nat.reduceEqDiff, ↓reduceIte, Int.cast_ofNat_Int, g57]
      · simp only [Tr.get_set, Nat.reduceEqDiff, ↓reduceIte, Int.cast_ofNat_Int, g56]
      · simp only [Tr.get_set, Nat.reduceEqDiff, ↓reduceIte, Int.cast_ofNat_Int, g55]
      · rw [htk2, ← List.append_assoc]; exact hS3
      · exact kp3 _ _ _ _ (by rw [St.get_new, if_neg (by have := hS2.dom _ _ ga2; omega)]; exact ga2)
    · have : i = x.keys.length := by omega
      subst this
      rw [List.take_length] at hS2
      have hlf2 : decide ((x.keys.length : Int) < (x.keys.length : Int)) = false := decide_eq_false (by omega)
      have l2' : (P1 ++ lebs 1 (x.keys.map Int.toNat)).length ≤ 88 + 351 * j := by rw [List.length_append, lebs_len, List.length_map]; omega
      generalize hP2 : P1 ++ lebs 1 (x.keys.map Int.toNat) = P2 at hS2 l2'
      have hsrc : srcA t2 1 (.slice a9 4 16 16 false) = some (16, x.blk.map u8) := by
        show (match loadA t2 a9 4 (16 * 1) with | some l => some (16, l) | none => none) = _
        have : loadA t2 a9 4 (16 * 1) = some (x.blk.map u8) := by
          unfold loadA
          rw [ga2]
          simp only
          rw [if_pos (by rw [hok.len]; omega), hok.blk]
        rw [this]
      have hbl16 : (x.blk.map u8).length = 16 := by rw [List.length_map, hok.blen]
      have hbd : boundsA 16 16 none none none = some (0, 16, 16) := rfl
      obtain ⟨u3, t3, e3, e4, hS3, hn3, kp3⟩ := hS2.app x.blk (by rw [hok.blen]; omega)
      rw [hok.blen] at e3
      have ga3 := kp3 _ _ _ _ ga2
      have hl2 : 22 ≤ x.cells.length := by rw [hok.len]; omega
      simp -implicitDefEqProofs only [go_sem, Wk_block, Wk_drawnC, reduceCtorEq, Nat.reduceEqDiff, Nat.reduceAdd, Nat.reduceLeDiff, Nat.reduceLT, Nat.reduceMul, Nat.reduceSub, ↓reduceIte, Int.reduceLT, Int.reduceLE, Int.reduceNeg, Int.reduceAdd, Int.reduceEq, Nat.reduceBneDiff, Nat.reduceBEq, Int.reduceToNat, Int.reduceMul, Int.reduceSub, Int.reduceBEq, Int.reduceBNe, g80, g79, g7, g9, hlf2, hlt2, ga2, hsrc, hbl16, hbd, e3, ga3, hok.lab, hl2, Nat.mul_one, eq_self, ft, tf]
      have l3' : (P2 ++ x.blk).length ≤ 104 + 351 * j := by rw [List.length_append, hok.blen]; omega
      generalize hP3 : P2 ++ x.blk = P3 at hS3 l3'
      refine Wl_of (refP_run (p := t3.next) (hS3.new (.cells [.int .u32 (x.e : Int), .int .u32 (x.q : Int)] false false 0)).out (by omega) (by rw [St.get_new, if_pos rfl]) (dom_new hS3.dom _) hok.elt hok.qlt) ?_
      rintro u4 t4 ⟨ho4, f4, dd4⟩
      have hS4 := (hS3.new _).set f4 dd4 ho4
      have ga4 := (f4.get a9 (by have := hS3.dom _ _ ga3; simp only [St.next_new]; omega)).trans ((St.get_new ..).trans ((if_neg (by have := hS3.dom _ _ ga3; omega)).trans ga3))
      have l4' : (P3 ++ lebs 4 [x.e, x.q]).length ≤ 112 + 351 * j := by rw [List.length_append, lebs_len]; simp only [List.length_cons, List.length_nil]; omega
      generalize hP4 : P3 ++ lebs 4 [x.e, x.q] = P4 at hS4 l4'
      clear ho4 f4 dd4 hS3 ga3 kp3 hn3 e3 e4 hS2 ga2 hsrc
      have hat : IntKind.i64.wrap (x.at_ + 1) = ((x.at_ + 1).toNat : Int) := by
        have q1 : -1 ≤ x.at_ := p4.1
        have q2 : x.at_ < 65535 := p4.2
        rw [i64_in (by omega) (by omega)]
        omega
      have hat2 : (x.at_ + 1).toNat < 65536 := by
        have q2 : x.at_ < 65535 := p4.2
        omega
      have hat3 := u64_of (n := (x.at_ + 1).toNat) (by omega)
      simp -implicitDefEqProofs only [go_sem, Wk_block, Wk_drawnC, reduceCtorEq, Nat.reduceEqDiff, Nat.reduceAdd, Nat.reduceLeDiff, Nat.reduceLT, Nat.reduceMul, Nat.reduceSub, ↓reduceIte, Int.reduceLT, Int.reduceLE, Int.reduceNeg, Int.reduceAdd, Int.reduceEq, Nat.reduceBneDiff, Nat.reduceBEq, Int.reduceToNat, Int.reduceMul, Int.reduceSub, Int.reduceBEq, Int.reduceBNe, g9, ga4, hok.c22, hat, hat3, ft, tf]
      refine Wl_of (refF_run [(2, (x.at_ + 1).toNat)] (by
        intro y hy
        rw [List.mem_singleton.1 hy]
        constructor <;> (dsimp only; omega)) (by simp) (p := t4.next) (k := 1) (L := [.int .u64 2, .int .u64 ((x.at_ + 1).toNat : Int)]) (by rw [St.get_new, if_pos rfl]) rfl rfl (dom_new hS4.dom _)) ?_
      rintro u5 t5 ⟨ho5, f5, dd5⟩
      have hS5 := (hS4.new (.cells [.int .u64 2, .int .u64 ((x.at_ + 1).toNat : Int)] false false 0)).call f5 dd5
      have ga5 := (f5.get a9 (by have := hS4.dom _ _ ga4; simp only [St.next_new]; omega)).trans ((St.get_new ..).trans ((if_neg (by have := hS4.dom _ _ ga4; omega)).trans ga4))
      have hf2 : fieldsN [(2, (x.at_ + 1).toNat)] = lebs 2 [(x.at_ + 1).toNat] := rfl
      have hsrc5 := ho5.src
      rw [hf2] at hsrc5
      have hl5 : ((lebs 2 [(x.at_ + 1).toNat]).map u8).length = 2 := by rw [List.length_map, lebs_len]; rfl
      rw [hl5] at hsrc5
      obtain ⟨u6, t6, e6, e7, hS6, hn6, kp6⟩ := hS5.app (lebs 2 [(x.at_ + 1).toNat]) (by rw [lebs_len]; simp only [List.length_cons, List.length_nil]; omega)
      rw [show (lebs 2 [(x.at_ + 1).toNat]).length = 2 by rw [lebs_len]; rfl] at e6
      have ga6 := kp6 _ _ _ _ ga5
      have l6' : (P4 ++ lebs 2 [(x.at_ + 1).toNat]).length ≤ 114 + 351 * j := by rw [List.length_append, lebs_len]; simp only [List.length_cons, List.length_nil]; omega
      generalize hP6 : P4 ++ lebs 2 [(x.at_ + 1).toNat] = P6 at hS6 l6'
      have hwl := hok.keep.len
      have hc23 := hok.c23
      rw [show x.mask = x.mask % 256 by rw [Nat.mod_eq_of_lt hok.mlt]] at hc23
      have kw : IntKind.u8.wrap (x.keep.length : Int) = ((x.keep.length % 256 : Nat) : Int) := u8_of (a := (x.keep.length : Int)) (by omega)
      have p7' : x.keep.length ≤ 255 := p7
      obtain ⟨u7, t7, i1, i2, hS7, hn7, kp7⟩ := (hS6.new (.cells [.int .u8 ((x.mask % 256 : Nat) : Int), .int .u8 ((x.keep.length % 256 : Nat) : Int)] false false 0)).app (lebs 1 [x.mask, x.keep.length]) (by rw [lebs_len]; simp only [List.length_cons, List.length_nil]; omega)
      have i1' : appendA 1 1 (t6.new (.cells [.int .u8 ((x.mask % 256 : Nat) : Int), .int .u8 ((x.keep.length % 256 : Nat) : Int)] false false 0)) u6 2 [.int .u8 ((x.mask % 256 : Nat) : Int), .int .u8 ((x.keep.length % 256 : Nat) : Int)] = some (u7, t7) := i1
      have ga7 := kp7 a9 x.cells false 0 (by rw [St.get_new, if_neg (by have := hS6.dom _ _ ga6; omega)]; exact ga6)
      have l7' : (P6 ++ lebs 1 [x.mask, x.keep.length]).length ≤ 116 + 351 * j := by rw [List.length_append, lebs_len]; simp only [List.length_cons, List.length_nil]; omega
      generalize hP7 : P6 ++ lebs 1 [x.mask, x.keep.length] = P7 at hS7 l7'
      obtain ⟨u8', t8, i3, i4, hS8, hn8, kp8⟩ := hS7.app x.keep (by omega)
      have hsrc8 := (hokS.mono (fr_keeps hS7.fr hd)).src t7 (fun _ _ h => h)
      have hkl16 : (x.keep.map u8).length = x.keep.length := by rw [List.length_map]
      have hsrc6 : srcA (t6.new (.cells [.int .u8 ((x.mask % 256 : Nat) : Int), .int .u8 ((x.keep.length % 256 : Nat) : Int)] false false 0)) 1 (.slice t6.next 0 2 2 false) = some (2, [.int .u8 ((x.mask % 256 : Nat) : Int), .int .u8 ((x.keep.length % 256 : Nat) : Int)]) := by
        simp [srcA, loadA, St.get_new]
      simp -implicitDefEqProofs only [go_sem, Wk_block, Wk_drawnC, reduceCtorEq, Nat.reduceEqDiff, Nat.reduceAdd, Nat.reduceLeDiff, Nat.reduceLT, Nat.reduceMul, Nat.reduceSub, ↓reduceIte, Int.reduceLT, Int.reduceLE, Int.reduceNeg, Int.reduceAdd, Int.reduceEq, Nat.reduceBneDiff, Nat.reduceBEq, Int.reduceToNat, Int.reduceMul, Int.reduceSub, Int.reduceBEq, Int.reduceBNe, g9, g57, g56, g55, ga6, hsrc5, hl5, e6, hc23, hok.c24, hwl, kw, hsrc6, i1', ga7, hsrc8, hkl16, i3, wj, Nat.mul_one, eq_self, ft, tf]
      refine IH (l.length - (j + 1)) _ _ (by omega) ⟨j + 1, u8', rfl, by omega, ?_, ?_, ?_, ?_, ?_⟩
      · simp only [Tr.get_set, Nat.reduceEqDiff, ↓reduceIte, Int.cast_ofNat_Int]
      · simp only [Tr.get_set, Nat.reduceEqDiff, ↓reduceIte, Int.cast_ofNat_Int, g56]
      · simp only [Tr.get_set, Nat.reduceEqDiff, ↓reduceIte, Int.cast_ofNat_Int, g55]
      · simp only [Tr.get_set, Nat.reduceEqDiff, ↓reduceIte, Int.cast_ofNat_Int]
      · rw [htk, ← List.append_assoc, hPe]
        have hec : encC x.con = lebs 1 [x.kind.toNat, x.node.toNat, x.key.toNat, x.keys.length] ++ lebs 1 (x.keys.map Int.toNat) ++ x.blk ++ lebs 4 [x.e, x.q] ++ lebs 2 [(x.at_ + 1).toNat] ++ lebs 1 [x.mask, x.keep.length] ++ x.keep := rfl
        rw [hec, ← hP7, ← hP6, ← hP4, ← hP3, ← hP2, ← hP1] at *
        simp only [List.append_assoc] at hS8 ⊢
        exact hS8
  · have : j = l.length := by omega
    subst this
    rw [List.take_length] at hS
    have hlf : decide ((l.length : Int) < (l.length : Int)) = false := decide_eq_false (by omega)
    have huc := hS.out.cell
    simp -implicitDefEqProofs only [go_sem, Wk_block, Wk_drawnC, reduceCtorEq, Nat.reduceEqDiff, Nat.reduceAdd, Nat.reduceLeDiff, Nat.reduceLT, Nat.reduceMul, Nat.reduceSub, ↓reduceIte, Int.reduceLT, Int.reduceLE, Int.reduceNeg, Int.reduceAdd, Int.reduceEq, Nat.reduceBneDiff, Nat.reduceBEq, Int.reduceToNat, Int.reduceMul, Int.reduceSub, Int.reduceBEq, Int.reduceBNe, g57, g56, g7, hlf, hlt, huc, ft, tf]
    refine ⟨fun _ => ⟨u, rfl, ?_⟩, hS.fr, hS.dom⟩
    unfold encA
    rw [List.length_map]
    exact hS.out.le (by omega)
end Go.Proofs.YteiiblpnegjjlaaGreat.Lw
namespace Go.Proofs.YteiiblpnegjjlaaGreat.Lw
open D
set_option linter.unusedSimpArgs false
set_option linter.unusedVariables false
set_option maxRecDepth 10000

def tyCfg : Ty := .many [.int .i64, .many [.many [.int .u32, .int .u32, .int .i64, .int .i64], .int .i64, .int .i64]]
theorem ok_cfg {s : St} {x : List AV} (h : Ok s tyCfg x) : ∃ c : Cfg, x = c.enc ∧ CfgOk c := by
  obtain ⟨_, _, rfl, ⟨p, rfl, _⟩, _, _, rfl, ⟨_, _, rfl, ⟨_, _, rfl, ⟨e, rfl, he1, he2⟩, _, _, rfl, ⟨n, rfl, hn1, hn2⟩, _, _, rfl, ⟨a, rfl, _⟩, _, _, rfl, ⟨b, rfl, _⟩, rfl⟩, _, _, rfl, ⟨d, rfl, _⟩, _, _, rfl, ⟨f, rfl, _⟩, rfl⟩, rfl⟩ := h
  obtain ⟨e, rfl⟩ := nat_of he1
  obtain ⟨n, rfl⟩ := nat_of hn1
  rw [max_u32] at he2 hn2
  exact ⟨⟨p, e, n, a, b, d, f⟩, rfl, ⟨by show e < _; omega, by show n < _; omega⟩⟩
theorem cfg_of {s : St} {v : AV} (h : ArgOk s tyCfg v) : ∃ c : Cfg, v = .agg c.enc ∧ CfgOk c := by
  obtain ⟨l, rfl, h⟩ := h
  obtain ⟨c, rfl, h2⟩ := ok_cfg (x := l) h
  exact ⟨c, rfl, h2⟩
theorem op_of {s : St} {v : AV} (h : ArgOk s tyOp v) : ∃ m : Sop, v = .agg m.cells ∧ SopOk s m := by
  obtain ⟨l, rfl, h⟩ := h
  obtain ⟨m, rfl, h2⟩ := ok_op (x := l) h
  exact ⟨m, rfl, h2⟩
/-- A row of one op. -/
theorem rds_one {s : St} {p c : Nat} {x : Sop} {lo ro b : Bool} {z : Nat} (hd : Dom s) (hx : SopOk s x) (h : s.get p = some (.cells x.cells lo ro z)) : RdS s (.slice p 0 1 c b) [x] where
  len _ := rfl
  at_ j hj := by
    have : j = 0 := by simpa using hj
    subst this
    exact ⟨p, 0, _, _, _, _, fun s' => by rw [idx1_slice (by omega)], h, hd _ _ h, by rw [hx.len]; omega, by simp [List.take_of_length_le (show x.cells.length ≤ 25 by rw [hx.len]; omega)]⟩
  cells := rfl
  cell := rfl
theorem great_facts {l : List Sop} (h : great l = false) : l.length ≤ 420 ∧ ∀ x ∈ l, x.keys.length ≤ 100 ∧ x.keep.length ≤ 400 := by
  unfold great at h
  rw [Bool.or_eq_false_iff] at h
  refine ⟨by simpa using h.1, fun x hx => ?_⟩
  have := List.any_eq_false.1 h.2 x hx
  unfold bigOp at this
  simp at this
  exact this

theorem OutB.tx {s : St} {N : Nat} {u : AV} {L : List Nat} (h : OutB s N u (L.map u8)) : Tx s u L := by
  intro s' hn n ts hts
  have hev : evOf ts (.t n) = some u := hts
  show (match evOf ts (.t n) with
    | some .nilSlice => some (AV.str .empty, s')
    | some (.tail ..) => some (.str .empty, s')
    | some (.raw (.slice _ 0 _)) => some (.str .empty, s')
    | some (.slice _ _ 0 _ _) => some (.str .empty, s')
    | some (.slice b o len _ _) => match loadA s' b o len with
      | some l => match bytesA l with
        | some bs => some (.str ⟨bs.toArray⟩, s')
        | none => none
      | none => none
    | _ => none) = _
  rw [hev]
  rcases h with ⟨rfl, h⟩ | ⟨p, rfl, h, _⟩ | ⟨p, rfl, h1, h2, h3, h4⟩
  · obtain rfl := List.map_eq_nil_iff.1 h
    rfl
  · obtain rfl := List.map_eq_nil_iff.1 h
    rfl
  · cases L with
    | nil => simp at h1
    | cons c r =>
      have hld : loadA s' p 0 ((c :: r).map u8).length = some ((c :: r).map u8) := by
        unfold loadA
        rw [hn _ _ h4]
        simp [List.take_of_length_le]
      show (match loadA s' p 0 ((c :: r).map u8).length with | some l => (match bytesA l with | some bs => some (AV.str ⟨bs.toArray⟩, s') | none => none) | none => none) = _
      rw [hld]
      simp only [bytesA_u8]
      rfl
theorem argsOk1 {s : St} {T : Ty} {a : List AV} (h : ArgsOk s [T] a) : ∃ x, a = [x] ∧ ArgOk s T x := by
  match a, h with
  | [x], ⟨h1, _⟩ => exact ⟨x, rfl, h1⟩
theorem argsOk3 {s : St} {T U V : Ty} {a : List AV} (h : ArgsOk s [T, U, V] a) : ∃ x y z, a = [x, y, z] ∧ ArgOk s T x ∧ ArgOk s U y ∧ ArgOk s V z := by
  match a, h with
  | [x, y, z], ⟨h1, h2, h3, _⟩ => exact ⟨x, y, z, rfl, h1, h2, h3⟩

theorem scriptBytes_run : ∀ (s : St) (a : List AV), Dom s → ArgsOk s [tyCfg, .slice tyOp, tyOp] a → Wf mm 5 a s fun v _ => v = .bool true := by
  rintro s a hd h
  obtain ⟨vc, v, vo, rfl, h0, h1, h2⟩ := argsOk3 h
  obtain ⟨c, rfl, hc⟩ := cfg_of h0
  obtain ⟨l, b, o, hAc, hl⟩ := ops_of h1
  obtain ⟨x, rfl, hx⟩ := op_of h2
  have hA := Acc.rds hAc
  refine Wf_enter ft5 (sm (by decide)) (by rfl) ?_
  have ft : (false == true) = false := rfl
  have tf : (true == false) = false := rfl
  have hlen := hA.len
  have d1 := dom_new (dom_new hd (.cells c.enc false false 0)) (.cells x.cells false false 0)
  have f1 : Fr s ((s.new (.cells c.enc false false 0)).new (.cells x.cells false false 0)) := by (repeat (first | exact FrX.refl _ _ | exact Fr.refl _ | assumption | exact Fr.x (by assumption) _ | refine FrX.put ?_ (.inl rfl) _ | refine FrX.put ?_ (.inr (by first | omega | (simp; done) | (simp; omega))) _ | refine FrX.new ?_ _ | refine Fr.put ?_ (by first | omega | (simp; done) | (simp; omega)) _ | refine Fr.new ?_ _ | refine FrX.then ?_ (by assumption) | refine Fr.trans ?_ (by assumption)))
  have gx : ((s.new (.cells c.enc false false 0)).new (.cells x.cells false false 0)).get (s.next + 1) = some (.cells x.cells false false 0) := by rw [St.get_new, if_pos (by simp)]
  have gc : ((s.new (.cells c.enc false false 0)).new (.cells x.cells false false 0)).get s.next = some (.cells c.enc false false 0) := by rw [St.get_new, if_neg (by simp), St.get_new, if_pos rfl]
  have hxl : 25 ≤ x.cells.length := by rw [hx.len]; omega
  have ht : x.cells.take 25 = x.cells := List.take_of_length_le (by rw [hx.len]; omega)
  simp -implicitDefEqProofs only [go_sem, Wk_block, Wk_drawnC, reduceCtorEq, Nat.reduceEqDiff, Nat.reduceAdd, Nat.reduceLeDiff, Nat.reduceLT, Nat.reduceMul, Nat.reduceSub, ↓reduceIte, Int.reduceLT, Int.reduceLE, Int.reduceNeg, Int.reduceAdd, Int.reduceEq, Nat.reduceBneDiff, Nat.reduceBEq, Int.reduceToNat, Int.reduceMul, Int.reduceSub, Int.reduceBEq, Int.reduceBNe, fd5, Wl_eq (alive_eq _), ft, tf]
  generalize (s.new (.cells c.enc false false 0)).new (.cells x.cells false false 0) = s1 at d1 f1 gx gc ⊢
  refine Wl_of (great_run l (hA.mono f1) (fun y hy => (hl y hy).mono (fr_keeps f1 hd)) d1) ?_
  rintro _ s2 ⟨rfl, f2, d2⟩
  have gx2 := (fr_keeps f2 d1) _ _ gx
  have gc2 := (fr_keeps f2 d1) _ _ gc
  cases c1 : great l
  rotate_left
  · simp -implicitDefEqProofs only [go_sem, Wk_block, Wk_drawnC, reduceCtorEq, Nat.reduceEqDiff, Nat.reduceAdd, Nat.reduceLeDiff, Nat.reduceLT, Nat.reduceMul, Nat.reduceSub, ↓reduceIte, Int.reduceLT, Int.reduceLE, Int.reduceNeg, Int.reduceAdd, Int.reduceEq, Nat.reduceBneDiff, Nat.reduceBEq, Int.reduceToNat, Int.reduceMul, Int.reduceSub, Int.reduceBEq, Int.reduceBNe, c1, ft, tf]
  simp -implicitDefEqProofs only [go_sem, Wk_block, Wk_drawnC, reduceCtorEq, Nat.reduceEqDiff, Nat.reduceAdd, Nat.reduceLeDiff, Nat.reduceLT, Nat.reduceMul, Nat.reduceSub, ↓reduceIte, Int.reduceLT, Int.reduceLE, Int.reduceNeg, Int.reduceAdd, Int.reduceEq, Nat.reduceBneDiff, Nat.reduceBEq, Int.reduceToNat, Int.reduceMul, Int.reduceSub, Int.reduceBEq, Int.reduceBNe, c1, gx2, hxl, ht, hx.len, List.append_nil, List.drop_succ_cons, List.drop_zero, ft, tf]
  have hx2 := hx.mono (fr_keeps (f1.trans f2) hd)
  have gs : (s2.new (.cells x.cells false false 0)).get s2.next = some (.cells x.cells false false 0) := by rw [St.get_new, if_pos rfl]
  refine Wl_of (great_run [x] (rds_one (dom_new d2 _) (hx2.mono (keeps_new d2 _)) gs) (fun y hy => by rw [List.mem_singleton.1 hy]; exact hx2.mono (keeps_new d2 _)) (dom_new d2 _)) ?_
  rintro _ s3 ⟨rfl, f3, d3⟩
  have f03 : Fr s s3 := (f1.trans f2).trans (((Fr.refl s2).new _).trans f3)
  have gx3 := (fr_keeps f3 (dom_new d2 _)) _ _ (keeps_new d2 (.cells x.cells false false 0) _ _ gx2)
  have gc3 := (fr_keeps f3 (dom_new d2 _)) _ _ (keeps_new d2 (.cells x.cells false false 0) _ _ gc2)
  clear f2 f3 gs hx2 gx2 gc2 gx gc
  cases c2 : great [x]
  rotate_left
  · simp -implicitDefEqProofs only [go_sem, Wk_block, Wk_drawnC, reduceCtorEq, Nat.reduceEqDiff, Nat.reduceAdd, Nat.reduceLeDiff, Nat.reduceLT, Nat.reduceMul, Nat.reduceSub, ↓reduceIte, Int.reduceLT, Int.reduceLE, Int.reduceNeg, Int.reduceAdd, Int.reduceEq, Nat.reduceBneDiff, Nat.reduceBEq, Int.reduceToNat, Int.reduceMul, Int.reduceSub, Int.reduceBEq, Int.reduceBNe, c2, ft, tf]
  obtain ⟨h420, hsz⟩ := great_facts c1
  obtain ⟨-, hxz⟩ := great_facts c2
  have hxz := hxz x (List.mem_singleton.2 rfl)
  simp -implicitDefEqProofs only [go_sem, Wk_block, Wk_drawnC, reduceCtorEq, Nat.reduceEqDiff, Nat.reduceAdd, Nat.reduceLeDiff, Nat.reduceLT, Nat.reduceMul, Nat.reduceSub, ↓reduceIte, Int.reduceLT, Int.reduceLE, Int.reduceNeg, Int.reduceAdd, Int.reduceEq, Nat.reduceBneDiff, Nat.reduceBEq, Int.reduceToNat, Int.reduceMul, Int.reduceSub, Int.reduceBEq, Int.reduceBNe, c2, hlen, ft, tf]
  refine loop_ind (fun m ts s' => ∃ j : Nat, m = l.length - j ∧ j ≤ l.length ∧ ts.get 24 = some (.int .i64 (j : Int)) ∧ ts.get 23 = some (.int .i64 (l.length : Int)) ∧ ts.get 22 = some v ∧ ts.get 5 = some (.ptr (s.next + 1) 0) ∧ ts.get 3 = some (.ptr s.next 0) ∧ ts.get 1 = some v ∧ Fr s s' ∧ Dom s' ∧ s'.get (s.next + 1) = some (.cells x.cells false false 0) ∧ s'.get s.next = some (.cells c.enc false false 0)) ?_ (n := l.length)
    ⟨0, rfl, by omega, by simp only [Tr.get_set, Nat.reduceEqDiff, ↓reduceIte, Int.cast_ofNat_Int], by simp only [Tr.get_set, Nat.reduceEqDiff, ↓reduceIte, Int.cast_ofNat_Int], by simp only [Tr.get_set, Nat.reduceEqDiff, ↓reduceIte, Int.cast_ofNat_Int], by simp only [Tr.get_set, Nat.reduceEqDiff, ↓reduceIte, Int.cast_ofNat_Int], by simp only [Tr.get_set, Nat.reduceEqDiff, ↓reduceIte, Int.cast_ofNat_Int], by simp only [Tr.get_set, Nat.reduceEqDiff, ↓reduceIte, Int.cast_ofNat_Int], f03, d3, gx3, gc3⟩
  clear f03 d3 gx3 gc3
  rintro m ts t0 ⟨j, rfl, hj, g24, g23, g22, g5, g3, g1, f, d, gx, gc⟩ IH
  by_cases hlt : j < l.length
  · have hA1 := hA.mono f
    obtain ⟨b, o, vs, lo, ro, z, hidx, hv, hbl, hle, he⟩ := hA1.at_ j hlt
    have hok := (hl l[j] (List.getElem_mem hlt)).mono (fr_keeps f hd)
    have hz := hsz l[j] (List.getElem_mem hlt)
    generalize l[j] = y at he hok hz
    have wj := succ_in (j := j) (by omega)
    have hty : y.cells.take 25 = y.cells := List.take_of_length_le (by rw [hok.len]; omega)
    have hx0 := hx.mono (fr_keeps f hd)
    have dn : Dom (t0.new (.cells y.cells false false 0)) := dom_new d _
    have kn := keeps_new d (.cells y.cells false false 0)
    have gy : (t0.new (.cells y.cells false false 0)).get t0.next = some (.cells y.cells false false 0) := by rw [St.get_new, if_pos rfl]
    have gxn := kn _ _ gx
    simp -implicitDefEqProofs only [go_sem, Wk_block, Wk_drawnC, reduceCtorEq, Nat.reduceEqDiff, Nat.reduceAdd, Nat.reduceLeDiff, Nat.reduceLT, Nat.reduceMul, Nat.reduceSub, ↓reduceIte, Int.reduceLT, Int.reduceLE, Int.reduceNeg, Int.reduceAdd, Int.reduceEq, Nat.reduceBneDiff, Nat.reduceBEq, Int.reduceToNat, Int.reduceMul, Int.reduceSub, Int.reduceBEq, Int.reduceBNe, g24, g23, g22, g5, g3, g1, hlt, hidx, hv, hle, he, hok.len, hok.cell, hty, gxn, hxl, ht, ft, tf]
    refine Wl_of (Same_run (hok.mono kn) (hx0.mono kn) dn (by omega) (by omega)) ?_
    rintro _ t1 ⟨rfl, fa, da⟩
    have gy1 := (fr_keeps fa dn) _ _ gy
    have gx1 := (fr_keeps fa dn) _ _ gxn
    have ka := fr_keeps fa dn
    simp -implicitDefEqProofs only [go_sem, Wk_block, Wk_drawnC, reduceCtorEq, Nat.reduceEqDiff, Nat.reduceAdd, Nat.reduceLeDiff, Nat.reduceLT, Nat.reduceMul, Nat.reduceSub, ↓reduceIte, Int.reduceLT, Int.reduceLE, Int.reduceNeg, Int.reduceAdd, Int.reduceEq, Nat.reduceBneDiff, Nat.reduceBEq, Int.reduceToNat, Int.reduceMul, Int.reduceSub, Int.reduceBEq, Int.reduceBNe, g5, gy1, gx1, hok.len, hxl, ht, hty, ft, tf]
    refine Wl_of (refSame_run ((hok.mono kn).mono ka) ((hx0.mono kn).mono ka) da (by omega) (by omega)) ?_
    rintro _ t2 ⟨rfl, fb, db⟩
    have gy2 := (fr_keeps fb da) _ _ gy1
    have gx2 := (fr_keeps fb da) _ _ gx1
    have hne : (sameOp y x != sameOp y x) = false := by simp
    simp -implicitDefEqProofs only [go_sem, Wk_block, Wk_drawnC, reduceCtorEq, Nat.reduceEqDiff, Nat.reduceAdd, Nat.reduceLeDiff, Nat.reduceLT, Nat.reduceMul, Nat.reduceSub, ↓reduceIte, Int.reduceLT, Int.reduceLE, Int.reduceNeg, Int.reduceAdd, Int.reduceEq, Nat.reduceBneDiff, Nat.reduceBEq, Int.reduceToNat, Int.reduceMul, Int.reduceSub, Int.reduceBEq, Int.reduceBNe, g24, g23, g22, g5, g3, g1, gy1, gx1, gy2, gx2, gy, gxn, hne, hok.len, hxl, ht, hty, wj, ft, tf]
    refine ⟨by rw [hok.sm, hx.sm]; rfl, ?_⟩
    refine IH (l.length - (j + 1)) _ _ (by omega) ⟨j + 1, rfl, by omega, ?_, ?_, ?_, ?_, ?_, ?_, ((f.new _).trans fa).trans fb, db, gx2, (fr_keeps fb da) _ _ ((fr_keeps fa dn) _ _ (kn _ _ gc))⟩
    · simp only [Tr.get_set, Nat.reduceEqDiff, ↓reduceIte, Int.cast_ofNat_Int]
    · simp only [Tr.get_set, Nat.reduceEqDiff, ↓reduceIte, Int.cast_ofNat_Int, g23]
    · simp only [Tr.get_set, Nat.reduceEqDiff, ↓reduceIte, Int.cast_ofNat_Int, g22]
    · simp only [Tr.get_set, Nat.reduceEqDiff, ↓reduceIte, Int.cast_ofNat_Int, g5]
    · simp only [Tr.get_set, Nat.reduceEqDiff, ↓reduceIte, Int.cast_ofNat_Int, g3]
    · simp only [Tr.get_set, Nat.reduceEqDiff, ↓reduceIte, Int.cast_ofNat_Int, g1]
  · have : j = l.length := by omega
    subst this
    have hlf : decide ((l.length : Int) < (l.length : Int)) = false := decide_eq_false (by omega)
    have hce : 7 ≤ c.enc.length := Nat.le_refl 7
    have hct : List.take 7 c.enc = c.enc := rfl
    simp -implicitDefEqProofs only [go_sem, Wk_block, Wk_drawnC, reduceCtorEq, Nat.reduceEqDiff, Nat.reduceAdd, Nat.reduceLeDiff, Nat.reduceLT, Nat.reduceMul, Nat.reduceSub, ↓reduceIte, Int.reduceLT, Int.reduceLE, Int.reduceNeg, Int.reduceAdd, Int.reduceEq, Nat.reduceBneDiff, Nat.reduceBEq, Int.reduceToNat, Int.reduceMul, Int.reduceSub, Int.reduceBEq, Int.reduceBNe, g24, g23, g22, g5, g3, g1, hlf, hlt, gc, hce, hct, ft, tf]
    have hk1 : ∀ x ∈ l, x.keys.length ≤ 1000 := fun x hx => by have := (hsz x hx).1; omega
    refine Wl_of (Bytes_run c l (hA.mono f) (fun y hy => (hl y hy).mono (fr_keeps f hd)) hk1 d (by omega) hc) ?_
    rintro w1 t1 ⟨ha1, ha2, fa, da⟩
    have gc1 := (fr_keeps fa d) _ _ gc
    have gq1 := f.trans fa
    cases hp : plainS c l
    · rw [ha2 hp]
      simp -implicitDefEqProofs only [go_sem, Wk_block, Wk_drawnC, reduceCtorEq, Nat.reduceEqDiff, Nat.reduceAdd, Nat.reduceLeDiff, Nat.reduceLT, Nat.reduceMul, Nat.reduceSub, ↓reduceIte, Int.reduceLT, Int.reduceLE, Int.reduceNeg, Int.reduceAdd, Int.reduceEq, Nat.reduceBneDiff, Nat.reduceBEq, Int.reduceToNat, Int.reduceMul, Int.reduceSub, Int.reduceBEq, Int.reduceBNe, g3, g1, gc1, hce, hct, ft, tf]
      refine Wl_of (refBytes_run c l (hA.mono gq1) (fun y hy => (hl y hy).mono (fr_keeps gq1 hd)) hk1 da (by omega) hc) ?_
      rintro w2 t2 ⟨hb1, hb2, fb, db⟩
      have gc2 := (fr_keeps fb da) _ _ gc1
      rw [hb2 hp]
      have hsb : strBin BinOp.eql ByteArray.empty ByteArray.empty = some (.bool true) := by
        show some (AV.bool (ByteArray.empty.toList == ByteArray.empty.toList)) = _
        simp
      simp -implicitDefEqProofs only [go_sem, Wk_block, Wk_drawnC, reduceCtorEq, Nat.reduceEqDiff, Nat.reduceAdd, Nat.reduceLeDiff, Nat.reduceLT, Nat.reduceMul, Nat.reduceSub, ↓reduceIte, Int.reduceLT, Int.reduceLE, Int.reduceNeg, Int.reduceAdd, Int.reduceEq, Nat.reduceBneDiff, Nat.reduceBEq, Int.reduceToNat, Int.reduceMul, Int.reduceSub, Int.reduceBEq, Int.reduceBNe, g3, g1, gc2, hce, hct, hsb, ft, tf]
      refine Wl_of (PlainS_run c l (hA.mono (gq1.trans fb)) (fun y hy => (hl y hy).mono (fr_keeps (gq1.trans fb) hd)) hk1 db (by omega)) ?_
      rintro _ t3 ⟨rfl, fe, de⟩
      have gc3 := (fr_keeps fe db) _ _ gc2
      simp -implicitDefEqProofs only [go_sem, Wk_block, Wk_drawnC, reduceCtorEq, Nat.reduceEqDiff, Nat.reduceAdd, Nat.reduceLeDiff, Nat.reduceLT, Nat.reduceMul, Nat.reduceSub, ↓reduceIte, Int.reduceLT, Int.reduceLE, Int.reduceNeg, Int.reduceAdd, Int.reduceEq, Nat.reduceBneDiff, Nat.reduceBEq, Int.reduceToNat, Int.reduceMul, Int.reduceSub, Int.reduceBEq, Int.reduceBNe, g3, g1, gc2, gc3, hce, hct, ft, tf]
      refine Wl_of (refPlain_run c l (hA.mono ((gq1.trans fb).trans fe)) (fun y hy => (hl y hy).mono (fr_keeps ((gq1.trans fb).trans fe) hd)) hk1 de (by omega)) ?_
      rintro _ t4 ⟨rfl, fg, dg⟩
      have gc4 := (fr_keeps fg de) _ _ gc3
      have hps : (plainS c l == plainS c l) = true := by simp
      have hcs : sames c.enc c.enc = true := by simp [Cfg.enc, sames, same]
      simp -implicitDefEqProofs only [go_sem, Wk_block, Wk_drawnC, reduceCtorEq, Nat.reduceEqDiff, Nat.reduceAdd, Nat.reduceLeDiff, Nat.reduceLT, Nat.reduceMul, Nat.reduceSub, ↓reduceIte, Int.reduceLT, Int.reduceLE, Int.reduceNeg, Int.reduceAdd, Int.reduceEq, Nat.reduceBneDiff, Nat.reduceBEq, Int.reduceToNat, Int.reduceMul, Int.reduceSub, Int.reduceBEq, Int.reduceBNe, g3, g1, gc2, gc3, gc4, hce, hct, hps, hcs, ft, tf]
    · obtain ⟨u1, rfl, ho1⟩ := ha1 hp
      simp -implicitDefEqProofs only [go_sem, Wk_block, Wk_drawnC, reduceCtorEq, Nat.reduceEqDiff, Nat.reduceAdd, Nat.reduceLeDiff, Nat.reduceLT, Nat.reduceMul, Nat.reduceSub, ↓reduceIte, Int.reduceLT, Int.reduceLE, Int.reduceNeg, Int.reduceAdd, Int.reduceEq, Nat.reduceBneDiff, Nat.reduceBEq, Int.reduceToNat, Int.reduceMul, Int.reduceSub, Int.reduceBEq, Int.reduceBNe, g3, g1, gc1, hce, hct, ft, tf]
      refine Wl_of (refBytes_run c l (hA.mono gq1) (fun y hy => (hl y hy).mono (fr_keeps gq1 hd)) hk1 da (by omega) hc) ?_
      rintro w2 t2 ⟨hb1, hb2, fb, db⟩
      have gc2 := (fr_keeps fb da) _ _ gc1
      obtain ⟨u2, rfl, ho2⟩ := hb1 hp
      have ht1 := (ho1.tx.mono (fr_keeps fb da)) t2 (fun _ _ h => h) 0 (Tr.lf.set 0 u1) (by simp only [Tr.get_set, Nat.reduceEqDiff, ↓reduceIte, Int.cast_ofNat_Int])
      have ht2 := ho2.tx t2 (fun _ _ h => h) 0 (Tr.lf.set 0 u2) (by simp only [Tr.get_set, Nat.reduceEqDiff, ↓reduceIte, Int.cast_ofNat_Int])
      simp -implicitDefEqProofs only [go_sem, Wk_block, Wk_drawnC, reduceCtorEq, Nat.reduceEqDiff, Nat.reduceAdd, Nat.reduceLeDiff, Nat.reduceLT, Nat.reduceMul, Nat.reduceSub, ↓reduceIte, Int.reduceLT, Int.reduceLE, Int.reduceNeg, Int.reduceAdd, Int.reduceEq, Nat.reduceBneDiff, Nat.reduceBEq, Int.reduceToNat, Int.reduceMul, Int.reduceSub, Int.reduceBEq, Int.reduceBNe, Nat.lt_add_one] at ht1 ht2
      have hsb : strBin BinOp.eql (txt (encA c (l.map Sop.con))) (txt (encA c (l.map Sop.con))) = some (.bool true) := by
        show some (AV.bool ((txt (encA c (l.map Sop.con))).toList == (txt (encA c (l.map Sop.con))).toList)) = _
        simp
      simp -implicitDefEqProofs only [go_sem, Wk_block, Wk_drawnC, reduceCtorEq, Nat.reduceEqDiff, Nat.reduceAdd, Nat.reduceLeDiff, Nat.reduceLT, Nat.reduceMul, Nat.reduceSub, ↓reduceIte, Int.reduceLT, Int.reduceLE, Int.reduceNeg, Int.reduceAdd, Int.reduceEq, Nat.reduceBneDiff, Nat.reduceBEq, Int.reduceToNat, Int.reduceMul, Int.reduceSub, Int.reduceBEq, Int.reduceBNe, g3, g1, gc2, ht1, ht2, hsb, hce, hct, ft, tf]
      refine Wl_of (PlainS_run c l (hA.mono (gq1.trans fb)) (fun y hy => (hl y hy).mono (fr_keeps (gq1.trans fb) hd)) hk1 db (by omega)) ?_
      rintro _ t3 ⟨rfl, fe, de⟩
      have gc3 := (fr_keeps fe db) _ _ gc2
      simp -implicitDefEqProofs only [go_sem, Wk_block, Wk_drawnC, reduceCtorEq, Nat.reduceEqDiff, Nat.reduceAdd, Nat.reduceLeDiff, Nat.reduceLT, Nat.reduceMul, Nat.reduceSub, ↓reduceIte, Int.reduceLT, Int.reduceLE, Int.reduceNeg, Int.reduceAdd, Int.reduceEq, Nat.reduceBneDiff, Nat.reduceBEq, Int.reduceToNat, Int.reduceMul, Int.reduceSub, Int.reduceBEq, Int.reduceBNe, g3, g1, gc2, gc3, hce, hct, ft, tf]
      refine Wl_of (refPlain_run c l (hA.mono ((gq1.trans fb).trans fe)) (fun y hy => (hl y hy).mono (fr_keeps ((gq1.trans fb).trans fe) hd)) hk1 de (by omega)) ?_
      rintro _ t4 ⟨rfl, fg, dg⟩
      have gc4 := (fr_keeps fg de) _ _ gc3
      have hps : (plainS c l == plainS c l) = true := by simp
      have hcs : sames c.enc c.enc = true := by simp [Cfg.enc, sames, same]
      simp -implicitDefEqProofs only [go_sem, Wk_block, Wk_drawnC, reduceCtorEq, Nat.reduceEqDiff, Nat.reduceAdd, Nat.reduceLeDiff, Nat.reduceLT, Nat.reduceMul, Nat.reduceSub, ↓reduceIte, Int.reduceLT, Int.reduceLE, Int.reduceNeg, Int.reduceAdd, Int.reduceEq, Nat.reduceBneDiff, Nat.reduceBEq, Int.reduceToNat, Int.reduceMul, Int.reduceSub, Int.reduceBEq, Int.reduceBNe, g3, g1, gc2, gc3, gc4, hce, hct, hps, hcs, ft, tf]
end Go.Proofs.YteiiblpnegjjlaaGreat.Lw
