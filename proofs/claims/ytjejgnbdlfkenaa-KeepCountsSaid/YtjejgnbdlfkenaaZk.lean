/- keep: the document's word on whether a snapshot is kept.
keep: what the document keeps; whether two lists are the same; whether snapshots rise.
keep: whether snapshots rise; whether a list holds a label.
keep: labels that came in; an answer that grows. -/
import Derived.Test.YtjejgnbdlfkenaaZj
namespace Go.Proofs.Ytjejgnbdlfkenaa
open D Base
set_option linter.unusedSimpArgs false
set_option linter.unusedVariables false
set_option maxRecDepth 10000

theorem lat_len_le (span own : Int) : ∀ (l : List Sn) (acc : List Int), (lat span own l acc).length ≤ acc.length + l.length
  | [], acc => by simp [lat]
  | x :: r, acc => by
    unfold lat
    have := lat_len_le span own r (if x.t.tdiv span > own ∧ x.t.tdiv span ∉ acc then acc ++ [x.t.tdiv span] else acc)
    have h2 : (if x.t.tdiv span > own ∧ x.t.tdiv span ∉ acc then acc ++ [x.t.tdiv span] else acc).length ≤ acc.length + 1 := by
      split
      · simp
      · omega
    simp only [List.length_cons]
    omega
theorem latTake {span own : Int} {l : List Sn} {j : Nat} (hj : j < l.length) : lat span own (l.take (j + 1)) [] = if l[j].t.tdiv span > own ∧ l[j].t.tdiv span ∉ lat span own (l.take j) [] then lat span own (l.take j) [] ++ [l[j].t.tdiv span] else lat span own (l.take j) [] := by
  have h : ∀ (a : List Sn) (x : Sn) (acc : List Int), lat span own (a ++ [x]) acc = if x.t.tdiv span > own ∧ x.t.tdiv span ∉ lat span own a acc then lat span own a acc ++ [x.t.tdiv span] else lat span own a acc := by
    intro a
    induction a with
    | nil => intro x acc; rfl
    | cons y a ih => intro x acc; rw [List.cons_append, lat, ih]; rfl
  rw [List.take_succ_eq_append_getElem hj]
  exact h _ _ _
theorem tdiv_in {t span : Int} (h : 0 ≤ t ∧ t ≤ 4294967295) (hs : 0 < span) : IntKind.u32.wrap (t.tdiv span) = t.tdiv span := by
  have h1 : 0 ≤ t.tdiv span := Int.tdiv_nonneg h.1 (by omega)
  have h2 : t.tdiv span ≤ t := by rw [Int.tdiv_eq_ediv_of_nonneg h.1]; exact Int.ediv_le_self _ h.1
  exact u32_in h1 (by omega)
def lst (L : List Int) : List (List AV) := L.map fun x => [uI x]
theorem kept_run {k : Kp} (hk : KpOk k) {l : List Sn} (hl : l.length ≤ 60) (h0 : ∀ x ∈ l, SnOk x) {v : AV} {s : St} (hR : Rd s v 4 (l.map Sn.enc)) {i : Nat} (hi : i < l.length) :
    Wf mm 19 [.agg k.enc, v, .int .i64 (i : Int)] s fun w s' => w = .bool (keptB k.last k.span k.spans l (l.length - i) l[i]) ∧ Fr s s' := by
  refine Wf_enter ft19 (sm (by decide)) (by rfl) ?_
  have ft : (false == true) = false := rfl
  have tf : (true == false) = false := rfl
  have hlen := hR.len
  rw [List.length_map] at hlen
  have hw := sub_in (i := l.length) (j := i) (by omega) (by omega)
  by_cases hla : ((l.length - i : Nat) : Int) ≤ k.last
  · have c1 : decide (((l.length - i : Nat) : Int) ≤ k.last) = true := decide_eq_true hla
    have hb : keptB k.last k.span k.spans l (l.length - i) l[i] = true := by unfold keptB; rw [c1]; rfl
    rw [hb]
    simp -implicitDefEqProofs only [go_sem, Wk_block, Wk_drawnC, reduceCtorEq, Nat.reduceEqDiff, Nat.reduceAdd, Nat.reduceLeDiff, Nat.reduceLT, Nat.reduceMul, Nat.reduceSub, ↓reduceIte, Int.reduceLT, Int.reduceLE, Int.reduceNeg, Int.reduceAdd, Int.reduceEq, Nat.reduceBneDiff, Nat.reduceBEq, Int.reduceToNat, Int.reduceMul, Int.reduceSub, Int.reduceBEq, Int.reduceBNe, fd19, hlen, hw, c1, ft]
    exact (Fr.refl s).new _
  have c1 : decide (((l.length - i : Nat) : Int) ≤ k.last) = false := decide_eq_false hla
  by_cases hsp : k.span = 0
  · have c2 : (k.span == 0) = true := by simp [hsp]
    have hb : keptB k.last k.span k.spans l (l.length - i) l[i] = false := by unfold keptB; rw [c1]; simp [hsp]
    rw [hb]
    simp -implicitDefEqProofs only [go_sem, Wk_block, Wk_drawnC, reduceCtorEq, Nat.reduceEqDiff, Nat.reduceAdd, Nat.reduceLeDiff, Nat.reduceLT, Nat.reduceMul, Nat.reduceSub, ↓reduceIte, Int.reduceLT, Int.reduceLE, Int.reduceNeg, Int.reduceAdd, Int.reduceEq, Nat.reduceBneDiff, Nat.reduceBEq, Int.reduceToNat, Int.reduceMul, Int.reduceSub, Int.reduceBEq, Int.reduceBNe, fd19, hlen, hw, c1, c2, ft]
    exact (Fr.refl s).new _
  have c2 : (k.span == 0) = false := by simp [hsp]
  have hsp0 : 0 < k.span := by have := hk.span.1; omega
  have hb : keptB k.last k.span k.spans l (l.length - i) l[i] = (lastIn k.span l l[i] && decide (((lat k.span (l[i].t.tdiv k.span) l []).length : Int) < k.spans)) := by unfold keptB; rw [c1]; simp [hsp]
  rw [hb]
  clear hb
  obtain ⟨a, ha⟩ : ∃ a, s.next = a := ⟨_, rfl⟩
  have f0 : Fr s (s.new (.cells k.enc false false 0)) := (Fr.refl s).new _
  have ga : (s.new (.cells k.enc false false 0)).get a = some (.cells k.enc false false 0) := by rw [St.get_new, if_pos ha.symm]
  have hni : i < (l.map Sn.enc).length := by rw [List.length_map]; exact hi
  obtain ⟨b, o, vs, lo2, ro, z, hidx, hgs, hle, heq, hbs⟩ := hR.at_ hni
  have hg := (f0.get b hbs).trans hgs
  rw [List.getElem_map] at heq
  have hti := (h0 l[i] (List.getElem_mem hi)).t
  have wq := tdiv_in hti hsp0
  have e3 : vs[o + (i * 4 + 3)]? = some (.int .u32 l[i].t) := by
    have := congrArg (fun l => l[3]?) heq
    simp only [List.getElem?_take, List.getElem?_drop, Sn.enc] at this
    rw [← Nat.add_assoc]
    simpa using this
  simp -implicitDefEqProofs only [go_sem, Wk_block, Wk_drawnC, reduceCtorEq, Nat.reduceEqDiff, Nat.reduceAdd, Nat.reduceLeDiff, Nat.reduceLT, Nat.reduceMul, Nat.reduceSub, ↓reduceIte, Int.reduceLT, Int.reduceLE, Int.reduceNeg, Int.reduceAdd, Int.reduceEq, Nat.reduceBneDiff, Nat.reduceBEq, Int.reduceToNat, Int.reduceMul, Int.reduceSub, Int.reduceBEq, Int.reduceBNe, fd19, hlen, hw, c1, c2, ha, hidx, hg, e3, wq, hsp, ft]
  obtain ⟨own, hown⟩ : ∃ x, l[i].t.tdiv k.span = x := ⟨_, rfl⟩
  have hlab : (vs.drop (o + i * 4)).take 2 = [.int .u32 l[i].l.e, .int .u32 l[i].l.q] := by
    have := congrArg (List.take 2) heq
    rw [List.take_take] at this
    exact this
  have hle2 : o + i * 4 + 2 ≤ vs.length := by omega
  have hle3 : o + (i * 4 + 2) ≤ vs.length := by omega
  rw [hown]
  have f0' : Fr s ((s.new (.cells k.enc false false 0)).new (.cells [] false false 0)) := f0.new _
  have ga' : ((s.new (.cells k.enc false false 0)).new (.cells [] false false 0)).get a = some (.cells k.enc false false 0) := by rw [St.get_new, if_neg (by rw [St.next_new]; omega)]; exact ga
  have gl' : OutG ((s.new (.cells k.enc false false 0)).new (.cells [] false false 0)) (a + 1) (.slice (a + 1) 0 0 0 false) 1 (lst []) := .inl ⟨a + 1, rfl, rfl, Nat.le_refl _, by simp only [St.next_new]; omega, by rw [St.get_new, if_pos (by rw [St.next_new, ha])]⟩
  have hn' : a + 1 ≤ ((s.new (.cells k.enc false false 0)).new (.cells [] false false 0)).next := by simp only [St.next_new]; omega
  generalize (s.new (.cells k.enc false false 0)).new (.cells [] false false 0) = s0 at f0' ga' gl' hn' ⊢
  refine loop_ind (fun m ts s' => ∃ (j : Nat) (w : AV), m = l.length - j ∧ j ≤ l.length ∧ ts.get 36 = some (.int .i64 (j : Int)) ∧ ts.get 35 = some (.int .i64 (l.length : Int)) ∧ ts.get 34 = some (v) ∧ ts.get 1 = some (v) ∧ ts.get 2 = some (.int .i64 (i : Int)) ∧ ts.get 3 = some (.ptr a 0) ∧ ts.get 7 = some (.int .u32 own) ∧ ts.get 8 = some (w) ∧ OutG s' (a + 1) w 1 (lst (lat k.span own (l.take j) [])) ∧ s'.get a = some (.cells k.enc false false 0) ∧ Fr s s' ∧ a + 1 ≤ s'.next ∧
    (∀ y ∈ l.take j, ¬ (y.t.tdiv k.span = own ∧ l[i].l.lt y.l))) ?_ (n := l.length)
    ⟨0, .slice (a + 1) 0 0 0 false, rfl, by omega, by simp only [go_sem, Wk_block, Wk_drawnC, reduceCtorEq, Nat.reduceEqDiff, Nat.reduceAdd, Nat.reduceLeDiff, Nat.reduceLT, Nat.reduceMul, Nat.reduceSub, ↓reduceIte, Int.reduceLT, Int.reduceLE, Int.reduceNeg, Int.reduceAdd, Int.reduceEq, Nat.reduceBneDiff, Nat.reduceBEq, Int.reduceToNat, Int.reduceMul, Int.reduceSub, Int.reduceBEq, Int.reduceBNe], by simp only [go_sem, Wk_block, Wk_drawnC, reduceCtorEq, Nat.reduceEqDiff, Nat.reduceAdd, Nat.reduceLeDiff, Nat.reduceLT, Nat.reduceMul, Nat.reduceSub, ↓reduceIte, Int.reduceLT, Int.reduceLE, Int.reduceNeg, Int.reduceAdd, Int.reduceEq, Nat.reduceBneDiff, Nat.reduceBEq, Int.reduceToNat, Int.reduceMul, Int.reduceSub, Int.reduceBEq, Int.reduceBNe], by simp only [go_sem, Wk_block, Wk_drawnC, reduceCtorEq, Nat.reduceEqDiff, Nat.reduceAdd, Nat.reduceLeDiff, Nat.reduceLT, Nat.reduceMul, Nat.reduceSub, ↓reduceIte, Int.reduceLT, Int.reduceLE, Int.reduceNeg, Int.reduceAdd, Int.reduceEq, Nat.reduceBneDiff, Nat.reduceBEq, Int.reduceToNat, Int.reduceMul, Int.reduceSub, Int.reduceBEq, Int.reduceBNe], by simp only [go_sem, Wk_block, Wk_drawnC, reduceCtorEq, Nat.reduceEqDiff, Nat.reduceAdd, Nat.reduceLeDiff, Nat.reduceLT, Nat.reduceMul, Nat.reduceSub, ↓reduceIte, Int.reduceLT, Int.reduceLE, Int.reduceNeg, Int.reduceAdd, Int.reduceEq, Nat.reduceBneDiff, Nat.reduceBEq, Int.reduceToNat, Int.reduceMul, Int.reduceSub, Int.reduceBEq, Int.reduceBNe], by simp only [go_sem, Wk_block, Wk_drawnC, reduceCtorEq, Nat.reduceEqDiff, Nat.reduceAdd, Nat.reduceLeDiff, Nat.reduceLT, Nat.reduceMul, Nat.reduceSub, ↓reduceIte, Int.reduceLT, Int.reduceLE, Int.reduceNeg, Int.reduceAdd, Int.reduceEq, Nat.reduceBneDiff, Nat.reduceBEq, Int.reduceToNat, Int.reduceMul, Int.reduceSub, Int.reduceBEq, Int.reduceBNe], by simp only [go_sem, Wk_block, Wk_drawnC, reduceCtorEq, Nat.reduceEqDiff, Nat.reduceAdd, Nat.reduceLeDiff, Nat.reduceLT, Nat.reduceMul, Nat.reduceSub, ↓reduceIte, Int.reduceLT, Int.reduceLE, Int.reduceNeg, Int.reduceAdd, Int.reduceEq, Nat.reduceBneDiff, Nat.reduceBEq, Int.reduceToNat, Int.reduceMul, Int.reduceSub, Int.reduceBEq, Int.reduceBNe], by simp only [go_sem, Wk_block, Wk_drawnC, reduceCtorEq, Nat.reduceEqDiff, Nat.reduceAdd, Nat.reduceLeDiff, Nat.reduceLT, Nat.reduceMul, Nat.reduceSub, ↓reduceIte, Int.reduceLT, Int.reduceLE, Int.reduceNeg, Int.reduceAdd, Int.reduceEq, Nat.reduceBneDiff, Nat.reduceBEq, Int.reduceToNat, Int.reduceMul, Int.reduceSub, Int.reduceBEq, Int.reduceBNe], by simp only [go_sem, Wk_block, Wk_drawnC, reduceCtorEq, Nat.reduceEqDiff, Nat.reduceAdd, Nat.reduceLeDiff, Nat.reduceLT, Nat.reduceMul, Nat.reduceSub, ↓reduceIte, Int.reduceLT, Int.reduceLE, Int.reduceNeg, Int.reduceAdd, Int.reduceEq, Nat.reduceBneDiff, Nat.reduceBEq, Int.reduceToNat, Int.reduceMul, Int.reduceSub, Int.reduceBEq, Int.reduceBNe], gl', ga', f0', hn', by simp⟩
  rintro _ ts s1 ⟨j, w, rfl, hj, g36, g35, g34, g1, g2, g3, g7, g8, ho, ga1, f1, hn1, hlast⟩ IH
  by_cases hlt : j < l.length
  rotate_left
  · have hje : j = l.length := by omega
    have hli : lastIn k.span l l[i] = true := by
      unfold lastIn
      rw [Bool.not_eq_true', List.any_eq_false]
      intro y hy
      have := hlast y (by rw [hje, List.take_length]; exact hy)
      rw [hown]
      simpa using this
    rw [hje, List.take_length] at ho
    have hol := ho.len
    unfold lst at hol
    rw [List.length_map] at hol
    rw [hli, Bool.true_and]
    simp -implicitDefEqProofs only [go_sem, Wk_block, Wk_drawnC, reduceCtorEq, Nat.reduceEqDiff, Nat.reduceAdd, Nat.reduceLeDiff, Nat.reduceLT, Nat.reduceMul, Nat.reduceSub, ↓reduceIte, Int.reduceLT, Int.reduceLE, Int.reduceNeg, Int.reduceAdd, Int.reduceEq, Nat.reduceBneDiff, Nat.reduceBEq, Int.reduceToNat, Int.reduceMul, Int.reduceSub, Int.reduceBEq, Int.reduceBNe, g36, g35, g34, g1, g2, g3, g7, g8, hlt, hol, ga1, ft]
    exact f1
  have hjl : j < (l.map Sn.enc).length := by rw [List.length_map]; exact hlt
  obtain ⟨b1, o1, vs1, lo3, ro1, z1, hidx1, hg1, hle1, heq1, hbl1⟩ := (hR.mono f1).at_ hjl
  rw [List.getElem_map] at heq1
  have hg2 := (f1.get b hbs).trans hgs
  have w36 := succ_in (j := j) (by omega)
  have htk := latTake (span := k.span) (own := own) hlt
  have htj := (h0 l[j] (List.getElem_mem hlt)).t
  have wj := tdiv_in htj hsp0
  have hlj : l.take (j + 1) = l.take j ++ [l[j]] := List.take_succ_eq_append_getElem hlt
  have hmem := List.getElem_mem hlt
  generalize l[j] = x at heq1 htk htj wj hlj hmem
  obtain ⟨oth, hoth⟩ : ∃ y, x.t.tdiv k.span = y := ⟨_, rfl⟩
  rw [hoth] at wj htk
  have hll := lat_len_le k.span own (l.take j) []
  rw [List.length_take, List.length_nil] at hll
  generalize lat k.span own (l.take j) [] = L at ho htk hll
  have heq2 := heq1
  unfold Sn.enc at heq2
  have hle4 : o1 + (j * 4 + 4) ≤ vs1.length := by omega
  have hne : ¬ a = s1.next := by omega
  have g0s : ∀ O : AObj, (s1.new O).get b = some (.cells vs lo2 ro z) := fun O => by rw [St.get_new, if_neg (by have := f1.le; omega)]; exact hg2
  have f5 : Fr s (s1.new (.cells [.int .u32 x.l.e, .int .u32 x.l.q, .int .i64 x.r, .int .u32 x.t] false false 0)) := f1.new _
  have hL1 : ∀ x ∈ lst L, x.length = 1 := by
    intro x hx
    unfold lst at hx
    obtain ⟨y, _, rfl⟩ := List.mem_map.1 hx
    rfl
  have hlstl : (lst L).length = L.length := by unfold lst; rw [List.length_map]
  have hol := ho.len
  rw [hlstl] at hol
  have hce := ho.cell
  by_cases heqo : oth = own
  · have ce : (oth == own) = true := by simp [heqo]
    have cg : decide (oth > own) = false := decide_eq_false (by omega)
    have cg2 : decide (own < oth) = false := decide_eq_false (by omega)
    have htk2 : lat k.span own (l.take (j + 1)) [] = L := by rw [htk, if_neg (by omega)]
    simp -implicitDefEqProofs only [go_sem, Wk_block, Wk_drawnC, reduceCtorEq, Nat.reduceEqDiff, Nat.reduceAdd, Nat.reduceLeDiff, Nat.reduceLT, Nat.reduceMul, Nat.reduceSub, ↓reduceIte, Int.reduceLT, Int.reduceLE, Int.reduceNeg, Int.reduceAdd, Int.reduceEq, Nat.reduceBneDiff, Nat.reduceBEq, Int.reduceToNat, Int.reduceMul, Int.reduceSub, Int.reduceBEq, Int.reduceBNe, g36, g35, g34, g1, g2, g3, g7, g8, hlt, hidx1, hg1, hle1, hle4, heq2, wj, hoth, ga1, hne, w36, hsp, ce, hidx, g0s, hlab, hle2, hle3, ft, tf]
    refine Wl_of (Less_run l[i].l x.l _) ?_
    rintro w9 s5 ⟨rfl, f9⟩
    have hF5 := f5.trans f9
    have hga5 := (f9.get a (by rw [St.next_new]; omega)).trans ((St.get_new _ _ _).trans ((if_neg hne).trans ga1))
    have hN5 : a + 1 ≤ s5.next := by have := f9.le; rw [St.next_new] at this; omega
    have hoL := (ho.fr ((Fr.refl s1).new (.cells [.int .u32 x.l.e, .int .u32 x.l.q, .int .i64 x.r, .int .u32 x.t] false false 0))).fr f9
    have hRL := hoL.rd hL1 (by rw [hlstl]; unfold maxLen; omega)
    cases hls : decide (l[i].l.lt x.l)
    rotate_left
    · have hli : lastIn k.span l l[i] = false := by
        unfold lastIn
        rw [Bool.not_eq_false', List.any_eq_true]
        exact ⟨x, hmem, by rw [hown, hoth, heqo, hls]; simp⟩
      rw [hli, Bool.false_and]
      simp -implicitDefEqProofs only [go_sem, Wk_block, Wk_drawnC, reduceCtorEq, Nat.reduceEqDiff, Nat.reduceAdd, Nat.reduceLeDiff, Nat.reduceLT, Nat.reduceMul, Nat.reduceSub, ↓reduceIte, Int.reduceLT, Int.reduceLE, Int.reduceNeg, Int.reduceAdd, Int.reduceEq, Nat.reduceBneDiff, Nat.reduceBEq, Int.reduceToNat, Int.reduceMul, Int.reduceSub, Int.reduceBEq, Int.reduceBNe, hls, ft]
      exact hF5
    have hlast2 : ∀ y ∈ l.take (j + 1), ¬ (y.t.tdiv k.span = own ∧ l[i].l.lt y.l) := by
      intro y hy
      rw [hlj] at hy
      rcases List.mem_append.1 hy with hy | hy
      · exact hlast y hy
      · rw [List.mem_singleton.1 hy]
        exact fun h => of_decide_eq_false hls h.2
    simp -implicitDefEqProofs only [go_sem, Wk_block, Wk_drawnC, reduceCtorEq, Nat.reduceEqDiff, Nat.reduceAdd, Nat.reduceLeDiff, Nat.reduceLT, Nat.reduceMul, Nat.reduceSub, ↓reduceIte, Int.reduceLT, Int.reduceLE, Int.reduceNeg, Int.reduceAdd, Int.reduceEq, Nat.reduceBneDiff, Nat.reduceBEq, Int.reduceToNat, Int.reduceMul, Int.reduceSub, Int.reduceBEq, Int.reduceBNe, g36, g35, g34, g1, g2, g3, g7, g8, hls, hol, ft]
    refine Wk_loop_post (fun ts s' => ts.get 36 = some (.int .i64 (j : Int)) ∧ ts.get 35 = some (.int .i64 (l.length : Int)) ∧ ts.get 34 = some (v) ∧ ts.get 1 = some (v) ∧ ts.get 2 = some (.int .i64 (i : Int)) ∧ ts.get 3 = some (.ptr a 0) ∧ ts.get 7 = some (.int .u32 own) ∧ ts.get 8 = some (w) ∧ ts.get 11 = some (.int .u32 oth) ∧ ts.get 12 = some (.bool (decide (oth ∈ L))) ∧ s5 = s') ?_ ?_
    · refine loop_ind (fun m ts s' => ∃ e : Nat, m = L.length - e ∧ e ≤ L.length ∧ ts.get 60 = some (.int .i64 (e : Int)) ∧ ts.get 59 = some (.int .i64 (L.length : Int)) ∧ ts.get 58 = some w ∧ ts.get 36 = some (.int .i64 (j : Int)) ∧ ts.get 35 = some (.int .i64 (l.length : Int)) ∧ ts.get 34 = some (v) ∧ ts.get 1 = some (v) ∧ ts.get 2 = some (.int .i64 (i : Int)) ∧ ts.get 3 = some (.ptr a 0) ∧ ts.get 7 = some (.int .u32 own) ∧ ts.get 8 = some (w) ∧ ts.get 11 = some (.int .u32 oth) ∧ ts.get 12 = some (.bool (decide (oth ∈ L.take e))) ∧ s5 = s') ?_ (n := L.length)
        ⟨0, rfl, by omega, by simp only [go_sem, Wk_block, Wk_drawnC, reduceCtorEq, Nat.reduceEqDiff, Nat.reduceAdd, Nat.reduceLeDiff, Nat.reduceLT, Nat.reduceMul, Nat.reduceSub, ↓reduceIte, Int.reduceLT, Int.reduceLE, Int.reduceNeg, Int.reduceAdd, Int.reduceEq, Nat.reduceBneDiff, Nat.reduceBEq, Int.reduceToNat, Int.reduceMul, Int.reduceSub, Int.reduceBEq, Int.reduceBNe], by simp only [go_sem, Wk_block, Wk_drawnC, reduceCtorEq, Nat.reduceEqDiff, Nat.reduceAdd, Nat.reduceLeDiff, Nat.reduceLT, Nat.reduceMul, Nat.reduceSub, ↓reduceIte, Int.reduceLT, Int.reduceLE, Int.reduceNeg, Int.reduceAdd, Int.reduceEq, Nat.reduceBneDiff, Nat.reduceBEq, Int.reduceToNat, Int.reduceMul, Int.reduceSub, Int.reduceBEq, Int.reduceBNe], by simp only [go_sem, Wk_block, Wk_drawnC, reduceCtorEq, Nat.reduceEqDiff, Nat.reduceAdd, Nat.reduceLeDiff, Nat.reduceLT, Nat.reduceMul, Nat.reduceSub, ↓reduceIte, Int.reduceLT, Int.reduceLE, Int.reduceNeg, Int.reduceAdd, Int.reduceEq, Nat.reduceBneDiff, Nat.reduceBEq, Int.reduceToNat, Int.reduceMul, Int.reduceSub, Int.reduceBEq, Int.reduceBNe], by simp only [go_sem, Wk_block, Wk_drawnC, reduceCtorEq, Nat.reduceEqDiff, Nat.reduceAdd, Nat.reduceLeDiff, Nat.reduceLT, Nat.reduceMul, Nat.reduceSub, ↓reduceIte, Int.reduceLT, Int.reduceLE, Int.reduceNeg, Int.reduceAdd, Int.reduceEq, Nat.reduceBneDiff, Nat.reduceBEq, Int.reduceToNat, Int.reduceMul, Int.reduceSub, Int.reduceBEq, Int.reduceBNe, g36], by simp only [go_sem, Wk_block, Wk_drawnC, reduceCtorEq, Nat.reduceEqDiff, Nat.reduceAdd, Nat.reduceLeDiff, Nat.reduceLT, Nat.reduceMul, Nat.reduceSub, ↓reduceIte, Int.reduceLT, Int.reduceLE, Int.reduceNeg, Int.reduceAdd, Int.reduceEq, Nat.reduceBneDiff, Nat.reduceBEq, Int.reduceToNat, Int.reduceMul, Int.reduceSub, Int.reduceBEq, Int.reduceBNe, g35], by simp only [go_sem, Wk_block, Wk_drawnC, reduceCtorEq, Nat.reduceEqDiff, Nat.reduceAdd, Nat.reduceLeDiff, Nat.reduceLT, Nat.reduceMul, Nat.reduceSub, ↓reduceIte, Int.reduceLT, Int.reduceLE, Int.reduceNeg, Int.reduceAdd, Int.reduceEq, Nat.reduceBneDiff, Nat.reduceBEq, Int.reduceToNat, Int.reduceMul, Int.reduceSub, Int.reduceBEq, Int.reduceBNe, g34], by simp only [go_sem, Wk_block, Wk_drawnC, reduceCtorEq, Nat.reduceEqDiff, Nat.reduceAdd, Nat.reduceLeDiff, Nat.reduceLT, Nat.reduceMul, Nat.reduceSub, ↓reduceIte, Int.reduceLT, Int.reduceLE, Int.reduceNeg, Int.reduceAdd, Int.reduceEq, Nat.reduceBneDiff, Nat.reduceBEq, Int.reduceToNat, Int.reduceMul, Int.reduceSub, Int.reduceBEq, Int.reduceBNe, g1], by simp only [go_sem, Wk_block, Wk_drawnC, reduceCtorEq, Nat.reduceEqDiff, Nat.reduceAdd, Nat.reduceLeDiff, Nat.reduceLT, Nat.reduceMul, Nat.reduceSub, ↓reduceIte, Int.reduceLT, Int.reduceLE, Int.reduceNeg, Int.reduceAdd, Int.reduceEq, Nat.reduceBneDiff, Nat.reduceBEq, Int.reduceToNat, Int.reduceMul, Int.reduceSub, Int.reduceBEq, Int.reduceBNe, g2], by simp only [go_sem, Wk_block, Wk_drawnC, reduceCtorEq, Nat.reduceEqDiff, Nat.reduceAdd, Nat.reduceLeDiff, Nat.reduceLT, Nat.reduceMul, Nat.reduceSub, ↓reduceIte, Int.reduceLT, Int.reduceLE, Int.reduceNeg, Int.reduceAdd, Int.reduceEq, Nat.reduceBneDiff, Nat.reduceBEq, Int.reduceToNat, Int.reduceMul, Int.reduceSub, Int.reduceBEq, Int.reduceBNe, g3], by simp only [go_sem, Wk_block, Wk_drawnC, reduceCtorEq, Nat.reduceEqDiff, Nat.reduceAdd, Nat.reduceLeDiff, Nat.reduceLT, Nat.reduceMul, Nat.reduceSub, ↓reduceIte, Int.reduceLT, Int.reduceLE, Int.reduceNeg, Int.reduceAdd, Int.reduceEq, Nat.reduceBneDiff, Nat.reduceBEq, Int.reduceToNat, Int.reduceMul, Int.reduceSub, Int.reduceBEq, Int.reduceBNe, g7], by simp only [go_sem, Wk_block, Wk_drawnC, reduceCtorEq, Nat.reduceEqDiff, Nat.reduceAdd, Nat.reduceLeDiff, Nat.reduceLT, Nat.reduceMul, Nat.reduceSub, ↓reduceIte, Int.reduceLT, Int.reduceLE, Int.reduceNeg, Int.reduceAdd, Int.reduceEq, Nat.reduceBneDiff, Nat.reduceBEq, Int.reduceToNat, Int.reduceMul, Int.reduceSub, Int.reduceBEq, Int.reduceBNe, g8], by simp only [go_sem, Wk_block, Wk_drawnC, reduceCtorEq, Nat.reduceEqDiff, Nat.reduceAdd, Nat.reduceLeDiff, Nat.reduceLT, Nat.reduceMul, Nat.reduceSub, ↓reduceIte, Int.reduceLT, Int.reduceLE, Int.reduceNeg, Int.reduceAdd, Int.reduceEq, Nat.reduceBneDiff, Nat.reduceBEq, Int.reduceToNat, Int.reduceMul, Int.reduceSub, Int.reduceBEq, Int.reduceBNe], by simp only [go_sem, Wk_block, Wk_drawnC, reduceCtorEq, Nat.reduceEqDiff, Nat.reduceAdd, Nat.reduceLeDiff, Nat.reduceLT, Nat.reduceMul, Nat.reduceSub, ↓reduceIte, Int.reduceLT, Int.reduceLE, Int.reduceNeg, Int.reduceAdd, Int.reduceEq, Nat.reduceBneDiff, Nat.reduceBEq, Int.reduceToNat, Int.reduceMul, Int.reduceSub, Int.reduceBEq, Int.reduceBNe, List.take_zero, List.not_mem_nil, decide_false], rfl⟩
      clear g36 g35 g34 g1 g2 g3 g7 g8
      rintro _ ts s6 ⟨e, rfl, he, g60, g59, g58, g36, g35, g34, g1, g2, g3, g7, g8, g11, g12, rfl⟩ IH2
      by_cases hel : e < L.length
      · have helm : e < (lst L).length := by unfold lst; rw [List.length_map]; exact hel
        obtain ⟨b6, o6, vs6, lo6, ro6, z6, hidx6, hg6, hle6, heq6, hbl6⟩ := hRL.at_ helm
        have hy : (lst L)[e] = [uI L[e]] := by simp [lst]
        rw [hy] at heq6
        have e6 : vs6[o6 + e * 1]? = some (.int .u32 L[e]) := by
          have := congrArg (fun l => l[0]?) heq6
          simpa [List.getElem?_take, List.getElem?_drop, uI] using this
        have w60 := succ_in (j := e) (by omega)
        have hiff : oth ∈ L.take (e + 1) ↔ oth ∈ L.take e ∨ L[e] = oth := by
          rw [List.take_succ_eq_append_getElem hel, List.mem_append, List.mem_singleton]
          exact or_congr_right eq_comm
        have htk : decide (oth ∈ L.take (e + 1)) = (decide (oth ∈ L.take e) || (L[e] == oth)) := by
          rw [Bool.eq_iff_iff]
          simp only [decide_eq_true_eq, Bool.or_eq_true, beq_iff_eq]
          exact hiff
        cases hm : decide (oth ∈ L.take e)
        · rw [hm] at g12 htk
          rw [Bool.false_or] at htk
          simp -implicitDefEqProofs only [go_sem, Wk_block, Wk_drawnC, reduceCtorEq, Nat.reduceEqDiff, Nat.reduceAdd, Nat.reduceLeDiff, Nat.reduceLT, Nat.reduceMul, Nat.reduceSub, ↓reduceIte, Int.reduceLT, Int.reduceLE, Int.reduceNeg, Int.reduceAdd, Int.reduceEq, Nat.reduceBneDiff, Nat.reduceBEq, Int.reduceToNat, Int.reduceMul, Int.reduceSub, Int.reduceBEq, Int.reduceBNe, g60, g59, g58, g36, g35, g34, g1, g2, g3, g7, g8, g11, g12, hel, hidx6, hg6, e6, w60, ft, tf]
          exact IH2 (L.length - (e + 1)) _ _ (by omega) ⟨e + 1, rfl, by omega, by simp only [go_sem, Wk_block, Wk_drawnC, reduceCtorEq, Nat.reduceEqDiff, Nat.reduceAdd, Nat.reduceLeDiff, Nat.reduceLT, Nat.reduceMul, Nat.reduceSub, ↓reduceIte, Int.reduceLT, Int.reduceLE, Int.reduceNeg, Int.reduceAdd, Int.reduceEq, Nat.reduceBneDiff, Nat.reduceBEq, Int.reduceToNat, Int.reduceMul, Int.reduceSub, Int.reduceBEq, Int.reduceBNe], by simp only [go_sem, Wk_block, Wk_drawnC, reduceCtorEq, Nat.reduceEqDiff, Nat.reduceAdd, Nat.reduceLeDiff, Nat.reduceLT, Nat.reduceMul, Nat.reduceSub, ↓reduceIte, Int.reduceLT, Int.reduceLE, Int.reduceNeg, Int.reduceAdd, Int.reduceEq, Nat.reduceBneDiff, Nat.reduceBEq, Int.reduceToNat, Int.reduceMul, Int.reduceSub, Int.reduceBEq, Int.reduceBNe, g59], by simp only [go_sem, Wk_block, Wk_drawnC, reduceCtorEq, Nat.reduceEqDiff, Nat.reduceAdd, Nat.reduceLeDiff, Nat.reduceLT, Nat.reduceMul, Nat.reduceSub, ↓reduceIte, Int.reduceLT, Int.reduceLE, Int.reduceNeg, Int.reduceAdd, Int.reduceEq, Nat.reduceBneDiff, Nat.reduceBEq, Int.reduceToNat, Int.reduceMul, Int.reduceSub, Int.reduceBEq, Int.reduceBNe, g58], by simp only [go_sem, Wk_block, Wk_drawnC, reduceCtorEq, Nat.reduceEqDiff, Nat.reduceAdd, Nat.reduceLeDiff, Nat.reduceLT, Nat.reduceMul, Nat.reduceSub, ↓reduceIte, Int.reduceLT, Int.reduceLE, Int.reduceNeg, Int.reduceAdd, Int.reduceEq, Nat.reduceBneDiff, Nat.reduceBEq, Int.reduceToNat, Int.reduceMul, Int.reduceSub, Int.reduceBEq, Int.reduceBNe, g36], by simp only [go_sem, Wk_block, Wk_drawnC, reduceCtorEq, Nat.reduceEqDiff, Nat.reduceAdd, Nat.reduceLeDiff, Nat.reduceLT, Nat.reduceMul, Nat.reduceSub, ↓reduceIte, Int.reduceLT, Int.reduceLE, Int.reduceNeg, Int.reduceAdd, Int.reduceEq, Nat.reduceBneDiff, Nat.reduceBEq, Int.reduceToNat, Int.reduceMul, Int.reduceSub, Int.reduceBEq, Int.reduceBNe, g35], by simp only [go_sem, Wk_block, Wk_drawnC, reduceCtorEq, Nat.reduceEqDiff, Nat.reduceAdd, Nat.reduceLeDiff, Nat.reduceLT, Nat.reduceMul, Nat.reduceSub, ↓reduceIte, Int.reduceLT, Int.reduceLE, Int.reduceNeg, Int.reduceAdd, Int.reduceEq, Nat.reduceBneDiff, Nat.reduceBEq, Int.reduceToNat, Int.reduceMul, Int.reduceSub, Int.reduceBEq, Int.reduceBNe, g34], by simp only [go_sem, Wk_block, Wk_drawnC, reduceCtorEq, Nat.reduceEqDiff, Nat.reduceAdd, Nat.reduceLeDiff, Nat.reduceLT, Nat.reduceMul, Nat.reduceSub, ↓reduceIte, Int.reduceLT, Int.reduceLE, Int.reduceNeg, Int.reduceAdd, Int.reduceEq, Nat.reduceBneDiff, Nat.reduceBEq, Int.reduceToNat, Int.reduceMul, Int.reduceSub, Int.reduceBEq, Int.reduceBNe, g1], by simp only [go_sem, Wk_block, Wk_drawnC, reduceCtorEq, Nat.reduceEqDiff, Nat.reduceAdd, Nat.reduceLeDiff, Nat.reduceLT, Nat.reduceMul, Nat.reduceSub, ↓reduceIte, Int.reduceLT, Int.reduceLE, Int.reduceNeg, Int.reduceAdd, Int.reduceEq, Nat.reduceBneDiff, Nat.reduceBEq, Int.reduceToNat, Int.reduceMul, Int.reduceSub, Int.reduceBEq, Int.reduceBNe, g2], by simp only [go_sem, Wk_block, Wk_drawnC, reduceCtorEq, Nat.reduceEqDiff, Nat.reduceAdd, Nat.reduceLeDiff, Nat.reduceLT, Nat.reduceMul, Nat.reduceSub, ↓reduceIte, Int.reduceLT, Int.reduceLE, Int.reduceNeg, Int.reduceAdd, Int.reduceEq, Nat.reduceBneDiff, Nat.reduceBEq, Int.reduceToNat, Int.reduceMul, Int.reduceSub, Int.reduceBEq, Int.reduceBNe, g3], by simp only [go_sem, Wk_block, Wk_drawnC, reduceCtorEq, Nat.reduceEqDiff, Nat.reduceAdd, Nat.reduceLeDiff, Nat.reduceLT, Nat.reduceMul, Nat.reduceSub, ↓reduceIte, Int.reduceLT, Int.reduceLE, Int.reduceNeg, Int.reduceAdd, Int.reduceEq, Nat.reduceBneDiff, Nat.reduceBEq, Int.reduceToNat, Int.reduceMul, Int.reduceSub, Int.reduceBEq, Int.reduceBNe, g7], by simp only [go_sem, Wk_block, Wk_drawnC, reduceCtorEq, Nat.reduceEqDiff, Nat.reduceAdd, Nat.reduceLeDiff, Nat.reduceLT, Nat.reduceMul, Nat.reduceSub, ↓reduceIte, Int.reduceLT, Int.reduceLE, Int.reduceNeg, Int.reduceAdd, Int.reduceEq, Nat.reduceBneDiff, Nat.reduceBEq, Int.reduceToNat, Int.reduceMul, Int.reduceSub, Int.reduceBEq, Int.reduceBNe, g8], by simp only [go_sem, Wk_block, Wk_drawnC, reduceCtorEq, Nat.reduceEqDiff, Nat.reduceAdd, Nat.reduceLeDiff, Nat.reduceLT, Nat.reduceMul, Nat.reduceSub, ↓reduceIte, Int.reduceLT, Int.reduceLE, Int.reduceNeg, Int.reduceAdd, Int.reduceEq, Nat.reduceBneDiff, Nat.reduceBEq, Int.reduceToNat, Int.reduceMul, Int.reduceSub, Int.reduceBEq, Int.reduceBNe, g11], by rw [htk]; simp only [go_sem, Wk_block, Wk_drawnC, reduceCtorEq, Nat.reduceEqDiff, Nat.reduceAdd, Nat.reduceLeDiff, Nat.reduceLT, Nat.reduceMul, Nat.reduceSub, ↓reduceIte, Int.reduceLT, Int.reduceLE, Int.reduceNeg, Int.reduceAdd, Int.reduceEq, Nat.reduceBneDiff, Nat.reduceBEq, Int.reduceToNat, Int.reduceMul, Int.reduceSub, Int.reduceBEq, Int.reduceBNe], rfl⟩
        · rw [hm] at g12 htk
          rw [Bool.true_or] at htk
          simp -implicitDefEqProofs only [go_sem, Wk_block, Wk_drawnC, reduceCtorEq, Nat.reduceEqDiff, Nat.reduceAdd, Nat.reduceLeDiff, Nat.reduceLT, Nat.reduceMul, Nat.reduceSub, ↓reduceIte, Int.reduceLT, Int.reduceLE, Int.reduceNeg, Int.reduceAdd, Int.reduceEq, Nat.reduceBneDiff, Nat.reduceBEq, Int.reduceToNat, Int.reduceMul, Int.reduceSub, Int.reduceBEq, Int.reduceBNe, g60, g59, g58, g36, g35, g34, g1, g2, g3, g7, g8, g11, g12, hel, hidx6, hg6, e6, w60, ft, tf]
          exact IH2 (L.length - (e + 1)) _ _ (by omega) ⟨e + 1, rfl, by omega, by simp only [go_sem, Wk_block, Wk_drawnC, reduceCtorEq, Nat.reduceEqDiff, Nat.reduceAdd, Nat.reduceLeDiff, Nat.reduceLT, Nat.reduceMul, Nat.reduceSub, ↓reduceIte, Int.reduceLT, Int.reduceLE, Int.reduceNeg, Int.reduceAdd, Int.reduceEq, Nat.reduceBneDiff, Nat.reduceBEq, Int.reduceToNat, Int.reduceMul, Int.reduceSub, Int.reduceBEq, Int.reduceBNe], by simp only [go_sem, Wk_block, Wk_drawnC, reduceCtorEq, Nat.reduceEqDiff, Nat.reduceAdd, Nat.reduceLeDiff, Nat.reduceLT, Nat.reduceMul, Nat.reduceSub, ↓reduceIte, Int.reduceLT, Int.reduceLE, Int.reduceNeg, Int.reduceAdd, Int.reduceEq, Nat.reduceBneDiff, Nat.reduceBEq, Int.reduceToNat, Int.reduceMul, Int.reduceSub, Int.reduceBEq, Int.reduceBNe, g59], by simp only [go_sem, Wk_block, Wk_drawnC, reduceCtorEq, Nat.reduceEqDiff, Nat.reduceAdd, Nat.reduceLeDiff, Nat.reduceLT, Nat.reduceMul, Nat.reduceSub, ↓reduceIte, Int.reduceLT, Int.reduceLE, Int.reduceNeg, Int.reduceAdd, Int.reduceEq, Nat.reduceBneDiff, Nat.reduceBEq, Int.reduceToNat, Int.reduceMul, Int.reduceSub, Int.reduceBEq, Int.reduceBNe, g58], by simp only [go_sem, Wk_block, Wk_drawnC, reduceCtorEq, Nat.reduceEqDiff, Nat.reduceAdd, Nat.reduceLeDiff, Nat.reduceLT, Nat.reduceMul, Nat.reduceSub, ↓reduceIte, Int.reduceLT, Int.reduceLE, Int.reduceNeg, Int.reduceAdd, Int.reduceEq, Nat.reduceBneDiff, Nat.reduceBEq, Int.reduceToNat, Int.reduceMul, Int.reduceSub, Int.reduceBEq, Int.reduceBNe, g36], by simp only [go_sem, Wk_block, Wk_drawnC, reduceCtorEq, Nat.reduceEqDiff, Nat.reduceAdd, Nat.reduceLeDiff, Nat.reduceLT, Nat.reduceMul, Nat.reduceSub, ↓reduceIte, Int.reduceLT, Int.reduceLE, Int.reduceNeg, Int.reduceAdd, Int.reduceEq, Nat.reduceBneDiff, Nat.reduceBEq, Int.reduceToNat, Int.reduceMul, Int.reduceSub, Int.reduceBEq, Int.reduceBNe, g35], by simp only [go_sem, Wk_block, Wk_drawnC, reduceCtorEq, Nat.reduceEqDiff, Nat.reduceAdd, Nat.reduceLeDiff, Nat.reduceLT, Nat.reduceMul, Nat.reduceSub, ↓reduceIte, Int.reduceLT, Int.reduceLE, Int.reduceNeg, Int.reduceAdd, Int.reduceEq, Nat.reduceBneDiff, Nat.reduceBEq, Int.reduceToNat, Int.reduceMul, Int.reduceSub, Int.reduceBEq, Int.reduceBNe, g34], by simp only [go_sem, Wk_block, Wk_drawnC, reduceCtorEq, Nat.reduceEqDiff, Nat.reduceAdd, Nat.reduceLeDiff, Nat.reduceLT, Nat.reduceMul, Nat.reduceSub, ↓reduceIte, Int.reduceLT, Int.reduceLE, Int.reduceNeg, Int.reduceAdd, Int.reduceEq, Nat.reduceBneDiff, Nat.reduceBEq, Int.reduceToNat, Int.reduceMul, Int.reduceSub, Int.reduceBEq, Int.reduceBNe, g1], by simp only [go_sem, Wk_block, Wk_drawnC, reduceCtorEq, Nat.reduceEqDiff, Nat.reduceAdd, Nat.reduceLeDiff, Nat.reduceLT, Nat.reduceMul, Nat.reduceSub, ↓reduceIte, Int.reduceLT, Int.reduceLE, Int.reduceNeg, Int.reduceAdd, Int.reduceEq, Nat.reduceBneDiff, Nat.reduceBEq, Int.reduceToNat, Int.reduceMul, Int.reduceSub, Int.reduceBEq, Int.reduceBNe, g2], by simp only [go_sem, Wk_block, Wk_drawnC, reduceCtorEq, Nat.reduceEqDiff, Nat.reduceAdd, Nat.reduceLeDiff, Nat.reduceLT, Nat.reduceMul, Nat.reduceSub, ↓reduceIte, Int.reduceLT, Int.reduceLE, Int.reduceNeg, Int.reduceAdd, Int.reduceEq, Nat.reduceBneDiff, Nat.reduceBEq, Int.reduceToNat, Int.reduceMul, Int.reduceSub, Int.reduceBEq, Int.reduceBNe, g3], by simp only [go_sem, Wk_block, Wk_drawnC, reduceCtorEq, Nat.reduceEqDiff, Nat.reduceAdd, Nat.reduceLeDiff, Nat.reduceLT, Nat.reduceMul, Nat.reduceSub, ↓reduceIte, Int.reduceLT, Int.reduceLE, Int.reduceNeg, Int.reduceAdd, Int.reduceEq, Nat.reduceBneDiff, Nat.reduceBEq, Int.reduceToNat, Int.reduceMul, Int.reduceSub, Int.reduceBEq, Int.reduceBNe, g7], by simp only [go_sem, Wk_block, Wk_drawnC, reduceCtorEq, Nat.reduceEqDiff, Nat.reduceAdd, Nat.reduceLeDiff, Nat.reduceLT, Nat.reduceMul, Nat.reduceSub, ↓reduceIte, Int.reduceLT, Int.reduceLE, Int.reduceNeg, Int.reduceAdd, Int.reduceEq, Nat.reduceBneDiff, Nat.reduceBEq, Int.reduceToNat, Int.reduceMul, Int.reduceSub, Int.reduceBEq, Int.reduceBNe, g8], by simp only [go_sem, Wk_block, Wk_drawnC, reduceCtorEq, Nat.reduceEqDiff, Nat.reduceAdd, Nat.reduceLeDiff, Nat.reduceLT, Nat.reduceMul, Nat.reduceSub, ↓reduceIte, Int.reduceLT, Int.reduceLE, Int.reduceNeg, Int.reduceAdd, Int.reduceEq, Nat.reduceBneDiff, Nat.reduceBEq, Int.reduceToNat, Int.reduceMul, Int.reduceSub, Int.reduceBEq, Int.reduceBNe, g11], by rw [htk]; simp only [go_sem, Wk_block, Wk_drawnC, reduceCtorEq, Nat.reduceEqDiff, Nat.reduceAdd, Nat.reduceLeDiff, Nat.reduceLT, Nat.reduceMul, Nat.reduceSub, ↓reduceIte, Int.reduceLT, Int.reduceLE, Int.reduceNeg, Int.reduceAdd, Int.reduceEq, Nat.reduceBneDiff, Nat.reduceBEq, Int.reduceToNat, Int.reduceMul, Int.reduceSub, Int.reduceBEq, Int.reduceBNe], rfl⟩
      · have hee : e = L.length := by omega
        rw [hee, List.take_length] at g12
        simp -implicitDefEqProofs only [go_sem, Wk_block, Wk_drawnC, reduceCtorEq, Nat.reduceEqDiff, Nat.reduceAdd, Nat.reduceLeDiff, Nat.reduceLT, Nat.reduceMul, Nat.reduceSub, ↓reduceIte, Int.reduceLT, Int.reduceLE, Int.reduceNeg, Int.reduceAdd, Int.reduceEq, Nat.reduceBneDiff, Nat.reduceBEq, Int.reduceToNat, Int.reduceMul, Int.reduceSub, Int.reduceBEq, Int.reduceBNe, g60, g59, hel, ft]
        rw [Wr_nil]
        exact ⟨.inr rfl, rfl, by simp only [go_sem, Wk_block, Wk_drawnC, reduceCtorEq, Nat.reduceEqDiff, Nat.reduceAdd, Nat.reduceLeDiff, Nat.reduceLT, Nat.reduceMul, Nat.reduceSub, ↓reduceIte, Int.reduceLT, Int.reduceLE, Int.reduceNeg, Int.reduceAdd, Int.reduceEq, Nat.reduceBneDiff, Nat.reduceBEq, Int.reduceToNat, Int.reduceMul, Int.reduceSub, Int.reduceBEq, Int.reduceBNe, g36], by simp only [go_sem, Wk_block, Wk_drawnC, reduceCtorEq, Nat.reduceEqDiff, Nat.reduceAdd, Nat.reduceLeDiff, Nat.reduceLT, Nat.reduceMul, Nat.reduceSub, ↓reduceIte, Int.reduceLT, Int.reduceLE, Int.reduceNeg, Int.reduceAdd, Int.reduceEq, Nat.reduceBneDiff, Nat.reduceBEq, Int.reduceToNat, Int.reduceMul, Int.reduceSub, Int.reduceBEq, Int.reduceBNe, g35], by simp only [go_sem, Wk_block, Wk_drawnC, reduceCtorEq, Nat.reduceEqDiff, Nat.reduceAdd, Nat.reduceLeDiff, Nat.reduceLT, Nat.reduceMul, Nat.reduceSub, ↓reduceIte, Int.reduceLT, Int.reduceLE, Int.reduceNeg, Int.reduceAdd, Int.reduceEq, Nat.reduceBneDiff, Nat.reduceBEq, Int.reduceToNat, Int.reduceMul, Int.reduceSub, Int.reduceBEq, Int.reduceBNe, g34], by simp only [go_sem, Wk_block, Wk_drawnC, reduceCtorEq, Nat.reduceEqDiff, Nat.reduceAdd, Nat.reduceLeDiff, Nat.reduceLT, Nat.reduceMul, Nat.reduceSub, ↓reduceIte, Int.reduceLT, Int.reduceLE, Int.reduceNeg, Int.reduceAdd, Int.reduceEq, Nat.reduceBneDiff, Nat.reduceBEq, Int.reduceToNat, Int.reduceMul, Int.reduceSub, Int.reduceBEq, Int.reduceBNe, g1], by simp only [go_sem, Wk_block, Wk_drawnC, reduceCtorEq, Nat.reduceEqDiff, Nat.reduceAdd, Nat.reduceLeDiff, Nat.reduceLT, Nat.reduceMul, Nat.reduceSub, ↓reduceIte, Int.reduceLT, Int.reduceLE, Int.reduceNeg, Int.reduceAdd, Int.reduceEq, Nat.reduceBneDiff, Nat.reduceBEq, Int.reduceToNat, Int.reduceMul, Int.reduceSub, Int.reduceBEq, Int.reduceBNe, g2], by simp only [go_sem, Wk_block, Wk_drawnC, reduceCtorEq, Nat.reduceEqDiff, Nat.reduceAdd, Nat.reduceLeDiff, Nat.reduceLT, Nat.reduceMul, Nat.reduceSub, ↓reduceIte, Int.reduceLT, Int.reduceLE, Int.reduceNeg, Int.reduceAdd, Int.reduceEq, Nat.reduceBneDiff, Nat.reduceBEq, Int.reduceToNat, Int.reduceMul, Int.reduceSub, Int.reduceBEq, Int.reduceBNe, g3], by simp only [go_sem, Wk_block, Wk_drawnC, reduceCtorEq, Nat.reduceEqDiff, Nat.reduceAdd, Nat.reduceLeDiff, Nat.reduceLT, Nat.reduceMul, Nat.reduceSub, ↓reduceIte, Int.reduceLT, Int.reduceLE, Int.reduceNeg, Int.reduceAdd, Int.reduceEq, Nat.reduceBneDiff, Nat.reduceBEq, Int.reduceToNat, Int.reduceMul, Int.reduceSub, Int.reduceBEq, Int.reduceBNe, g7], by simp only [go_sem, Wk_block, Wk_drawnC, reduceCtorEq, Nat.reduceEqDiff, Nat.reduceAdd, Nat.reduceLeDiff, Nat.reduceLT, Nat.reduceMul, Nat.reduceSub, ↓reduceIte, Int.reduceLT, Int.reduceLE, Int.reduceNeg, Int.reduceAdd, Int.reduceEq, Nat.reduceBneDiff, Nat.reduceBEq, Int.reduceToNat, Int.reduceMul, Int.reduceSub, Int.reduceBEq, Int.reduceBNe, g8], by simp only [go_sem, Wk_block, Wk_drawnC, reduceCtorEq, Nat.reduceEqDiff, Nat.reduceAdd, Nat.reduceLeDiff, Nat.reduceLT, Nat.reduceMul, Nat.reduceSub, ↓reduceIte, Int.reduceLT, Int.reduceLE, Int.reduceNeg, Int.reduceAdd, Int.reduceEq, Nat.reduceBneDiff, Nat.reduceBEq, Int.reduceToNat, Int.reduceMul, Int.reduceSub, Int.reduceBEq, Int.reduceBNe, g11], by simp only [go_sem, Wk_block, Wk_drawnC, reduceCtorEq, Nat.reduceEqDiff, Nat.reduceAdd, Nat.reduceLeDiff, Nat.reduceLT, Nat.reduceMul, Nat.reduceSub, ↓reduceIte, Int.reduceLT, Int.reduceLE, Int.reduceNeg, Int.reduceAdd, Int.reduceEq, Nat.reduceBneDiff, Nat.reduceBEq, Int.reduceToNat, Int.reduceMul, Int.reduceSub, Int.reduceBEq, Int.reduceBNe, g12], rfl⟩
    clear g36 g35 g34 g1 g2 g3 g7 g8
    rintro ts _ ⟨g36, g35, g34, g1, g2, g3, g7, g8, g11, g12, rfl⟩
    simp -implicitDefEqProofs only [go_sem, Wk_block, Wk_drawnC, reduceCtorEq, Nat.reduceEqDiff, Nat.reduceAdd, Nat.reduceLeDiff, Nat.reduceLT, Nat.reduceMul, Nat.reduceSub, ↓reduceIte, Int.reduceLT, Int.reduceLE, Int.reduceNeg, Int.reduceAdd, Int.reduceEq, Nat.reduceBneDiff, Nat.reduceBEq, Int.reduceToNat, Int.reduceMul, Int.reduceSub, Int.reduceBEq, Int.reduceBNe, g36, g35, g34, g1, g2, g3, g7, g8, g11, g12, cg, cg2, w36, ft]
    exact IH (l.length - (j + 1)) _ _ (by omega) ⟨j + 1, w, rfl, by omega, by simp only [go_sem, Wk_block, Wk_drawnC, reduceCtorEq, Nat.reduceEqDiff, Nat.reduceAdd, Nat.reduceLeDiff, Nat.reduceLT, Nat.reduceMul, Nat.reduceSub, ↓reduceIte, Int.reduceLT, Int.reduceLE, Int.reduceNeg, Int.reduceAdd, Int.reduceEq, Nat.reduceBneDiff, Nat.reduceBEq, Int.reduceToNat, Int.reduceMul, Int.reduceSub, Int.reduceBEq, Int.reduceBNe], by simp only [go_sem, Wk_block, Wk_drawnC, reduceCtorEq, Nat.reduceEqDiff, Nat.reduceAdd, Nat.reduceLeDiff, Nat.reduceLT, Nat.reduceMul, Nat.reduceSub, ↓reduceIte, Int.reduceLT, Int.reduceLE, Int.reduceNeg, Int.reduceAdd, Int.reduceEq, Nat.reduceBneDiff, Nat.reduceBEq, Int.reduceToNat, Int.reduceMul, Int.reduceSub, Int.reduceBEq, Int.reduceBNe, g35], by simp only [go_sem, Wk_block, Wk_drawnC, reduceCtorEq, Nat.reduceEqDiff, Nat.reduceAdd, Nat.reduceLeDiff, Nat.reduceLT, Nat.reduceMul, Nat.reduceSub, ↓reduceIte, Int.reduceLT, Int.reduceLE, Int.reduceNeg, Int.reduceAdd, Int.reduceEq, Nat.reduceBneDiff, Nat.reduceBEq, Int.reduceToNat, Int.reduceMul, Int.reduceSub, Int.reduceBEq, Int.reduceBNe, g34], by simp only [go_sem, Wk_block, Wk_drawnC, reduceCtorEq, Nat.reduceEqDiff, Nat.reduceAdd, Nat.reduceLeDiff, Nat.reduceLT, Nat.reduceMul, Nat.reduceSub, ↓reduceIte, Int.reduceLT, Int.reduceLE, Int.reduceNeg, Int.reduceAdd, Int.reduceEq, Nat.reduceBneDiff, Nat.reduceBEq, Int.reduceToNat, Int.reduceMul, Int.reduceSub, Int.reduceBEq, Int.reduceBNe, g1], by simp only [go_sem, Wk_block, Wk_drawnC, reduceCtorEq, Nat.reduceEqDiff, Nat.reduceAdd, Nat.reduceLeDiff, Nat.reduceLT, Nat.reduceMul, Nat.reduceSub, ↓reduceIte, Int.reduceLT, Int.reduceLE, Int.reduceNeg, Int.reduceAdd, Int.reduceEq, Nat.reduceBneDiff, Nat.reduceBEq, Int.reduceToNat, Int.reduceMul, Int.reduceSub, Int.reduceBEq, Int.reduceBNe, g2], by simp only [go_sem, Wk_block, Wk_drawnC, reduceCtorEq, Nat.reduceEqDiff, Nat.reduceAdd, Nat.reduceLeDiff, Nat.reduceLT, Nat.reduceMul, Nat.reduceSub, ↓reduceIte, Int.reduceLT, Int.reduceLE, Int.reduceNeg, Int.reduceAdd, Int.reduceEq, Nat.reduceBneDiff, Nat.reduceBEq, Int.reduceToNat, Int.reduceMul, Int.reduceSub, Int.reduceBEq, Int.reduceBNe, g3], by simp only [go_sem, Wk_block, Wk_drawnC, reduceCtorEq, Nat.reduceEqDiff, Nat.reduceAdd, Nat.reduceLeDiff, Nat.reduceLT, Nat.reduceMul, Nat.reduceSub, ↓reduceIte, Int.reduceLT, Int.reduceLE, Int.reduceNeg, Int.reduceAdd, Int.reduceEq, Nat.reduceBneDiff, Nat.reduceBEq, Int.reduceToNat, Int.reduceMul, Int.reduceSub, Int.reduceBEq, Int.reduceBNe, g7], by simp only [go_sem, Wk_block, Wk_drawnC, reduceCtorEq, Nat.reduceEqDiff, Nat.reduceAdd, Nat.reduceLeDiff, Nat.reduceLT, Nat.reduceMul, Nat.reduceSub, ↓reduceIte, Int.reduceLT, Int.reduceLE, Int.reduceNeg, Int.reduceAdd, Int.reduceEq, Nat.reduceBneDiff, Nat.reduceBEq, Int.reduceToNat, Int.reduceMul, Int.reduceSub, Int.reduceBEq, Int.reduceBNe, g8], by rw [htk2]; exact hoL, hga5, hF5, hN5, hlast2⟩
  · have ce : (oth == own) = false := by simp [heqo]
    have hlast2 : ∀ y ∈ l.take (j + 1), ¬ (y.t.tdiv k.span = own ∧ l[i].l.lt y.l) := by
      intro y hy
      rw [hlj] at hy
      rcases List.mem_append.1 hy with hy | hy
      · exact hlast y hy
      · rw [List.mem_singleton.1 hy]
        exact fun h => heqo (hoth.symm.trans h.1)
    have hga5 : (s1.new (.cells [.int .u32 x.l.e, .int .u32 x.l.q, .int .i64 x.r, .int .u32 x.t] false false 0)).get a = some (.cells k.enc false false 0) := by rw [St.get_new, if_neg hne]; exact ga1
    have hN5 : a + 1 ≤ (s1.new (.cells [.int .u32 x.l.e, .int .u32 x.l.q, .int .i64 x.r, .int .u32 x.t] false false 0)).next := by rw [St.next_new]; omega
    have hoL := ho.fr ((Fr.refl s1).new (.cells [.int .u32 x.l.e, .int .u32 x.l.q, .int .i64 x.r, .int .u32 x.t] false false 0))
    have hF5 := f5
    simp -implicitDefEqProofs only [go_sem, Wk_block, Wk_drawnC, reduceCtorEq, Nat.reduceEqDiff, Nat.reduceAdd, Nat.reduceLeDiff, Nat.reduceLT, Nat.reduceMul, Nat.reduceSub, ↓reduceIte, Int.reduceLT, Int.reduceLE, Int.reduceNeg, Int.reduceAdd, Int.reduceEq, Nat.reduceBneDiff, Nat.reduceBEq, Int.reduceToNat, Int.reduceMul, Int.reduceSub, Int.reduceBEq, Int.reduceBNe, g36, g35, g34, g1, g2, g3, g7, g8, hlt, hidx1, hg1, hle1, hle4, heq2, wj, hoth, ga1, hne, w36, hsp, ce, hol, ft, tf]
    generalize s1.new (.cells [.int .u32 x.l.e, .int .u32 x.l.q, .int .i64 x.r, .int .u32 x.t] false false 0) = s5 at hga5 hN5 hoL hF5 ⊢
    have hRL := hoL.rd hL1 (by rw [hlstl]; unfold maxLen; omega)
    refine Wk_loop_post (fun ts s' => ts.get 36 = some (.int .i64 (j : Int)) ∧ ts.get 35 = some (.int .i64 (l.length : Int)) ∧ ts.get 34 = some (v) ∧ ts.get 1 = some (v) ∧ ts.get 2 = some (.int .i64 (i : Int)) ∧ ts.get 3 = some (.ptr a 0) ∧ ts.get 7 = some (.int .u32 own) ∧ ts.get 8 = some (w) ∧ ts.get 11 = some (.int .u32 oth) ∧ ts.get 12 = some (.bool (decide (oth ∈ L))) ∧ s5 = s') ?_ ?_
    · refine loop_ind (fun m ts s' => ∃ e : Nat, m = L.length - e ∧ e ≤ L.length ∧ ts.get 60 = some (.int .i64 (e : Int)) ∧ ts.get 59 = some (.int .i64 (L.length : Int)) ∧ ts.get 58 = some w ∧ ts.get 36 = some (.int .i64 (j : Int)) ∧ ts.get 35 = some (.int .i64 (l.length : Int)) ∧ ts.get 34 = some (v) ∧ ts.get 1 = some (v) ∧ ts.get 2 = some (.int .i64 (i : Int)) ∧ ts.get 3 = some (.ptr a 0) ∧ ts.get 7 = some (.int .u32 own) ∧ ts.get 8 = some (w) ∧ ts.get 11 = some (.int .u32 oth) ∧ ts.get 12 = some (.bool (decide (oth ∈ L.take e))) ∧ s5 = s') ?_ (n := L.length)
        ⟨0, rfl, by omega, by simp only [go_sem, Wk_block, Wk_drawnC, reduceCtorEq, Nat.reduceEqDiff, Nat.reduceAdd, Nat.reduceLeDiff, Nat.reduceLT, Nat.reduceMul, Nat.reduceSub, ↓reduceIte, Int.reduceLT, Int.reduceLE, Int.reduceNeg, Int.reduceAdd, Int.reduceEq, Nat.reduceBneDiff, Nat.reduceBEq, Int.reduceToNat, Int.reduceMul, Int.reduceSub, Int.reduceBEq, Int.reduceBNe], by simp only [go_sem, Wk_block, Wk_drawnC, reduceCtorEq, Nat.reduceEqDiff, Nat.reduceAdd, Nat.reduceLeDiff, Nat.reduceLT, Nat.reduceMul, Nat.reduceSub, ↓reduceIte, Int.reduceLT, Int.reduceLE, Int.reduceNeg, Int.reduceAdd, Int.reduceEq, Nat.reduceBneDiff, Nat.reduceBEq, Int.reduceToNat, Int.reduceMul, Int.reduceSub, Int.reduceBEq, Int.reduceBNe], by simp only [go_sem, Wk_block, Wk_drawnC, reduceCtorEq, Nat.reduceEqDiff, Nat.reduceAdd, Nat.reduceLeDiff, Nat.reduceLT, Nat.reduceMul, Nat.reduceSub, ↓reduceIte, Int.reduceLT, Int.reduceLE, Int.reduceNeg, Int.reduceAdd, Int.reduceEq, Nat.reduceBneDiff, Nat.reduceBEq, Int.reduceToNat, Int.reduceMul, Int.reduceSub, Int.reduceBEq, Int.reduceBNe], by simp only [go_sem, Wk_block, Wk_drawnC, reduceCtorEq, Nat.reduceEqDiff, Nat.reduceAdd, Nat.reduceLeDiff, Nat.reduceLT, Nat.reduceMul, Nat.reduceSub, ↓reduceIte, Int.reduceLT, Int.reduceLE, Int.reduceNeg, Int.reduceAdd, Int.reduceEq, Nat.reduceBneDiff, Nat.reduceBEq, Int.reduceToNat, Int.reduceMul, Int.reduceSub, Int.reduceBEq, Int.reduceBNe, g36], by simp only [go_sem, Wk_block, Wk_drawnC, reduceCtorEq, Nat.reduceEqDiff, Nat.reduceAdd, Nat.reduceLeDiff, Nat.reduceLT, Nat.reduceMul, Nat.reduceSub, ↓reduceIte, Int.reduceLT, Int.reduceLE, Int.reduceNeg, Int.reduceAdd, Int.reduceEq, Nat.reduceBneDiff, Nat.reduceBEq, Int.reduceToNat, Int.reduceMul, Int.reduceSub, Int.reduceBEq, Int.reduceBNe, g35], by simp only [go_sem, Wk_block, Wk_drawnC, reduceCtorEq, Nat.reduceEqDiff, Nat.reduceAdd, Nat.reduceLeDiff, Nat.reduceLT, Nat.reduceMul, Nat.reduceSub, ↓reduceIte, Int.reduceLT, Int.reduceLE, Int.reduceNeg, Int.reduceAdd, Int.reduceEq, Nat.reduceBneDiff, Nat.reduceBEq, Int.reduceToNat, Int.reduceMul, Int.reduceSub, Int.reduceBEq, Int.reduceBNe, g34], by simp only [go_sem, Wk_block, Wk_drawnC, reduceCtorEq, Nat.reduceEqDiff, Nat.reduceAdd, Nat.reduceLeDiff, Nat.reduceLT, Nat.reduceMul, Nat.reduceSub, ↓reduceIte, Int.reduceLT, Int.reduceLE, Int.reduceNeg, Int.reduceAdd, Int.reduceEq, Nat.reduceBneDiff, Nat.reduceBEq, Int.reduceToNat, Int.reduceMul, Int.reduceSub, Int.reduceBEq, Int.reduceBNe, g1], by simp only [go_sem, Wk_block, Wk_drawnC, reduceCtorEq, Nat.reduceEqDiff, Nat.reduceAdd, Nat.reduceLeDiff, Nat.reduceLT, Nat.reduceMul, Nat.reduceSub, ↓reduceIte, Int.reduceLT, Int.reduceLE, Int.reduceNeg, Int.reduceAdd, Int.reduceEq, Nat.reduceBneDiff, Nat.reduceBEq, Int.reduceToNat, Int.reduceMul, Int.reduceSub, Int.reduceBEq, Int.reduceBNe, g2], by simp only [go_sem, Wk_block, Wk_drawnC, reduceCtorEq, Nat.reduceEqDiff, Nat.reduceAdd, Nat.reduceLeDiff, Nat.reduceLT, Nat.reduceMul, Nat.reduceSub, ↓reduceIte, Int.reduceLT, Int.reduceLE, Int.reduceNeg, Int.reduceAdd, Int.reduceEq, Nat.reduceBneDiff, Nat.reduceBEq, Int.reduceToNat, Int.reduceMul, Int.reduceSub, Int.reduceBEq, Int.reduceBNe, g3], by simp only [go_sem, Wk_block, Wk_drawnC, reduceCtorEq, Nat.reduceEqDiff, Nat.reduceAdd, Nat.reduceLeDiff, Nat.reduceLT, Nat.reduceMul, Nat.reduceSub, ↓reduceIte, Int.reduceLT, Int.reduceLE, Int.reduceNeg, Int.reduceAdd, Int.reduceEq, Nat.reduceBneDiff, Nat.reduceBEq, Int.reduceToNat, Int.reduceMul, Int.reduceSub, Int.reduceBEq, Int.reduceBNe, g7], by simp only [go_sem, Wk_block, Wk_drawnC, reduceCtorEq, Nat.reduceEqDiff, Nat.reduceAdd, Nat.reduceLeDiff, Nat.reduceLT, Nat.reduceMul, Nat.reduceSub, ↓reduceIte, Int.reduceLT, Int.reduceLE, Int.reduceNeg, Int.reduceAdd, Int.reduceEq, Nat.reduceBneDiff, Nat.reduceBEq, Int.reduceToNat, Int.reduceMul, Int.reduceSub, Int.reduceBEq, Int.reduceBNe, g8], by simp only [go_sem, Wk_block, Wk_drawnC, reduceCtorEq, Nat.reduceEqDiff, Nat.reduceAdd, Nat.reduceLeDiff, Nat.reduceLT, Nat.reduceMul, Nat.reduceSub, ↓reduceIte, Int.reduceLT, Int.reduceLE, Int.reduceNeg, Int.reduceAdd, Int.reduceEq, Nat.reduceBneDiff, Nat.reduceBEq, Int.reduceToNat, Int.reduceMul, Int.reduceSub, Int.reduceBEq, Int.reduceBNe], by simp only [go_sem, Wk_block, Wk_drawnC, reduceCtorEq, Nat.reduceEqDiff, Nat.reduceAdd, Nat.reduceLeDiff, Nat.reduceLT, Nat.reduceMul, Nat.reduceSub, ↓reduceIte, Int.reduceLT, Int.reduceLE, Int.reduceNeg, Int.reduceAdd, Int.reduceEq, Nat.reduceBneDiff, Nat.reduceBEq, Int.reduceToNat, Int.reduceMul, Int.reduceSub, Int.reduceBEq, Int.reduceBNe, List.take_zero, List.not_mem_nil, decide_false], rfl⟩
      clear g36 g35 g34 g1 g2 g3 g7 g8
      rintro _ ts s6 ⟨e, rfl, he, g60, g59, g58, g36, g35, g34, g1, g2, g3, g7, g8, g11, g12, rfl⟩ IH2
      by_cases hel : e < L.length
      · have helm : e < (lst L).length := by unfold lst; rw [List.length_map]; exact hel
        obtain ⟨b6, o6, vs6, lo6, ro6, z6, hidx6, hg6, hle6, heq6, hbl6⟩ := hRL.at_ helm
        have hy : (lst L)[e] = [uI L[e]] := by simp [lst]
        rw [hy] at heq6
        have e6 : vs6[o6 + e * 1]? = some (.int .u32 L[e]) := by
          have := congrArg (fun l => l[0]?) heq6
          simpa [List.getElem?_take, List.getElem?_drop, uI] using this
        have w60 := succ_in (j := e) (by omega)
        have hiff : oth ∈ L.take (e + 1) ↔ oth ∈ L.take e ∨ L[e] = oth := by
          rw [List.take_succ_eq_append_getElem hel, List.mem_append, List.mem_singleton]
          exact or_congr_right eq_comm
        have htk : decide (oth ∈ L.take (e + 1)) = (decide (oth ∈ L.take e) || (L[e] == oth)) := by
          rw [Bool.eq_iff_iff]
          simp only [decide_eq_true_eq, Bool.or_eq_true, beq_iff_eq]
          exact hiff
        cases hm : decide (oth ∈ L.take e)
        · rw [hm] at g12 htk
          rw [Bool.false_or] at htk
          simp -implicitDefEqProofs only [go_sem, Wk_block, Wk_drawnC, reduceCtorEq, Nat.reduceEqDiff, Nat.reduceAdd, Nat.reduceLeDiff, Nat.reduceLT, Nat.reduceMul, Nat.reduceSub, ↓reduceIte, Int.reduceLT, Int.reduceLE, Int.reduceNeg, Int.reduceAdd, Int.reduceEq, Nat.reduceBneDiff, Nat.reduceBEq, Int.reduceToNat, Int.reduceMul, Int.reduceSub, Int.reduceBEq, Int.reduceBNe, g60, g59, g58, g36, g35, g34, g1, g2, g3, g7, g8, g11, g12, hel, hidx6, hg6, e6, w60, ft, tf]
          exact IH2 (L.length - (e + 1)) _ _ (by omega) ⟨e + 1, rfl, by omega, by simp only [go_sem, Wk_block, Wk_drawnC, reduceCtorEq, Nat.reduceEqDiff, Nat.reduceAdd, Nat.reduceLeDiff, Nat.reduceLT, Nat.reduceMul, Nat.reduceSub, ↓reduceIte, Int.reduceLT, Int.reduceLE, Int.reduceNeg, Int.reduceAdd, Int.reduceEq, Nat.reduceBneDiff, Nat.reduceBEq, Int.reduceToNat, Int.reduceMul, Int.reduceSub, Int.reduceBEq, Int.reduceBNe], by simp only [go_sem, Wk_block, Wk_drawnC, reduceCtorEq, Nat.reduceEqDiff, Nat.reduceAdd, Nat.reduceLeDiff, Nat.reduceLT, Nat.reduceMul, Nat.reduceSub, ↓reduceIte, Int.reduceLT, Int.reduceLE, Int.reduceNeg, Int.reduceAdd, Int.reduceEq, Nat.reduceBneDiff, Nat.reduceBEq, Int.reduceToNat, Int.reduceMul, Int.reduceSub, Int.reduceBEq, Int.reduceBNe, g59], by simp only [go_sem, Wk_block, Wk_drawnC, reduceCtorEq, Nat.reduceEqDiff, Nat.reduceAdd, Nat.reduceLeDiff, Nat.reduceLT, Nat.reduceMul, Nat.reduceSub, ↓reduceIte, Int.reduceLT, Int.reduceLE, Int.reduceNeg, Int.reduceAdd, Int.reduceEq, Nat.reduceBneDiff, Nat.reduceBEq, Int.reduceToNat, Int.reduceMul, Int.reduceSub, Int.reduceBEq, Int.reduceBNe, g58], by simp only [go_sem, Wk_block, Wk_drawnC, reduceCtorEq, Nat.reduceEqDiff, Nat.reduceAdd, Nat.reduceLeDiff, Nat.reduceLT, Nat.reduceMul, Nat.reduceSub, ↓reduceIte, Int.reduceLT, Int.reduceLE, Int.reduceNeg, Int.reduceAdd, Int.reduceEq, Nat.reduceBneDiff, Nat.reduceBEq, Int.reduceToNat, Int.reduceMul, Int.reduceSub, Int.reduceBEq, Int.reduceBNe, g36], by simp only [go_sem, Wk_block, Wk_drawnC, reduceCtorEq, Nat.reduceEqDiff, Nat.reduceAdd, Nat.reduceLeDiff, Nat.reduceLT, Nat.reduceMul, Nat.reduceSub, ↓reduceIte, Int.reduceLT, Int.reduceLE, Int.reduceNeg, Int.reduceAdd, Int.reduceEq, Nat.reduceBneDiff, Nat.reduceBEq, Int.reduceToNat, Int.reduceMul, Int.reduceSub, Int.reduceBEq, Int.reduceBNe, g35], by simp only [go_sem, Wk_block, Wk_drawnC, reduceCtorEq, Nat.reduceEqDiff, Nat.reduceAdd, Nat.reduceLeDiff, Nat.reduceLT, Nat.reduceMul, Nat.reduceSub, ↓reduceIte, Int.reduceLT, Int.reduceLE, Int.reduceNeg, Int.reduceAdd, Int.reduceEq, Nat.reduceBneDiff, Nat.reduceBEq, Int.reduceToNat, Int.reduceMul, Int.reduceSub, Int.reduceBEq, Int.reduceBNe, g34], by simp only [go_sem, Wk_block, Wk_drawnC, reduceCtorEq, Nat.reduceEqDiff, Nat.reduceAdd, Nat.reduceLeDiff, Nat.reduceLT, Nat.reduceMul, Nat.reduceSub, ↓reduceIte, Int.reduceLT, Int.reduceLE, Int.reduceNeg, Int.reduceAdd, Int.reduceEq, Nat.reduceBneDiff, Nat.reduceBEq, Int.reduceToNat, Int.reduceMul, Int.reduceSub, Int.reduceBEq, Int.reduceBNe, g1], by simp only [go_sem, Wk_block, Wk_drawnC, reduceCtorEq, Nat.reduceEqDiff, Nat.reduceAdd, Nat.reduceLeDiff, Nat.reduceLT, Nat.reduceMul, Nat.reduceSub, ↓reduceIte, Int.reduceLT, Int.reduceLE, Int.reduceNeg, Int.reduceAdd, Int.reduceEq, Nat.reduceBneDiff, Nat.reduceBEq, Int.reduceToNat, Int.reduceMul, Int.reduceSub, Int.reduceBEq, Int.reduceBNe, g2], by simp only [go_sem, Wk_block, Wk_drawnC, reduceCtorEq, Nat.reduceEqDiff, Nat.reduceAdd, Nat.reduceLeDiff, Nat.reduceLT, Nat.reduceMul, Nat.reduceSub, ↓reduceIte, Int.reduceLT, Int.reduceLE, Int.reduceNeg, Int.reduceAdd, Int.reduceEq, Nat.reduceBneDiff, Nat.reduceBEq, Int.reduceToNat, Int.reduceMul, Int.reduceSub, Int.reduceBEq, Int.reduceBNe, g3], by simp only [go_sem, Wk_block, Wk_drawnC, reduceCtorEq, Nat.reduceEqDiff, Nat.reduceAdd, Nat.reduceLeDiff, Nat.reduceLT, Nat.reduceMul, Nat.reduceSub, ↓reduceIte, Int.reduceLT, Int.reduceLE, Int.reduceNeg, Int.reduceAdd, Int.reduceEq, Nat.reduceBneDiff, Nat.reduceBEq, Int.reduceToNat, Int.reduceMul, Int.reduceSub, Int.reduceBEq, Int.reduceBNe, g7], by simp only [go_sem, Wk_block, Wk_drawnC, reduceCtorEq, Nat.reduceEqDiff, Nat.reduceAdd, Nat.reduceLeDiff, Nat.reduceLT, Nat.reduceMul, Nat.reduceSub, ↓reduceIte, Int.reduceLT, Int.reduceLE, Int.reduceNeg, Int.reduceAdd, Int.reduceEq, Nat.reduceBneDiff, Nat.reduceBEq, Int.reduceToNat, Int.reduceMul, Int.reduceSub, Int.reduceBEq, Int.reduceBNe, g8], by simp only [go_sem, Wk_block, Wk_drawnC, reduceCtorEq, Nat.reduceEqDiff, Nat.reduceAdd, Nat.reduceLeDiff, Nat.reduceLT, Nat.reduceMul, Nat.reduceSub, ↓reduceIte, Int.reduceLT, Int.reduceLE, Int.reduceNeg, Int.reduceAdd, Int.reduceEq, Nat.reduceBneDiff, Nat.reduceBEq, Int.reduceToNat, Int.reduceMul, Int.reduceSub, Int.reduceBEq, Int.reduceBNe, g11], by rw [htk]; simp only [go_sem, Wk_block, Wk_drawnC, reduceCtorEq, Nat.reduceEqDiff, Nat.reduceAdd, Nat.reduceLeDiff, Nat.reduceLT, Nat.reduceMul, Nat.reduceSub, ↓reduceIte, Int.reduceLT, Int.reduceLE, Int.reduceNeg, Int.reduceAdd, Int.reduceEq, Nat.reduceBneDiff, Nat.reduceBEq, Int.reduceToNat, Int.reduceMul, Int.reduceSub, Int.reduceBEq, Int.reduceBNe], rfl⟩
        · rw [hm] at g12 htk
          rw [Bool.true_or] at htk
          simp -implicitDefEqProofs only [go_sem, Wk_block, Wk_drawnC, reduceCtorEq, Nat.reduceEqDiff, Nat.reduceAdd, Nat.reduceLeDiff, Nat.reduceLT, Nat.reduceMul, Nat.reduceSub, ↓reduceIte, Int.reduceLT, Int.reduceLE, Int.reduceNeg, Int.reduceAdd, Int.reduceEq, Nat.reduceBneDiff, Nat.reduceBEq, Int.reduceToNat, Int.reduceMul, Int.reduceSub, Int.reduceBEq, Int.reduceBNe, g60, g59, g58, g36, g35, g34, g1, g2, g3, g7, g8, g11, g12, hel, hidx6, hg6, e6, w60, ft, tf]
          exact IH2 (L.length - (e + 1)) _ _ (by omega) ⟨e + 1, rfl, by omega, by simp only [go_sem, Wk_block, Wk_drawnC, reduceCtorEq, Nat.reduceEqDiff, Nat.reduceAdd, Nat.reduceLeDiff, Nat.reduceLT, Nat.reduceMul, Nat.reduceSub, ↓reduceIte, Int.reduceLT, Int.reduceLE, Int.reduceNeg, Int.reduceAdd, Int.reduceEq, Nat.reduceBneDiff, Nat.reduceBEq, Int.reduceToNat, Int.reduceMul, Int.reduceSub, Int.reduceBEq, Int.reduceBNe], by simp only [go_sem, Wk_block, Wk_drawnC, reduceCtorEq, Nat.reduceEqDiff, Nat.reduceAdd, Nat.reduceLeDiff, Nat.reduceLT, Nat.reduceMul, Nat.reduceSub, ↓reduceIte, Int.reduceLT, Int.reduceLE, Int.reduceNeg, Int.reduceAdd, Int.reduceEq, Nat.reduceBneDiff, Nat.reduceBEq, Int.reduceToNat, Int.reduceMul, Int.reduceSub, Int.reduceBEq, Int.reduceBNe, g59], by simp only [go_sem, Wk_block, Wk_drawnC, reduceCtorEq, Nat.reduceEqDiff, Nat.reduceAdd, Nat.reduceLeDiff, Nat.reduceLT, Nat.reduceMul, Nat.reduceSub, ↓reduceIte, Int.reduceLT, Int.reduceLE, Int.reduceNeg, Int.reduceAdd, Int.reduceEq, Nat.reduceBneDiff, Nat.reduceBEq, Int.reduceToNat, Int.reduceMul, Int.reduceSub, Int.reduceBEq, Int.reduceBNe, g58], by simp only [go_sem, Wk_block, Wk_drawnC, reduceCtorEq, Nat.reduceEqDiff, Nat.reduceAdd, Nat.reduceLeDiff, Nat.reduceLT, Nat.reduceMul, Nat.reduceSub, ↓reduceIte, Int.reduceLT, Int.reduceLE, Int.reduceNeg, Int.reduceAdd, Int.reduceEq, Nat.reduceBneDiff, Nat.reduceBEq, Int.reduceToNat, Int.reduceMul, Int.reduceSub, Int.reduceBEq, Int.reduceBNe, g36], by simp only [go_sem, Wk_block, Wk_drawnC, reduceCtorEq, Nat.reduceEqDiff, Nat.reduceAdd, Nat.reduceLeDiff, Nat.reduceLT, Nat.reduceMul, Nat.reduceSub, ↓reduceIte, Int.reduceLT, Int.reduceLE, Int.reduceNeg, Int.reduceAdd, Int.reduceEq, Nat.reduceBneDiff, Nat.reduceBEq, Int.reduceToNat, Int.reduceMul, Int.reduceSub, Int.reduceBEq, Int.reduceBNe, g35], by simp only [go_sem, Wk_block, Wk_drawnC, reduceCtorEq, Nat.reduceEqDiff, Nat.reduceAdd, Nat.reduceLeDiff, Nat.reduceLT, Nat.reduceMul, Nat.reduceSub, ↓reduceIte, Int.reduceLT, Int.reduceLE, Int.reduceNeg, Int.reduceAdd, Int.reduceEq, Nat.reduceBneDiff, Nat.reduceBEq, Int.reduceToNat, Int.reduceMul, Int.reduceSub, Int.reduceBEq, Int.reduceBNe, g34], by simp only [go_sem, Wk_block, Wk_drawnC, reduceCtorEq, Nat.reduceEqDiff, Nat.reduceAdd, Nat.reduceLeDiff, Nat.reduceLT, Nat.reduceMul, Nat.reduceSub, ↓reduceIte, Int.reduceLT, Int.reduceLE, Int.reduceNeg, Int.reduceAdd, Int.reduceEq, Nat.reduceBneDiff, Nat.reduceBEq, Int.reduceToNat, Int.reduceMul, Int.reduceSub, Int.reduceBEq, Int.reduceBNe, g1], by simp only [go_sem, Wk_block, Wk_drawnC, reduceCtorEq, Nat.reduceEqDiff, Nat.reduceAdd, Nat.reduceLeDiff, Nat.reduceLT, Nat.reduceMul, Nat.reduceSub, ↓reduceIte, Int.reduceLT, Int.reduceLE, Int.reduceNeg, Int.reduceAdd, Int.reduceEq, Nat.reduceBneDiff, Nat.reduceBEq, Int.reduceToNat, Int.reduceMul, Int.reduceSub, Int.reduceBEq, Int.reduceBNe, g2], by simp only [go_sem, Wk_block, Wk_drawnC, reduceCtorEq, Nat.reduceEqDiff, Nat.reduceAdd, Nat.reduceLeDiff, Nat.reduceLT, Nat.reduceMul, Nat.reduceSub, ↓reduceIte, Int.reduceLT, Int.reduceLE, Int.reduceNeg, Int.reduceAdd, Int.reduceEq, Nat.reduceBneDiff, Nat.reduceBEq, Int.reduceToNat, Int.reduceMul, Int.reduceSub, Int.reduceBEq, Int.reduceBNe, g3], by simp only [go_sem, Wk_block, Wk_drawnC, reduceCtorEq, Nat.reduceEqDiff, Nat.reduceAdd, Nat.reduceLeDiff, Nat.reduceLT, Nat.reduceMul, Nat.reduceSub, ↓reduceIte, Int.reduceLT, Int.reduceLE, Int.reduceNeg, Int.reduceAdd, Int.reduceEq, Nat.reduceBneDiff, Nat.reduceBEq, Int.reduceToNat, Int.reduceMul, Int.reduceSub, Int.reduceBEq, Int.reduceBNe, g7], by simp only [go_sem, Wk_block, Wk_drawnC, reduceCtorEq, Nat.reduceEqDiff, Nat.reduceAdd, Nat.reduceLeDiff, Nat.reduceLT, Nat.reduceMul, Nat.reduceSub, ↓reduceIte, Int.reduceLT, Int.reduceLE, Int.reduceNeg, Int.reduceAdd, Int.reduceEq, Nat.reduceBneDiff, Nat.reduceBEq, Int.reduceToNat, Int.reduceMul, Int.reduceSub, Int.reduceBEq, Int.reduceBNe, g8], by simp only [go_sem, Wk_block, Wk_drawnC, reduceCtorEq, Nat.reduceEqDiff, Nat.reduceAdd, Nat.reduceLeDiff, Nat.reduceLT, Nat.reduceMul, Nat.reduceSub, ↓reduceIte, Int.reduceLT, Int.reduceLE, Int.reduceNeg, Int.reduceAdd, Int.reduceEq, Nat.reduceBneDiff, Nat.reduceBEq, Int.reduceToNat, Int.reduceMul, Int.reduceSub, Int.reduceBEq, Int.reduceBNe, g11], by rw [htk]; simp only [go_sem, Wk_block, Wk_drawnC, reduceCtorEq, Nat.reduceEqDiff, Nat.reduceAdd, Nat.reduceLeDiff, Nat.reduceLT, Nat.reduceMul, Nat.reduceSub, ↓reduceIte, Int.reduceLT, Int.reduceLE, Int.reduceNeg, Int.reduceAdd, Int.reduceEq, Nat.reduceBneDiff, Nat.reduceBEq, Int.reduceToNat, Int.reduceMul, Int.reduceSub, Int.reduceBEq, Int.reduceBNe], rfl⟩
      · have hee : e = L.length := by omega
        rw [hee, List.take_length] at g12
        simp -implicitDefEqProofs only [go_sem, Wk_block, Wk_drawnC, reduceCtorEq, Nat.reduceEqDiff, Nat.reduceAdd, Nat.reduceLeDiff, Nat.reduceLT, Nat.reduceMul, Nat.reduceSub, ↓reduceIte, Int.reduceLT, Int.reduceLE, Int.reduceNeg, Int.reduceAdd, Int.reduceEq, Nat.reduceBneDiff, Nat.reduceBEq, Int.reduceToNat, Int.reduceMul, Int.reduceSub, Int.reduceBEq, Int.reduceBNe, g60, g59, hel, ft]
        rw [Wr_nil]
        exact ⟨.inr rfl, rfl, by simp only [go_sem, Wk_block, Wk_drawnC, reduceCtorEq, Nat.reduceEqDiff, Nat.reduceAdd, Nat.reduceLeDiff, Nat.reduceLT, Nat.reduceMul, Nat.reduceSub, ↓reduceIte, Int.reduceLT, Int.reduceLE, Int.reduceNeg, Int.reduceAdd, Int.reduceEq, Nat.reduceBneDiff, Nat.reduceBEq, Int.reduceToNat, Int.reduceMul, Int.reduceSub, Int.reduceBEq, Int.reduceBNe, g36], by simp only [go_sem, Wk_block, Wk_drawnC, reduceCtorEq, Nat.reduceEqDiff, Nat.reduceAdd, Nat.reduceLeDiff, Nat.reduceLT, Nat.reduceMul, Nat.reduceSub, ↓reduceIte, Int.reduceLT, Int.reduceLE, Int.reduceNeg, Int.reduceAdd, Int.reduceEq, Nat.reduceBneDiff, Nat.reduceBEq, Int.reduceToNat, Int.reduceMul, Int.reduceSub, Int.reduceBEq, Int.reduceBNe, g35], by simp only [go_sem, Wk_block, Wk_drawnC, reduceCtorEq, Nat.reduceEqDiff, Nat.reduceAdd, Nat.reduceLeDiff, Nat.reduceLT, Nat.reduceMul, Nat.reduceSub, ↓reduceIte, Int.reduceLT, Int.reduceLE, Int.reduceNeg, Int.reduceAdd, Int.reduceEq, Nat.reduceBneDiff, Nat.reduceBEq, Int.reduceToNat, Int.reduceMul, Int.reduceSub, Int.reduceBEq, Int.reduceBNe, g34], by simp only [go_sem, Wk_block, Wk_drawnC, reduceCtorEq, Nat.reduceEqDiff, Nat.reduceAdd, Nat.reduceLeDiff, Nat.reduceLT, Nat.reduceMul, Nat.reduceSub, ↓reduceIte, Int.reduceLT, Int.reduceLE, Int.reduceNeg, Int.reduceAdd, Int.reduceEq, Nat.reduceBneDiff, Nat.reduceBEq, Int.reduceToNat, Int.reduceMul, Int.reduceSub, Int.reduceBEq, Int.reduceBNe, g1], by simp only [go_sem, Wk_block, Wk_drawnC, reduceCtorEq, Nat.reduceEqDiff, Nat.reduceAdd, Nat.reduceLeDiff, Nat.reduceLT, Nat.reduceMul, Nat.reduceSub, ↓reduceIte, Int.reduceLT, Int.reduceLE, Int.reduceNeg, Int.reduceAdd, Int.reduceEq, Nat.reduceBneDiff, Nat.reduceBEq, Int.reduceToNat, Int.reduceMul, Int.reduceSub, Int.reduceBEq, Int.reduceBNe, g2], by simp only [go_sem, Wk_block, Wk_drawnC, reduceCtorEq, Nat.reduceEqDiff, Nat.reduceAdd, Nat.reduceLeDiff, Nat.reduceLT, Nat.reduceMul, Nat.reduceSub, ↓reduceIte, Int.reduceLT, Int.reduceLE, Int.reduceNeg, Int.reduceAdd, Int.reduceEq, Nat.reduceBneDiff, Nat.reduceBEq, Int.reduceToNat, Int.reduceMul, Int.reduceSub, Int.reduceBEq, Int.reduceBNe, g3], by simp only [go_sem, Wk_block, Wk_drawnC, reduceCtorEq, Nat.reduceEqDiff, Nat.reduceAdd, Nat.reduceLeDiff, Nat.reduceLT, Nat.reduceMul, Nat.reduceSub, ↓reduceIte, Int.reduceLT, Int.reduceLE, Int.reduceNeg, Int.reduceAdd, Int.reduceEq, Nat.reduceBneDiff, Nat.reduceBEq, Int.reduceToNat, Int.reduceMul, Int.reduceSub, Int.reduceBEq, Int.reduceBNe, g7], by simp only [go_sem, Wk_block, Wk_drawnC, reduceCtorEq, Nat.reduceEqDiff, Nat.reduceAdd, Nat.reduceLeDiff, Nat.reduceLT, Nat.reduceMul, Nat.reduceSub, ↓reduceIte, Int.reduceLT, Int.reduceLE, Int.reduceNeg, Int.reduceAdd, Int.reduceEq, Nat.reduceBneDiff, Nat.reduceBEq, Int.reduceToNat, Int.reduceMul, Int.reduceSub, Int.reduceBEq, Int.reduceBNe, g8], by simp only [go_sem, Wk_block, Wk_drawnC, reduceCtorEq, Nat.reduceEqDiff, Nat.reduceAdd, Nat.reduceLeDiff, Nat.reduceLT, Nat.reduceMul, Nat.reduceSub, ↓reduceIte, Int.reduceLT, Int.reduceLE, Int.reduceNeg, Int.reduceAdd, Int.reduceEq, Nat.reduceBneDiff, Nat.reduceBEq, Int.reduceToNat, Int.reduceMul, Int.reduceSub, Int.reduceBEq, Int.reduceBNe, g11], by simp only [go_sem, Wk_block, Wk_drawnC, reduceCtorEq, Nat.reduceEqDiff, Nat.reduceAdd, Nat.reduceLeDiff, Nat.reduceLT, Nat.reduceMul, Nat.reduceSub, ↓reduceIte, Int.reduceLT, Int.reduceLE, Int.reduceNeg, Int.reduceAdd, Int.reduceEq, Nat.reduceBneDiff, Nat.reduceBEq, Int.reduceToNat, Int.reduceMul, Int.reduceSub, Int.reduceBEq, Int.reduceBNe, g12], rfl⟩
    clear g36 g35 g34 g1 g2 g3 g7 g8
    rintro ts _ ⟨g36, g35, g34, g1, g2, g3, g7, g8, g11, g12, rfl⟩
    by_cases hgt : oth > own
    · have cg : decide (oth > own) = true := decide_eq_true hgt
      have cg2 : decide (own < oth) = true := decide_eq_true hgt
      by_cases hin : oth ∈ L
      · have hin2 : decide (oth ∈ L) = true := decide_eq_true hin
        have htk2 : lat k.span own (l.take (j + 1)) [] = L := by rw [htk, if_neg (fun h => h.2 hin)]
        simp -implicitDefEqProofs only [go_sem, Wk_block, Wk_drawnC, reduceCtorEq, Nat.reduceEqDiff, Nat.reduceAdd, Nat.reduceLeDiff, Nat.reduceLT, Nat.reduceMul, Nat.reduceSub, ↓reduceIte, Int.reduceLT, Int.reduceLE, Int.reduceNeg, Int.reduceAdd, Int.reduceEq, Nat.reduceBneDiff, Nat.reduceBEq, Int.reduceToNat, Int.reduceMul, Int.reduceSub, Int.reduceBEq, Int.reduceBNe, g36, g35, g34, g1, g2, g3, g7, g8, g11, g12, cg, cg2, hin2, w36, Bool.not_true, ft]
        exact IH (l.length - (j + 1)) _ _ (by omega) ⟨j + 1, w, rfl, by omega, by simp only [go_sem, Wk_block, Wk_drawnC, reduceCtorEq, Nat.reduceEqDiff, Nat.reduceAdd, Nat.reduceLeDiff, Nat.reduceLT, Nat.reduceMul, Nat.reduceSub, ↓reduceIte, Int.reduceLT, Int.reduceLE, Int.reduceNeg, Int.reduceAdd, Int.reduceEq, Nat.reduceBneDiff, Nat.reduceBEq, Int.reduceToNat, Int.reduceMul, Int.reduceSub, Int.reduceBEq, Int.reduceBNe], by simp only [go_sem, Wk_block, Wk_drawnC, reduceCtorEq, Nat.reduceEqDiff, Nat.reduceAdd, Nat.reduceLeDiff, Nat.reduceLT, Nat.reduceMul, Nat.reduceSub, ↓reduceIte, Int.reduceLT, Int.reduceLE, Int.reduceNeg, Int.reduceAdd, Int.reduceEq, Nat.reduceBneDiff, Nat.reduceBEq, Int.reduceToNat, Int.reduceMul, Int.reduceSub, Int.reduceBEq, Int.reduceBNe, g35], by simp only [go_sem, Wk_block, Wk_drawnC, reduceCtorEq, Nat.reduceEqDiff, Nat.reduceAdd, Nat.reduceLeDiff, Nat.reduceLT, Nat.reduceMul, Nat.reduceSub, ↓reduceIte, Int.reduceLT, Int.reduceLE, Int.reduceNeg, Int.reduceAdd, Int.reduceEq, Nat.reduceBneDiff, Nat.reduceBEq, Int.reduceToNat, Int.reduceMul, Int.reduceSub, Int.reduceBEq, Int.reduceBNe, g34], by simp only [go_sem, Wk_block, Wk_drawnC, reduceCtorEq, Nat.reduceEqDiff, Nat.reduceAdd, Nat.reduceLeDiff, Nat.reduceLT, Nat.reduceMul, Nat.reduceSub, ↓reduceIte, Int.reduceLT, Int.reduceLE, Int.reduceNeg, Int.reduceAdd, Int.reduceEq, Nat.reduceBneDiff, Nat.reduceBEq, Int.reduceToNat, Int.reduceMul, Int.reduceSub, Int.reduceBEq, Int.reduceBNe, g1], by simp only [go_sem, Wk_block, Wk_drawnC, reduceCtorEq, Nat.reduceEqDiff, Nat.reduceAdd, Nat.reduceLeDiff, Nat.reduceLT, Nat.reduceMul, Nat.reduceSub, ↓reduceIte, Int.reduceLT, Int.reduceLE, Int.reduceNeg, Int.reduceAdd, Int.reduceEq, Nat.reduceBneDiff, Nat.reduceBEq, Int.reduceToNat, Int.reduceMul, Int.reduceSub, Int.reduceBEq, Int.reduceBNe, g2], by simp only [go_sem, Wk_block, Wk_drawnC, reduceCtorEq, Nat.reduceEqDiff, Nat.reduceAdd, Nat.reduceLeDiff, Nat.reduceLT, Nat.reduceMul, Nat.reduceSub, ↓reduceIte, Int.reduceLT, Int.reduceLE, Int.reduceNeg, Int.reduceAdd, Int.reduceEq, Nat.reduceBneDiff, Nat.reduceBEq, Int.reduceToNat, Int.reduceMul, Int.reduceSub, Int.reduceBEq, Int.reduceBNe, g3], by simp only [go_sem, Wk_block, Wk_drawnC, reduceCtorEq, Nat.reduceEqDiff, Nat.reduceAdd, Nat.reduceLeDiff, Nat.reduceLT, Nat.reduceMul, Nat.reduceSub, ↓reduceIte, Int.reduceLT, Int.reduceLE, Int.reduceNeg, Int.reduceAdd, Int.reduceEq, Nat.reduceBneDiff, Nat.reduceBEq, Int.reduceToNat, Int.reduceMul, Int.reduceSub, Int.reduceBEq, Int.reduceBNe, g7], by simp only [go_sem, Wk_block, Wk_drawnC, reduceCtorEq, Nat.reduceEqDiff, Nat.reduceAdd, Nat.reduceLeDiff, Nat.reduceLT, Nat.reduceMul, Nat.reduceSub, ↓reduceIte, Int.reduceLT, Int.reduceLE, Int.reduceNeg, Int.reduceAdd, Int.reduceEq, Nat.reduceBneDiff, Nat.reduceBEq, Int.reduceToNat, Int.reduceMul, Int.reduceSub, Int.reduceBEq, Int.reduceBNe, g8], by rw [htk2]; exact hoL, hga5, hF5, hN5, hlast2⟩
      · have hin2 : decide (oth ∈ L) = false := decide_eq_false hin
        have htk2 : lat k.span own (l.take (j + 1)) [] = L ++ [oth] := by rw [htk, if_pos ⟨hgt, hin⟩]
        have hce := hoL.cell
        obtain ⟨w', s6, happ, ho6, hnx, hfr⟩ := OutG.push (eb := 4) (hoL.fr ((Fr.refl s5).new (.cells [.int .u32 oth] false false 0))) (by simp only [St.next_new]; omega) hL1 (x := [uI oth]) rfl rfl (by rw [hlstl]; omega)
        unfold uI at happ
        simp -implicitDefEqProofs only [go_sem, Wk_block, Wk_drawnC, reduceCtorEq, Nat.reduceEqDiff, Nat.reduceAdd, Nat.reduceLeDiff, Nat.reduceLT, Nat.reduceMul, Nat.reduceSub, ↓reduceIte, Int.reduceLT, Int.reduceLE, Int.reduceNeg, Int.reduceAdd, Int.reduceEq, Nat.reduceBneDiff, Nat.reduceBEq, Int.reduceToNat, Int.reduceMul, Int.reduceSub, Int.reduceBEq, Int.reduceBNe, g36, g35, g34, g1, g2, g3, g7, g8, g11, g12, cg, cg2, hin2, w36, Bool.not_false, srcA, happ, ft]
        simp only [St.next_new] at hnx
        have hl6 : lst L ++ [[uI oth]] = lst (L ++ [oth]) := by unfold lst; rw [List.map_append]; rfl
        rw [hl6] at ho6
        refine IH (l.length - (j + 1)) _ _ (by omega) ⟨j + 1, w', rfl, by omega, by simp only [go_sem, Wk_block, Wk_drawnC, reduceCtorEq, Nat.reduceEqDiff, Nat.reduceAdd, Nat.reduceLeDiff, Nat.reduceLT, Nat.reduceMul, Nat.reduceSub, ↓reduceIte, Int.reduceLT, Int.reduceLE, Int.reduceNeg, Int.reduceAdd, Int.reduceEq, Nat.reduceBneDiff, Nat.reduceBEq, Int.reduceToNat, Int.reduceMul, Int.reduceSub, Int.reduceBEq, Int.reduceBNe], by simp only [go_sem, Wk_block, Wk_drawnC, reduceCtorEq, Nat.reduceEqDiff, Nat.reduceAdd, Nat.reduceLeDiff, Nat.reduceLT, Nat.reduceMul, Nat.reduceSub, ↓reduceIte, Int.reduceLT, Int.reduceLE, Int.reduceNeg, Int.reduceAdd, Int.reduceEq, Nat.reduceBneDiff, Nat.reduceBEq, Int.reduceToNat, Int.reduceMul, Int.reduceSub, Int.reduceBEq, Int.reduceBNe, g35], by simp only [go_sem, Wk_block, Wk_drawnC, reduceCtorEq, Nat.reduceEqDiff, Nat.reduceAdd, Nat.reduceLeDiff, Nat.reduceLT, Nat.reduceMul, Nat.reduceSub, ↓reduceIte, Int.reduceLT, Int.reduceLE, Int.reduceNeg, Int.reduceAdd, Int.reduceEq, Nat.reduceBneDiff, Nat.reduceBEq, Int.reduceToNat, Int.reduceMul, Int.reduceSub, Int.reduceBEq, Int.reduceBNe, g34], by simp only [go_sem, Wk_block, Wk_drawnC, reduceCtorEq, Nat.reduceEqDiff, Nat.reduceAdd, Nat.reduceLeDiff, Nat.reduceLT, Nat.reduceMul, Nat.reduceSub, ↓reduceIte, Int.reduceLT, Int.reduceLE, Int.reduceNeg, Int.reduceAdd, Int.reduceEq, Nat.reduceBneDiff, Nat.reduceBEq, Int.reduceToNat, Int.reduceMul, Int.reduceSub, Int.reduceBEq, Int.reduceBNe, g1], by simp only [go_sem, Wk_block, Wk_drawnC, reduceCtorEq, Nat.reduceEqDiff, Nat.reduceAdd, Nat.reduceLeDiff, Nat.reduceLT, Nat.reduceMul, Nat.reduceSub, ↓reduceIte, Int.reduceLT, Int.reduceLE, Int.reduceNeg, Int.reduceAdd, Int.reduceEq, Nat.reduceBneDiff, Nat.reduceBEq, Int.reduceToNat, Int.reduceMul, Int.reduceSub, Int.reduceBEq, Int.reduceBNe, g2], by simp only [go_sem, Wk_block, Wk_drawnC, reduceCtorEq, Nat.reduceEqDiff, Nat.reduceAdd, Nat.reduceLeDiff, Nat.reduceLT, Nat.reduceMul, Nat.reduceSub, ↓reduceIte, Int.reduceLT, Int.reduceLE, Int.reduceNeg, Int.reduceAdd, Int.reduceEq, Nat.reduceBneDiff, Nat.reduceBEq, Int.reduceToNat, Int.reduceMul, Int.reduceSub, Int.reduceBEq, Int.reduceBNe, g3], by simp only [go_sem, Wk_block, Wk_drawnC, reduceCtorEq, Nat.reduceEqDiff, Nat.reduceAdd, Nat.reduceLeDiff, Nat.reduceLT, Nat.reduceMul, Nat.reduceSub, ↓reduceIte, Int.reduceLT, Int.reduceLE, Int.reduceNeg, Int.reduceAdd, Int.reduceEq, Nat.reduceBneDiff, Nat.reduceBEq, Int.reduceToNat, Int.reduceMul, Int.reduceSub, Int.reduceBEq, Int.reduceBNe, g7], by simp only [go_sem, Wk_block, Wk_drawnC, reduceCtorEq, Nat.reduceEqDiff, Nat.reduceAdd, Nat.reduceLeDiff, Nat.reduceLT, Nat.reduceMul, Nat.reduceSub, ↓reduceIte, Int.reduceLT, Int.reduceLE, Int.reduceNeg, Int.reduceAdd, Int.reduceEq, Nat.reduceBneDiff, Nat.reduceBEq, Int.reduceToNat, Int.reduceMul, Int.reduceSub, Int.reduceBEq, Int.reduceBNe], by rw [htk2]; exact ho6, ?_, ⟨?_, fun y hy => ?_⟩, by omega, hlast2⟩
        · rw [hfr a (by omega), St.get_new, if_neg (by omega)]; exact hga5
        · have := hF5.le; omega
        · have := hF5.le; rw [hfr y (by omega), St.get_new, if_neg (by omega)]; exact hF5.get y hy
    · have cg : decide (oth > own) = false := decide_eq_false hgt
      have cg2 : decide (own < oth) = false := decide_eq_false hgt
      have htk2 : lat k.span own (l.take (j + 1)) [] = L := by rw [htk, if_neg (fun h => hgt h.1)]
      simp -implicitDefEqProofs only [go_sem, Wk_block, Wk_drawnC, reduceCtorEq, Nat.reduceEqDiff, Nat.reduceAdd, Nat.reduceLeDiff, Nat.reduceLT, Nat.reduceMul, Nat.reduceSub, ↓reduceIte, Int.reduceLT, Int.reduceLE, Int.reduceNeg, Int.reduceAdd, Int.reduceEq, Nat.reduceBneDiff, Nat.reduceBEq, Int.reduceToNat, Int.reduceMul, Int.reduceSub, Int.reduceBEq, Int.reduceBNe, g36, g35, g34, g1, g2, g3, g7, g8, g11, g12, cg, cg2, w36, ft]
      exact IH (l.length - (j + 1)) _ _ (by omega) ⟨j + 1, w, rfl, by omega, by simp only [go_sem, Wk_block, Wk_drawnC, reduceCtorEq, Nat.reduceEqDiff, Nat.reduceAdd, Nat.reduceLeDiff, Nat.reduceLT, Nat.reduceMul, Nat.reduceSub, ↓reduceIte, Int.reduceLT, Int.reduceLE, Int.reduceNeg, Int.reduceAdd, Int.reduceEq, Nat.reduceBneDiff, Nat.reduceBEq, Int.reduceToNat, Int.reduceMul, Int.reduceSub, Int.reduceBEq, Int.reduceBNe], by simp only [go_sem, Wk_block, Wk_drawnC, reduceCtorEq, Nat.reduceEqDiff, Nat.reduceAdd, Nat.reduceLeDiff, Nat.reduceLT, Nat.reduceMul, Nat.reduceSub, ↓reduceIte, Int.reduceLT, Int.reduceLE, Int.reduceNeg, Int.reduceAdd, Int.reduceEq, Nat.reduceBneDiff, Nat.reduceBEq, Int.reduceToNat, Int.reduceMul, Int.reduceSub, Int.reduceBEq, Int.reduceBNe, g35], by simp only [go_sem, Wk_block, Wk_drawnC, reduceCtorEq, Nat.reduceEqDiff, Nat.reduceAdd, Nat.reduceLeDiff, Nat.reduceLT, Nat.reduceMul, Nat.reduceSub, ↓reduceIte, Int.reduceLT, Int.reduceLE, Int.reduceNeg, Int.reduceAdd, Int.reduceEq, Nat.reduceBneDiff, Nat.reduceBEq, Int.reduceToNat, Int.reduceMul, Int.reduceSub, Int.reduceBEq, Int.reduceBNe, g34], by simp only [go_sem, Wk_block, Wk_drawnC, reduceCtorEq, Nat.reduceEqDiff, Nat.reduceAdd, Nat.reduceLeDiff, Nat.reduceLT, Nat.reduceMul, Nat.reduceSub, ↓reduceIte, Int.reduceLT, Int.reduceLE, Int.reduceNeg, Int.reduceAdd, Int.reduceEq, Nat.reduceBneDiff, Nat.reduceBEq, Int.reduceToNat, Int.reduceMul, Int.reduceSub, Int.reduceBEq, Int.reduceBNe, g1], by simp only [go_sem, Wk_block, Wk_drawnC, reduceCtorEq, Nat.reduceEqDiff, Nat.reduceAdd, Nat.reduceLeDiff, Nat.reduceLT, Nat.reduceMul, Nat.reduceSub, ↓reduceIte, Int.reduceLT, Int.reduceLE, Int.reduceNeg, Int.reduceAdd, Int.reduceEq, Nat.reduceBneDiff, Nat.reduceBEq, Int.reduceToNat, Int.reduceMul, Int.reduceSub, Int.reduceBEq, Int.reduceBNe, g2], by simp only [go_sem, Wk_block, Wk_drawnC, reduceCtorEq, Nat.reduceEqDiff, Nat.reduceAdd, Nat.reduceLeDiff, Nat.reduceLT, Nat.reduceMul, Nat.reduceSub, ↓reduceIte, Int.reduceLT, Int.reduceLE, Int.reduceNeg, Int.reduceAdd, Int.reduceEq, Nat.reduceBneDiff, Nat.reduceBEq, Int.reduceToNat, Int.reduceMul, Int.reduceSub, Int.reduceBEq, Int.reduceBNe, g3], by simp only [go_sem, Wk_block, Wk_drawnC, reduceCtorEq, Nat.reduceEqDiff, Nat.reduceAdd, Nat.reduceLeDiff, Nat.reduceLT, Nat.reduceMul, Nat.reduceSub, ↓reduceIte, Int.reduceLT, Int.reduceLE, Int.reduceNeg, Int.reduceAdd, Int.reduceEq, Nat.reduceBneDiff, Nat.reduceBEq, Int.reduceToNat, Int.reduceMul, Int.reduceSub, Int.reduceBEq, Int.reduceBNe, g7], by simp only [go_sem, Wk_block, Wk_drawnC, reduceCtorEq, Nat.reduceEqDiff, Nat.reduceAdd, Nat.reduceLeDiff, Nat.reduceLT, Nat.reduceMul, Nat.reduceSub, ↓reduceIte, Int.reduceLT, Int.reduceLE, Int.reduceNeg, Int.reduceAdd, Int.reduceEq, Nat.reduceBneDiff, Nat.reduceBEq, Int.reduceToNat, Int.reduceMul, Int.reduceSub, Int.reduceBEq, Int.reduceBNe, g8], by rw [htk2]; exact hoL, hga5, hF5, hN5, hlast2⟩
end Go.Proofs.Ytjejgnbdlfkenaa
namespace Go.Proofs.Ytjejgnbdlfkenaa
open D Base
set_option linter.unusedSimpArgs false
set_option linter.unusedVariables false
set_option maxRecDepth 10000

theorem enc_len {L : List Lb} : ∀ x ∈ L.map Lb.enc, x.length = 2 := by
  intro x hx
  obtain ⟨y, _, rfl⟩ := List.mem_map.1 hx
  rfl
theorem RKept_run {k : Kp} (hk : KpOk k) {l : List Sn} (hl : l.length ≤ 60) (h0 : ∀ x ∈ l, SnOk x) {v : AV} {s : St} (hR : Rd s v 4 (l.map Sn.enc)) :
    Wf mm 10 [.agg k.enc, v] s fun w s' => OutG s' s.next w 2 ((pickS k.last k.span k.spans l l).map Lb.enc) ∧ Fr s s' := by
  refine Wf_enter ft10 (sm (by decide)) (by rfl) ?_
  have ft : (false == true) = false := rfl
  have hlen := hR.len
  rw [List.length_map] at hlen
  obtain ⟨a, ha⟩ : ∃ a, s.next = a := ⟨_, rfl⟩
  simp -implicitDefEqProofs only [go_sem, Wk_block, Wk_drawnC, reduceCtorEq, Nat.reduceEqDiff, Nat.reduceAdd, Nat.reduceLeDiff, Nat.reduceLT, Nat.reduceMul, Nat.reduceSub, ↓reduceIte, Int.reduceLT, Int.reduceLE, Int.reduceNeg, Int.reduceAdd, Int.reduceEq, Nat.reduceBneDiff, Nat.reduceBEq, Int.reduceToNat, Int.reduceMul, Int.reduceSub, Int.reduceBEq, Int.reduceBNe, fd10, hlen, ha, ft]
  have f0 : Fr s ((s.new (.cells k.enc false false 0)).new (.cells [] false false 0)) := ((Fr.refl s).new _).new _
  have ga : ((s.new (.cells k.enc false false 0)).new (.cells [] false false 0)).get a = some (.cells k.enc false false 0) := by rw [St.get_new, if_neg (by rw [St.next_new]; omega), St.get_new, if_pos ha.symm]
  have gl : OutG ((s.new (.cells k.enc false false 0)).new (.cells [] false false 0)) (a + 1) (.slice (a + 1) 0 0 0 false) 2 (([] : List Lb).map Lb.enc) := .inl ⟨a + 1, rfl, rfl, Nat.le_refl _, by simp only [St.next_new]; omega, by rw [St.get_new, if_pos (by rw [St.next_new, ha])]⟩
  have hn : a + 1 ≤ ((s.new (.cells k.enc false false 0)).new (.cells [] false false 0)).next := by simp only [St.next_new]; omega
  generalize (s.new (.cells k.enc false false 0)).new (.cells [] false false 0) = s0 at f0 ga gl hn ⊢
  refine loop_ind (fun m ts s' => ∃ (j : Nat) (w : AV) (A : List Lb), m = l.length - j ∧ j ≤ l.length ∧ ts.get 11 = some (.int .i64 (j : Int)) ∧ ts.get 10 = some (.int .i64 (l.length : Int)) ∧ ts.get 9 = some v ∧ ts.get 1 = some v ∧ ts.get 2 = some (.ptr a 0) ∧ ts.get 5 = some w ∧
    OutG s' (a + 1) w 2 (A.map Lb.enc) ∧ A.length ≤ j ∧ A ++ pickS k.last k.span k.spans l (l.drop j) = pickS k.last k.span k.spans l l ∧ s'.get a = some (.cells k.enc false false 0) ∧ Fr s s' ∧ a + 1 ≤ s'.next) ?_ (n := l.length)
    ⟨0, .slice (a + 1) 0 0 0 false, [], rfl, by omega, by simp only [go_sem, Wk_block, Wk_drawnC, reduceCtorEq, Nat.reduceEqDiff, Nat.reduceAdd, Nat.reduceLeDiff, Nat.reduceLT, Nat.reduceMul, Nat.reduceSub, ↓reduceIte, Int.reduceLT, Int.reduceLE, Int.reduceNeg, Int.reduceAdd, Int.reduceEq, Nat.reduceBneDiff, Nat.reduceBEq, Int.reduceToNat, Int.reduceMul, Int.reduceSub, Int.reduceBEq, Int.reduceBNe], by simp only [go_sem, Wk_block, Wk_drawnC, reduceCtorEq, Nat.reduceEqDiff, Nat.reduceAdd, Nat.reduceLeDiff, Nat.reduceLT, Nat.reduceMul, Nat.reduceSub, ↓reduceIte, Int.reduceLT, Int.reduceLE, Int.reduceNeg, Int.reduceAdd, Int.reduceEq, Nat.reduceBneDiff, Nat.reduceBEq, Int.reduceToNat, Int.reduceMul, Int.reduceSub, Int.reduceBEq, Int.reduceBNe], by simp only [go_sem, Wk_block, Wk_drawnC, reduceCtorEq, Nat.reduceEqDiff, Nat.reduceAdd, Nat.reduceLeDiff, Nat.reduceLT, Nat.reduceMul, Nat.reduceSub, ↓reduceIte, Int.reduceLT, Int.reduceLE, Int.reduceNeg, Int.reduceAdd, Int.reduceEq, Nat.reduceBneDiff, Nat.reduceBEq, Int.reduceToNat, Int.reduceMul, Int.reduceSub, Int.reduceBEq, Int.reduceBNe], by simp only [go_sem, Wk_block, Wk_drawnC, reduceCtorEq, Nat.reduceEqDiff, Nat.reduceAdd, Nat.reduceLeDiff, Nat.reduceLT, Nat.reduceMul, Nat.reduceSub, ↓reduceIte, Int.reduceLT, Int.reduceLE, Int.reduceNeg, Int.reduceAdd, Int.reduceEq, Nat.reduceBneDiff, Nat.reduceBEq, Int.reduceToNat, Int.reduceMul, Int.reduceSub, Int.reduceBEq, Int.reduceBNe], by simp only [go_sem, Wk_block, Wk_drawnC, reduceCtorEq, Nat.reduceEqDiff, Nat.reduceAdd, Nat.reduceLeDiff, Nat.reduceLT, Nat.reduceMul, Nat.reduceSub, ↓reduceIte, Int.reduceLT, Int.reduceLE, Int.reduceNeg, Int.reduceAdd, Int.reduceEq, Nat.reduceBneDiff, Nat.reduceBEq, Int.reduceToNat, Int.reduceMul, Int.reduceSub, Int.reduceBEq, Int.reduceBNe], by simp only [go_sem, Wk_block, Wk_drawnC, reduceCtorEq, Nat.reduceEqDiff, Nat.reduceAdd, Nat.reduceLeDiff, Nat.reduceLT, Nat.reduceMul, Nat.reduceSub, ↓reduceIte, Int.reduceLT, Int.reduceLE, Int.reduceNeg, Int.reduceAdd, Int.reduceEq, Nat.reduceBneDiff, Nat.reduceBEq, Int.reduceToNat, Int.reduceMul, Int.reduceSub, Int.reduceBEq, Int.reduceBNe], gl, by simp, rfl, ga, f0, hn⟩
  rintro _ ts s1 ⟨j, w, A, rfl, hj, g11, g10, g9, g1, g2, g5, ho, hA, hpk, ga1, f1, hn1⟩ IH
  by_cases hlt : j < l.length
  rotate_left
  · simp -implicitDefEqProofs only [go_sem, Wk_block, Wk_drawnC, reduceCtorEq, Nat.reduceEqDiff, Nat.reduceAdd, Nat.reduceLeDiff, Nat.reduceLT, Nat.reduceMul, Nat.reduceSub, ↓reduceIte, Int.reduceLT, Int.reduceLE, Int.reduceNeg, Int.reduceAdd, Int.reduceEq, Nat.reduceBneDiff, Nat.reduceBEq, Int.reduceToNat, Int.reduceMul, Int.reduceSub, Int.reduceBEq, Int.reduceBNe, g11, g10, g5, hlt, ft]
    rw [List.drop_eq_nil_of_le (by omega)] at hpk
    have hpk2 : A = pickS k.last k.span k.spans l l := by rw [← hpk]; simp [pickS]
    rw [← hpk2]
    refine ⟨?_, f1⟩
    rcases ho with ⟨q, h1, h2, h3, h4, h5⟩ | ⟨p, h1, h2, h3, h4, h5⟩
    · exact .inl ⟨q, h1, h2, by omega, h4, h5⟩
    · exact .inr ⟨p, h1, h2, by omega, h4, h5⟩
  have hjl : j < (l.map Sn.enc).length := by rw [List.length_map]; exact hlt
  obtain ⟨b1, o1, vs1, lo3, ro1, z1, hidx1, hg1, hle1, heq1, hbl1⟩ := (hR.mono f1).at_ hjl
  rw [List.getElem_map] at heq1
  have w11 := succ_in (j := j) (by omega)
  have hdr : l.drop j = l[j] :: l.drop (j + 1) := List.drop_eq_getElem_cons hlt
  rw [hdr, pickS, List.length_drop, show l.length - (j + 1) + 1 = l.length - j by omega] at hpk
  have hle4 : o1 + (j * 4 + 4) ≤ vs1.length := by omega
  have hne : ¬ a = s1.next := by omega
  have heq2 := heq1
  unfold Sn.enc at heq2
  have f5 : Fr s (s1.new (.cells [.int .u32 l[j].l.e, .int .u32 l[j].l.q, .int .i64 l[j].r, .int .u32 l[j].t] false false 0)) := f1.new _
  simp -implicitDefEqProofs only [go_sem, Wk_block, Wk_drawnC, reduceCtorEq, Nat.reduceEqDiff, Nat.reduceAdd, Nat.reduceLeDiff, Nat.reduceLT, Nat.reduceMul, Nat.reduceSub, ↓reduceIte, Int.reduceLT, Int.reduceLE, Int.reduceNeg, Int.reduceAdd, Int.reduceEq, Nat.reduceBneDiff, Nat.reduceBEq, Int.reduceToNat, Int.reduceMul, Int.reduceSub, Int.reduceBEq, Int.reduceBNe, g11, g10, g9, g1, g2, g5, hlt, hidx1, hg1, hle1, hle4, heq2, w11, ga1, hne, ft]
  refine Wl_of (kept_run hk hl h0 (hR.mono f5) hlt) ?_
  rintro w9 s5 ⟨rfl, f9⟩
  have hF5 := f5.trans f9
  have hga5 : s5.get a = some (.cells k.enc false false 0) := (f9.get a (by rw [St.next_new]; omega)).trans (by rw [St.get_new, if_neg hne]; exact ga1)
  have hN5 : s1.next < s5.next := by have := f9.le; rw [St.next_new] at this; omega
  have hx5 : s5.get s1.next = some (.cells [.int .u32 l[j].l.e, .int .u32 l[j].l.q, .int .i64 l[j].r, .int .u32 l[j].t] false false 0) := (f9.get s1.next (by rw [St.next_new]; omega)).trans (by rw [St.get_new, if_pos rfl])
  have hoL := (ho.fr ((Fr.refl s1).new (.cells [.int .u32 l[j].l.e, .int .u32 l[j].l.q, .int .i64 l[j].r, .int .u32 l[j].t] false false 0))).fr f9
  have hce := hoL.cell
  cases hkb : keptB k.last k.span k.spans l (l.length - j) l[j]
  · rw [hkb] at hpk
    simp -implicitDefEqProofs only [go_sem, Wk_block, Wk_drawnC, reduceCtorEq, Nat.reduceEqDiff, Nat.reduceAdd, Nat.reduceLeDiff, Nat.reduceLT, Nat.reduceMul, Nat.reduceSub, ↓reduceIte, Int.reduceLT, Int.reduceLE, Int.reduceNeg, Int.reduceAdd, Int.reduceEq, Nat.reduceBneDiff, Nat.reduceBEq, Int.reduceToNat, Int.reduceMul, Int.reduceSub, Int.reduceBEq, Int.reduceBNe, g11, g10, g9, g1, g2, g5, hkb, w11, ft]
    exact IH (l.length - (j + 1)) _ _ (by omega) ⟨j + 1, w, A, rfl, by omega, by simp only [go_sem, Wk_block, Wk_drawnC, reduceCtorEq, Nat.reduceEqDiff, Nat.reduceAdd, Nat.reduceLeDiff, Nat.reduceLT, Nat.reduceMul, Nat.reduceSub, ↓reduceIte, Int.reduceLT, Int.reduceLE, Int.reduceNeg, Int.reduceAdd, Int.reduceEq, Nat.reduceBneDiff, Nat.reduceBEq, Int.reduceToNat, Int.reduceMul, Int.reduceSub, Int.reduceBEq, Int.reduceBNe], by simp only [go_sem, Wk_block, Wk_drawnC, reduceCtorEq, Nat.reduceEqDiff, Nat.reduceAdd, Nat.reduceLeDiff, Nat.reduceLT, Nat.reduceMul, Nat.reduceSub, ↓reduceIte, Int.reduceLT, Int.reduceLE, Int.reduceNeg, Int.reduceAdd, Int.reduceEq, Nat.reduceBneDiff, Nat.reduceBEq, Int.reduceToNat, Int.reduceMul, Int.reduceSub, Int.reduceBEq, Int.reduceBNe, g10], by simp only [go_sem, Wk_block, Wk_drawnC, reduceCtorEq, Nat.reduceEqDiff, Nat.reduceAdd, Nat.reduceLeDiff, Nat.reduceLT, Nat.reduceMul, Nat.reduceSub, ↓reduceIte, Int.reduceLT, Int.reduceLE, Int.reduceNeg, Int.reduceAdd, Int.reduceEq, Nat.reduceBneDiff, Nat.reduceBEq, Int.reduceToNat, Int.reduceMul, Int.reduceSub, Int.reduceBEq, Int.reduceBNe, g9], by simp only [go_sem, Wk_block, Wk_drawnC, reduceCtorEq, Nat.reduceEqDiff, Nat.reduceAdd, Nat.reduceLeDiff, Nat.reduceLT, Nat.reduceMul, Nat.reduceSub, ↓reduceIte, Int.reduceLT, Int.reduceLE, Int.reduceNeg, Int.reduceAdd, Int.reduceEq, Nat.reduceBneDiff, Nat.reduceBEq, Int.reduceToNat, Int.reduceMul, Int.reduceSub, Int.reduceBEq, Int.reduceBNe, g1], by simp only [go_sem, Wk_block, Wk_drawnC, reduceCtorEq, Nat.reduceEqDiff, Nat.reduceAdd, Nat.reduceLeDiff, Nat.reduceLT, Nat.reduceMul, Nat.reduceSub, ↓reduceIte, Int.reduceLT, Int.reduceLE, Int.reduceNeg, Int.reduceAdd, Int.reduceEq, Nat.reduceBneDiff, Nat.reduceBEq, Int.reduceToNat, Int.reduceMul, Int.reduceSub, Int.reduceBEq, Int.reduceBNe, g2], by simp only [go_sem, Wk_block, Wk_drawnC, reduceCtorEq, Nat.reduceEqDiff, Nat.reduceAdd, Nat.reduceLeDiff, Nat.reduceLT, Nat.reduceMul, Nat.reduceSub, ↓reduceIte, Int.reduceLT, Int.reduceLE, Int.reduceNeg, Int.reduceAdd, Int.reduceEq, Nat.reduceBneDiff, Nat.reduceBEq, Int.reduceToNat, Int.reduceMul, Int.reduceSub, Int.reduceBEq, Int.reduceBNe, g5], hoL, by omega, hpk, hga5, hF5, by omega⟩
  · rw [hkb, if_pos rfl, ← List.append_assoc] at hpk
    obtain ⟨w', s6, happ, ho6, hnx, hfr⟩ := OutG.push (eb := 8) (hoL.fr ((Fr.refl s5).new (.cells [.int .u32 l[j].l.e, .int .u32 l[j].l.q] false false 0))) (by simp only [St.next_new]; omega) enc_len (x := l[j].l.enc) rfl rfl (by rw [List.length_map]; omega)
    unfold Lb.enc at happ
    simp -implicitDefEqProofs only [go_sem, Wk_block, Wk_drawnC, reduceCtorEq, Nat.reduceEqDiff, Nat.reduceAdd, Nat.reduceLeDiff, Nat.reduceLT, Nat.reduceMul, Nat.reduceSub, ↓reduceIte, Int.reduceLT, Int.reduceLE, Int.reduceNeg, Int.reduceAdd, Int.reduceEq, Nat.reduceBneDiff, Nat.reduceBEq, Int.reduceToNat, Int.reduceMul, Int.reduceSub, Int.reduceBEq, Int.reduceBNe, g11, g10, g9, g1, g2, g5, hkb, hx5, w11, hce, srcA, happ, ft]
    simp only [St.next_new] at hnx
    have hl6 : A.map Lb.enc ++ [l[j].l.enc] = (A ++ [l[j].l]).map Lb.enc := by simp
    rw [hl6] at ho6
    refine IH (l.length - (j + 1)) _ _ (by omega) ⟨j + 1, w', A ++ [l[j].l], rfl, by omega, by simp only [go_sem, Wk_block, Wk_drawnC, reduceCtorEq, Nat.reduceEqDiff, Nat.reduceAdd, Nat.reduceLeDiff, Nat.reduceLT, Nat.reduceMul, Nat.reduceSub, ↓reduceIte, Int.reduceLT, Int.reduceLE, Int.reduceNeg, Int.reduceAdd, Int.reduceEq, Nat.reduceBneDiff, Nat.reduceBEq, Int.reduceToNat, Int.reduceMul, Int.reduceSub, Int.reduceBEq, Int.reduceBNe], by simp only [go_sem, Wk_block, Wk_drawnC, reduceCtorEq, Nat.reduceEqDiff, Nat.reduceAdd, Nat.reduceLeDiff, Nat.reduceLT, Nat.reduceMul, Nat.reduceSub, ↓reduceIte, Int.reduceLT, Int.reduceLE, Int.reduceNeg, Int.reduceAdd, Int.reduceEq, Nat.reduceBneDiff, Nat.reduceBEq, Int.reduceToNat, Int.reduceMul, Int.reduceSub, Int.reduceBEq, Int.reduceBNe, g10], by simp only [go_sem, Wk_block, Wk_drawnC, reduceCtorEq, Nat.reduceEqDiff, Nat.reduceAdd, Nat.reduceLeDiff, Nat.reduceLT, Nat.reduceMul, Nat.reduceSub, ↓reduceIte, Int.reduceLT, Int.reduceLE, Int.reduceNeg, Int.reduceAdd, Int.reduceEq, Nat.reduceBneDiff, Nat.reduceBEq, Int.reduceToNat, Int.reduceMul, Int.reduceSub, Int.reduceBEq, Int.reduceBNe, g9], by simp only [go_sem, Wk_block, Wk_drawnC, reduceCtorEq, Nat.reduceEqDiff, Nat.reduceAdd, Nat.reduceLeDiff, Nat.reduceLT, Nat.reduceMul, Nat.reduceSub, ↓reduceIte, Int.reduceLT, Int.reduceLE, Int.reduceNeg, Int.reduceAdd, Int.reduceEq, Nat.reduceBneDiff, Nat.reduceBEq, Int.reduceToNat, Int.reduceMul, Int.reduceSub, Int.reduceBEq, Int.reduceBNe, g1], by simp only [go_sem, Wk_block, Wk_drawnC, reduceCtorEq, Nat.reduceEqDiff, Nat.reduceAdd, Nat.reduceLeDiff, Nat.reduceLT, Nat.reduceMul, Nat.reduceSub, ↓reduceIte, Int.reduceLT, Int.reduceLE, Int.reduceNeg, Int.reduceAdd, Int.reduceEq, Nat.reduceBneDiff, Nat.reduceBEq, Int.reduceToNat, Int.reduceMul, Int.reduceSub, Int.reduceBEq, Int.reduceBNe, g2], by simp only [go_sem, Wk_block, Wk_drawnC, reduceCtorEq, Nat.reduceEqDiff, Nat.reduceAdd, Nat.reduceLeDiff, Nat.reduceLT, Nat.reduceMul, Nat.reduceSub, ↓reduceIte, Int.reduceLT, Int.reduceLE, Int.reduceNeg, Int.reduceAdd, Int.reduceEq, Nat.reduceBneDiff, Nat.reduceBEq, Int.reduceToNat, Int.reduceMul, Int.reduceSub, Int.reduceBEq, Int.reduceBNe], ho6, by simp; omega, hpk, ?_, ⟨?_, fun y hy => ?_⟩, by omega⟩
    · rw [hfr a (by omega), St.get_new, if_neg (by omega)]; exact hga5
    · have := hF5.le; omega
    · have := hF5.le; rw [hfr y (by omega), St.get_new, if_neg (by omega)]; exact hF5.get y hy

theorem lb_neq {a b : Lb} : (!(a.e == b.e && a.q == b.q)) = !decide (a = b) := by rw [lb_eq]
theorem Same_run {A B : List Lb} {v w : AV} {s : St} (hA : Rd s v 2 (A.map Lb.enc)) (hB : Rd s w 2 (B.map Lb.enc)) : Wf mm 8 [v, w] s fun r s' => r = .bool (decide (A = B)) ∧ Fr s s' := by
  refine Wf_enter ft8 (sm (by decide)) (by rfl) ?_
  have ft : (false == true) = false := rfl
  have tf : (true == false) = false := rfl
  have hal := hA.len
  have hbl := hB.len
  have ham := hA.max
  rw [List.length_map] at hal hbl ham
  unfold maxLen at ham
  by_cases hlen : A.length = B.length
  rotate_left
  · have c1 : ((A.length : Int) != (B.length : Int)) = true := by simp; omega
    have c2 : decide (A = B) = false := decide_eq_false fun h => hlen (by rw [h])
    rw [c2]
    simp -implicitDefEqProofs only [go_sem, Wk_block, Wk_drawnC, reduceCtorEq, Nat.reduceEqDiff, Nat.reduceAdd, Nat.reduceLeDiff, Nat.reduceLT, Nat.reduceMul, Nat.reduceSub, ↓reduceIte, Int.reduceLT, Int.reduceLE, Int.reduceNeg, Int.reduceAdd, Int.reduceEq, Nat.reduceBneDiff, Nat.reduceBEq, Int.reduceToNat, Int.reduceMul, Int.reduceSub, Int.reduceBEq, Int.reduceBNe, fd8, hal, hbl, c1, ft]
    exact Fr.refl _
  have c1 : ((A.length : Int) != (B.length : Int)) = false := by simp; omega
  simp -implicitDefEqProofs only [go_sem, Wk_block, Wk_drawnC, reduceCtorEq, Nat.reduceEqDiff, Nat.reduceAdd, Nat.reduceLeDiff, Nat.reduceLT, Nat.reduceMul, Nat.reduceSub, ↓reduceIte, Int.reduceLT, Int.reduceLE, Int.reduceNeg, Int.reduceAdd, Int.reduceEq, Nat.reduceBneDiff, Nat.reduceBEq, Int.reduceToNat, Int.reduceMul, Int.reduceSub, Int.reduceBEq, Int.reduceBNe, fd8, hal, hbl, c1, ft]
  refine loop_ind (fun m ts s' => ∃ j : Nat, m = A.length - j ∧ j ≤ A.length ∧ ts.get 13 = some (.int .i64 (j : Int)) ∧ ts.get 12 = some (.int .i64 (A.length : Int)) ∧ ts.get 0 = some v ∧ ts.get 1 = some w ∧ A.take j = B.take j ∧ s = s') ?_ (n := A.length)
    ⟨0, rfl, by omega, by simp only [go_sem, Wk_block, Wk_drawnC, reduceCtorEq, Nat.reduceEqDiff, Nat.reduceAdd, Nat.reduceLeDiff, Nat.reduceLT, Nat.reduceMul, Nat.reduceSub, ↓reduceIte, Int.reduceLT, Int.reduceLE, Int.reduceNeg, Int.reduceAdd, Int.reduceEq, Nat.reduceBneDiff, Nat.reduceBEq, Int.reduceToNat, Int.reduceMul, Int.reduceSub, Int.reduceBEq, Int.reduceBNe], by simp only [go_sem, Wk_block, Wk_drawnC, reduceCtorEq, Nat.reduceEqDiff, Nat.reduceAdd, Nat.reduceLeDiff, Nat.reduceLT, Nat.reduceMul, Nat.reduceSub, ↓reduceIte, Int.reduceLT, Int.reduceLE, Int.reduceNeg, Int.reduceAdd, Int.reduceEq, Nat.reduceBneDiff, Nat.reduceBEq, Int.reduceToNat, Int.reduceMul, Int.reduceSub, Int.reduceBEq, Int.reduceBNe], by simp only [go_sem, Wk_block, Wk_drawnC, reduceCtorEq, Nat.reduceEqDiff, Nat.reduceAdd, Nat.reduceLeDiff, Nat.reduceLT, Nat.reduceMul, Nat.reduceSub, ↓reduceIte, Int.reduceLT, Int.reduceLE, Int.reduceNeg, Int.reduceAdd, Int.reduceEq, Nat.reduceBneDiff, Nat.reduceBEq, Int.reduceToNat, Int.reduceMul, Int.reduceSub, Int.reduceBEq, Int.reduceBNe], by simp only [go_sem, Wk_block, Wk_drawnC, reduceCtorEq, Nat.reduceEqDiff, Nat.reduceAdd, Nat.reduceLeDiff, Nat.reduceLT, Nat.reduceMul, Nat.reduceSub, ↓reduceIte, Int.reduceLT, Int.reduceLE, Int.reduceNeg, Int.reduceAdd, Int.reduceEq, Nat.reduceBneDiff, Nat.reduceBEq, Int.reduceToNat, Int.reduceMul, Int.reduceSub, Int.reduceBEq, Int.reduceBNe], rfl, rfl⟩
  rintro _ ts s1 ⟨j, rfl, hj, g13, g12, g0, g1, htk, rfl⟩ IH
  by_cases hlt : j < A.length
  rotate_left
  · have hAB : A = B := by rw [List.take_of_length_le (by omega), List.take_of_length_le (by omega)] at htk; exact htk
    have c2 : decide (A = B) = true := decide_eq_true hAB
    rw [c2]
    simp -implicitDefEqProofs only [go_sem, Wk_block, Wk_drawnC, reduceCtorEq, Nat.reduceEqDiff, Nat.reduceAdd, Nat.reduceLeDiff, Nat.reduceLT, Nat.reduceMul, Nat.reduceSub, ↓reduceIte, Int.reduceLT, Int.reduceLE, Int.reduceNeg, Int.reduceAdd, Int.reduceEq, Nat.reduceBneDiff, Nat.reduceBEq, Int.reduceToNat, Int.reduceMul, Int.reduceSub, Int.reduceBEq, Int.reduceBNe, g13, g12, hlt, ft]
    exact Fr.refl _
  have hltB : j < B.length := by omega
  obtain ⟨b1, o1, vs1, lo1, ro1, z1, hidx1, hg1, hle1, heq1, _⟩ := hA.at_ (j := j) (by rw [List.length_map]; exact hlt)
  obtain ⟨b2, o2, vs2, lo2, ro2, z2, hidx2, hg2, hle2, heq2, _⟩ := hB.at_ (j := j) (by rw [List.length_map]; exact hltB)
  rw [List.getElem_map] at heq1 heq2
  unfold Lb.enc at heq1 heq2
  have hle3 : o1 + (j * 2 + 2) ≤ vs1.length := by omega
  have hle4 : o2 + (j * 2 + 2) ≤ vs2.length := by omega
  have w13 := succ_in (j := j) (by omega)
  have hlb := lb_eq (a := A[j]) (b := B[j])
  by_cases hxy : A[j] = B[j]
  · have c3 : (A[j].e == B[j].e && A[j].q == B[j].q) = true := by rw [hlb]; exact decide_eq_true hxy
    have c4 : (A[j].e == B[j].e) = true := (Bool.and_eq_true _ _ ▸ c3).1
    have c5 : (A[j].q == B[j].q) = true := (Bool.and_eq_true _ _ ▸ c3).2
    simp -implicitDefEqProofs only [go_sem, Wk_block, Wk_drawnC, reduceCtorEq, Nat.reduceEqDiff, Nat.reduceAdd, Nat.reduceLeDiff, Nat.reduceLT, Nat.reduceMul, Nat.reduceSub, ↓reduceIte, Int.reduceLT, Int.reduceLE, Int.reduceNeg, Int.reduceAdd, Int.reduceEq, Nat.reduceBneDiff, Nat.reduceBEq, Int.reduceToNat, Int.reduceMul, Int.reduceSub, Int.reduceBEq, Int.reduceBNe, g13, g12, g0, g1, hlt, hidx1, hidx2, hg1, hg2, hle1, hle2, hle3, hle4, heq1, heq2, c3, c4, c5, w13, Bool.not_true, Bool.and_self, ft]
    refine IH (A.length - (j + 1)) _ _ (by omega) ⟨j + 1, rfl, by omega, by simp only [go_sem, Wk_block, Wk_drawnC, reduceCtorEq, Nat.reduceEqDiff, Nat.reduceAdd, Nat.reduceLeDiff, Nat.reduceLT, Nat.reduceMul, Nat.reduceSub, ↓reduceIte, Int.reduceLT, Int.reduceLE, Int.reduceNeg, Int.reduceAdd, Int.reduceEq, Nat.reduceBneDiff, Nat.reduceBEq, Int.reduceToNat, Int.reduceMul, Int.reduceSub, Int.reduceBEq, Int.reduceBNe], by simp only [go_sem, Wk_block, Wk_drawnC, reduceCtorEq, Nat.reduceEqDiff, Nat.reduceAdd, Nat.reduceLeDiff, Nat.reduceLT, Nat.reduceMul, Nat.reduceSub, ↓reduceIte, Int.reduceLT, Int.reduceLE, Int.reduceNeg, Int.reduceAdd, Int.reduceEq, Nat.reduceBneDiff, Nat.reduceBEq, Int.reduceToNat, Int.reduceMul, Int.reduceSub, Int.reduceBEq, Int.reduceBNe, g12], by simp only [go_sem, Wk_block, Wk_drawnC, reduceCtorEq, Nat.reduceEqDiff, Nat.reduceAdd, Nat.reduceLeDiff, Nat.reduceLT, Nat.reduceMul, Nat.reduceSub, ↓reduceIte, Int.reduceLT, Int.reduceLE, Int.reduceNeg, Int.reduceAdd, Int.reduceEq, Nat.reduceBneDiff, Nat.reduceBEq, Int.reduceToNat, Int.reduceMul, Int.reduceSub, Int.reduceBEq, Int.reduceBNe, g0], by simp only [go_sem, Wk_block, Wk_drawnC, reduceCtorEq, Nat.reduceEqDiff, Nat.reduceAdd, Nat.reduceLeDiff, Nat.reduceLT, Nat.reduceMul, Nat.reduceSub, ↓reduceIte, Int.reduceLT, Int.reduceLE, Int.reduceNeg, Int.reduceAdd, Int.reduceEq, Nat.reduceBneDiff, Nat.reduceBEq, Int.reduceToNat, Int.reduceMul, Int.reduceSub, Int.reduceBEq, Int.reduceBNe, g1], ?_, rfl⟩
    rw [List.take_succ_eq_append_getElem hlt, List.take_succ_eq_append_getElem hltB, htk, hxy]
  · have c3 : (A[j].e == B[j].e && A[j].q == B[j].q) = false := by rw [hlb]; exact decide_eq_false hxy
    have c2 : decide (A = B) = false := decide_eq_false fun h => hxy (by subst h; rfl)
    rw [c2]
    cases c4 : (A[j].e == B[j].e)
    · simp -implicitDefEqProofs only [go_sem, Wk_block, Wk_drawnC, reduceCtorEq, Nat.reduceEqDiff, Nat.reduceAdd, Nat.reduceLeDiff, Nat.reduceLT, Nat.reduceMul, Nat.reduceSub, ↓reduceIte, Int.reduceLT, Int.reduceLE, Int.reduceNeg, Int.reduceAdd, Int.reduceEq, Nat.reduceBneDiff, Nat.reduceBEq, Int.reduceToNat, Int.reduceMul, Int.reduceSub, Int.reduceBEq, Int.reduceBNe, g13, g12, g0, g1, hlt, hidx1, hidx2, hg1, hg2, hle1, hle2, hle3, hle4, heq1, heq2, c4, Bool.false_and, Bool.not_false, ft]
      exact Fr.refl _
    · have c5 : (A[j].q == B[j].q) = false := by rw [c4, Bool.true_and] at c3; exact c3
      simp -implicitDefEqProofs only [go_sem, Wk_block, Wk_drawnC, reduceCtorEq, Nat.reduceEqDiff, Nat.reduceAdd, Nat.reduceLeDiff, Nat.reduceLT, Nat.reduceMul, Nat.reduceSub, ↓reduceIte, Int.reduceLT, Int.reduceLE, Int.reduceNeg, Int.reduceAdd, Int.reduceEq, Nat.reduceBneDiff, Nat.reduceBEq, Int.reduceToNat, Int.reduceMul, Int.reduceSub, Int.reduceBEq, Int.reduceBNe, g13, g12, g0, g1, hlt, hidx1, hidx2, hg1, hg2, hle1, hle2, hle3, hle4, heq1, heq2, c4, c5, Bool.true_and, Bool.false_and, Bool.not_false, ft]
      exact Fr.refl _
end Go.Proofs.Ytjejgnbdlfkenaa
namespace Go.Proofs.Ytjejgnbdlfkenaa
open D Base
set_option linter.unusedSimpArgs false
set_option linter.unusedVariables false
set_option maxRecDepth 10000

theorem rises_adj {l : List Sn} (h : ∀ i (hi : i + 1 < l.length), (l[i]'(by omega)).l.lt l[i + 1].l) : Rises l := by
  unfold Rises
  rw [List.pairwise_iff_getElem]
  intro i j hi hj hij
  have key : ∀ m i (h1 : i + m + 1 < l.length), (l[i]'(by omega)).l.lt l[i + m + 1].l := by
    intro m
    induction m with
    | zero => intro i h1; exact h i h1
    | succ m ih =>
      intro i h1
      have h2 := ih i (by omega)
      have h3 := h (i + m + 1) (by omega)
      unfold Lb.lt at *
      have e : i + (m + 1) + 1 = i + m + 1 + 1 := by omega
      simp only [e]
      omega
  have := key (j - i - 1) i (by omega)
  have e : i + (j - i - 1) + 1 = j := by omega
  simp only [e] at this
  exact this
theorem Rising_run {l : List Sn} (hl : l.length ≤ 60) {v : AV} {s : St} (hR : Rd s v 4 (l.map Sn.enc)) : Wf mm 7 [v] s fun w s' => ∃ b, w = .bool b ∧ (b = true → Rises l) ∧ Fr s s' := by
  refine Wf_enter ft7 (sm (by decide)) (by rfl) ?_
  have ft : (false == true) = false := rfl
  have tf : (true == false) = false := rfl
  have hlen := hR.len
  rw [List.length_map] at hlen
  simp -implicitDefEqProofs only [go_sem, Wk_block, Wk_drawnC, reduceCtorEq, Nat.reduceEqDiff, Nat.reduceAdd, Nat.reduceLeDiff, Nat.reduceLT, Nat.reduceMul, Nat.reduceSub, ↓reduceIte, Int.reduceLT, Int.reduceLE, Int.reduceNeg, Int.reduceAdd, Int.reduceEq, Nat.reduceBneDiff, Nat.reduceBEq, Int.reduceToNat, Int.reduceMul, Int.reduceSub, Int.reduceBEq, Int.reduceBNe, fd7, hlen, ft]
  refine loop_ind (fun m ts s' => ∃ j : Nat, m = l.length - j ∧ j ≤ l.length ∧ ts.get 6 = some (.int .i64 (j : Int)) ∧ ts.get 5 = some (.int .i64 (l.length : Int)) ∧ ts.get 0 = some v ∧ (∀ i (hi : i + 1 < l.length), i + 1 < j → (l[i]'(by omega)).l.lt l[i + 1].l) ∧ Fr s s') ?_ (n := l.length)
    ⟨0, rfl, by omega, by simp only [go_sem, Wk_block, Wk_drawnC, reduceCtorEq, Nat.reduceEqDiff, Nat.reduceAdd, Nat.reduceLeDiff, Nat.reduceLT, Nat.reduceMul, Nat.reduceSub, ↓reduceIte, Int.reduceLT, Int.reduceLE, Int.reduceNeg, Int.reduceAdd, Int.reduceEq, Nat.reduceBneDiff, Nat.reduceBEq, Int.reduceToNat, Int.reduceMul, Int.reduceSub, Int.reduceBEq, Int.reduceBNe], by simp only [go_sem, Wk_block, Wk_drawnC, reduceCtorEq, Nat.reduceEqDiff, Nat.reduceAdd, Nat.reduceLeDiff, Nat.reduceLT, Nat.reduceMul, Nat.reduceSub, ↓reduceIte, Int.reduceLT, Int.reduceLE, Int.reduceNeg, Int.reduceAdd, Int.reduceEq, Nat.reduceBneDiff, Nat.reduceBEq, Int.reduceToNat, Int.reduceMul, Int.reduceSub, Int.reduceBEq, Int.reduceBNe], by simp only [go_sem, Wk_block, Wk_drawnC, reduceCtorEq, Nat.reduceEqDiff, Nat.reduceAdd, Nat.reduceLeDiff, Nat.reduceLT, Nat.reduceMul, Nat.reduceSub, ↓reduceIte, Int.reduceLT, Int.reduceLE, Int.reduceNeg, Int.reduceAdd, Int.reduceEq, Nat.reduceBneDiff, Nat.reduceBEq, Int.reduceToNat, Int.reduceMul, Int.reduceSub, Int.reduceBEq, Int.reduceBNe], fun i hi h => by omega, Fr.refl s⟩
  rintro _ ts s1 ⟨j, rfl, hj, g6, g5, g0, hadj, f1⟩ IH
  by_cases hlt : j < l.length
  rotate_left
  · simp -implicitDefEqProofs only [go_sem, Wk_block, Wk_drawnC, reduceCtorEq, Nat.reduceEqDiff, Nat.reduceAdd, Nat.reduceLeDiff, Nat.reduceLT, Nat.reduceMul, Nat.reduceSub, ↓reduceIte, Int.reduceLT, Int.reduceLE, Int.reduceNeg, Int.reduceAdd, Int.reduceEq, Nat.reduceBneDiff, Nat.reduceBEq, Int.reduceToNat, Int.reduceMul, Int.reduceSub, Int.reduceBEq, Int.reduceBNe, g6, g5, hlt, ft]
    exact ⟨true, rfl, fun _ => rises_adj fun i hi => hadj i hi (by omega), f1⟩
  have w6 := succ_in (j := j) (by omega)
  by_cases hj0 : j = 0
  · have c1 : decide ((j : Int) > 0) = false := decide_eq_false (by omega)
    have c2 : decide (0 < j) = false := decide_eq_false (by omega)
    have c3 : decide (0 < (j : Int)) = false := decide_eq_false (by omega)
    simp -implicitDefEqProofs only [go_sem, Wk_block, Wk_drawnC, reduceCtorEq, Nat.reduceEqDiff, Nat.reduceAdd, Nat.reduceLeDiff, Nat.reduceLT, Nat.reduceMul, Nat.reduceSub, ↓reduceIte, Int.reduceLT, Int.reduceLE, Int.reduceNeg, Int.reduceAdd, Int.reduceEq, Nat.reduceBneDiff, Nat.reduceBEq, Int.reduceToNat, Int.reduceMul, Int.reduceSub, Int.reduceBEq, Int.reduceBNe, g6, g5, hlt, c1, c2, c3, w6, ft]
    exact IH (l.length - (j + 1)) _ _ (by omega) ⟨j + 1, rfl, by omega, by simp only [go_sem, Wk_block, Wk_drawnC, reduceCtorEq, Nat.reduceEqDiff, Nat.reduceAdd, Nat.reduceLeDiff, Nat.reduceLT, Nat.reduceMul, Nat.reduceSub, ↓reduceIte, Int.reduceLT, Int.reduceLE, Int.reduceNeg, Int.reduceAdd, Int.reduceEq, Nat.reduceBneDiff, Nat.reduceBEq, Int.reduceToNat, Int.reduceMul, Int.reduceSub, Int.reduceBEq, Int.reduceBNe], by simp only [go_sem, Wk_block, Wk_drawnC, reduceCtorEq, Nat.reduceEqDiff, Nat.reduceAdd, Nat.reduceLeDiff, Nat.reduceLT, Nat.reduceMul, Nat.reduceSub, ↓reduceIte, Int.reduceLT, Int.reduceLE, Int.reduceNeg, Int.reduceAdd, Int.reduceEq, Nat.reduceBneDiff, Nat.reduceBEq, Int.reduceToNat, Int.reduceMul, Int.reduceSub, Int.reduceBEq, Int.reduceBNe, g5], by simp only [go_sem, Wk_block, Wk_drawnC, reduceCtorEq, Nat.reduceEqDiff, Nat.reduceAdd, Nat.reduceLeDiff, Nat.reduceLT, Nat.reduceMul, Nat.reduceSub, ↓reduceIte, Int.reduceLT, Int.reduceLE, Int.reduceNeg, Int.reduceAdd, Int.reduceEq, Nat.reduceBneDiff, Nat.reduceBEq, Int.reduceToNat, Int.reduceMul, Int.reduceSub, Int.reduceBEq, Int.reduceBNe, g0], fun i hi h => by omega, f1⟩
  obtain ⟨i, hi⟩ : ∃ i, j = i + 1 := ⟨j - 1, by omega⟩
  have c1 : decide ((j : Int) > 0) = true := decide_eq_true (by omega)
  have c2 : decide (0 < j) = true := decide_eq_true (by omega)
  have c3 : decide (0 < (j : Int)) = true := decide_eq_true (by omega)
  have wi := pred_of hi (by omega)
  have hil : i < l.length := by omega
  obtain ⟨b1, o1, vs1, lo1, ro1, z1, hidx1, hg1, hle1, heq1, _⟩ := (hR.mono f1).at_ (j := j) (by rw [List.length_map]; exact hlt)
  obtain ⟨b2, o2, vs2, lo2, ro2, z2, hidx2, hg2, hle2, heq2, _⟩ := (hR.mono f1).at_ (j := i) (by rw [List.length_map]; exact hil)
  rw [List.getElem_map] at heq1 heq2
  have hl1 : (vs1.drop (o1 + j * 4)).take 2 = [.int .u32 l[j].l.e, .int .u32 l[j].l.q] := by
    have := congrArg (List.take 2) heq1
    rw [List.take_take] at this
    exact this
  have hl2 : (vs2.drop (o2 + i * 4)).take 2 = [.int .u32 l[i].l.e, .int .u32 l[i].l.q] := by
    have := congrArg (List.take 2) heq2
    rw [List.take_take] at this
    exact this
  have q1 : o1 + (j * 4 + 2) ≤ vs1.length := by omega
  have q2 : o2 + (i * 4 + 2) ≤ vs2.length := by omega
  have q3 : o1 + j * 4 + 2 ≤ vs1.length := by omega
  have q4 : o2 + i * 4 + 2 ≤ vs2.length := by omega
  simp -implicitDefEqProofs only [go_sem, Wk_block, Wk_drawnC, reduceCtorEq, Nat.reduceEqDiff, Nat.reduceAdd, Nat.reduceLeDiff, Nat.reduceLT, Nat.reduceMul, Nat.reduceSub, ↓reduceIte, Int.reduceLT, Int.reduceLE, Int.reduceNeg, Int.reduceAdd, Int.reduceEq, Nat.reduceBneDiff, Nat.reduceBEq, Int.reduceToNat, Int.reduceMul, Int.reduceSub, Int.reduceBEq, Int.reduceBNe, g6, g5, g0, hlt, c1, c2, c3, wi, hidx1, hidx2, hg1, hg2, hl1, hl2, q1, q2, q3, q4, ft, tf]
  refine Wl_of (Less_run l[i].l l[j].l _) ?_
  rintro w9 s5 ⟨rfl, f9⟩
  cases hls : decide (l[i].l.lt l[j].l)
  · simp -implicitDefEqProofs only [go_sem, Wk_block, Wk_drawnC, reduceCtorEq, Nat.reduceEqDiff, Nat.reduceAdd, Nat.reduceLeDiff, Nat.reduceLT, Nat.reduceMul, Nat.reduceSub, ↓reduceIte, Int.reduceLT, Int.reduceLE, Int.reduceNeg, Int.reduceAdd, Int.reduceEq, Nat.reduceBneDiff, Nat.reduceBEq, Int.reduceToNat, Int.reduceMul, Int.reduceSub, Int.reduceBEq, Int.reduceBNe, hls, Bool.not_false, ft]
    exact ⟨false, rfl, (fun h => Bool.noConfusion h), f1.trans f9⟩
  · simp -implicitDefEqProofs only [go_sem, Wk_block, Wk_drawnC, reduceCtorEq, Nat.reduceEqDiff, Nat.reduceAdd, Nat.reduceLeDiff, Nat.reduceLT, Nat.reduceMul, Nat.reduceSub, ↓reduceIte, Int.reduceLT, Int.reduceLE, Int.reduceNeg, Int.reduceAdd, Int.reduceEq, Nat.reduceBneDiff, Nat.reduceBEq, Int.reduceToNat, Int.reduceMul, Int.reduceSub, Int.reduceBEq, Int.reduceBNe, g6, g5, g0, hls, w6, Bool.not_true, ft]
    refine IH (l.length - (j + 1)) _ _ (by omega) ⟨j + 1, rfl, by omega, by simp only [go_sem, Wk_block, Wk_drawnC, reduceCtorEq, Nat.reduceEqDiff, Nat.reduceAdd, Nat.reduceLeDiff, Nat.reduceLT, Nat.reduceMul, Nat.reduceSub, ↓reduceIte, Int.reduceLT, Int.reduceLE, Int.reduceNeg, Int.reduceAdd, Int.reduceEq, Nat.reduceBneDiff, Nat.reduceBEq, Int.reduceToNat, Int.reduceMul, Int.reduceSub, Int.reduceBEq, Int.reduceBNe], by simp only [go_sem, Wk_block, Wk_drawnC, reduceCtorEq, Nat.reduceEqDiff, Nat.reduceAdd, Nat.reduceLeDiff, Nat.reduceLT, Nat.reduceMul, Nat.reduceSub, ↓reduceIte, Int.reduceLT, Int.reduceLE, Int.reduceNeg, Int.reduceAdd, Int.reduceEq, Nat.reduceBneDiff, Nat.reduceBEq, Int.reduceToNat, Int.reduceMul, Int.reduceSub, Int.reduceBEq, Int.reduceBNe, g5], by simp only [go_sem, Wk_block, Wk_drawnC, reduceCtorEq, Nat.reduceEqDiff, Nat.reduceAdd, Nat.reduceLeDiff, Nat.reduceLT, Nat.reduceMul, Nat.reduceSub, ↓reduceIte, Int.reduceLT, Int.reduceLE, Int.reduceNeg, Int.reduceAdd, Int.reduceEq, Nat.reduceBneDiff, Nat.reduceBEq, Int.reduceToNat, Int.reduceMul, Int.reduceSub, Int.reduceBEq, Int.reduceBNe, g0], fun m hm h => ?_, f1.trans f9⟩
    by_cases hmj : m + 1 < j
    · exact hadj m hm hmj
    · have e : m = i := by omega
      subst e
      simp only [← hi]
      exact of_decide_eq_true hls

theorem Index_run {L : List Lb} {v : AV} {s : St} (hR : Rd s v 2 (L.map Lb.enc)) (x : Lb) : Wf mm 28 [v, .agg [.int .u32 x.e, .int .u32 x.q]] s fun w s' => ∃ n : Int, w = .int .i64 n ∧ decide (n ≥ 0) = decide (x ∈ L) ∧ Fr s s' := by
  refine Wf_enter ft28 (sm (by decide)) (by rfl) ?_
  have ft : (false == true) = false := rfl
  have hlen := hR.len
  have hmx := hR.max
  rw [List.length_map] at hlen hmx
  unfold maxLen at hmx
  obtain ⟨a, ha⟩ : ∃ a, s.next = a := ⟨_, rfl⟩
  simp -implicitDefEqProofs only [go_sem, Wk_block, Wk_drawnC, reduceCtorEq, Nat.reduceEqDiff, Nat.reduceAdd, Nat.reduceLeDiff, Nat.reduceLT, Nat.reduceMul, Nat.reduceSub, ↓reduceIte, Int.reduceLT, Int.reduceLE, Int.reduceNeg, Int.reduceAdd, Int.reduceEq, Nat.reduceBneDiff, Nat.reduceBEq, Int.reduceToNat, Int.reduceMul, Int.reduceSub, Int.reduceBEq, Int.reduceBNe, fd28, hlen, ha, ft]
  have f0 : Fr s (s.new (.cells [.int .u32 x.e, .int .u32 x.q] false false 0)) := (Fr.refl s).new _
  have ga : (s.new (.cells [.int .u32 x.e, .int .u32 x.q] false false 0)).get a = some (.cells [.int .u32 x.e, .int .u32 x.q] false false 0) := by rw [St.get_new, if_pos ha.symm]
  generalize s.new (.cells [.int .u32 x.e, .int .u32 x.q] false false 0) = s0 at f0 ga ⊢
  refine loop_ind (fun m ts s' => ∃ j : Nat, m = L.length - j ∧ j ≤ L.length ∧ ts.get 8 = some (.int .i64 (j : Int)) ∧ ts.get 7 = some (.int .i64 (L.length : Int)) ∧ ts.get 0 = some v ∧ ts.get 3 = some (.ptr a 0) ∧ x ∉ L.take j ∧ s0 = s') ?_ (n := L.length)
    ⟨0, rfl, by omega, by simp only [go_sem, Wk_block, Wk_drawnC, reduceCtorEq, Nat.reduceEqDiff, Nat.reduceAdd, Nat.reduceLeDiff, Nat.reduceLT, Nat.reduceMul, Nat.reduceSub, ↓reduceIte, Int.reduceLT, Int.reduceLE, Int.reduceNeg, Int.reduceAdd, Int.reduceEq, Nat.reduceBneDiff, Nat.reduceBEq, Int.reduceToNat, Int.reduceMul, Int.reduceSub, Int.reduceBEq, Int.reduceBNe], by simp only [go_sem, Wk_block, Wk_drawnC, reduceCtorEq, Nat.reduceEqDiff, Nat.reduceAdd, Nat.reduceLeDiff, Nat.reduceLT, Nat.reduceMul, Nat.reduceSub, ↓reduceIte, Int.reduceLT, Int.reduceLE, Int.reduceNeg, Int.reduceAdd, Int.reduceEq, Nat.reduceBneDiff, Nat.reduceBEq, Int.reduceToNat, Int.reduceMul, Int.reduceSub, Int.reduceBEq, Int.reduceBNe], by simp only [go_sem, Wk_block, Wk_drawnC, reduceCtorEq, Nat.reduceEqDiff, Nat.reduceAdd, Nat.reduceLeDiff, Nat.reduceLT, Nat.reduceMul, Nat.reduceSub, ↓reduceIte, Int.reduceLT, Int.reduceLE, Int.reduceNeg, Int.reduceAdd, Int.reduceEq, Nat.reduceBneDiff, Nat.reduceBEq, Int.reduceToNat, Int.reduceMul, Int.reduceSub, Int.reduceBEq, Int.reduceBNe], by simp only [go_sem, Wk_block, Wk_drawnC, reduceCtorEq, Nat.reduceEqDiff, Nat.reduceAdd, Nat.reduceLeDiff, Nat.reduceLT, Nat.reduceMul, Nat.reduceSub, ↓reduceIte, Int.reduceLT, Int.reduceLE, Int.reduceNeg, Int.reduceAdd, Int.reduceEq, Nat.reduceBneDiff, Nat.reduceBEq, Int.reduceToNat, Int.reduceMul, Int.reduceSub, Int.reduceBEq, Int.reduceBNe], by simp, rfl⟩
  rintro _ ts s1 ⟨j, rfl, hj, g8, g7, g0, g3, hni, rfl⟩ IH
  by_cases hlt : j < L.length
  rotate_left
  · rw [List.take_of_length_le (by omega)] at hni
    simp -implicitDefEqProofs only [go_sem, Wk_block, Wk_drawnC, reduceCtorEq, Nat.reduceEqDiff, Nat.reduceAdd, Nat.reduceLeDiff, Nat.reduceLT, Nat.reduceMul, Nat.reduceSub, ↓reduceIte, Int.reduceLT, Int.reduceLE, Int.reduceNeg, Int.reduceAdd, Int.reduceEq, Nat.reduceBneDiff, Nat.reduceBEq, Int.reduceToNat, Int.reduceMul, Int.reduceSub, Int.reduceBEq, Int.reduceBNe, g8, g7, hlt, ft]
    exact ⟨-1, rfl, by rw [decide_eq_false hni]; rfl, f0⟩
  obtain ⟨b1, o1, vs1, lo1, ro1, z1, hidx1, hg1, hle1, heq1, _⟩ := (hR.mono f0).at_ (j := j) (by rw [List.length_map]; exact hlt)
  rw [List.getElem_map] at heq1
  unfold Lb.enc at heq1
  have q1 : o1 + (j * 2 + 2) ≤ vs1.length := by omega
  have w8 := succ_in (j := j) (by omega)
  have hlb := lb_eq (a := x) (b := L[j])
  cases c4 : (x.e == L[j].e && x.q == L[j].q)
  · rw [c4] at hlb
    have hne : ¬ x = L[j] := of_decide_eq_false hlb.symm
    have hnx : x ∉ L.take (j + 1) := by
      rw [List.take_succ_eq_append_getElem hlt, List.mem_append, List.mem_singleton]
      exact fun h => h.elim hni hne
    cases c5 : (x.e == L[j].e)
    · simp -implicitDefEqProofs only [go_sem, Wk_block, Wk_drawnC, reduceCtorEq, Nat.reduceEqDiff, Nat.reduceAdd, Nat.reduceLeDiff, Nat.reduceLT, Nat.reduceMul, Nat.reduceSub, ↓reduceIte, Int.reduceLT, Int.reduceLE, Int.reduceNeg, Int.reduceAdd, Int.reduceEq, Nat.reduceBneDiff, Nat.reduceBEq, Int.reduceToNat, Int.reduceMul, Int.reduceSub, Int.reduceBEq, Int.reduceBNe, g8, g7, g0, g3, hlt, hidx1, hg1, hle1, q1, heq1, ga, c5, w8, Bool.false_and, ft]
      exact IH (L.length - (j + 1)) _ _ (by omega) ⟨j + 1, rfl, by omega, by simp only [go_sem, Wk_block, Wk_drawnC, reduceCtorEq, Nat.reduceEqDiff, Nat.reduceAdd, Nat.reduceLeDiff, Nat.reduceLT, Nat.reduceMul, Nat.reduceSub, ↓reduceIte, Int.reduceLT, Int.reduceLE, Int.reduceNeg, Int.reduceAdd, Int.reduceEq, Nat.reduceBneDiff, Nat.reduceBEq, Int.reduceToNat, Int.reduceMul, Int.reduceSub, Int.reduceBEq, Int.reduceBNe], by simp only [go_sem, Wk_block, Wk_drawnC, reduceCtorEq, Nat.reduceEqDiff, Nat.reduceAdd, Nat.reduceLeDiff, Nat.reduceLT, Nat.reduceMul, Nat.reduceSub, ↓reduceIte, Int.reduceLT, Int.reduceLE, Int.reduceNeg, Int.reduceAdd, Int.reduceEq, Nat.reduceBneDiff, Nat.reduceBEq, Int.reduceToNat, Int.reduceMul, Int.reduceSub, Int.reduceBEq, Int.reduceBNe, g7], by simp only [go_sem, Wk_block, Wk_drawnC, reduceCtorEq, Nat.reduceEqDiff, Nat.reduceAdd, Nat.reduceLeDiff, Nat.reduceLT, Nat.reduceMul, Nat.reduceSub, ↓reduceIte, Int.reduceLT, Int.reduceLE, Int.reduceNeg, Int.reduceAdd, Int.reduceEq, Nat.reduceBneDiff, Nat.reduceBEq, Int.reduceToNat, Int.reduceMul, Int.reduceSub, Int.reduceBEq, Int.reduceBNe, g0], by simp only [go_sem, Wk_block, Wk_drawnC, reduceCtorEq, Nat.reduceEqDiff, Nat.reduceAdd, Nat.reduceLeDiff, Nat.reduceLT, Nat.reduceMul, Nat.reduceSub, ↓reduceIte, Int.reduceLT, Int.reduceLE, Int.reduceNeg, Int.reduceAdd, Int.reduceEq, Nat.reduceBneDiff, Nat.reduceBEq, Int.reduceToNat, Int.reduceMul, Int.reduceSub, Int.reduceBEq, Int.reduceBNe, g3], hnx, rfl⟩
    · have c6 : (x.q == L[j].q) = false := by rw [c5, Bool.true_and] at c4; exact c4
      simp -implicitDefEqProofs only [go_sem, Wk_block, Wk_drawnC, reduceCtorEq, Nat.reduceEqDiff, Nat.reduceAdd, Nat.reduceLeDiff, Nat.reduceLT, Nat.reduceMul, Nat.reduceSub, ↓reduceIte, Int.reduceLT, Int.reduceLE, Int.reduceNeg, Int.reduceAdd, Int.reduceEq, Nat.reduceBneDiff, Nat.reduceBEq, Int.reduceToNat, Int.reduceMul, Int.reduceSub, Int.reduceBEq, Int.reduceBNe, g8, g7, g0, g3, hlt, hidx1, hg1, hle1, q1, heq1, ga, c5, c6, w8, Bool.true_and, Bool.false_and, ft]
      exact IH (L.length - (j + 1)) _ _ (by omega) ⟨j + 1, rfl, by omega, by simp only [go_sem, Wk_block, Wk_drawnC, reduceCtorEq, Nat.reduceEqDiff, Nat.reduceAdd, Nat.reduceLeDiff, Nat.reduceLT, Nat.reduceMul, Nat.reduceSub, ↓reduceIte, Int.reduceLT, Int.reduceLE, Int.reduceNeg, Int.reduceAdd, Int.reduceEq, Nat.reduceBneDiff, Nat.reduceBEq, Int.reduceToNat, Int.reduceMul, Int.reduceSub, Int.reduceBEq, Int.reduceBNe], by simp only [go_sem, Wk_block, Wk_drawnC, reduceCtorEq, Nat.reduceEqDiff, Nat.reduceAdd, Nat.reduceLeDiff, Nat.reduceLT, Nat.reduceMul, Nat.reduceSub, ↓reduceIte, Int.reduceLT, Int.reduceLE, Int.reduceNeg, Int.reduceAdd, Int.reduceEq, Nat.reduceBneDiff, Nat.reduceBEq, Int.reduceToNat, Int.reduceMul, Int.reduceSub, Int.reduceBEq, Int.reduceBNe, g7], by simp only [go_sem, Wk_block, Wk_drawnC, reduceCtorEq, Nat.reduceEqDiff, Nat.reduceAdd, Nat.reduceLeDiff, Nat.reduceLT, Nat.reduceMul, Nat.reduceSub, ↓reduceIte, Int.reduceLT, Int.reduceLE, Int.reduceNeg, Int.reduceAdd, Int.reduceEq, Nat.reduceBneDiff, Nat.reduceBEq, Int.reduceToNat, Int.reduceMul, Int.reduceSub, Int.reduceBEq, Int.reduceBNe, g0], by simp only [go_sem, Wk_block, Wk_drawnC, reduceCtorEq, Nat.reduceEqDiff, Nat.reduceAdd, Nat.reduceLeDiff, Nat.reduceLT, Nat.reduceMul, Nat.reduceSub, ↓reduceIte, Int.reduceLT, Int.reduceLE, Int.reduceNeg, Int.reduceAdd, Int.reduceEq, Nat.reduceBneDiff, Nat.reduceBEq, Int.reduceToNat, Int.reduceMul, Int.reduceSub, Int.reduceBEq, Int.reduceBNe, g3], hnx, rfl⟩
  · rw [c4] at hlb
    have he : x = L[j] := of_decide_eq_true hlb.symm
    have c5 : (x.e == L[j].e) = true := (Bool.and_eq_true _ _ ▸ c4).1
    have c6 : (x.q == L[j].q) = true := (Bool.and_eq_true _ _ ▸ c4).2
    have hin : x ∈ L := by rw [he]; exact List.getElem_mem hlt
    simp -implicitDefEqProofs only [go_sem, Wk_block, Wk_drawnC, reduceCtorEq, Nat.reduceEqDiff, Nat.reduceAdd, Nat.reduceLeDiff, Nat.reduceLT, Nat.reduceMul, Nat.reduceSub, ↓reduceIte, Int.reduceLT, Int.reduceLE, Int.reduceNeg, Int.reduceAdd, Int.reduceEq, Nat.reduceBneDiff, Nat.reduceBEq, Int.reduceToNat, Int.reduceMul, Int.reduceSub, Int.reduceBEq, Int.reduceBNe, g8, g7, g0, g3, hlt, hidx1, hg1, hle1, q1, heq1, ga, c5, c6, Bool.and_self, ft]
    exact ⟨j, rfl, by rw [decide_eq_true hin]; exact decide_eq_true (by omega), f0⟩
theorem Has_run {L : List Lb} {v : AV} {s : St} (hR : Rd s v 2 (L.map Lb.enc)) (x : Lb) : Wf mm 20 [v, .agg [.int .u32 x.e, .int .u32 x.q]] s fun w s' => w = .bool (decide (x ∈ L)) ∧ Fr s s' := by
  refine Wf_enter ft20 (sm (by decide)) (by rfl) ?_
  have ft : (false == true) = false := rfl
  simp -implicitDefEqProofs only [go_sem, Wk_block, Wk_drawnC, reduceCtorEq, Nat.reduceEqDiff, Nat.reduceAdd, Nat.reduceLeDiff, Nat.reduceLT, Nat.reduceMul, Nat.reduceSub, ↓reduceIte, Int.reduceLT, Int.reduceLE, Int.reduceNeg, Int.reduceAdd, Int.reduceEq, Nat.reduceBneDiff, Nat.reduceBEq, Int.reduceToNat, Int.reduceMul, Int.reduceSub, Int.reduceBEq, Int.reduceBNe, fd20, ft]
  refine Wl_of (Index_run (hR.mono ((Fr.refl s).new _)) x) ?_
  rintro w s1 ⟨n, rfl, hn, f1⟩
  rw [← hn]
  simp -implicitDefEqProofs only [go_sem, Wk_block, Wk_drawnC, reduceCtorEq, Nat.reduceEqDiff, Nat.reduceAdd, Nat.reduceLeDiff, Nat.reduceLT, Nat.reduceMul, Nat.reduceSub, ↓reduceIte, Int.reduceLT, Int.reduceLE, Int.reduceNeg, Int.reduceAdd, Int.reduceEq, Nat.reduceBneDiff, Nat.reduceBEq, Int.reduceToNat, Int.reduceMul, Int.reduceSub, Int.reduceBEq, Int.reduceBNe, ft]
  exact ((Fr.refl s).new _).trans f1
end Go.Proofs.Ytjejgnbdlfkenaa
namespace Go.Proofs.Ytjejgnbdlfkenaa
open D Base
set_option linter.unusedSimpArgs false
set_option linter.unusedVariables false
set_option maxRecDepth 10000

/-- Labels that came in. -/
structure Lbs (s : St) (v : AV) (M : List Lb) : Prop where
  rd : Rd s v 2 (M.map Lb.enc)
  src : ∀ s', Fr s s' → srcA s' 2 v = some (M.length, M.flatMap Lb.enc)
theorem Lbs.mono {s s' : St} {v : AV} {M : List Lb} (h : Lbs s v M) (f : Fr s s') : Lbs s' v M := ⟨h.rd.mono f, fun s2 f2 => h.src s2 (f.trans f2)⟩
theorem flat_takeL (vs : List AV) : ∀ (l : List Lb) (o : Nat), (∀ j (h : j < l.length), o + j * 2 + 2 ≤ vs.length ∧ (vs.drop (o + j * 2)).take 2 = l[j].enc) → (vs.drop o).take (l.length * 2) = l.flatMap Lb.enc
  | [], _, _ => by simp
  | x :: l, o, h => by
    have h0 := h 0 (by simp)
    simp only [Nat.zero_mul, Nat.add_zero, List.getElem_cons_zero] at h0
    have ih := flat_takeL vs l (o + 2) fun j hj => by
      have := h (j + 1) (by simpa using hj)
      rw [show o + (j + 1) * 2 = o + 2 + j * 2 by omega] at this
      exact this
    rw [List.flatMap_cons, ← ih, List.length_cons, show (l.length + 1) * 2 = 2 + l.length * 2 by omega, List.take_add, h0.2, List.drop_drop]
theorem lbs_arg {s : St} {v : AV} (h : ArgOk s (.slice tyLb) v) : ∃ M : List Lb, Lbs s v M ∧ ∀ x ∈ M, 0 ≤ x.e ∧ 0 ≤ x.q := by
  obtain ⟨xs, b0, o0, hA, hok⟩ := acc_of_ok h
  obtain ⟨l, rfl, hl⟩ := list_read (f := Lb.enc) (Q := fun x => 0 ≤ x.e ∧ 0 ≤ x.q) fun x hx => by
    obtain ⟨y, h1, h2, h3⟩ := ok_lb (hok x hx)
    exact ⟨y, h1, h2.1, h3.1⟩
  rcases argOk_slice h with rfl | ⟨a, rfl⟩ | ⟨b, o, len, cap, vs, rfl, h1, h2, h3, h4, h5, h6⟩
  · have e := hA.len s
    simp [len1] at e
    obtain rfl : l = [] := List.eq_nil_of_length_eq_zero (by omega)
    exact ⟨[], ⟨⟨fun _ => rfl, by simp, fun h => by simp at h⟩, fun _ _ => rfl⟩, by simp⟩
  · have e := hA.len s
    simp [len1] at e
    obtain rfl : l = [] := List.eq_nil_of_length_eq_zero (by omega)
    exact ⟨[], ⟨⟨fun _ => rfl, by simp, fun h => by simp at h⟩, fun _ _ => rfl⟩, by simp⟩
  · have e := hA.len s
    simp [len1] at e
    obtain rfl : len = l.length := by omega
    have hat : ∀ j (hj : j < l.length), o + j * 2 + 2 ≤ vs.length ∧ (vs.drop (o + j * 2)).take 2 = l[j].enc := fun j hj => by
      obtain ⟨vs2, g1, g2, g3⟩ := hA.at_ j (by rw [List.length_map]; exact hj)
      obtain ⟨cap2, g4, _⟩ := hA.form (by rw [List.length_map]; omega)
      obtain ⟨e1, e2⟩ : b = b0 ∧ o = o0 := by injection g4 with e1 e2; exact ⟨e1, e2⟩
      subst e1 e2
      rw [h3] at g1
      cases g1
      rw [List.getElem_map] at g3
      exact ⟨by have : tyLb.size = 2 := rfl; rw [this] at g2; omega, g3⟩
    have hle : o + l.length * 2 ≤ vs.length := by
      rcases Nat.eq_zero_or_pos l.length with h0 | h0
      · have := h5.2; omega
      · have := (hat (l.length - 1) (by omega)).1
        omega
    refine ⟨l, ⟨⟨fun s' => by rw [List.length_map]; rfl, by rw [List.length_map]; omega, fun _ => ⟨b, o, cap, false, vs, false, true, 0, by rw [List.length_map], h3, h4, fun j hj => ?_⟩⟩, fun s' f => ?_⟩, hl⟩
    · rw [List.length_map] at hj
      rw [List.getElem_map]
      exact hat j hj
    · have hg' := (f.get b h4).trans h3
      have hla : loadA s' b o (l.length * 2) = some (l.flatMap Lb.enc) := by
        unfold loadA
        rw [hg']
        dsimp only
        rw [if_pos hle, flat_takeL vs l o hat]
      unfold srcA
      dsimp only
      rw [hla]

theorem rd_flat {s : St} {p cap : Nat} {lo : Bool} {C : List Lb} {X : List Lb} (hg : s.get p = some (.cells (C.flatMap Lb.enc) true false 2)) (hp : p < s.next) (hle : X.length ≤ C.length) (ht : C.take X.length = X) (hm : X.length ≤ maxLen) :
    Rd s (.slice p 0 X.length cap lo) 2 (X.map Lb.enc) where
  len s' := by rw [List.length_map]; rfl
  max := by rw [List.length_map]; exact hm
  form _ := ⟨p, 0, cap, lo, _, true, false, 2, by rw [List.length_map], hg, hp, fun j hj => by
    rw [List.length_map] at hj
    have h1 := lflat_at C j (by omega)
    have h2 := lflat_len C
    have h3 : C[j]'(by omega) = X[j] := by
      have : (C.take X.length)[j]'(by rw [List.length_take]; omega) = C[j]'(by omega) := List.getElem_take
      rw [← this]
      congr 1
    rw [Nat.zero_add, List.getElem_map]
    refine ⟨by omega, ?_⟩
    rw [h1, h3]
    rfl⟩
theorem Cut.rd {s : St} {N : Nat} {w : AV} {D : List Lb} (h : Cut s N w D) (hm : D.length ≤ maxLen) : Rd s w 2 (D.map Lb.enc) := by
  rcases h with ⟨rfl, rfl⟩ | ⟨p, C, rfl, h1, h2, h3, h4, h5, h6⟩
  · exact ⟨fun _ => rfl, by simp, fun h => by simp at h⟩
  · exact rd_flat h6 h5 h2 h3 hm
theorem lb_cells (M : List Lb) : allCell (M.flatMap Lb.enc) = true := by
  induction M with
  | nil => rfl
  | cons y M ih => simp only [List.flatMap_cons, Lb.enc, List.cons_append, List.nil_append, allCell] at ih ⊢; simp [AV.cell, ih]
theorem Cut.append {s : St} {N : Nat} {w : AV} {D : List Lb} (h : Cut s N w D) (hN : N ≤ s.next) (M : List Lb) (hl : D.length + M.length < 1000000) :
    ∃ w' s', appendA 2 8 s w M.length (M.flatMap Lb.enc) = some (w', s') ∧ Rd s' w' 2 ((D ++ M).map Lb.enc) ∧ s.next ≤ s'.next ∧ ∀ b, b < N → s'.get b = s.get b := by
  rcases Nat.eq_zero_or_pos M.length with hM | hM
  · obtain rfl : M = [] := List.eq_nil_of_length_eq_zero hM
    refine ⟨w, s, ?_, by rw [List.append_nil]; exact h.rd (by unfold maxLen; omega), Nat.le_refl _, fun _ _ => rfl⟩
    rcases h with ⟨rfl, rfl⟩ | ⟨p, C, rfl, h1, h2, h3, h4, h5, h6⟩
    · rfl
    · unfold appendA
      simp only [List.length_nil, Nat.add_zero, if_pos h2, if_true]
  have hMf := lflat_len M
  rcases h with ⟨rfl, rfl⟩ | ⟨p, C, rfl, h1, h2, h3, h4, h5, h6⟩
  · refine ⟨.slice s.next 0 M.length M.length true, s.new (.cells (M.flatMap Lb.enc) true false 2), ?_, ?_, Nat.le_succ _, fun b hb => ?_⟩
    · unfold appendA
      dsimp only
      simp only [List.length_nil, Nat.zero_add] at hl
      rw [if_neg (by omega), if_pos (by omega)]
      rfl
    · rw [List.nil_append]
      exact rd_flat (by rw [St.get_new, if_pos rfl]) (by rw [St.next_new]; omega) (Nat.le_refl _) List.take_length (by unfold maxLen; omega)
    · rw [St.get_new, if_neg (by omega)]
  · have hCf := lflat_len C
    by_cases hfit : D.length + M.length ≤ C.length
    · have hst : storeA s p (0 + D.length * 2) (M.flatMap Lb.enc) = some (s.put p (.cells ((D ++ M ++ C.drop (D.length + M.length)).flatMap Lb.enc) true false 2)) := by
        unfold storeA
        rw [h6]
        dsimp only
        have hs : splice (C.flatMap Lb.enc) (0 + D.length * 2) (M.flatMap Lb.enc) = (D ++ M ++ C.drop (D.length + M.length)).flatMap Lb.enc := by
          unfold splice
          rw [Nat.zero_add, lflat_take, h3, hMf, ← Nat.add_mul]
          have hdr : ∀ (C : List Lb) (k : Nat), (C.flatMap Lb.enc).drop (k * 2) = (C.drop k).flatMap Lb.enc := by
            intro C
            induction C with
            | nil => intro k; simp
            | cons y C ih =>
              intro k
              cases k with
              | zero => simp
              | succ k => rw [Nat.succ_mul, List.drop_succ_cons, ← ih k, List.flatMap_cons, Lb.enc, show k * 2 + 2 = k * 2 + 1 + 1 by omega]; rfl
          rw [hdr, List.flatMap_append, List.flatMap_append]
        simp only [hs, hMf, lb_cells]
        rw [if_pos (by rw [hCf]; simp; omega)]
      refine ⟨.slice p 0 (D.length + M.length) C.length true, s.put p (.cells ((D ++ M ++ C.drop (D.length + M.length)).flatMap Lb.enc) true false 2), ?_, ?_, Nat.le_refl _, fun b hb => by rw [St.get_put, if_neg (by omega)]⟩
      · unfold appendA
        dsimp only
        rw [if_pos hfit, if_neg (by omega), hst]
      · rw [← List.length_append]
        exact rd_flat (C := D ++ M ++ C.drop (D ++ M).length) (by rw [St.get_put, if_pos rfl]) h5 (by simp) (by rw [List.take_append_of_le_length (Nat.le_refl _), List.take_length]) (by rw [List.length_append]; unfold maxLen; omega)
    · have hlo : loadA s p 0 (D.length * 2) = some (D.flatMap Lb.enc) := by
        unfold loadA
        rw [h6]
        dsimp only
        rw [if_pos (by omega), List.drop_zero, lflat_take, h3]
      refine ⟨.slice s.next 0 (D.length + M.length) (D.length + M.length) true, (s.drop p).new (.cells (D.flatMap Lb.enc ++ M.flatMap Lb.enc) true false 2), ?_, ?_, Nat.le_succ _, fun b hb => ?_⟩
      · unfold appendA
        simp only [hlo, h6]
        rw [if_neg (by omega), if_pos (by omega)]
        simp only [hCf, if_true, lb_cells]
        rfl
      · rw [← List.length_append, ← List.flatMap_append]
        exact rd_flat (by rw [St.get_new, if_pos (by simp)]) (by simp) (Nat.le_refl _) List.take_length (by rw [List.length_append]; unfold maxLen; omega)
      · rw [St.get_new, if_neg (by simp; omega), St.get_drop, if_neg (by omega)]
end Go.Proofs.Ytjejgnbdlfkenaa
