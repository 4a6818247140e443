/- What is known of a few functions of the lowest layers. Sixth part: numbers put behind bytes.
The machine of this seat: its functions that are run, and what is known of some. Printed by a program.
The machine that knows the check that comes first: that it is right. -/
import Derived.Test.YtcaofhdlekjooaaGreatZo
import Derived.KernelRfl
namespace Go.Proofs.YtcaofhdlekjooaaGreat.Base
open D
set_option linter.unusedSimpArgs false
set_option linter.unusedVariables false
set_option maxRecDepth 10000

/-- A slice that append made, of bytes; or none yet. -/
def OutB (s : St) (N : Nat) (w : AV) (L : List AV) : Prop := (w = .nilSlice ∧ L = []) ∨ (∃ p, w = .slice p 0 0 0 false ∧ L = [] ∧ N ≤ p ∧ p < s.next ∧ s.get p = some (.cells [] false false 0)) ∨
  ∃ p, w = .slice p 0 L.length L.length true ∧ 0 < L.length ∧ N ≤ p ∧ p < s.next ∧ s.get p = some (.cells L true false 1)
theorem OutB.new {s : St} {N : Nat} {w : AV} {L : List AV} (h : OutB s N w L) (o : AObj) : OutB (s.new o) N w L := by
  rcases h with h | ⟨p, h1, h2, h3, h4, h5⟩ | ⟨p, h1, h2, h3, h4, h5⟩
  · exact .inl h
  · exact .inr (.inl ⟨p, h1, h2, h3, by simp only [St.next_new]; omega, by rw [St.get_new, if_neg (by omega)]; exact h5⟩)
  · exact .inr (.inr ⟨p, h1, h2, h3, by simp only [St.next_new]; omega, by rw [St.get_new, if_neg (by omega)]; exact h5⟩)
theorem OutB.cell {s : St} {N : Nat} {w : AV} {L : List AV} (h : OutB s N w L) : w.cell = true ∧ w.cells = [w] := by
  rcases h with ⟨rfl, _⟩ | ⟨p, rfl, _⟩ | ⟨p, rfl, _⟩ <;> exact ⟨rfl, rfl⟩
theorem OutB.push {s : St} {N : Nat} {w : AV} {L : List AV} (h : OutB s N w L) (hN : N ≤ s.next) (hl : L.length < 1000000000) (n : Int) :
    ∃ w' s', appendA 1 1 s w 1 [.int .u8 n] = some (w', s') ∧ OutB s' N w' (L ++ [.int .u8 n]) ∧ s'.next = s.next + 1 ∧ ∀ b, b < N → s'.get b = s.get b := by
  rcases h with ⟨rfl, rfl⟩ | ⟨p, rfl, rfl, h2, h3, h4⟩ | ⟨p, rfl, h1, h2, h3, h4⟩
  · refine ⟨.slice s.next 0 1 1 true, s.new (.cells [.int .u8 n] true false 1), rfl, .inr (.inr ⟨s.next, rfl, by simp, hN, Nat.lt_succ_self _, ?_⟩), rfl, fun b hb => ?_⟩
    · rw [St.get_new, if_pos rfl]; rfl
    · rw [St.get_new, if_neg (by omega)]
  · refine ⟨.slice s.next 0 1 1 true, s.new (.cells [.int .u8 n] true false 1), ?_, .inr (.inr ⟨s.next, rfl, by simp, hN, Nat.lt_succ_self _, ?_⟩), rfl, fun b hb => ?_⟩
    · have hlo : loadA s p 0 (0 * 1) = some [] := by unfold loadA; rw [h4]; simp
      unfold appendA
      simp only [Nat.zero_add, hlo]
      rw [if_neg (by omega), if_pos (by omega)]
      simp [newA]
    · rw [St.get_new, if_pos rfl]; rfl
    · rw [St.get_new, if_neg (by omega)]
  · refine ⟨.slice s.next 0 (L.length + 1) (L.length + 1) true, (s.drop p).new (.cells (L ++ [.int .u8 n]) true false 1), ?_, .inr (.inr ⟨s.next, by simp, by simp, hN, Nat.lt_succ_self _, ?_⟩), rfl, fun b hb => ?_⟩
    · have hlo : loadA s p 0 (L.length * 1) = some L := by
        unfold loadA
        rw [h4]
        simp [List.take_of_length_le]
      unfold appendA
      simp only [hlo, h4]
      rw [if_neg (by omega), if_pos (by omega)]
      simp only [Nat.mul_one, if_true, allCell]
      rfl
    · rw [St.get_new, if_pos (by simp)]
    · rw [St.get_new, if_neg (by simp; omega), St.get_drop, if_neg (by omega)]

theorem leB_snoc : ∀ (k n : Nat), leB (k + 1) n = leB k n ++ [.int .u8 ((shf k n % 256 : Nat) : Int)]
  | 0, n => rfl
  | k + 1, n => by
    have := leB_snoc k (n / 256)
    rw [leB, this]
    rfl
theorem shf_succ : ∀ (k n : Nat), shf (k + 1) n = shf k n / 256
  | 0, n => rfl
  | k + 1, n => shf_succ k (n / 256)
theorem leB_len : ∀ (k n : Nat), (leB k n).length = k
  | 0, _ => rfl
  | k + 1, n => by rw [leB, List.length_cons, leB_len k]
theorem putL_take {w : Nat} {ns : List Nat} {j : Nat} (h : j < ns.length) : putL w (ns.take (j + 1)) = putL w (ns.take j) ++ leB w ns[j] := by
  rw [List.take_succ_eq_append_getElem h]
  unfold putL
  rw [List.flatMap_append]
  simp
theorem putL_len (w : Nat) (ns : List Nat) : (putL w ns).length = ns.length * w := by
  induction ns with
  | nil => simp [putL]
  | cons a l ih =>
    unfold putL at *
    rw [List.flatMap_cons, List.length_append, ih, leB_len, List.length_cons, Nat.succ_mul]
    omega

theorem Put_run {b : AV} {w : Nat} {ns : List Nat} {l : List AV} {lv : AV} {s sc : St} {u : AV} (hok : okW (w : Int) = true) (hw : 0 < w) (hw8 : w ≤ 8) (hcl : mm.L.call 83 [b] s = some (u, sc)) (hu : OutB sc s.next u l) (hsn : s.next ≤ sc.next) (hsn2 : sc.next ≤ s.next + 2) (hsg : ∀ b, b < s.next → sc.get b = s.get b)
    (hll : l.length < 100000000) (hnl : ns.length < 1000) (hlv : ∀ s', len1 (some lv) s' = some (.int .i64 (ns.length : Nat), s'))
    (hli : ∀ j (h : j < ns.length), ∃ p o vs lo ro z, (∀ s', idx1 1 (some lv) (some (.int .i64 (j : Int))) s' = some (.ptr p (o + j), s')) ∧ s.get p = some (.cells vs lo ro z) ∧ p < s.next ∧ vs[o + j]? = some (.int .u64 (ns[j] : Int)) ∧ ns[j] < 18446744073709551616 ∧ blen ns[j] ≤ 8 * w) :
    Wf mm 221 [b, .int .i64 (w : Int), lv] s fun v s' => ∃ v0, v = .tup [v0, .int .i64 0] ∧ OutB s' s.next v0 (l ++ putL w ns) ∧ (∀ b, b < s.next → s'.get b = s.get b) ∧ s'.next ≤ s.next + 2 + 16 * ns.length ∧ s.next ≤ s'.next := by
  refine Wf_enter ft221 (sm (by decide)) (by rfl) ?_
  have hce := hu.cell
  simp -implicitDefEqProofs only [go_sem, Wk_block, Wk_drawnC, reduceCtorEq, Nat.reduceEqDiff, Nat.reduceAdd, Nat.reduceLeDiff, Nat.reduceLT, Nat.reduceMul, Nat.reduceSub, ↓reduceIte, Int.reduceLT, Int.reduceLE, Int.reduceNeg, Int.reduceAdd, Int.reduceEq, Nat.reduceBneDiff, Nat.reduceBEq, Int.reduceToNat, Int.reduceMul, Int.reduceSub, Int.reduceBEq, Int.reduceBNe, Int.cast_ofNat_Int, Int.toNat_natCast_add_one, Nat.add_left_cancel_iff, Nat.left_eq_add, Nat.add_eq_left, Int.toNat_natCast, Nat.add_assoc, Int.ofNat_lt, Int.ofNat_le, Nat.lt_add_one_of_lt, Nat.lt_add_one, Nat.lt_add_right, Nat.lt_add_right_iff_pos, Nat.add_lt_add_iff_left, fd221, Wl_eq (right_eq _ _), hok, Wl_eq hcl, hlv]
  refine loop_ind (fun m ts s' => ∃ (j : Nat) (u : AV), m = ns.length - j ∧ j ≤ ns.length ∧ ts.get 18 = some (.int .i64 (j : Int)) ∧ ts.get 17 = some (.int .i64 (ns.length : Int)) ∧ ts.get 16 = some lv ∧ ts.get 8 = some u ∧ ts.get 1 = some (.int .i64 (w : Int)) ∧ OutB s' s.next u (l ++ putL w (ns.take j)) ∧
    (∀ b, b < s.next → s'.get b = s.get b) ∧ s'.next ≤ s.next + 2 + 16 * j ∧ s.next ≤ s'.next) ?_ (n := ns.length)
    ⟨0, u, rfl, by omega, by simp only [go_sem, Wk_block, Wk_drawnC, reduceCtorEq, Nat.reduceEqDiff, Nat.reduceAdd, Nat.reduceLeDiff, Nat.reduceLT, Nat.reduceMul, Nat.reduceSub, ↓reduceIte, Int.reduceLT, Int.reduceLE, Int.reduceNeg, Int.reduceAdd, Int.reduceEq, Nat.reduceBneDiff, Nat.reduceBEq, Int.reduceToNat, Int.reduceMul, Int.reduceSub, Int.reduceBEq, Int.reduceBNe, Int.cast_ofNat_Int, Int.toNat_natCast_add_one, Nat.add_left_cancel_iff, Nat.left_eq_add, Nat.add_eq_left, Int.toNat_natCast, Nat.add_assoc, Int.ofNat_lt, Int.ofNat_le], by simp only [go_sem, Wk_block, Wk_drawnC, reduceCtorEq, Nat.reduceEqDiff, Nat.reduceAdd, Nat.reduceLeDiff, Nat.reduceLT, Nat.reduceMul, Nat.reduceSub, ↓reduceIte, Int.reduceLT, Int.reduceLE, Int.reduceNeg, Int.reduceAdd, Int.reduceEq, Nat.reduceBneDiff, Nat.reduceBEq, Int.reduceToNat, Int.reduceMul, Int.reduceSub, Int.reduceBEq, Int.reduceBNe, Int.cast_ofNat_Int, Int.toNat_natCast_add_one, Nat.add_left_cancel_iff, Nat.left_eq_add, Nat.add_eq_left, Int.toNat_natCast, Nat.add_assoc, Int.ofNat_lt, Int.ofNat_le], by simp only [go_sem, Wk_block, Wk_drawnC, reduceCtorEq, Nat.reduceEqDiff, Nat.reduceAdd, Nat.reduceLeDiff, Nat.reduceLT, Nat.reduceMul, Nat.reduceSub, ↓reduceIte, Int.reduceLT, Int.reduceLE, Int.reduceNeg, Int.reduceAdd, Int.reduceEq, Nat.reduceBneDiff, Nat.reduceBEq, Int.reduceToNat, Int.reduceMul, Int.reduceSub, Int.reduceBEq, Int.reduceBNe, Int.cast_ofNat_Int, Int.toNat_natCast_add_one, Nat.add_left_cancel_iff, Nat.left_eq_add, Nat.add_eq_left, Int.toNat_natCast, Nat.add_assoc, Int.ofNat_lt, Int.ofNat_le], by simp only [go_sem, Wk_block, Wk_drawnC, reduceCtorEq, Nat.reduceEqDiff, Nat.reduceAdd, Nat.reduceLeDiff, Nat.reduceLT, Nat.reduceMul, Nat.reduceSub, ↓reduceIte, Int.reduceLT, Int.reduceLE, Int.reduceNeg, Int.reduceAdd, Int.reduceEq, Nat.reduceBneDiff, Nat.reduceBEq, Int.reduceToNat, Int.reduceMul, Int.reduceSub, Int.reduceBEq, Int.reduceBNe, Int.cast_ofNat_Int, Int.toNat_natCast_add_one, Nat.add_left_cancel_iff, Nat.left_eq_add, Nat.add_eq_left, Int.toNat_natCast, Nat.add_assoc, Int.ofNat_lt, Int.ofNat_le], by simp only [go_sem, Wk_block, Wk_drawnC, reduceCtorEq, Nat.reduceEqDiff, Nat.reduceAdd, Nat.reduceLeDiff, Nat.reduceLT, Nat.reduceMul, Nat.reduceSub, ↓reduceIte, Int.reduceLT, Int.reduceLE, Int.reduceNeg, Int.reduceAdd, Int.reduceEq, Nat.reduceBneDiff, Nat.reduceBEq, Int.reduceToNat, Int.reduceMul, Int.reduceSub, Int.reduceBEq, Int.reduceBNe, Int.cast_ofNat_Int, Int.toNat_natCast_add_one, Nat.add_left_cancel_iff, Nat.left_eq_add, Nat.add_eq_left, Int.toNat_natCast, Nat.add_assoc, Int.ofNat_lt, Int.ofNat_le], by rw [List.take_zero]; show OutB sc s.next u (l ++ []); rw [List.append_nil]; exact hu, hsg, by omega, hsn⟩
  clear hcl hu hsn hsn2 hsg hce
  rintro m ts s1 ⟨j, u, rfl, hj, g18, g17, g16, g8, g1, ho, hg, hn, hn2⟩ IH
  by_cases hlt : j < ns.length
  · obtain ⟨p, o, vs, lo, ro, z, hidx, hp, hpn, hv, hx, hbl⟩ := hli j hlt
    have hp1 := (hg p hpn).trans hp
    have hpt := putL_take (w := w) hlt
    have hpl := putL_len w (ns.take j)
    rw [List.length_take, Nat.min_eq_left (by omega)] at hpl
    have hpl2 : j * w ≤ j * 8 := Nat.mul_le_mul_left _ hw8
    generalize ns[j] = x at hv hx hbl hpt
    generalize hP : l ++ putL w (ns.take j) = P0 at ho
    have hP0 : P0.length < 100010000 := by rw [← hP, List.length_append]; omega
    have w8 : IntKind.i64.wrap (8 * (w : Int)) = ((8 * w : Nat) : Int) := by rw [i64_in (by omega) (by omega)]; omega
    have hgt : decide ((blen x : Int) > ((8 * w : Nat) : Int)) = false := decide_eq_false (by omega)
    have hgt2 : decide (8 * w < blen x) = false := decide_eq_false (by omega)
    have wj := succ_in (j := j) (by omega)
    simp -implicitDefEqProofs only [go_sem, Wk_block, Wk_drawnC, reduceCtorEq, Nat.reduceEqDiff, Nat.reduceAdd, Nat.reduceLeDiff, Nat.reduceLT, Nat.reduceMul, Nat.reduceSub, ↓reduceIte, Int.reduceLT, Int.reduceLE, Int.reduceNeg, Int.reduceAdd, Int.reduceEq, Nat.reduceBneDiff, Nat.reduceBEq, Int.reduceToNat, Int.reduceMul, Int.reduceSub, Int.reduceBEq, Int.reduceBNe, Int.cast_ofNat_Int, Int.toNat_natCast_add_one, Nat.add_left_cancel_iff, Nat.left_eq_add, Nat.add_eq_left, Int.toNat_natCast, Nat.add_assoc, Int.ofNat_lt, Int.ofNat_le, Nat.lt_add_one_of_lt, Nat.lt_add_one, Nat.lt_add_right, Nat.lt_add_right_iff_pos, Nat.add_lt_add_iff_left, g18, g17, g16, g8, g1, hlt, hidx, hp1, hv, Wl_eq (Len64_eq x hx _), w8, hgt, hgt2]
    refine loop_ind (fun m ts s' => ∃ (k : Nat) (u : AV), m = w - k ∧ k ≤ w ∧ ts.get 28 = some (.int .i64 (k : Int)) ∧ ts.get 27 = some (.int .i64 (w : Int)) ∧ ts.get 10 = some (.int .u64 ((shf k x : Nat) : Int)) ∧ ts.get 8 = some u ∧ ts.get 18 = some (.int .i64 (j : Int)) ∧ ts.get 17 = some (.int .i64 (ns.length : Int)) ∧ ts.get 16 = some lv ∧ ts.get 1 = some (.int .i64 (w : Int)) ∧
      OutB s' s.next u (P0 ++ leB k x) ∧ (∀ b, b < s.next → s'.get b = s.get b) ∧ s'.next ≤ s.next + 2 + 16 * j + 2 * k ∧ s.next ≤ s'.next ∧ shf k x < 18446744073709551616) ?_ (n := w)
      ⟨0, u, rfl, by omega, by simp only [go_sem, Wk_block, Wk_drawnC, reduceCtorEq, Nat.reduceEqDiff, Nat.reduceAdd, Nat.reduceLeDiff, Nat.reduceLT, Nat.reduceMul, Nat.reduceSub, ↓reduceIte, Int.reduceLT, Int.reduceLE, Int.reduceNeg, Int.reduceAdd, Int.reduceEq, Nat.reduceBneDiff, Nat.reduceBEq, Int.reduceToNat, Int.reduceMul, Int.reduceSub, Int.reduceBEq, Int.reduceBNe, Int.cast_ofNat_Int, Int.toNat_natCast_add_one, Nat.add_left_cancel_iff, Nat.left_eq_add, Nat.add_eq_left, Int.toNat_natCast, Nat.add_assoc, Int.ofNat_lt, Int.ofNat_le], by simp only [go_sem, Wk_block, Wk_drawnC, reduceCtorEq, Nat.reduceEqDiff, Nat.reduceAdd, Nat.reduceLeDiff, Nat.reduceLT, Nat.reduceMul, Nat.reduceSub, ↓reduceIte, Int.reduceLT, Int.reduceLE, Int.reduceNeg, Int.reduceAdd, Int.reduceEq, Nat.reduceBneDiff, Nat.reduceBEq, Int.reduceToNat, Int.reduceMul, Int.reduceSub, Int.reduceBEq, Int.reduceBNe, Int.cast_ofNat_Int, Int.toNat_natCast_add_one, Nat.add_left_cancel_iff, Nat.left_eq_add, Nat.add_eq_left, Int.toNat_natCast, Nat.add_assoc, Int.ofNat_lt, Int.ofNat_le, g1], by simp only [go_sem, Wk_block, Wk_drawnC, reduceCtorEq, Nat.reduceEqDiff, Nat.reduceAdd, Nat.reduceLeDiff, Nat.reduceLT, Nat.reduceMul, Nat.reduceSub, ↓reduceIte, Int.reduceLT, Int.reduceLE, Int.reduceNeg, Int.reduceAdd, Int.reduceEq, Nat.reduceBneDiff, Nat.reduceBEq, Int.reduceToNat, Int.reduceMul, Int.reduceSub, Int.reduceBEq, Int.reduceBNe, Int.cast_ofNat_Int, Int.toNat_natCast_add_one, Nat.add_left_cancel_iff, Nat.left_eq_add, Nat.add_eq_left, Int.toNat_natCast, Nat.add_assoc, Int.ofNat_lt, Int.ofNat_le]; rfl, by simp only [go_sem, Wk_block, Wk_drawnC, reduceCtorEq, Nat.reduceEqDiff, Nat.reduceAdd, Nat.reduceLeDiff, Nat.reduceLT, Nat.reduceMul, Nat.reduceSub, ↓reduceIte, Int.reduceLT, Int.reduceLE, Int.reduceNeg, Int.reduceAdd, Int.reduceEq, Nat.reduceBneDiff, Nat.reduceBEq, Int.reduceToNat, Int.reduceMul, Int.reduceSub, Int.reduceBEq, Int.reduceBNe, Int.cast_ofNat_Int, Int.toNat_natCast_add_one, Nat.add_left_cancel_iff, Nat.left_eq_add, Nat.add_eq_left, Int.toNat_natCast, Nat.add_assoc, Int.ofNat_lt, Int.ofNat_le, g8], by simp only [go_sem, Wk_block, Wk_drawnC, reduceCtorEq, Nat.reduceEqDiff, Nat.reduceAdd, Nat.reduceLeDiff, Nat.reduceLT, Nat.reduceMul, Nat.reduceSub, ↓reduceIte, Int.reduceLT, Int.reduceLE, Int.reduceNeg, Int.reduceAdd, Int.reduceEq, Nat.reduceBneDiff, Nat.reduceBEq, Int.reduceToNat, Int.reduceMul, Int.reduceSub, Int.reduceBEq, Int.reduceBNe, Int.cast_ofNat_Int, Int.toNat_natCast_add_one, Nat.add_left_cancel_iff, Nat.left_eq_add, Nat.add_eq_left, Int.toNat_natCast, Nat.add_assoc, Int.ofNat_lt, Int.ofNat_le, g18], by simp only [go_sem, Wk_block, Wk_drawnC, reduceCtorEq, Nat.reduceEqDiff, Nat.reduceAdd, Nat.reduceLeDiff, Nat.reduceLT, Nat.reduceMul, Nat.reduceSub, ↓reduceIte, Int.reduceLT, Int.reduceLE, Int.reduceNeg, Int.reduceAdd, Int.reduceEq, Nat.reduceBneDiff, Nat.reduceBEq, Int.reduceToNat, Int.reduceMul, Int.reduceSub, Int.reduceBEq, Int.reduceBNe, Int.cast_ofNat_Int, Int.toNat_natCast_add_one, Nat.add_left_cancel_iff, Nat.left_eq_add, Nat.add_eq_left, Int.toNat_natCast, Nat.add_assoc, Int.ofNat_lt, Int.ofNat_le, g17], by simp only [go_sem, Wk_block, Wk_drawnC, reduceCtorEq, Nat.reduceEqDiff, Nat.reduceAdd, Nat.reduceLeDiff, Nat.reduceLT, Nat.reduceMul, Nat.reduceSub, ↓reduceIte, Int.reduceLT, Int.reduceLE, Int.reduceNeg, Int.reduceAdd, Int.reduceEq, Nat.reduceBneDiff, Nat.reduceBEq, Int.reduceToNat, Int.reduceMul, Int.reduceSub, Int.reduceBEq, Int.reduceBNe, Int.cast_ofNat_Int, Int.toNat_natCast_add_one, Nat.add_left_cancel_iff, Nat.left_eq_add, Nat.add_eq_left, Int.toNat_natCast, Nat.add_assoc, Int.ofNat_lt, Int.ofNat_le, g16], by simp only [go_sem, Wk_block, Wk_drawnC, reduceCtorEq, Nat.reduceEqDiff, Nat.reduceAdd, Nat.reduceLeDiff, Nat.reduceLT, Nat.reduceMul, Nat.reduceSub, ↓reduceIte, Int.reduceLT, Int.reduceLE, Int.reduceNeg, Int.reduceAdd, Int.reduceEq, Nat.reduceBneDiff, Nat.reduceBEq, Int.reduceToNat, Int.reduceMul, Int.reduceSub, Int.reduceBEq, Int.reduceBNe, Int.cast_ofNat_Int, Int.toNat_natCast_add_one, Nat.add_left_cancel_iff, Nat.left_eq_add, Nat.add_eq_left, Int.toNat_natCast, Nat.add_assoc, Int.ofNat_lt, Int.ofNat_le, g1], by show OutB s1 s.next u (P0 ++ []); rw [List.append_nil]; exact ho, hg, by omega, hn2, hx⟩
    clear g18 g17 g16 g8 g1 ho hg hn hn2 hp1
    rintro m ts s2 ⟨k, u, rfl, hk, g28, g27, g10, g8, g18, g17, g16, g1, ho, hg, hn, hn2, hsx⟩ IH2
    by_cases hlt2 : k < w
    · have hls := leB_snoc k x
      have hss := shf_succ k x
      have hlk := leB_len k x
      generalize shf k x = y at g10 hls hss hsx
      have wy : IntKind.u8.wrap (y : Int) = ((y % 256 : Nat) : Int) := by simp [IntKind.wrap, IntKind.signed, IntKind.bits]
      have sy : ((y : Int).fdiv (2 ^ min 8 64)) = ((y / 256 : Nat) : Int) := shr_u64 rfl
      have wk := succ_in (j := k) (by omega)
      obtain ⟨w', s3, happ, ho3, hn3, hfr⟩ := (ho.new (.cells [.int .u8 ((y % 256 : Nat) : Int)] false false 0)).push (by simp only [St.next_new]; omega) (by rw [List.length_append, hlk]; omega) ((y % 256 : Nat) : Int)
      simp only [St.next_new] at hn3
      simp -implicitDefEqProofs only [go_sem, Wk_block, Wk_drawnC, reduceCtorEq, Nat.reduceEqDiff, Nat.reduceAdd, Nat.reduceLeDiff, Nat.reduceLT, Nat.reduceMul, Nat.reduceSub, ↓reduceIte, Int.reduceLT, Int.reduceLE, Int.reduceNeg, Int.reduceAdd, Int.reduceEq, Nat.reduceBneDiff, Nat.reduceBEq, Int.reduceToNat, Int.reduceMul, Int.reduceSub, Int.reduceBEq, Int.reduceBNe, Int.cast_ofNat_Int, Int.toNat_natCast_add_one, Nat.add_left_cancel_iff, Nat.left_eq_add, Nat.add_eq_left, Int.toNat_natCast, Nat.add_assoc, Int.ofNat_lt, Int.ofNat_le, Nat.lt_add_one_of_lt, Nat.lt_add_one, Nat.lt_add_right, Nat.lt_add_right_iff_pos, Nat.add_lt_add_iff_left, g28, g27, g10, g8, hlt2, wy, sy, wk, srcA, happ]
      refine IH2 (w - (k + 1)) _ _ (by omega) ⟨k + 1, w', rfl, by omega, ?_, ?_, ?_, ?_, ?_, ?_, ?_, ?_, by rw [hls, ← List.append_assoc]; exact ho3, fun b hb => ?_, by omega, by omega, by rw [hss]; omega⟩
      · simp only [go_sem, Wk_block, Wk_drawnC, reduceCtorEq, Nat.reduceEqDiff, Nat.reduceAdd, Nat.reduceLeDiff, Nat.reduceLT, Nat.reduceMul, Nat.reduceSub, ↓reduceIte, Int.reduceLT, Int.reduceLE, Int.reduceNeg, Int.reduceAdd, Int.reduceEq, Nat.reduceBneDiff, Nat.reduceBEq, Int.reduceToNat, Int.reduceMul, Int.reduceSub, Int.reduceBEq, Int.reduceBNe, Int.cast_ofNat_Int, Int.toNat_natCast_add_one, Nat.add_left_cancel_iff, Nat.left_eq_add, Nat.add_eq_left, Int.toNat_natCast, Nat.add_assoc, Int.ofNat_lt, Int.ofNat_le]
      · simp only [go_sem, Wk_block, Wk_drawnC, reduceCtorEq, Nat.reduceEqDiff, Nat.reduceAdd, Nat.reduceLeDiff, Nat.reduceLT, Nat.reduceMul, Nat.reduceSub, ↓reduceIte, Int.reduceLT, Int.reduceLE, Int.reduceNeg, Int.reduceAdd, Int.reduceEq, Nat.reduceBneDiff, Nat.reduceBEq, Int.reduceToNat, Int.reduceMul, Int.reduceSub, Int.reduceBEq, Int.reduceBNe, Int.cast_ofNat_Int, Int.toNat_natCast_add_one, Nat.add_left_cancel_iff, Nat.left_eq_add, Nat.add_eq_left, Int.toNat_natCast, Nat.add_assoc, Int.ofNat_lt, Int.ofNat_le, g27]
      · rw [hss]; simp only [go_sem, Wk_block, Wk_drawnC, reduceCtorEq, Nat.reduceEqDiff, Nat.reduceAdd, Nat.reduceLeDiff, Nat.reduceLT, Nat.reduceMul, Nat.reduceSub, ↓reduceIte, Int.reduceLT, Int.reduceLE, Int.reduceNeg, Int.reduceAdd, Int.reduceEq, Nat.reduceBneDiff, Nat.reduceBEq, Int.reduceToNat, Int.reduceMul, Int.reduceSub, Int.reduceBEq, Int.reduceBNe, Int.cast_ofNat_Int, Int.toNat_natCast_add_one, Nat.add_left_cancel_iff, Nat.left_eq_add, Nat.add_eq_left, Int.toNat_natCast, Nat.add_assoc, Int.ofNat_lt, Int.ofNat_le]
      · simp only [go_sem, Wk_block, Wk_drawnC, reduceCtorEq, Nat.reduceEqDiff, Nat.reduceAdd, Nat.reduceLeDiff, Nat.reduceLT, Nat.reduceMul, Nat.reduceSub, ↓reduceIte, Int.reduceLT, Int.reduceLE, Int.reduceNeg, Int.reduceAdd, Int.reduceEq, Nat.reduceBneDiff, Nat.reduceBEq, Int.reduceToNat, Int.reduceMul, Int.reduceSub, Int.reduceBEq, Int.reduceBNe, Int.cast_ofNat_Int, Int.toNat_natCast_add_one, Nat.add_left_cancel_iff, Nat.left_eq_add, Nat.add_eq_left, Int.toNat_natCast, Nat.add_assoc, Int.ofNat_lt, Int.ofNat_le]
      · simp only [go_sem, Wk_block, Wk_drawnC, reduceCtorEq, Nat.reduceEqDiff, Nat.reduceAdd, Nat.reduceLeDiff, Nat.reduceLT, Nat.reduceMul, Nat.reduceSub, ↓reduceIte, Int.reduceLT, Int.reduceLE, Int.reduceNeg, Int.reduceAdd, Int.reduceEq, Nat.reduceBneDiff, Nat.reduceBEq, Int.reduceToNat, Int.reduceMul, Int.reduceSub, Int.reduceBEq, Int.reduceBNe, Int.cast_ofNat_Int, Int.toNat_natCast_add_one, Nat.add_left_cancel_iff, Nat.left_eq_add, Nat.add_eq_left, Int.toNat_natCast, Nat.add_assoc, Int.ofNat_lt, Int.ofNat_le, g18]
      · simp only [go_sem, Wk_block, Wk_drawnC, reduceCtorEq, Nat.reduceEqDiff, Nat.reduceAdd, Nat.reduceLeDiff, Nat.reduceLT, Nat.reduceMul, Nat.reduceSub, ↓reduceIte, Int.reduceLT, Int.reduceLE, Int.reduceNeg, Int.reduceAdd, Int.reduceEq, Nat.reduceBneDiff, Nat.reduceBEq, Int.reduceToNat, Int.reduceMul, Int.reduceSub, Int.reduceBEq, Int.reduceBNe, Int.cast_ofNat_Int, Int.toNat_natCast_add_one, Nat.add_left_cancel_iff, Nat.left_eq_add, Nat.add_eq_left, Int.toNat_natCast, Nat.add_assoc, Int.ofNat_lt, Int.ofNat_le, g17]
      · simp only [go_sem, Wk_block, Wk_drawnC, reduceCtorEq, Nat.reduceEqDiff, Nat.reduceAdd, Nat.reduceLeDiff, Nat.reduceLT, Nat.reduceMul, Nat.reduceSub, ↓reduceIte, Int.reduceLT, Int.reduceLE, Int.reduceNeg, Int.reduceAdd, Int.reduceEq, Nat.reduceBneDiff, Nat.reduceBEq, Int.reduceToNat, Int.reduceMul, Int.reduceSub, Int.reduceBEq, Int.reduceBNe, Int.cast_ofNat_Int, Int.toNat_natCast_add_one, Nat.add_left_cancel_iff, Nat.left_eq_add, Nat.add_eq_left, Int.toNat_natCast, Nat.add_assoc, Int.ofNat_lt, Int.ofNat_le, g16]
      · simp only [go_sem, Wk_block, Wk_drawnC, reduceCtorEq, Nat.reduceEqDiff, Nat.reduceAdd, Nat.reduceLeDiff, Nat.reduceLT, Nat.reduceMul, Nat.reduceSub, ↓reduceIte, Int.reduceLT, Int.reduceLE, Int.reduceNeg, Int.reduceAdd, Int.reduceEq, Nat.reduceBneDiff, Nat.reduceBEq, Int.reduceToNat, Int.reduceMul, Int.reduceSub, Int.reduceBEq, Int.reduceBNe, Int.cast_ofNat_Int, Int.toNat_natCast_add_one, Nat.add_left_cancel_iff, Nat.left_eq_add, Nat.add_eq_left, Int.toNat_natCast, Nat.add_assoc, Int.ofNat_lt, Int.ofNat_le, g1]
      · rw [hfr b hb, St.get_new, if_neg (by omega)]; exact hg b hb
    · have : k = w := by omega
      subst this
      have hlf : decide ((k : Int) < (k : Int)) = false := decide_eq_false (by omega)
      simp -implicitDefEqProofs only [go_sem, Wk_block, Wk_drawnC, reduceCtorEq, Nat.reduceEqDiff, Nat.reduceAdd, Nat.reduceLeDiff, Nat.reduceLT, Nat.reduceMul, Nat.reduceSub, ↓reduceIte, Int.reduceLT, Int.reduceLE, Int.reduceNeg, Int.reduceAdd, Int.reduceEq, Nat.reduceBneDiff, Nat.reduceBEq, Int.reduceToNat, Int.reduceMul, Int.reduceSub, Int.reduceBEq, Int.reduceBNe, Int.cast_ofNat_Int, Int.toNat_natCast_add_one, Nat.add_left_cancel_iff, Nat.left_eq_add, Nat.add_eq_left, Int.toNat_natCast, Nat.add_assoc, Int.ofNat_lt, Int.ofNat_le, Nat.lt_add_one_of_lt, Nat.lt_add_one, Nat.lt_add_right, Nat.lt_add_right_iff_pos, Nat.add_lt_add_iff_left, g28, g27, hlf, hlt2, g18, wj]
      refine IH (ns.length - (j + 1)) _ _ (by omega) ⟨j + 1, u, rfl, by omega, ?_, ?_, ?_, ?_, ?_, by rw [hpt, ← List.append_assoc, hP]; exact ho, hg, by omega, hn2⟩
      · simp only [go_sem, Wk_block, Wk_drawnC, reduceCtorEq, Nat.reduceEqDiff, Nat.reduceAdd, Nat.reduceLeDiff, Nat.reduceLT, Nat.reduceMul, Nat.reduceSub, ↓reduceIte, Int.reduceLT, Int.reduceLE, Int.reduceNeg, Int.reduceAdd, Int.reduceEq, Nat.reduceBneDiff, Nat.reduceBEq, Int.reduceToNat, Int.reduceMul, Int.reduceSub, Int.reduceBEq, Int.reduceBNe, Int.cast_ofNat_Int, Int.toNat_natCast_add_one, Nat.add_left_cancel_iff, Nat.left_eq_add, Nat.add_eq_left, Int.toNat_natCast, Nat.add_assoc, Int.ofNat_lt, Int.ofNat_le]
      · simp only [go_sem, Wk_block, Wk_drawnC, reduceCtorEq, Nat.reduceEqDiff, Nat.reduceAdd, Nat.reduceLeDiff, Nat.reduceLT, Nat.reduceMul, Nat.reduceSub, ↓reduceIte, Int.reduceLT, Int.reduceLE, Int.reduceNeg, Int.reduceAdd, Int.reduceEq, Nat.reduceBneDiff, Nat.reduceBEq, Int.reduceToNat, Int.reduceMul, Int.reduceSub, Int.reduceBEq, Int.reduceBNe, Int.cast_ofNat_Int, Int.toNat_natCast_add_one, Nat.add_left_cancel_iff, Nat.left_eq_add, Nat.add_eq_left, Int.toNat_natCast, Nat.add_assoc, Int.ofNat_lt, Int.ofNat_le, g17]
      · simp only [go_sem, Wk_block, Wk_drawnC, reduceCtorEq, Nat.reduceEqDiff, Nat.reduceAdd, Nat.reduceLeDiff, Nat.reduceLT, Nat.reduceMul, Nat.reduceSub, ↓reduceIte, Int.reduceLT, Int.reduceLE, Int.reduceNeg, Int.reduceAdd, Int.reduceEq, Nat.reduceBneDiff, Nat.reduceBEq, Int.reduceToNat, Int.reduceMul, Int.reduceSub, Int.reduceBEq, Int.reduceBNe, Int.cast_ofNat_Int, Int.toNat_natCast_add_one, Nat.add_left_cancel_iff, Nat.left_eq_add, Nat.add_eq_left, Int.toNat_natCast, Nat.add_assoc, Int.ofNat_lt, Int.ofNat_le, g16]
      · simp only [go_sem, Wk_block, Wk_drawnC, reduceCtorEq, Nat.reduceEqDiff, Nat.reduceAdd, Nat.reduceLeDiff, Nat.reduceLT, Nat.reduceMul, Nat.reduceSub, ↓reduceIte, Int.reduceLT, Int.reduceLE, Int.reduceNeg, Int.reduceAdd, Int.reduceEq, Nat.reduceBneDiff, Nat.reduceBEq, Int.reduceToNat, Int.reduceMul, Int.reduceSub, Int.reduceBEq, Int.reduceBNe, Int.cast_ofNat_Int, Int.toNat_natCast_add_one, Nat.add_left_cancel_iff, Nat.left_eq_add, Nat.add_eq_left, Int.toNat_natCast, Nat.add_assoc, Int.ofNat_lt, Int.ofNat_le, g8]
      · simp only [go_sem, Wk_block, Wk_drawnC, reduceCtorEq, Nat.reduceEqDiff, Nat.reduceAdd, Nat.reduceLeDiff, Nat.reduceLT, Nat.reduceMul, Nat.reduceSub, ↓reduceIte, Int.reduceLT, Int.reduceLE, Int.reduceNeg, Int.reduceAdd, Int.reduceEq, Nat.reduceBneDiff, Nat.reduceBEq, Int.reduceToNat, Int.reduceMul, Int.reduceSub, Int.reduceBEq, Int.reduceBNe, Int.cast_ofNat_Int, Int.toNat_natCast_add_one, Nat.add_left_cancel_iff, Nat.left_eq_add, Nat.add_eq_left, Int.toNat_natCast, Nat.add_assoc, Int.ofNat_lt, Int.ofNat_le, g1]
  · have : j = ns.length := by omega
    subst this
    rw [List.take_length] at ho
    have hlf : decide ((ns.length : Int) < (ns.length : Int)) = false := decide_eq_false (by omega)
    simp -implicitDefEqProofs only [go_sem, Wk_block, Wk_drawnC, reduceCtorEq, Nat.reduceEqDiff, Nat.reduceAdd, Nat.reduceLeDiff, Nat.reduceLT, Nat.reduceMul, Nat.reduceSub, ↓reduceIte, Int.reduceLT, Int.reduceLE, Int.reduceNeg, Int.reduceAdd, Int.reduceEq, Nat.reduceBneDiff, Nat.reduceBEq, Int.reduceToNat, Int.reduceMul, Int.reduceSub, Int.reduceBEq, Int.reduceBNe, Int.cast_ofNat_Int, Int.toNat_natCast_add_one, Nat.add_left_cancel_iff, Nat.left_eq_add, Nat.add_eq_left, Int.toNat_natCast, Nat.add_assoc, Int.ofNat_lt, Int.ofNat_le, Nat.lt_add_one_of_lt, Nat.lt_add_one, Nat.lt_add_right, Nat.lt_add_right_iff_pos, Nat.add_lt_add_iff_left, g18, g17, hlf, hlt, g8]
    exact ⟨u, rfl, ho, hg, by omega, hn2⟩

theorem decW_some : ∀ {l : List AV} {L : List Nat}, decW l = some L → l = L.map (fun n => .int .u64 (n : Int)) ∧ ∀ x ∈ L, x < 18446744073709551616
  | [], L, h => by cases h; exact ⟨rfl, by simp⟩
  | x :: r, L, h => by
    unfold decW at h
    split at h
    · rename_i hm; cases hm
    · rename_i n r' hm
      cases hm
      split at h
      · rename_i hn
        split at h
        · rename_i l hl
          cases h
          obtain ⟨h1, h2⟩ := decW_some hl
          refine ⟨by rw [h1]; rfl, fun y hy => ?_⟩
          rcases List.mem_cons.1 hy with rfl | hy
          · simpa using hn
          · exact h2 y hy
        · cases h
      · cases h
    · cases h
theorem cloned_run {s : St} {b : AV} {l : List AV} (h : cloned s b = some l) (hd : ∀ b o, s.get b = some o → b < s.next) : l.length < 100000000 ∧ ∃ u sc, mm.L.call 83 [b] s = some (u, sc) ∧ OutB sc s.next u l ∧ s.next ≤ sc.next ∧ sc.next ≤ s.next + 2 ∧ ∀ b, b < s.next → sc.get b = s.get b := by
  unfold cloned at h
  split at h
  · cases h; exact ⟨by simp, _, _, Clone_nil s, .inl ⟨rfl, rfl⟩, Nat.le_refl _, by omega, fun _ _ => rfl⟩
  · cases h
    exact ⟨by simp, _, _, Clone_tail _ _ _ s, .inr (.inl ⟨s.next, rfl, rfl, Nat.le_refl _, Nat.lt_succ_self _, by rw [St.get_new, if_pos rfl]⟩), by simp, by simp, fun b hb => by rw [St.get_new, if_neg (by omega)]⟩
  · rename_i b o n c lo
    split at h
    case isFalse => cases h
    rename_i hn
    have hn : n < 100000000 := by simpa using hn
    have hc := Clone_raw (c := c) (lo := lo) h (by omega) hd
    obtain ⟨vs, lo2, ro, z, g1, g2, g3⟩ := loadA_some h
    have hll : l.length = n := by rw [g3, List.length_take, List.length_drop]; omega
    refine ⟨by omega, ?_⟩
    cases n with
    | zero =>
      have : l = [] := List.eq_nil_of_length_eq_zero hll
      subst this
      exact ⟨_, _, hc, .inr (.inl ⟨s.next, rfl, rfl, Nat.le_refl _, Nat.lt_succ_self _, by rw [St.get_new, if_pos rfl]⟩), by simp, by simp, fun b hb => by rw [St.get_new, if_neg (by omega)]⟩
    | succ n =>
      refine ⟨_, _, hc, .inr (.inr ⟨s.next + 1, by rw [hll], by omega, by omega, by simp, by rw [St.get_new, if_pos (by simp)]⟩), by simp; omega, by simp, fun b hb => by rw [St.get_new, if_neg (by simp; omega), St.get_new, if_neg (by omega)]⟩
  · cases h

theorem sumPut_run {args : List AV} {s s' : St} {v : AV} (h : sumPut args s = some (v, s')) (hd : ∀ b o, s.get b = some o → b < s.next) : Wf mm 221 args s fun v1 s1 => D.Can s v1 s1 v s' := by
  unfold sumPut at h
  split at h
  case h_2 => cases h
  rename_i b w lb lo n c lz
  split at h
  case isFalse => cases h
  rename_i hc
  simp only [Bool.and_eq_true] at hc
  obtain ⟨hok, hn0, hn1⟩ := hc
  obtain ⟨hw, hw8⟩ := okW_small hok
  split at h
  case h_2 => cases h
  rename_i l hl
  split at h
  case h_2 => cases h
  rename_i x hx
  split at h
  case h_2 => cases h
  rename_i ns hns
  split at h
  case isFalse => cases h
  rename_i hall
  split at h
  case h_1 => cases h
  rename_i y r hyr
  cases h
  obtain ⟨hll, u, sc, hcl, hu, hsn, hsn2, hsg⟩ := cloned_run hl hd
  obtain ⟨hxm, hxl⟩ := decW_some hns
  obtain ⟨vs, lo2, ro, z, g1, g2, g3⟩ := loadA_some hx
  have hlen : ns.length = n := by
    have := congrArg List.length hxm
    rw [List.length_map, g3, List.length_take, List.length_drop] at this
    omega
  subst hlen
  have hn1 : ns.length < 1000 := by simpa using hn1
  refine (Put_run (lv := .slice lb lo ns.length c lz) hok hw hw8 hcl hu hsn hsn2 hsg hll hn1 (fun _ => rfl) fun j hj => ?_).mono ?_
  · refine ⟨lb, lo, vs, lo2, ro, z, fun s' => by rw [idx1_slice hj, Nat.mul_one], g1, hd _ _ g1, ?_, hxl _ (List.getElem_mem hj), ?_⟩
    · have := congrArg (fun l => l[j]?) hxm
      simp only [g3, List.getElem?_take_of_lt hj, List.getElem?_drop] at this
      rw [this, List.getElem?_map, List.getElem?_eq_getElem hj]
      rfl
    · have := List.all_eq_true.1 hall ns[j] (List.getElem_mem hj)
      exact Nat.le_of_ble_eq_true this
  · rintro _ s1 ⟨v0, rfl, ho, hg, hn, hn2⟩
    rw [hyr] at ho
    rcases ho with ⟨_, h1⟩ | ⟨_, _, h1, _⟩ | ⟨p, rfl, h1, h2, h3, h4⟩
    · cases h1
    · cases h1
    · refine .new (s.skip (2 + 16 * ns.length)) _ p rfl (fun b o hb => ?_) (by simp only [St.next_skip]; omega) (fun b vs l e hb => hb) h4 h2 ?_ fun ν ν' c hle hp hc => ?_
      · rw [St.get_skip] at hb
        rw [hg b (hd b o hb)]; exact hb
      · rw [St.get_skip]
        cases e : s.get p with
        | none => rfl
        | some o => have := hd p o e; omega
      · simp only [conc, concs, Option.map_eq_some_iff, Option.bind_eq_some_iff] at hc ⊢
        obtain ⟨a, ⟨b, ⟨q, hq, rfl⟩, rest, ⟨_, ⟨rfl⟩, e1, ⟨rfl⟩, rfl⟩, rfl⟩, rfl⟩ := hc
        refine ⟨_, ⟨_, ⟨q, by rw [← hq, ← hp]; rfl, rfl⟩, _, ⟨_, rfl, _, rfl, rfl⟩, rfl⟩, rfl⟩
theorem sumPut_next (args : List AV) (s : St) (v : AV) (s' : St) (hx : sumPut args s = some (v, s')) : s.next ≤ s'.next := by
  unfold sumPut at hx
  repeat' split at hx
  all_goals first
    | (cases hx; done)
    | (cases hx; simp only [St.next_new, St.next_skip]; omega)
end Go.Proofs.YtcaofhdlekjooaaGreat.Base
namespace Go.Proofs.YtcaofhdlekjooaaGreat
open D
theorem mm_mixed : Tryz.prog.follows .mixedOrders = true := Base.mm_mixed
set_option maxRecDepth 1000000 in
theorem mm_ft : FnsOk Tryz.prog mm.FT := tab_ok
set_option maxRecDepth 1000000 in
theorem mm_sm : SumsOk Tryz.prog mm.SM := sumsOk_addW Base.mm_mixed Base.mm_ft Base.mm_sm Base.mm_sn Base.sumPut_run (sumsOk_addW Base.mm_mixed Base.mm_ft Base.mm_sm Base.mm_sn Base.sumClone_run (sumsOk_addW Base.mm_mixed Base.mm_ft Base.mm_sm Base.mm_sn Base.sumLen_run (sumsOk_addW Base.mm_mixed Base.mm_ft Base.mm_sm Base.mm_sn Base.sumNum_run (sumsOk_addW Base.mm_mixed Base.mm_ft Base.mm_sm Base.mm_sn Base.sumTurn_run (sumsOk_addW Base.mm_mixed Base.mm_ft Base.mm_sm Base.mm_sn Base.sumOf_run (sumsOk_addW Base.mm_mixed Base.mm_ft Base.mm_sm Base.mm_sn Base.sumRight_run (Base.mm_sm)))))))
theorem mm_sn : SumsNext mm.SM := sumsNext_addI Base.sumPut_next (sumsNext_addI Base.sumClone_next (sumsNext_addI Base.sumLen_next (sumsNext_addI Base.sumNum_next (sumsNext_addI Base.sumTurn_next (sumsNext_addI Base.sumOf_next (sumsNext_addI Base.sumRight_next (Base.mm_sn)))))))
end Go.Proofs.YtcaofhdlekjooaaGreat
namespace Go.Proofs.YtcaofhdlekjooaaGreat
open D
set_option maxRecDepth 1000000 in
theorem mma_mixed : Tryz.prog.follows .mixedOrders = true := mm_mixed
set_option maxRecDepth 1000000 in
theorem mma_ft : FnsOk Tryz.prog mma.FT := mm_ft
set_option maxRecDepth 1000000 in
theorem mma_sm : SumsOk Tryz.prog mma.SM := sumsOk_add mm_mixed mm_ft mm_sm mm_sn alive_ran mm_sm
theorem mma_sn : SumsNext mma.SM := sumsNext_add mm_sn _
end Go.Proofs.YtcaofhdlekjooaaGreat
