/- keep.spans: of each span the last snapshot. First part: what is gathered.
slices.Sort over a few numbers of 32 bits.
keep.spans: what it answers. -/
import Derived.Test.YtbkpjeooommelaaZf
namespace Go.Proofs.Ytbkpjeooommelaa.Base
open D
set_option linter.unusedSimpArgs false
set_option linter.unusedVariables false
set_option maxRecDepth 10000

abbrev Lies (s : St) (b : Nat) (l : List AV) : Prop := s.get b = some (.cells l false false 0)

theorem CompareN_run (a b : Lb) (s : St) : Wf mm 19 [.agg [.int .u32 a.e, .int .u32 a.q], .agg [.int .u32 b.e, .int .u32 b.q]] s fun v s' => v = .int .i64 (a.cmp b) ∧ Fr s s' ∧ s'.next ≤ s.next + 3 := by
  refine Wf_enter ft19 (sm (by decide)) (by rfl) ?_
  simp only [fd19, go_sem, Wk_block, Wk_drawnC, reduceCtorEq, Nat.reduceEqDiff, Nat.reduceAdd, Nat.reduceLeDiff, Nat.reduceLT, Nat.reduceMul, Nat.reduceSub, ↓reduceIte, Int.reduceLT, Int.reduceLE, Int.reduceNeg, Int.reduceAdd, Int.reduceEq, Nat.reduceBneDiff, Nat.reduceBEq, Int.reduceToNat, Int.reduceMul, Int.reduceSub, Int.reduceBEq, Int.reduceBNe, Int.cast_ofNat_Int, Int.toNat_natCast_add_one, Nat.add_left_cancel_iff, Nat.left_eq_add, Nat.add_eq_left, Int.toNat_natCast, Nat.add_assoc, Int.ofNat_lt, Int.ofNat_le, Wl_eq (compare_run _ _ _)]
  rw [Wl_eq (or_run (cmpI a.e b.e) (cmpI a.q b.q) (by simp only [go_sem, Wk_block, Wk_drawnC, reduceCtorEq, Nat.reduceEqDiff, Nat.reduceAdd, Nat.reduceLeDiff, Nat.reduceLT, Nat.reduceMul, Nat.reduceSub, ↓reduceIte, Int.reduceLT, Int.reduceLE, Int.reduceNeg, Int.reduceAdd, Int.reduceEq, Nat.reduceBneDiff, Nat.reduceBEq, Int.reduceToNat, Int.reduceMul, Int.reduceSub, Int.reduceBEq, Int.reduceBNe, Int.cast_ofNat_Int, Int.toNat_natCast_add_one, Nat.add_left_cancel_iff, Nat.left_eq_add, Nat.add_eq_left, Int.toNat_natCast, Nat.add_assoc, Int.ofNat_lt, Int.ofNat_le]; rfl))]
  simp only [go_sem, Wk_block, Wk_drawnC, reduceCtorEq, Nat.reduceEqDiff, Nat.reduceAdd, Nat.reduceLeDiff, Nat.reduceLT, Nat.reduceMul, Nat.reduceSub, ↓reduceIte, Int.reduceLT, Int.reduceLE, Int.reduceNeg, Int.reduceAdd, Int.reduceEq, Nat.reduceBneDiff, Nat.reduceBEq, Int.reduceToNat, Int.reduceMul, Int.reduceSub, Int.reduceBEq, Int.reduceBNe, Int.cast_ofNat_Int, Int.toNat_natCast_add_one, Nat.add_left_cancel_iff, Nat.left_eq_add, Nat.add_eq_left, Int.toNat_natCast, Nat.add_assoc, Int.ofNat_lt, Int.ofNat_le, cmp_or]
  exact ⟨(((Fr.refl s).new _).new _).new _, Nat.le_refl _⟩

def mxL (a b : Lb) : Lb := if a.lt b then b else a
theorem cmp_gt0 {a b : Lb} : (b.cmp a > 0) ↔ a.lt b := by
  unfold Lb.cmp Lb.lt
  repeat' split
  all_goals omega

theorem Max_run (a b : Lb) {s : St} {p : Nat} (hp : Lies s p [.int .u32 a.e, .int .u32 a.q, .int .u32 b.e, .int .u32 b.q]) (hl : p < s.next) :
    Wf mm 32 [.slice p 0 2 2 false, .fn (.func 19) [] []] s fun v s' => v = .agg (mxL a b).enc ∧ Fr s s' ∧ s'.next ≤ s.next + 5 := by
  refine Wf_enter ft32 (sm (by decide)) (by rfl) ?_
  unfold Lies at hp
  obtain ⟨q, hq⟩ : ∃ q, s.next = q := ⟨_, rfl⟩
  have i0 : ∀ s, idx1 2 (some (.slice p 0 2 2 false)) (some (.int .i64 0)) s = some (.ptr p 0, s) := fun s => rfl
  have i1 : ∀ s, idx1 2 (some (.slice p 0 2 2 false)) (some (.int .i64 1)) s = some (.ptr p 2, s) := fun s => rfl
  have w2 : IntKind.i64.wrap 2 = 2 := rfl
  simp -implicitDefEqProofs only [go_sem, Wk_block, Wk_drawnC, reduceCtorEq, Nat.reduceEqDiff, Nat.reduceAdd, Nat.reduceLeDiff, Nat.reduceLT, Nat.reduceMul, Nat.reduceSub, ↓reduceIte, Int.reduceLT, Int.reduceLE, Int.reduceNeg, Int.reduceAdd, Int.reduceEq, Nat.reduceBneDiff, Nat.reduceBEq, Int.reduceToNat, Int.reduceMul, Int.reduceSub, Int.reduceBEq, Int.reduceBNe, Int.cast_ofNat_Int, Int.toNat_natCast_add_one, Nat.add_left_cancel_iff, Nat.left_eq_add, Nat.add_eq_left, Int.toNat_natCast, Nat.add_assoc, Int.ofNat_lt, Int.ofNat_le, Nat.lt_add_one_of_lt, Nat.lt_add_one, Nat.lt_add_right, Nat.lt_add_right_iff_pos, Nat.add_lt_add_iff_left, fd32, hp, hl, eq_next_f hl, eq_next_k hl, i0]
  rw [Wk_loop]
  simp -implicitDefEqProofs only [go_sem, Wk_block, Wk_drawnC, reduceCtorEq, Nat.reduceEqDiff, Nat.reduceAdd, Nat.reduceLeDiff, Nat.reduceLT, Nat.reduceMul, Nat.reduceSub, ↓reduceIte, Int.reduceLT, Int.reduceLE, Int.reduceNeg, Int.reduceAdd, Int.reduceEq, Nat.reduceBneDiff, Nat.reduceBEq, Int.reduceToNat, Int.reduceMul, Int.reduceSub, Int.reduceBEq, Int.reduceBNe, Int.cast_ofNat_Int, Int.toNat_natCast_add_one, Nat.add_left_cancel_iff, Nat.left_eq_add, Nat.add_eq_left, Int.toNat_natCast, Nat.add_assoc, Int.ofNat_lt, Int.ofNat_le, Nat.lt_add_one_of_lt, Nat.lt_add_one, Nat.lt_add_right, Nat.lt_add_right_iff_pos, Nat.add_lt_add_iff_left, hp, hl, eq_next_f hl, eq_next_k hl, i1]
  refine Wl_of (CompareN_run b a _) ?_
  rintro _ s2 ⟨rfl, f, fn⟩
  have hs2 : ∀ b, b < q + 2 → s2.get b = _ := fun b hb => f.get b (by simp only [St.next_new]; omega)
  have g4 : s2.get q = some (.cells [.int .u32 0, .int .u32 0] false false 0) := (hs2 q (by omega)).trans (by rw [St.get_new, if_neg (by simp only [St.next_new]; omega), St.get_new, if_pos hq.symm])
  have g5 : s2.get (q + 1) = some (.cells [.int .u32 a.e, .int .u32 a.q] false false 0) := (hs2 (q + 1) (by omega)).trans (by rw [St.get_new, if_pos (by simp only [St.next_new]; omega)])
  have gp : s2.get p = some (.cells [.int .u32 a.e, .int .u32 a.q, .int .u32 b.e, .int .u32 b.q] false false 0) := (hs2 p (by omega)).trans (by rw [St.get_new, if_neg (by simp only [St.next_new]; omega), St.get_new, if_neg (by omega), hp])
  have fs : Fr s s2 := (((Fr.refl s).new _).new _).trans f
  simp only [St.next_new] at fn
  rw [hq]
  cases hc : decide (b.cmp a > 0)
  · have hl : mxL a b = a := if_neg (fun h => by have := of_decide_eq_false hc; exact this (cmp_gt0.2 h))
    simp -implicitDefEqProofs only [go_sem, Wk_block, Wk_drawnC, reduceCtorEq, Nat.reduceEqDiff, Nat.reduceAdd, Nat.reduceLeDiff, Nat.reduceLT, Nat.reduceMul, Nat.reduceSub, ↓reduceIte, Int.reduceLT, Int.reduceLE, Int.reduceNeg, Int.reduceAdd, Int.reduceEq, Nat.reduceBneDiff, Nat.reduceBEq, Int.reduceToNat, Int.reduceMul, Int.reduceSub, Int.reduceBEq, Int.reduceBNe, Int.cast_ofNat_Int, Int.toNat_natCast_add_one, Nat.add_left_cancel_iff, Nat.left_eq_add, Nat.add_eq_left, Int.toNat_natCast, Nat.add_assoc, Int.ofNat_lt, Int.ofNat_le, Nat.lt_add_one_of_lt, Nat.lt_add_one, Nat.lt_add_right, Nat.lt_add_right_iff_pos, Nat.add_lt_add_iff_left, hc, w2]
    rw [Wk_loop]
    simp -implicitDefEqProofs only [go_sem, Wk_block, Wk_drawnC, reduceCtorEq, Nat.reduceEqDiff, Nat.reduceAdd, Nat.reduceLeDiff, Nat.reduceLT, Nat.reduceMul, Nat.reduceSub, ↓reduceIte, Int.reduceLT, Int.reduceLE, Int.reduceNeg, Int.reduceAdd, Int.reduceEq, Nat.reduceBneDiff, Nat.reduceBEq, Int.reduceToNat, Int.reduceMul, Int.reduceSub, Int.reduceBEq, Int.reduceBNe, Int.cast_ofNat_Int, Int.toNat_natCast_add_one, Nat.add_left_cancel_iff, Nat.left_eq_add, Nat.add_eq_left, Int.toNat_natCast, Nat.add_assoc, Int.ofNat_lt, Int.ofNat_le, Nat.lt_add_one_of_lt, Nat.lt_add_one, Nat.lt_add_right, Nat.lt_add_right_iff_pos, Nat.add_lt_add_iff_left, g4, g5]
    exact ⟨by rw [hl]; rfl, fs.put (by omega) _, (Nat.le_trans fn (by omega))⟩
  · have hl : mxL a b = b := if_pos (cmp_gt0.1 (of_decide_eq_true hc))
    have hqq : ¬ q = q + 1 := by omega
    simp -implicitDefEqProofs only [go_sem, Wk_block, Wk_drawnC, reduceCtorEq, Nat.reduceEqDiff, Nat.reduceAdd, Nat.reduceLeDiff, Nat.reduceLT, Nat.reduceMul, Nat.reduceSub, ↓reduceIte, Int.reduceLT, Int.reduceLE, Int.reduceNeg, Int.reduceAdd, Int.reduceEq, Nat.reduceBneDiff, Nat.reduceBEq, Int.reduceToNat, Int.reduceMul, Int.reduceSub, Int.reduceBEq, Int.reduceBNe, Int.cast_ofNat_Int, Int.toNat_natCast_add_one, Nat.add_left_cancel_iff, Nat.left_eq_add, Nat.add_eq_left, Int.toNat_natCast, Nat.add_assoc, Int.ofNat_lt, Int.ofNat_le, Nat.lt_add_one_of_lt, Nat.lt_add_one, Nat.lt_add_right, Nat.lt_add_right_iff_pos, Nat.add_lt_add_iff_left, hc, w2, g4, g5, gp, i1]
    rw [Wk_loop]
    simp -implicitDefEqProofs only [go_sem, Wk_block, Wk_drawnC, reduceCtorEq, Nat.reduceEqDiff, Nat.reduceAdd, Nat.reduceLeDiff, Nat.reduceLT, Nat.reduceMul, Nat.reduceSub, ↓reduceIte, Int.reduceLT, Int.reduceLE, Int.reduceNeg, Int.reduceAdd, Int.reduceEq, Nat.reduceBneDiff, Nat.reduceBEq, Int.reduceToNat, Int.reduceMul, Int.reduceSub, Int.reduceBEq, Int.reduceBNe, Int.cast_ofNat_Int, Int.toNat_natCast_add_one, Nat.add_left_cancel_iff, Nat.left_eq_add, Nat.add_eq_left, Int.toNat_natCast, Nat.add_assoc, Int.ofNat_lt, Int.ofNat_le, Nat.lt_add_one_of_lt, Nat.lt_add_one, Nat.lt_add_right, Nat.lt_add_right_iff_pos, Nat.add_lt_add_iff_left, g4, g5, hqq]
    exact ⟨by rw [hl]; rfl, (fs.put (by omega) _).put (by omega) _, (Nat.le_trans fn (by omega))⟩

theorem LastL_run (a b : Lb) {s : St} {p : Nat} (hp : Lies s p [.int .u32 a.e, .int .u32 a.q, .int .u32 b.e, .int .u32 b.q]) (hl : p < s.next) :
    Wf mm 24 [.slice p 0 2 2 false] s fun v s' => v = .agg (mxL a b).enc ∧ Fr s s' ∧ s'.next ≤ s.next + 6 := by
  refine Wf_enter ft24 (sm (by decide)) (by rfl) ?_
  have w2 : ((2 : Int) == 0) = false := rfl
  obtain ⟨q, hq⟩ : ∃ q, s.next = q := ⟨_, rfl⟩
  have hp2 : Lies (s.new (.cells [.int .u32 0, .int .u32 0] false false 0)) p [.int .u32 a.e, .int .u32 a.q, .int .u32 b.e, .int .u32 b.q] := by rw [Lies, St.get_new, if_neg (by omega)]; exact hp
  simp -implicitDefEqProofs only [go_sem, Wk_block, Wk_drawnC, reduceCtorEq, Nat.reduceEqDiff, Nat.reduceAdd, Nat.reduceLeDiff, Nat.reduceLT, Nat.reduceMul, Nat.reduceSub, ↓reduceIte, Int.reduceLT, Int.reduceLE, Int.reduceNeg, Int.reduceAdd, Int.reduceEq, Nat.reduceBneDiff, Nat.reduceBEq, Int.reduceToNat, Int.reduceMul, Int.reduceSub, Int.reduceBEq, Int.reduceBNe, Int.cast_ofNat_Int, Int.toNat_natCast_add_one, Nat.add_left_cancel_iff, Nat.left_eq_add, Nat.add_eq_left, Int.toNat_natCast, Nat.add_assoc, Int.ofNat_lt, Int.ofNat_le, Nat.lt_add_one_of_lt, Nat.lt_add_one, Nat.lt_add_right, Nat.lt_add_right_iff_pos, Nat.add_lt_add_iff_left, fd24, w2]
  refine Wl_of (Max_run a b hp2 (by simp only [St.next_new]; omega)) ?_
  rintro _ s2 ⟨rfl, f, fn⟩
  simp only [St.next_new] at fn
  have g : s2.get q = some (.cells [.int .u32 0, .int .u32 0] false false 0) := (f.get q (by simp only [St.next_new]; omega)).trans (by rw [St.get_new, if_pos hq.symm])
  rw [hq]
  simp -implicitDefEqProofs only [go_sem, Wk_block, Wk_drawnC, reduceCtorEq, Nat.reduceEqDiff, Nat.reduceAdd, Nat.reduceLeDiff, Nat.reduceLT, Nat.reduceMul, Nat.reduceSub, ↓reduceIte, Int.reduceLT, Int.reduceLE, Int.reduceNeg, Int.reduceAdd, Int.reduceEq, Nat.reduceBneDiff, Nat.reduceBEq, Int.reduceToNat, Int.reduceMul, Int.reduceSub, Int.reduceBEq, Int.reduceBNe, Int.cast_ofNat_Int, Int.toNat_natCast_add_one, Nat.add_left_cancel_iff, Nat.left_eq_add, Nat.add_eq_left, Int.toNat_natCast, Nat.add_assoc, Int.ofNat_lt, Int.ofNat_le, Nat.lt_add_one_of_lt, Nat.lt_add_one, Nat.lt_add_right, Nat.lt_add_right_iff_pos, Nat.add_lt_add_iff_left, Lb.enc, g]
  exact ⟨(((Fr.refl s).new _).trans f).put (by omega) _, by omega⟩

/-- A snapshot. -/
structure Sn where
  l : Lb
  r : Int
  t : Int
def Sn.enc (x : Sn) : List AV := [.int .u32 x.l.e, .int .u32 x.l.q, .int .i64 x.r, .int .u32 x.t]

/-- A slice that can be read. -/
structure Rd (s : St) (v : AV) (sz : Nat) (xs : List (List AV)) : Prop where
  len : ∀ s', len1 (some v) s' = some (.int .i64 (xs.length : Nat), s')
  max : xs.length ≤ maxLen
  form : 0 < xs.length → ∃ b o cap lo vs lo2 ro z, v = .slice b o xs.length cap lo ∧ s.get b = some (.cells vs lo2 ro z) ∧ b < s.next ∧ ∀ j (h : j < xs.length), o + j * sz + sz ≤ vs.length ∧ (vs.drop (o + j * sz)).take sz = xs[j]
theorem Rd.mono {s s' : St} {v : AV} {sz : Nat} {xs : List (List AV)} (h : Rd s v sz xs) (f : Fr s s') : Rd s' v sz xs where
  len := h.len
  max := h.max
  form hx := by
    obtain ⟨b, o, cap, lo, vs, lo2, ro, z, h1, h2, h3, h4⟩ := h.form hx
    exact ⟨b, o, cap, lo, vs, lo2, ro, z, h1, (f.get b h3).trans h2, Nat.lt_of_lt_of_le h3 f.le, h4⟩
theorem Rd.at_ {s : St} {v : AV} {sz : Nat} {xs : List (List AV)} (h : Rd s v sz xs) {j : Nat} (hj : j < xs.length) : ∃ b o vs lo2 ro z, (∀ s', idx1 sz (some v) (some (.int .i64 (j : Int))) s' = some (.ptr b (o + j * sz), s')) ∧ s.get b = some (.cells vs lo2 ro z) ∧
    o + j * sz + sz ≤ vs.length ∧ (vs.drop (o + j * sz)).take sz = xs[j] ∧ b < s.next := by
  obtain ⟨b, o, cap, lo, vs, lo2, ro, z, rfl, h2, h3, h4⟩ := h.form (by omega)
  exact ⟨b, o, vs, lo2, ro, z, fun s' => idx1_slice hj, h2, (h4 j hj).1, (h4 j hj).2, h3⟩

/-! ### What is the last one of each span -/
def findB : List (Int × Lb) → Int → Nat → Option (Nat × Lb)
  | [], _, _ => none
  | e :: r, n, k => if n == e.1 then some (k, e.2) else findB r n (k + 1)
def encF : Nat → List (Int × Lb) → List (AV × AV × Nat)
  | _, [] => []
  | i, e :: r => (.int .u32 e.1, .agg e.2.enc, i) :: encF (i + 1) r
theorem encF_len : ∀ (i : Nat) (b : List (Int × Lb)), (encF i b).length = b.length
  | _, [] => rfl
  | i, e :: r => by simp [encF, encF_len (i + 1) r]
theorem findA_enc : ∀ (b : List (Int × Lb)) (i k : Nat) (n : Int), findA .u32 n (encF i b) k = some ((findB b n k).map fun x => (x.1, .agg x.2.enc))
  | [], _, _, _ => rfl
  | e :: r, i, k, n => by
    simp only [encF, findA, findB, if_true]
    by_cases h : (n == e.1) = true
    · rw [if_pos h, if_pos h]; rfl
    · rw [if_neg h, if_neg h]; exact findA_enc r _ _ n
theorem encF_append : ∀ (b : List (Int × Lb)) (i : Nat) (x : Int × Lb), encF i (b ++ [x]) = encF i b ++ [(.int .u32 x.1, .agg x.2.enc, i + b.length)]
  | [], i, x => by simp [encF]
  | e :: r, i, x => by
    simp only [List.cons_append, encF, encF_append r (i + 1) x, List.length_cons]
    rw [show i + 1 + r.length = i + (r.length + 1) by omega]
theorem encF_set : ∀ (b : List (Int × Lb)) (i j : Nat) (x : Int × Lb), j < b.length → (encF i b).modify j (fun e => (.int .u32 x.1, .agg x.2.enc, e.2.2)) = encF i (b.set j x)
  | [], _, j, _, h => by simp at h
  | e :: r, i, 0, x, _ => by simp [encF]
  | e :: r, i, j + 1, x, h => by
    have := encF_set r (i + 1) j x (by simpa using h)
    simp only [encF, List.set_cons_succ, List.modify_succ_cons, this]
theorem findB_lt : ∀ (b : List (Int × Lb)) (n : Int) (k j : Nat) (v : Lb), findB b n k = some (j, v) → k ≤ j ∧ j < k + b.length ∧ b[j - k]? = some (n, v)
  | [], _, _, _, _, h => by cases h
  | e :: r, n, k, j, v, h => by
    unfold findB at h
    split at h
    · rename_i hn
      cases h
      have : n = e.1 := by simpa using hn
      refine ⟨Nat.le_refl _, by simp, ?_⟩
      rw [Nat.sub_self, List.getElem?_cons_zero, this]
    · obtain ⟨h1, h2, h3⟩ := findB_lt r n (k + 1) j v h
      refine ⟨by omega, by simp; omega, ?_⟩
      rw [show j - k = (j - (k + 1)) + 1 by omega, List.getElem?_cons_succ]
      exact h3
def pB (b : List (Int × Lb)) (n : Int) (v : Lb) : List (Int × Lb) := match findB b n 0 with
  | some (j, _) => b.set j (n, v)
  | none => b ++ [(n, v)]
def gB (b : List (Int × Lb)) (n : Int) : Lb := match findB b n 0 with
  | some (_, v) => v
  | none => ⟨0, 0⟩
def stepB (span : Int) (b : List (Int × Lb)) (x : Sn) : List (Int × Lb) := pB b (x.t.tdiv span) (mxL (gB b (x.t.tdiv span)) x.l)
def bestOf (span : Int) (l : List Sn) : List (Int × Lb) := l.foldl (stepB span) []
theorem bestOf_take {span : Int} {l : List Sn} {j : Nat} (hj : j < l.length) : bestOf span (l.take (j + 1)) = stepB span (bestOf span (l.take j)) l[j] := by
  rw [List.take_succ_eq_append_getElem hj]
  simp only [bestOf, List.foldl_append, List.foldl_cons, List.foldl_nil]

end Go.Proofs.Ytbkpjeooommelaa.Base
namespace Go.Proofs.Ytbkpjeooommelaa.Base
open D
set_option linter.unusedSimpArgs false
set_option linter.unusedVariables false
set_option maxRecDepth 10000

def uI (x : Int) : AV := .int .u32 x
theorem less_run (a b : Int) (s : St) : mm.L.call 52 [uI a, uI b] s = some (.bool (decide (a < b)), s) := by
  refine of_Wf (Wf_enter ft52 (sm (by decide)) (by rfl) ?_)
  have ft : (false == true) = false := rfl
  simp -implicitDefEqProofs only [go_sem, Wk_block, Wk_drawnC, reduceCtorEq, Nat.reduceEqDiff, Nat.reduceAdd, Nat.reduceLeDiff, Nat.reduceLT, Nat.reduceMul, Nat.reduceSub, ↓reduceIte, Int.reduceLT, Int.reduceLE, Int.reduceNeg, Int.reduceAdd, Int.reduceEq, Nat.reduceBneDiff, Nat.reduceBEq, Int.reduceToNat, Int.reduceMul, Int.reduceSub, Int.reduceBEq, Int.reduceBNe, Int.cast_ofNat_Int, Int.toNat_natCast_add_one, Nat.add_left_cancel_iff, Nat.left_eq_add, Nat.add_eq_left, Int.toNat_natCast, Nat.add_assoc, Int.ofNat_lt, Int.ofNat_le, Nat.lt_add_one_of_lt, Nat.lt_add_one, Nat.lt_add_right, Nat.lt_add_right_iff_pos, Nat.add_lt_add_iff_left, fd52, uI, Wl_eq (isNaN_run _ _), ft]

theorem u_get (Y : List Int) (j : Nat) (h : j < Y.length) : (Y.map uI)[j]? = some (uI Y[j]) := by rw [List.getElem?_map, List.getElem?_eq_getElem h]; rfl
theorem u_set (Y : List Int) (j : Nat) (x : Int) (h : j < Y.length) : List.take j (Y.map uI) ++ [uI x] ++ List.drop (j + 1) (Y.map uI) = (Y.set j x).map uI := by
  rw [← List.map_take, ← List.map_drop, ← List.map_singleton (f := uI) (a := x), ← List.map_append, ← List.map_append, List.set_eq_take_append_cons_drop, if_pos h, List.append_assoc]
  rfl
def swp (Y : List Int) (j : Nat) : List Int := (Y.set j (Y.getD (j - 1) 0)).set (j - 1) (Y.getD j 0)
theorem swp_get (Y : List Int) (j : Nat) (h0 : 0 < j) (h : j < Y.length) (k : Nat) (hk : k < Y.length) : (swp Y j).getD k 0 = if k = j then Y.getD (j - 1) 0 else if k = j - 1 then Y.getD j 0 else Y.getD k 0 := by
  unfold swp
  simp only [List.getD_eq_getElem?_getD, List.getElem?_set, List.length_set]
  by_cases h1 : k = j
  · subst h1
    rw [if_neg (by omega), if_pos rfl, if_pos hk, if_pos rfl]; rfl
  · rw [if_neg h1]
    by_cases h2 : k = j - 1
    · subst h2
      rw [if_pos rfl, if_pos hk, if_pos rfl]; rfl
    · rw [if_neg (fun e => h2 e.symm), if_neg (fun e => h1 e.symm), if_neg h2]
theorem swp_len (Y : List Int) (j : Nat) : (swp Y j).length = Y.length := by simp [swp]
theorem swp_perm (Y : List Int) (j : Nat) (h0 : 0 < j) (h : j < Y.length) : (swp Y j).Perm Y := by
  obtain ⟨k, rfl⟩ : ∃ k, j = k + 1 := ⟨j - 1, by omega⟩
  induction Y generalizing k with
  | nil => simp at h
  | cons a l ih =>
    cases k with
    | zero =>
      cases l with
      | nil => simp at h
      | cons b l => exact List.Perm.swap a b l
    | succ k =>
      have := ih k (by omega) (by simpa using h)
      unfold swp at this ⊢
      simp only [Nat.add_sub_cancel, List.getD_cons_succ, List.set_cons_succ] at this ⊢
      exact this.cons a

theorem Ins_run (X : List Int) (hX : X.length < 1000000) {s : St} {p : Nat} (hp : s.get p = some (.cells (X.map uI) true false 1)) (hpl : p < s.next) :
    Wf mm 46 [.slice p 0 X.length X.length true, .int .i64 0, .int .i64 (X.length : Int)] s fun w s' =>
      (∃ Y : List Int, Y.Perm X ∧ Y.Pairwise (· ≤ ·) ∧ s'.get p = some (.cells (Y.map uI) true false 1)) ∧ FrX p s s' ∧ s'.next = s.next := by
  refine Wf_enter ft46 (sm (by decide)) (by rfl) ?_
  have w1 : IntKind.i64.wrap 1 = 1 := rfl
  have ft : (false == true) = false := rfl
  simp -implicitDefEqProofs only [go_sem, Wk_block, Wk_drawnC, reduceCtorEq, Nat.reduceEqDiff, Nat.reduceAdd, Nat.reduceLeDiff, Nat.reduceLT, Nat.reduceMul, Nat.reduceSub, ↓reduceIte, Int.reduceLT, Int.reduceLE, Int.reduceNeg, Int.reduceAdd, Int.reduceEq, Nat.reduceBneDiff, Nat.reduceBEq, Int.reduceToNat, Int.reduceMul, Int.reduceSub, Int.reduceBEq, Int.reduceBNe, Int.cast_ofNat_Int, Int.toNat_natCast_add_one, Nat.add_left_cancel_iff, Nat.left_eq_add, Nat.add_eq_left, Int.toNat_natCast, Nat.add_assoc, Int.ofNat_lt, Int.ofNat_le, Nat.lt_add_one_of_lt, Nat.lt_add_one, Nat.lt_add_right, Nat.lt_add_right_iff_pos, Nat.add_lt_add_iff_left, fd46, w1]
  refine loop_ind (fun m ts s' => ∃ (i : Nat) (Y : List Int), m = X.length - i ∧ 1 ≤ i ∧ ts.get 6 = some (.int .i64 (i : Int)) ∧ ts.get 2 = some (.int .i64 (X.length : Int)) ∧ ts.get 1 = some (.int .i64 0) ∧ ts.get 0 = some (.slice p 0 X.length X.length true) ∧
    Y.Perm X ∧ (∀ a b, a < b → b < i → b < X.length → Y.getD a 0 ≤ Y.getD b 0) ∧ s'.get p = some (.cells (Y.map uI) true false 1) ∧ FrX p s s' ∧ s'.next = s.next) ?_ (n := X.length - 1)
    ⟨1, X, rfl, Nat.le_refl _, by simp only [go_sem, Wk_block, Wk_drawnC, reduceCtorEq, Nat.reduceEqDiff, Nat.reduceAdd, Nat.reduceLeDiff, Nat.reduceLT, Nat.reduceMul, Nat.reduceSub, ↓reduceIte, Int.reduceLT, Int.reduceLE, Int.reduceNeg, Int.reduceAdd, Int.reduceEq, Nat.reduceBneDiff, Nat.reduceBEq, Int.reduceToNat, Int.reduceMul, Int.reduceSub, Int.reduceBEq, Int.reduceBNe, Int.cast_ofNat_Int, Int.toNat_natCast_add_one, Nat.add_left_cancel_iff, Nat.left_eq_add, Nat.add_eq_left, Int.toNat_natCast, Nat.add_assoc, Int.ofNat_lt, Int.ofNat_le], by simp only [go_sem, Wk_block, Wk_drawnC, reduceCtorEq, Nat.reduceEqDiff, Nat.reduceAdd, Nat.reduceLeDiff, Nat.reduceLT, Nat.reduceMul, Nat.reduceSub, ↓reduceIte, Int.reduceLT, Int.reduceLE, Int.reduceNeg, Int.reduceAdd, Int.reduceEq, Nat.reduceBneDiff, Nat.reduceBEq, Int.reduceToNat, Int.reduceMul, Int.reduceSub, Int.reduceBEq, Int.reduceBNe, Int.cast_ofNat_Int, Int.toNat_natCast_add_one, Nat.add_left_cancel_iff, Nat.left_eq_add, Nat.add_eq_left, Int.toNat_natCast, Nat.add_assoc, Int.ofNat_lt, Int.ofNat_le], by simp only [go_sem, Wk_block, Wk_drawnC, reduceCtorEq, Nat.reduceEqDiff, Nat.reduceAdd, Nat.reduceLeDiff, Nat.reduceLT, Nat.reduceMul, Nat.reduceSub, ↓reduceIte, Int.reduceLT, Int.reduceLE, Int.reduceNeg, Int.reduceAdd, Int.reduceEq, Nat.reduceBneDiff, Nat.reduceBEq, Int.reduceToNat, Int.reduceMul, Int.reduceSub, Int.reduceBEq, Int.reduceBNe, Int.cast_ofNat_Int, Int.toNat_natCast_add_one, Nat.add_left_cancel_iff, Nat.left_eq_add, Nat.add_eq_left, Int.toNat_natCast, Nat.add_assoc, Int.ofNat_lt, Int.ofNat_le], by simp only [go_sem, Wk_block, Wk_drawnC, reduceCtorEq, Nat.reduceEqDiff, Nat.reduceAdd, Nat.reduceLeDiff, Nat.reduceLT, Nat.reduceMul, Nat.reduceSub, ↓reduceIte, Int.reduceLT, Int.reduceLE, Int.reduceNeg, Int.reduceAdd, Int.reduceEq, Nat.reduceBneDiff, Nat.reduceBEq, Int.reduceToNat, Int.reduceMul, Int.reduceSub, Int.reduceBEq, Int.reduceBNe, Int.cast_ofNat_Int, Int.toNat_natCast_add_one, Nat.add_left_cancel_iff, Nat.left_eq_add, Nat.add_eq_left, Int.toNat_natCast, Nat.add_assoc, Int.ofNat_lt, Int.ofNat_le], List.Perm.refl _, fun a b h1 h2 _ => by omega, hp, FrX.refl _ _, rfl⟩
  rintro m ts s1 ⟨i, Y, rfl, hi, g6, g2, g1, g0, hpm, hso, hY, f1, hn1⟩ IH
  have hYl : Y.length = X.length := hpm.length_eq
  by_cases hlt : i < X.length
  · simp -implicitDefEqProofs only [go_sem, Wk_block, Wk_drawnC, reduceCtorEq, Nat.reduceEqDiff, Nat.reduceAdd, Nat.reduceLeDiff, Nat.reduceLT, Nat.reduceMul, Nat.reduceSub, ↓reduceIte, Int.reduceLT, Int.reduceLE, Int.reduceNeg, Int.reduceAdd, Int.reduceEq, Nat.reduceBneDiff, Nat.reduceBEq, Int.reduceToNat, Int.reduceMul, Int.reduceSub, Int.reduceBEq, Int.reduceBNe, Int.cast_ofNat_Int, Int.toNat_natCast_add_one, Nat.add_left_cancel_iff, Nat.left_eq_add, Nat.add_eq_left, Int.toNat_natCast, Nat.add_assoc, Int.ofNat_lt, Int.ofNat_le, Nat.lt_add_one_of_lt, Nat.lt_add_one, Nat.lt_add_right, Nat.lt_add_right_iff_pos, Nat.add_lt_add_iff_left, g6, g2, hlt]
    refine loop_ind (fun m ts s' => ∃ (j : Nat) (Y : List Int), m = j ∧ j ≤ i ∧ ts.get 7 = some (.int .i64 (j : Int)) ∧ ts.get 6 = some (.int .i64 (i : Int)) ∧ ts.get 2 = some (.int .i64 (X.length : Int)) ∧ ts.get 1 = some (.int .i64 0) ∧ ts.get 0 = some (.slice p 0 X.length X.length true) ∧
      Y.Perm X ∧ (∀ a b, a < b → b ≤ i → a ≠ j → b ≠ j → Y.getD a 0 ≤ Y.getD b 0) ∧ (∀ b, j < b → b ≤ i → Y.getD j 0 ≤ Y.getD b 0) ∧ s'.get p = some (.cells (Y.map uI) true false 1) ∧ FrX p s s' ∧ s'.next = s.next) ?_ (n := i)
      ⟨i, Y, rfl, Nat.le_refl _, by simp only [go_sem, Wk_block, Wk_drawnC, reduceCtorEq, Nat.reduceEqDiff, Nat.reduceAdd, Nat.reduceLeDiff, Nat.reduceLT, Nat.reduceMul, Nat.reduceSub, ↓reduceIte, Int.reduceLT, Int.reduceLE, Int.reduceNeg, Int.reduceAdd, Int.reduceEq, Nat.reduceBneDiff, Nat.reduceBEq, Int.reduceToNat, Int.reduceMul, Int.reduceSub, Int.reduceBEq, Int.reduceBNe, Int.cast_ofNat_Int, Int.toNat_natCast_add_one, Nat.add_left_cancel_iff, Nat.left_eq_add, Nat.add_eq_left, Int.toNat_natCast, Nat.add_assoc, Int.ofNat_lt, Int.ofNat_le, g6], by simp only [go_sem, Wk_block, Wk_drawnC, reduceCtorEq, Nat.reduceEqDiff, Nat.reduceAdd, Nat.reduceLeDiff, Nat.reduceLT, Nat.reduceMul, Nat.reduceSub, ↓reduceIte, Int.reduceLT, Int.reduceLE, Int.reduceNeg, Int.reduceAdd, Int.reduceEq, Nat.reduceBneDiff, Nat.reduceBEq, Int.reduceToNat, Int.reduceMul, Int.reduceSub, Int.reduceBEq, Int.reduceBNe, Int.cast_ofNat_Int, Int.toNat_natCast_add_one, Nat.add_left_cancel_iff, Nat.left_eq_add, Nat.add_eq_left, Int.toNat_natCast, Nat.add_assoc, Int.ofNat_lt, Int.ofNat_le, g6], by simp only [go_sem, Wk_block, Wk_drawnC, reduceCtorEq, Nat.reduceEqDiff, Nat.reduceAdd, Nat.reduceLeDiff, Nat.reduceLT, Nat.reduceMul, Nat.reduceSub, ↓reduceIte, Int.reduceLT, Int.reduceLE, Int.reduceNeg, Int.reduceAdd, Int.reduceEq, Nat.reduceBneDiff, Nat.reduceBEq, Int.reduceToNat, Int.reduceMul, Int.reduceSub, Int.reduceBEq, Int.reduceBNe, Int.cast_ofNat_Int, Int.toNat_natCast_add_one, Nat.add_left_cancel_iff, Nat.left_eq_add, Nat.add_eq_left, Int.toNat_natCast, Nat.add_assoc, Int.ofNat_lt, Int.ofNat_le, g2], by simp only [go_sem, Wk_block, Wk_drawnC, reduceCtorEq, Nat.reduceEqDiff, Nat.reduceAdd, Nat.reduceLeDiff, Nat.reduceLT, Nat.reduceMul, Nat.reduceSub, ↓reduceIte, Int.reduceLT, Int.reduceLE, Int.reduceNeg, Int.reduceAdd, Int.reduceEq, Nat.reduceBneDiff, Nat.reduceBEq, Int.reduceToNat, Int.reduceMul, Int.reduceSub, Int.reduceBEq, Int.reduceBNe, Int.cast_ofNat_Int, Int.toNat_natCast_add_one, Nat.add_left_cancel_iff, Nat.left_eq_add, Nat.add_eq_left, Int.toNat_natCast, Nat.add_assoc, Int.ofNat_lt, Int.ofNat_le, g1], by simp only [go_sem, Wk_block, Wk_drawnC, reduceCtorEq, Nat.reduceEqDiff, Nat.reduceAdd, Nat.reduceLeDiff, Nat.reduceLT, Nat.reduceMul, Nat.reduceSub, ↓reduceIte, Int.reduceLT, Int.reduceLE, Int.reduceNeg, Int.reduceAdd, Int.reduceEq, Nat.reduceBneDiff, Nat.reduceBEq, Int.reduceToNat, Int.reduceMul, Int.reduceSub, Int.reduceBEq, Int.reduceBNe, Int.cast_ofNat_Int, Int.toNat_natCast_add_one, Nat.add_left_cancel_iff, Nat.left_eq_add, Nat.add_eq_left, Int.toNat_natCast, Nat.add_assoc, Int.ofNat_lt, Int.ofNat_le, g0], hpm, fun a b h1 h2 h3 h4 => hso a b h1 (by omega) (by omega), fun b h1 h2 => by omega, hY, f1, hn1⟩
    clear g6 g2 g1 g0 hpm hso hY f1 hn1 hYl
    rintro j ts s2 ⟨_, Y, rfl, hj, g7, g6, g2, g1, g0, hpm, hs1, hs2, hY, f2, hn2⟩ IH2
    have hYl : Y.length = X.length := hpm.length_eq
    have wi : IntKind.i64.wrap ((i : Int) + 1) = ((i + 1 : Nat) : Int) := succ_in (by omega)
    by_cases hj0 : 0 < j
    · obtain ⟨k, rfl⟩ : ∃ k, j = k + 1 := ⟨j - 1, by omega⟩
      have hjz : decide (((k + 1 : Nat) : Int) > 0) = true := decide_eq_true (by omega)
      have wk : IntKind.i64.wrap (((k + 1 : Nat) : Int) - 1) = (k : Int) := by rw [i64_in (by omega) (by omega)]; omega
      have i1 : ∀ s, idx1 1 (some (.slice p 0 X.length X.length true)) (some (.int .i64 ((k + 1 : Nat) : Int))) s = some (.ptr p (k + 1), s) := fun s => by rw [idx1_slice (by omega)]; simp
      have i0 : ∀ s, idx1 1 (some (.slice p 0 X.length X.length true)) (some (.int .i64 (k : Int))) s = some (.ptr p k, s) := fun s => by rw [idx1_slice (by omega)]; simp
      have a1 := u_get Y (k + 1) (by omega)
      have a0 := u_get Y k (by omega)
      have e1 : Y[k + 1]'(by omega) = Y.getD (k + 1) 0 := by rw [List.getD_eq_getElem?_getD, List.getElem?_eq_getElem (by omega)]; rfl
      have e0 : Y[k]'(by omega) = Y.getD k 0 := by rw [List.getD_eq_getElem?_getD, List.getElem?_eq_getElem (by omega)]; rfl
      rw [e1] at a1
      rw [e0] at a0
      cases hc : decide (Y.getD (k + 1) 0 < Y.getD k 0)
      · have hle : Y.getD k 0 ≤ Y.getD (k + 1) 0 := by have := of_decide_eq_false hc; omega
        simp -implicitDefEqProofs only [go_sem, Wk_block, Wk_drawnC, reduceCtorEq, Nat.reduceEqDiff, Nat.reduceAdd, Nat.reduceLeDiff, Nat.reduceLT, Nat.reduceMul, Nat.reduceSub, ↓reduceIte, Int.reduceLT, Int.reduceLE, Int.reduceNeg, Int.reduceAdd, Int.reduceEq, Nat.reduceBneDiff, Nat.reduceBEq, Int.reduceToNat, Int.reduceMul, Int.reduceSub, Int.reduceBEq, Int.reduceBNe, Int.cast_ofNat_Int, Int.toNat_natCast_add_one, Nat.add_left_cancel_iff, Nat.left_eq_add, Nat.add_eq_left, Int.toNat_natCast, Nat.add_assoc, Int.ofNat_lt, Int.ofNat_le, Nat.lt_add_one_of_lt, Nat.lt_add_one, Nat.lt_add_right, Nat.lt_add_right_iff_pos, Nat.add_lt_add_iff_left, g7, g1, g0, hjz, wk, i1, i0, hY, a1, a0, Wl_eq (less_run _ _ _), hc, g6, wi]
        refine IH (X.length - (i + 1)) _ _ (by omega) ⟨i + 1, Y, rfl, by omega, ?_, ?_, ?_, ?_, hpm, ?_, hY, f2, hn2⟩
        · simp only [go_sem, Wk_block, Wk_drawnC, reduceCtorEq, Nat.reduceEqDiff, Nat.reduceAdd, Nat.reduceLeDiff, Nat.reduceLT, Nat.reduceMul, Nat.reduceSub, ↓reduceIte, Int.reduceLT, Int.reduceLE, Int.reduceNeg, Int.reduceAdd, Int.reduceEq, Nat.reduceBneDiff, Nat.reduceBEq, Int.reduceToNat, Int.reduceMul, Int.reduceSub, Int.reduceBEq, Int.reduceBNe, Int.cast_ofNat_Int, Int.toNat_natCast_add_one, Nat.add_left_cancel_iff, Nat.left_eq_add, Nat.add_eq_left, Int.toNat_natCast, Nat.add_assoc, Int.ofNat_lt, Int.ofNat_le]
        · simp only [go_sem, Wk_block, Wk_drawnC, reduceCtorEq, Nat.reduceEqDiff, Nat.reduceAdd, Nat.reduceLeDiff, Nat.reduceLT, Nat.reduceMul, Nat.reduceSub, ↓reduceIte, Int.reduceLT, Int.reduceLE, Int.reduceNeg, Int.reduceAdd, Int.reduceEq, Nat.reduceBneDiff, Nat.reduceBEq, Int.reduceToNat, Int.reduceMul, Int.reduceSub, Int.reduceBEq, Int.reduceBNe, Int.cast_ofNat_Int, Int.toNat_natCast_add_one, Nat.add_left_cancel_iff, Nat.left_eq_add, Nat.add_eq_left, Int.toNat_natCast, Nat.add_assoc, Int.ofNat_lt, Int.ofNat_le, g2]
        · simp only [go_sem, Wk_block, Wk_drawnC, reduceCtorEq, Nat.reduceEqDiff, Nat.reduceAdd, Nat.reduceLeDiff, Nat.reduceLT, Nat.reduceMul, Nat.reduceSub, ↓reduceIte, Int.reduceLT, Int.reduceLE, Int.reduceNeg, Int.reduceAdd, Int.reduceEq, Nat.reduceBneDiff, Nat.reduceBEq, Int.reduceToNat, Int.reduceMul, Int.reduceSub, Int.reduceBEq, Int.reduceBNe, Int.cast_ofNat_Int, Int.toNat_natCast_add_one, Nat.add_left_cancel_iff, Nat.left_eq_add, Nat.add_eq_left, Int.toNat_natCast, Nat.add_assoc, Int.ofNat_lt, Int.ofNat_le, g1]
        · simp only [go_sem, Wk_block, Wk_drawnC, reduceCtorEq, Nat.reduceEqDiff, Nat.reduceAdd, Nat.reduceLeDiff, Nat.reduceLT, Nat.reduceMul, Nat.reduceSub, ↓reduceIte, Int.reduceLT, Int.reduceLE, Int.reduceNeg, Int.reduceAdd, Int.reduceEq, Nat.reduceBneDiff, Nat.reduceBEq, Int.reduceToNat, Int.reduceMul, Int.reduceSub, Int.reduceBEq, Int.reduceBNe, Int.cast_ofNat_Int, Int.toNat_natCast_add_one, Nat.add_left_cancel_iff, Nat.left_eq_add, Nat.add_eq_left, Int.toNat_natCast, Nat.add_assoc, Int.ofNat_lt, Int.ofNat_le, g0]
        · intro a b h1 h2 h3
          by_cases ha : a = k + 1
          · subst ha; exact hs2 b h1 (by omega)
          · by_cases hb : b = k + 1
            · subst hb
              by_cases hak : a = k
              · subst hak; exact hle
              · exact Int.le_trans (hs1 a k (by omega) (by omega) ha (by omega)) hle
            · exact hs1 a b h1 (by omega) ha hb
      · have hlt2 : Y.getD (k + 1) 0 < Y.getD k 0 := of_decide_eq_true hc
        have hls : k + 1 + 1 ≤ (Y.map uI).length := by rw [List.length_map]; omega
        have u1 := u_set Y (k + 1) (Y.getD k 0) (by omega)
        have u0 := u_set (Y.set (k + 1) (Y.getD k 0)) k (Y.getD (k + 1) 0) (by rw [List.length_set]; omega)
        have hls2 : k + 1 ≤ ((Y.set (k + 1) (Y.getD k 0)).map uI).length := by rw [List.length_map, List.length_set]; omega
        have hce : (uI (Y.getD k 0)).cells = [uI (Y.getD k 0)] := rfl
        have hce2 : (uI (Y.getD (k + 1) 0)).cells = [uI (Y.getD (k + 1) 0)] := rfl
        have hcl : (uI (Y.getD k 0)).cell = true := rfl
        have hcl2 : (uI (Y.getD (k + 1) 0)).cell = true := rfl
        simp -implicitDefEqProofs only [go_sem, Wk_block, Wk_drawnC, reduceCtorEq, Nat.reduceEqDiff, Nat.reduceAdd, Nat.reduceLeDiff, Nat.reduceLT, Nat.reduceMul, Nat.reduceSub, ↓reduceIte, Int.reduceLT, Int.reduceLE, Int.reduceNeg, Int.reduceAdd, Int.reduceEq, Nat.reduceBneDiff, Nat.reduceBEq, Int.reduceToNat, Int.reduceMul, Int.reduceSub, Int.reduceBEq, Int.reduceBNe, Int.cast_ofNat_Int, Int.toNat_natCast_add_one, Nat.add_left_cancel_iff, Nat.left_eq_add, Nat.add_eq_left, Int.toNat_natCast, Nat.add_assoc, Int.ofNat_lt, Int.ofNat_le, Nat.lt_add_one_of_lt, Nat.lt_add_one, Nat.lt_add_right, Nat.lt_add_right_iff_pos, Nat.add_lt_add_iff_left, g7, g1, g0, hjz, wk, i1, i0, hY, a1, a0, Wl_eq (less_run _ _ _), hc, hls, u1, hls2, u0, hce, hce2, hcl, hcl2]
        have hsw : (Y.set (k + 1) (Y.getD k 0)).set k (Y.getD (k + 1) 0) = swp Y (k + 1) := rfl
        rw [hsw]
        have sg := swp_get Y (k + 1) (by omega) (by omega)
        simp only [Nat.add_sub_cancel] at sg
        refine IH2 k _ _ (by omega) ⟨k, swp Y (k + 1), rfl, by omega, ?_, ?_, ?_, ?_, ?_, (swp_perm Y (k + 1) (by omega) (by omega)).trans hpm, ?_, ?_, by rw [St.get_put, if_pos rfl], f2.put (.inl rfl) _, hn2⟩
        · simp only [go_sem, Wk_block, Wk_drawnC, reduceCtorEq, Nat.reduceEqDiff, Nat.reduceAdd, Nat.reduceLeDiff, Nat.reduceLT, Nat.reduceMul, Nat.reduceSub, ↓reduceIte, Int.reduceLT, Int.reduceLE, Int.reduceNeg, Int.reduceAdd, Int.reduceEq, Nat.reduceBneDiff, Nat.reduceBEq, Int.reduceToNat, Int.reduceMul, Int.reduceSub, Int.reduceBEq, Int.reduceBNe, Int.cast_ofNat_Int, Int.toNat_natCast_add_one, Nat.add_left_cancel_iff, Nat.left_eq_add, Nat.add_eq_left, Int.toNat_natCast, Nat.add_assoc, Int.ofNat_lt, Int.ofNat_le]
        · simp only [go_sem, Wk_block, Wk_drawnC, reduceCtorEq, Nat.reduceEqDiff, Nat.reduceAdd, Nat.reduceLeDiff, Nat.reduceLT, Nat.reduceMul, Nat.reduceSub, ↓reduceIte, Int.reduceLT, Int.reduceLE, Int.reduceNeg, Int.reduceAdd, Int.reduceEq, Nat.reduceBneDiff, Nat.reduceBEq, Int.reduceToNat, Int.reduceMul, Int.reduceSub, Int.reduceBEq, Int.reduceBNe, Int.cast_ofNat_Int, Int.toNat_natCast_add_one, Nat.add_left_cancel_iff, Nat.left_eq_add, Nat.add_eq_left, Int.toNat_natCast, Nat.add_assoc, Int.ofNat_lt, Int.ofNat_le, g6]
        · simp only [go_sem, Wk_block, Wk_drawnC, reduceCtorEq, Nat.reduceEqDiff, Nat.reduceAdd, Nat.reduceLeDiff, Nat.reduceLT, Nat.reduceMul, Nat.reduceSub, ↓reduceIte, Int.reduceLT, Int.reduceLE, Int.reduceNeg, Int.reduceAdd, Int.reduceEq, Nat.reduceBneDiff, Nat.reduceBEq, Int.reduceToNat, Int.reduceMul, Int.reduceSub, Int.reduceBEq, Int.reduceBNe, Int.cast_ofNat_Int, Int.toNat_natCast_add_one, Nat.add_left_cancel_iff, Nat.left_eq_add, Nat.add_eq_left, Int.toNat_natCast, Nat.add_assoc, Int.ofNat_lt, Int.ofNat_le, g2]
        · simp only [go_sem, Wk_block, Wk_drawnC, reduceCtorEq, Nat.reduceEqDiff, Nat.reduceAdd, Nat.reduceLeDiff, Nat.reduceLT, Nat.reduceMul, Nat.reduceSub, ↓reduceIte, Int.reduceLT, Int.reduceLE, Int.reduceNeg, Int.reduceAdd, Int.reduceEq, Nat.reduceBneDiff, Nat.reduceBEq, Int.reduceToNat, Int.reduceMul, Int.reduceSub, Int.reduceBEq, Int.reduceBNe, Int.cast_ofNat_Int, Int.toNat_natCast_add_one, Nat.add_left_cancel_iff, Nat.left_eq_add, Nat.add_eq_left, Int.toNat_natCast, Nat.add_assoc, Int.ofNat_lt, Int.ofNat_le, g1]
        · simp only [go_sem, Wk_block, Wk_drawnC, reduceCtorEq, Nat.reduceEqDiff, Nat.reduceAdd, Nat.reduceLeDiff, Nat.reduceLT, Nat.reduceMul, Nat.reduceSub, ↓reduceIte, Int.reduceLT, Int.reduceLE, Int.reduceNeg, Int.reduceAdd, Int.reduceEq, Nat.reduceBneDiff, Nat.reduceBEq, Int.reduceToNat, Int.reduceMul, Int.reduceSub, Int.reduceBEq, Int.reduceBNe, Int.cast_ofNat_Int, Int.toNat_natCast_add_one, Nat.add_left_cancel_iff, Nat.left_eq_add, Nat.add_eq_left, Int.toNat_natCast, Nat.add_assoc, Int.ofNat_lt, Int.ofNat_le, g0]
        · intro a b h1 h2 h3 h4
          rw [sg a (by omega), sg b (by omega)]
          by_cases hb : b = k + 1
          · subst hb
            rw [if_pos rfl, if_neg (by omega), if_neg h3]
            exact hs1 a k (by omega) (by omega) (by omega) (by omega)
          · rw [if_neg hb, if_neg h4]
            by_cases ha : a = k + 1
            · subst ha
              rw [if_pos rfl]
              exact hs1 k b (by omega) h2 (by omega) hb
            · rw [if_neg ha, if_neg h3]
              exact hs1 a b h1 h2 ha hb
        · intro b h1 h2
          rw [sg k (by omega), sg b (by omega), if_neg (by omega), if_pos rfl]
          by_cases hb : b = k + 1
          · rw [if_pos hb]; omega
          · rw [if_neg hb, if_neg (by omega)]
            exact hs2 b (by omega) h2
    · have : j = 0 := by omega
      subst this
      have hjz : decide ((0 : Int) > 0) = false := rfl
      rw [show ((0 : Nat) : Int) = 0 from rfl] at g7
      simp -implicitDefEqProofs only [go_sem, Wk_block, Wk_drawnC, reduceCtorEq, Nat.reduceEqDiff, Nat.reduceAdd, Nat.reduceLeDiff, Nat.reduceLT, Nat.reduceMul, Nat.reduceSub, ↓reduceIte, Int.reduceLT, Int.reduceLE, Int.reduceNeg, Int.reduceAdd, Int.reduceEq, Nat.reduceBneDiff, Nat.reduceBEq, Int.reduceToNat, Int.reduceMul, Int.reduceSub, Int.reduceBEq, Int.reduceBNe, Int.cast_ofNat_Int, Int.toNat_natCast_add_one, Nat.add_left_cancel_iff, Nat.left_eq_add, Nat.add_eq_left, Int.toNat_natCast, Nat.add_assoc, Int.ofNat_lt, Int.ofNat_le, Nat.lt_add_one_of_lt, Nat.lt_add_one, Nat.lt_add_right, Nat.lt_add_right_iff_pos, Nat.add_lt_add_iff_left, g7, g1, hjz, ft, g6, wi]
      refine IH (X.length - (i + 1)) _ _ (by omega) ⟨i + 1, Y, rfl, by omega, ?_, ?_, ?_, ?_, hpm, ?_, hY, f2, hn2⟩
      · simp only [go_sem, Wk_block, Wk_drawnC, reduceCtorEq, Nat.reduceEqDiff, Nat.reduceAdd, Nat.reduceLeDiff, Nat.reduceLT, Nat.reduceMul, Nat.reduceSub, ↓reduceIte, Int.reduceLT, Int.reduceLE, Int.reduceNeg, Int.reduceAdd, Int.reduceEq, Nat.reduceBneDiff, Nat.reduceBEq, Int.reduceToNat, Int.reduceMul, Int.reduceSub, Int.reduceBEq, Int.reduceBNe, Int.cast_ofNat_Int, Int.toNat_natCast_add_one, Nat.add_left_cancel_iff, Nat.left_eq_add, Nat.add_eq_left, Int.toNat_natCast, Nat.add_assoc, Int.ofNat_lt, Int.ofNat_le]
      · simp only [go_sem, Wk_block, Wk_drawnC, reduceCtorEq, Nat.reduceEqDiff, Nat.reduceAdd, Nat.reduceLeDiff, Nat.reduceLT, Nat.reduceMul, Nat.reduceSub, ↓reduceIte, Int.reduceLT, Int.reduceLE, Int.reduceNeg, Int.reduceAdd, Int.reduceEq, Nat.reduceBneDiff, Nat.reduceBEq, Int.reduceToNat, Int.reduceMul, Int.reduceSub, Int.reduceBEq, Int.reduceBNe, Int.cast_ofNat_Int, Int.toNat_natCast_add_one, Nat.add_left_cancel_iff, Nat.left_eq_add, Nat.add_eq_left, Int.toNat_natCast, Nat.add_assoc, Int.ofNat_lt, Int.ofNat_le, g2]
      · simp only [go_sem, Wk_block, Wk_drawnC, reduceCtorEq, Nat.reduceEqDiff, Nat.reduceAdd, Nat.reduceLeDiff, Nat.reduceLT, Nat.reduceMul, Nat.reduceSub, ↓reduceIte, Int.reduceLT, Int.reduceLE, Int.reduceNeg, Int.reduceAdd, Int.reduceEq, Nat.reduceBneDiff, Nat.reduceBEq, Int.reduceToNat, Int.reduceMul, Int.reduceSub, Int.reduceBEq, Int.reduceBNe, Int.cast_ofNat_Int, Int.toNat_natCast_add_one, Nat.add_left_cancel_iff, Nat.left_eq_add, Nat.add_eq_left, Int.toNat_natCast, Nat.add_assoc, Int.ofNat_lt, Int.ofNat_le, g1]
      · simp only [go_sem, Wk_block, Wk_drawnC, reduceCtorEq, Nat.reduceEqDiff, Nat.reduceAdd, Nat.reduceLeDiff, Nat.reduceLT, Nat.reduceMul, Nat.reduceSub, ↓reduceIte, Int.reduceLT, Int.reduceLE, Int.reduceNeg, Int.reduceAdd, Int.reduceEq, Nat.reduceBneDiff, Nat.reduceBEq, Int.reduceToNat, Int.reduceMul, Int.reduceSub, Int.reduceBEq, Int.reduceBNe, Int.cast_ofNat_Int, Int.toNat_natCast_add_one, Nat.add_left_cancel_iff, Nat.left_eq_add, Nat.add_eq_left, Int.toNat_natCast, Nat.add_assoc, Int.ofNat_lt, Int.ofNat_le, g0]
      · intro a b h1 h2 h3
        by_cases ha : a = 0
        · subst ha; exact hs2 b h1 (by omega)
        · exact hs1 a b h1 (by omega) ha (by omega)
  · simp -implicitDefEqProofs only [go_sem, Wk_block, Wk_drawnC, reduceCtorEq, Nat.reduceEqDiff, Nat.reduceAdd, Nat.reduceLeDiff, Nat.reduceLT, Nat.reduceMul, Nat.reduceSub, ↓reduceIte, Int.reduceLT, Int.reduceLE, Int.reduceNeg, Int.reduceAdd, Int.reduceEq, Nat.reduceBneDiff, Nat.reduceBEq, Int.reduceToNat, Int.reduceMul, Int.reduceSub, Int.reduceBEq, Int.reduceBNe, Int.cast_ofNat_Int, Int.toNat_natCast_add_one, Nat.add_left_cancel_iff, Nat.left_eq_add, Nat.add_eq_left, Int.toNat_natCast, Nat.add_assoc, Int.ofNat_lt, Int.ofNat_le, Nat.lt_add_one_of_lt, Nat.lt_add_one, Nat.lt_add_right, Nat.lt_add_right_iff_pos, Nat.add_lt_add_iff_left, g6, g2, hlt]
    refine ⟨⟨Y, hpm, ?_, hY⟩, f1, hn1⟩
    rw [List.pairwise_iff_getElem]
    intro a b ha hb hab
    have := hso a b hab (by omega) (by omega)
    rw [List.getD_eq_getElem?_getD, List.getD_eq_getElem?_getD, List.getElem?_eq_getElem ha, List.getElem?_eq_getElem hb] at this
    exact this

theorem call_of_eng {f fuel : Nat} {a : List AV} {s s' : St} {v : AV} (h : (eng mm.FT mm.SM fuel).call f a s = some (v, s')) : mm.L.call f a s = some (v, s') := ((sup_lim mm.FT mm.SM).le fuel).call f a s _ h
set_option maxRecDepth 100000 in
theorem len_eng (s : St) : ∀ n : Nat, n ≤ 12 → ∃ r, mm.L.call 28 [.int .u64 (n : Int)] s = some (.int .i64 r, s)
  | 0, _ => ⟨0, call_of_eng (fuel := 40) (by kernel_rfl)⟩
  | 1, _ => ⟨1, call_of_eng (fuel := 40) (by kernel_rfl)⟩
  | 2, _ => ⟨2, call_of_eng (fuel := 40) (by kernel_rfl)⟩
  | 3, _ => ⟨2, call_of_eng (fuel := 40) (by kernel_rfl)⟩
  | 4, _ => ⟨3, call_of_eng (fuel := 40) (by kernel_rfl)⟩
  | 5, _ => ⟨3, call_of_eng (fuel := 40) (by kernel_rfl)⟩
  | 6, _ => ⟨3, call_of_eng (fuel := 40) (by kernel_rfl)⟩
  | 7, _ => ⟨3, call_of_eng (fuel := 40) (by kernel_rfl)⟩
  | 8, _ => ⟨4, call_of_eng (fuel := 40) (by kernel_rfl)⟩
  | 9, _ => ⟨4, call_of_eng (fuel := 40) (by kernel_rfl)⟩
  | 10, _ => ⟨4, call_of_eng (fuel := 40) (by kernel_rfl)⟩
  | 11, _ => ⟨4, call_of_eng (fuel := 40) (by kernel_rfl)⟩
  | 12, _ => ⟨4, call_of_eng (fuel := 40) (by kernel_rfl)⟩
  | n + 13, h => by omega
theorem SortU_run (X : List Int) (hX : X.length ≤ 12) {s : St} {p : Nat} (hp : s.get p = some (.cells (X.map uI) true false 1)) (hpl : p < s.next) :
    Wf mm 25 [.slice p 0 X.length X.length true] s fun w s' => (∃ Y : List Int, Y.Perm X ∧ Y.Pairwise (· ≤ ·) ∧ s'.get p = some (.cells (Y.map uI) true false 1)) ∧ FrX p s s' ∧ s'.next = s.next := by
  refine Wf_enter ft25 (sm (by decide)) (by rfl) ?_
  have wn : IntKind.u64.wrap (X.length : Int) = (X.length : Int) := u64_in (by omega) (by omega)
  obtain ⟨r, hr⟩ := len_eng s X.length hX
  simp -implicitDefEqProofs only [go_sem, Wk_block, Wk_drawnC, reduceCtorEq, Nat.reduceEqDiff, Nat.reduceAdd, Nat.reduceLeDiff, Nat.reduceLT, Nat.reduceMul, Nat.reduceSub, ↓reduceIte, Int.reduceLT, Int.reduceLE, Int.reduceNeg, Int.reduceAdd, Int.reduceEq, Nat.reduceBneDiff, Nat.reduceBEq, Int.reduceToNat, Int.reduceMul, Int.reduceSub, Int.reduceBEq, Int.reduceBNe, Int.cast_ofNat_Int, Int.toNat_natCast_add_one, Nat.add_left_cancel_iff, Nat.left_eq_add, Nat.add_eq_left, Int.toNat_natCast, Nat.add_assoc, Int.ofNat_lt, Int.ofNat_le, Nat.lt_add_one_of_lt, Nat.lt_add_one, Nat.lt_add_right, Nat.lt_add_right_iff_pos, Nat.add_lt_add_iff_left, fd25, wn, Wl_eq hr]
  have hq : Wf mm 33 [.slice p 0 X.length X.length true, .int .i64 0, .int .i64 (X.length : Int), .int .i64 r] s fun w s' => (∃ Y : List Int, Y.Perm X ∧ Y.Pairwise (· ≤ ·) ∧ s'.get p = some (.cells (Y.map uI) true false 1)) ∧ FrX p s s' ∧ s'.next = s.next := by
    refine Wf_enter ft33 (sm (by decide)) (by rfl) ?_
    have w0 : IntKind.i64.wrap ((X.length : Int) - 0) = (X.length : Int) := by rw [i64_in (by omega) (by omega)]; omega
    have c1 : decide ((X.length : Int) ≤ 12) = true := decide_eq_true (by omega)
    simp -implicitDefEqProofs only [fd33, go_sem, Wk_block, Wk_drawnC, reduceCtorEq, Nat.reduceEqDiff, Nat.reduceAdd, Nat.reduceLeDiff, Nat.reduceLT, Nat.reduceMul, Nat.reduceSub, ↓reduceIte, Int.reduceLT, Int.reduceLE, Int.reduceNeg, Int.reduceAdd, Int.reduceEq, Nat.reduceBneDiff, Nat.reduceBEq, Int.reduceToNat, Int.reduceMul, Int.reduceSub, Int.reduceBEq, Int.reduceBNe, Int.cast_ofNat_Int, Int.toNat_natCast_add_one, Nat.add_left_cancel_iff, Nat.left_eq_add, Nat.add_eq_left, Int.toNat_natCast, Nat.add_assoc, Int.ofNat_lt, Int.ofNat_le]
    rw [Wk_loop]
    simp -implicitDefEqProofs only [go_sem, Wk_block, Wk_drawnC, reduceCtorEq, Nat.reduceEqDiff, Nat.reduceAdd, Nat.reduceLeDiff, Nat.reduceLT, Nat.reduceMul, Nat.reduceSub, ↓reduceIte, Int.reduceLT, Int.reduceLE, Int.reduceNeg, Int.reduceAdd, Int.reduceEq, Nat.reduceBneDiff, Nat.reduceBEq, Int.reduceToNat, Int.reduceMul, Int.reduceSub, Int.reduceBEq, Int.reduceBNe, Int.cast_ofNat_Int, Int.toNat_natCast_add_one, Nat.add_left_cancel_iff, Nat.left_eq_add, Nat.add_eq_left, Int.toNat_natCast, Nat.add_assoc, Int.ofNat_lt, Int.ofNat_le, Nat.lt_add_one_of_lt, Nat.lt_add_one, Nat.lt_add_right, Nat.lt_add_right_iff_pos, Nat.add_lt_add_iff_left, w0, c1]
    refine Wl_of (Ins_run X (by omega) hp hpl) ?_
    rintro w s1 h
    simp -implicitDefEqProofs only [go_sem, Wk_block, Wk_drawnC, reduceCtorEq, Nat.reduceEqDiff, Nat.reduceAdd, Nat.reduceLeDiff, Nat.reduceLT, Nat.reduceMul, Nat.reduceSub, ↓reduceIte, Int.reduceLT, Int.reduceLE, Int.reduceNeg, Int.reduceAdd, Int.reduceEq, Nat.reduceBneDiff, Nat.reduceBEq, Int.reduceToNat, Int.reduceMul, Int.reduceSub, Int.reduceBEq, Int.reduceBNe, Int.cast_ofNat_Int, Int.toNat_natCast_add_one, Nat.add_left_cancel_iff, Nat.left_eq_add, Nat.add_eq_left, Int.toNat_natCast, Nat.add_assoc, Int.ofNat_lt, Int.ofNat_le, Nat.lt_add_one_of_lt, Nat.lt_add_one, Nat.lt_add_right, Nat.lt_add_right_iff_pos, Nat.add_lt_add_iff_left, w0]
    exact h
  refine Wl_of hq ?_
  rintro w s1 h
  simp -implicitDefEqProofs only [go_sem, Wk_block, Wk_drawnC, reduceCtorEq, Nat.reduceEqDiff, Nat.reduceAdd, Nat.reduceLeDiff, Nat.reduceLT, Nat.reduceMul, Nat.reduceSub, ↓reduceIte, Int.reduceLT, Int.reduceLE, Int.reduceNeg, Int.reduceAdd, Int.reduceEq, Nat.reduceBneDiff, Nat.reduceBEq, Int.reduceToNat, Int.reduceMul, Int.reduceSub, Int.reduceBEq, Int.reduceBNe, Int.cast_ofNat_Int, Int.toNat_natCast_add_one, Nat.add_left_cancel_iff, Nat.left_eq_add, Nat.add_eq_left, Int.toNat_natCast, Nat.add_assoc, Int.ofNat_lt, Int.ofNat_le, Nat.lt_add_one_of_lt, Nat.lt_add_one, Nat.lt_add_right, Nat.lt_add_right_iff_pos, Nat.add_lt_add_iff_left, wn]
  exact h
set_option maxRecDepth 100000 in
theorem SortU_nil (s : St) : mm.L.call 25 [.nilSlice] s = some (.tup [], s) := call_of_eng (fuel := 60) (by kernel_rfl)
end Go.Proofs.Ytbkpjeooommelaa.Base
namespace Go.Proofs.Ytbkpjeooommelaa.Base
open D
set_option linter.unusedSimpArgs false
set_option linter.unusedVariables false
set_option maxRecDepth 10000

def insU (x : Int) : List Int → List Int
  | [] => [x]
  | y :: r => if x ≤ y then x :: y :: r else y :: insU x r
def isU : List Int → List Int
  | [] => []
  | x :: r => insU x (isU r)
theorem insU_perm (x : Int) : ∀ l, (insU x l).Perm (x :: l)
  | [] => List.Perm.refl _
  | y :: r => by
    unfold insU
    split
    · exact List.Perm.refl _
    · exact ((insU_perm x r).cons y).trans (List.Perm.swap x y r)
theorem isU_perm : ∀ l, (isU l).Perm l
  | [] => List.Perm.refl _
  | x :: r => (insU_perm x (isU r)).trans ((isU_perm r).cons x)
theorem insU_pair (x : Int) : ∀ l, l.Pairwise (· ≤ ·) → (insU x l).Pairwise (· ≤ ·)
  | [], _ => List.pairwise_singleton _ _
  | y :: r, h => by
    have h' := List.pairwise_cons.1 h
    unfold insU
    split
    · rename_i hxy
      refine List.pairwise_cons.2 ⟨fun a ha => ?_, h⟩
      rcases List.mem_cons.1 ha with rfl | ha
      · exact hxy
      · exact Int.le_trans hxy (h'.1 a ha)
    · rename_i hxy
      refine List.pairwise_cons.2 ⟨fun a ha => ?_, insU_pair x r h'.2⟩
      rcases List.mem_cons.1 ((insU_perm x r).mem_iff.1 ha) with rfl | ha
      · omega
      · exact h'.1 a ha
theorem isU_pair : ∀ l, (isU l).Pairwise (· ≤ ·)
  | [] => List.Pairwise.nil
  | x :: r => insU_pair x _ (isU_pair r)
def keysS (b : List (Int × Lb)) : List Int := isU (b.map (·.1))
def spansV (span : Int) (l : List Sn) : List Lb := ((keysS (bestOf span l)).reverse).map (gB (bestOf span l))
theorem keysS_perm (b : List (Int × Lb)) : (keysS b).Perm (b.map (·.1)) := isU_perm _
theorem keysS_pair (b : List (Int × Lb)) : (keysS b).Pairwise (· ≤ ·) := isU_pair _
theorem keysS_eq {b : List (Int × Lb)} {Y : List Int} (h : Y.Perm (b.map (·.1))) (hs : Y.Pairwise (· ≤ ·)) : Y = keysS b :=
  List.Perm.eq_of_pairwise (le := (· ≤ ·)) (fun a b _ _ h1 h2 => Int.le_antisymm h1 h2) hs (keysS_pair b) (h.trans (keysS_perm b).symm)

/-- A slice that append made, of numbers; of labels. -/
def OutU (s : St) (N : Nat) (w : AV) (L : List Int) : Prop := (w = .nilSlice ∧ L = []) ∨ ∃ p, w = .slice p 0 L.length L.length true ∧ 0 < L.length ∧ N ≤ p ∧ p < s.next ∧ s.get p = some (.cells (L.map uI) true false 1)
def OutL (s : St) (N : Nat) (w : AV) (L : List Lb) : Prop := (w = .nilSlice ∧ L = []) ∨ ∃ p, w = .slice p 0 L.length L.length true ∧ 0 < L.length ∧ N ≤ p ∧ p < s.next ∧ s.get p = some (.cells (L.flatMap Lb.enc) true false 2)
theorem OutU.cell {s : St} {N : Nat} {w : AV} {L : List Int} (h : OutU s N w L) : w.cell = true ∧ w.cells = [w] := by
  rcases h with ⟨rfl, _⟩ | ⟨p, rfl, _⟩ <;> exact ⟨rfl, rfl⟩
theorem OutL.cell {s : St} {N : Nat} {w : AV} {L : List Lb} (h : OutL s N w L) : w.cell = true ∧ w.cells = [w] := by
  rcases h with ⟨rfl, _⟩ | ⟨p, rfl, _⟩ <;> exact ⟨rfl, rfl⟩
theorem OutU.new {s : St} {N : Nat} {w : AV} {L : List Int} (h : OutU s N w L) (o : AObj) : OutU (s.new o) N w L := by
  rcases h with h | ⟨p, h1, h2, h3, h4, h5⟩
  · exact .inl h
  · exact .inr ⟨p, h1, h2, h3, by simp only [St.next_new]; omega, by rw [St.get_new, if_neg (by omega)]; exact h5⟩
theorem OutL.new {s : St} {N : Nat} {w : AV} {L : List Lb} (h : OutL s N w L) (o : AObj) : OutL (s.new o) N w L := by
  rcases h with h | ⟨p, h1, h2, h3, h4, h5⟩
  · exact .inl h
  · exact .inr ⟨p, h1, h2, h3, by simp only [St.next_new]; omega, by rw [St.get_new, if_neg (by omega)]; exact h5⟩
theorem OutU.put {s : St} {N : Nat} {w : AV} {L : List Int} (h : OutU s N w L) {b : Nat} (hb : b < N) (o : AObj) : OutU (s.put b o) N w L := by
  rcases h with h | ⟨p, h1, h2, h3, h4, h5⟩
  · exact .inl h
  · exact .inr ⟨p, h1, h2, h3, h4, by rw [St.get_put, if_neg (by omega)]; exact h5⟩
theorem OutL.put {s : St} {N : Nat} {w : AV} {L : List Lb} (h : OutL s N w L) {b : Nat} (hb : b < N) (o : AObj) : OutL (s.put b o) N w L := by
  rcases h with h | ⟨p, h1, h2, h3, h4, h5⟩
  · exact .inl h
  · exact .inr ⟨p, h1, h2, h3, h4, by rw [St.get_put, if_neg (by omega)]; exact h5⟩
theorem OutU.push {s : St} {N : Nat} {w : AV} {L : List Int} (h : OutU s N w L) (hN : N ≤ s.next) (hl : L.length < 1000000) (x : Int) :
    ∃ w' s', appendA 1 4 s w 1 [.int .u32 x] = some (w', s') ∧ OutU s' N w' (L ++ [x]) ∧ s'.next = s.next + 1 ∧ ∀ b, b < N → s'.get b = s.get b := by
  rcases h with ⟨rfl, rfl⟩ | ⟨p, rfl, h1, h2, h3, h4⟩
  · refine ⟨.slice s.next 0 1 1 true, s.new (.cells [.int .u32 x] true false 1), rfl, .inr ⟨s.next, rfl, by simp, hN, Nat.lt_succ_self _, ?_⟩, rfl, fun b hb => ?_⟩
    · rw [St.get_new, if_pos rfl]; rfl
    · rw [St.get_new, if_neg (by omega)]
  · refine ⟨.slice s.next 0 (L.length + 1) (L.length + 1) true, (s.drop p).new (.cells (L.map uI ++ [.int .u32 x]) true false 1), ?_, .inr ⟨s.next, by simp, by simp, hN, Nat.lt_succ_self _, ?_⟩, rfl, fun b hb => ?_⟩
    · have hlo : loadA s p 0 (L.length * 1) = some (L.map uI) := by
        unfold loadA
        rw [h4]
        simp [List.take_of_length_le]
      unfold appendA
      simp only [hlo, h4]
      rw [if_neg (by omega), if_pos (by omega)]
      simp only [List.length_map, Nat.mul_one, if_true, allCell]
      rfl
    · rw [St.get_new, if_pos (by simp)]
      simp [uI]
    · rw [St.get_new, if_neg (by simp; omega), St.get_drop, if_neg (by omega)]
theorem lflat_len (L : List Lb) : (L.flatMap Lb.enc).length = L.length * 2 := by
  induction L with
  | nil => rfl
  | cons a l ih => rw [List.flatMap_cons, List.length_append, ih, List.length_cons]; simp [Lb.enc]; omega
theorem OutL.push {s : St} {N : Nat} {w : AV} {L : List Lb} (h : OutL s N w L) (hN : N ≤ s.next) (hl : L.length < 1000000) (x : Lb) :
    ∃ w' s', appendA 2 8 s w 1 [.int .u32 x.e, .int .u32 x.q] = some (w', s') ∧ OutL s' N w' (L ++ [x]) ∧ s'.next = s.next + 1 ∧ ∀ b, b < N → s'.get b = s.get b := by
  rcases h with ⟨rfl, rfl⟩ | ⟨p, rfl, h1, h2, h3, h4⟩
  · refine ⟨.slice s.next 0 1 1 true, s.new (.cells [.int .u32 x.e, .int .u32 x.q] true false 2), rfl, .inr ⟨s.next, rfl, by simp, hN, Nat.lt_succ_self _, ?_⟩, rfl, fun b hb => ?_⟩
    · rw [St.get_new, if_pos rfl]; rfl
    · rw [St.get_new, if_neg (by omega)]
  · have hf := lflat_len L
    refine ⟨.slice s.next 0 (L.length + 1) (L.length + 1) true, (s.drop p).new (.cells (L.flatMap Lb.enc ++ [.int .u32 x.e, .int .u32 x.q]) true false 2), ?_, .inr ⟨s.next, by simp, by simp, hN, Nat.lt_succ_self _, ?_⟩, rfl, fun b hb => ?_⟩
    · have hlo : loadA s p 0 (L.length * 2) = some (L.flatMap Lb.enc) := by
        unfold loadA
        rw [h4]
        simp only [hf, Nat.zero_add, Nat.le_refl, if_true, List.drop_zero]
        rw [List.take_of_length_le (by omega)]
      unfold appendA
      simp only [hlo, h4]
      rw [if_neg (by omega), if_pos (by omega)]
      simp only [hf, if_true, allCell]
      rfl
    · rw [St.get_new, if_pos (by simp)]
      simp [Lb.enc]
    · rw [St.get_new, if_neg (by simp; omega), St.get_drop, if_neg (by omega)]

theorem encF_mem : ∀ {b : List (Int × Lb)} {i : Nat} {e : AV × AV × Nat}, e ∈ encF i b → ∃ k, ∃ h : k < b.length, e = (.int .u32 b[k].1, .agg b[k].2.enc, i + k)
  | [], _, _, h => by cases h
  | x :: r, i, e, h => by
    rcases List.mem_cons.1 h with rfl | h
    · exact ⟨0, by simp, rfl⟩
    · obtain ⟨k, hk, he⟩ := encF_mem h
      exact ⟨k + 1, by simpa using hk, by rw [he]; simp; omega⟩
theorem encF_get : ∀ {b : List (Int × Lb)} {i k : Nat} (h : k < b.length), (AV.int .u32 b[k].1, AV.agg b[k].2.enc, i + k) ∈ encF i b
  | x :: r, i, 0, _ => List.mem_cons_self ..
  | x :: r, i, k + 1, h => by
    have := encF_get (b := r) (i := i + 1) (k := k) (by simpa using h)
    refine List.mem_cons_of_mem _ ?_
    rw [show i + (k + 1) = i + 1 + k by omega]
    exact this
theorem encF_find : ∀ {b : List (Int × Lb)} {i k : Nat} (h : k < b.length), (encF i b).find? (fun e => e.2.2 == i + k) = some (AV.int .u32 b[k].1, AV.agg b[k].2.enc, i + k)
  | x :: r, i, 0, _ => by rw [encF, List.find?_cons_of_pos (by simp)]; rfl
  | x :: r, i, k + 1, h => by
    have := encF_find (b := r) (i := i + 1) (k := k) (by simpa using h)
    rw [encF, List.find?_cons_of_neg (by simp)]
    rw [show i + (k + 1) = i + 1 + k by omega]
    exact this

/-- What a loop over a map has gathered. -/
def keyAt (b : List (Int × Lb)) (i : Nat) : Int := (b.getD i (0, ⟨0, 0⟩)).1
theorem all_seen {b : List (Int × Lb)} {seen : List Nat} (hn : seen.Nodup) (hlt : ∀ i ∈ seen, i < b.length) (hall : ∀ i, i < b.length → i ∈ seen) : (seen.map (keyAt b)).Perm (b.map (·.1)) := by
  have hp : seen.Perm (List.range b.length) := by
    rw [List.perm_ext_iff_of_nodup hn List.nodup_range]
    intro a
    rw [List.mem_range]
    exact ⟨hlt a, hall a⟩
  have := hp.map (keyAt b)
  refine this.trans ?_
  have e : (List.range b.length).map (keyAt b) = b.map (·.1) := by
    apply List.ext_getElem
    · simp
    · intro i h1 h2
      simp only [List.getElem_map, List.getElem_range, keyAt]
      simp at h1
      rw [List.getD_eq_getElem?_getD, List.getElem?_eq_getElem h1]; rfl
  rw [e]

theorem nodup_len' {α : Type} [DecidableEq α] : ∀ (a b : List α), a.Nodup → (∀ x ∈ a, x ∈ b) → a.length ≤ b.length
  | [], b, _, _ => by simp
  | x :: a, b, hn, hs => by
    have hx := hs x (List.mem_cons_self ..)
    rw [List.nodup_cons] at hn
    have := nodup_len' a (b.erase x) hn.2 fun y hy => (List.mem_erase_of_ne (fun e : y = x => hn.1 (by rw [← e]; exact hy))).2 (hs y (List.mem_cons_of_mem _ hy))
    rw [List.length_erase_of_mem hx] at this
    have hb : 0 < b.length := List.length_pos_of_mem hx
    simp
    omega

/-- The loop that goes through numbers from behind. -/
theorem Back_run (Y : List Int) (hY : Y.length ≤ 12) {v : AV} {r p : Nat} {s : St} (Inv : Nat → St → Prop)
    (hI : ∀ j s1, Inv j s1 → Lies s1 p [v] ∧ Rd s1 v 1 (Y.map fun x => [uI x]))
    (hrd : ∀ j (hj : j < Y.length) s1, s.next ≤ s1.next → Inv j s1 → Round mm r [.int .i64 ((Y.length - 1 - j : Nat) : Int), uI (Y[Y.length - 1 - j]'(by omega))] s1 fun b s2 => b = true ∧ s1.next ≤ s2.next ∧ Inv (j + 1) s2)
    (h0 : Inv 0 s) : Wf mm 34 [.yld r, .ptr p 0] s fun _ s' => s.next ≤ s'.next ∧ Inv Y.length s' := by
  refine Wf_enter ft34 (sm (by decide)) (by rfl) ?_
  obtain ⟨hp, hv⟩ := hI 0 s h0
  unfold Lies at hp
  have hl := hv.len
  simp only [List.length_map] at hl
  simp -implicitDefEqProofs only [go_sem, Wk_block, Wk_drawnC, reduceCtorEq, Nat.reduceEqDiff, Nat.reduceAdd, Nat.reduceLeDiff, Nat.reduceLT, Nat.reduceMul, Nat.reduceSub, ↓reduceIte, Int.reduceLT, Int.reduceLE, Int.reduceNeg, Int.reduceAdd, Int.reduceEq, Nat.reduceBneDiff, Nat.reduceBEq, Int.reduceToNat, Int.reduceMul, Int.reduceSub, Int.reduceBEq, Int.reduceBNe, Int.cast_ofNat_Int, Int.toNat_natCast_add_one, Nat.add_left_cancel_iff, Nat.left_eq_add, Nat.add_eq_left, Int.toNat_natCast, Nat.add_assoc, Int.ofNat_lt, Int.ofNat_le, Nat.lt_add_one_of_lt, Nat.lt_add_one, Nat.lt_add_right, Nat.lt_add_right_iff_pos, Nat.add_lt_add_iff_left, fd34, hp, hl]
  refine loop_ind (fun m ts s' => ∃ j : Nat, m = Y.length - j ∧ j ≤ Y.length ∧ ts.get 3 = some (.int .i64 ((Y.length : Int) - 1 - (j : Int))) ∧ ts.get 0 = some (.yld r) ∧ ts.get 1 = some (.ptr p 0) ∧ s.next ≤ s'.next ∧ Inv j s') ?_ (n := Y.length)
    ⟨0, rfl, by omega, by simp only [go_sem, Wk_block, Wk_drawnC, reduceCtorEq, Nat.reduceEqDiff, Nat.reduceAdd, Nat.reduceLeDiff, Nat.reduceLT, Nat.reduceMul, Nat.reduceSub, ↓reduceIte, Int.reduceLT, Int.reduceLE, Int.reduceNeg, Int.reduceAdd, Int.reduceEq, Nat.reduceBneDiff, Nat.reduceBEq, Int.reduceToNat, Int.reduceMul, Int.reduceSub, Int.reduceBEq, Int.reduceBNe, Int.cast_ofNat_Int, Int.toNat_natCast_add_one, Nat.add_left_cancel_iff, Nat.left_eq_add, Nat.add_eq_left, Int.toNat_natCast, Nat.add_assoc, Int.ofNat_lt, Int.ofNat_le]; rw [i64_in (by omega) (by omega)]; simp, by simp only [go_sem, Wk_block, Wk_drawnC, reduceCtorEq, Nat.reduceEqDiff, Nat.reduceAdd, Nat.reduceLeDiff, Nat.reduceLT, Nat.reduceMul, Nat.reduceSub, ↓reduceIte, Int.reduceLT, Int.reduceLE, Int.reduceNeg, Int.reduceAdd, Int.reduceEq, Nat.reduceBneDiff, Nat.reduceBEq, Int.reduceToNat, Int.reduceMul, Int.reduceSub, Int.reduceBEq, Int.reduceBNe, Int.cast_ofNat_Int, Int.toNat_natCast_add_one, Nat.add_left_cancel_iff, Nat.left_eq_add, Nat.add_eq_left, Int.toNat_natCast, Nat.add_assoc, Int.ofNat_lt, Int.ofNat_le], by simp only [go_sem, Wk_block, Wk_drawnC, reduceCtorEq, Nat.reduceEqDiff, Nat.reduceAdd, Nat.reduceLeDiff, Nat.reduceLT, Nat.reduceMul, Nat.reduceSub, ↓reduceIte, Int.reduceLT, Int.reduceLE, Int.reduceNeg, Int.reduceAdd, Int.reduceEq, Nat.reduceBneDiff, Nat.reduceBEq, Int.reduceToNat, Int.reduceMul, Int.reduceSub, Int.reduceBEq, Int.reduceBNe, Int.cast_ofNat_Int, Int.toNat_natCast_add_one, Nat.add_left_cancel_iff, Nat.left_eq_add, Nat.add_eq_left, Int.toNat_natCast, Nat.add_assoc, Int.ofNat_lt, Int.ofNat_le], Nat.le_refl _, h0⟩
  rintro m ts s1 ⟨j, rfl, hj, g3, g0, g1, hn, hi⟩ IH
  by_cases hlt : j < Y.length
  · obtain ⟨hp1, hv1⟩ := hI j s1 hi
    unfold Lies at hp1
    obtain ⟨i, hie⟩ : ∃ i : Nat, i = Y.length - 1 - j := ⟨_, rfl⟩
    have hic : ((Y.length : Int) - 1 - (j : Int)) = (i : Int) := by omega
    rw [hic] at g3
    have hil : i < (Y.map fun x => [uI x]).length := by rw [List.length_map]; omega
    obtain ⟨b, o, vs, lo2, ro, z, hidx, hg, hle, heq, hbl⟩ := hv1.at_ hil
    rw [List.getElem_map] at heq
    have hgi : vs[o + i * 1]? = some (uI (Y[i]'(by omega))) := by
      have := congrArg (fun l => l[0]?) heq
      simpa [List.getElem?_take, List.getElem?_drop] using this
    have hge : decide ((i : Int) ≥ 0) = true := decide_eq_true (by omega)
    have wi : IntKind.i64.wrap ((i : Int) - 1) = (i : Int) - 1 := i64_in (by omega) (by omega)
    have hr1 := hrd j hlt s1 hn hi
    simp -implicitDefEqProofs only [go_sem, Wk_block, Wk_drawnC, reduceCtorEq, Nat.reduceEqDiff, Nat.reduceAdd, Nat.reduceLeDiff, Nat.reduceLT, Nat.reduceMul, Nat.reduceSub, ↓reduceIte, Int.reduceLT, Int.reduceLE, Int.reduceNeg, Int.reduceAdd, Int.reduceEq, Nat.reduceBneDiff, Nat.reduceBEq, Int.reduceToNat, Int.reduceMul, Int.reduceSub, Int.reduceBEq, Int.reduceBNe, Int.cast_ofNat_Int, Int.toNat_natCast_add_one, Nat.add_left_cancel_iff, Nat.left_eq_add, Nat.add_eq_left, Int.toNat_natCast, Nat.add_assoc, Int.ofNat_lt, Int.ofNat_le, Nat.lt_add_one_of_lt, Nat.lt_add_one, Nat.lt_add_right, Nat.lt_add_right_iff_pos, Nat.add_lt_add_iff_left, g3, g0, g1, hp1, hge, hidx, hg, hgi]
    refine Wc_yld ?_
    have e1 : Y.length - 1 - j = i := hie.symm
    simp only [e1] at hr1
    refine hr1.mono ?_
    rintro bb s2 ⟨rfl, hn2, hi2⟩
    simp -implicitDefEqProofs only [go_sem, Wk_block, Wk_drawnC, reduceCtorEq, Nat.reduceEqDiff, Nat.reduceAdd, Nat.reduceLeDiff, Nat.reduceLT, Nat.reduceMul, Nat.reduceSub, ↓reduceIte, Int.reduceLT, Int.reduceLE, Int.reduceNeg, Int.reduceAdd, Int.reduceEq, Nat.reduceBneDiff, Nat.reduceBEq, Int.reduceToNat, Int.reduceMul, Int.reduceSub, Int.reduceBEq, Int.reduceBNe, Int.cast_ofNat_Int, Int.toNat_natCast_add_one, Nat.add_left_cancel_iff, Nat.left_eq_add, Nat.add_eq_left, Int.toNat_natCast, Nat.add_assoc, Int.ofNat_lt, Int.ofNat_le, Nat.lt_add_one_of_lt, Nat.lt_add_one, Nat.lt_add_right, Nat.lt_add_right_iff_pos, Nat.add_lt_add_iff_left, g3, wi]
    refine IH (Y.length - (j + 1)) _ _ (by omega) ⟨j + 1, rfl, by omega, ?_, ?_, ?_, by omega, hi2⟩
    · rw [show ((Y.length : Int) - 1 - ((j + 1 : Nat) : Int)) = (i : Int) - 1 by omega]
      simp only [go_sem, Wk_block, Wk_drawnC, reduceCtorEq, Nat.reduceEqDiff, Nat.reduceAdd, Nat.reduceLeDiff, Nat.reduceLT, Nat.reduceMul, Nat.reduceSub, ↓reduceIte, Int.reduceLT, Int.reduceLE, Int.reduceNeg, Int.reduceAdd, Int.reduceEq, Nat.reduceBneDiff, Nat.reduceBEq, Int.reduceToNat, Int.reduceMul, Int.reduceSub, Int.reduceBEq, Int.reduceBNe, Int.cast_ofNat_Int, Int.toNat_natCast_add_one, Nat.add_left_cancel_iff, Nat.left_eq_add, Nat.add_eq_left, Int.toNat_natCast, Nat.add_assoc, Int.ofNat_lt, Int.ofNat_le]
    · simp only [go_sem, Wk_block, Wk_drawnC, reduceCtorEq, Nat.reduceEqDiff, Nat.reduceAdd, Nat.reduceLeDiff, Nat.reduceLT, Nat.reduceMul, Nat.reduceSub, ↓reduceIte, Int.reduceLT, Int.reduceLE, Int.reduceNeg, Int.reduceAdd, Int.reduceEq, Nat.reduceBneDiff, Nat.reduceBEq, Int.reduceToNat, Int.reduceMul, Int.reduceSub, Int.reduceBEq, Int.reduceBNe, Int.cast_ofNat_Int, Int.toNat_natCast_add_one, Nat.add_left_cancel_iff, Nat.left_eq_add, Nat.add_eq_left, Int.toNat_natCast, Nat.add_assoc, Int.ofNat_lt, Int.ofNat_le, g0]
    · simp only [go_sem, Wk_block, Wk_drawnC, reduceCtorEq, Nat.reduceEqDiff, Nat.reduceAdd, Nat.reduceLeDiff, Nat.reduceLT, Nat.reduceMul, Nat.reduceSub, ↓reduceIte, Int.reduceLT, Int.reduceLE, Int.reduceNeg, Int.reduceAdd, Int.reduceEq, Nat.reduceBneDiff, Nat.reduceBEq, Int.reduceToNat, Int.reduceMul, Int.reduceSub, Int.reduceBEq, Int.reduceBNe, Int.cast_ofNat_Int, Int.toNat_natCast_add_one, Nat.add_left_cancel_iff, Nat.left_eq_add, Nat.add_eq_left, Int.toNat_natCast, Nat.add_assoc, Int.ofNat_lt, Int.ofNat_le, g1]
  · have : j = Y.length := by omega
    subst this
    have hge : decide ((Y.length : Int) - 1 - (Y.length : Int) ≥ 0) = false := decide_eq_false (by omega)
    simp -implicitDefEqProofs only [go_sem, Wk_block, Wk_drawnC, reduceCtorEq, Nat.reduceEqDiff, Nat.reduceAdd, Nat.reduceLeDiff, Nat.reduceLT, Nat.reduceMul, Nat.reduceSub, ↓reduceIte, Int.reduceLT, Int.reduceLE, Int.reduceNeg, Int.reduceAdd, Int.reduceEq, Nat.reduceBneDiff, Nat.reduceBEq, Int.reduceToNat, Int.reduceMul, Int.reduceSub, Int.reduceBEq, Int.reduceBNe, Int.cast_ofNat_Int, Int.toNat_natCast_add_one, Nat.add_left_cancel_iff, Nat.left_eq_add, Nat.add_eq_left, Int.toNat_natCast, Nat.add_assoc, Int.ofNat_lt, Int.ofNat_le, Nat.lt_add_one_of_lt, Nat.lt_add_one, Nat.lt_add_right, Nat.lt_add_right_iff_pos, Nat.add_lt_add_iff_left, g3, hge]
    exact ⟨hn, hi⟩

/-- The code behind the sort. -/
def restC : PC := (PC.region [⟨some 11, (.alloc [.nilSlice]), none⟩]).seq
  (((PC.region [⟨some 47, (.move (.t 9)), none⟩, ⟨some 48, (.call (.c (.fn (.func 26) [] [])) [(.t 47)]), none⟩]).seq
    (.block 4 (.rangeF (.t 48) [49, 50] (.region [⟨some 13, (.move (.t 50)), none⟩])
      (.block 5 (.region [⟨some 51, (.load1 (.t 11)), none⟩, ⟨some 52, (.load1 (.t 5)), none⟩, ⟨some 53, (.move (.t 13)), none⟩, ⟨some 54, (.lookup (.agg [(.int .u32 0), (.int .u32 0)]) (.t 52) (.t 53) false), none⟩,
        ⟨some 55, (.buildSlice [(.int .u32 0), (.int .u32 0)] 1 [(0, 2, (.t 54))] 2), none⟩, ⟨some 56, (.append 2 8 [(.int .u32 0), (.int .u32 0)] (.t 51) (.t 55)), none⟩, ⟨none, (.store 1 (.t 11) (.t 56)), none⟩]))))).seq
    ((PC.region [⟨some 57, (.load1 (.t 11)), none⟩, ⟨some 4, (.move (.t 57)), none⟩]).seq .ret))

theorem Wk_mono0 {M : Mach} {ro : Option Nat} {c : PC} {ts : Tr AV} {ds : List Nat} {s : St} {Q Q' : Post} (h : Wk M ro [] c ts ds s Q') (hq : ∀ x ts ds s, Q' x ts ds s → Q x ts ds s) : Wk M ro [] c ts ds s Q := by
  obtain ⟨x, t, d, s1, h1, h2⟩ := h
  rw [Wr_nil] at h2
  exact ⟨x, t, d, s1, h1, by rw [Wr_nil]; exact hq _ _ _ _ h2⟩
theorem Fin_mono {rs : List PRes} {P P' : AV → St → Prop} {x : AExit} {ts : Tr AV} {ds : List Nat} {s : St} (h : D.Fin rs P x ts ds s) (hp : ∀ v s, P v s → P' v s) : D.Fin rs P' x ts ds s := by
  obtain ⟨h1, s', h2, vs, h3, h4⟩ := h
  exact ⟨h1, s', h2, vs, h3, hp _ _ h4⟩
theorem rev_take (L : List Int) {j : Nat} (h : j < L.length) : (L.reverse).take (j + 1) = (L.reverse).take j ++ [L[L.length - 1 - j]'(by omega)] := by
  rw [List.take_succ_eq_append_getElem (by rw [List.length_reverse]; exact h), List.getElem_reverse]
theorem OutL.low {s : St} {N N' : Nat} {w : AV} {L : List Lb} (h : OutL s N w L) (hN : N' ≤ N) : OutL s N' w L := by
  rcases h with h | ⟨p, h1, h2, h3, h4, h5⟩
  · exact .inl h
  · exact .inr ⟨p, h1, h2, by omega, h4, h5⟩
theorem OutL.drop {s : St} {N : Nat} {w : AV} {L : List Lb} (h : OutL s N w L) {b : Nat} (hb : b < N) : OutL (s.drop b) N w L := by
  rcases h with h | ⟨p, h1, h2, h3, h4, h5⟩
  · exact .inl h
  · exact .inr ⟨p, h1, h2, h3, h4, by rw [St.get_drop, if_neg (by omega)]; exact h5⟩

theorem Backward_eq (v : AV) (s : St) (hc : v.cells = [v]) : mm.L.call 26 [v] s = some (.fn (.func 34) [] [.ptr s.next 0], s.new (.cells [v] false false 0)) := by
  refine of_Wf (Wf_enter ft26 (sm (by decide)) (by rfl) ?_)
  simp -implicitDefEqProofs only [go_sem, Wk_block, Wk_drawnC, reduceCtorEq, Nat.reduceEqDiff, Nat.reduceAdd, Nat.reduceLeDiff, Nat.reduceLT, Nat.reduceMul, Nat.reduceSub, ↓reduceIte, Int.reduceLT, Int.reduceLE, Int.reduceNeg, Int.reduceAdd, Int.reduceEq, Nat.reduceBneDiff, Nat.reduceBEq, Int.reduceToNat, Int.reduceMul, Int.reduceSub, Int.reduceBEq, Int.reduceBNe, Int.cast_ofNat_Int, Int.toNat_natCast_add_one, Nat.add_left_cancel_iff, Nat.left_eq_add, Nat.add_eq_left, Int.toNat_natCast, Nat.add_assoc, Int.ofNat_lt, Int.ofNat_le, Nat.lt_add_one_of_lt, Nat.lt_add_one, Nat.lt_add_right, Nat.lt_add_right_iff_pos, Nat.add_lt_add_iff_left, fd26, hc]

theorem rest_run (best : List (Int × Lb)) (h12 : (keysS best).length ≤ 12) {w2 : AV} {ts : Tr AV} {s4 : St} {c : Nat} (g9 : ts.get 9 = some w2) (g5 : ts.get 5 = some (.ptr (c + 1) 0)) (hc0 : s4.get c = some (.map (encF 0 best) best.length))
    (hc1 : s4.get (c + 1) = some (.cells [.map c] false false 0)) (hcl : c + 1 < s4.next) (hce : w2.cells = [w2]) (hRd : Rd s4 w2 1 ((keysS best).map fun x => [uI x])) :
    Wk mm none [] restC ts [] s4 fun x ts' ds' s' => s'.next ≤ s4.next + 30 ∧ D.Fin [PRes.tmp 4] (fun w s'' => OutL s'' s4.next w (List.map (gB best) (keysS best).reverse) ∧ Fr s4 s'' ∧ s''.next ≤ s4.next + 30) x ts' ds' s' := by
  unfold restC
  obtain ⟨a, ha⟩ : ∃ a, s4.next = a := ⟨_, rfl⟩
  simp -implicitDefEqProofs only [go_sem, Wk_block, Wk_drawnC, reduceCtorEq, Nat.reduceEqDiff, Nat.reduceAdd, Nat.reduceLeDiff, Nat.reduceLT, Nat.reduceMul, Nat.reduceSub, ↓reduceIte, Int.reduceLT, Int.reduceLE, Int.reduceNeg, Int.reduceAdd, Int.reduceEq, Nat.reduceBneDiff, Nat.reduceBEq, Int.reduceToNat, Int.reduceMul, Int.reduceSub, Int.reduceBEq, Int.reduceBNe, Int.cast_ofNat_Int, Int.toNat_natCast_add_one, Nat.add_left_cancel_iff, Nat.left_eq_add, Nat.add_eq_left, Int.toNat_natCast, Nat.add_assoc, Int.ofNat_lt, Int.ofNat_le, Nat.lt_add_one_of_lt, Nat.lt_add_one, Nat.lt_add_right, Nat.lt_add_right_iff_pos, Nat.add_lt_add_iff_left, g9, Wl_eq (Backward_eq w2 _ hce)]
  refine Wk_envs (fun ts => ts.get 11 = some (.ptr a 0) ∧ ts.get 5 = some (.ptr (c + 1) 0) ∧ ts.get 48 = some (.fn (.func 34) [] [.ptr (a + 1) 0])) ⟨by simp only [go_sem, Wk_block, Wk_drawnC, reduceCtorEq, Nat.reduceEqDiff, Nat.reduceAdd, Nat.reduceLeDiff, Nat.reduceLT, Nat.reduceMul, Nat.reduceSub, ↓reduceIte, Int.reduceLT, Int.reduceLE, Int.reduceNeg, Int.reduceAdd, Int.reduceEq, Nat.reduceBneDiff, Nat.reduceBEq, Int.reduceToNat, Int.reduceMul, Int.reduceSub, Int.reduceBEq, Int.reduceBNe, Int.cast_ofNat_Int, Int.toNat_natCast_add_one, Nat.add_left_cancel_iff, Nat.left_eq_add, Nat.add_eq_left, Int.toNat_natCast, Nat.add_assoc, Int.ofNat_lt, Int.ofNat_le, ha], by simp only [go_sem, Wk_block, Wk_drawnC, reduceCtorEq, Nat.reduceEqDiff, Nat.reduceAdd, Nat.reduceLeDiff, Nat.reduceLT, Nat.reduceMul, Nat.reduceSub, ↓reduceIte, Int.reduceLT, Int.reduceLE, Int.reduceNeg, Int.reduceAdd, Int.reduceEq, Nat.reduceBneDiff, Nat.reduceBEq, Int.reduceToNat, Int.reduceMul, Int.reduceSub, Int.reduceBEq, Int.reduceBNe, Int.cast_ofNat_Int, Int.toNat_natCast_add_one, Nat.add_left_cancel_iff, Nat.left_eq_add, Nat.add_eq_left, Int.toNat_natCast, Nat.add_assoc, Int.ofNat_lt, Int.ofNat_le, g5], by simp only [go_sem, Wk_block, Wk_drawnC, reduceCtorEq, Nat.reduceEqDiff, Nat.reduceAdd, Nat.reduceLeDiff, Nat.reduceLT, Nat.reduceMul, Nat.reduceSub, ↓reduceIte, Int.reduceLT, Int.reduceLE, Int.reduceNeg, Int.reduceAdd, Int.reduceEq, Nat.reduceBneDiff, Nat.reduceBEq, Int.reduceToNat, Int.reduceMul, Int.reduceSub, Int.reduceBEq, Int.reduceBNe, Int.cast_ofNat_Int, Int.toNat_natCast_add_one, Nat.add_left_cancel_iff, Nat.left_eq_add, Nat.add_eq_left, Int.toNat_natCast, Nat.add_assoc, Int.ofNat_lt, Int.ofNat_le, ha]⟩ ?_
  rintro ts0 ⟨g11, g5, g48⟩
  have f1 : Fr s4 ((s4.new (.cells [.nilSlice] false false 0)).new (.cells [w2] false false 0)) := ((Fr.refl s4).new _).new _
  have hn1 : ((s4.new (.cells [.nilSlice] false false 0)).new (.cells [w2] false false 0)).next = a + 2 := by simp only [St.next_new]; omega
  have ha1 : ((s4.new (.cells [.nilSlice] false false 0)).new (.cells [w2] false false 0)).get a = some (.cells [.nilSlice] false false 0) := by rw [St.get_new, if_neg (by simp only [St.next_new]; omega), St.get_new, if_pos ha.symm]
  have hb1 : ((s4.new (.cells [.nilSlice] false false 0)).new (.cells [w2] false false 0)).get (a + 1) = some (.cells [w2] false false 0) := by rw [St.get_new, if_pos (by simp only [St.next_new]; omega)]
  have hc01 := (f1.get c (by omega)).trans hc0
  have hc11 := (f1.get (c + 1) (by omega)).trans hc1
  have hRd1 := hRd.mono f1
  generalize (s4.new (.cells [.nilSlice] false false 0)).new (.cells [w2] false false 0) = s1 at f1 hn1 ha1 hb1 hc01 hc11 hRd1 ⊢
  refine Wk_range g48 ?_
  rw [hn1]
  generalize hasn : PC.region [⟨some 13, POp.move (X.t 50), none⟩] = asn
  generalize hbd : PC.block 5 _ = bd
  have f2 : Fr s4 ((s1.new .defd).new (.loop .ready .normal ts0 [49, 50] asn bd (a + 2))) := (f1.new _).new _
  have hg2 : ∀ b, b < a + 2 → ((s1.new .defd).new (.loop .ready .normal ts0 [49, 50] asn bd (a + 2))).get b = s1.get b := fun b hb => by
    rw [St.get_new, if_neg (by simp only [St.next_new]; omega), St.get_new, if_neg (by omega)]
  have hd2 : ((s1.new .defd).new (.loop .ready .normal ts0 [49, 50] asn bd (a + 2))).get (a + 2) = some .defd := by rw [St.get_new, if_neg (by simp only [St.next_new]; omega), St.get_new, if_pos hn1.symm]
  have hl2 : ((s1.new .defd).new (.loop .ready .normal ts0 [49, 50] asn bd (a + 2))).get (a + 3) = some (.loop .ready .normal ts0 [49, 50] asn bd (a + 2)) := by rw [St.get_new, if_pos (by simp only [St.next_new]; omega)]
  have hn2 : ((s1.new .defd).new (.loop .ready .normal ts0 [49, 50] asn bd (a + 2))).next = a + 4 := by simp only [St.next_new]; omega
  have hr2 := hRd1.mono (((Fr.refl s1).new .defd).new (.loop .ready .normal ts0 [49, 50] asn bd (a + 2)))
  generalize ((s1.new .defd).new (.loop .ready .normal ts0 [49, 50] asn bd (a + 2))) = s2 at f2 hg2 hd2 hl2 hn2 hr2 ⊢
  refine (Back_run (keysS best) h12 (v := w2) (r := a + 3) (p := a + 1) (s := s2)
    (fun j s' => s'.get (a + 3) = some (.loop .ready .normal ts0 [49, 50] asn bd (a + 2)) ∧ s'.get (a + 2) = some .defd ∧ Lies s' (a + 1) [w2] ∧ s'.get c = some (.map (encF 0 best) best.length) ∧ s'.get (c + 1) = some (.cells [.map c] false false 0) ∧ Rd s' w2 1 ((keysS best).map fun x => [uI x]) ∧ Fr s4 s' ∧
      s'.next ≤ a + 4 + 2 * j ∧ a + 4 ≤ s'.next ∧ ∃ w, Lies s' a [w] ∧ OutL s' (a + 4) w ((((keysS best).reverse).take j).map (gB best))) (fun j s' h => ⟨h.2.2.1, h.2.2.2.2.2.1⟩) ?_ ?_).mono ?_
  · rintro j hj s3 hn3 ⟨h1, h2, h3, h4, h5, h6, h7, h8, h9, w, h10, h11⟩
    refine Round_of h1 rfl ?_
    rw [← hasn]
    have hrt := rev_take (keysS best) hj
    generalize hkey : (keysS best)[(keysS best).length - 1 - j]'(by omega) = key at hrt ⊢
    unfold uI
    simp -implicitDefEqProofs only [go_sem, Wk_block, Wk_drawnC, reduceCtorEq, Nat.reduceEqDiff, Nat.reduceAdd, Nat.reduceLeDiff, Nat.reduceLT, Nat.reduceMul, Nat.reduceSub, ↓reduceIte, Int.reduceLT, Int.reduceLE, Int.reduceNeg, Int.reduceAdd, Int.reduceEq, Nat.reduceBneDiff, Nat.reduceBEq, Int.reduceToNat, Int.reduceMul, Int.reduceSub, Int.reduceBEq, Int.reduceBNe, Int.cast_ofNat_Int, Int.toNat_natCast_add_one, Nat.add_left_cancel_iff, Nat.left_eq_add, Nat.add_eq_left, Int.toNat_natCast, Nat.add_assoc, Int.ofNat_lt, Int.ofNat_le, Nat.lt_add_one_of_lt, Nat.lt_add_one, Nat.lt_add_right, Nat.lt_add_right_iff_pos, Nat.add_lt_add_iff_left, Wr_nil, h1, setTs]
    refine ⟨_, _, _, _, _, _, rfl, ?_⟩
    unfold Lies at h10
    have k1 : a + 3 ≠ a := by omega
    have g10 : ∀ o, (s3.put (a + 3) o).get a = some (.cells [w] false false 0) := fun o => by rw [St.get_put, if_neg (by omega)]; exact h10
    have gc1 : ∀ o, (s3.put (a + 3) o).get (c + 1) = some (.cells [.map c] false false 0) := fun o => by rw [St.get_put, if_neg (by omega)]; exact h5
    have gc0 : ∀ o, (s3.put (a + 3) o).get c = some (.map (encF 0 best) best.length) := fun o => by rw [St.get_put, if_neg (by omega)]; exact h4
    have gl : ∀ o, (s3.put (a + 3) o).get (a + 3) = some o := fun o => by rw [St.get_put, if_pos rfl]
    have gd : ∀ o, (s3.put (a + 3) o).get (a + 2) = some .defd := fun o => by rw [St.get_put, if_neg (by omega)]; exact h2
    have gb : ∀ o, (s3.put (a + 3) o).get (a + 1) = some (.cells [w2] false false 0) := fun o => by rw [St.get_put, if_neg (by omega)]; exact h3
    have fr : ∀ o, Fr s4 (s3.put (a + 3) o) := fun o => h7.put (by omega) o
    have ho := fun o => h11.put (show a + 3 < a + 4 by omega) o
    have hnx : ∀ o, (s3.put (a + 3) o).next = s3.next := fun o => rfl
    generalize hO : AObj.loop LoopState.busy _ _ _ _ _ _ = O
    have hOO : (s3.put (a + 3) O).get (a + 3) = some (AObj.loop LoopState.busy .normal ts0 [49, 50] asn bd (a + 2)) := by rw [gl, ← hO]
    have g10 := g10 O
    have gc1 := gc1 O
    have gc0 := gc0 O
    have gd := gd O
    have gb := gb O
    have fr := fr O
    have ho := ho O
    have hnx := hnx O
    generalize s3.put (a + 3) O = s5 at *
    rw [← hbd]
    have hfa := findA_enc best 0 0 key
    have hce2 := ho.cell
    have hgk : ∃ g : Lb, gB best key = g ∧ ((findA .u32 key (encF 0 best) 0 = some none ∧ g = ⟨0, 0⟩) ∨ ∃ i, findA .u32 key (encF 0 best) 0 = some (some (i, .agg g.enc))) := by
      cases hfb : findB best key 0 with
      | none => exact ⟨⟨0, 0⟩, by unfold gB; rw [hfb], .inl ⟨by rw [hfa, hfb]; rfl, rfl⟩⟩
      | some jv => exact ⟨jv.2, by unfold gB; rw [hfb], .inr ⟨jv.1, by rw [hfa, hfb]; rfl⟩⟩
    obtain ⟨g, hg, hgc⟩ := hgk
    obtain ⟨w', s6, happ, ho6, hn6, hfr6⟩ := (ho.new (.cells [.int .u32 g.e, .int .u32 g.q] false false 0)).push (by simp only [St.next_new]; omega) (by simp; omega) g
    simp only [St.next_new] at hn6
    have hca : ¬ c + 1 = s5.next := by omega
    have hcc : ¬ c = s5.next := by omega
    have haa : ¬ a = s5.next := by omega
    have g6 : ∀ b, b < a + 4 → s6.get b = s5.get b := fun b hb => by rw [hfr6 b hb, St.get_new, if_neg (by omega)]
    have g6a := (g6 a (by omega)).trans g10
    have hce6 := ho6.cell
    have hcells : ∀ x : AV, x.cell = true → x.cells = [x] → True := fun _ _ _ => trivial
    have hend : (s6.put a (.cells [w'] false false 0)).get (a + 3) = some (AObj.loop LoopState.busy .normal ts0 [49, 50] asn bd (a + 2)) := by rw [St.get_put, if_neg (by omega), g6 _ (by omega)]; exact hOO
    rcases hgc with ⟨hf, rfl⟩ | ⟨i, hf⟩
    · simp -implicitDefEqProofs only [go_sem, Wk_block, Wk_drawnC, reduceCtorEq, Nat.reduceEqDiff, Nat.reduceAdd, Nat.reduceLeDiff, Nat.reduceLT, Nat.reduceMul, Nat.reduceSub, ↓reduceIte, Int.reduceLT, Int.reduceLE, Int.reduceNeg, Int.reduceAdd, Int.reduceEq, Nat.reduceBneDiff, Nat.reduceBEq, Int.reduceToNat, Int.reduceMul, Int.reduceSub, Int.reduceBEq, Int.reduceBNe, Int.cast_ofNat_Int, Int.toNat_natCast_add_one, Nat.add_left_cancel_iff, Nat.left_eq_add, Nat.add_eq_left, Int.toNat_natCast, Nat.add_assoc, Int.ofNat_lt, Int.ofNat_le, Nat.lt_add_one_of_lt, Nat.lt_add_one, Nat.lt_add_right, Nat.lt_add_right_iff_pos, Nat.add_lt_add_iff_left, g11, g5, g10, gc1, gc0, hf, srcA, happ, hce6, g6a, Wr_nil, Lb.enc]
      refine ⟨_, _, _, _, _, _, _, hend, ?_⟩
      have hf7 : Fr s4 ((s6.put a (.cells [w'] false false 0)).put (a + 3) (.loop .ready .normal ts0 [49, 50] asn bd (a + 2))) := by
        refine ⟨by simp only [St.next_put]; omega, fun b hb => ?_⟩
        rw [St.get_put, if_neg (by omega), St.get_put, if_neg (by omega), g6 b (by omega)]
        exact fr.get b hb
      refine ⟨rfl, by simp only [St.next_put]; omega, by rw [St.get_put, if_pos rfl, hasn, hbd], ?_, ?_, ?_, ?_, hRd.mono hf7, hf7, by simp only [St.next_put]; omega, by simp only [St.next_put]; omega, w', ?_, ?_⟩
      · rw [St.get_put, if_neg (by omega), St.get_put, if_neg (by omega), g6 _ (by omega)]; exact gd
      · rw [Lies, St.get_put, if_neg (by omega), St.get_put, if_neg (by omega), g6 _ (by omega)]; exact gb
      · rw [St.get_put, if_neg (by omega), St.get_put, if_neg (by omega), g6 _ (by omega)]; exact gc0
      · rw [St.get_put, if_neg (by omega), St.get_put, if_neg (by omega), g6 _ (by omega)]; exact gc1
      · rw [Lies, St.get_put, if_neg (by omega), St.get_put, if_pos rfl]
      · rw [hrt, List.map_append, List.map_singleton, hg]
        exact (ho6.put (by omega) _).put (by omega) _
    · simp -implicitDefEqProofs only [go_sem, Wk_block, Wk_drawnC, reduceCtorEq, Nat.reduceEqDiff, Nat.reduceAdd, Nat.reduceLeDiff, Nat.reduceLT, Nat.reduceMul, Nat.reduceSub, ↓reduceIte, Int.reduceLT, Int.reduceLE, Int.reduceNeg, Int.reduceAdd, Int.reduceEq, Nat.reduceBneDiff, Nat.reduceBEq, Int.reduceToNat, Int.reduceMul, Int.reduceSub, Int.reduceBEq, Int.reduceBNe, Int.cast_ofNat_Int, Int.toNat_natCast_add_one, Nat.add_left_cancel_iff, Nat.left_eq_add, Nat.add_eq_left, Int.toNat_natCast, Nat.add_assoc, Int.ofNat_lt, Int.ofNat_le, Nat.lt_add_one_of_lt, Nat.lt_add_one, Nat.lt_add_right, Nat.lt_add_right_iff_pos, Nat.add_lt_add_iff_left, g11, g5, g10, gc1, gc0, hf, srcA, happ, hce6, g6a, Wr_nil, Lb.enc]
      refine ⟨_, _, _, _, _, _, _, hend, ?_⟩
      have hf7 : Fr s4 ((s6.put a (.cells [w'] false false 0)).put (a + 3) (.loop .ready .normal ts0 [49, 50] asn bd (a + 2))) := by
        refine ⟨by simp only [St.next_put]; omega, fun b hb => ?_⟩
        rw [St.get_put, if_neg (by omega), St.get_put, if_neg (by omega), g6 b (by omega)]
        exact fr.get b hb
      refine ⟨rfl, by simp only [St.next_put]; omega, by rw [St.get_put, if_pos rfl, hasn, hbd], ?_, ?_, ?_, ?_, hRd.mono hf7, hf7, by simp only [St.next_put]; omega, by simp only [St.next_put]; omega, w', ?_, ?_⟩
      · rw [St.get_put, if_neg (by omega), St.get_put, if_neg (by omega), g6 _ (by omega)]; exact gd
      · rw [Lies, St.get_put, if_neg (by omega), St.get_put, if_neg (by omega), g6 _ (by omega)]; exact gb
      · rw [St.get_put, if_neg (by omega), St.get_put, if_neg (by omega), g6 _ (by omega)]; exact gc0
      · rw [St.get_put, if_neg (by omega), St.get_put, if_neg (by omega), g6 _ (by omega)]; exact gc1
      · rw [Lies, St.get_put, if_neg (by omega), St.get_put, if_pos rfl]
      · rw [hrt, List.map_append, List.map_singleton, hg]
        exact (ho6.put (by omega) _).put (by omega) _
  · exact ⟨hl2, hd2, (hg2 _ (by omega)).trans hb1, (hg2 _ (by omega)).trans hc01, (hg2 _ (by omega)).trans hc11, hr2, f2, by omega, by omega, .nilSlice, (hg2 _ (by omega)).trans ha1, .inl ⟨rfl, rfl⟩⟩
  · rintro w s3 ⟨hle, h1, h2, h3, h4, h5, h6, h7, h8, h9, w, h10, h11⟩
    refine ⟨_, _, _, _, _, _, _, h1, (by intro h; cases h), ?_⟩
    unfold Lies at h10
    have g10 : (s3.put (a + 2 + 1) (AObj.loop LoopState.exhausted AExit.normal ts0 [49, 50] asn bd (a + 2))).get a = some (.cells [w] false false 0) := by rw [St.get_put, if_neg (by omega)]; exact h10
    have gd : (s3.put (a + 2 + 1) (AObj.loop LoopState.exhausted AExit.normal ts0 [49, 50] asn bd (a + 2))).get (a + 2) = some .defd := by rw [St.get_put, if_neg (by omega)]; exact h2
    have ho := h11.put (show a + 2 + 1 < a + 4 by omega) (AObj.loop LoopState.exhausted AExit.normal ts0 [49, 50] asn bd (a + 2))
    have fr : Fr s4 (s3.put (a + 2 + 1) (AObj.loop LoopState.exhausted AExit.normal ts0 [49, 50] asn bd (a + 2))) := h7.put (by omega) _
    have hnx : (s3.put (a + 2 + 1) (AObj.loop LoopState.exhausted AExit.normal ts0 [49, 50] asn bd (a + 2))).next = s3.next := rfl
    generalize s3.put (a + 2 + 1) (AObj.loop LoopState.exhausted AExit.normal ts0 [49, 50] asn bd (a + 2)) = s5 at g10 gd ho fr hnx ⊢
    simp -implicitDefEqProofs only [go_sem, Wk_block, Wk_drawnC, reduceCtorEq, Nat.reduceEqDiff, Nat.reduceAdd, Nat.reduceLeDiff, Nat.reduceLT, Nat.reduceMul, Nat.reduceSub, ↓reduceIte, Int.reduceLT, Int.reduceLE, Int.reduceNeg, Int.reduceAdd, Int.reduceEq, Nat.reduceBneDiff, Nat.reduceBEq, Int.reduceToNat, Int.reduceMul, Int.reduceSub, Int.reduceBEq, Int.reduceBNe, Int.cast_ofNat_Int, Int.toNat_natCast_add_one, Nat.add_left_cancel_iff, Nat.left_eq_add, Nat.add_eq_left, Int.toNat_natCast, Nat.add_assoc, Int.ofNat_lt, Int.ofNat_le, Nat.lt_add_one_of_lt, Nat.lt_add_one, Nat.lt_add_right, Nat.lt_add_right_iff_pos, Nat.add_lt_add_iff_left, g11, g10, Wr_nil]
    refine ⟨by omega, fun _ h => (by cases h), s5.drop (a + 2), by unfold takeAll; rw [gd]; rfl, ?_⟩
    simp only [go_sem, Wk_block, Wk_drawnC, reduceCtorEq, Nat.reduceEqDiff, Nat.reduceAdd, Nat.reduceLeDiff, Nat.reduceLT, Nat.reduceMul, Nat.reduceSub, ↓reduceIte, Int.reduceLT, Int.reduceLE, Int.reduceNeg, Int.reduceAdd, Int.reduceEq, Nat.reduceBneDiff, Nat.reduceBEq, Int.reduceToNat, Int.reduceMul, Int.reduceSub, Int.reduceBEq, Int.reduceBNe, Int.cast_ofNat_Int, Int.toNat_natCast_add_one, Nat.add_left_cancel_iff, Nat.left_eq_add, Nat.add_eq_left, Int.toNat_natCast, Nat.add_assoc, Int.ofNat_lt, Int.ofNat_le]
    rw [List.take_of_length_le (by rw [List.length_reverse]; omega)] at ho
    exact ⟨(ho.drop (by omega)).low (by omega), fr.drop (by omega), by show s5.next ≤ _; omega⟩

theorem spans_run {span : Int} (hs : 0 < span) (l : List Sn) (ht : ∀ x ∈ l, 0 ≤ x.t ∧ x.t ≤ 4294967295) (hl : l.length ≤ 1000000) (hb : (bestOf span l).length ≤ 12) {s : St} {v : AV} (hR : Rd s v 4 (l.map Sn.enc)) {R : Nat} (hN : s.next + 8 * l.length + 100 ≤ R) :
    Nf Try.prog R 17 [.int .u32 span, v] s fun w s' => OutL s' s.next w (spansV span l) ∧ Fr s s' ∧ s'.next ≤ s.next + 8 * l.length + 100 := by
  refine Nf.enter mm_ft ft17 (by rfl) ?_
  simp only [fd17]
  obtain ⟨c, hc⟩ : ∃ c, s.next = c := ⟨_, rfl⟩
  refine Nk.seq (Nk.of_Wk mm_mixed mm_ft mm_sm mm_sn ?_)
  simp -implicitDefEqProofs only [go_sem, Wk_block, Wk_drawnC, reduceCtorEq, Nat.reduceEqDiff, Nat.reduceAdd, Nat.reduceLeDiff, Nat.reduceLT, Nat.reduceMul, Nat.reduceSub, ↓reduceIte, Int.reduceLT, Int.reduceLE, Int.reduceNeg, Int.reduceAdd, Int.reduceEq, Nat.reduceBneDiff, Nat.reduceBEq, Int.reduceToNat, Int.reduceMul, Int.reduceSub, Int.reduceBEq, Int.reduceBNe, Int.cast_ofNat_Int, Int.toNat_natCast_add_one, Nat.add_left_cancel_iff, Nat.left_eq_add, Nat.add_eq_left, Int.toNat_natCast, Nat.add_assoc, Int.ofNat_lt, Int.ofNat_le, Nat.lt_add_one_of_lt, Nat.lt_add_one, Nat.lt_add_right, Nat.lt_add_right_iff_pos, Nat.add_lt_add_iff_left, Wr_nil]
  refine ⟨by omega, Nk.seq (Nk.of_Wk mm_mixed mm_ft mm_sm mm_sn ?_)⟩
  simp -implicitDefEqProofs only [go_sem, Wk_block, Wk_drawnC, reduceCtorEq, Nat.reduceEqDiff, Nat.reduceAdd, Nat.reduceLeDiff, Nat.reduceLT, Nat.reduceMul, Nat.reduceSub, ↓reduceIte, Int.reduceLT, Int.reduceLE, Int.reduceNeg, Int.reduceAdd, Int.reduceEq, Nat.reduceBneDiff, Nat.reduceBEq, Int.reduceToNat, Int.reduceMul, Int.reduceSub, Int.reduceBEq, Int.reduceBNe, Int.cast_ofNat_Int, Int.toNat_natCast_add_one, Nat.add_left_cancel_iff, Nat.left_eq_add, Nat.add_eq_left, Int.toNat_natCast, Nat.add_assoc, Int.ofNat_lt, Int.ofNat_le, Nat.lt_add_one_of_lt, Nat.lt_add_one, Nat.lt_add_right, Nat.lt_add_right_iff_pos, Nat.add_lt_add_iff_left, Wr_nil]
  refine ⟨by omega, Nk.seq (Nk.of_Wk mm_mixed mm_ft mm_sm mm_sn ?_)⟩
  have f0 : Fr s ((s.new (.map [] 0)).new (.cells [.map s.next] false false 0)) := ((Fr.refl s).new _).new _
  have hn0 : ((s.new (.map [] 0)).new (.cells [.map s.next] false false 0)).next = c + 2 := by simp only [St.next_new]; omega
  have hm0 : ((s.new (.map [] 0)).new (.cells [.map s.next] false false 0)).get c = some (.map [] 0) := by rw [St.get_new, if_neg (by simp only [St.next_new]; omega), St.get_new, if_pos hc.symm]
  have hc0 : Lies ((s.new (.map [] 0)).new (.cells [.map s.next] false false 0)) (c + 1) [.map c] := by rw [Lies, St.get_new, if_pos (by simp only [St.next_new]; omega), hc]
  rw [hc] at f0 hn0 hm0 hc0 ⊢
  generalize (s.new (.map [] 0)).new (.cells [.map c] false false 0) = s0 at f0 hn0 hm0 hc0 ⊢
  refine Wk_cut (fun ts1 s1 => ts1.get 0 = some (.int .u32 span) ∧ ts1.get 5 = some (.ptr (c + 1) 0) ∧ Fr s s1 ∧ s1.next ≤ c + 2 + 8 * l.length ∧ c + 2 ≤ s1.next ∧ s1.get c = some (.map (encF 0 (bestOf span l)) (bestOf span l).length) ∧ Lies s1 (c + 1) [.map c]) ?_ ?_
  · simp -implicitDefEqProofs only [go_sem, Wk_block, Wk_drawnC, reduceCtorEq, Nat.reduceEqDiff, Nat.reduceAdd, Nat.reduceLeDiff, Nat.reduceLT, Nat.reduceMul, Nat.reduceSub, ↓reduceIte, Int.reduceLT, Int.reduceLE, Int.reduceNeg, Int.reduceAdd, Int.reduceEq, Nat.reduceBneDiff, Nat.reduceBEq, Int.reduceToNat, Int.reduceMul, Int.reduceSub, Int.reduceBEq, Int.reduceBNe, Int.cast_ofNat_Int, Int.toNat_natCast_add_one, Nat.add_left_cancel_iff, Nat.left_eq_add, Nat.add_eq_left, Int.toNat_natCast, Nat.add_assoc, Int.ofNat_lt, Int.ofNat_le, Nat.lt_add_one_of_lt, Nat.lt_add_one, Nat.lt_add_right, Nat.lt_add_right_iff_pos, Nat.add_lt_add_iff_left, hR.len, List.length_map]
    refine loop_ind (fun m ts s' => ∃ j : Nat, m = l.length - j ∧ j ≤ l.length ∧ ts.get 17 = some (.int .i64 (j : Int)) ∧ ts.get 16 = some (.int .i64 (l.length : Int)) ∧ ts.get 15 = some v ∧ ts.get 0 = some (.int .u32 span) ∧ ts.get 5 = some (.ptr (c + 1) 0) ∧ Fr s s' ∧
      s'.next ≤ c + 2 + 8 * j ∧ c + 2 ≤ s'.next ∧ s'.get c = some (.map (encF 0 (bestOf span (l.take j))) (bestOf span (l.take j)).length) ∧ Lies s' (c + 1) [.map c]) ?_ (n := l.length)
      ⟨0, rfl, by omega, by simp only [go_sem, Wk_block, Wk_drawnC, reduceCtorEq, Nat.reduceEqDiff, Nat.reduceAdd, Nat.reduceLeDiff, Nat.reduceLT, Nat.reduceMul, Nat.reduceSub, ↓reduceIte, Int.reduceLT, Int.reduceLE, Int.reduceNeg, Int.reduceAdd, Int.reduceEq, Nat.reduceBneDiff, Nat.reduceBEq, Int.reduceToNat, Int.reduceMul, Int.reduceSub, Int.reduceBEq, Int.reduceBNe, Int.cast_ofNat_Int, Int.toNat_natCast_add_one, Nat.add_left_cancel_iff, Nat.left_eq_add, Nat.add_eq_left, Int.toNat_natCast, Nat.add_assoc, Int.ofNat_lt, Int.ofNat_le], by simp only [go_sem, Wk_block, Wk_drawnC, reduceCtorEq, Nat.reduceEqDiff, Nat.reduceAdd, Nat.reduceLeDiff, Nat.reduceLT, Nat.reduceMul, Nat.reduceSub, ↓reduceIte, Int.reduceLT, Int.reduceLE, Int.reduceNeg, Int.reduceAdd, Int.reduceEq, Nat.reduceBneDiff, Nat.reduceBEq, Int.reduceToNat, Int.reduceMul, Int.reduceSub, Int.reduceBEq, Int.reduceBNe, Int.cast_ofNat_Int, Int.toNat_natCast_add_one, Nat.add_left_cancel_iff, Nat.left_eq_add, Nat.add_eq_left, Int.toNat_natCast, Nat.add_assoc, Int.ofNat_lt, Int.ofNat_le], by simp only [go_sem, Wk_block, Wk_drawnC, reduceCtorEq, Nat.reduceEqDiff, Nat.reduceAdd, Nat.reduceLeDiff, Nat.reduceLT, Nat.reduceMul, Nat.reduceSub, ↓reduceIte, Int.reduceLT, Int.reduceLE, Int.reduceNeg, Int.reduceAdd, Int.reduceEq, Nat.reduceBneDiff, Nat.reduceBEq, Int.reduceToNat, Int.reduceMul, Int.reduceSub, Int.reduceBEq, Int.reduceBNe, Int.cast_ofNat_Int, Int.toNat_natCast_add_one, Nat.add_left_cancel_iff, Nat.left_eq_add, Nat.add_eq_left, Int.toNat_natCast, Nat.add_assoc, Int.ofNat_lt, Int.ofNat_le], by simp only [go_sem, Wk_block, Wk_drawnC, reduceCtorEq, Nat.reduceEqDiff, Nat.reduceAdd, Nat.reduceLeDiff, Nat.reduceLT, Nat.reduceMul, Nat.reduceSub, ↓reduceIte, Int.reduceLT, Int.reduceLE, Int.reduceNeg, Int.reduceAdd, Int.reduceEq, Nat.reduceBneDiff, Nat.reduceBEq, Int.reduceToNat, Int.reduceMul, Int.reduceSub, Int.reduceBEq, Int.reduceBNe, Int.cast_ofNat_Int, Int.toNat_natCast_add_one, Nat.add_left_cancel_iff, Nat.left_eq_add, Nat.add_eq_left, Int.toNat_natCast, Nat.add_assoc, Int.ofNat_lt, Int.ofNat_le], by simp only [go_sem, Wk_block, Wk_drawnC, reduceCtorEq, Nat.reduceEqDiff, Nat.reduceAdd, Nat.reduceLeDiff, Nat.reduceLT, Nat.reduceMul, Nat.reduceSub, ↓reduceIte, Int.reduceLT, Int.reduceLE, Int.reduceNeg, Int.reduceAdd, Int.reduceEq, Nat.reduceBneDiff, Nat.reduceBEq, Int.reduceToNat, Int.reduceMul, Int.reduceSub, Int.reduceBEq, Int.reduceBNe, Int.cast_ofNat_Int, Int.toNat_natCast_add_one, Nat.add_left_cancel_iff, Nat.left_eq_add, Nat.add_eq_left, Int.toNat_natCast, Nat.add_assoc, Int.ofNat_lt, Int.ofNat_le], f0, by omega, by omega, hm0, hc0⟩
    rintro m ts s1 ⟨j, rfl, hj, g17, g16, g15, g0, g5, f1, hn1, hn2, hm1, hc1⟩ IH
    by_cases hlt : j < l.length
    · have hjl : j < (l.map Sn.enc).length := by rw [List.length_map]; exact hlt
      obtain ⟨b, o, vs, lo2, ro, z, hidx, hg, hle, heq, hbl⟩ := (hR.mono f1).at_ hjl
      rw [List.getElem_map] at heq
      have htx := ht l[j] (List.getElem_mem hlt)
      have hbt := bestOf_take (span := span) hlt
      generalize l[j] = x at heq htx hbt
      unfold Sn.enc at heq
      rw [Nat.add_assoc] at hle
      generalize bestOf span (l.take j) = best at hm1 hbt
      have hs0 : ¬ span = 0 := by omega
      have hq0 : 0 ≤ x.t.tdiv span := Int.tdiv_nonneg htx.1 (by omega)
      have hq1 : x.t.tdiv span ≤ x.t := by
        rw [Int.tdiv_eq_ediv_of_nonneg htx.1]
        exact Int.ediv_le_self _ htx.1
      have wq : IntKind.u32.wrap (x.t.tdiv span) = x.t.tdiv span := u32_in hq0 (by omega)
      unfold stepB at hbt
      obtain ⟨n, hnn⟩ : ∃ n, x.t.tdiv span = n := ⟨_, rfl⟩
      rw [hnn] at wq hbt
      obtain ⟨q, hq⟩ : ∃ q, s1.next = q := ⟨_, rfl⟩
      have hcq : c + 1 < s1.next := by omega
      have hcq0 : c < s1.next := by omega
      have hfa := findA_enc best 0 0 n
      unfold Lies at hc1
      have wj := succ_in (j := j) (by omega)
      have fin : ∀ (g : Lb), gB best n = g → ∀ s2, (Fr ((s1.new (.cells [.int .u32 x.l.e, .int .u32 x.l.q, .int .i64 x.r, .int .u32 x.t] false false 0)).new (.cells [.int .u32 g.e, .int .u32 g.q, .int .u32 x.l.e, .int .u32 x.l.q] false false 0)) s2) →
          s2.get (c + 1) = some (.cells [.map c] false false 0) ∧ s2.get c = some (.map (encF 0 best) best.length) := fun g _ s2 f => by
        refine ⟨(f.get _ (by simp only [St.next_new]; omega)).trans ?_, (f.get _ (by simp only [St.next_new]; omega)).trans ?_⟩
        · rw [St.get_new, if_neg (by simp only [St.next_new]; omega), St.get_new, if_neg (by omega)]; exact hc1
        · rw [St.get_new, if_neg (by simp only [St.next_new]; omega), St.get_new, if_neg (by omega)]; exact hm1
      cases hfb : findB best n 0 with
      | none =>
        rw [hfb] at hfa
        simp only [Option.map_none] at hfa
        have hgb : gB best n = ⟨0, 0⟩ := by unfold gB; rw [hfb]
        have hpb : ∀ v, pB best n v = best ++ [(n, v)] := fun v => by unfold pB; rw [hfb]
        rw [hgb, hpb] at hbt
        simp -implicitDefEqProofs only [go_sem, Wk_block, Wk_drawnC, reduceCtorEq, Nat.reduceEqDiff, Nat.reduceAdd, Nat.reduceLeDiff, Nat.reduceLT, Nat.reduceMul, Nat.reduceSub, ↓reduceIte, Int.reduceLT, Int.reduceLE, Int.reduceNeg, Int.reduceAdd, Int.reduceEq, Nat.reduceBneDiff, Nat.reduceBEq, Int.reduceToNat, Int.reduceMul, Int.reduceSub, Int.reduceBEq, Int.reduceBNe, Int.cast_ofNat_Int, Int.toNat_natCast_add_one, Nat.add_left_cancel_iff, Nat.left_eq_add, Nat.add_eq_left, Int.toNat_natCast, Nat.add_assoc, Int.ofNat_lt, Int.ofNat_le, Nat.lt_add_one_of_lt, Nat.lt_add_one, Nat.lt_add_right, Nat.lt_add_right_iff_pos, Nat.add_lt_add_iff_left, g17, g16, g15, g0, g5, hlt, hidx, hg, hle, heq, hs0, hnn, wq, hc1, hm1, hfa, hcq, hcq0, eq_next_f hcq, eq_next_f' hcq, eq_next_f hcq0, eq_next_f' hcq0, eq_next_k hcq, eq_next_k' hcq, eq_next_k hcq0, eq_next_k' hcq0, hbl, eq_next_f hbl]
        have hpp : Lies ((s1.new (.cells [.int .u32 x.l.e, .int .u32 x.l.q, .int .i64 x.r, .int .u32 x.t] false false 0)).new (.cells [.int .u32 0, .int .u32 0, .int .u32 x.l.e, .int .u32 x.l.q] false false 0)) (s1.next + 1) [.int .u32 (⟨0, 0⟩ : Lb).e, .int .u32 (⟨0, 0⟩ : Lb).q, .int .u32 x.l.e, .int .u32 x.l.q] := by rw [Lies, St.get_new, if_pos (by simp only [St.next_new])]
        refine Wl_of (LastL_run ⟨0, 0⟩ x.l hpp (by simp only [St.next_new]; omega)) ?_
        rintro _ s2 ⟨rfl, f2, fn2⟩
        obtain ⟨hc2, hm2⟩ := fin ⟨0, 0⟩ hgb s2 f2
        simp only [St.next_new] at fn2
        have f02 : Fr s s2 := ((f1.new _).new _).trans f2
        have hle2 := f2.le
        simp only [St.next_new] at hle2
        generalize mxL ⟨0, 0⟩ x.l = nv at hbt ⊢
        have hap := encF_append best 0 (n, nv)
        rw [Nat.zero_add] at hap
        simp -implicitDefEqProofs only [go_sem, Wk_block, Wk_drawnC, reduceCtorEq, Nat.reduceEqDiff, Nat.reduceAdd, Nat.reduceLeDiff, Nat.reduceLT, Nat.reduceMul, Nat.reduceSub, ↓reduceIte, Int.reduceLT, Int.reduceLE, Int.reduceNeg, Int.reduceAdd, Int.reduceEq, Nat.reduceBneDiff, Nat.reduceBEq, Int.reduceToNat, Int.reduceMul, Int.reduceSub, Int.reduceBEq, Int.reduceBNe, Int.cast_ofNat_Int, Int.toNat_natCast_add_one, Nat.add_left_cancel_iff, Nat.left_eq_add, Nat.add_eq_left, Int.toNat_natCast, Nat.add_assoc, Int.ofNat_lt, Int.ofNat_le, Nat.lt_add_one_of_lt, Nat.lt_add_one, Nat.lt_add_right, Nat.lt_add_right_iff_pos, Nat.add_lt_add_iff_left, g17, g16, g15, g0, g5, hlt, hidx, hg, hle, heq, hs0, hnn, wq, hc1, hm1, hfa, hcq, hcq0, eq_next_f hcq, eq_next_f' hcq, eq_next_f hcq0, eq_next_f' hcq0, eq_next_k hcq, eq_next_k' hcq, eq_next_k hcq0, eq_next_k' hcq0, hbl, eq_next_f hbl, hc2, hm2, hap]
        refine IH (l.length - (j + 1)) _ _ (by omega) ⟨j + 1, rfl, by omega, ?_, ?_, ?_, ?_, ?_, f02.put (by omega) _, by simp only [St.next_put]; omega, by simp only [St.next_put]; omega, ?_, ?_⟩
        · simp only [go_sem, Wk_block, Wk_drawnC, reduceCtorEq, Nat.reduceEqDiff, Nat.reduceAdd, Nat.reduceLeDiff, Nat.reduceLT, Nat.reduceMul, Nat.reduceSub, ↓reduceIte, Int.reduceLT, Int.reduceLE, Int.reduceNeg, Int.reduceAdd, Int.reduceEq, Nat.reduceBneDiff, Nat.reduceBEq, Int.reduceToNat, Int.reduceMul, Int.reduceSub, Int.reduceBEq, Int.reduceBNe, Int.cast_ofNat_Int, Int.toNat_natCast_add_one, Nat.add_left_cancel_iff, Nat.left_eq_add, Nat.add_eq_left, Int.toNat_natCast, Nat.add_assoc, Int.ofNat_lt, Int.ofNat_le, wj]
        · simp only [go_sem, Wk_block, Wk_drawnC, reduceCtorEq, Nat.reduceEqDiff, Nat.reduceAdd, Nat.reduceLeDiff, Nat.reduceLT, Nat.reduceMul, Nat.reduceSub, ↓reduceIte, Int.reduceLT, Int.reduceLE, Int.reduceNeg, Int.reduceAdd, Int.reduceEq, Nat.reduceBneDiff, Nat.reduceBEq, Int.reduceToNat, Int.reduceMul, Int.reduceSub, Int.reduceBEq, Int.reduceBNe, Int.cast_ofNat_Int, Int.toNat_natCast_add_one, Nat.add_left_cancel_iff, Nat.left_eq_add, Nat.add_eq_left, Int.toNat_natCast, Nat.add_assoc, Int.ofNat_lt, Int.ofNat_le, g16]
        · simp only [go_sem, Wk_block, Wk_drawnC, reduceCtorEq, Nat.reduceEqDiff, Nat.reduceAdd, Nat.reduceLeDiff, Nat.reduceLT, Nat.reduceMul, Nat.reduceSub, ↓reduceIte, Int.reduceLT, Int.reduceLE, Int.reduceNeg, Int.reduceAdd, Int.reduceEq, Nat.reduceBneDiff, Nat.reduceBEq, Int.reduceToNat, Int.reduceMul, Int.reduceSub, Int.reduceBEq, Int.reduceBNe, Int.cast_ofNat_Int, Int.toNat_natCast_add_one, Nat.add_left_cancel_iff, Nat.left_eq_add, Nat.add_eq_left, Int.toNat_natCast, Nat.add_assoc, Int.ofNat_lt, Int.ofNat_le, g15]
        · simp only [go_sem, Wk_block, Wk_drawnC, reduceCtorEq, Nat.reduceEqDiff, Nat.reduceAdd, Nat.reduceLeDiff, Nat.reduceLT, Nat.reduceMul, Nat.reduceSub, ↓reduceIte, Int.reduceLT, Int.reduceLE, Int.reduceNeg, Int.reduceAdd, Int.reduceEq, Nat.reduceBneDiff, Nat.reduceBEq, Int.reduceToNat, Int.reduceMul, Int.reduceSub, Int.reduceBEq, Int.reduceBNe, Int.cast_ofNat_Int, Int.toNat_natCast_add_one, Nat.add_left_cancel_iff, Nat.left_eq_add, Nat.add_eq_left, Int.toNat_natCast, Nat.add_assoc, Int.ofNat_lt, Int.ofNat_le, g0]
        · simp only [go_sem, Wk_block, Wk_drawnC, reduceCtorEq, Nat.reduceEqDiff, Nat.reduceAdd, Nat.reduceLeDiff, Nat.reduceLT, Nat.reduceMul, Nat.reduceSub, ↓reduceIte, Int.reduceLT, Int.reduceLE, Int.reduceNeg, Int.reduceAdd, Int.reduceEq, Nat.reduceBneDiff, Nat.reduceBEq, Int.reduceToNat, Int.reduceMul, Int.reduceSub, Int.reduceBEq, Int.reduceBNe, Int.cast_ofNat_Int, Int.toNat_natCast_add_one, Nat.add_left_cancel_iff, Nat.left_eq_add, Nat.add_eq_left, Int.toNat_natCast, Nat.add_assoc, Int.ofNat_lt, Int.ofNat_le, g5]
        · rw [hbt, St.get_put, if_pos rfl]; rw [hap, List.length_append]; rfl
        · rw [Lies, St.get_put, if_neg (by omega)]; exact hc2
      | some jv =>
        rw [hfb] at hfa
        simp only [Option.map_some] at hfa
        have hgb : gB best n = jv.2 := by unfold gB; rw [hfb]
        have hpb : ∀ v, pB best n v = best.set jv.1 (n, v) := fun v => by unfold pB; rw [hfb]
        have hjl2 := (findB_lt best n 0 jv.1 jv.2 hfb).2.1
        rw [hgb, hpb] at hbt
        simp -implicitDefEqProofs only [go_sem, Wk_block, Wk_drawnC, reduceCtorEq, Nat.reduceEqDiff, Nat.reduceAdd, Nat.reduceLeDiff, Nat.reduceLT, Nat.reduceMul, Nat.reduceSub, ↓reduceIte, Int.reduceLT, Int.reduceLE, Int.reduceNeg, Int.reduceAdd, Int.reduceEq, Nat.reduceBneDiff, Nat.reduceBEq, Int.reduceToNat, Int.reduceMul, Int.reduceSub, Int.reduceBEq, Int.reduceBNe, Int.cast_ofNat_Int, Int.toNat_natCast_add_one, Nat.add_left_cancel_iff, Nat.left_eq_add, Nat.add_eq_left, Int.toNat_natCast, Nat.add_assoc, Int.ofNat_lt, Int.ofNat_le, Nat.lt_add_one_of_lt, Nat.lt_add_one, Nat.lt_add_right, Nat.lt_add_right_iff_pos, Nat.add_lt_add_iff_left, g17, g16, g15, g0, g5, hlt, hidx, hg, hle, heq, hs0, hnn, wq, hc1, hm1, hfa, hcq, hcq0, eq_next_f hcq, eq_next_f' hcq, eq_next_f hcq0, eq_next_f' hcq0, eq_next_k hcq, eq_next_k' hcq, eq_next_k hcq0, eq_next_k' hcq0, hbl, eq_next_f hbl, Lb.enc]
        have hpp : Lies ((s1.new (.cells [.int .u32 x.l.e, .int .u32 x.l.q, .int .i64 x.r, .int .u32 x.t] false false 0)).new (.cells [.int .u32 jv.2.e, .int .u32 jv.2.q, .int .u32 x.l.e, .int .u32 x.l.q] false false 0)) (s1.next + 1) [.int .u32 (jv.2 : Lb).e, .int .u32 (jv.2 : Lb).q, .int .u32 x.l.e, .int .u32 x.l.q] := by rw [Lies, St.get_new, if_pos (by simp only [St.next_new])]
        refine Wl_of (LastL_run jv.2 x.l hpp (by simp only [St.next_new]; omega)) ?_
        rintro _ s2 ⟨rfl, f2, fn2⟩
        obtain ⟨hc2, hm2⟩ := fin jv.2 hgb s2 f2
        simp only [St.next_new] at fn2
        have f02 : Fr s s2 := ((f1.new _).new _).trans f2
        have hle2 := f2.le
        simp only [St.next_new] at hle2
        generalize mxL jv.2 x.l = nv at hbt ⊢
        have hap := encF_set best 0 jv.1 (n, nv) (by omega)
        simp -implicitDefEqProofs only [go_sem, Wk_block, Wk_drawnC, reduceCtorEq, Nat.reduceEqDiff, Nat.reduceAdd, Nat.reduceLeDiff, Nat.reduceLT, Nat.reduceMul, Nat.reduceSub, ↓reduceIte, Int.reduceLT, Int.reduceLE, Int.reduceNeg, Int.reduceAdd, Int.reduceEq, Nat.reduceBneDiff, Nat.reduceBEq, Int.reduceToNat, Int.reduceMul, Int.reduceSub, Int.reduceBEq, Int.reduceBNe, Int.cast_ofNat_Int, Int.toNat_natCast_add_one, Nat.add_left_cancel_iff, Nat.left_eq_add, Nat.add_eq_left, Int.toNat_natCast, Nat.add_assoc, Int.ofNat_lt, Int.ofNat_le, Nat.lt_add_one_of_lt, Nat.lt_add_one, Nat.lt_add_right, Nat.lt_add_right_iff_pos, Nat.add_lt_add_iff_left, g17, g16, g15, g0, g5, hlt, hidx, hg, hle, heq, hs0, hnn, wq, hc1, hm1, hfa, hcq, hcq0, eq_next_f hcq, eq_next_f' hcq, eq_next_f hcq0, eq_next_f' hcq0, eq_next_k hcq, eq_next_k' hcq, eq_next_k hcq0, eq_next_k' hcq0, hbl, eq_next_f hbl, Lb.enc, hc2, hm2, hap]
        refine IH (l.length - (j + 1)) _ _ (by omega) ⟨j + 1, rfl, by omega, ?_, ?_, ?_, ?_, ?_, f02.put (by omega) _, by simp only [St.next_put]; omega, by simp only [St.next_put]; omega, ?_, ?_⟩
        · simp only [go_sem, Wk_block, Wk_drawnC, reduceCtorEq, Nat.reduceEqDiff, Nat.reduceAdd, Nat.reduceLeDiff, Nat.reduceLT, Nat.reduceMul, Nat.reduceSub, ↓reduceIte, Int.reduceLT, Int.reduceLE, Int.reduceNeg, Int.reduceAdd, Int.reduceEq, Nat.reduceBneDiff, Nat.reduceBEq, Int.reduceToNat, Int.reduceMul, Int.reduceSub, Int.reduceBEq, Int.reduceBNe, Int.cast_ofNat_Int, Int.toNat_natCast_add_one, Nat.add_left_cancel_iff, Nat.left_eq_add, Nat.add_eq_left, Int.toNat_natCast, Nat.add_assoc, Int.ofNat_lt, Int.ofNat_le, wj]
        · simp only [go_sem, Wk_block, Wk_drawnC, reduceCtorEq, Nat.reduceEqDiff, Nat.reduceAdd, Nat.reduceLeDiff, Nat.reduceLT, Nat.reduceMul, Nat.reduceSub, ↓reduceIte, Int.reduceLT, Int.reduceLE, Int.reduceNeg, Int.reduceAdd, Int.reduceEq, Nat.reduceBneDiff, Nat.reduceBEq, Int.reduceToNat, Int.reduceMul, Int.reduceSub, Int.reduceBEq, Int.reduceBNe, Int.cast_ofNat_Int, Int.toNat_natCast_add_one, Nat.add_left_cancel_iff, Nat.left_eq_add, Nat.add_eq_left, Int.toNat_natCast, Nat.add_assoc, Int.ofNat_lt, Int.ofNat_le, g16]
        · simp only [go_sem, Wk_block, Wk_drawnC, reduceCtorEq, Nat.reduceEqDiff, Nat.reduceAdd, Nat.reduceLeDiff, Nat.reduceLT, Nat.reduceMul, Nat.reduceSub, ↓reduceIte, Int.reduceLT, Int.reduceLE, Int.reduceNeg, Int.reduceAdd, Int.reduceEq, Nat.reduceBneDiff, Nat.reduceBEq, Int.reduceToNat, Int.reduceMul, Int.reduceSub, Int.reduceBEq, Int.reduceBNe, Int.cast_ofNat_Int, Int.toNat_natCast_add_one, Nat.add_left_cancel_iff, Nat.left_eq_add, Nat.add_eq_left, Int.toNat_natCast, Nat.add_assoc, Int.ofNat_lt, Int.ofNat_le, g15]
        · simp only [go_sem, Wk_block, Wk_drawnC, reduceCtorEq, Nat.reduceEqDiff, Nat.reduceAdd, Nat.reduceLeDiff, Nat.reduceLT, Nat.reduceMul, Nat.reduceSub, ↓reduceIte, Int.reduceLT, Int.reduceLE, Int.reduceNeg, Int.reduceAdd, Int.reduceEq, Nat.reduceBneDiff, Nat.reduceBEq, Int.reduceToNat, Int.reduceMul, Int.reduceSub, Int.reduceBEq, Int.reduceBNe, Int.cast_ofNat_Int, Int.toNat_natCast_add_one, Nat.add_left_cancel_iff, Nat.left_eq_add, Nat.add_eq_left, Int.toNat_natCast, Nat.add_assoc, Int.ofNat_lt, Int.ofNat_le, g0]
        · simp only [go_sem, Wk_block, Wk_drawnC, reduceCtorEq, Nat.reduceEqDiff, Nat.reduceAdd, Nat.reduceLeDiff, Nat.reduceLT, Nat.reduceMul, Nat.reduceSub, ↓reduceIte, Int.reduceLT, Int.reduceLE, Int.reduceNeg, Int.reduceAdd, Int.reduceEq, Nat.reduceBneDiff, Nat.reduceBEq, Int.reduceToNat, Int.reduceMul, Int.reduceSub, Int.reduceBEq, Int.reduceBNe, Int.cast_ofNat_Int, Int.toNat_natCast_add_one, Nat.add_left_cancel_iff, Nat.left_eq_add, Nat.add_eq_left, Int.toNat_natCast, Nat.add_assoc, Int.ofNat_lt, Int.ofNat_le, g5]
        · rw [hbt, St.get_put, if_pos rfl, List.length_set, ← hap]; rfl
        · rw [Lies, St.get_put, if_neg (by omega)]; exact hc2
    · have : j = l.length := by omega
      subst this
      rw [List.take_length] at hm1
      have hlf : decide ((l.length : Int) < (l.length : Int)) = false := decide_eq_false (by omega)
      simp -implicitDefEqProofs only [go_sem, Wk_block, Wk_drawnC, reduceCtorEq, Nat.reduceEqDiff, Nat.reduceAdd, Nat.reduceLeDiff, Nat.reduceLT, Nat.reduceMul, Nat.reduceSub, ↓reduceIte, Int.reduceLT, Int.reduceLE, Int.reduceNeg, Int.reduceAdd, Int.reduceEq, Nat.reduceBneDiff, Nat.reduceBEq, Int.reduceToNat, Int.reduceMul, Int.reduceSub, Int.reduceBEq, Int.reduceBNe, Int.cast_ofNat_Int, Int.toNat_natCast_add_one, Nat.add_left_cancel_iff, Nat.left_eq_add, Nat.add_eq_left, Int.toNat_natCast, Nat.add_assoc, Int.ofNat_lt, Int.ofNat_le, Nat.lt_add_one_of_lt, Nat.lt_add_one, Nat.lt_add_right, Nat.lt_add_right_iff_pos, Nat.add_lt_add_iff_left, g17, g16, hlf, hlt, Wr_nil]
      exact ⟨g0, g5, f1, by omega, hn2, hm1, hc1⟩
  · rintro ts1 s1 ⟨g0, g5, f1, hn1, hn2, hm1, hc1⟩
    rw [Wr_nil]
    unfold Lies at hc1
    have hV : spansV span l = ((keysS (bestOf span l)).reverse).map (gB (bestOf span l)) := rfl
    rw [hV]
    clear hV
    generalize bestOf span l = best at hb hm1 ⊢
    refine ⟨by omega, Nk.seq (Nk.of_Wk mm_mixed mm_ft mm_sm mm_sn ?_)⟩
    simp -implicitDefEqProofs only [go_sem, Wk_block, Wk_drawnC, reduceCtorEq, Nat.reduceEqDiff, Nat.reduceAdd, Nat.reduceLeDiff, Nat.reduceLT, Nat.reduceMul, Nat.reduceSub, ↓reduceIte, Int.reduceLT, Int.reduceLE, Int.reduceNeg, Int.reduceAdd, Int.reduceEq, Nat.reduceBneDiff, Nat.reduceBEq, Int.reduceToNat, Int.reduceMul, Int.reduceSub, Int.reduceBEq, Int.reduceBNe, Int.cast_ofNat_Int, Int.toNat_natCast_add_one, Nat.add_left_cancel_iff, Nat.left_eq_add, Nat.add_eq_left, Int.toNat_natCast, Nat.add_assoc, Int.ofNat_lt, Int.ofNat_le, Nat.lt_add_one_of_lt, Nat.lt_add_one, Nat.lt_add_right, Nat.lt_add_right_iff_pos, Nat.add_lt_add_iff_left, Wr_nil]
    refine ⟨by omega, Nk.seq (Nk.seq (Nk.of_Wk mm_mixed mm_ft mm_sm mm_sn ?_))⟩
    obtain ⟨it, hit⟩ : ∃ it, s1.next = it := ⟨_, rfl⟩
    simp -implicitDefEqProofs only [go_sem, Wk_block, Wk_drawnC, reduceCtorEq, Nat.reduceEqDiff, Nat.reduceAdd, Nat.reduceLeDiff, Nat.reduceLT, Nat.reduceMul, Nat.reduceSub, ↓reduceIte, Int.reduceLT, Int.reduceLE, Int.reduceNeg, Int.reduceAdd, Int.reduceEq, Nat.reduceBneDiff, Nat.reduceBEq, Int.reduceToNat, Int.reduceMul, Int.reduceSub, Int.reduceBEq, Int.reduceBNe, Int.cast_ofNat_Int, Int.toNat_natCast_add_one, Nat.add_left_cancel_iff, Nat.left_eq_add, Nat.add_eq_left, Int.toNat_natCast, Nat.add_assoc, Int.ofNat_lt, Int.ofNat_le, Nat.lt_add_one_of_lt, Nat.lt_add_one, Nat.lt_add_right, Nat.lt_add_right_iff_pos, Nat.add_lt_add_iff_left, g5, hc1, hm1, Wr_nil, hit]
    refine ⟨by omega, Nk.block (Nk.loop ?_)⟩
    have f2 : Fr s (s1.new (.miter (some c) best.length [] best.length)) := f1.new _
    have hi2 : (s1.new (.miter (some c) best.length [] best.length)).get it = some (.miter (some c) best.length [] best.length) := by rw [St.get_new, if_pos hit.symm]
    have hm2 : (s1.new (.miter (some c) best.length [] best.length)).get c = some (.map (encF 0 best) best.length) := by rw [St.get_new, if_neg (by omega)]; exact hm1
    have hc2 : (s1.new (.miter (some c) best.length [] best.length)).get (c + 1) = some (.cells [.map c] false false 0) := by rw [St.get_new, if_neg (by omega)]; exact hc1
    have hn3 : (s1.new (.miter (some c) best.length [] best.length)).next = it + 1 := by simp only [St.next_new]; omega
    generalize s1.new (.miter (some c) best.length [] best.length) = s2 at f2 hi2 hm2 hc2 hn3 ⊢
    refine Nl.ind (fun m ts s' => ∃ (seen : List Nat) (w : AV), m = best.length - seen.length ∧ ts.get 36 = some (.ptr it 0) ∧ ts.get 9 = some w ∧ ts.get 5 = some (.ptr (c + 1) 0) ∧ s'.get it = some (.miter (some c) best.length seen best.length) ∧ s'.get c = some (.map (encF 0 best) best.length) ∧
      s'.get (c + 1) = some (.cells [.map c] false false 0) ∧ Fr s s' ∧ it < s'.next ∧ s'.next ≤ it + 1 + 2 * seen.length ∧ seen.Nodup ∧ (∀ i ∈ seen, i < best.length) ∧ seen.length ≤ best.length ∧ OutU s' (it + 1) w (seen.map (keyAt best))) ?_ (n := best.length)
      ⟨[], .nilSlice, rfl, by simp only [go_sem, Wk_block, Wk_drawnC, reduceCtorEq, Nat.reduceEqDiff, Nat.reduceAdd, Nat.reduceLeDiff, Nat.reduceLT, Nat.reduceMul, Nat.reduceSub, ↓reduceIte, Int.reduceLT, Int.reduceLE, Int.reduceNeg, Int.reduceAdd, Int.reduceEq, Nat.reduceBneDiff, Nat.reduceBEq, Int.reduceToNat, Int.reduceMul, Int.reduceSub, Int.reduceBEq, Int.reduceBNe, Int.cast_ofNat_Int, Int.toNat_natCast_add_one, Nat.add_left_cancel_iff, Nat.left_eq_add, Nat.add_eq_left, Int.toNat_natCast, Nat.add_assoc, Int.ofNat_lt, Int.ofNat_le], by simp only [go_sem, Wk_block, Wk_drawnC, reduceCtorEq, Nat.reduceEqDiff, Nat.reduceAdd, Nat.reduceLeDiff, Nat.reduceLT, Nat.reduceMul, Nat.reduceSub, ↓reduceIte, Int.reduceLT, Int.reduceLE, Int.reduceNeg, Int.reduceAdd, Int.reduceEq, Nat.reduceBneDiff, Nat.reduceBEq, Int.reduceToNat, Int.reduceMul, Int.reduceSub, Int.reduceBEq, Int.reduceBNe, Int.cast_ofNat_Int, Int.toNat_natCast_add_one, Nat.add_left_cancel_iff, Nat.left_eq_add, Nat.add_eq_left, Int.toNat_natCast, Nat.add_assoc, Int.ofNat_lt, Int.ofNat_le], by simp only [go_sem, Wk_block, Wk_drawnC, reduceCtorEq, Nat.reduceEqDiff, Nat.reduceAdd, Nat.reduceLeDiff, Nat.reduceLT, Nat.reduceMul, Nat.reduceSub, ↓reduceIte, Int.reduceLT, Int.reduceLE, Int.reduceNeg, Int.reduceAdd, Int.reduceEq, Nat.reduceBneDiff, Nat.reduceBEq, Int.reduceToNat, Int.reduceMul, Int.reduceSub, Int.reduceBEq, Int.reduceBNe, Int.cast_ofNat_Int, Int.toNat_natCast_add_one, Nat.add_left_cancel_iff, Nat.left_eq_add, Nat.add_eq_left, Int.toNat_natCast, Nat.add_assoc, Int.ofNat_lt, Int.ofNat_le, g5], hi2, hm2, hc2, f2, by omega, by simp; omega, List.nodup_nil, by simp, by simp, .inl ⟨rfl, rfl⟩⟩
    clear hi2 hm2 hc2 f2 hn3
    rintro m ts s3 ⟨seen, w, rfl, g36, g9, g5, hi3, hm3, hc3, f3, hn3, hn4, hnd, hlt, hlen, ho⟩ IH
    refine Nk.seq (Nk.next mm_mixed mm_ft mm_sm mm_sn g36 hi3 hm3 (fun e he => ?_) (Nat.le_refl _) (by omega) (fun hall => ?_) (fun e he hns => ?_))
    · obtain ⟨k, hk, rfl⟩ := encF_mem he
      simpa using hk
    · simp -implicitDefEqProofs only [go_sem, Wk_block, Wk_drawnC, reduceCtorEq, Nat.reduceEqDiff, Nat.reduceAdd, Nat.reduceLeDiff, Nat.reduceLT, Nat.reduceMul, Nat.reduceSub, ↓reduceIte, Int.reduceLT, Int.reduceLE, Int.reduceNeg, Int.reduceAdd, Int.reduceEq, Nat.reduceBneDiff, Nat.reduceBEq, Int.reduceToNat, Int.reduceMul, Int.reduceSub, Int.reduceBEq, Int.reduceBNe, Int.cast_ofNat_Int, Int.toNat_natCast_add_one, Nat.add_left_cancel_iff, Nat.left_eq_add, Nat.add_eq_left, Int.toNat_natCast, Nat.add_assoc, Int.ofNat_lt, Int.ofNat_le, Nat.lt_add_one_of_lt, Nat.lt_add_one, Nat.lt_add_right, Nat.lt_add_right_iff_pos, Nat.add_lt_add_iff_left, Wr_nil]
      refine ⟨by omega, Nk.seq (Nk.of_Wk mm_mixed mm_ft mm_sm mm_sn ?_)⟩
      simp -implicitDefEqProofs only [go_sem, Wk_block, Wk_drawnC, reduceCtorEq, Nat.reduceEqDiff, Nat.reduceAdd, Nat.reduceLeDiff, Nat.reduceLT, Nat.reduceMul, Nat.reduceSub, ↓reduceIte, Int.reduceLT, Int.reduceLE, Int.reduceNeg, Int.reduceAdd, Int.reduceEq, Nat.reduceBneDiff, Nat.reduceBEq, Int.reduceToNat, Int.reduceMul, Int.reduceSub, Int.reduceBEq, Int.reduceBNe, Int.cast_ofNat_Int, Int.toNat_natCast_add_one, Nat.add_left_cancel_iff, Nat.left_eq_add, Nat.add_eq_left, Int.toNat_natCast, Nat.add_assoc, Int.ofNat_lt, Int.ofNat_le, Nat.lt_add_one_of_lt, Nat.lt_add_one, Nat.lt_add_right, Nat.lt_add_right_iff_pos, Nat.add_lt_add_iff_left, Wr_nil]
      have hpm := all_seen hnd hlt fun i hi => by
        have := hall _ (encF_get (i := 0) hi)
        simpa using this
      generalize seen.map (keyAt best) = L at hpm ho
      refine ⟨by omega, Nk.of_Wk mm_mixed mm_ft mm_sm mm_sn ?_⟩
      have hLl : L.length ≤ 12 := by rw [hpm.length_eq, List.length_map]; exact hb
      change Wk mm none [] ((PC.region [⟨some 45, .move (.t 9), none⟩, ⟨some 46, .call (.c (.fn (.func 25) [] [])) [.t 45], none⟩]).seq restC) _ _ _ _
      rcases ho with ⟨rfl, rfl⟩ | ⟨p, rfl, h1, h2, h3, h4⟩
      · have hk0 : keysS best = [] := (keysS_eq hpm List.Pairwise.nil).symm
        simp -implicitDefEqProofs only [go_sem, Wk_block, Wk_drawnC, reduceCtorEq, Nat.reduceEqDiff, Nat.reduceAdd, Nat.reduceLeDiff, Nat.reduceLT, Nat.reduceMul, Nat.reduceSub, ↓reduceIte, Int.reduceLT, Int.reduceLE, Int.reduceNeg, Int.reduceAdd, Int.reduceEq, Nat.reduceBneDiff, Nat.reduceBEq, Int.reduceToNat, Int.reduceMul, Int.reduceSub, Int.reduceBEq, Int.reduceBNe, Int.cast_ofNat_Int, Int.toNat_natCast_add_one, Nat.add_left_cancel_iff, Nat.left_eq_add, Nat.add_eq_left, Int.toNat_natCast, Nat.add_assoc, Int.ofNat_lt, Int.ofNat_le, Nat.lt_add_one_of_lt, Nat.lt_add_one, Nat.lt_add_right, Nat.lt_add_right_iff_pos, Nat.add_lt_add_iff_left, g9, Wl_eq (SortU_nil _)]
        refine Wk_mono0 (rest_run best (by rw [hk0]; simp) (w2 := .nilSlice) (c := c) ?_ ?_ hm3 hc3 (by omega) rfl ⟨fun s' => by rw [hk0]; rfl, by rw [hk0]; simp, fun h => by rw [hk0] at h; simp at h⟩) ?_
        · simp only [go_sem, Wk_block, Wk_drawnC, reduceCtorEq, Nat.reduceEqDiff, Nat.reduceAdd, Nat.reduceLeDiff, Nat.reduceLT, Nat.reduceMul, Nat.reduceSub, ↓reduceIte, Int.reduceLT, Int.reduceLE, Int.reduceNeg, Int.reduceAdd, Int.reduceEq, Nat.reduceBneDiff, Nat.reduceBEq, Int.reduceToNat, Int.reduceMul, Int.reduceSub, Int.reduceBEq, Int.reduceBNe, Int.cast_ofNat_Int, Int.toNat_natCast_add_one, Nat.add_left_cancel_iff, Nat.left_eq_add, Nat.add_eq_left, Int.toNat_natCast, Nat.add_assoc, Int.ofNat_lt, Int.ofNat_le, g9]
        · simp only [go_sem, Wk_block, Wk_drawnC, reduceCtorEq, Nat.reduceEqDiff, Nat.reduceAdd, Nat.reduceLeDiff, Nat.reduceLT, Nat.reduceMul, Nat.reduceSub, ↓reduceIte, Int.reduceLT, Int.reduceLE, Int.reduceNeg, Int.reduceAdd, Int.reduceEq, Nat.reduceBneDiff, Nat.reduceBEq, Int.reduceToNat, Int.reduceMul, Int.reduceSub, Int.reduceBEq, Int.reduceBNe, Int.cast_ofNat_Int, Int.toNat_natCast_add_one, Nat.add_left_cancel_iff, Nat.left_eq_add, Nat.add_eq_left, Int.toNat_natCast, Nat.add_assoc, Int.ofNat_lt, Int.ofNat_le, g5]
        · rintro x ts' ds' s' ⟨q1, q2⟩
          refine ⟨by omega, by omega, Fin_mono q2 ?_⟩
          rintro w s'' ⟨r1, r2, r3⟩
          exact ⟨r1.low (by omega), f3.trans r2, by omega⟩
      · simp -implicitDefEqProofs only [go_sem, Wk_block, Wk_drawnC, reduceCtorEq, Nat.reduceEqDiff, Nat.reduceAdd, Nat.reduceLeDiff, Nat.reduceLT, Nat.reduceMul, Nat.reduceSub, ↓reduceIte, Int.reduceLT, Int.reduceLE, Int.reduceNeg, Int.reduceAdd, Int.reduceEq, Nat.reduceBneDiff, Nat.reduceBEq, Int.reduceToNat, Int.reduceMul, Int.reduceSub, Int.reduceBEq, Int.reduceBNe, Int.cast_ofNat_Int, Int.toNat_natCast_add_one, Nat.add_left_cancel_iff, Nat.left_eq_add, Nat.add_eq_left, Int.toNat_natCast, Nat.add_assoc, Int.ofNat_lt, Int.ofNat_le, Nat.lt_add_one_of_lt, Nat.lt_add_one, Nat.lt_add_right, Nat.lt_add_right_iff_pos, Nat.add_lt_add_iff_left, g9]
        refine Wl_of (SortU_run L hLl h4 h3) ?_
        rintro w4 s4 ⟨⟨Y, hYp, hYs, hY⟩, f4, hn5⟩
        have hYk : Y = keysS best := keysS_eq (hYp.trans hpm) hYs
        have hYl := hYp.length_eq
        rw [hYk] at hY hYl
        simp -implicitDefEqProofs only [go_sem, Wk_block, Wk_drawnC, reduceCtorEq, Nat.reduceEqDiff, Nat.reduceAdd, Nat.reduceLeDiff, Nat.reduceLT, Nat.reduceMul, Nat.reduceSub, ↓reduceIte, Int.reduceLT, Int.reduceLE, Int.reduceNeg, Int.reduceAdd, Int.reduceEq, Nat.reduceBneDiff, Nat.reduceBEq, Int.reduceToNat, Int.reduceMul, Int.reduceSub, Int.reduceBEq, Int.reduceBNe, Int.cast_ofNat_Int, Int.toNat_natCast_add_one, Nat.add_left_cancel_iff, Nat.left_eq_add, Nat.add_eq_left, Int.toNat_natCast, Nat.add_assoc, Int.ofNat_lt, Int.ofNat_le, Nat.lt_add_one_of_lt, Nat.lt_add_one, Nat.lt_add_right, Nat.lt_add_right_iff_pos, Nat.add_lt_add_iff_left, g9]
        refine Wk_mono0 (rest_run best (by omega) (w2 := .slice p 0 L.length L.length true) (c := c) ?_ ?_ ((f4.get c (by omega) (by omega)).trans hm3) ((f4.get (c + 1) (by omega) (by omega)).trans hc3) (by omega) rfl
          ⟨fun s' => by rw [List.length_map, hYl]; rfl, by rw [List.length_map]; unfold maxLen; omega, fun h => ⟨p, 0, L.length, true, _, true, false, 1, by rw [List.length_map, hYl], hY, by omega, fun j hj => ?_⟩⟩) ?_
        · simp only [go_sem, Wk_block, Wk_drawnC, reduceCtorEq, Nat.reduceEqDiff, Nat.reduceAdd, Nat.reduceLeDiff, Nat.reduceLT, Nat.reduceMul, Nat.reduceSub, ↓reduceIte, Int.reduceLT, Int.reduceLE, Int.reduceNeg, Int.reduceAdd, Int.reduceEq, Nat.reduceBneDiff, Nat.reduceBEq, Int.reduceToNat, Int.reduceMul, Int.reduceSub, Int.reduceBEq, Int.reduceBNe, Int.cast_ofNat_Int, Int.toNat_natCast_add_one, Nat.add_left_cancel_iff, Nat.left_eq_add, Nat.add_eq_left, Int.toNat_natCast, Nat.add_assoc, Int.ofNat_lt, Int.ofNat_le, g9]
        · simp only [go_sem, Wk_block, Wk_drawnC, reduceCtorEq, Nat.reduceEqDiff, Nat.reduceAdd, Nat.reduceLeDiff, Nat.reduceLT, Nat.reduceMul, Nat.reduceSub, ↓reduceIte, Int.reduceLT, Int.reduceLE, Int.reduceNeg, Int.reduceAdd, Int.reduceEq, Nat.reduceBneDiff, Nat.reduceBEq, Int.reduceToNat, Int.reduceMul, Int.reduceSub, Int.reduceBEq, Int.reduceBNe, Int.cast_ofNat_Int, Int.toNat_natCast_add_one, Nat.add_left_cancel_iff, Nat.left_eq_add, Nat.add_eq_left, Int.toNat_natCast, Nat.add_assoc, Int.ofNat_lt, Int.ofNat_le, g5]
        · rw [List.length_map] at hj
          refine ⟨by rw [List.length_map]; omega, ?_⟩
          rw [Nat.mul_one, Nat.zero_add, List.getElem_map, ← List.map_drop, ← List.map_take, List.drop_eq_getElem_cons hj]
          rfl
        · rintro x ts' ds' s' ⟨q1, q2⟩
          refine ⟨by omega, by omega, Fin_mono q2 ?_⟩
          rintro w s'' ⟨r1, r2, r3⟩
          refine ⟨r1.low (by omega), ⟨by have := f3.le; have := r2.le; omega, fun b hb => ?_⟩, by omega⟩
          rw [r2.get b (by omega), f4.get b (by omega) (by omega)]
          exact f3.get b hb
    · obtain ⟨k, hk, rfl⟩ := encF_mem he
      simp only [Nat.zero_add] at hns ⊢
      have hks : k ∉ seen := by simpa using hns
      have hgl : (seen ++ [k]).getLast? = some k := by simp
      have hfd : (encF 0 best).find? (fun e => e.2.2 == k) = some (AV.int .u32 best[k].1, AV.agg best[k].2.enc, k) := by simpa only [Nat.zero_add] using encF_find (i := 0) hk
      have hka : keyAt best k = best[k].1 := by unfold keyAt; rw [List.getD_eq_getElem?_getD, List.getElem?_eq_getElem hk]; rfl
      have hsl : seen.length < best.length := by
        have h1 : (k :: seen).Nodup := List.nodup_cons.2 ⟨hks, hnd⟩
        have h2 : ∀ i ∈ k :: seen, i < best.length := fun i hi => by
          rcases List.mem_cons.1 hi with rfl | hi
          · exact hk
          · exact hlt i hi
        have := nodup_len' (k :: seen) (List.range best.length) h1 fun i hi => List.mem_range.2 (h2 i hi)
        simp at this
        omega
      generalize best[k].1 = key at hfd hka ⊢
      generalize best[k].2 = lb at hfd ⊢
      simp -implicitDefEqProofs only [go_sem, Wk_block, Wk_drawnC, reduceCtorEq, Nat.reduceEqDiff, Nat.reduceAdd, Nat.reduceLeDiff, Nat.reduceLT, Nat.reduceMul, Nat.reduceSub, ↓reduceIte, Int.reduceLT, Int.reduceLE, Int.reduceNeg, Int.reduceAdd, Int.reduceEq, Nat.reduceBneDiff, Nat.reduceBEq, Int.reduceToNat, Int.reduceMul, Int.reduceSub, Int.reduceBEq, Int.reduceBNe, Int.cast_ofNat_Int, Int.toNat_natCast_add_one, Nat.add_left_cancel_iff, Nat.left_eq_add, Nat.add_eq_left, Int.toNat_natCast, Nat.add_assoc, Int.ofNat_lt, Int.ofNat_le, Nat.lt_add_one_of_lt, Nat.lt_add_one, Nat.lt_add_right, Nat.lt_add_right_iff_pos, Nat.add_lt_add_iff_left, Wr_nil]
      refine ⟨by omega, Nk.of_Wk mm_mixed mm_ft mm_sm mm_sn ?_⟩
      have hce := ho.cell
      have hci : c ≠ it := by omega
      obtain ⟨w', s4, happ, ho4, hnx, hfr⟩ := OutU.push (((ho.put (Nat.lt_succ_self it) (.miter (some c) best.length (seen ++ [k]) best.length))).new (.cells [.int .u32 key] false false 0)) (by simp only [St.next_new, St.next_put]; omega) (by rw [List.length_map]; omega) key
      have happ2 := happ
      simp -implicitDefEqProofs only [go_sem, Wk_block, Wk_drawnC, reduceCtorEq, Nat.reduceEqDiff, Nat.reduceAdd, Nat.reduceLeDiff, Nat.reduceLT, Nat.reduceMul, Nat.reduceSub, ↓reduceIte, Int.reduceLT, Int.reduceLE, Int.reduceNeg, Int.reduceAdd, Int.reduceEq, Nat.reduceBneDiff, Nat.reduceBEq, Int.reduceToNat, Int.reduceMul, Int.reduceSub, Int.reduceBEq, Int.reduceBNe, Int.cast_ofNat_Int, Int.toNat_natCast_add_one, Nat.add_left_cancel_iff, Nat.left_eq_add, Nat.add_eq_left, Int.toNat_natCast, Nat.add_assoc, Int.ofNat_lt, Int.ofNat_le, Nat.lt_add_one_of_lt, Nat.lt_add_one, Nat.lt_add_right, Nat.lt_add_right_iff_pos, Nat.add_lt_add_iff_left, g36, g9, hi3, hm3, hci, hgl, hfd, eq_self, srcA, happ, Wr_nil, hn3, eq_next_f hn3, eq_next_f' hn3]
      simp only [St.next_new, St.next_put] at hnx
      have hgt : ∀ b, b < it + 1 → b ≠ it → s4.get b = s3.get b := fun b h1 h2 => by
        rw [hfr b h1, St.get_new, if_neg (by simp only [St.next_put]; omega), St.get_put, if_neg h2]
      refine ⟨by omega, IH (best.length - (seen.length + 1)) _ _ (by omega) ⟨seen ++ [k], w', by simp, ?_, ?_, ?_, ?_, ?_, ?_, ⟨?_, ?_⟩, by omega, by simp; omega, ?_, ?_, by simp; omega, ?_⟩⟩
      · simp only [go_sem, Wk_block, Wk_drawnC, reduceCtorEq, Nat.reduceEqDiff, Nat.reduceAdd, Nat.reduceLeDiff, Nat.reduceLT, Nat.reduceMul, Nat.reduceSub, ↓reduceIte, Int.reduceLT, Int.reduceLE, Int.reduceNeg, Int.reduceAdd, Int.reduceEq, Nat.reduceBneDiff, Nat.reduceBEq, Int.reduceToNat, Int.reduceMul, Int.reduceSub, Int.reduceBEq, Int.reduceBNe, Int.cast_ofNat_Int, Int.toNat_natCast_add_one, Nat.add_left_cancel_iff, Nat.left_eq_add, Nat.add_eq_left, Int.toNat_natCast, Nat.add_assoc, Int.ofNat_lt, Int.ofNat_le, g36]
      · simp only [go_sem, Wk_block, Wk_drawnC, reduceCtorEq, Nat.reduceEqDiff, Nat.reduceAdd, Nat.reduceLeDiff, Nat.reduceLT, Nat.reduceMul, Nat.reduceSub, ↓reduceIte, Int.reduceLT, Int.reduceLE, Int.reduceNeg, Int.reduceAdd, Int.reduceEq, Nat.reduceBneDiff, Nat.reduceBEq, Int.reduceToNat, Int.reduceMul, Int.reduceSub, Int.reduceBEq, Int.reduceBNe, Int.cast_ofNat_Int, Int.toNat_natCast_add_one, Nat.add_left_cancel_iff, Nat.left_eq_add, Nat.add_eq_left, Int.toNat_natCast, Nat.add_assoc, Int.ofNat_lt, Int.ofNat_le]
      · simp only [go_sem, Wk_block, Wk_drawnC, reduceCtorEq, Nat.reduceEqDiff, Nat.reduceAdd, Nat.reduceLeDiff, Nat.reduceLT, Nat.reduceMul, Nat.reduceSub, ↓reduceIte, Int.reduceLT, Int.reduceLE, Int.reduceNeg, Int.reduceAdd, Int.reduceEq, Nat.reduceBneDiff, Nat.reduceBEq, Int.reduceToNat, Int.reduceMul, Int.reduceSub, Int.reduceBEq, Int.reduceBNe, Int.cast_ofNat_Int, Int.toNat_natCast_add_one, Nat.add_left_cancel_iff, Nat.left_eq_add, Nat.add_eq_left, Int.toNat_natCast, Nat.add_assoc, Int.ofNat_lt, Int.ofNat_le, g5]
      · rw [hfr it (by omega), St.get_new, if_neg (by simp only [St.next_put]; omega), St.get_put, if_pos rfl]
      · rw [hgt c (by omega) (by omega)]; exact hm3
      · rw [hgt (c + 1) (by omega) (by omega)]; exact hc3
      · have := f3.le; omega
      · intro b hb
        rw [hgt b (by omega) (by omega)]; exact f3.get b hb
      · rw [List.nodup_append]
        exact ⟨hnd, by simp, fun a ha b hb => by simp at hb; subst hb; exact fun e => hks (e ▸ ha)⟩
      · intro i hi
        rcases List.mem_append.1 hi with hi | hi
        · exact hlt i hi
        · simp at hi; subst hi; exact hk
      · rw [List.map_append, List.map_singleton, hka]; exact ho4
end Go.Proofs.Ytbkpjeooommelaa.Base
