/- The machine of this seat: its functions, what is known of a check that asks for nothing, and the sort of labels. Printed by a program.
Labels: which of two is lower.
Histories: what a moment holds; the loop that goes through one.
The loop that goes through a history, whatever is done in its rounds.
Whether what is exposed rises.
The document's answer: what a node showed last; whether what is exposed rises.
The document's answer: whether what is exposed rises. -/
import Derived.Test.YteffppdkofdmdaaZf
import Derived.Shelf.SlSortCmp.NoneTotal
import Derived.Shelf.Lay
import Derived.Ground.SlsfProg
import Derived.KernelRfl
namespace Go.Proofs.Yteffppdkofdmdaa
open D Go.Shelf Go.RowKit Go.Lib
shelf_lay_g SlLaysF0.n6 Slsf 6 at Try 22 as Try.sortLab

def labE : Elt (Int × Int) where
  k := 2
  enc x := [.int .u32 x.1, .int .u32 x.2]
  cnc x := [.int .u32 x.1, .int .u32 x.2]
  dec l := match l with | [.int .u32 a, .int .u32 b] => some (a, b) | _ => none
  dec_some {l a} h := by
    split at h
    · cases h; rfl
    · cases h
  concs _ _ := rfl
  len _ := rfl
  one x v hv := by simp at hv; rcases hv with rfl | rfl <;> rfl
  pos := by decide
def lcmp (x y : Int × Int) : Int := Base.Lb.cmp ⟨x.1, x.2⟩ ⟨y.1, y.2⟩
theorem lt_lcmp (x y : Int × Int) : ltOf lcmp x y = decide (Base.Lb.lt ⟨x.1, x.2⟩ ⟨y.1, y.2⟩) := by
  unfold ltOf lcmp
  simp only [Base.cmp_lt0]
theorem lswo : Sort.SWO (ltOf lcmp) where
  irrefl x := by rw [lt_lcmp]; simp [Base.Lb.lt]
  trans x y z h1 h2 := by
    rw [lt_lcmp, decide_eq_true_eq] at h1 h2 ⊢
    unfold Base.Lb.lt at *
    dsimp only at *
    omega
  ntrans x y z h1 h2 := by
    rw [lt_lcmp, decide_eq_false_iff_not] at h1 h2 ⊢
    unfold Base.Lb.lt at *
    dsimp only at *
    omega
theorem sortOk : SortOk Try.prog labE lcmp 22 18 := fun blk off cap d w hH hb hs =>
  AnyQ.slices_SortFunc_eq Try.sortLab 2 Try.isAgg30 Try.sizeOf30 labE.cnc (fun _ => rfl) labE.one lcmp lswo 18 #[] blk off cap d w (enters_of Try.func18 (by kernel_rfl) rfl)
    (fun m os dk _ x y => by
      obtain ⟨v, s', h, rfl, _⟩ := Base.Compare_run ⟨x.1, x.2⟩ ⟨y.1, y.2⟩ St.empty
      exact cmp_calls (E := labE) (x := x) (y := y) (by kernel_rfl) Base.mm_ft Base.mm_sm Base.mm_sn h _) hH hb hs
theorem sortNil (w : World) : Calls Try.prog 22 #[.slice none 0 0, .func (.func 18) #[] #[]] w fun e w' => e = .returned (.tuple #[]) ∧ w' = w :=
  AnyF.slices_SortFunc_none Try.sortLab none 0 _ w

noncomputable def mm : Mach := ⟨tab.get, addSum Base.mm.SM 22 (sumSortN labE lcmp 18)⟩
theorem mm_ft : FnsOk Try.prog mm.FT := tab_ok
theorem mm_sm : SumsOk Try.prog mm.SM := sumsOk_addF ⟨_, Try.func22, by kernel_rfl, by kernel_rfl⟩ (sumSortN_ok sortOk lswo sortNil) Base.mm_sm
theorem mm_sn : SumsNext mm.SM := sumsNext_addF sumSortN_next Base.mm_sn
theorem sm {f : Nat} (h : f ≠ 7 ∧ f ≠ 22) : mm.SM f = none := (addSum_ne h.2).trans (Base.sm h.1)
theorem alive_eq (s : St) : mm.L.call 7 [] s = some (.bool true, s) := by
  rw [lim_call]
  unfold callStep
  rw [show mm.SM 7 = some aliveSum by show addSum (addSum noSums 7 aliveSum) 22 (sumSortN labE lcmp 18) 7 = _; rw [addSum_ne (by decide)]; exact addSum_eq]
  rfl
theorem sort_eq (args : List AV) (s : St) : mm.L.call 22 args s = sumSortN labE lcmp 18 args s := by
  rw [lim_call]
  unfold callStep
  rw [show mm.SM 22 = some (sumSortN labE lcmp 18) by show addSum Base.mm.SM 22 (sumSortN labE lcmp 18) 22 = _; exact addSum_eq]
theorem ft2 : mm.FT 2 = some fd2 := Base.ft2
theorem ft3 : mm.FT 3 = some fd3 := Base.ft3
theorem ft4 : mm.FT 4 = some fd4 := Base.ft4
theorem ft5 : mm.FT 5 = some fd5 := Base.ft5
theorem ft6 : mm.FT 6 = some fd6 := Base.ft6
theorem ft7 : mm.FT 7 = some fd7 := Base.ft7
theorem ft8 : mm.FT 8 = some fd8 := Base.ft8
theorem ft9 : mm.FT 9 = some fd9 := Base.ft9
theorem ft10 : mm.FT 10 = some fd10 := Base.ft10
theorem ft11 : mm.FT 11 = some fd11 := Base.ft11
theorem ft12 : mm.FT 12 = some fd12 := Base.ft12
theorem ft13 : mm.FT 13 = some fd13 := Base.ft13
theorem ft14 : mm.FT 14 = some fd14 := Base.ft14
theorem ft15 : mm.FT 15 = some fd15 := Base.ft15
theorem ft16 : mm.FT 16 = some fd16 := Base.ft16
theorem ft17 : mm.FT 17 = some fd17 := Base.ft17
theorem ft18 : mm.FT 18 = some fd18 := Base.ft18
theorem ft19 : mm.FT 19 = some fd19 := Base.ft19
theorem ft20 : mm.FT 20 = some fd20 := Base.ft20
theorem ft21 : mm.FT 21 = some fd21 := Base.ft21
theorem ft22 : mm.FT 22 = some fd22 := Base.ft22
theorem ft23 : mm.FT 23 = some fd23 := Base.ft23
theorem ft24 : mm.FT 24 = some fd24 := Base.ft24
theorem ft25 : mm.FT 25 = some fd25 := Base.ft25
theorem ft26 : mm.FT 26 = some fd26 := Base.ft26
theorem ft27 : mm.FT 27 = some fd27 := Base.ft27
theorem ft28 : mm.FT 28 = some fd28 := Base.ft28
theorem ft29 : mm.FT 29 = some fd29 := Base.ft29
theorem ft30 : mm.FT 30 = some fd30 := Base.ft30
theorem ft31 : mm.FT 31 = some fd31 := Base.ft31
theorem ft32 : mm.FT 32 = some fd32 := Base.ft32
theorem ft33 : mm.FT 33 = some fd33 := Base.ft33
theorem ft34 : mm.FT 34 = some fd34 := Base.ft34
theorem ft35 : mm.FT 35 = some fd35 := Base.ft35
theorem ft36 : mm.FT 36 = some fd36 := Base.ft36
theorem ft37 : mm.FT 37 = some fd37 := Base.ft37
theorem ft38 : mm.FT 38 = some fd38 := Base.ft38
theorem ft39 : mm.FT 39 = some fd39 := Base.ft39
theorem ft40 : mm.FT 40 = some fd40 := Base.ft40
theorem ft41 : mm.FT 41 = some fd41 := Base.ft41
theorem ft42 : mm.FT 42 = some fd42 := Base.ft42
theorem ft43 : mm.FT 43 = some fd43 := Base.ft43
theorem ft44 : mm.FT 44 = some fd44 := Base.ft44
theorem ft45 : mm.FT 45 = some fd45 := Base.ft45
theorem ft46 : mm.FT 46 = some fd46 := Base.ft46
theorem ft47 : mm.FT 47 = some fd47 := Base.ft47
end Go.Proofs.Yteffppdkofdmdaa
namespace Go.Proofs.Yteffppdkofdmdaa
open D
set_option linter.unusedSimpArgs false
set_option linter.unusedVariables false
set_option maxRecDepth 10000

theorem of_Wf {f : Nat} {l : List AV} {s s' : St} {v : AV} (h : Wf mm f l s fun v1 s1 => v1 = v ∧ s1 = s') : mm.L.call f l s = some (v, s') := by
  obtain ⟨v1, s1, h, rfl, rfl⟩ := h; exact h

theorem isNaN_run (a : Int) (s : St) : mm.L.call 31 [.int .u32 a] s = some (.bool false, s) := by
  refine of_Wf (Wf_enter ft31 (sm (by decide)) (by rfl) ?_)
  simp only [fd31, go_sem, Wk_block, Wk_drawnC, reduceCtorEq, Nat.reduceEqDiff, Nat.reduceAdd, Nat.reduceLeDiff, Nat.reduceLT, Nat.reduceMul, Nat.reduceSub, ↓reduceIte, Int.reduceLT, Int.reduceLE, Int.reduceNeg, Int.reduceAdd, Int.reduceEq, Nat.reduceBneDiff, Nat.reduceBEq, Int.reduceToNat, Int.reduceMul, Int.reduceSub, Int.reduceBEq, Int.reduceBNe, Int.cast_ofNat_Int, Int.toNat_natCast_add_one, Nat.add_left_cancel_iff, Nat.left_eq_add, Nat.add_eq_left, Int.toNat_natCast, Nat.add_assoc, Int.ofNat_lt, Int.ofNat_le]

def cmpI (a b : Int) : Int := if a < b then -1 else if b < a then 1 else 0
theorem compare_run (a b : Int) (s : St) : mm.L.call 28 [.int .u32 a, .int .u32 b] s = some (.int .i64 (cmpI a b), s) := by
  refine of_Wf (Wf_enter ft28 (sm (by decide)) (by rfl) ?_)
  simp only [fd28, go_sem, Wk_block, Wk_drawnC, reduceCtorEq, Nat.reduceEqDiff, Nat.reduceAdd, Nat.reduceLeDiff, Nat.reduceLT, Nat.reduceMul, Nat.reduceSub, ↓reduceIte, Int.reduceLT, Int.reduceLE, Int.reduceNeg, Int.reduceAdd, Int.reduceEq, Nat.reduceBneDiff, Nat.reduceBEq, Int.reduceToNat, Int.reduceMul, Int.reduceSub, Int.reduceBEq, Int.reduceBNe, Int.cast_ofNat_Int, Int.toNat_natCast_add_one, Nat.add_left_cancel_iff, Nat.left_eq_add, Nat.add_eq_left, Int.toNat_natCast, Nat.add_assoc, Int.ofNat_lt, Int.ofNat_le, Wl_eq (isNaN_run _ _)]
  refine Wi_split (fun h => ?_) (fun h => ?_)
  · simp only [go_sem, Wk_block, Wk_drawnC, reduceCtorEq, Nat.reduceEqDiff, Nat.reduceAdd, Nat.reduceLeDiff, Nat.reduceLT, Nat.reduceMul, Nat.reduceSub, ↓reduceIte, Int.reduceLT, Int.reduceLE, Int.reduceNeg, Int.reduceAdd, Int.reduceEq, Nat.reduceBneDiff, Nat.reduceBEq, Int.reduceToNat, Int.reduceMul, Int.reduceSub, Int.reduceBEq, Int.reduceBNe, Int.cast_ofNat_Int, Int.toNat_natCast_add_one, Nat.add_left_cancel_iff, Nat.left_eq_add, Nat.add_eq_left, Int.toNat_natCast, Nat.add_assoc, Int.ofNat_lt, Int.ofNat_le, cmpI]
    simp at h; simp [h]
  · simp only [go_sem, Wk_block, Wk_drawnC, reduceCtorEq, Nat.reduceEqDiff, Nat.reduceAdd, Nat.reduceLeDiff, Nat.reduceLT, Nat.reduceMul, Nat.reduceSub, ↓reduceIte, Int.reduceLT, Int.reduceLE, Int.reduceNeg, Int.reduceAdd, Int.reduceEq, Nat.reduceBneDiff, Nat.reduceBEq, Int.reduceToNat, Int.reduceMul, Int.reduceSub, Int.reduceBEq, Int.reduceBNe, Int.cast_ofNat_Int, Int.toNat_natCast_add_one, Nat.add_left_cancel_iff, Nat.left_eq_add, Nat.add_eq_left, Int.toNat_natCast, Nat.add_assoc, Int.ofNat_lt, Int.ofNat_le]
    refine Wi_split (fun h' => ?_) (fun h' => ?_)
    · simp only [go_sem, Wk_block, Wk_drawnC, reduceCtorEq, Nat.reduceEqDiff, Nat.reduceAdd, Nat.reduceLeDiff, Nat.reduceLT, Nat.reduceMul, Nat.reduceSub, ↓reduceIte, Int.reduceLT, Int.reduceLE, Int.reduceNeg, Int.reduceAdd, Int.reduceEq, Nat.reduceBneDiff, Nat.reduceBEq, Int.reduceToNat, Int.reduceMul, Int.reduceSub, Int.reduceBEq, Int.reduceBNe, Int.cast_ofNat_Int, Int.toNat_natCast_add_one, Nat.add_left_cancel_iff, Nat.left_eq_add, Nat.add_eq_left, Int.toNat_natCast, Nat.add_assoc, Int.ofNat_lt, Int.ofNat_le, cmpI]
      simp at h h'; simp; omega
    · simp only [go_sem, Wk_block, Wk_drawnC, reduceCtorEq, Nat.reduceEqDiff, Nat.reduceAdd, Nat.reduceLeDiff, Nat.reduceLT, Nat.reduceMul, Nat.reduceSub, ↓reduceIte, Int.reduceLT, Int.reduceLE, Int.reduceNeg, Int.reduceAdd, Int.reduceEq, Nat.reduceBneDiff, Nat.reduceBEq, Int.reduceToNat, Int.reduceMul, Int.reduceSub, Int.reduceBEq, Int.reduceBNe, Int.cast_ofNat_Int, Int.toNat_natCast_add_one, Nat.add_left_cancel_iff, Nat.left_eq_add, Nat.add_eq_left, Int.toNat_natCast, Nat.add_assoc, Int.ofNat_lt, Int.ofNat_le, cmpI]
      simp at h h'; simp; omega

def orI (a b : Int) : Int := if a = 0 then b else a
theorem or_run (a b : Int) {s : St} {p : Nat} {lo r : Bool} {z : Nat} (hp : s.get p = some (.cells [.int .i64 a, .int .i64 b] lo r z)) : mm.L.call 27 [.slice p 0 2 2 false] s = some (.int .i64 (orI a b), s) := by
  refine of_Wf (Wf_enter ft27 (sm (by decide)) (by rfl) ?_)
  simp only [fd27, go_sem, Wk_block, Wk_drawnC, reduceCtorEq, Nat.reduceEqDiff, Nat.reduceAdd, Nat.reduceLeDiff, Nat.reduceLT, Nat.reduceMul, Nat.reduceSub, ↓reduceIte, Int.reduceLT, Int.reduceLE, Int.reduceNeg, Int.reduceAdd, Int.reduceEq, Nat.reduceBneDiff, Nat.reduceBEq, Int.reduceToNat, Int.reduceMul, Int.reduceSub, Int.reduceBEq, Int.reduceBNe, Int.cast_ofNat_Int, Int.toNat_natCast_add_one, Nat.add_left_cancel_iff, Nat.left_eq_add, Nat.add_eq_left, Int.toNat_natCast, Nat.add_assoc, Int.ofNat_lt, Int.ofNat_le, Wk_loop, idx1, indexA, hp]
  refine Wi_split (fun h => ?_) (fun h => ?_)
  · simp only [go_sem, Wk_block, Wk_drawnC, reduceCtorEq, Nat.reduceEqDiff, Nat.reduceAdd, Nat.reduceLeDiff, Nat.reduceLT, Nat.reduceMul, Nat.reduceSub, ↓reduceIte, Int.reduceLT, Int.reduceLE, Int.reduceNeg, Int.reduceAdd, Int.reduceEq, Nat.reduceBneDiff, Nat.reduceBEq, Int.reduceToNat, Int.reduceMul, Int.reduceSub, Int.reduceBEq, Int.reduceBNe, Int.cast_ofNat_Int, Int.toNat_natCast_add_one, Nat.add_left_cancel_iff, Nat.left_eq_add, Nat.add_eq_left, Int.toNat_natCast, Nat.add_assoc, Int.ofNat_lt, Int.ofNat_le, orI]
    simp at h; simp [h]
  · simp only [go_sem, Wk_block, Wk_drawnC, reduceCtorEq, Nat.reduceEqDiff, Nat.reduceAdd, Nat.reduceLeDiff, Nat.reduceLT, Nat.reduceMul, Nat.reduceSub, ↓reduceIte, Int.reduceLT, Int.reduceLE, Int.reduceNeg, Int.reduceAdd, Int.reduceEq, Nat.reduceBneDiff, Nat.reduceBEq, Int.reduceToNat, Int.reduceMul, Int.reduceSub, Int.reduceBEq, Int.reduceBNe, Int.cast_ofNat_Int, Int.toNat_natCast_add_one, Nat.add_left_cancel_iff, Nat.left_eq_add, Nat.add_eq_left, Int.toNat_natCast, Nat.add_assoc, Int.ofNat_lt, Int.ofNat_le, Wk_loop, idx1, indexA, hp]
    simp at h; subst h
    rw [show IntKind.i64.wrap 1 = 1 by rfl]
    simp only [go_sem, Wk_block, Wk_drawnC, reduceCtorEq, Nat.reduceEqDiff, Nat.reduceAdd, Nat.reduceLeDiff, Nat.reduceLT, Nat.reduceMul, Nat.reduceSub, ↓reduceIte, Int.reduceLT, Int.reduceLE, Int.reduceNeg, Int.reduceAdd, Int.reduceEq, Nat.reduceBneDiff, Nat.reduceBEq, Int.reduceToNat, Int.reduceMul, Int.reduceSub, Int.reduceBEq, Int.reduceBNe, Int.cast_ofNat_Int, Int.toNat_natCast_add_one, Nat.add_left_cancel_iff, Nat.left_eq_add, Nat.add_eq_left, Int.toNat_natCast, Nat.add_assoc, Int.ofNat_lt, Int.ofNat_le, Wk_loop, idx1, indexA, hp]
    refine Wi_split (fun h => ?_) (fun h => ?_)
    · simp only [go_sem, Wk_block, Wk_drawnC, reduceCtorEq, Nat.reduceEqDiff, Nat.reduceAdd, Nat.reduceLeDiff, Nat.reduceLT, Nat.reduceMul, Nat.reduceSub, ↓reduceIte, Int.reduceLT, Int.reduceLE, Int.reduceNeg, Int.reduceAdd, Int.reduceEq, Nat.reduceBneDiff, Nat.reduceBEq, Int.reduceToNat, Int.reduceMul, Int.reduceSub, Int.reduceBEq, Int.reduceBNe, Int.cast_ofNat_Int, Int.toNat_natCast_add_one, Nat.add_left_cancel_iff, Nat.left_eq_add, Nat.add_eq_left, Int.toNat_natCast, Nat.add_assoc, Int.ofNat_lt, Int.ofNat_le, orI]
    · simp only [go_sem, Wk_block, Wk_drawnC, reduceCtorEq, Nat.reduceEqDiff, Nat.reduceAdd, Nat.reduceLeDiff, Nat.reduceLT, Nat.reduceMul, Nat.reduceSub, ↓reduceIte, Int.reduceLT, Int.reduceLE, Int.reduceNeg, Int.reduceAdd, Int.reduceEq, Nat.reduceBneDiff, Nat.reduceBEq, Int.reduceToNat, Int.reduceMul, Int.reduceSub, Int.reduceBEq, Int.reduceBNe, Int.cast_ofNat_Int, Int.toNat_natCast_add_one, Nat.add_left_cancel_iff, Nat.left_eq_add, Nat.add_eq_left, Int.toNat_natCast, Nat.add_assoc, Int.ofNat_lt, Int.ofNat_le, Wk_loop, idx1, indexA, hp]
      rw [show IntKind.i64.wrap 2 = 2 by rfl]
      simp at h; subst h
      simp only [go_sem, Wk_block, Wk_drawnC, reduceCtorEq, Nat.reduceEqDiff, Nat.reduceAdd, Nat.reduceLeDiff, Nat.reduceLT, Nat.reduceMul, Nat.reduceSub, ↓reduceIte, Int.reduceLT, Int.reduceLE, Int.reduceNeg, Int.reduceAdd, Int.reduceEq, Nat.reduceBneDiff, Nat.reduceBEq, Int.reduceToNat, Int.reduceMul, Int.reduceSub, Int.reduceBEq, Int.reduceBNe, Int.cast_ofNat_Int, Int.toNat_natCast_add_one, Nat.add_left_cancel_iff, Nat.left_eq_add, Nat.add_eq_left, Int.toNat_natCast, Nat.add_assoc, Int.ofNat_lt, Int.ofNat_le, Wk_loop, idx1, indexA, hp, orI]

/-- A label. -/
@[ext] structure Lb where
  e : Int
  q : Int
  deriving DecidableEq
def Lb.enc (l : Lb) : List AV := [.int .u32 l.e, .int .u32 l.q]
def Lb.lt (a b : Lb) : Prop := a.e < b.e ∨ a.e = b.e ∧ a.q < b.q
instance (a b : Lb) : Decidable (a.lt b) := by unfold Lb.lt; infer_instance
def Lb.cmp (a b : Lb) : Int := if a.lt b then -1 else if b.lt a then 1 else 0

theorem cmp_or (a b : Lb) : orI (cmpI a.e b.e) (cmpI a.q b.q) = a.cmp b := by
  unfold orI cmpI Lb.cmp Lb.lt
  repeat' split
  all_goals omega

theorem Compare_run (a b : Lb) (s : St) : Wf mm 18 [.agg [.int .u32 a.e, .int .u32 a.q], .agg [.int .u32 b.e, .int .u32 b.q]] s fun v s' => v = .int .i64 (a.cmp b) ∧ Fr s s' := by
  refine Wf_enter ft18 (sm (by decide)) (by rfl) ?_
  simp only [fd18, go_sem, Wk_block, Wk_drawnC, reduceCtorEq, Nat.reduceEqDiff, Nat.reduceAdd, Nat.reduceLeDiff, Nat.reduceLT, Nat.reduceMul, Nat.reduceSub, ↓reduceIte, Int.reduceLT, Int.reduceLE, Int.reduceNeg, Int.reduceAdd, Int.reduceEq, Nat.reduceBneDiff, Nat.reduceBEq, Int.reduceToNat, Int.reduceMul, Int.reduceSub, Int.reduceBEq, Int.reduceBNe, Int.cast_ofNat_Int, Int.toNat_natCast_add_one, Nat.add_left_cancel_iff, Nat.left_eq_add, Nat.add_eq_left, Int.toNat_natCast, Nat.add_assoc, Int.ofNat_lt, Int.ofNat_le, Wl_eq (compare_run _ _ _)]
  rw [Wl_eq (or_run (cmpI a.e b.e) (cmpI a.q b.q) (by simp only [go_sem, Wk_block, Wk_drawnC, reduceCtorEq, Nat.reduceEqDiff, Nat.reduceAdd, Nat.reduceLeDiff, Nat.reduceLT, Nat.reduceMul, Nat.reduceSub, ↓reduceIte, Int.reduceLT, Int.reduceLE, Int.reduceNeg, Int.reduceAdd, Int.reduceEq, Nat.reduceBneDiff, Nat.reduceBEq, Int.reduceToNat, Int.reduceMul, Int.reduceSub, Int.reduceBEq, Int.reduceBNe, Int.cast_ofNat_Int, Int.toNat_natCast_add_one, Nat.add_left_cancel_iff, Nat.left_eq_add, Nat.add_eq_left, Int.toNat_natCast, Nat.add_assoc, Int.ofNat_lt, Int.ofNat_le]; rfl))]
  simp only [go_sem, Wk_block, Wk_drawnC, reduceCtorEq, Nat.reduceEqDiff, Nat.reduceAdd, Nat.reduceLeDiff, Nat.reduceLT, Nat.reduceMul, Nat.reduceSub, ↓reduceIte, Int.reduceLT, Int.reduceLE, Int.reduceNeg, Int.reduceAdd, Int.reduceEq, Nat.reduceBneDiff, Nat.reduceBEq, Int.reduceToNat, Int.reduceMul, Int.reduceSub, Int.reduceBEq, Int.reduceBNe, Int.cast_ofNat_Int, Int.toNat_natCast_add_one, Nat.add_left_cancel_iff, Nat.left_eq_add, Nat.add_eq_left, Int.toNat_natCast, Nat.add_assoc, Int.ofNat_lt, Int.ofNat_le, cmp_or]
  exact (((Fr.refl s).new _).new _).new _

theorem cmp_le {a b : Lb} : (a.cmp b ≤ 0) ↔ ¬ b.lt a := by
  unfold Lb.cmp Lb.lt
  repeat' split
  all_goals omega
theorem cmp_ge {a b : Lb} : (0 ≤ a.cmp b) ↔ ¬ a.lt b := by
  unfold Lb.cmp Lb.lt
  repeat' split
  all_goals omega
theorem cmp_lt0 {a b : Lb} : (a.cmp b < 0) ↔ a.lt b := by
  unfold Lb.cmp Lb.lt
  repeat' split
  all_goals omega
end Go.Proofs.Yteffppdkofdmdaa
namespace Go.Proofs.Yteffppdkofdmdaa
open D
set_option linter.unusedSimpArgs false
set_option linter.unusedVariables false
set_option maxRecDepth 10000

abbrev Lies (s : St) (b : Nat) (l : List AV) : Prop := s.get b = some (.cells l false false 0)

/-- What a node shows. -/
@[ext] structure Vw where
  up : Bool
  prim : Bool
  epoch : Int
  ex : Lb
  nw : Lb
def Vw.enc (v : Vw) : List AV := [.bool v.up, .bool v.prim, .int .u32 v.epoch, .int .u32 v.ex.e, .int .u32 v.ex.q, .int .u32 v.nw.e, .int .u32 v.nw.q]
def Vw.zero : Vw := ⟨false, false, 0, ⟨0, 0⟩, ⟨0, 0⟩⟩
/-- A moment. -/
structure Mo where
  cells : List AV
  kind : Int
  node : Int
  err : Int
  v0 : Vw
  v1 : Vw
structure MoOk (m : Mo) : Prop where
  len : m.cells.length = 58
  cell : allCell m.cells = true
  k : m.cells[0]? = some (.int .i64 m.kind)
  n : m.cells[1]? = some (.int .i64 m.node)
  e : m.cells[25]? = some (.int .i64 m.err)
  v : (m.cells.drop 44).take 14 = m.v0.enc ++ m.v1.enc
  p0 : 0 ≤ m.v0.ex.e ∧ 0 ≤ m.v0.ex.q ∧ 0 ≤ m.v0.epoch
  p1 : 0 ≤ m.v1.ex.e ∧ 0 ≤ m.v1.ex.q ∧ 0 ≤ m.v1.epoch

def tyB16 : Ty := .many [(.int .u8), (.int .u8), (.int .u8), (.int .u8), (.int .u8), (.int .u8), (.int .u8), (.int .u8), (.int .u8), (.int .u8), (.int .u8), (.int .u8), (.int .u8), (.int .u8), (.int .u8), (.int .u8)]
def tyLb : Ty := .many [.int .u32, .int .u32]
def tyOp : Ty := .many [.int .i64, .int .i64, .int .i64, .slice (.int .i64), tyB16, tyLb, .int .i64, .int .u8, .slice (.int .u8)]
def tyRes : Ty := .many [.int .i64, tyB16, tyLb]
def tyVw : Ty := .many [.bool, .bool, .int .u32, tyLb, tyLb]
def tyMo : Ty := .many [tyOp, tyRes, .many [tyVw, tyVw]]

theorem ok_lb {s : St} {x : List AV} (h : Ok s tyLb x) : ∃ a : Lb, x = [.int .u32 a.e, .int .u32 a.q] ∧ 0 ≤ a.e ∧ 0 ≤ a.q := by
  obtain ⟨_, _, rfl, ⟨e, rfl, he, _⟩, ⟨_, _, rfl, ⟨q, rfl, hq, _⟩, rfl⟩⟩ := h
  exact ⟨⟨e, q⟩, rfl, he, hq⟩
theorem ok_vw {s : St} {x : List AV} (h : Ok s tyVw x) : ∃ v : Vw, x = v.enc ∧ 0 ≤ v.ex.e ∧ 0 ≤ v.ex.q ∧ 0 ≤ v.epoch := by
  obtain ⟨_, _, rfl, ⟨u, rfl⟩, _, _, rfl, ⟨p, rfl⟩, _, _, rfl, ⟨e, rfl, he, _⟩, _, _, rfl, hx, _, _, rfl, hn, rfl⟩ := h
  obtain ⟨a, rfl, h1, h2⟩ := ok_lb hx
  obtain ⟨b, rfl, _⟩ := ok_lb hn
  exact ⟨⟨u, p, e, a, b⟩, rfl, h1, h2, he⟩

theorem ok_mo {s : St} {x : List AV} (h : Ok s tyMo x) : ∃ m : Mo, x = m.cells ∧ MoOk m := by
  have hl := ok_length h
  have hc := ok_cell h
  obtain ⟨o, _, rfl, ho, r, _, rfl, hr, vs, _, rfl, hv, rfl⟩ := h
  have lo := ok_length ho
  have lr := ok_length hr
  obtain ⟨a, _, rfl, ha, b, _, rfl, hb, rfl⟩ := hv
  obtain ⟨v0, rfl, p0⟩ := ok_vw ha
  obtain ⟨v1, rfl, p1⟩ := ok_vw hb
  obtain ⟨_, o', rfl, ⟨k, rfl, _⟩, _, o2, rfl, ⟨n, rfl, _⟩, _⟩ := ho
  obtain ⟨_, r', rfl, ⟨e, rfl, _⟩, _⟩ := hr
  refine ⟨⟨_, k, n, e, v0, v1⟩, rfl, hl, hc, rfl, rfl, ?_, ?_, p0, p1⟩
  · have : ([AV.int .i64 k] ++ ([AV.int .i64 n] ++ o2)).length = 25 := lo
    dsimp only
    rw [List.getElem?_append_right (by omega), this]
    rfl
  · have h1 : ([AV.int .i64 k] ++ ([AV.int .i64 n] ++ o2)).length = 25 := lo
    have h2 : ([AV.int .i64 e] ++ r').length = 19 := lr
    dsimp only
    rw [← List.append_assoc, List.drop_left' (by rw [List.length_append]; omega)]
    rfl

theorem mos_of {s : St} {v : AV} (h : ArgOk s (.slice tyMo) v) : ∃ (l : List Mo) (b o : Nat), Acc s v 58 (l.map Mo.cells) b o ∧ ∀ a ∈ l, MoOk a := by
  obtain ⟨xs, b, o, hA, hx⟩ := acc_of_ok h
  obtain ⟨hs, rfl, hq⟩ := list_read (f := Mo.cells) (Q := MoOk) fun x hm => ok_mo (hx x hm)
  exact ⟨hs, b, o, hA, hq⟩

/-- What both nodes showed last. -/
def lastV (l : List Mo) : Vw × Vw := l.foldl (fun a m => (if m.v0.up then m.v0 else a.1, if m.v1.up then m.v1 else a.2)) (.zero, .zero)
end Go.Proofs.Yteffppdkofdmdaa
namespace Go.Proofs.Yteffppdkofdmdaa
open D
set_option linter.unusedSimpArgs false
set_option linter.unusedVariables false
set_option maxRecDepth 10000

def enc2 (a : Vw × Vw) : List AV := a.1.enc ++ a.2.enc
theorem lastV_take {l : List Mo} {j : Nat} (hj : j < l.length) : lastV (l.take (j + 1)) = (if l[j].v0.up then l[j].v0 else (lastV (l.take j)).1, if l[j].v1.up then l[j].v1 else (lastV (l.take j)).2) := by
  rw [List.take_succ_eq_append_getElem hj]
  simp only [lastV, List.foldl_append, List.foldl_cons, List.foldl_nil]

/-- A state is as another one, up to a number. -/
structure Upto (N : Nat) (s s' : St) : Prop where
  le : s.next ≤ s'.next
  get : ∀ b, b < N → s'.get b = s.get b
theorem Upto.refl (N : Nat) (s : St) : Upto N s s := ⟨Nat.le_refl _, fun _ _ => rfl⟩
theorem Upto.new {N : Nat} {a b : St} (h : Upto N a b) (hN : N ≤ a.next) (o : AObj) : Upto N a (b.new o) := ⟨Nat.le_succ_of_le h.le, fun x hx => by rw [St.get_new, if_neg (by have := h.le; omega)]; exact h.get x hx⟩
theorem Upto.put {N : Nat} {a b : St} (h : Upto N a b) {x : Nat} (hx : N ≤ x) (o : AObj) : Upto N a (b.put x o) := ⟨h.le, fun y hy => by rw [St.get_put, if_neg (by omega)]; exact h.get y hy⟩
theorem Upto.trans {N : Nat} {a b c : St} (h : Upto N a b) (k : Upto N b c) : Upto N a c := ⟨Nat.le_trans h.le k.le, fun x hx => (k.get x hx).trans (h.get x hx)⟩

theorem gen_run (ms : List Mo) (hm : ∀ m ∈ ms, MoOk m) {v : AV} {ba oa r p : Nat} {lo rr : Bool} {z : Nat} {s : St} (hA : Acc s v 58 (ms.map Mo.cells) ba oa) (hp : s.get p = some (.cells [v] lo rr z)) (hpl : p < s.next)
    (Inv : Nat → St → Prop) (Don : St → Prop) (hst : ∀ j s1 s2, Inv j s1 → Upto s.next s1 s2 → Inv j s2)
    (hI : ∀ j s1, Inv j s1 → Acc s1 v 58 (ms.map Mo.cells) ba oa)
    (hrd : ∀ j (hj : j < ms.length) s1, s.next ≤ s1.next → Inv j s1 → Round mm r [.agg ms[j].cells, .agg (enc2 (lastV (ms.take j)))] s1 fun b s2 => s1.next ≤ s2.next ∧ (∀ c, s.next ≤ c → c < s1.next → s2.get c = s1.get c) ∧ (b = true → Inv (j + 1) s2) ∧ (b = false → Don s2))
    (h0 : Inv 0 s) : Wf mm 26 [.yld r, .ptr p 0] s fun _ s' => s.next ≤ s'.next ∧ (Inv ms.length s' ∨ Don s') := by
  refine Wf_enter ft26 (sm (by decide)) (by rfl) ?_
  obtain ⟨L, hL⟩ : ∃ L, s.next = L := ⟨_, rfl⟩
  simp -implicitDefEqProofs only [go_sem, Wk_block, Wk_drawnC, reduceCtorEq, Nat.reduceEqDiff, Nat.reduceAdd, Nat.reduceLeDiff, Nat.reduceLT, Nat.reduceMul, Nat.reduceSub, ↓reduceIte, Int.reduceLT, Int.reduceLE, Int.reduceNeg, Int.reduceAdd, Int.reduceEq, Nat.reduceBneDiff, Nat.reduceBEq, Int.reduceToNat, Int.reduceMul, Int.reduceSub, Int.reduceBEq, Int.reduceBNe, Int.cast_ofNat_Int, Int.toNat_natCast_add_one, Nat.add_left_cancel_iff, Nat.left_eq_add, Nat.add_eq_left, Int.toNat_natCast, Nat.add_assoc, Int.ofNat_lt, Int.ofNat_le, Nat.lt_add_one_of_lt, Nat.lt_add_one, Nat.lt_add_right, Nat.lt_add_right_iff_pos, Nat.add_lt_add_iff_left, fd26, hp, hpl, eq_next_f hpl, hA.len]
  have hmax := hA.max
  rw [List.length_map] at hmax
  have hi0 : Inv 0 (s.new (.cells (enc2 (.zero, .zero)) false false 0)) := hst 0 s _ h0 ⟨Nat.le_succ _, fun b hb => by rw [St.get_new, if_neg (by omega)]⟩
  have hl0 : Lies (s.new (.cells (enc2 (.zero, .zero)) false false 0)) L (enc2 (.zero, .zero)) := by rw [← hL]; simp only [Lies, St.get_new, if_true]
  rw [hL]
  refine loop_ind (fun m ts s' => ∃ j : Nat, m = ms.length - j ∧ j ≤ ms.length ∧ ts.get 10 = some (.int .i64 j) ∧ ts.get 9 = some (.int .i64 ms.length) ∧ ts.get 8 = some v ∧ ts.get 0 = some (.yld r) ∧ ts.get 3 = some (.ptr L 0) ∧
    Inv j s' ∧ Lies s' L (enc2 (lastV (ms.take j))) ∧ L < s'.next) ?_ (n := ms.length)
    ⟨0, by omega, by omega, by simp only [go_sem, Wk_block, Wk_drawnC, reduceCtorEq, Nat.reduceEqDiff, Nat.reduceAdd, Nat.reduceLeDiff, Nat.reduceLT, Nat.reduceMul, Nat.reduceSub, ↓reduceIte, Int.reduceLT, Int.reduceLE, Int.reduceNeg, Int.reduceAdd, Int.reduceEq, Nat.reduceBneDiff, Nat.reduceBEq, Int.reduceToNat, Int.reduceMul, Int.reduceSub, Int.reduceBEq, Int.reduceBNe, Int.cast_ofNat_Int, Int.toNat_natCast_add_one, Nat.add_left_cancel_iff, Nat.left_eq_add, Nat.add_eq_left, Int.toNat_natCast, Nat.add_assoc, Int.ofNat_lt, Int.ofNat_le], by simp only [go_sem, Wk_block, Wk_drawnC, reduceCtorEq, Nat.reduceEqDiff, Nat.reduceAdd, Nat.reduceLeDiff, Nat.reduceLT, Nat.reduceMul, Nat.reduceSub, ↓reduceIte, Int.reduceLT, Int.reduceLE, Int.reduceNeg, Int.reduceAdd, Int.reduceEq, Nat.reduceBneDiff, Nat.reduceBEq, Int.reduceToNat, Int.reduceMul, Int.reduceSub, Int.reduceBEq, Int.reduceBNe, Int.cast_ofNat_Int, Int.toNat_natCast_add_one, Nat.add_left_cancel_iff, Nat.left_eq_add, Nat.add_eq_left, Int.toNat_natCast, Nat.add_assoc, Int.ofNat_lt, Int.ofNat_le, List.length_map], by simp only [go_sem, Wk_block, Wk_drawnC, reduceCtorEq, Nat.reduceEqDiff, Nat.reduceAdd, Nat.reduceLeDiff, Nat.reduceLT, Nat.reduceMul, Nat.reduceSub, ↓reduceIte, Int.reduceLT, Int.reduceLE, Int.reduceNeg, Int.reduceAdd, Int.reduceEq, Nat.reduceBneDiff, Nat.reduceBEq, Int.reduceToNat, Int.reduceMul, Int.reduceSub, Int.reduceBEq, Int.reduceBNe, Int.cast_ofNat_Int, Int.toNat_natCast_add_one, Nat.add_left_cancel_iff, Nat.left_eq_add, Nat.add_eq_left, Int.toNat_natCast, Nat.add_assoc, Int.ofNat_lt, Int.ofNat_le], by simp only [go_sem, Wk_block, Wk_drawnC, reduceCtorEq, Nat.reduceEqDiff, Nat.reduceAdd, Nat.reduceLeDiff, Nat.reduceLT, Nat.reduceMul, Nat.reduceSub, ↓reduceIte, Int.reduceLT, Int.reduceLE, Int.reduceNeg, Int.reduceAdd, Int.reduceEq, Nat.reduceBneDiff, Nat.reduceBEq, Int.reduceToNat, Int.reduceMul, Int.reduceSub, Int.reduceBEq, Int.reduceBNe, Int.cast_ofNat_Int, Int.toNat_natCast_add_one, Nat.add_left_cancel_iff, Nat.left_eq_add, Nat.add_eq_left, Int.toNat_natCast, Nat.add_assoc, Int.ofNat_lt, Int.ofNat_le], by simp only [go_sem, Wk_block, Wk_drawnC, reduceCtorEq, Nat.reduceEqDiff, Nat.reduceAdd, Nat.reduceLeDiff, Nat.reduceLT, Nat.reduceMul, Nat.reduceSub, ↓reduceIte, Int.reduceLT, Int.reduceLE, Int.reduceNeg, Int.reduceAdd, Int.reduceEq, Nat.reduceBneDiff, Nat.reduceBEq, Int.reduceToNat, Int.reduceMul, Int.reduceSub, Int.reduceBEq, Int.reduceBNe, Int.cast_ofNat_Int, Int.toNat_natCast_add_one, Nat.add_left_cancel_iff, Nat.left_eq_add, Nat.add_eq_left, Int.toNat_natCast, Nat.add_assoc, Int.ofNat_lt, Int.ofNat_le], hi0, hl0, by rw [← hL]; exact Nat.lt_succ_self _⟩
  clear hi0 hl0 h0 hA hp
  rintro m ts s1 ⟨j, rfl, hj, g10, g9, g8, g0, g3, hi, hl, hn⟩ IH
  by_cases hlt : j < ms.length
  · have hjl : j < (ms.map Mo.cells).length := by rw [List.length_map]; exact hlt
    have hA1 := hI j s1 hi
    obtain ⟨vs, hv, hle, he⟩ := hA1.at_ j hjl
    have hok := hm ms[j] (List.getElem_mem hlt)
    rw [List.getElem_map] at he
    have hrd := hrd j hlt
    have hlv := lastV_take hlt
    generalize hx : ms[j] = x at he hok hrd hlv
    generalize hla : lastV (ms.take j) = la at *
    have hn2 : j < 9223372036854775807 := by unfold maxLen at hmax; omega
    have hl' := hl
    unfold Lies enc2 Vw.enc at hl'
    have hlen := hok.len
    have hcell := hok.cell
    simp -implicitDefEqProofs only [go_sem, Wk_block, Wk_drawnC, reduceCtorEq, Nat.reduceEqDiff, Nat.reduceAdd, Nat.reduceLeDiff, Nat.reduceLT, Nat.reduceMul, Nat.reduceSub, ↓reduceIte, Int.reduceLT, Int.reduceLE, Int.reduceNeg, Int.reduceAdd, Int.reduceEq, Nat.reduceBneDiff, Nat.reduceBEq, Int.reduceToNat, Int.reduceMul, Int.reduceSub, Int.reduceBEq, Int.reduceBNe, Int.cast_ofNat_Int, Int.toNat_natCast_add_one, Nat.add_left_cancel_iff, Nat.left_eq_add, Nat.add_eq_left, Int.toNat_natCast, Nat.add_assoc, Int.ofNat_lt, Int.ofNat_le, Nat.lt_add_one_of_lt, Nat.lt_add_one, Nat.lt_add_right, Nat.lt_add_right_iff_pos, Nat.add_lt_add_iff_left, g10, g9, g8, g0, g3, hlt, hA1.idx _ _ hjl, hv, hle, he, hlen, hcell, hl', hn, eq_next_f hn, eq_next_f' hn]
    have ht : x.cells.take 58 = x.cells := List.take_of_length_le (by omega)
    rw [ht]
    have hi2 : Inv j (s1.new (.cells x.cells false false 0)) := hst j s1 _ hi ⟨Nat.le_succ _, fun b hb => by rw [St.get_new, if_neg (by omega)]⟩
    obtain ⟨e, he1⟩ : ∃ e, s1.next = e := ⟨_, rfl⟩
    refine Wc_yld ((hrd _ (by simp only [St.next_new]; omega) hi2).mono ?_)
    rintro b s3 ⟨h1, h2, h3, h4⟩
    simp only [St.next_new] at h1 h2
    have hL3 : s3.get L = _ := (h2 L (by omega) (by omega)).trans ((St.get_new _ _ _).trans ((if_neg (by omega)).trans hl'))
    have he3 : s3.get e = some (.cells x.cells false false 0) := (h2 e (by omega) (by omega)).trans (by rw [← he1]; simp only [St.get_new, if_true])
    cases b with
    | false =>
      simp only [go_sem, Wk_block, Wk_drawnC, reduceCtorEq, Nat.reduceEqDiff, Nat.reduceAdd, Nat.reduceLeDiff, Nat.reduceLT, Nat.reduceMul, Nat.reduceSub, ↓reduceIte, Int.reduceLT, Int.reduceLE, Int.reduceNeg, Int.reduceAdd, Int.reduceEq, Nat.reduceBneDiff, Nat.reduceBEq, Int.reduceToNat, Int.reduceMul, Int.reduceSub, Int.reduceBEq, Int.reduceBNe, Int.cast_ofNat_Int, Int.toNat_natCast_add_one, Nat.add_left_cancel_iff, Nat.left_eq_add, Nat.add_eq_left, Int.toNat_natCast, Nat.add_assoc, Int.ofNat_lt, Int.ofNat_le]
      exact ⟨by omega, .inr (h4 rfl)⟩
    | true =>
      have hi3 := h3 rfl
      have hn3 : L < s3.next := by omega
      have hne : ¬ e = L := by omega
      clear h2 h3 h4 hi hi2 hl hl' hv hle he hrd
      rw [he1]
      have hv := hok.v
      unfold Vw.enc at hv
      have hlen' : 44 + 14 ≤ x.cells.length := by omega
      have hlen2 : 58 ≤ x.cells.length := by omega
      have w1 : IntKind.i64.wrap 1 = 1 := rfl
      have w2 : IntKind.i64.wrap 2 = 2 := rfl
      have hnL : L ≠ s3.next := by omega
      cases hu0 : x.v0.up <;> cases hu1 : x.v1.up
      all_goals
        rw [hu0, hu1] at hlv
        simp only [if_true, if_false, Bool.false_eq_true] at hlv
        simp -implicitDefEqProofs only [go_sem, Wk_block, Wk_drawnC, reduceCtorEq, Nat.reduceEqDiff, Nat.reduceAdd, Nat.reduceLeDiff, Nat.reduceLT, Nat.reduceMul, Nat.reduceSub, ↓reduceIte, Int.reduceLT, Int.reduceLE, Int.reduceNeg, Int.reduceAdd, Int.reduceEq, Nat.reduceBneDiff, Nat.reduceBEq, Int.reduceToNat, Int.reduceMul, Int.reduceSub, Int.reduceBEq, Int.reduceBNe, Int.cast_ofNat_Int, Int.toNat_natCast_add_one, Nat.add_left_cancel_iff, Nat.left_eq_add, Nat.add_eq_left, Int.toNat_natCast, Nat.add_assoc, Int.ofNat_lt, Int.ofNat_le, Nat.lt_add_one_of_lt, Nat.lt_add_one, Nat.lt_add_right, Nat.lt_add_right_iff_pos, Nat.add_lt_add_iff_left, he3, hv, hlen', hlen2, hu0, hu1]
        rw [Wk_loop]
        simp -implicitDefEqProofs only [go_sem, Wk_block, Wk_drawnC, reduceCtorEq, Nat.reduceEqDiff, Nat.reduceAdd, Nat.reduceLeDiff, Nat.reduceLT, Nat.reduceMul, Nat.reduceSub, ↓reduceIte, Int.reduceLT, Int.reduceLE, Int.reduceNeg, Int.reduceAdd, Int.reduceEq, Nat.reduceBneDiff, Nat.reduceBEq, Int.reduceToNat, Int.reduceMul, Int.reduceSub, Int.reduceBEq, Int.reduceBNe, Int.cast_ofNat_Int, Int.toNat_natCast_add_one, Nat.add_left_cancel_iff, Nat.left_eq_add, Nat.add_eq_left, Int.toNat_natCast, Nat.add_assoc, Int.ofNat_lt, Int.ofNat_le, Nat.lt_add_one_of_lt, Nat.lt_add_one, Nat.lt_add_right, Nat.lt_add_right_iff_pos, Nat.add_lt_add_iff_left, he3, hv, hlen', hlen2, hu0, hu1, hL3, hn3, g3, w1, eq_next_f hn3, eq_next_f' hn3]
        rw [Wk_loop]
        simp -implicitDefEqProofs only [go_sem, Wk_block, Wk_drawnC, reduceCtorEq, Nat.reduceEqDiff, Nat.reduceAdd, Nat.reduceLeDiff, Nat.reduceLT, Nat.reduceMul, Nat.reduceSub, ↓reduceIte, Int.reduceLT, Int.reduceLE, Int.reduceNeg, Int.reduceAdd, Int.reduceEq, Nat.reduceBneDiff, Nat.reduceBEq, Int.reduceToNat, Int.reduceMul, Int.reduceSub, Int.reduceBEq, Int.reduceBNe, Int.cast_ofNat_Int, Int.toNat_natCast_add_one, Nat.add_left_cancel_iff, Nat.left_eq_add, Nat.add_eq_left, Int.toNat_natCast, Nat.add_assoc, Int.ofNat_lt, Int.ofNat_le, Nat.lt_add_one_of_lt, Nat.lt_add_one, Nat.lt_add_right, Nat.lt_add_right_iff_pos, Nat.add_lt_add_iff_left, he3, hv, hlen', hlen2, hu0, hu1, hL3, hn3, g3, w1, w2, eq_next_f hn3, eq_next_f' hn3, eq_next_k hn3, eq_next_k' hn3]
        rw [Wk_loop]
        simp -implicitDefEqProofs only [go_sem, Wk_block, Wk_drawnC, reduceCtorEq, Nat.reduceEqDiff, Nat.reduceAdd, Nat.reduceLeDiff, Nat.reduceLT, Nat.reduceMul, Nat.reduceSub, ↓reduceIte, Int.reduceLT, Int.reduceLE, Int.reduceNeg, Int.reduceAdd, Int.reduceEq, Nat.reduceBneDiff, Nat.reduceBEq, Int.reduceToNat, Int.reduceMul, Int.reduceSub, Int.reduceBEq, Int.reduceBNe, Int.cast_ofNat_Int, Int.toNat_natCast_add_one, Nat.add_left_cancel_iff, Nat.left_eq_add, Nat.add_eq_left, Int.toNat_natCast, Nat.add_assoc, Int.ofNat_lt, Int.ofNat_le, Nat.lt_add_one_of_lt, Nat.lt_add_one, Nat.lt_add_right, Nat.lt_add_right_iff_pos, Nat.add_lt_add_iff_left, he3, hv, hlen', hlen2, hu0, hu1, hL3, hn3, g3, g10, w2, succ_in hn2]
        refine IH (ms.length - (j + 1)) _ _ (by omega) ⟨j + 1, rfl, by omega, ?_, ?_, ?_, ?_, ?_, hst _ s3 _ hi3 ?_, ?_, ?_⟩
        all_goals try simp only [go_sem, Wk_block, Wk_drawnC, reduceCtorEq, Nat.reduceEqDiff, Nat.reduceAdd, Nat.reduceLeDiff, Nat.reduceLT, Nat.reduceMul, Nat.reduceSub, ↓reduceIte, Int.reduceLT, Int.reduceLE, Int.reduceNeg, Int.reduceAdd, Int.reduceEq, Nat.reduceBneDiff, Nat.reduceBEq, Int.reduceToNat, Int.reduceMul, Int.reduceSub, Int.reduceBEq, Int.reduceBNe, Int.cast_ofNat_Int, Int.toNat_natCast_add_one, Nat.add_left_cancel_iff, Nat.left_eq_add, Nat.add_eq_left, Int.toNat_natCast, Nat.add_assoc, Int.ofNat_lt, Int.ofNat_le, g10, g9, g8, g0, g3]
        · (repeat (first | exact Upto.refl _ _ | refine Upto.put ?_ (by omega) _ | refine Upto.new ?_ (by omega) _))
        · rw [hlv]
          simp -implicitDefEqProofs only [go_sem, Wk_block, Wk_drawnC, reduceCtorEq, Nat.reduceEqDiff, Nat.reduceAdd, Nat.reduceLeDiff, Nat.reduceLT, Nat.reduceMul, Nat.reduceSub, ↓reduceIte, Int.reduceLT, Int.reduceLE, Int.reduceNeg, Int.reduceAdd, Int.reduceEq, Nat.reduceBneDiff, Nat.reduceBEq, Int.reduceToNat, Int.reduceMul, Int.reduceSub, Int.reduceBEq, Int.reduceBNe, Int.cast_ofNat_Int, Int.toNat_natCast_add_one, Nat.add_left_cancel_iff, Nat.left_eq_add, Nat.add_eq_left, Int.toNat_natCast, Nat.add_assoc, Int.ofNat_lt, Int.ofNat_le, Nat.lt_add_one_of_lt, Nat.lt_add_one, Nat.lt_add_right, Nat.lt_add_right_iff_pos, Nat.add_lt_add_iff_left, Lies, hL3, hn3, eq_next_f hn3, eq_next_f' hn3, eq_next_k hn3, eq_next_k' hn3, enc2, Vw.enc, hu0, hu1]
        · omega
  · simp -implicitDefEqProofs only [go_sem, Wk_block, Wk_drawnC, reduceCtorEq, Nat.reduceEqDiff, Nat.reduceAdd, Nat.reduceLeDiff, Nat.reduceLT, Nat.reduceMul, Nat.reduceSub, ↓reduceIte, Int.reduceLT, Int.reduceLE, Int.reduceNeg, Int.reduceAdd, Int.reduceEq, Nat.reduceBneDiff, Nat.reduceBEq, Int.reduceToNat, Int.reduceMul, Int.reduceSub, Int.reduceBEq, Int.reduceBNe, Int.cast_ofNat_Int, Int.toNat_natCast_add_one, Nat.add_left_cancel_iff, Nat.left_eq_add, Nat.add_eq_left, Int.toNat_natCast, Nat.add_assoc, Int.ofNat_lt, Int.ofNat_le, Nat.lt_add_one_of_lt, Nat.lt_add_one, Nat.lt_add_right, Nat.lt_add_right_iff_pos, Nat.add_lt_add_iff_left, g10, g9, g8, g0, g3, hlt]
    have : j = ms.length := by omega
    subst this
    exact ⟨by omega, .inl hi⟩
end Go.Proofs.Yteffppdkofdmdaa
namespace Go.Proofs.Yteffppdkofdmdaa
open D
set_option linter.unusedSimpArgs false
set_option linter.unusedVariables false
set_option maxRecDepth 10000

theorem steps_run (v : AV) (s : St) (hc : v.cells = [v]) : mm.L.call 17 [v] s = some (.fn (.func 26) [] [.ptr s.next 0], s.new (.cells [v] false false 0)) := by
  refine of_Wf (Wf_enter ft17 (sm (by decide)) (by rfl) ?_)
  simp only [fd17, go_sem, Wk_block, Wk_drawnC, reduceCtorEq, Nat.reduceEqDiff, Nat.reduceAdd, Nat.reduceLeDiff, Nat.reduceLT, Nat.reduceMul, Nat.reduceSub, ↓reduceIte, Int.reduceLT, Int.reduceLE, Int.reduceNeg, Int.reduceAdd, Int.reduceEq, Nat.reduceBneDiff, Nat.reduceBEq, Int.reduceToNat, Int.reduceMul, Int.reduceSub, Int.reduceBEq, Int.reduceBNe, Int.cast_ofNat_Int, Int.toNat_natCast_add_one, Nat.add_left_cancel_iff, Nat.left_eq_add, Nat.add_eq_left, Int.toNat_natCast, Nat.add_assoc, Int.ofNat_lt, Int.ofNat_le, hc]

def okR (la : Vw × Vw) (m : Mo) : Bool := !(m.v0.up && decide (m.v0.ex.lt la.1.ex)) && !(m.v1.up && decide (m.v1.ex.lt la.2.ex))

theorem Rises_run (ms : List Mo) (hm : ∀ m ∈ ms, MoOk m) {v : AV} {ba oa : Nat} {s : St} (hA : Acc s v 58 (ms.map Mo.cells) ba oa) :
    Wf mm 8 [v] s fun w s' => (∃ b : Bool, w = .bool b ∧ (b = true ↔ ∀ j (h : j < ms.length), okR (lastV (ms.take j)) ms[j] = true)) ∧ Fr s s' := by
  refine Wf_enter ft8 (sm (by decide)) (by rfl) ?_
  simp only [fd8, go_sem, Wk_block, Wk_drawnC, reduceCtorEq, Nat.reduceEqDiff, Nat.reduceAdd, Nat.reduceLeDiff, Nat.reduceLT, Nat.reduceMul, Nat.reduceSub, ↓reduceIte, Int.reduceLT, Int.reduceLE, Int.reduceNeg, Int.reduceAdd, Int.reduceEq, Nat.reduceBneDiff, Nat.reduceBEq, Int.reduceToNat, Int.reduceMul, Int.reduceSub, Int.reduceBEq, Int.reduceBNe, Int.cast_ofNat_Int, Int.toNat_natCast_add_one, Nat.add_left_cancel_iff, Nat.left_eq_add, Nat.add_eq_left, Int.toNat_natCast, Nat.add_assoc, Int.ofNat_lt, Int.ofNat_le, Wl_eq (steps_run v _ hA.cells)]
  obtain ⟨c, hc⟩ : ∃ c, s.next = c := ⟨_, rfl⟩
  refine Wk_envs (fun ts => ts.get 2 = some (.ptr c 0) ∧ ts.get 8 = some (.fn (.func 26) [] [.ptr (c + 1) 0])) ⟨by simp only [go_sem, Wk_block, Wk_drawnC, reduceCtorEq, Nat.reduceEqDiff, Nat.reduceAdd, Nat.reduceLeDiff, Nat.reduceLT, Nat.reduceMul, Nat.reduceSub, ↓reduceIte, Int.reduceLT, Int.reduceLE, Int.reduceNeg, Int.reduceAdd, Int.reduceEq, Nat.reduceBneDiff, Nat.reduceBEq, Int.reduceToNat, Int.reduceMul, Int.reduceSub, Int.reduceBEq, Int.reduceBNe, Int.cast_ofNat_Int, Int.toNat_natCast_add_one, Nat.add_left_cancel_iff, Nat.left_eq_add, Nat.add_eq_left, Int.toNat_natCast, Nat.add_assoc, Int.ofNat_lt, Int.ofNat_le, hc], by simp only [go_sem, Wk_block, Wk_drawnC, reduceCtorEq, Nat.reduceEqDiff, Nat.reduceAdd, Nat.reduceLeDiff, Nat.reduceLT, Nat.reduceMul, Nat.reduceSub, ↓reduceIte, Int.reduceLT, Int.reduceLE, Int.reduceNeg, Int.reduceAdd, Int.reduceEq, Nat.reduceBneDiff, Nat.reduceBEq, Int.reduceToNat, Int.reduceMul, Int.reduceSub, Int.reduceBEq, Int.reduceBNe, Int.cast_ofNat_Int, Int.toNat_natCast_add_one, Nat.add_left_cancel_iff, Nat.left_eq_add, Nat.add_eq_left, Int.toNat_natCast, Nat.add_assoc, Int.ofNat_lt, Int.ofNat_le, hc]⟩ ?_
  rintro ts0 ⟨g2, g8⟩
  have f1 : Fr s ((s.new (.cells [.bool false] false false 0)).new (.cells [v] false false 0)) := ((Fr.refl s).new _).new _
  have hA1 := hA.mono f1
  have hc1 : ((s.new (.cells [.bool false] false false 0)).new (.cells [v] false false 0)).get c = some (.cells [.bool false] false false 0) := by rw [← hc]; simp -implicitDefEqProofs only [go_sem, Wk_block, Wk_drawnC, reduceCtorEq, Nat.reduceEqDiff, Nat.reduceAdd, Nat.reduceLeDiff, Nat.reduceLT, Nat.reduceMul, Nat.reduceSub, ↓reduceIte, Int.reduceLT, Int.reduceLE, Int.reduceNeg, Int.reduceAdd, Int.reduceEq, Nat.reduceBneDiff, Nat.reduceBEq, Int.reduceToNat, Int.reduceMul, Int.reduceSub, Int.reduceBEq, Int.reduceBNe, Int.cast_ofNat_Int, Int.toNat_natCast_add_one, Nat.add_left_cancel_iff, Nat.left_eq_add, Nat.add_eq_left, Int.toNat_natCast, Nat.add_assoc, Int.ofNat_lt, Int.ofNat_le, Nat.lt_add_one_of_lt, Nat.lt_add_one, Nat.lt_add_right, Nat.lt_add_right_iff_pos, Nat.add_lt_add_iff_left, hc]
  have hp1 : ((s.new (.cells [.bool false] false false 0)).new (.cells [v] false false 0)).get (c + 1) = some (.cells [v] false false 0) := by rw [← hc]; simp -implicitDefEqProofs only [go_sem, Wk_block, Wk_drawnC, reduceCtorEq, Nat.reduceEqDiff, Nat.reduceAdd, Nat.reduceLeDiff, Nat.reduceLT, Nat.reduceMul, Nat.reduceSub, ↓reduceIte, Int.reduceLT, Int.reduceLE, Int.reduceNeg, Int.reduceAdd, Int.reduceEq, Nat.reduceBneDiff, Nat.reduceBEq, Int.reduceToNat, Int.reduceMul, Int.reduceSub, Int.reduceBEq, Int.reduceBNe, Int.cast_ofNat_Int, Int.toNat_natCast_add_one, Nat.add_left_cancel_iff, Nat.left_eq_add, Nat.add_eq_left, Int.toNat_natCast, Nat.add_assoc, Int.ofNat_lt, Int.ofNat_le, Nat.lt_add_one_of_lt, Nat.lt_add_one, Nat.lt_add_right, Nat.lt_add_right_iff_pos, Nat.add_lt_add_iff_left, hc]
  have hn1 : c + 1 < ((s.new (.cells [.bool false] false false 0)).new (.cells [v] false false 0)).next := by rw [← hc]; simp -implicitDefEqProofs only [go_sem, Wk_block, Wk_drawnC, reduceCtorEq, Nat.reduceEqDiff, Nat.reduceAdd, Nat.reduceLeDiff, Nat.reduceLT, Nat.reduceMul, Nat.reduceSub, ↓reduceIte, Int.reduceLT, Int.reduceLE, Int.reduceNeg, Int.reduceAdd, Int.reduceEq, Nat.reduceBneDiff, Nat.reduceBEq, Int.reduceToNat, Int.reduceMul, Int.reduceSub, Int.reduceBEq, Int.reduceBNe, Int.cast_ofNat_Int, Int.toNat_natCast_add_one, Nat.add_left_cancel_iff, Nat.left_eq_add, Nat.add_eq_left, Int.toNat_natCast, Nat.add_assoc, Int.ofNat_lt, Int.ofNat_le, Nat.lt_add_one_of_lt, Nat.lt_add_one, Nat.lt_add_right, Nat.lt_add_right_iff_pos, Nat.add_lt_add_iff_left, hc]
  generalize (s.new (.cells [.bool false] false false 0)).new (.cells [v] false false 0) = s1 at *
  refine Wk_range g8 ?_
  obtain ⟨e, he⟩ : ∃ e, s1.next = e := ⟨_, rfl⟩
  rw [he]
  generalize hasn : PC.seq (PC.region [⟨some 3, _, none⟩, _]) _ = asn
  generalize hbd : PC.block 1 _ = bd
  have hmn : ∀ (s' : St), Fr s s' → Acc s' v 58 (ms.map Mo.cells) ba oa := fun s' f => hA.mono f
  have hN : ((s1.new .defd).new (.loop .ready .normal ts0 [9, 10] asn bd e)).next = e + 2 := by simp only [St.next_new]; omega
  have f2 : Fr s ((s1.new .defd).new (.loop .ready .normal ts0 [9, 10] asn bd e)) := (f1.new _).new _
  have hp2 : ((s1.new .defd).new (.loop .ready .normal ts0 [9, 10] asn bd e)).get (c + 1) = some (.cells [v] false false 0) := by
    rw [St.get_new, if_neg (by simp only [St.next_new]; omega), St.get_new, if_neg (by omega)]; exact hp1
  have hsn : s.next ≤ e := by have := f1.le; omega
  refine (gen_run ms hm (r := e + 1) (hmn _ f2) hp2 (by rw [hN]; omega)
    (fun j s' => s'.get (e + 1) = some (.loop .ready .normal ts0 [9, 10] asn bd e) ∧ s'.get e = some .defd ∧ Lies s' c [.bool false] ∧ Fr s s' ∧ ∀ i (h : i < ms.length), i < j → okR (lastV (ms.take i)) ms[i] = true)
    (fun s' => s'.get (e + 1) = some (.loop .done .ret ts0 [9, 10] asn bd e) ∧ s'.get e = some .defd ∧ Lies s' c [.bool false] ∧ Fr s s' ∧ ∃ i, ∃ h : i < ms.length, okR (lastV (ms.take i)) ms[i] = false) ?_ ?_ ?_ ?_).mono ?_
  · rintro j s3 s4 ⟨h1, h2, h3, h4, h5⟩ u
    rw [hN] at u
    exact ⟨(u.get _ (by omega)).trans h1, (u.get _ (by omega)).trans h2, (u.get _ (by omega)).trans h3, ⟨Nat.le_trans h4.le u.le, fun b hb => (u.get b (by omega)).trans (h4.get b hb)⟩, h5⟩
  · rintro j s3 ⟨_, _, _, h4, _⟩
    exact hmn _ h4
  · rintro j hj s3 hn3 ⟨h1, h2, h3, h4, h5⟩
    rw [hN] at hn3
    refine Round_of h1 rfl ?_
    rw [← hasn]
    have hok := hm ms[j] (List.getElem_mem hj)
    generalize hx : ms[j] = x at hok
    generalize hla : lastV (ms.take j) = la
    have hlen := hok.len
    have hcell := hok.cell
    have hc3 : c < s3.next := by omega
    have he3 : e < s3.next := by omega
    have he4 : e + 1 < s3.next := by omega
    simp -implicitDefEqProofs only [go_sem, Wk_block, Wk_drawnC, reduceCtorEq, Nat.reduceEqDiff, Nat.reduceAdd, Nat.reduceLeDiff, Nat.reduceLT, Nat.reduceMul, Nat.reduceSub, ↓reduceIte, Int.reduceLT, Int.reduceLE, Int.reduceNeg, Int.reduceAdd, Int.reduceEq, Nat.reduceBneDiff, Nat.reduceBEq, Int.reduceToNat, Int.reduceMul, Int.reduceSub, Int.reduceBEq, Int.reduceBNe, Int.cast_ofNat_Int, Int.toNat_natCast_add_one, Nat.add_left_cancel_iff, Nat.left_eq_add, Nat.add_eq_left, Int.toNat_natCast, Nat.add_assoc, Int.ofNat_lt, Int.ofNat_le, Nat.lt_add_one_of_lt, Nat.lt_add_one, Nat.lt_add_right, Nat.lt_add_right_iff_pos, Nat.add_lt_add_iff_left, hlen, hcell, enc2, Vw.enc, Wr_nil, h1, hc3, he3, he4, eq_next_f he4, eq_next_k he4, eq_next_f' he4, eq_next_k' he4]
    refine ⟨_, _, _, _, _, _, rfl, ?_⟩
    obtain ⟨q, hq⟩ : ∃ q, s3.next = q := ⟨_, rfl⟩
    have hv := hok.v
    unfold Vw.enc at hv
    have hl1 : 44 + 14 ≤ x.cells.length := by omega
    have hl2 : 58 ≤ x.cells.length := by omega
    have f34 : ∀ b, b < s3.next → b ≠ e + 1 → (((s3.new (.cells x.cells false false 0)).new (.cells [.bool la.1.up, .bool la.1.prim, .int .u32 la.1.epoch, .int .u32 la.1.ex.e, .int .u32 la.1.ex.q, .int .u32 la.1.nw.e, .int .u32 la.1.nw.q, .bool la.2.up, .bool la.2.prim, .int .u32 la.2.epoch, .int .u32 la.2.ex.e, .int .u32 la.2.ex.q, .int .u32 la.2.nw.e, .int .u32 la.2.nw.q] false false 0)).put (e + 1) (.loop .busy .normal ts0 [9, 10] asn bd e)).get b = s3.get b := fun b hb hne => by
      rw [St.get_put, if_neg hne, St.get_new, if_neg (by simp only [St.next_new]; omega), St.get_new, if_neg (by omega)]
    have hr4 : (((s3.new (.cells x.cells false false 0)).new (.cells [.bool la.1.up, .bool la.1.prim, .int .u32 la.1.epoch, .int .u32 la.1.ex.e, .int .u32 la.1.ex.q, .int .u32 la.1.nw.e, .int .u32 la.1.nw.q, .bool la.2.up, .bool la.2.prim, .int .u32 la.2.epoch, .int .u32 la.2.ex.e, .int .u32 la.2.ex.q, .int .u32 la.2.nw.e, .int .u32 la.2.nw.q] false false 0)).put (e + 1) (.loop .busy .normal ts0 [9, 10] asn bd e)).get (e + 1) = some (.loop .busy .normal ts0 [9, 10] asn bd e) := by rw [St.get_put, if_pos rfl]
    have hx4 : (((s3.new (.cells x.cells false false 0)).new (.cells [.bool la.1.up, .bool la.1.prim, .int .u32 la.1.epoch, .int .u32 la.1.ex.e, .int .u32 la.1.ex.q, .int .u32 la.1.nw.e, .int .u32 la.1.nw.q, .bool la.2.up, .bool la.2.prim, .int .u32 la.2.epoch, .int .u32 la.2.ex.e, .int .u32 la.2.ex.q, .int .u32 la.2.nw.e, .int .u32 la.2.nw.q] false false 0)).put (e + 1) (.loop .busy .normal ts0 [9, 10] asn bd e)).get q = some (.cells x.cells false false 0) := by
      rw [St.get_put, if_neg (by omega), St.get_new, if_neg (by simp only [St.next_new]; omega), St.get_new, if_pos (by omega)]
    have hl4 : (((s3.new (.cells x.cells false false 0)).new (.cells [.bool la.1.up, .bool la.1.prim, .int .u32 la.1.epoch, .int .u32 la.1.ex.e, .int .u32 la.1.ex.q, .int .u32 la.1.nw.e, .int .u32 la.1.nw.q, .bool la.2.up, .bool la.2.prim, .int .u32 la.2.epoch, .int .u32 la.2.ex.e, .int .u32 la.2.ex.q, .int .u32 la.2.nw.e, .int .u32 la.2.nw.q] false false 0)).put (e + 1) (.loop .busy .normal ts0 [9, 10] asn bd e)).get (q + 1) = some (.cells [.bool la.1.up, .bool la.1.prim, .int .u32 la.1.epoch, .int .u32 la.1.ex.e, .int .u32 la.1.ex.q, .int .u32 la.1.nw.e, .int .u32 la.1.nw.q, .bool la.2.up, .bool la.2.prim, .int .u32 la.2.epoch, .int .u32 la.2.ex.e, .int .u32 la.2.ex.q, .int .u32 la.2.nw.e, .int .u32 la.2.nw.q] false false 0) := by
      rw [St.get_put, if_neg (by omega), St.get_new, if_pos (by simp only [St.next_new]; omega)]
    have hn4 : (((s3.new (.cells x.cells false false 0)).new (.cells [.bool la.1.up, .bool la.1.prim, .int .u32 la.1.epoch, .int .u32 la.1.ex.e, .int .u32 la.1.ex.q, .int .u32 la.1.nw.e, .int .u32 la.1.nw.q, .bool la.2.up, .bool la.2.prim, .int .u32 la.2.epoch, .int .u32 la.2.ex.e, .int .u32 la.2.ex.q, .int .u32 la.2.nw.e, .int .u32 la.2.nw.q] false false 0)).put (e + 1) (.loop .busy .normal ts0 [9, 10] asn bd e)).next = q + 2 := by simp only [St.next_put, St.next_new]; omega
    rw [hq]
    generalize ((s3.new (.cells x.cells false false 0)).new (.cells [.bool la.1.up, .bool la.1.prim, .int .u32 la.1.epoch, .int .u32 la.1.ex.e, .int .u32 la.1.ex.q, .int .u32 la.1.nw.e, .int .u32 la.1.nw.q, .bool la.2.up, .bool la.2.prim, .int .u32 la.2.epoch, .int .u32 la.2.ex.e, .int .u32 la.2.ex.q, .int .u32 la.2.nw.e, .int .u32 la.2.nw.q] false false 0)).put (e + 1) (.loop .busy .normal ts0 [9, 10] asn bd e) = s4 at *
    rw [← hbd]
    simp -implicitDefEqProofs only [go_sem, Wk_block, Wk_drawnC, reduceCtorEq, Nat.reduceEqDiff, Nat.reduceAdd, Nat.reduceLeDiff, Nat.reduceLT, Nat.reduceMul, Nat.reduceSub, ↓reduceIte, Int.reduceLT, Int.reduceLE, Int.reduceNeg, Int.reduceAdd, Int.reduceEq, Nat.reduceBneDiff, Nat.reduceBEq, Int.reduceToNat, Int.reduceMul, Int.reduceSub, Int.reduceBEq, Int.reduceBNe, Int.cast_ofNat_Int, Int.toNat_natCast_add_one, Nat.add_left_cancel_iff, Nat.left_eq_add, Nat.add_eq_left, Int.toNat_natCast, Nat.add_assoc, Int.ofNat_lt, Int.ofNat_le, Nat.lt_add_one_of_lt, Nat.lt_add_one, Nat.lt_add_right, Nat.lt_add_right_iff_pos, Nat.add_lt_add_iff_left, g2, hx4, hl1, hl2, hv]
    have hc4 : Lies s4 c [.bool false] := (f34 c (by omega) (by omega)).trans h3
    have he5 : s4.get e = some .defd := (f34 e (by omega) (by omega)).trans h2
    have fin : ∀ s5, Fr s4 s5 → s3.next ≤ s5.next ∧ (∀ a, s1.next + 2 ≤ a → a < s3.next → s5.get a = s3.get a) ∧ s5.get e = some .defd ∧ Lies s5 c [.bool false] ∧ (∀ b, b < s.next → s5.get b = s.get b) := fun s5 f5 =>
      ⟨by have := f5.le; omega, fun a ha1 ha2 => (f5.get a (by omega)).trans (f34 a ha2 (by omega)), (f5.get e (by omega)).trans he5, (f5.get c (by omega)).trans hc4, fun b hb => (f5.get b (by omega)).trans ((f34 b (by omega) (by omega)).trans (h4.get b hb))⟩
    refine loop_ind (fun n ts s5 => ∃ i : Int, n = (2 - i).toNat ∧ (i = 0 ∨ i = 1 ∨ i = 2) ∧ ts.get 13 = some (.int .i64 i) ∧ ts.get 12 = some (.agg (x.v0.enc ++ x.v1.enc)) ∧ ts.get 3 = some (.ptr q 0) ∧ ts.get 4 = some (.ptr (q + 1) 0) ∧ ts.get 2 = some (.ptr c 0) ∧
      Fr s4 s5 ∧ (1 ≤ i → (x.v0.up && decide (x.v0.ex.lt la.1.ex)) = false) ∧ (2 ≤ i → (x.v1.up && decide (x.v1.ex.lt la.2.ex)) = false)) ?_ (n := 2)
      ⟨0, rfl, .inl rfl, by simp only [go_sem, Wk_block, Wk_drawnC, reduceCtorEq, Nat.reduceEqDiff, Nat.reduceAdd, Nat.reduceLeDiff, Nat.reduceLT, Nat.reduceMul, Nat.reduceSub, ↓reduceIte, Int.reduceLT, Int.reduceLE, Int.reduceNeg, Int.reduceAdd, Int.reduceEq, Nat.reduceBneDiff, Nat.reduceBEq, Int.reduceToNat, Int.reduceMul, Int.reduceSub, Int.reduceBEq, Int.reduceBNe, Int.cast_ofNat_Int, Int.toNat_natCast_add_one, Nat.add_left_cancel_iff, Nat.left_eq_add, Nat.add_eq_left, Int.toNat_natCast, Nat.add_assoc, Int.ofNat_lt, Int.ofNat_le], by simp only [go_sem, Wk_block, Wk_drawnC, reduceCtorEq, Nat.reduceEqDiff, Nat.reduceAdd, Nat.reduceLeDiff, Nat.reduceLT, Nat.reduceMul, Nat.reduceSub, ↓reduceIte, Int.reduceLT, Int.reduceLE, Int.reduceNeg, Int.reduceAdd, Int.reduceEq, Nat.reduceBneDiff, Nat.reduceBEq, Int.reduceToNat, Int.reduceMul, Int.reduceSub, Int.reduceBEq, Int.reduceBNe, Int.cast_ofNat_Int, Int.toNat_natCast_add_one, Nat.add_left_cancel_iff, Nat.left_eq_add, Nat.add_eq_left, Int.toNat_natCast, Nat.add_assoc, Int.ofNat_lt, Int.ofNat_le, Vw.enc], by simp only [go_sem, Wk_block, Wk_drawnC, reduceCtorEq, Nat.reduceEqDiff, Nat.reduceAdd, Nat.reduceLeDiff, Nat.reduceLT, Nat.reduceMul, Nat.reduceSub, ↓reduceIte, Int.reduceLT, Int.reduceLE, Int.reduceNeg, Int.reduceAdd, Int.reduceEq, Nat.reduceBneDiff, Nat.reduceBEq, Int.reduceToNat, Int.reduceMul, Int.reduceSub, Int.reduceBEq, Int.reduceBNe, Int.cast_ofNat_Int, Int.toNat_natCast_add_one, Nat.add_left_cancel_iff, Nat.left_eq_add, Nat.add_eq_left, Int.toNat_natCast, Nat.add_assoc, Int.ofNat_lt, Int.ofNat_le], by simp only [go_sem, Wk_block, Wk_drawnC, reduceCtorEq, Nat.reduceEqDiff, Nat.reduceAdd, Nat.reduceLeDiff, Nat.reduceLT, Nat.reduceMul, Nat.reduceSub, ↓reduceIte, Int.reduceLT, Int.reduceLE, Int.reduceNeg, Int.reduceAdd, Int.reduceEq, Nat.reduceBneDiff, Nat.reduceBEq, Int.reduceToNat, Int.reduceMul, Int.reduceSub, Int.reduceBEq, Int.reduceBNe, Int.cast_ofNat_Int, Int.toNat_natCast_add_one, Nat.add_left_cancel_iff, Nat.left_eq_add, Nat.add_eq_left, Int.toNat_natCast, Nat.add_assoc, Int.ofNat_lt, Int.ofNat_le], by simp only [go_sem, Wk_block, Wk_drawnC, reduceCtorEq, Nat.reduceEqDiff, Nat.reduceAdd, Nat.reduceLeDiff, Nat.reduceLT, Nat.reduceMul, Nat.reduceSub, ↓reduceIte, Int.reduceLT, Int.reduceLE, Int.reduceNeg, Int.reduceAdd, Int.reduceEq, Nat.reduceBneDiff, Nat.reduceBEq, Int.reduceToNat, Int.reduceMul, Int.reduceSub, Int.reduceBEq, Int.reduceBNe, Int.cast_ofNat_Int, Int.toNat_natCast_add_one, Nat.add_left_cancel_iff, Nat.left_eq_add, Nat.add_eq_left, Int.toNat_natCast, Nat.add_assoc, Int.ofNat_lt, Int.ofNat_le, g2], Fr.refl _, fun h => by omega, fun h => by omega⟩
    rintro n ts s5 ⟨i, rfl, hi, g13, g12, g3, g4, g2, f5, ok0, ok1⟩ IH
    obtain ⟨k1, k2, k3, k4, k5⟩ := fin s5 f5
    have hl5 := (f5.get (q + 1) (by omega)).trans hl4
    have hr5 := (f5.get (e + 1) (by omega)).trans hr4
    have hqn : q + 1 < s5.next := by have := f5.le; omega
    have hcn : c < s5.next := by omega
    have w1 : IntKind.i64.wrap 1 = 1 := rfl
    have w2 : IntKind.i64.wrap 2 = 2 := rfl
    unfold Vw.enc at g12
    rcases hi with rfl | rfl | rfl
    · cases hu : x.v0.up
      · simp -implicitDefEqProofs only [go_sem, Wk_block, Wk_drawnC, reduceCtorEq, Nat.reduceEqDiff, Nat.reduceAdd, Nat.reduceLeDiff, Nat.reduceLT, Nat.reduceMul, Nat.reduceSub, ↓reduceIte, Int.reduceLT, Int.reduceLE, Int.reduceNeg, Int.reduceAdd, Int.reduceEq, Nat.reduceBneDiff, Nat.reduceBEq, Int.reduceToNat, Int.reduceMul, Int.reduceSub, Int.reduceBEq, Int.reduceBNe, Int.cast_ofNat_Int, Int.toNat_natCast_add_one, Nat.add_left_cancel_iff, Nat.left_eq_add, Nat.add_eq_left, Int.toNat_natCast, Nat.add_assoc, Int.ofNat_lt, Int.ofNat_le, Nat.lt_add_one_of_lt, Nat.lt_add_one, Nat.lt_add_right, Nat.lt_add_right_iff_pos, Nat.add_lt_add_iff_left, g13, g12, g3, g4, g2, hu, hqn, w1, eq_next_f hqn, eq_next_f' hqn]
        refine IH (1 : Int).toNat _ _ (by decide) ⟨1, rfl, by simp, ?_, ?_, ?_, ?_, ?_, by (repeat (first | exact FrX.refl _ _ | exact Fr.refl _ | assumption | exact Fr.x (by assumption) _ | refine FrX.put ?_ (.inl rfl) _ | refine FrX.put ?_ (.inr (by first | omega | (simp; done) | (simp; omega))) _ | refine FrX.new ?_ _ | refine Fr.put ?_ (by first | omega | (simp; done) | (simp; omega)) _ | refine Fr.new ?_ _ | refine FrX.then ?_ (by assumption) | refine Fr.trans ?_ (by assumption))), fun _ => by rw [hu]; rfl, fun h => by omega⟩
        all_goals simp only [go_sem, Wk_block, Wk_drawnC, reduceCtorEq, Nat.reduceEqDiff, Nat.reduceAdd, Nat.reduceLeDiff, Nat.reduceLT, Nat.reduceMul, Nat.reduceSub, ↓reduceIte, Int.reduceLT, Int.reduceLE, Int.reduceNeg, Int.reduceAdd, Int.reduceEq, Nat.reduceBneDiff, Nat.reduceBEq, Int.reduceToNat, Int.reduceMul, Int.reduceSub, Int.reduceBEq, Int.reduceBNe, Int.cast_ofNat_Int, Int.toNat_natCast_add_one, Nat.add_left_cancel_iff, Nat.left_eq_add, Nat.add_eq_left, Int.toNat_natCast, Nat.add_assoc, Int.ofNat_lt, Int.ofNat_le, g13, g12, g3, g4, g2, Vw.enc, hu]
      · simp -implicitDefEqProofs only [go_sem, Wk_block, Wk_drawnC, reduceCtorEq, Nat.reduceEqDiff, Nat.reduceAdd, Nat.reduceLeDiff, Nat.reduceLT, Nat.reduceMul, Nat.reduceSub, ↓reduceIte, Int.reduceLT, Int.reduceLE, Int.reduceNeg, Int.reduceAdd, Int.reduceEq, Nat.reduceBneDiff, Nat.reduceBEq, Int.reduceToNat, Int.reduceMul, Int.reduceSub, Int.reduceBEq, Int.reduceBNe, Int.cast_ofNat_Int, Int.toNat_natCast_add_one, Nat.add_left_cancel_iff, Nat.left_eq_add, Nat.add_eq_left, Int.toNat_natCast, Nat.add_assoc, Int.ofNat_lt, Int.ofNat_le, Nat.lt_add_one_of_lt, Nat.lt_add_one, Nat.lt_add_right, Nat.lt_add_right_iff_pos, Nat.add_lt_add_iff_left, g13, g12, g3, g4, g2, hu, hqn, hl5, w1, eq_next_f hqn, eq_next_f' hqn]
        refine Wl_of (Compare_run x.v0.ex la.1.ex _) ?_
        rintro _ s6 ⟨rfl, f6⟩
        have f56 := ((Fr.refl s5).new (.cells [.bool true, .bool x.v0.prim, .int .u32 x.v0.epoch, .int .u32 x.v0.ex.e, .int .u32 x.v0.ex.q, .int .u32 x.v0.nw.e, .int .u32 x.v0.nw.q] false false 0)).trans f6
        have f06 := f5.trans f56
        obtain ⟨m1, m2, m3, m4, m5⟩ := fin s6 f06
        have m4' := m4
        unfold Lies at m4'
        simp only [go_sem, Wk_block, Wk_drawnC, reduceCtorEq, Nat.reduceEqDiff, Nat.reduceAdd, Nat.reduceLeDiff, Nat.reduceLT, Nat.reduceMul, Nat.reduceSub, ↓reduceIte, Int.reduceLT, Int.reduceLE, Int.reduceNeg, Int.reduceAdd, Int.reduceEq, Nat.reduceBneDiff, Nat.reduceBEq, Int.reduceToNat, Int.reduceMul, Int.reduceSub, Int.reduceBEq, Int.reduceBNe, Int.cast_ofNat_Int, Int.toNat_natCast_add_one, Nat.add_left_cancel_iff, Nat.left_eq_add, Nat.add_eq_left, Int.toNat_natCast, Nat.add_assoc, Int.ofNat_lt, Int.ofNat_le]
        refine Wi_split (fun hg => ?_) (fun hg => ?_)
        · have hlt : x.v0.ex.lt la.1.ex := cmp_lt0.1 (of_decide_eq_true hg)
          simp -implicitDefEqProofs only [go_sem, Wk_block, Wk_drawnC, reduceCtorEq, Nat.reduceEqDiff, Nat.reduceAdd, Nat.reduceLeDiff, Nat.reduceLT, Nat.reduceMul, Nat.reduceSub, ↓reduceIte, Int.reduceLT, Int.reduceLE, Int.reduceNeg, Int.reduceAdd, Int.reduceEq, Nat.reduceBneDiff, Nat.reduceBEq, Int.reduceToNat, Int.reduceMul, Int.reduceSub, Int.reduceBEq, Int.reduceBNe, Int.cast_ofNat_Int, Int.toNat_natCast_add_one, Nat.add_left_cancel_iff, Nat.left_eq_add, Nat.add_eq_left, Int.toNat_natCast, Nat.add_assoc, Int.ofNat_lt, Int.ofNat_le, Nat.lt_add_one_of_lt, Nat.lt_add_one, Nat.lt_add_right, Nat.lt_add_right_iff_pos, Nat.add_lt_add_iff_left, g2, m4', Wr_nil]
          have hr6 := (f06.get (e + 1) (by omega)).trans hr4
          refine ⟨_, _, _, _, _, _, _, (St.get_put _ _ _ _).trans ((if_neg (by omega)).trans hr6), ?_⟩
          refine ⟨by simp only [St.next_put]; omega, fun a ha1 ha2 => ?_, fun h => (by cases h), fun _ => ⟨?_, ?_, ?_, ?_, ?_⟩⟩
          · rw [St.get_put, if_neg (by omega), St.get_put, if_neg (by omega)]; exact m2 a ha1 (by omega)
          · rw [St.get_put, if_pos rfl, hasn, hbd]
          · rw [St.get_put, if_neg (by omega), St.get_put, if_neg (by omega)]; exact m3
          · rw [Lies, St.get_put, if_neg (by omega), St.get_put, if_pos rfl]
          · refine ⟨by simp only [St.next_put]; omega, fun b hb => ?_⟩
            rw [St.get_put, if_neg (by omega), St.get_put, if_neg (by omega)]; exact m5 b hb
          · refine ⟨j, hj, ?_⟩
            rw [hx, hla]
            simp [okR, hu, hlt]
        · have hlt : ¬ x.v0.ex.lt la.1.ex := fun h => by have := cmp_lt0.2 h; have := of_decide_eq_false hg; omega
          simp -implicitDefEqProofs only [go_sem, Wk_block, Wk_drawnC, reduceCtorEq, Nat.reduceEqDiff, Nat.reduceAdd, Nat.reduceLeDiff, Nat.reduceLT, Nat.reduceMul, Nat.reduceSub, ↓reduceIte, Int.reduceLT, Int.reduceLE, Int.reduceNeg, Int.reduceAdd, Int.reduceEq, Nat.reduceBneDiff, Nat.reduceBEq, Int.reduceToNat, Int.reduceMul, Int.reduceSub, Int.reduceBEq, Int.reduceBNe, Int.cast_ofNat_Int, Int.toNat_natCast_add_one, Nat.add_left_cancel_iff, Nat.left_eq_add, Nat.add_eq_left, Int.toNat_natCast, Nat.add_assoc, Int.ofNat_lt, Int.ofNat_le, Nat.lt_add_one_of_lt, Nat.lt_add_one, Nat.lt_add_right, Nat.lt_add_right_iff_pos, Nat.add_lt_add_iff_left, g13, g12, g3, g4, g2, w1]
          refine IH (1 : Int).toNat _ _ (by decide) ⟨1, rfl, by simp, ?_, ?_, ?_, ?_, ?_, f06, fun _ => by simp [hlt], fun h => by omega⟩
          all_goals simp only [go_sem, Wk_block, Wk_drawnC, reduceCtorEq, Nat.reduceEqDiff, Nat.reduceAdd, Nat.reduceLeDiff, Nat.reduceLT, Nat.reduceMul, Nat.reduceSub, ↓reduceIte, Int.reduceLT, Int.reduceLE, Int.reduceNeg, Int.reduceAdd, Int.reduceEq, Nat.reduceBneDiff, Nat.reduceBEq, Int.reduceToNat, Int.reduceMul, Int.reduceSub, Int.reduceBEq, Int.reduceBNe, Int.cast_ofNat_Int, Int.toNat_natCast_add_one, Nat.add_left_cancel_iff, Nat.left_eq_add, Nat.add_eq_left, Int.toNat_natCast, Nat.add_assoc, Int.ofNat_lt, Int.ofNat_le, g13, g12, g3, g4, g2, Vw.enc, hu]
    · cases hu : x.v1.up
      · simp -implicitDefEqProofs only [go_sem, Wk_block, Wk_drawnC, reduceCtorEq, Nat.reduceEqDiff, Nat.reduceAdd, Nat.reduceLeDiff, Nat.reduceLT, Nat.reduceMul, Nat.reduceSub, ↓reduceIte, Int.reduceLT, Int.reduceLE, Int.reduceNeg, Int.reduceAdd, Int.reduceEq, Nat.reduceBneDiff, Nat.reduceBEq, Int.reduceToNat, Int.reduceMul, Int.reduceSub, Int.reduceBEq, Int.reduceBNe, Int.cast_ofNat_Int, Int.toNat_natCast_add_one, Nat.add_left_cancel_iff, Nat.left_eq_add, Nat.add_eq_left, Int.toNat_natCast, Nat.add_assoc, Int.ofNat_lt, Int.ofNat_le, Nat.lt_add_one_of_lt, Nat.lt_add_one, Nat.lt_add_right, Nat.lt_add_right_iff_pos, Nat.add_lt_add_iff_left, g13, g12, g3, g4, g2, hu, hqn, w2, eq_next_f hqn, eq_next_f' hqn]
        refine IH (0 : Int).toNat _ _ (by decide) ⟨2, rfl, by simp, ?_, ?_, ?_, ?_, ?_, by (repeat (first | exact FrX.refl _ _ | exact Fr.refl _ | assumption | exact Fr.x (by assumption) _ | refine FrX.put ?_ (.inl rfl) _ | refine FrX.put ?_ (.inr (by first | omega | (simp; done) | (simp; omega))) _ | refine FrX.new ?_ _ | refine Fr.put ?_ (by first | omega | (simp; done) | (simp; omega)) _ | refine Fr.new ?_ _ | refine FrX.then ?_ (by assumption) | refine Fr.trans ?_ (by assumption))), fun _ => ok0 (by omega), fun _ => by rw [hu]; rfl⟩
        all_goals simp only [go_sem, Wk_block, Wk_drawnC, reduceCtorEq, Nat.reduceEqDiff, Nat.reduceAdd, Nat.reduceLeDiff, Nat.reduceLT, Nat.reduceMul, Nat.reduceSub, ↓reduceIte, Int.reduceLT, Int.reduceLE, Int.reduceNeg, Int.reduceAdd, Int.reduceEq, Nat.reduceBneDiff, Nat.reduceBEq, Int.reduceToNat, Int.reduceMul, Int.reduceSub, Int.reduceBEq, Int.reduceBNe, Int.cast_ofNat_Int, Int.toNat_natCast_add_one, Nat.add_left_cancel_iff, Nat.left_eq_add, Nat.add_eq_left, Int.toNat_natCast, Nat.add_assoc, Int.ofNat_lt, Int.ofNat_le, g13, g12, g3, g4, g2, Vw.enc, hu]
      · simp -implicitDefEqProofs only [go_sem, Wk_block, Wk_drawnC, reduceCtorEq, Nat.reduceEqDiff, Nat.reduceAdd, Nat.reduceLeDiff, Nat.reduceLT, Nat.reduceMul, Nat.reduceSub, ↓reduceIte, Int.reduceLT, Int.reduceLE, Int.reduceNeg, Int.reduceAdd, Int.reduceEq, Nat.reduceBneDiff, Nat.reduceBEq, Int.reduceToNat, Int.reduceMul, Int.reduceSub, Int.reduceBEq, Int.reduceBNe, Int.cast_ofNat_Int, Int.toNat_natCast_add_one, Nat.add_left_cancel_iff, Nat.left_eq_add, Nat.add_eq_left, Int.toNat_natCast, Nat.add_assoc, Int.ofNat_lt, Int.ofNat_le, Nat.lt_add_one_of_lt, Nat.lt_add_one, Nat.lt_add_right, Nat.lt_add_right_iff_pos, Nat.add_lt_add_iff_left, g13, g12, g3, g4, g2, hu, hqn, hl5, w2, eq_next_f hqn, eq_next_f' hqn]
        refine Wl_of (Compare_run x.v1.ex la.2.ex _) ?_
        rintro _ s6 ⟨rfl, f6⟩
        have f56 := ((Fr.refl s5).new (.cells [.bool true, .bool x.v1.prim, .int .u32 x.v1.epoch, .int .u32 x.v1.ex.e, .int .u32 x.v1.ex.q, .int .u32 x.v1.nw.e, .int .u32 x.v1.nw.q] false false 0)).trans f6
        have f06 := f5.trans f56
        obtain ⟨m1, m2, m3, m4, m5⟩ := fin s6 f06
        have m4' := m4
        unfold Lies at m4'
        simp only [go_sem, Wk_block, Wk_drawnC, reduceCtorEq, Nat.reduceEqDiff, Nat.reduceAdd, Nat.reduceLeDiff, Nat.reduceLT, Nat.reduceMul, Nat.reduceSub, ↓reduceIte, Int.reduceLT, Int.reduceLE, Int.reduceNeg, Int.reduceAdd, Int.reduceEq, Nat.reduceBneDiff, Nat.reduceBEq, Int.reduceToNat, Int.reduceMul, Int.reduceSub, Int.reduceBEq, Int.reduceBNe, Int.cast_ofNat_Int, Int.toNat_natCast_add_one, Nat.add_left_cancel_iff, Nat.left_eq_add, Nat.add_eq_left, Int.toNat_natCast, Nat.add_assoc, Int.ofNat_lt, Int.ofNat_le]
        refine Wi_split (fun hg => ?_) (fun hg => ?_)
        · have hlt : x.v1.ex.lt la.2.ex := cmp_lt0.1 (of_decide_eq_true hg)
          simp -implicitDefEqProofs only [go_sem, Wk_block, Wk_drawnC, reduceCtorEq, Nat.reduceEqDiff, Nat.reduceAdd, Nat.reduceLeDiff, Nat.reduceLT, Nat.reduceMul, Nat.reduceSub, ↓reduceIte, Int.reduceLT, Int.reduceLE, Int.reduceNeg, Int.reduceAdd, Int.reduceEq, Nat.reduceBneDiff, Nat.reduceBEq, Int.reduceToNat, Int.reduceMul, Int.reduceSub, Int.reduceBEq, Int.reduceBNe, Int.cast_ofNat_Int, Int.toNat_natCast_add_one, Nat.add_left_cancel_iff, Nat.left_eq_add, Nat.add_eq_left, Int.toNat_natCast, Nat.add_assoc, Int.ofNat_lt, Int.ofNat_le, Nat.lt_add_one_of_lt, Nat.lt_add_one, Nat.lt_add_right, Nat.lt_add_right_iff_pos, Nat.add_lt_add_iff_left, g2, m4', Wr_nil]
          have hr6 := (f06.get (e + 1) (by omega)).trans hr4
          refine ⟨_, _, _, _, _, _, _, (St.get_put _ _ _ _).trans ((if_neg (by omega)).trans hr6), ?_⟩
          refine ⟨by simp only [St.next_put]; omega, fun a ha1 ha2 => ?_, fun h => (by cases h), fun _ => ⟨?_, ?_, ?_, ?_, ?_⟩⟩
          · rw [St.get_put, if_neg (by omega), St.get_put, if_neg (by omega)]; exact m2 a ha1 (by omega)
          · rw [St.get_put, if_pos rfl, hasn, hbd]
          · rw [St.get_put, if_neg (by omega), St.get_put, if_neg (by omega)]; exact m3
          · rw [Lies, St.get_put, if_neg (by omega), St.get_put, if_pos rfl]
          · refine ⟨by simp only [St.next_put]; omega, fun b hb => ?_⟩
            rw [St.get_put, if_neg (by omega), St.get_put, if_neg (by omega)]; exact m5 b hb
          · refine ⟨j, hj, ?_⟩
            rw [hx, hla]
            simp [okR, hu, hlt]
        · have hlt : ¬ x.v1.ex.lt la.2.ex := fun h => by have := cmp_lt0.2 h; have := of_decide_eq_false hg; omega
          simp -implicitDefEqProofs only [go_sem, Wk_block, Wk_drawnC, reduceCtorEq, Nat.reduceEqDiff, Nat.reduceAdd, Nat.reduceLeDiff, Nat.reduceLT, Nat.reduceMul, Nat.reduceSub, ↓reduceIte, Int.reduceLT, Int.reduceLE, Int.reduceNeg, Int.reduceAdd, Int.reduceEq, Nat.reduceBneDiff, Nat.reduceBEq, Int.reduceToNat, Int.reduceMul, Int.reduceSub, Int.reduceBEq, Int.reduceBNe, Int.cast_ofNat_Int, Int.toNat_natCast_add_one, Nat.add_left_cancel_iff, Nat.left_eq_add, Nat.add_eq_left, Int.toNat_natCast, Nat.add_assoc, Int.ofNat_lt, Int.ofNat_le, Nat.lt_add_one_of_lt, Nat.lt_add_one, Nat.lt_add_right, Nat.lt_add_right_iff_pos, Nat.add_lt_add_iff_left, g13, g12, g3, g4, g2, w2]
          refine IH (0 : Int).toNat _ _ (by decide) ⟨2, rfl, by simp, ?_, ?_, ?_, ?_, ?_, f06, fun _ => ok0 (by omega), fun _ => by simp [hlt]⟩
          all_goals simp only [go_sem, Wk_block, Wk_drawnC, reduceCtorEq, Nat.reduceEqDiff, Nat.reduceAdd, Nat.reduceLeDiff, Nat.reduceLT, Nat.reduceMul, Nat.reduceSub, ↓reduceIte, Int.reduceLT, Int.reduceLE, Int.reduceNeg, Int.reduceAdd, Int.reduceEq, Nat.reduceBneDiff, Nat.reduceBEq, Int.reduceToNat, Int.reduceMul, Int.reduceSub, Int.reduceBEq, Int.reduceBNe, Int.cast_ofNat_Int, Int.toNat_natCast_add_one, Nat.add_left_cancel_iff, Nat.left_eq_add, Nat.add_eq_left, Int.toNat_natCast, Nat.add_assoc, Int.ofNat_lt, Int.ofNat_le, g13, g12, g3, g4, g2, Vw.enc, hu]
    · simp -implicitDefEqProofs only [go_sem, Wk_block, Wk_drawnC, reduceCtorEq, Nat.reduceEqDiff, Nat.reduceAdd, Nat.reduceLeDiff, Nat.reduceLT, Nat.reduceMul, Nat.reduceSub, ↓reduceIte, Int.reduceLT, Int.reduceLE, Int.reduceNeg, Int.reduceAdd, Int.reduceEq, Nat.reduceBneDiff, Nat.reduceBEq, Int.reduceToNat, Int.reduceMul, Int.reduceSub, Int.reduceBEq, Int.reduceBNe, Int.cast_ofNat_Int, Int.toNat_natCast_add_one, Nat.add_left_cancel_iff, Nat.left_eq_add, Nat.add_eq_left, Int.toNat_natCast, Nat.add_assoc, Int.ofNat_lt, Int.ofNat_le, Nat.lt_add_one_of_lt, Nat.lt_add_one, Nat.lt_add_right, Nat.lt_add_right_iff_pos, Nat.add_lt_add_iff_left, g13, Wr_nil]
      refine ⟨_, _, _, _, _, _, _, hr5, ?_⟩
      refine ⟨by simp only [St.next_put]; omega, fun a ha1 ha2 => ?_, fun _ => ⟨?_, ?_, ?_, ?_, ?_⟩, fun h => (by cases h)⟩
      · rw [St.get_put, if_neg (by omega)]; exact k2 a ha1 (by omega)
      · rw [St.get_put, if_pos rfl, hasn, hbd]
      · rw [St.get_put, if_neg (by omega)]; exact k3
      · rw [Lies, St.get_put, if_neg (by omega)]; exact k4
      · refine ⟨by simp only [St.next_put]; omega, fun b hb => ?_⟩
        rw [St.get_put, if_neg (by omega)]; exact k5 b hb
      · intro i hi hij
        by_cases hie : i = j
        · subst hie
          rw [hx, hla]
          simp only [okR, ok0 (by omega), ok1 (by omega)]
          rfl
        · exact h5 i hi (by omega)
  · refine ⟨?_, ?_, ?_, f2, fun i _ h => by omega⟩
    · rw [St.get_new, if_pos (by simp only [St.next_new]; omega)]
    · rw [St.get_new, if_neg (by simp only [St.next_new]; omega), St.get_new, if_pos (by omega)]
    · rw [Lies, St.get_new, if_neg (by simp only [St.next_new]; omega), St.get_new, if_neg (by omega)]; exact hc1
  · rintro w s3 ⟨hle, ⟨h1, h2, h3, h4, h5⟩ | ⟨h1, h2, h3, h4, i, hi, h5⟩⟩
    · refine ⟨_, _, _, _, _, _, _, h1, (by intro h; cases h), ?_⟩
      have hce : c ≠ e + 1 := by omega
      have hce' : c ≠ e := by omega
      unfold Lies at h3
      simp -implicitDefEqProofs only [go_sem, Wk_block, Wk_drawnC, reduceCtorEq, Nat.reduceEqDiff, Nat.reduceAdd, Nat.reduceLeDiff, Nat.reduceLT, Nat.reduceMul, Nat.reduceSub, ↓reduceIte, Int.reduceLT, Int.reduceLE, Int.reduceNeg, Int.reduceAdd, Int.reduceEq, Nat.reduceBneDiff, Nat.reduceBEq, Int.reduceToNat, Int.reduceMul, Int.reduceSub, Int.reduceBEq, Int.reduceBNe, Int.cast_ofNat_Int, Int.toNat_natCast_add_one, Nat.add_left_cancel_iff, Nat.left_eq_add, Nat.add_eq_left, Int.toNat_natCast, Nat.add_assoc, Int.ofNat_lt, Int.ofNat_le, Nat.lt_add_one_of_lt, Nat.lt_add_one, Nat.lt_add_right, Nat.lt_add_right_iff_pos, Nat.add_lt_add_iff_left, g2, h3, h2, hce, hce', Ne.symm hce, Ne.symm hce', Nat.add_eq_left]
      refine ⟨⟨true, rfl, by simpa using fun j hj => h5 j hj hj⟩, ⟨by simp only [St.next_drop, St.next_put]; exact h4.le, fun b hb => ?_⟩⟩
      rw [St.get_drop, if_neg (by omega), St.get_put, if_neg (by omega), St.get_put, if_neg (by omega)]
      exact h4.get b hb
    · refine ⟨_, _, _, _, _, _, _, h1, (by intro h; cases h), ?_⟩
      have hce : c ≠ e + 1 := by omega
      have hce' : c ≠ e := by omega
      unfold Lies at h3
      simp -implicitDefEqProofs only [go_sem, Wk_block, Wk_drawnC, reduceCtorEq, Nat.reduceEqDiff, Nat.reduceAdd, Nat.reduceLeDiff, Nat.reduceLT, Nat.reduceMul, Nat.reduceSub, ↓reduceIte, Int.reduceLT, Int.reduceLE, Int.reduceNeg, Int.reduceAdd, Int.reduceEq, Nat.reduceBneDiff, Nat.reduceBEq, Int.reduceToNat, Int.reduceMul, Int.reduceSub, Int.reduceBEq, Int.reduceBNe, Int.cast_ofNat_Int, Int.toNat_natCast_add_one, Nat.add_left_cancel_iff, Nat.left_eq_add, Nat.add_eq_left, Int.toNat_natCast, Nat.add_assoc, Int.ofNat_lt, Int.ofNat_le, Nat.lt_add_one_of_lt, Nat.lt_add_one, Nat.lt_add_right, Nat.lt_add_right_iff_pos, Nat.add_lt_add_iff_left, g2, h3, h2, hce, hce', Ne.symm hce, Ne.symm hce', Nat.add_eq_left]
      refine ⟨⟨false, rfl, ⟨fun h => (by cases h), fun h => (by rw [h i hi] at h5; cases h5)⟩⟩, ⟨by simp only [St.next_drop, St.next_put]; exact h4.le, fun b hb => ?_⟩⟩
      rw [St.get_drop, if_neg (by omega), St.get_put, if_neg (by omega)]
      exact h4.get b hb
end Go.Proofs.Yteffppdkofdmdaa
namespace Go.Proofs.Yteffppdkofdmdaa
open D
set_option linter.unusedSimpArgs false
set_option linter.unusedVariables false
set_option maxRecDepth 10000

theorem take_of {l x : List AV} {a n : Nat} (h : (l.drop a).take n = x) (k m : Nat) (hk : k + m ≤ n) : (l.drop (a + k)).take m = (x.drop k).take m := by
  rw [← h, List.drop_take, List.take_take, List.drop_drop, Nat.min_eq_left (by omega)]
theorem MoOk.c0 {m : Mo} (h : MoOk m) : (m.cells.drop 44).take 7 = m.v0.enc := take_of h.v 0 7 (by omega)
theorem MoOk.c1 {m : Mo} (h : MoOk m) : (m.cells.drop 51).take 7 = m.v1.enc := take_of h.v 7 7 (by omega)
theorem get_of {l x : List AV} {a n : Nat} (h : (l.drop a).take n = x) (k : Nat) (hk : k < n) : l[a + k]? = x[k]? := by
  rw [← h, List.getElem?_take_of_lt hk, List.getElem?_drop]
theorem MoOk.u0 {m : Mo} (h : MoOk m) : m.cells[44]? = some (.bool m.v0.up) := get_of h.v 0 (by omega)
theorem MoOk.u1 {m : Mo} (h : MoOk m) : m.cells[51]? = some (.bool m.v1.up) := get_of h.v 7 (by omega)
theorem MoOk.x0 {m : Mo} (h : MoOk m) : (m.cells.drop 47).take 2 = [.int .u32 m.v0.ex.e, .int .u32 m.v0.ex.q] := take_of h.v 3 2 (by omega)
theorem MoOk.x1 {m : Mo} (h : MoOk m) : (m.cells.drop 54).take 2 = [.int .u32 m.v1.ex.e, .int .u32 m.v1.ex.q] := take_of h.v 10 2 (by omega)
def sel (i : Int) (p : Vw × Vw) : Vw := if i = 0 then p.1 else p.2
theorem sel0 (p : Vw × Vw) : sel 0 p = p.1 := rfl
theorem sel1 (p : Vw × Vw) : sel 1 p = p.2 := rfl
def Mo.vs (m : Mo) : Vw × Vw := (m.v0, m.v1)

theorem less_run (a b : Lb) (s : St) : Wf mm 24 [.agg [.int .u32 a.e, .int .u32 a.q], .agg [.int .u32 b.e, .int .u32 b.q]] s fun v s' => v = .bool (decide (a.lt b)) ∧ Fr s s' := by
  refine Wf_enter ft24 (sm (by decide)) (by rfl) ?_
  simp -implicitDefEqProofs only [go_sem, Wk_block, Wk_drawnC, reduceCtorEq, Nat.reduceEqDiff, Nat.reduceAdd, Nat.reduceLeDiff, Nat.reduceLT, Nat.reduceMul, Nat.reduceSub, ↓reduceIte, Int.reduceLT, Int.reduceLE, Int.reduceNeg, Int.reduceAdd, Int.reduceEq, Nat.reduceBneDiff, Nat.reduceBEq, Int.reduceToNat, Int.reduceMul, Int.reduceSub, Int.reduceBEq, Int.reduceBNe, Int.cast_ofNat_Int, Int.toNat_natCast_add_one, Nat.add_left_cancel_iff, Nat.left_eq_add, Nat.add_eq_left, Int.toNat_natCast, Nat.add_assoc, Int.ofNat_lt, Int.ofNat_le, Nat.lt_add_one_of_lt, Nat.lt_add_one, Nat.lt_add_right, Nat.lt_add_right_iff_pos, Nat.add_lt_add_iff_left, fd24]
  repeat' (first | (refine Wg_split (fun hg => ?_) (fun hg => ?_) <;> simp -implicitDefEqProofs only [go_sem, Wk_block, Wk_drawnC, reduceCtorEq, Nat.reduceEqDiff, Nat.reduceAdd, Nat.reduceLeDiff, Nat.reduceLT, Nat.reduceMul, Nat.reduceSub, ↓reduceIte, Int.reduceLT, Int.reduceLE, Int.reduceNeg, Int.reduceAdd, Int.reduceEq, Nat.reduceBneDiff, Nat.reduceBEq, Int.reduceToNat, Int.reduceMul, Int.reduceSub, Int.reduceBEq, Int.reduceBNe, Int.cast_ofNat_Int, Int.toNat_natCast_add_one, Nat.add_left_cancel_iff, Nat.left_eq_add, Nat.add_eq_left, Int.toNat_natCast, Nat.add_assoc, Int.ofNat_lt, Int.ofNat_le, Nat.lt_add_one_of_lt, Nat.lt_add_one, Nat.lt_add_right, Nat.lt_add_right_iff_pos, Nat.add_lt_add_iff_left, Fr.refl, hg]) | (refine Wi_split (fun hg => ?_) (fun hg => ?_) <;> simp -implicitDefEqProofs only [go_sem, Wk_block, Wk_drawnC, reduceCtorEq, Nat.reduceEqDiff, Nat.reduceAdd, Nat.reduceLeDiff, Nat.reduceLT, Nat.reduceMul, Nat.reduceSub, ↓reduceIte, Int.reduceLT, Int.reduceLE, Int.reduceNeg, Int.reduceAdd, Int.reduceEq, Nat.reduceBneDiff, Nat.reduceBEq, Int.reduceToNat, Int.reduceMul, Int.reduceSub, Int.reduceBEq, Int.reduceBNe, Int.cast_ofNat_Int, Int.toNat_natCast_add_one, Nat.add_left_cancel_iff, Nat.left_eq_add, Nat.add_eq_left, Int.toNat_natCast, Nat.add_assoc, Int.ofNat_lt, Int.ofNat_le, Nat.lt_add_one_of_lt, Nat.lt_add_one, Nat.lt_add_right, Nat.lt_add_right_iff_pos, Nat.add_lt_add_iff_left, Fr.refl, hg]))
  all_goals (refine ⟨?_, by (repeat (first | exact FrX.refl _ _ | exact Fr.refl _ | assumption | exact Fr.x (by assumption) _ | refine FrX.put ?_ (.inl rfl) _ | refine FrX.put ?_ (.inr (by first | omega | (simp; done) | (simp; omega))) _ | refine FrX.new ?_ _ | refine Fr.put ?_ (by first | omega | (simp; done) | (simp; omega)) _ | refine Fr.new ?_ _ | refine FrX.then ?_ (by assumption) | refine Fr.trans ?_ (by assumption)))⟩; simp [Lb.lt] at *; try omega)
  all_goals (congr 1; simp_all)

theorem Last_run (ms : List Mo) (hm : ∀ m ∈ ms, MoOk m) {v : AV} {ba oa : Nat} {s : St} (hA : Acc s v 58 (ms.map Mo.cells) ba oa) (i : Int) (hi : i = 0 ∨ i = 1) :
    Wf mm 15 [v, .int .i64 i] s fun w s' => w = .agg (sel i (lastV ms)).enc ∧ Fr s s' := by
  refine Wf_enter ft15 (sm (by decide)) (by rfl) ?_
  have hmax := hA.max
  rw [List.length_map] at hmax
  unfold maxLen at hmax
  have w0 : IntKind.i64.wrap ((ms.length : Int) - 1) = (ms.length : Int) - 1 := i64_in (by omega) (by omega)
  simp -implicitDefEqProofs only [go_sem, Wk_block, Wk_drawnC, reduceCtorEq, Nat.reduceEqDiff, Nat.reduceAdd, Nat.reduceLeDiff, Nat.reduceLT, Nat.reduceMul, Nat.reduceSub, ↓reduceIte, Int.reduceLT, Int.reduceLE, Int.reduceNeg, Int.reduceAdd, Int.reduceEq, Nat.reduceBneDiff, Nat.reduceBEq, Int.reduceToNat, Int.reduceMul, Int.reduceSub, Int.reduceBEq, Int.reduceBNe, Int.cast_ofNat_Int, Int.toNat_natCast_add_one, Nat.add_left_cancel_iff, Nat.left_eq_add, Nat.add_eq_left, Int.toNat_natCast, Nat.add_assoc, Int.ofNat_lt, Int.ofNat_le, Nat.lt_add_one_of_lt, Nat.lt_add_one, Nat.lt_add_right, Nat.lt_add_right_iff_pos, Nat.add_lt_add_iff_left, fd15, hA.len, List.length_map, w0]
  obtain ⟨L, hL⟩ : ∃ L, s.next = L := ⟨_, rfl⟩
  have f1 : Fr s (s.new (.cells [.bool false, .bool false, .int .u32 0, .int .u32 0, .int .u32 0, .int .u32 0, .int .u32 0] false false 0)) := (Fr.refl s).new _
  have hl1 : Lies (s.new (.cells [.bool false, .bool false, .int .u32 0, .int .u32 0, .int .u32 0, .int .u32 0, .int .u32 0] false false 0)) L [.bool false, .bool false, .int .u32 0, .int .u32 0, .int .u32 0, .int .u32 0, .int .u32 0] := by rw [← hL]; simp only [Lies, St.get_new, if_true]
  have hn1 : L < (s.new (.cells [.bool false, .bool false, .int .u32 0, .int .u32 0, .int .u32 0, .int .u32 0, .int .u32 0] false false 0)).next := by rw [← hL]; exact Nat.lt_succ_self _
  have hsL : s.next ≤ L := by omega
  rw [hL]
  generalize s.new (.cells [.bool false, .bool false, .int .u32 0, .int .u32 0, .int .u32 0, .int .u32 0, .int .u32 0] false false 0) = s1 at *
  refine loop_ind (fun m ts s' => ∃ j : Nat, m = j ∧ j ≤ ms.length ∧ ts.get 5 = some (.int .i64 ((j : Int) - 1)) ∧ ts.get 0 = some v ∧ ts.get 1 = some (.int .i64 i) ∧ ts.get 4 = some (.ptr L 0) ∧
    sel i (lastV (ms.take j)) = sel i (lastV ms) ∧ s' = s1) ?_ (n := ms.length)
    ⟨ms.length, rfl, Nat.le_refl _, by simp only [go_sem, Wk_block, Wk_drawnC, reduceCtorEq, Nat.reduceEqDiff, Nat.reduceAdd, Nat.reduceLeDiff, Nat.reduceLT, Nat.reduceMul, Nat.reduceSub, ↓reduceIte, Int.reduceLT, Int.reduceLE, Int.reduceNeg, Int.reduceAdd, Int.reduceEq, Nat.reduceBneDiff, Nat.reduceBEq, Int.reduceToNat, Int.reduceMul, Int.reduceSub, Int.reduceBEq, Int.reduceBNe, Int.cast_ofNat_Int, Int.toNat_natCast_add_one, Nat.add_left_cancel_iff, Nat.left_eq_add, Nat.add_eq_left, Int.toNat_natCast, Nat.add_assoc, Int.ofNat_lt, Int.ofNat_le], by simp only [go_sem, Wk_block, Wk_drawnC, reduceCtorEq, Nat.reduceEqDiff, Nat.reduceAdd, Nat.reduceLeDiff, Nat.reduceLT, Nat.reduceMul, Nat.reduceSub, ↓reduceIte, Int.reduceLT, Int.reduceLE, Int.reduceNeg, Int.reduceAdd, Int.reduceEq, Nat.reduceBneDiff, Nat.reduceBEq, Int.reduceToNat, Int.reduceMul, Int.reduceSub, Int.reduceBEq, Int.reduceBNe, Int.cast_ofNat_Int, Int.toNat_natCast_add_one, Nat.add_left_cancel_iff, Nat.left_eq_add, Nat.add_eq_left, Int.toNat_natCast, Nat.add_assoc, Int.ofNat_lt, Int.ofNat_le], by simp only [go_sem, Wk_block, Wk_drawnC, reduceCtorEq, Nat.reduceEqDiff, Nat.reduceAdd, Nat.reduceLeDiff, Nat.reduceLT, Nat.reduceMul, Nat.reduceSub, ↓reduceIte, Int.reduceLT, Int.reduceLE, Int.reduceNeg, Int.reduceAdd, Int.reduceEq, Nat.reduceBneDiff, Nat.reduceBEq, Int.reduceToNat, Int.reduceMul, Int.reduceSub, Int.reduceBEq, Int.reduceBNe, Int.cast_ofNat_Int, Int.toNat_natCast_add_one, Nat.add_left_cancel_iff, Nat.left_eq_add, Nat.add_eq_left, Int.toNat_natCast, Nat.add_assoc, Int.ofNat_lt, Int.ofNat_le], by simp only [go_sem, Wk_block, Wk_drawnC, reduceCtorEq, Nat.reduceEqDiff, Nat.reduceAdd, Nat.reduceLeDiff, Nat.reduceLT, Nat.reduceMul, Nat.reduceSub, ↓reduceIte, Int.reduceLT, Int.reduceLE, Int.reduceNeg, Int.reduceAdd, Int.reduceEq, Nat.reduceBneDiff, Nat.reduceBEq, Int.reduceToNat, Int.reduceMul, Int.reduceSub, Int.reduceBEq, Int.reduceBNe, Int.cast_ofNat_Int, Int.toNat_natCast_add_one, Nat.add_left_cancel_iff, Nat.left_eq_add, Nat.add_eq_left, Int.toNat_natCast, Nat.add_assoc, Int.ofNat_lt, Int.ofNat_le, hL], by rw [List.take_length], rfl⟩
  rintro j ts s2 ⟨_, rfl, hj, g5, g0, g1, g4, hs, rfl⟩ IH
  unfold Lies at hl1
  cases j with
  | zero =>
    have e0 : (((0 : Nat) : Int) - 1) = -1 := by omega
    rw [e0] at g5
    have h7 : ¬ (0 : Int) ≤ -1 := by omega
    simp -implicitDefEqProofs only [go_sem, Wk_block, Wk_drawnC, reduceCtorEq, Nat.reduceEqDiff, Nat.reduceAdd, Nat.reduceLeDiff, Nat.reduceLT, Nat.reduceMul, Nat.reduceSub, ↓reduceIte, Int.reduceLT, Int.reduceLE, Int.reduceNeg, Int.reduceAdd, Int.reduceEq, Nat.reduceBneDiff, Nat.reduceBEq, Int.reduceToNat, Int.reduceMul, Int.reduceSub, Int.reduceBEq, Int.reduceBNe, Int.cast_ofNat_Int, Int.toNat_natCast_add_one, Nat.add_left_cancel_iff, Nat.left_eq_add, Nat.add_eq_left, Int.toNat_natCast, Nat.add_assoc, Int.ofNat_lt, Int.ofNat_le, Nat.lt_add_one_of_lt, Nat.lt_add_one, Nat.lt_add_right, Nat.lt_add_right_iff_pos, Nat.add_lt_add_iff_left, g5, g4, hl1, h7, Vw.enc]
    refine ⟨?_, ?_⟩
    · rw [← hs]
      rcases hi with rfl | rfl <;> rfl
    · exact f1.put hsL _
  | succ j =>
    have e0 : (((j + 1 : Nat) : Int) - 1) = (j : Int) := by omega
    rw [e0] at g5
    have hjl : j < (ms.map Mo.cells).length := by rw [List.length_map]; omega
    have hlt : j < ms.length := by omega
    obtain ⟨vs, hv, hp, hq⟩ := (hA.mono f1).part j hjl
    simp only [List.getElem_map] at hp hq
    have hok := hm ms[j] (List.getElem_mem hlt)
    have hlv := lastV_take hlt
    generalize hx : ms[j] = x at hp hq hok hlv
    have hge : (0 : Int) ≤ (j : Int) := by omega
    have w1 : IntKind.i64.wrap ((j : Int) - 1) = (j : Int) - 1 := i64_in (by omega) (by omega)
    have q0 := hq 44 (by omega)
    have q1 := hq 51 (by omega)
    have q2 := hp 44 7 (by omega)
    have q3 := hp 51 7 (by omega)
    rw [hok.u0] at q0
    rw [hok.u1] at q1
    rw [hok.c0] at q2
    rw [hok.c1] at q3
    simp only [Nat.add_assoc, Nat.reduceAdd] at q0 q1 q2 q3
    rcases hi with rfl | rfl
    · cases hu : x.v0.up
      · rw [hu] at q0 hlv
        simp -implicitDefEqProofs only [go_sem, Wk_block, Wk_drawnC, reduceCtorEq, Nat.reduceEqDiff, Nat.reduceAdd, Nat.reduceLeDiff, Nat.reduceLT, Nat.reduceMul, Nat.reduceSub, ↓reduceIte, Int.reduceLT, Int.reduceLE, Int.reduceNeg, Int.reduceAdd, Int.reduceEq, Nat.reduceBneDiff, Nat.reduceBEq, Int.reduceToNat, Int.reduceMul, Int.reduceSub, Int.reduceBEq, Int.reduceBNe, Int.cast_ofNat_Int, Int.toNat_natCast_add_one, Nat.add_left_cancel_iff, Nat.left_eq_add, Nat.add_eq_left, Int.toNat_natCast, Nat.add_assoc, Int.ofNat_lt, Int.ofNat_le, Nat.lt_add_one_of_lt, Nat.lt_add_one, Nat.lt_add_right, Nat.lt_add_right_iff_pos, Nat.add_lt_add_iff_left, g5, g0, g1, g4, hge, hA.idx _ _ hjl, hv, q0, w1]
        refine IH j _ _ (by omega) ⟨j, rfl, by omega, ?_, ?_, ?_, ?_, by rw [← hs, hlv]; simp [sel], rfl⟩
        all_goals simp only [go_sem, Wk_block, Wk_drawnC, reduceCtorEq, Nat.reduceEqDiff, Nat.reduceAdd, Nat.reduceLeDiff, Nat.reduceLT, Nat.reduceMul, Nat.reduceSub, ↓reduceIte, Int.reduceLT, Int.reduceLE, Int.reduceNeg, Int.reduceAdd, Int.reduceEq, Nat.reduceBneDiff, Nat.reduceBEq, Int.reduceToNat, Int.reduceMul, Int.reduceSub, Int.reduceBEq, Int.reduceBNe, Int.cast_ofNat_Int, Int.toNat_natCast_add_one, Nat.add_left_cancel_iff, Nat.left_eq_add, Nat.add_eq_left, Int.toNat_natCast, Nat.add_assoc, Int.ofNat_lt, Int.ofNat_le, g0, g1, g4]
      · rw [hu] at q0 hlv
        unfold Vw.enc at q2
        simp -implicitDefEqProofs only [go_sem, Wk_block, Wk_drawnC, reduceCtorEq, Nat.reduceEqDiff, Nat.reduceAdd, Nat.reduceLeDiff, Nat.reduceLT, Nat.reduceMul, Nat.reduceSub, ↓reduceIte, Int.reduceLT, Int.reduceLE, Int.reduceNeg, Int.reduceAdd, Int.reduceEq, Nat.reduceBneDiff, Nat.reduceBEq, Int.reduceToNat, Int.reduceMul, Int.reduceSub, Int.reduceBEq, Int.reduceBNe, Int.cast_ofNat_Int, Int.toNat_natCast_add_one, Nat.add_left_cancel_iff, Nat.left_eq_add, Nat.add_eq_left, Int.toNat_natCast, Nat.add_assoc, Int.ofNat_lt, Int.ofNat_le, Nat.lt_add_one_of_lt, Nat.lt_add_one, Nat.lt_add_right, Nat.lt_add_right_iff_pos, Nat.add_lt_add_iff_left, g5, g0, g1, g4, hge, hA.idx _ _ hjl, hv, q0, q2, w1, hl1]
        refine ⟨?_, ?_⟩
        · rw [← hs, hlv]; simp [sel, Vw.enc]
        · exact f1.put hsL _
    · cases hu : x.v1.up
      · rw [hu] at q1 hlv
        simp -implicitDefEqProofs only [go_sem, Wk_block, Wk_drawnC, reduceCtorEq, Nat.reduceEqDiff, Nat.reduceAdd, Nat.reduceLeDiff, Nat.reduceLT, Nat.reduceMul, Nat.reduceSub, ↓reduceIte, Int.reduceLT, Int.reduceLE, Int.reduceNeg, Int.reduceAdd, Int.reduceEq, Nat.reduceBneDiff, Nat.reduceBEq, Int.reduceToNat, Int.reduceMul, Int.reduceSub, Int.reduceBEq, Int.reduceBNe, Int.cast_ofNat_Int, Int.toNat_natCast_add_one, Nat.add_left_cancel_iff, Nat.left_eq_add, Nat.add_eq_left, Int.toNat_natCast, Nat.add_assoc, Int.ofNat_lt, Int.ofNat_le, Nat.lt_add_one_of_lt, Nat.lt_add_one, Nat.lt_add_right, Nat.lt_add_right_iff_pos, Nat.add_lt_add_iff_left, g5, g0, g1, g4, hge, hA.idx _ _ hjl, hv, q1, w1]
        refine IH j _ _ (by omega) ⟨j, rfl, by omega, ?_, ?_, ?_, ?_, by rw [← hs, hlv]; simp [sel], rfl⟩
        all_goals simp only [go_sem, Wk_block, Wk_drawnC, reduceCtorEq, Nat.reduceEqDiff, Nat.reduceAdd, Nat.reduceLeDiff, Nat.reduceLT, Nat.reduceMul, Nat.reduceSub, ↓reduceIte, Int.reduceLT, Int.reduceLE, Int.reduceNeg, Int.reduceAdd, Int.reduceEq, Nat.reduceBneDiff, Nat.reduceBEq, Int.reduceToNat, Int.reduceMul, Int.reduceSub, Int.reduceBEq, Int.reduceBNe, Int.cast_ofNat_Int, Int.toNat_natCast_add_one, Nat.add_left_cancel_iff, Nat.left_eq_add, Nat.add_eq_left, Int.toNat_natCast, Nat.add_assoc, Int.ofNat_lt, Int.ofNat_le, g0, g1, g4]
      · rw [hu] at q1 hlv
        unfold Vw.enc at q3
        simp -implicitDefEqProofs only [go_sem, Wk_block, Wk_drawnC, reduceCtorEq, Nat.reduceEqDiff, Nat.reduceAdd, Nat.reduceLeDiff, Nat.reduceLT, Nat.reduceMul, Nat.reduceSub, ↓reduceIte, Int.reduceLT, Int.reduceLE, Int.reduceNeg, Int.reduceAdd, Int.reduceEq, Nat.reduceBneDiff, Nat.reduceBEq, Int.reduceToNat, Int.reduceMul, Int.reduceSub, Int.reduceBEq, Int.reduceBNe, Int.cast_ofNat_Int, Int.toNat_natCast_add_one, Nat.add_left_cancel_iff, Nat.left_eq_add, Nat.add_eq_left, Int.toNat_natCast, Nat.add_assoc, Int.ofNat_lt, Int.ofNat_le, Nat.lt_add_one_of_lt, Nat.lt_add_one, Nat.lt_add_right, Nat.lt_add_right_iff_pos, Nat.add_lt_add_iff_left, g5, g0, g1, g4, hge, hA.idx _ _ hjl, hv, q1, q3, w1, hl1]
        refine ⟨?_, ?_⟩
        · rw [← hs, hlv]; simp [sel, Vw.enc]
        · exact f1.put hsL _
end Go.Proofs.Yteffppdkofdmdaa
namespace Go.Proofs.Yteffppdkofdmdaa
open D
set_option linter.unusedSimpArgs false
set_option linter.unusedVariables false
set_option maxRecDepth 10000

theorem RisesR_run (ms : List Mo) (hm : ∀ m ∈ ms, MoOk m) {v : AV} {ba oa : Nat} {s : St} (hA : Acc s v 58 (ms.map Mo.cells) ba oa) :
    Wf mm 13 [v] s fun w s' => (∃ b : Bool, w = .bool b ∧ (b = true ↔ ∀ j (h : j < ms.length), okR (lastV (ms.take j)) ms[j] = true)) ∧ Fr s s' := by
  refine Wf_enter ft13 (sm (by decide)) (by rfl) ?_
  have hmax := hA.max
  rw [List.length_map] at hmax
  unfold maxLen at hmax
  simp -implicitDefEqProofs only [go_sem, Wk_block, Wk_drawnC, reduceCtorEq, Nat.reduceEqDiff, Nat.reduceAdd, Nat.reduceLeDiff, Nat.reduceLT, Nat.reduceMul, Nat.reduceSub, ↓reduceIte, Int.reduceLT, Int.reduceLE, Int.reduceNeg, Int.reduceAdd, Int.reduceEq, Nat.reduceBneDiff, Nat.reduceBEq, Int.reduceToNat, Int.reduceMul, Int.reduceSub, Int.reduceBEq, Int.reduceBNe, Int.cast_ofNat_Int, Int.toNat_natCast_add_one, Nat.add_left_cancel_iff, Nat.left_eq_add, Nat.add_eq_left, Int.toNat_natCast, Nat.add_assoc, Int.ofNat_lt, Int.ofNat_le, Nat.lt_add_one_of_lt, Nat.lt_add_one, Nat.lt_add_right, Nat.lt_add_right_iff_pos, Nat.add_lt_add_iff_left, fd13, hA.len, List.length_map]
  refine loop_ind (fun m ts s' => ∃ j : Nat, m = ms.length - j ∧ j ≤ ms.length ∧ ts.get 8 = some (.int .i64 j) ∧ ts.get 7 = some (.int .i64 ms.length) ∧ ts.get 6 = some v ∧ ts.get 0 = some v ∧ Fr s s' ∧
    ∀ i (h : i < ms.length), i < j → okR (lastV (ms.take i)) ms[i] = true) ?_ (n := ms.length)
    ⟨0, by omega, by omega, by simp only [go_sem, Wk_block, Wk_drawnC, reduceCtorEq, Nat.reduceEqDiff, Nat.reduceAdd, Nat.reduceLeDiff, Nat.reduceLT, Nat.reduceMul, Nat.reduceSub, ↓reduceIte, Int.reduceLT, Int.reduceLE, Int.reduceNeg, Int.reduceAdd, Int.reduceEq, Nat.reduceBneDiff, Nat.reduceBEq, Int.reduceToNat, Int.reduceMul, Int.reduceSub, Int.reduceBEq, Int.reduceBNe, Int.cast_ofNat_Int, Int.toNat_natCast_add_one, Nat.add_left_cancel_iff, Nat.left_eq_add, Nat.add_eq_left, Int.toNat_natCast, Nat.add_assoc, Int.ofNat_lt, Int.ofNat_le], by simp only [go_sem, Wk_block, Wk_drawnC, reduceCtorEq, Nat.reduceEqDiff, Nat.reduceAdd, Nat.reduceLeDiff, Nat.reduceLT, Nat.reduceMul, Nat.reduceSub, ↓reduceIte, Int.reduceLT, Int.reduceLE, Int.reduceNeg, Int.reduceAdd, Int.reduceEq, Nat.reduceBneDiff, Nat.reduceBEq, Int.reduceToNat, Int.reduceMul, Int.reduceSub, Int.reduceBEq, Int.reduceBNe, Int.cast_ofNat_Int, Int.toNat_natCast_add_one, Nat.add_left_cancel_iff, Nat.left_eq_add, Nat.add_eq_left, Int.toNat_natCast, Nat.add_assoc, Int.ofNat_lt, Int.ofNat_le], by simp only [go_sem, Wk_block, Wk_drawnC, reduceCtorEq, Nat.reduceEqDiff, Nat.reduceAdd, Nat.reduceLeDiff, Nat.reduceLT, Nat.reduceMul, Nat.reduceSub, ↓reduceIte, Int.reduceLT, Int.reduceLE, Int.reduceNeg, Int.reduceAdd, Int.reduceEq, Nat.reduceBneDiff, Nat.reduceBEq, Int.reduceToNat, Int.reduceMul, Int.reduceSub, Int.reduceBEq, Int.reduceBNe, Int.cast_ofNat_Int, Int.toNat_natCast_add_one, Nat.add_left_cancel_iff, Nat.left_eq_add, Nat.add_eq_left, Int.toNat_natCast, Nat.add_assoc, Int.ofNat_lt, Int.ofNat_le], by simp only [go_sem, Wk_block, Wk_drawnC, reduceCtorEq, Nat.reduceEqDiff, Nat.reduceAdd, Nat.reduceLeDiff, Nat.reduceLT, Nat.reduceMul, Nat.reduceSub, ↓reduceIte, Int.reduceLT, Int.reduceLE, Int.reduceNeg, Int.reduceAdd, Int.reduceEq, Nat.reduceBneDiff, Nat.reduceBEq, Int.reduceToNat, Int.reduceMul, Int.reduceSub, Int.reduceBEq, Int.reduceBNe, Int.cast_ofNat_Int, Int.toNat_natCast_add_one, Nat.add_left_cancel_iff, Nat.left_eq_add, Nat.add_eq_left, Int.toNat_natCast, Nat.add_assoc, Int.ofNat_lt, Int.ofNat_le], Fr.refl s, fun i _ h => by omega⟩
  rintro m ts s1 ⟨j, rfl, hj, g8, g7, g6, g0, f1, hall⟩ IH
  by_cases hlt : j < ms.length
  · have hjl : j < (ms.map Mo.cells).length := by rw [List.length_map]; exact hlt
    have hA1 := hA.mono f1
    obtain ⟨vs, hv, hp, hq⟩ := hA1.part j hjl
    simp only [List.getElem_map] at hp hq
    have hok := hm ms[j] (List.getElem_mem hlt)
    have hp0 := hp 0 58 (by omega)
    have hstep : okR (lastV (ms.take j)) ms[j] = true → ∀ i (h : i < ms.length), i < j + 1 → okR (lastV (ms.take i)) ms[i] = true := by
      intro h i hi hij
      by_cases hij' : i = j
      · subst hij'; exact h
      · exact hall i hi (by omega)
    have hbad : okR (lastV (ms.take j)) ms[j] = false → ¬ ∀ i (h : i < ms.length), okR (lastV (ms.take i)) ms[i] = true := fun h k => by rw [k j hlt] at h; cases h
    generalize hx : ms[j] = x at *
    have hlen := hok.len
    have hcell := hok.cell
    have ht : x.cells.take 58 = x.cells := List.take_of_length_le (by omega)
    simp only [Nat.add_zero, Nat.add_assoc, List.drop_zero, ht] at hp0
    obtain ⟨e, he⟩ : ∃ e, s1.next = e := ⟨_, rfl⟩
    have w9 := succ_in (j := j) (by omega)
    simp -implicitDefEqProofs only [go_sem, Wk_block, Wk_drawnC, reduceCtorEq, Nat.reduceEqDiff, Nat.reduceAdd, Nat.reduceLeDiff, Nat.reduceLT, Nat.reduceMul, Nat.reduceSub, ↓reduceIte, Int.reduceLT, Int.reduceLE, Int.reduceNeg, Int.reduceAdd, Int.reduceEq, Nat.reduceBneDiff, Nat.reduceBEq, Int.reduceToNat, Int.reduceMul, Int.reduceSub, Int.reduceBEq, Int.reduceBNe, Int.cast_ofNat_Int, Int.toNat_natCast_add_one, Nat.add_left_cancel_iff, Nat.left_eq_add, Nat.add_eq_left, Int.toNat_natCast, Nat.add_assoc, Int.ofNat_lt, Int.ofNat_le, Nat.lt_add_one_of_lt, Nat.lt_add_one, Nat.lt_add_right, Nat.lt_add_right_iff_pos, Nat.add_lt_add_iff_left, g8, g7, g6, g0, hlt, hA1.idx _ _ hjl, hv, hp0, hlen, hcell, w9]
    have f2 : Fr s (s1.new (.cells x.cells false false 0)) := f1.new _
    have hl2 : Lies (s1.new (.cells x.cells false false 0)) e x.cells := by rw [← he]; simp only [Lies, St.get_new, if_true]
    have hn2 : e < (s1.new (.cells x.cells false false 0)).next := by rw [← he]; exact Nat.lt_succ_self _
    obtain ⟨v', hs', hA'⟩ := hA.take (j := j) (by rw [List.length_map]; omega) (by rw [List.length_map]; omega)
    rw [← List.map_take] at hA'
    have hm' : ∀ m ∈ ms.take j, MoOk m := fun m hm1 => hm m (List.mem_of_mem_take hm1)
    generalize hla : lastV (ms.take j) = la at *
    rw [he]
    generalize s1.new (.cells x.cells false false 0) = s2 at *
    refine loop_ind (fun m ts s' => ∃ i : Int, m = (2 - i).toNat ∧ (i = 0 ∨ i = 1 ∨ i = 2) ∧ ts.get 5 = some (.int .i64 i) ∧ ts.get 4 = some (.ptr e 0) ∧ ts.get 3 = some (.int .i64 j) ∧
      ts.get 8 = some (.int .i64 j) ∧ ts.get 7 = some (.int .i64 ms.length) ∧ ts.get 6 = some v ∧ ts.get 0 = some v ∧ Fr s2 s' ∧
      (1 ≤ i → (x.v0.up && decide (x.v0.ex.lt la.1.ex)) = false) ∧ (2 ≤ i → (x.v1.up && decide (x.v1.ex.lt la.2.ex)) = false)) ?_ (n := 2)
      ⟨0, rfl, .inl rfl, by simp only [go_sem, Wk_block, Wk_drawnC, reduceCtorEq, Nat.reduceEqDiff, Nat.reduceAdd, Nat.reduceLeDiff, Nat.reduceLT, Nat.reduceMul, Nat.reduceSub, ↓reduceIte, Int.reduceLT, Int.reduceLE, Int.reduceNeg, Int.reduceAdd, Int.reduceEq, Nat.reduceBneDiff, Nat.reduceBEq, Int.reduceToNat, Int.reduceMul, Int.reduceSub, Int.reduceBEq, Int.reduceBNe, Int.cast_ofNat_Int, Int.toNat_natCast_add_one, Nat.add_left_cancel_iff, Nat.left_eq_add, Nat.add_eq_left, Int.toNat_natCast, Nat.add_assoc, Int.ofNat_lt, Int.ofNat_le], by simp only [go_sem, Wk_block, Wk_drawnC, reduceCtorEq, Nat.reduceEqDiff, Nat.reduceAdd, Nat.reduceLeDiff, Nat.reduceLT, Nat.reduceMul, Nat.reduceSub, ↓reduceIte, Int.reduceLT, Int.reduceLE, Int.reduceNeg, Int.reduceAdd, Int.reduceEq, Nat.reduceBneDiff, Nat.reduceBEq, Int.reduceToNat, Int.reduceMul, Int.reduceSub, Int.reduceBEq, Int.reduceBNe, Int.cast_ofNat_Int, Int.toNat_natCast_add_one, Nat.add_left_cancel_iff, Nat.left_eq_add, Nat.add_eq_left, Int.toNat_natCast, Nat.add_assoc, Int.ofNat_lt, Int.ofNat_le, he], by simp only [go_sem, Wk_block, Wk_drawnC, reduceCtorEq, Nat.reduceEqDiff, Nat.reduceAdd, Nat.reduceLeDiff, Nat.reduceLT, Nat.reduceMul, Nat.reduceSub, ↓reduceIte, Int.reduceLT, Int.reduceLE, Int.reduceNeg, Int.reduceAdd, Int.reduceEq, Nat.reduceBneDiff, Nat.reduceBEq, Int.reduceToNat, Int.reduceMul, Int.reduceSub, Int.reduceBEq, Int.reduceBNe, Int.cast_ofNat_Int, Int.toNat_natCast_add_one, Nat.add_left_cancel_iff, Nat.left_eq_add, Nat.add_eq_left, Int.toNat_natCast, Nat.add_assoc, Int.ofNat_lt, Int.ofNat_le, g8], by simp only [go_sem, Wk_block, Wk_drawnC, reduceCtorEq, Nat.reduceEqDiff, Nat.reduceAdd, Nat.reduceLeDiff, Nat.reduceLT, Nat.reduceMul, Nat.reduceSub, ↓reduceIte, Int.reduceLT, Int.reduceLE, Int.reduceNeg, Int.reduceAdd, Int.reduceEq, Nat.reduceBneDiff, Nat.reduceBEq, Int.reduceToNat, Int.reduceMul, Int.reduceSub, Int.reduceBEq, Int.reduceBNe, Int.cast_ofNat_Int, Int.toNat_natCast_add_one, Nat.add_left_cancel_iff, Nat.left_eq_add, Nat.add_eq_left, Int.toNat_natCast, Nat.add_assoc, Int.ofNat_lt, Int.ofNat_le, g8], by simp only [go_sem, Wk_block, Wk_drawnC, reduceCtorEq, Nat.reduceEqDiff, Nat.reduceAdd, Nat.reduceLeDiff, Nat.reduceLT, Nat.reduceMul, Nat.reduceSub, ↓reduceIte, Int.reduceLT, Int.reduceLE, Int.reduceNeg, Int.reduceAdd, Int.reduceEq, Nat.reduceBneDiff, Nat.reduceBEq, Int.reduceToNat, Int.reduceMul, Int.reduceSub, Int.reduceBEq, Int.reduceBNe, Int.cast_ofNat_Int, Int.toNat_natCast_add_one, Nat.add_left_cancel_iff, Nat.left_eq_add, Nat.add_eq_left, Int.toNat_natCast, Nat.add_assoc, Int.ofNat_lt, Int.ofNat_le, g7], by simp only [go_sem, Wk_block, Wk_drawnC, reduceCtorEq, Nat.reduceEqDiff, Nat.reduceAdd, Nat.reduceLeDiff, Nat.reduceLT, Nat.reduceMul, Nat.reduceSub, ↓reduceIte, Int.reduceLT, Int.reduceLE, Int.reduceNeg, Int.reduceAdd, Int.reduceEq, Nat.reduceBneDiff, Nat.reduceBEq, Int.reduceToNat, Int.reduceMul, Int.reduceSub, Int.reduceBEq, Int.reduceBNe, Int.cast_ofNat_Int, Int.toNat_natCast_add_one, Nat.add_left_cancel_iff, Nat.left_eq_add, Nat.add_eq_left, Int.toNat_natCast, Nat.add_assoc, Int.ofNat_lt, Int.ofNat_le, g6], by simp only [go_sem, Wk_block, Wk_drawnC, reduceCtorEq, Nat.reduceEqDiff, Nat.reduceAdd, Nat.reduceLeDiff, Nat.reduceLT, Nat.reduceMul, Nat.reduceSub, ↓reduceIte, Int.reduceLT, Int.reduceLE, Int.reduceNeg, Int.reduceAdd, Int.reduceEq, Nat.reduceBneDiff, Nat.reduceBEq, Int.reduceToNat, Int.reduceMul, Int.reduceSub, Int.reduceBEq, Int.reduceBNe, Int.cast_ofNat_Int, Int.toNat_natCast_add_one, Nat.add_left_cancel_iff, Nat.left_eq_add, Nat.add_eq_left, Int.toNat_natCast, Nat.add_assoc, Int.ofNat_lt, Int.ofNat_le, g0], Fr.refl _, fun h => by omega, fun h => by omega⟩
    clear g8 g7 g6 g0
    rintro n ts s3 ⟨i, rfl, hi, g5, g4, g3, g8, g7, g6, g0, f3, ok0, ok1⟩ IH2
    have hl3 : s3.get e = _ := (f3.get e hn2).trans hl2
    have f13 := f2.trans f3
    have w1 : IntKind.i64.wrap 1 = 1 := rfl
    have ft : (false == true) = false := rfl
    have w2 : IntKind.i64.wrap 2 = 2 := rfl
    have u0 := hok.u0
    have u1 := hok.u1
    have x0 := hok.x0
    have x1 := hok.x1
    have c1 : 49 ≤ x.cells.length := by omega
    have c2 : 56 ≤ x.cells.length := by omega
    rcases hi with rfl | rfl | rfl
    · cases hu : x.v0.up
      · rw [hu] at u0
        simp -implicitDefEqProofs only [go_sem, Wk_block, Wk_drawnC, reduceCtorEq, Nat.reduceEqDiff, Nat.reduceAdd, Nat.reduceLeDiff, Nat.reduceLT, Nat.reduceMul, Nat.reduceSub, ↓reduceIte, Int.reduceLT, Int.reduceLE, Int.reduceNeg, Int.reduceAdd, Int.reduceEq, Nat.reduceBneDiff, Nat.reduceBEq, Int.reduceToNat, Int.reduceMul, Int.reduceSub, Int.reduceBEq, Int.reduceBNe, Int.cast_ofNat_Int, Int.toNat_natCast_add_one, Nat.add_left_cancel_iff, Nat.left_eq_add, Nat.add_eq_left, Int.toNat_natCast, Nat.add_assoc, Int.ofNat_lt, Int.ofNat_le, Nat.lt_add_one_of_lt, Nat.lt_add_one, Nat.lt_add_right, Nat.lt_add_right_iff_pos, Nat.add_lt_add_iff_left, g5, g4, g3, g0, hl3, u0, w1, ft]
        refine IH2 (1 : Int).toNat _ _ (by decide) ⟨1, rfl, by simp, ?_, ?_, ?_, ?_, ?_, ?_, ?_, f3, fun _ => by rw [hu]; rfl, fun h => by omega⟩
        all_goals simp only [go_sem, Wk_block, Wk_drawnC, reduceCtorEq, Nat.reduceEqDiff, Nat.reduceAdd, Nat.reduceLeDiff, Nat.reduceLT, Nat.reduceMul, Nat.reduceSub, ↓reduceIte, Int.reduceLT, Int.reduceLE, Int.reduceNeg, Int.reduceAdd, Int.reduceEq, Nat.reduceBneDiff, Nat.reduceBEq, Int.reduceToNat, Int.reduceMul, Int.reduceSub, Int.reduceBEq, Int.reduceBNe, Int.cast_ofNat_Int, Int.toNat_natCast_add_one, Nat.add_left_cancel_iff, Nat.left_eq_add, Nat.add_eq_left, Int.toNat_natCast, Nat.add_assoc, Int.ofNat_lt, Int.ofNat_le, g4, g3, g8, g7, g6, g0]
      · rw [hu] at u0
        simp -implicitDefEqProofs only [go_sem, Wk_block, Wk_drawnC, reduceCtorEq, Nat.reduceEqDiff, Nat.reduceAdd, Nat.reduceLeDiff, Nat.reduceLT, Nat.reduceMul, Nat.reduceSub, ↓reduceIte, Int.reduceLT, Int.reduceLE, Int.reduceNeg, Int.reduceAdd, Int.reduceEq, Nat.reduceBneDiff, Nat.reduceBEq, Int.reduceToNat, Int.reduceMul, Int.reduceSub, Int.reduceBEq, Int.reduceBNe, Int.cast_ofNat_Int, Int.toNat_natCast_add_one, Nat.add_left_cancel_iff, Nat.left_eq_add, Nat.add_eq_left, Int.toNat_natCast, Nat.add_assoc, Int.ofNat_lt, Int.ofNat_le, Nat.lt_add_one_of_lt, Nat.lt_add_one, Nat.lt_add_right, Nat.lt_add_right_iff_pos, Nat.add_lt_add_iff_left, g5, g4, g3, g0, hl3, u0, x0, c1, hs', w1]
        refine Wl_of (Last_run _ hm' (hA'.mono f13) 0 (.inl rfl)) ?_
        rintro _ s4 ⟨rfl, f4⟩
        rw [hla]
        simp -implicitDefEqProofs only [go_sem, Wk_block, Wk_drawnC, reduceCtorEq, Nat.reduceEqDiff, Nat.reduceAdd, Nat.reduceLeDiff, Nat.reduceLT, Nat.reduceMul, Nat.reduceSub, ↓reduceIte, Int.reduceLT, Int.reduceLE, Int.reduceNeg, Int.reduceAdd, Int.reduceEq, Nat.reduceBneDiff, Nat.reduceBEq, Int.reduceToNat, Int.reduceMul, Int.reduceSub, Int.reduceBEq, Int.reduceBNe, Int.cast_ofNat_Int, Int.toNat_natCast_add_one, Nat.add_left_cancel_iff, Nat.left_eq_add, Nat.add_eq_left, Int.toNat_natCast, Nat.add_assoc, Int.ofNat_lt, Int.ofNat_le, Nat.lt_add_one_of_lt, Nat.lt_add_one, Nat.lt_add_right, Nat.lt_add_right_iff_pos, Nat.add_lt_add_iff_left, sel0, Vw.enc]
        refine Wl_of (less_run x.v0.ex la.1.ex _) ?_
        rintro _ s5 ⟨rfl, f5⟩
        have f35 := f4.trans f5
        have hl4 : s4.get e = _ := (f4.get e (by have := f3.le; omega)).trans hl3
        simp -implicitDefEqProofs only [go_sem, Wk_block, Wk_drawnC, reduceCtorEq, Nat.reduceEqDiff, Nat.reduceAdd, Nat.reduceLeDiff, Nat.reduceLT, Nat.reduceMul, Nat.reduceSub, ↓reduceIte, Int.reduceLT, Int.reduceLE, Int.reduceNeg, Int.reduceAdd, Int.reduceEq, Nat.reduceBneDiff, Nat.reduceBEq, Int.reduceToNat, Int.reduceMul, Int.reduceSub, Int.reduceBEq, Int.reduceBNe, Int.cast_ofNat_Int, Int.toNat_natCast_add_one, Nat.add_left_cancel_iff, Nat.left_eq_add, Nat.add_eq_left, Int.toNat_natCast, Nat.add_assoc, Int.ofNat_lt, Int.ofNat_le, Nat.lt_add_one_of_lt, Nat.lt_add_one, Nat.lt_add_right, Nat.lt_add_right_iff_pos, Nat.add_lt_add_iff_left, g5, w1, hl3, hl4, x0, c1]
        refine Wi_split (fun hg => ?_) (fun hg => ?_)
        · have hlt := of_decide_eq_true hg
          simp only [go_sem, Wk_block, Wk_drawnC, reduceCtorEq, Nat.reduceEqDiff, Nat.reduceAdd, Nat.reduceLeDiff, Nat.reduceLT, Nat.reduceMul, Nat.reduceSub, ↓reduceIte, Int.reduceLT, Int.reduceLE, Int.reduceNeg, Int.reduceAdd, Int.reduceEq, Nat.reduceBneDiff, Nat.reduceBEq, Int.reduceToNat, Int.reduceMul, Int.reduceSub, Int.reduceBEq, Int.reduceBNe, Int.cast_ofNat_Int, Int.toNat_natCast_add_one, Nat.add_left_cancel_iff, Nat.left_eq_add, Nat.add_eq_left, Int.toNat_natCast, Nat.add_assoc, Int.ofNat_lt, Int.ofNat_le]
          refine ⟨⟨false, rfl, fun h => (by cases h), fun h => absurd h (hbad ?_)⟩, f13.trans f35⟩
          simp [okR, hu, hlt]
        · have hlt := of_decide_eq_false hg
          simp -implicitDefEqProofs only [go_sem, Wk_block, Wk_drawnC, reduceCtorEq, Nat.reduceEqDiff, Nat.reduceAdd, Nat.reduceLeDiff, Nat.reduceLT, Nat.reduceMul, Nat.reduceSub, ↓reduceIte, Int.reduceLT, Int.reduceLE, Int.reduceNeg, Int.reduceAdd, Int.reduceEq, Nat.reduceBneDiff, Nat.reduceBEq, Int.reduceToNat, Int.reduceMul, Int.reduceSub, Int.reduceBEq, Int.reduceBNe, Int.cast_ofNat_Int, Int.toNat_natCast_add_one, Nat.add_left_cancel_iff, Nat.left_eq_add, Nat.add_eq_left, Int.toNat_natCast, Nat.add_assoc, Int.ofNat_lt, Int.ofNat_le, Nat.lt_add_one_of_lt, Nat.lt_add_one, Nat.lt_add_right, Nat.lt_add_right_iff_pos, Nat.add_lt_add_iff_left, g5, w1]
          refine IH2 (1 : Int).toNat _ _ (by decide) ⟨1, rfl, by simp, ?_, ?_, ?_, ?_, ?_, ?_, ?_, f3.trans f35, fun _ => by simp [hlt], fun h => by omega⟩
          all_goals simp only [go_sem, Wk_block, Wk_drawnC, reduceCtorEq, Nat.reduceEqDiff, Nat.reduceAdd, Nat.reduceLeDiff, Nat.reduceLT, Nat.reduceMul, Nat.reduceSub, ↓reduceIte, Int.reduceLT, Int.reduceLE, Int.reduceNeg, Int.reduceAdd, Int.reduceEq, Nat.reduceBneDiff, Nat.reduceBEq, Int.reduceToNat, Int.reduceMul, Int.reduceSub, Int.reduceBEq, Int.reduceBNe, Int.cast_ofNat_Int, Int.toNat_natCast_add_one, Nat.add_left_cancel_iff, Nat.left_eq_add, Nat.add_eq_left, Int.toNat_natCast, Nat.add_assoc, Int.ofNat_lt, Int.ofNat_le, g4, g3, g8, g7, g6, g0]
    · cases hu : x.v1.up
      · rw [hu] at u1
        simp -implicitDefEqProofs only [go_sem, Wk_block, Wk_drawnC, reduceCtorEq, Nat.reduceEqDiff, Nat.reduceAdd, Nat.reduceLeDiff, Nat.reduceLT, Nat.reduceMul, Nat.reduceSub, ↓reduceIte, Int.reduceLT, Int.reduceLE, Int.reduceNeg, Int.reduceAdd, Int.reduceEq, Nat.reduceBneDiff, Nat.reduceBEq, Int.reduceToNat, Int.reduceMul, Int.reduceSub, Int.reduceBEq, Int.reduceBNe, Int.cast_ofNat_Int, Int.toNat_natCast_add_one, Nat.add_left_cancel_iff, Nat.left_eq_add, Nat.add_eq_left, Int.toNat_natCast, Nat.add_assoc, Int.ofNat_lt, Int.ofNat_le, Nat.lt_add_one_of_lt, Nat.lt_add_one, Nat.lt_add_right, Nat.lt_add_right_iff_pos, Nat.add_lt_add_iff_left, g5, g4, g3, g0, hl3, u1, w2, ft]
        refine IH2 (0 : Int).toNat _ _ (by decide) ⟨2, rfl, by simp, ?_, ?_, ?_, ?_, ?_, ?_, ?_, f3, fun _ => ok0 (by omega), fun _ => by rw [hu]; rfl⟩
        all_goals simp only [go_sem, Wk_block, Wk_drawnC, reduceCtorEq, Nat.reduceEqDiff, Nat.reduceAdd, Nat.reduceLeDiff, Nat.reduceLT, Nat.reduceMul, Nat.reduceSub, ↓reduceIte, Int.reduceLT, Int.reduceLE, Int.reduceNeg, Int.reduceAdd, Int.reduceEq, Nat.reduceBneDiff, Nat.reduceBEq, Int.reduceToNat, Int.reduceMul, Int.reduceSub, Int.reduceBEq, Int.reduceBNe, Int.cast_ofNat_Int, Int.toNat_natCast_add_one, Nat.add_left_cancel_iff, Nat.left_eq_add, Nat.add_eq_left, Int.toNat_natCast, Nat.add_assoc, Int.ofNat_lt, Int.ofNat_le, g4, g3, g8, g7, g6, g0]
      · rw [hu] at u1
        simp -implicitDefEqProofs only [go_sem, Wk_block, Wk_drawnC, reduceCtorEq, Nat.reduceEqDiff, Nat.reduceAdd, Nat.reduceLeDiff, Nat.reduceLT, Nat.reduceMul, Nat.reduceSub, ↓reduceIte, Int.reduceLT, Int.reduceLE, Int.reduceNeg, Int.reduceAdd, Int.reduceEq, Nat.reduceBneDiff, Nat.reduceBEq, Int.reduceToNat, Int.reduceMul, Int.reduceSub, Int.reduceBEq, Int.reduceBNe, Int.cast_ofNat_Int, Int.toNat_natCast_add_one, Nat.add_left_cancel_iff, Nat.left_eq_add, Nat.add_eq_left, Int.toNat_natCast, Nat.add_assoc, Int.ofNat_lt, Int.ofNat_le, Nat.lt_add_one_of_lt, Nat.lt_add_one, Nat.lt_add_right, Nat.lt_add_right_iff_pos, Nat.add_lt_add_iff_left, g5, g4, g3, g0, hl3, u1, x1, c2, hs', w2]
        refine Wl_of (Last_run _ hm' (hA'.mono f13) 1 (.inr rfl)) ?_
        rintro _ s4 ⟨rfl, f4⟩
        rw [hla]
        simp -implicitDefEqProofs only [go_sem, Wk_block, Wk_drawnC, reduceCtorEq, Nat.reduceEqDiff, Nat.reduceAdd, Nat.reduceLeDiff, Nat.reduceLT, Nat.reduceMul, Nat.reduceSub, ↓reduceIte, Int.reduceLT, Int.reduceLE, Int.reduceNeg, Int.reduceAdd, Int.reduceEq, Nat.reduceBneDiff, Nat.reduceBEq, Int.reduceToNat, Int.reduceMul, Int.reduceSub, Int.reduceBEq, Int.reduceBNe, Int.cast_ofNat_Int, Int.toNat_natCast_add_one, Nat.add_left_cancel_iff, Nat.left_eq_add, Nat.add_eq_left, Int.toNat_natCast, Nat.add_assoc, Int.ofNat_lt, Int.ofNat_le, Nat.lt_add_one_of_lt, Nat.lt_add_one, Nat.lt_add_right, Nat.lt_add_right_iff_pos, Nat.add_lt_add_iff_left, sel1, Vw.enc]
        refine Wl_of (less_run x.v1.ex la.2.ex _) ?_
        rintro _ s5 ⟨rfl, f5⟩
        have f35 := f4.trans f5
        have hl4 : s4.get e = _ := (f4.get e (by have := f3.le; omega)).trans hl3
        simp -implicitDefEqProofs only [go_sem, Wk_block, Wk_drawnC, reduceCtorEq, Nat.reduceEqDiff, Nat.reduceAdd, Nat.reduceLeDiff, Nat.reduceLT, Nat.reduceMul, Nat.reduceSub, ↓reduceIte, Int.reduceLT, Int.reduceLE, Int.reduceNeg, Int.reduceAdd, Int.reduceEq, Nat.reduceBneDiff, Nat.reduceBEq, Int.reduceToNat, Int.reduceMul, Int.reduceSub, Int.reduceBEq, Int.reduceBNe, Int.cast_ofNat_Int, Int.toNat_natCast_add_one, Nat.add_left_cancel_iff, Nat.left_eq_add, Nat.add_eq_left, Int.toNat_natCast, Nat.add_assoc, Int.ofNat_lt, Int.ofNat_le, Nat.lt_add_one_of_lt, Nat.lt_add_one, Nat.lt_add_right, Nat.lt_add_right_iff_pos, Nat.add_lt_add_iff_left, g5, w2, hl3, hl4, x1, c2]
        refine Wi_split (fun hg => ?_) (fun hg => ?_)
        · have hlt := of_decide_eq_true hg
          simp only [go_sem, Wk_block, Wk_drawnC, reduceCtorEq, Nat.reduceEqDiff, Nat.reduceAdd, Nat.reduceLeDiff, Nat.reduceLT, Nat.reduceMul, Nat.reduceSub, ↓reduceIte, Int.reduceLT, Int.reduceLE, Int.reduceNeg, Int.reduceAdd, Int.reduceEq, Nat.reduceBneDiff, Nat.reduceBEq, Int.reduceToNat, Int.reduceMul, Int.reduceSub, Int.reduceBEq, Int.reduceBNe, Int.cast_ofNat_Int, Int.toNat_natCast_add_one, Nat.add_left_cancel_iff, Nat.left_eq_add, Nat.add_eq_left, Int.toNat_natCast, Nat.add_assoc, Int.ofNat_lt, Int.ofNat_le]
          refine ⟨⟨false, rfl, fun h => (by cases h), fun h => absurd h (hbad ?_)⟩, f13.trans f35⟩
          simp [okR, hu, hlt]
        · have hlt := of_decide_eq_false hg
          simp -implicitDefEqProofs only [go_sem, Wk_block, Wk_drawnC, reduceCtorEq, Nat.reduceEqDiff, Nat.reduceAdd, Nat.reduceLeDiff, Nat.reduceLT, Nat.reduceMul, Nat.reduceSub, ↓reduceIte, Int.reduceLT, Int.reduceLE, Int.reduceNeg, Int.reduceAdd, Int.reduceEq, Nat.reduceBneDiff, Nat.reduceBEq, Int.reduceToNat, Int.reduceMul, Int.reduceSub, Int.reduceBEq, Int.reduceBNe, Int.cast_ofNat_Int, Int.toNat_natCast_add_one, Nat.add_left_cancel_iff, Nat.left_eq_add, Nat.add_eq_left, Int.toNat_natCast, Nat.add_assoc, Int.ofNat_lt, Int.ofNat_le, Nat.lt_add_one_of_lt, Nat.lt_add_one, Nat.lt_add_right, Nat.lt_add_right_iff_pos, Nat.add_lt_add_iff_left, g5, w2]
          refine IH2 (0 : Int).toNat _ _ (by decide) ⟨2, rfl, by simp, ?_, ?_, ?_, ?_, ?_, ?_, ?_, f3.trans f35, fun _ => ok0 (by omega), fun _ => by simp [hlt]⟩
          all_goals simp only [go_sem, Wk_block, Wk_drawnC, reduceCtorEq, Nat.reduceEqDiff, Nat.reduceAdd, Nat.reduceLeDiff, Nat.reduceLT, Nat.reduceMul, Nat.reduceSub, ↓reduceIte, Int.reduceLT, Int.reduceLE, Int.reduceNeg, Int.reduceAdd, Int.reduceEq, Nat.reduceBneDiff, Nat.reduceBEq, Int.reduceToNat, Int.reduceMul, Int.reduceSub, Int.reduceBEq, Int.reduceBNe, Int.cast_ofNat_Int, Int.toNat_natCast_add_one, Nat.add_left_cancel_iff, Nat.left_eq_add, Nat.add_eq_left, Int.toNat_natCast, Nat.add_assoc, Int.ofNat_lt, Int.ofNat_le, g4, g3, g8, g7, g6, g0]
    · simp -implicitDefEqProofs only [go_sem, Wk_block, Wk_drawnC, reduceCtorEq, Nat.reduceEqDiff, Nat.reduceAdd, Nat.reduceLeDiff, Nat.reduceLT, Nat.reduceMul, Nat.reduceSub, ↓reduceIte, Int.reduceLT, Int.reduceLE, Int.reduceNeg, Int.reduceAdd, Int.reduceEq, Nat.reduceBneDiff, Nat.reduceBEq, Int.reduceToNat, Int.reduceMul, Int.reduceSub, Int.reduceBEq, Int.reduceBNe, Int.cast_ofNat_Int, Int.toNat_natCast_add_one, Nat.add_left_cancel_iff, Nat.left_eq_add, Nat.add_eq_left, Int.toNat_natCast, Nat.add_assoc, Int.ofNat_lt, Int.ofNat_le, Nat.lt_add_one_of_lt, Nat.lt_add_one, Nat.lt_add_right, Nat.lt_add_right_iff_pos, Nat.add_lt_add_iff_left, g5, g8, w9]
      refine IH (ms.length - (j + 1)) _ _ (by omega) ⟨j + 1, rfl, by omega, ?_, ?_, ?_, ?_, f13, hstep (by simp only [okR, ok0 (by omega), ok1 (by omega)]; rfl)⟩
      all_goals simp only [go_sem, Wk_block, Wk_drawnC, reduceCtorEq, Nat.reduceEqDiff, Nat.reduceAdd, Nat.reduceLeDiff, Nat.reduceLT, Nat.reduceMul, Nat.reduceSub, ↓reduceIte, Int.reduceLT, Int.reduceLE, Int.reduceNeg, Int.reduceAdd, Int.reduceEq, Nat.reduceBneDiff, Nat.reduceBEq, Int.reduceToNat, Int.reduceMul, Int.reduceSub, Int.reduceBEq, Int.reduceBNe, Int.cast_ofNat_Int, Int.toNat_natCast_add_one, Nat.add_left_cancel_iff, Nat.left_eq_add, Nat.add_eq_left, Int.toNat_natCast, Nat.add_assoc, Int.ofNat_lt, Int.ofNat_le, g7, g6, g0]
  · have hje : j = ms.length := by omega
    subst hje
    simp -implicitDefEqProofs only [go_sem, Wk_block, Wk_drawnC, reduceCtorEq, Nat.reduceEqDiff, Nat.reduceAdd, Nat.reduceLeDiff, Nat.reduceLT, Nat.reduceMul, Nat.reduceSub, ↓reduceIte, Int.reduceLT, Int.reduceLE, Int.reduceNeg, Int.reduceAdd, Int.reduceEq, Nat.reduceBneDiff, Nat.reduceBEq, Int.reduceToNat, Int.reduceMul, Int.reduceSub, Int.reduceBEq, Int.reduceBNe, Int.cast_ofNat_Int, Int.toNat_natCast_add_one, Nat.add_left_cancel_iff, Nat.left_eq_add, Nat.add_eq_left, Int.toNat_natCast, Nat.add_assoc, Int.ofNat_lt, Int.ofNat_le, Nat.lt_add_one_of_lt, Nat.lt_add_one, Nat.lt_add_right, Nat.lt_add_right_iff_pos, Nat.add_lt_add_iff_left, g8, g7, hlt]
    exact ⟨⟨true, rfl, by simpa using fun j hj => hall j hj hj⟩, f1⟩
end Go.Proofs.Yteffppdkofdmdaa
