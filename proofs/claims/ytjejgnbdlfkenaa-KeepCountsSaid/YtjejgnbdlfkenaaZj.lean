/- The machine of this seat: its functions, what is known of keep.spans, of the sort of labels, and of a check that asks for nothing. Printed by a program.
Labels: which of two is lower, in the machine of the laws.
slices.Compact over labels.
What was exposed: the labels that are gathered.
keep: which snapshots are kept: the plain law.
keep: the snapshots that came in; labels gathered.
keep.Kept.
keep: the document's lists that grow; its order of labels. -/
import Derived.Test.YtjejgnbdlfkenaaZi
import Derived.Shelf.SlSortCmp.NoneTotal
import Derived.Shelf.Lay
import Derived.Ground.SlsfProg
import Derived.KernelRfl
namespace Go.Proofs.Ytjejgnbdlfkenaa
open D Go.Shelf Go.RowKit Go.Lib
shelf_lay_g SlLaysF0.n6 Slsf 6 at Try 16 as Try.sortLab

def labE : Elt (Int × Int) where
  k := 2
  enc x := [.int .u32 x.1, .int .u32 x.2]
  cnc x := [.int .u32 x.1, .int .u32 x.2]
  dec l := match l with | [.int .u32 a, .int .u32 b] => some (a, b) | _ => none
  dec_some {l a} h := by
    split at h
    · cases h; rfl
    · cases h
  concs _ _ := rfl
  len _ := rfl
  one x v hv := by simp at hv; rcases hv with rfl | rfl <;> rfl
  pos := by decide
def lcmp (x y : Int × Int) : Int := Base.Lb.cmp ⟨x.1, x.2⟩ ⟨y.1, y.2⟩
theorem lt_lcmp (x y : Int × Int) : ltOf lcmp x y = decide (Base.Lb.lt ⟨x.1, x.2⟩ ⟨y.1, y.2⟩) := by
  unfold ltOf lcmp
  simp only [Base.cmp_lt0]
theorem lswo : Sort.SWO (ltOf lcmp) where
  irrefl x := by rw [lt_lcmp]; simp [Base.Lb.lt]
  trans x y z h1 h2 := by
    rw [lt_lcmp, decide_eq_true_eq] at h1 h2 ⊢
    unfold Base.Lb.lt at *
    dsimp only at *
    omega
  ntrans x y z h1 h2 := by
    rw [lt_lcmp, decide_eq_false_iff_not] at h1 h2 ⊢
    unfold Base.Lb.lt at *
    dsimp only at *
    omega
theorem sortOk : SortOk Try.prog labE lcmp 16 17 := fun blk off cap d w hH hb hs =>
  AnyQ.slices_SortFunc_eq Try.sortLab 2 Try.isAgg35 Try.sizeOf35 labE.cnc (fun _ => rfl) labE.one lcmp lswo 17 #[] blk off cap d w (enters_of Try.func17 (by kernel_rfl) rfl)
    (fun m os dk _ x y => by
      obtain ⟨v, s', h, rfl, _⟩ := Base.Compare_run ⟨x.1, x.2⟩ ⟨y.1, y.2⟩ St.empty
      exact cmp_calls (E := labE) (x := x) (y := y) (by kernel_rfl) Base.mm_ft Base.mm_sm Base.mm_sn h _) hH hb hs
theorem sortNil (w : World) : Calls Try.prog 16 #[.slice none 0 0, .func (.func 17) #[] #[]] w fun e w' => e = .returned (.tuple #[]) ∧ w' = w :=
  AnyF.slices_SortFunc_none Try.sortLab none 0 _ w


noncomputable def SM1 : Sums := addSum noSums 15 Base.sumSpans
theorem SM1_ok : SumsOk Try.prog SM1 := sumsOk_addI ⟨_, Try.func15, by kernel_rfl, by kernel_rfl⟩ Base.sumSpans_ok noSums_ok
theorem SM1_next : SumsNext SM1 := sumsNext_addI Base.sumSpans_next noSums_next
noncomputable def SM2 : Sums := addSum SM1 16 (sumSortN labE lcmp 17)
theorem SM2_ok : SumsOk Try.prog SM2 := sumsOk_addF ⟨_, Try.func16, by kernel_rfl, by kernel_rfl⟩ (sumSortN_ok sortOk lswo sortNil) SM1_ok
theorem SM2_next : SumsNext SM2 := sumsNext_addF sumSortN_next SM1_next
noncomputable def mm : Mach := ⟨tab.get, addSum SM2 6 aliveSum⟩
set_option maxRecDepth 100000 in
theorem alive_ran : isTrue ((eng tab.get SM1 400).call 6 [] St.empty) = true := by kernel_rfl
theorem mm_mixed : Try.prog.follows .mixedOrders = true := by kernel_rfl
theorem mm_ft : FnsOk Try.prog mm.FT := tab_ok
theorem mm_sm : SumsOk Try.prog mm.SM := sumsOk_add mm_mixed tab_ok SM1_ok SM1_next alive_ran SM2_ok
theorem mm_sn : SumsNext mm.SM := sumsNext_add SM2_next 6
theorem sm {f : Nat} (h : f ≠ 6 ∧ f ≠ 15 ∧ f ≠ 16) : mm.SM f = none := (addSum_ne h.1).trans ((addSum_ne h.2.2).trans (addSum_ne h.2.1))
theorem alive_eq (s : St) : mm.L.call 6 [] s = some (.bool true, s) := by
  rw [lim_call]
  unfold callStep
  rw [show mm.SM 6 = some aliveSum by show addSum SM2 6 aliveSum 6 = _; exact addSum_eq]
  rfl
theorem spans_eq (args : List AV) (s : St) : mm.L.call 15 args s = Base.sumSpans args s := by
  rw [lim_call]
  unfold callStep
  rw [show mm.SM 15 = some Base.sumSpans by show addSum SM2 6 aliveSum 15 = _; rw [addSum_ne (by decide)]; show addSum SM1 16 _ 15 = _; rw [addSum_ne (by decide)]; exact addSum_eq]
theorem sort_eq (args : List AV) (s : St) : mm.L.call 16 args s = sumSortN labE lcmp 17 args s := by
  rw [lim_call]
  unfold callStep
  rw [show mm.SM 16 = some (sumSortN labE lcmp 17) by show addSum SM2 6 aliveSum 16 = _; rw [addSum_ne (by decide)]; exact addSum_eq]
theorem ft2 : mm.FT 2 = some fd2 := Base.ft2
theorem ft3 : mm.FT 3 = some fd3 := Base.ft3
theorem ft4 : mm.FT 4 = some fd4 := Base.ft4
theorem ft5 : mm.FT 5 = some fd5 := Base.ft5
theorem ft6 : mm.FT 6 = some fd6 := Base.ft6
theorem ft7 : mm.FT 7 = some fd7 := Base.ft7
theorem ft8 : mm.FT 8 = some fd8 := Base.ft8
theorem ft9 : mm.FT 9 = some fd9 := Base.ft9
theorem ft10 : mm.FT 10 = some fd10 := Base.ft10
theorem ft11 : mm.FT 11 = some fd11 := Base.ft11
theorem ft12 : mm.FT 12 = some fd12 := Base.ft12
theorem ft13 : mm.FT 13 = some fd13 := Base.ft13
theorem ft14 : mm.FT 14 = some fd14 := Base.ft14
theorem ft15 : mm.FT 15 = some fd15 := Base.ft15
theorem ft16 : mm.FT 16 = some fd16 := Base.ft16
theorem ft17 : mm.FT 17 = some fd17 := Base.ft17
theorem ft18 : mm.FT 18 = some fd18 := Base.ft18
theorem ft19 : mm.FT 19 = some fd19 := Base.ft19
theorem ft20 : mm.FT 20 = some fd20 := Base.ft20
theorem ft21 : mm.FT 21 = some fd21 := Base.ft21
theorem ft22 : mm.FT 22 = some fd22 := Base.ft22
theorem ft23 : mm.FT 23 = some fd23 := Base.ft23
theorem ft24 : mm.FT 24 = some fd24 := Base.ft24
theorem ft25 : mm.FT 25 = some fd25 := Base.ft25
theorem ft26 : mm.FT 26 = some fd26 := Base.ft26
theorem ft27 : mm.FT 27 = some fd27 := Base.ft27
theorem ft28 : mm.FT 28 = some fd28 := Base.ft28
theorem ft29 : mm.FT 29 = some fd29 := Base.ft29
theorem ft30 : mm.FT 30 = some fd30 := Base.ft30
theorem ft31 : mm.FT 31 = some fd31 := Base.ft31
theorem ft32 : mm.FT 32 = some fd32 := Base.ft32
theorem ft33 : mm.FT 33 = some fd33 := Base.ft33
theorem ft34 : mm.FT 34 = some fd34 := Base.ft34
theorem ft35 : mm.FT 35 = some fd35 := Base.ft35
theorem ft36 : mm.FT 36 = some fd36 := Base.ft36
theorem ft37 : mm.FT 37 = some fd37 := Base.ft37
theorem ft38 : mm.FT 38 = some fd38 := Base.ft38
theorem ft39 : mm.FT 39 = some fd39 := Base.ft39
theorem ft40 : mm.FT 40 = some fd40 := Base.ft40
theorem ft41 : mm.FT 41 = some fd41 := Base.ft41
theorem ft42 : mm.FT 42 = some fd42 := Base.ft42
theorem ft43 : mm.FT 43 = some fd43 := Base.ft43
theorem ft44 : mm.FT 44 = some fd44 := Base.ft44
theorem ft45 : mm.FT 45 = some fd45 := Base.ft45
theorem ft46 : mm.FT 46 = some fd46 := Base.ft46
theorem ft47 : mm.FT 47 = some fd47 := Base.ft47
theorem ft48 : mm.FT 48 = some fd48 := Base.ft48
theorem ft49 : mm.FT 49 = some fd49 := Base.ft49
theorem ft50 : mm.FT 50 = some fd50 := Base.ft50
theorem ft51 : mm.FT 51 = some fd51 := Base.ft51
theorem ft52 : mm.FT 52 = some fd52 := Base.ft52
theorem ft53 : mm.FT 53 = some fd53 := Base.ft53
theorem ft54 : mm.FT 54 = some fd54 := Base.ft54
theorem ft55 : mm.FT 55 = some fd55 := Base.ft55
theorem ft56 : mm.FT 56 = some fd56 := Base.ft56
theorem ft57 : mm.FT 57 = some fd57 := Base.ft57
theorem ft58 : mm.FT 58 = some fd58 := Base.ft58
theorem ft59 : mm.FT 59 = some fd59 := Base.ft59
theorem ft60 : mm.FT 60 = some fd60 := Base.ft60
theorem ft61 : mm.FT 61 = some fd61 := Base.ft61
end Go.Proofs.Ytjejgnbdlfkenaa
namespace Go.Proofs.Ytjejgnbdlfkenaa
open D Base
set_option linter.unusedSimpArgs false
set_option linter.unusedVariables false
set_option maxRecDepth 10000

theorem of_Wf {f : Nat} {l : List AV} {s s' : St} {v : AV} (h : Wf mm f l s fun v1 s1 => v1 = v ∧ s1 = s') : mm.L.call f l s = some (v, s') := by
  obtain ⟨v1, s1, h, rfl, rfl⟩ := h; exact h

theorem isNaN_run (a : Int) (s : St) : mm.L.call 42 [.int .u32 a] s = some (.bool false, s) := by
  refine of_Wf (Wf_enter ft42 (sm (by decide)) (by rfl) ?_)
  simp only [fd42, go_sem, Wk_block, Wk_drawnC, reduceCtorEq, Nat.reduceEqDiff, Nat.reduceAdd, Nat.reduceLeDiff, Nat.reduceLT, Nat.reduceMul, Nat.reduceSub, ↓reduceIte, Int.reduceLT, Int.reduceLE, Int.reduceNeg, Int.reduceAdd, Int.reduceEq, Nat.reduceBneDiff, Nat.reduceBEq, Int.reduceToNat, Int.reduceMul, Int.reduceSub, Int.reduceBEq, Int.reduceBNe]

theorem compare_run (a b : Int) (s : St) : mm.L.call 27 [.int .u32 a, .int .u32 b] s = some (.int .i64 (cmpI a b), s) := by
  refine of_Wf (Wf_enter ft27 (sm (by decide)) (by rfl) ?_)
  simp only [fd27, go_sem, Wk_block, Wk_drawnC, reduceCtorEq, Nat.reduceEqDiff, Nat.reduceAdd, Nat.reduceLeDiff, Nat.reduceLT, Nat.reduceMul, Nat.reduceSub, ↓reduceIte, Int.reduceLT, Int.reduceLE, Int.reduceNeg, Int.reduceAdd, Int.reduceEq, Nat.reduceBneDiff, Nat.reduceBEq, Int.reduceToNat, Int.reduceMul, Int.reduceSub, Int.reduceBEq, Int.reduceBNe, Wl_eq (isNaN_run _ _)]
  refine Wi_split (fun h => ?_) (fun h => ?_)
  · simp only [go_sem, Wk_block, Wk_drawnC, reduceCtorEq, Nat.reduceEqDiff, Nat.reduceAdd, Nat.reduceLeDiff, Nat.reduceLT, Nat.reduceMul, Nat.reduceSub, ↓reduceIte, Int.reduceLT, Int.reduceLE, Int.reduceNeg, Int.reduceAdd, Int.reduceEq, Nat.reduceBneDiff, Nat.reduceBEq, Int.reduceToNat, Int.reduceMul, Int.reduceSub, Int.reduceBEq, Int.reduceBNe, cmpI]
    simp at h; simp [h]
  · simp only [go_sem, Wk_block, Wk_drawnC, reduceCtorEq, Nat.reduceEqDiff, Nat.reduceAdd, Nat.reduceLeDiff, Nat.reduceLT, Nat.reduceMul, Nat.reduceSub, ↓reduceIte, Int.reduceLT, Int.reduceLE, Int.reduceNeg, Int.reduceAdd, Int.reduceEq, Nat.reduceBneDiff, Nat.reduceBEq, Int.reduceToNat, Int.reduceMul, Int.reduceSub, Int.reduceBEq, Int.reduceBNe]
    refine Wi_split (fun h' => ?_) (fun h' => ?_)
    · simp only [go_sem, Wk_block, Wk_drawnC, reduceCtorEq, Nat.reduceEqDiff, Nat.reduceAdd, Nat.reduceLeDiff, Nat.reduceLT, Nat.reduceMul, Nat.reduceSub, ↓reduceIte, Int.reduceLT, Int.reduceLE, Int.reduceNeg, Int.reduceAdd, Int.reduceEq, Nat.reduceBneDiff, Nat.reduceBEq, Int.reduceToNat, Int.reduceMul, Int.reduceSub, Int.reduceBEq, Int.reduceBNe, cmpI]
      simp at h h'; simp; omega
    · simp only [go_sem, Wk_block, Wk_drawnC, reduceCtorEq, Nat.reduceEqDiff, Nat.reduceAdd, Nat.reduceLeDiff, Nat.reduceLT, Nat.reduceMul, Nat.reduceSub, ↓reduceIte, Int.reduceLT, Int.reduceLE, Int.reduceNeg, Int.reduceAdd, Int.reduceEq, Nat.reduceBneDiff, Nat.reduceBEq, Int.reduceToNat, Int.reduceMul, Int.reduceSub, Int.reduceBEq, Int.reduceBNe, cmpI]
      simp at h h'; simp; omega

theorem or_run (a b : Int) {s : St} {p : Nat} {lo r : Bool} {z : Nat} (hp : s.get p = some (.cells [.int .i64 a, .int .i64 b] lo r z)) : mm.L.call 26 [.slice p 0 2 2 false] s = some (.int .i64 (orI a b), s) := by
  refine of_Wf (Wf_enter ft26 (sm (by decide)) (by rfl) ?_)
  simp only [fd26, go_sem, Wk_block, Wk_drawnC, reduceCtorEq, Nat.reduceEqDiff, Nat.reduceAdd, Nat.reduceLeDiff, Nat.reduceLT, Nat.reduceMul, Nat.reduceSub, ↓reduceIte, Int.reduceLT, Int.reduceLE, Int.reduceNeg, Int.reduceAdd, Int.reduceEq, Nat.reduceBneDiff, Nat.reduceBEq, Int.reduceToNat, Int.reduceMul, Int.reduceSub, Int.reduceBEq, Int.reduceBNe, Wk_loop, idx1, indexA, hp]
  refine Wi_split (fun h => ?_) (fun h => ?_)
  · simp only [go_sem, Wk_block, Wk_drawnC, reduceCtorEq, Nat.reduceEqDiff, Nat.reduceAdd, Nat.reduceLeDiff, Nat.reduceLT, Nat.reduceMul, Nat.reduceSub, ↓reduceIte, Int.reduceLT, Int.reduceLE, Int.reduceNeg, Int.reduceAdd, Int.reduceEq, Nat.reduceBneDiff, Nat.reduceBEq, Int.reduceToNat, Int.reduceMul, Int.reduceSub, Int.reduceBEq, Int.reduceBNe, orI]
    simp at h; simp [h]
  · simp only [go_sem, Wk_block, Wk_drawnC, reduceCtorEq, Nat.reduceEqDiff, Nat.reduceAdd, Nat.reduceLeDiff, Nat.reduceLT, Nat.reduceMul, Nat.reduceSub, ↓reduceIte, Int.reduceLT, Int.reduceLE, Int.reduceNeg, Int.reduceAdd, Int.reduceEq, Nat.reduceBneDiff, Nat.reduceBEq, Int.reduceToNat, Int.reduceMul, Int.reduceSub, Int.reduceBEq, Int.reduceBNe, Wk_loop, idx1, indexA, hp]
    simp at h; subst h
    rw [show IntKind.i64.wrap 1 = 1 by rfl]
    simp only [go_sem, Wk_block, Wk_drawnC, reduceCtorEq, Nat.reduceEqDiff, Nat.reduceAdd, Nat.reduceLeDiff, Nat.reduceLT, Nat.reduceMul, Nat.reduceSub, ↓reduceIte, Int.reduceLT, Int.reduceLE, Int.reduceNeg, Int.reduceAdd, Int.reduceEq, Nat.reduceBneDiff, Nat.reduceBEq, Int.reduceToNat, Int.reduceMul, Int.reduceSub, Int.reduceBEq, Int.reduceBNe, Wk_loop, idx1, indexA, hp]
    refine Wi_split (fun h => ?_) (fun h => ?_)
    · simp only [go_sem, Wk_block, Wk_drawnC, reduceCtorEq, Nat.reduceEqDiff, Nat.reduceAdd, Nat.reduceLeDiff, Nat.reduceLT, Nat.reduceMul, Nat.reduceSub, ↓reduceIte, Int.reduceLT, Int.reduceLE, Int.reduceNeg, Int.reduceAdd, Int.reduceEq, Nat.reduceBneDiff, Nat.reduceBEq, Int.reduceToNat, Int.reduceMul, Int.reduceSub, Int.reduceBEq, Int.reduceBNe, orI]
    · simp only [go_sem, Wk_block, Wk_drawnC, reduceCtorEq, Nat.reduceEqDiff, Nat.reduceAdd, Nat.reduceLeDiff, Nat.reduceLT, Nat.reduceMul, Nat.reduceSub, ↓reduceIte, Int.reduceLT, Int.reduceLE, Int.reduceNeg, Int.reduceAdd, Int.reduceEq, Nat.reduceBneDiff, Nat.reduceBEq, Int.reduceToNat, Int.reduceMul, Int.reduceSub, Int.reduceBEq, Int.reduceBNe, Wk_loop, idx1, indexA, hp]
      rw [show IntKind.i64.wrap 2 = 2 by rfl]
      simp at h; subst h
      simp only [go_sem, Wk_block, Wk_drawnC, reduceCtorEq, Nat.reduceEqDiff, Nat.reduceAdd, Nat.reduceLeDiff, Nat.reduceLT, Nat.reduceMul, Nat.reduceSub, ↓reduceIte, Int.reduceLT, Int.reduceLE, Int.reduceNeg, Int.reduceAdd, Int.reduceEq, Nat.reduceBneDiff, Nat.reduceBEq, Int.reduceToNat, Int.reduceMul, Int.reduceSub, Int.reduceBEq, Int.reduceBNe, Wk_loop, idx1, indexA, hp, orI]

theorem Compare_run (a b : Lb) (s : St) : Wf mm 17 [.agg [.int .u32 a.e, .int .u32 a.q], .agg [.int .u32 b.e, .int .u32 b.q]] s fun v s' => v = .int .i64 (a.cmp b) ∧ Fr s s' := by
  refine Wf_enter ft17 (sm (by decide)) (by rfl) ?_
  simp only [fd17, go_sem, Wk_block, Wk_drawnC, reduceCtorEq, Nat.reduceEqDiff, Nat.reduceAdd, Nat.reduceLeDiff, Nat.reduceLT, Nat.reduceMul, Nat.reduceSub, ↓reduceIte, Int.reduceLT, Int.reduceLE, Int.reduceNeg, Int.reduceAdd, Int.reduceEq, Nat.reduceBneDiff, Nat.reduceBEq, Int.reduceToNat, Int.reduceMul, Int.reduceSub, Int.reduceBEq, Int.reduceBNe, Wl_eq (compare_run _ _ _)]
  rw [Wl_eq (or_run (cmpI a.e b.e) (cmpI a.q b.q) (by simp only [go_sem, Wk_block, Wk_drawnC, reduceCtorEq, Nat.reduceEqDiff, Nat.reduceAdd, Nat.reduceLeDiff, Nat.reduceLT, Nat.reduceMul, Nat.reduceSub, ↓reduceIte, Int.reduceLT, Int.reduceLE, Int.reduceNeg, Int.reduceAdd, Int.reduceEq, Nat.reduceBneDiff, Nat.reduceBEq, Int.reduceToNat, Int.reduceMul, Int.reduceSub, Int.reduceBEq, Int.reduceBNe]; rfl))]
  simp only [go_sem, Wk_block, Wk_drawnC, reduceCtorEq, Nat.reduceEqDiff, Nat.reduceAdd, Nat.reduceLeDiff, Nat.reduceLT, Nat.reduceMul, Nat.reduceSub, ↓reduceIte, Int.reduceLT, Int.reduceLE, Int.reduceNeg, Int.reduceAdd, Int.reduceEq, Nat.reduceBneDiff, Nat.reduceBEq, Int.reduceToNat, Int.reduceMul, Int.reduceSub, Int.reduceBEq, Int.reduceBNe, cmp_or]
  exact (((Fr.refl s).new _).new _).new _
end Go.Proofs.Ytjejgnbdlfkenaa
namespace Go.Proofs.Ytjejgnbdlfkenaa
open D Base
set_option linter.unusedSimpArgs false
set_option linter.unusedVariables false
set_option maxRecDepth 10000

/-- The first elements of a list, without those that stand behind an equal one. -/
def ddN (L : List Lb) : Nat → List Lb
  | 0 => []
  | j + 1 => if 0 < j ∧ L[j]? = L[j - 1]? then ddN L j else ddN L j ++ (L[j]?).toList

theorem lflat_len (L : List Lb) : (L.flatMap Lb.enc).length = L.length * 2 := by
  induction L with
  | nil => rfl
  | cons a l ih => rw [List.flatMap_cons, List.length_append, ih, List.length_cons]; simp [Lb.enc]; omega
theorem lflat_at : ∀ (L : List Lb) (i : Nat) (h : i < L.length), ((L.flatMap Lb.enc).drop (i * 2)).take 2 = [.int .u32 L[i].e, .int .u32 L[i].q]
  | a :: l, 0, _ => by simp [Lb.enc]
  | a :: l, i + 1, h => by
    rw [List.flatMap_cons, Nat.succ_mul, Nat.add_comm, ← List.drop_drop]
    have := lflat_at l i (by simpa using h)
    simpa [Lb.enc] using this
theorem lflat_set (L : List Lb) (i : Nat) (h : i < L.length) (x : Lb) : splice (L.flatMap Lb.enc) (i * 2) [.int .u32 x.e, .int .u32 x.q] = (L.set i x).flatMap Lb.enc := by
  induction L generalizing i with
  | nil => simp at h
  | cons a l ih =>
    cases i with
    | zero => simp [splice, Lb.enc]
    | succ i =>
      have := ih i (by simpa using h)
      unfold splice at this ⊢
      rw [List.flatMap_cons, Nat.succ_mul, List.set_cons_succ, List.flatMap_cons, ← this]
      have hl : (Lb.enc a).length = 2 := rfl
      rw [show i * 2 + 2 = (Lb.enc a).length + i * 2 by rw [hl]; omega, List.take_length_add_append]
      rw [show (Lb.enc a).length + i * 2 + [AV.int IntKind.u32 x.e, AV.int IntKind.u32 x.q].length = (Lb.enc a).length + (i * 2 + [AV.int IntKind.u32 x.e, AV.int IntKind.u32 x.q].length) by omega, List.drop_length_add_append]
      simp only [List.append_assoc]
theorem ddN_le (L : List Lb) : ∀ j, (ddN L j).length ≤ j
  | 0 => by simp [ddN]
  | j + 1 => by
    have := ddN_le L j
    unfold ddN
    split
    · omega
    · rw [List.length_append]
      cases L[j]? <;> simp <;> omega
theorem ddN_first {L : List Lb} {k : Nat} (h : ∀ i, 0 < i → i < k → L[i]? ≠ L[i - 1]?) (hk : k ≤ L.length) : ddN L k = L.take k := by
  induction k with
  | zero => rfl
  | succ k ih =>
    have := ih (fun i h0 h1 => h i h0 (by omega)) (by omega)
    unfold ddN
    rw [if_neg (fun hc => h k hc.1 (by omega) hc.2), this, List.take_add_one]
theorem ddN_eq {L : List Lb} {j : Nat} (h0 : 0 < j) (h : j < L.length) (he : L[j] = L[j - 1]) : ddN L (j + 1) = ddN L j := by
  show (if 0 < j ∧ L[j]? = L[j - 1]? then ddN L j else ddN L j ++ (L[j]?).toList) = _
  rw [if_pos ⟨h0, by rw [List.getElem?_eq_getElem h, List.getElem?_eq_getElem (by omega), he]⟩]
theorem ddN_ne {L : List Lb} {j : Nat} (h : j < L.length) (he : L[j] ≠ L[j - 1]) : ddN L (j + 1) = ddN L j ++ [L[j]] := by
  show (if 0 < j ∧ L[j]? = L[j - 1]? then ddN L j else ddN L j ++ (L[j]?).toList) = _
  rw [if_neg, List.getElem?_eq_getElem h]
  · rfl
  · rintro ⟨_, h2⟩
    rw [List.getElem?_eq_getElem h, List.getElem?_eq_getElem (by omega)] at h2
    exact he (Option.some.inj h2)

theorem lb_eq {a b : Lb} : (a.e == b.e && a.q == b.q) = decide (a = b) := by
  by_cases h : a = b
  · subst h; simp
  · have h' : ¬ (a.e = b.e ∧ a.q = b.q) := fun h' => h (Lb.ext h'.1 h'.2)
    rw [decide_eq_false h, Bool.eq_false_iff]
    intro hc
    rw [Bool.and_eq_true, beq_iff_eq, beq_iff_eq] at hc
    exact h' hc

theorem bound_nat {k n : Nat} (h : k ≤ n) : boundA (.int .i64 (k : Int)) n = some k := by
  show (if 0 ≤ (k : Int) ∧ (k : Int) ≤ (n : Int) then some ((k : Int).toNat) else none) = some k
  rw [if_pos ⟨by omega, by omega⟩]
  simp
theorem sl_from {p n k : Nat} (h : k < n) : sliceA 2 (.slice p 0 n n true) (some (.int .i64 (k : Int))) none none = some (.slice p (k * 2) (n - k) (n - k) true) := by
  have hb : boundsA n n (some (.int .i64 (k : Int))) none none = some (k, n, n) := by
    unfold boundsA
    simp only [Nat.le_refl, if_true, bound_nat (Nat.le_of_lt h)]
  unfold sliceA
  simp only [hb, Option.isNone_none, Bool.and_true, if_true]
  rw [if_neg (by omega), Nat.zero_add]
theorem sl_to {p n k : Nat} (h : k ≤ n) (hn : 0 < n) : sliceA 2 (.slice p 0 n n true) none (some (.int .i64 (k : Int))) none = some (.slice p 0 k n true) := by
  have hb : boundsA n n none (some (.int .i64 (k : Int))) none = some (0, k, n) := by
    unfold boundsA
    simp only [bound_nat h]
  unfold sliceA
  simp only [hb, Option.isNone_none, Bool.and_true, if_true]
  rw [if_neg (by omega)]
  simp
theorem zrep_len (m : Nat) : (List.replicate m [AV.int IntKind.u32 0, AV.int IntKind.u32 0]).flatten.length = m * 2 := by simp
theorem zrep_cell : ∀ m : Nat, allCell (List.replicate m [AV.int IntKind.u32 0, AV.int IntKind.u32 0]).flatten = true
  | 0 => rfl
  | m + 1 => by rw [List.replicate_succ, List.flatten_cons]; exact allCell_append rfl (zrep_cell m)
theorem lflat_rep : ∀ m : Nat, (List.replicate m [AV.int IntKind.u32 0, AV.int IntKind.u32 0]).flatten = (List.replicate m (⟨0, 0⟩ : Lb)).flatMap Lb.enc
  | 0 => rfl
  | m + 1 => by rw [List.replicate_succ, List.flatten_cons, List.replicate_succ, List.flatMap_cons, lflat_rep m]; rfl
theorem lflat_take (C : List Lb) (k : Nat) : (C.flatMap Lb.enc).take (k * 2) = (C.take k).flatMap Lb.enc := by
  induction C generalizing k with
  | nil => simp
  | cons a l ih =>
    cases k with
    | zero => simp
    | succ k =>
      rw [List.flatMap_cons, List.take_succ_cons, List.flatMap_cons, ← ih k]
      have hl : (Lb.enc a).length = 2 := rfl
      rw [show (k + 1) * 2 = (Lb.enc a).length + k * 2 by rw [hl]; omega, List.take_length_add_append]
theorem lflat_clear (C : List Lb) (k : Nat) (h : k ≤ C.length) : List.take (k * 2) (C.flatMap Lb.enc) ++ (List.replicate (C.length - k) [AV.int IntKind.u32 0, AV.int IntKind.u32 0]).flatten ++ List.drop (k * 2 + (C.length - k) * 2) (C.flatMap Lb.enc) = (C.take k ++ List.replicate (C.length - k) (⟨0, 0⟩ : Lb)).flatMap Lb.enc := by
  rw [List.drop_eq_nil_of_le (by rw [lflat_len]; omega), List.append_nil, List.flatMap_append, lflat_rep, lflat_take]

theorem Compact_run (L : List Lb) (hL : L.length < 1000000) {s : St} {p : Nat} (hp : s.get p = some (.cells (L.flatMap Lb.enc) true false 2)) (hpl : p < s.next) :
    Wf mm 18 [.slice p 0 L.length L.length true] s fun w s' => (∃ C : List Lb, w = .slice p 0 (ddN L L.length).length L.length true ∧ s'.get p = some (.cells (C.flatMap Lb.enc) true false 2) ∧ C.length = L.length ∧ C.take (ddN L L.length).length = ddN L L.length) ∧ FrX p s s' := by
  refine Wf_enter ft18 (sm (by decide)) (by rfl) ?_
  simp -implicitDefEqProofs only [go_sem, Wk_block, Wk_drawnC, reduceCtorEq, Nat.reduceEqDiff, Nat.reduceAdd, Nat.reduceLeDiff, Nat.reduceLT, Nat.reduceMul, Nat.reduceSub, ↓reduceIte, Int.reduceLT, Int.reduceLE, Int.reduceNeg, Int.reduceAdd, Int.reduceEq, Nat.reduceBneDiff, Nat.reduceBEq, Int.reduceToNat, Int.reduceMul, Int.reduceSub, Int.reduceBEq, Int.reduceBNe, fd18]
  refine Wi_split (fun hg => ?_) (fun hg => ?_)
  · have h2 : L.length < 2 := by have := of_decide_eq_true hg; omega
    have hd : ddN L L.length = L := by rw [ddN_first (fun i h0 h1 => by omega) (Nat.le_refl _), List.take_length]
    simp -implicitDefEqProofs only [go_sem, Wk_block, Wk_drawnC, reduceCtorEq, Nat.reduceEqDiff, Nat.reduceAdd, Nat.reduceLeDiff, Nat.reduceLT, Nat.reduceMul, Nat.reduceSub, ↓reduceIte, Int.reduceLT, Int.reduceLE, Int.reduceNeg, Int.reduceAdd, Int.reduceEq, Nat.reduceBneDiff, Nat.reduceBEq, Int.reduceToNat, Int.reduceMul, Int.reduceSub, Int.reduceBEq, Int.reduceBNe, hd]
    exact ⟨⟨L, hp, rfl, List.take_length⟩, FrX.refl _ _⟩
  have h2 : 2 ≤ L.length := by have := of_decide_eq_false hg; omega
  simp only [go_sem, Wk_block, Wk_drawnC, reduceCtorEq, Nat.reduceEqDiff, Nat.reduceAdd, Nat.reduceLeDiff, Nat.reduceLT, Nat.reduceMul, Nat.reduceSub, ↓reduceIte, Int.reduceLT, Int.reduceLE, Int.reduceNeg, Int.reduceAdd, Int.reduceEq, Nat.reduceBneDiff, Nat.reduceBEq, Int.reduceToNat, Int.reduceMul, Int.reduceSub, Int.reduceBEq, Int.reduceBNe]
  refine loop_ind (fun m ts s' => ∃ k : Nat, m = L.length - (k + 1) ∧ k + 1 ≤ L.length ∧ ts.get 3 = some (.int .i64 ((k + 1 : Nat) : Int)) ∧ ts.get 0 = some (.slice p 0 L.length L.length true) ∧ s' = s ∧ ∀ i, 0 < i → i < k + 1 → L[i]? ≠ L[i - 1]?) ?_ (n := L.length - 1)
    ⟨0, rfl, by omega, by simp only [go_sem, Wk_block, Wk_drawnC, reduceCtorEq, Nat.reduceEqDiff, Nat.reduceAdd, Nat.reduceLeDiff, Nat.reduceLT, Nat.reduceMul, Nat.reduceSub, ↓reduceIte, Int.reduceLT, Int.reduceLE, Int.reduceNeg, Int.reduceAdd, Int.reduceEq, Nat.reduceBneDiff, Nat.reduceBEq, Int.reduceToNat, Int.reduceMul, Int.reduceSub, Int.reduceBEq, Int.reduceBNe], by simp only [go_sem, Wk_block, Wk_drawnC, reduceCtorEq, Nat.reduceEqDiff, Nat.reduceAdd, Nat.reduceLeDiff, Nat.reduceLT, Nat.reduceMul, Nat.reduceSub, ↓reduceIte, Int.reduceLT, Int.reduceLE, Int.reduceNeg, Int.reduceAdd, Int.reduceEq, Nat.reduceBneDiff, Nat.reduceBEq, Int.reduceToNat, Int.reduceMul, Int.reduceSub, Int.reduceBEq, Int.reduceBNe], rfl, fun i h0 h1 => by omega⟩
  rintro m ts s1 ⟨k, rfl, hk, g3, g0, rfl, hne⟩ IH
  by_cases hlt : k + 1 < L.length
  · have i1 : ∀ s, idx1 2 (some (.slice p 0 L.length L.length true)) (some (.int .i64 ((k + 1 : Nat) : Int))) s = _ := fun s => idx1_slice hlt
    have i0 : ∀ s, idx1 2 (some (.slice p 0 L.length L.length true)) (some (.int .i64 ((k : Nat) : Int))) s = _ := fun s => idx1_slice (by omega)
    have wk : IntKind.i64.wrap (((k + 1 : Nat) : Int) - 1) = (k : Int) := by rw [i64_in (by omega) (by omega)]; omega
    have wk1 : IntKind.i64.wrap (((k + 1 : Nat) : Int) + 1) = ((k + 1 + 1 : Nat) : Int) := succ_in (by omega)
    have a1 := lflat_at L (k + 1) hlt
    have a0 := lflat_at L k (by omega)
    have hf := lflat_len L
    have l1 : (k + 1) * 2 + 2 ≤ (L.flatMap Lb.enc).length := by omega
    have l0 : k * 2 + 2 ≤ (L.flatMap Lb.enc).length := by omega
    have hltZ : ((k + 1 : Nat) : Int) < (L.length : Int) := by omega
    simp -implicitDefEqProofs only [go_sem, Wk_block, Wk_drawnC, reduceCtorEq, Nat.reduceEqDiff, Nat.reduceAdd, Nat.reduceLeDiff, Nat.reduceLT, Nat.reduceMul, Nat.reduceSub, ↓reduceIte, Int.reduceLT, Int.reduceLE, Int.reduceNeg, Int.reduceAdd, Int.reduceEq, Nat.reduceBneDiff, Nat.reduceBEq, Int.reduceToNat, Int.reduceMul, Int.reduceSub, Int.reduceBEq, Int.reduceBNe, g3, g0, hlt, hltZ, i1, i0, wk, hp, a1, a0, l1, l0, lb_eq]
    refine Wi_split (fun hg => ?_) (fun hg => ?_)
    · have hq := of_decide_eq_true hg
      have n1 := sl_from (p := p) hlt
      simp -implicitDefEqProofs only [go_sem, Wk_block, Wk_drawnC, reduceCtorEq, Nat.reduceEqDiff, Nat.reduceAdd, Nat.reduceLeDiff, Nat.reduceLT, Nat.reduceMul, Nat.reduceSub, ↓reduceIte, Int.reduceLT, Int.reduceLE, Int.reduceNeg, Int.reduceAdd, Int.reduceEq, Nat.reduceBneDiff, Nat.reduceBEq, Int.reduceToNat, Int.reduceMul, Int.reduceSub, Int.reduceBEq, Int.reduceBNe, g3, g0, n1]
      have hd1 : ddN L (k + 1) = L.take (k + 1) := ddN_first hne (by omega)
      have hd2 : ddN L (k + 1 + 1) = L.take (k + 1) := (ddN_eq (by omega) hlt hq).trans hd1
      have hd3 : (L.take (k + 1)).length = k + 1 := by rw [List.length_take]; omega
      refine loop_ind (fun m ts s' => ∃ (k2 kk : Nat) (C : List Lb), m = L.length - (k + 1) - (k2 + 1) ∧ k + 1 + (k2 + 1) ≤ L.length ∧ ts.get 5 = some (.int .i64 ((k2 + 1 : Nat) : Int)) ∧ ts.get 4 = some (.slice p ((k + 1) * 2) (L.length - (k + 1)) (L.length - (k + 1)) true) ∧ ts.get 3 = some (.int .i64 (kk : Int)) ∧
        ts.get 0 = some (.slice p 0 L.length L.length true) ∧ s'.get p = some (.cells (C.flatMap Lb.enc) true false 2) ∧ C.length = L.length ∧ C.take kk = ddN L (k + 1 + (k2 + 1)) ∧ kk = (ddN L (k + 1 + (k2 + 1))).length ∧ kk ≤ k + 1 + k2 ∧ C.drop (k + 1 + k2) = L.drop (k + 1 + k2) ∧ FrX p s1 s') ?_ (n := L.length - (k + 1) - 1)
        ⟨0, k + 1, L, rfl, by omega, by simp only [go_sem, Wk_block, Wk_drawnC, reduceCtorEq, Nat.reduceEqDiff, Nat.reduceAdd, Nat.reduceLeDiff, Nat.reduceLT, Nat.reduceMul, Nat.reduceSub, ↓reduceIte, Int.reduceLT, Int.reduceLE, Int.reduceNeg, Int.reduceAdd, Int.reduceEq, Nat.reduceBneDiff, Nat.reduceBEq, Int.reduceToNat, Int.reduceMul, Int.reduceSub, Int.reduceBEq, Int.reduceBNe], by simp only [go_sem, Wk_block, Wk_drawnC, reduceCtorEq, Nat.reduceEqDiff, Nat.reduceAdd, Nat.reduceLeDiff, Nat.reduceLT, Nat.reduceMul, Nat.reduceSub, ↓reduceIte, Int.reduceLT, Int.reduceLE, Int.reduceNeg, Int.reduceAdd, Int.reduceEq, Nat.reduceBneDiff, Nat.reduceBEq, Int.reduceToNat, Int.reduceMul, Int.reduceSub, Int.reduceBEq, Int.reduceBNe], by simp only [go_sem, Wk_block, Wk_drawnC, reduceCtorEq, Nat.reduceEqDiff, Nat.reduceAdd, Nat.reduceLeDiff, Nat.reduceLT, Nat.reduceMul, Nat.reduceSub, ↓reduceIte, Int.reduceLT, Int.reduceLE, Int.reduceNeg, Int.reduceAdd, Int.reduceEq, Nat.reduceBneDiff, Nat.reduceBEq, Int.reduceToNat, Int.reduceMul, Int.reduceSub, Int.reduceBEq, Int.reduceBNe, g3], by simp only [go_sem, Wk_block, Wk_drawnC, reduceCtorEq, Nat.reduceEqDiff, Nat.reduceAdd, Nat.reduceLeDiff, Nat.reduceLT, Nat.reduceMul, Nat.reduceSub, ↓reduceIte, Int.reduceLT, Int.reduceLE, Int.reduceNeg, Int.reduceAdd, Int.reduceEq, Nat.reduceBneDiff, Nat.reduceBEq, Int.reduceToNat, Int.reduceMul, Int.reduceSub, Int.reduceBEq, Int.reduceBNe, g0], hp, rfl, hd2.symm, by rw [hd2, hd3], by omega, rfl, FrX.refl _ _⟩
      clear g3 g0
      rintro m ts s2 ⟨k2, kk, C, rfl, hk2, g5, g4, g3, g0, hC, hCl, htk, hkl, hkk, hdr, f2⟩ IH2
      have hfC := lflat_len C
      by_cases hlt2 : k + 1 + (k2 + 1) < L.length
      · have hl3 : k2 + 1 < L.length - (k + 1) := by omega
        have i1 : ∀ s, idx1 2 (some (.slice p ((k + 1) * 2) (L.length - (k + 1)) (L.length - (k + 1)) true)) (some (.int .i64 ((k2 + 1 : Nat) : Int))) s = _ := fun s => idx1_slice hl3
        have i0 : ∀ s, idx1 2 (some (.slice p ((k + 1) * 2) (L.length - (k + 1)) (L.length - (k + 1)) true)) (some (.int .i64 ((k2 : Nat) : Int))) s = _ := fun s => idx1_slice (by omega)
        have ik : ∀ s, idx1 2 (some (.slice p 0 L.length L.length true)) (some (.int .i64 ((kk : Nat) : Int))) s = _ := fun s => idx1_slice (by omega)
        have wk : IntKind.i64.wrap (((k2 + 1 : Nat) : Int) - 1) = (k2 : Int) := by rw [i64_in (by omega) (by omega)]; omega
        have wk1 : IntKind.i64.wrap (((k2 + 1 : Nat) : Int) + 1) = ((k2 + 1 + 1 : Nat) : Int) := succ_in (by omega)
        have wkk : IntKind.i64.wrap ((kk : Int) + 1) = ((kk + 1 : Nat) : Int) := succ_in (by omega)
        have a1 := lflat_at C (k + 1 + (k2 + 1)) (by omega)
        have a0 := lflat_at C (k + 1 + k2) (by omega)
        rw [Nat.add_mul (k + 1)] at a1 a0
        have l1 : (k + 1) * 2 + ((k2 + 1) * 2 + 2) ≤ (C.flatMap Lb.enc).length := by omega
        have l0 : (k + 1) * 2 + (k2 * 2 + 2) ≤ (C.flatMap Lb.enc).length := by omega
        have lk : kk * 2 + 2 ≤ (C.flatMap Lb.enc).length := by omega
        have c1 : C[k + 1 + (k2 + 1)]'(by omega) = L[k + 1 + (k2 + 1)] := by
          have := congrArg (fun l => l[1]?) hdr
          simp only [List.getElem?_drop] at this
          rw [List.getElem?_eq_getElem (by omega), List.getElem?_eq_getElem (by omega)] at this
          exact Option.some.inj this
        have c0 : C[k + 1 + k2]'(by omega) = L[k + 1 + (k2 + 1) - 1] := by
          have := congrArg (fun l => l[0]?) hdr
          simp only [List.getElem?_drop] at this
          rw [List.getElem?_eq_getElem (by omega), List.getElem?_eq_getElem (by omega)] at this
          exact Option.some.inj this
        obtain ⟨x, hx⟩ : ∃ x, L[k + 1 + (k2 + 1)] = x := ⟨_, rfl⟩
        obtain ⟨y, hy⟩ : ∃ y, L[k + 1 + (k2 + 1) - 1] = y := ⟨_, rfl⟩
        rw [c1, hx] at a1
        rw [c0, hy] at a0
        have hset := lflat_set C kk (by omega) x
        unfold splice at hset
        simp only [List.length_cons, List.length_nil, Nat.zero_add, Nat.reduceAdd] at hset
        simp -implicitDefEqProofs only [go_sem, Wk_block, Wk_drawnC, reduceCtorEq, Nat.reduceEqDiff, Nat.reduceAdd, Nat.reduceLeDiff, Nat.reduceLT, Nat.reduceMul, Nat.reduceSub, ↓reduceIte, Int.reduceLT, Int.reduceLE, Int.reduceNeg, Int.reduceAdd, Int.reduceEq, Nat.reduceBneDiff, Nat.reduceBEq, Int.reduceToNat, Int.reduceMul, Int.reduceSub, Int.reduceBEq, Int.reduceBNe, g5, g4, g3, g0, hl3, i1, i0, wk, hC, a1, a0, l1, l0, lb_eq]
        refine Wi_split (fun hg2 => ?_) (fun hg2 => ?_)
        · have hne2 : L[k + 1 + (k2 + 1)] ≠ L[k + 1 + (k2 + 1) - 1] := by rw [hx, hy]; simpa using hg2
          have hdd := ddN_ne hlt2 hne2
          simp -implicitDefEqProofs only [go_sem, Wk_block, Wk_drawnC, reduceCtorEq, Nat.reduceEqDiff, Nat.reduceAdd, Nat.reduceLeDiff, Nat.reduceLT, Nat.reduceMul, Nat.reduceSub, ↓reduceIte, Int.reduceLT, Int.reduceLE, Int.reduceNeg, Int.reduceAdd, Int.reduceEq, Nat.reduceBneDiff, Nat.reduceBEq, Int.reduceToNat, Int.reduceMul, Int.reduceSub, Int.reduceBEq, Int.reduceBNe, g5, g4, g3, g0, hl3, i1, ik, wk1, wkk, hC, a1, l1, lk, hset]
          refine IH2 (L.length - (k + 1) - (k2 + 1 + 1)) _ _ (by omega) ⟨k2 + 1, kk + 1, C.set kk x, rfl, by omega, ?_, ?_, ?_, ?_, by rw [St.get_put, if_pos rfl], by simpa using hCl, ?_, ?_, by omega, ?_, f2.put (.inl rfl) _⟩
          · simp only [go_sem, Wk_block, Wk_drawnC, reduceCtorEq, Nat.reduceEqDiff, Nat.reduceAdd, Nat.reduceLeDiff, Nat.reduceLT, Nat.reduceMul, Nat.reduceSub, ↓reduceIte, Int.reduceLT, Int.reduceLE, Int.reduceNeg, Int.reduceAdd, Int.reduceEq, Nat.reduceBneDiff, Nat.reduceBEq, Int.reduceToNat, Int.reduceMul, Int.reduceSub, Int.reduceBEq, Int.reduceBNe]
          · simp only [go_sem, Wk_block, Wk_drawnC, reduceCtorEq, Nat.reduceEqDiff, Nat.reduceAdd, Nat.reduceLeDiff, Nat.reduceLT, Nat.reduceMul, Nat.reduceSub, ↓reduceIte, Int.reduceLT, Int.reduceLE, Int.reduceNeg, Int.reduceAdd, Int.reduceEq, Nat.reduceBneDiff, Nat.reduceBEq, Int.reduceToNat, Int.reduceMul, Int.reduceSub, Int.reduceBEq, Int.reduceBNe, g4]
          · simp only [go_sem, Wk_block, Wk_drawnC, reduceCtorEq, Nat.reduceEqDiff, Nat.reduceAdd, Nat.reduceLeDiff, Nat.reduceLT, Nat.reduceMul, Nat.reduceSub, ↓reduceIte, Int.reduceLT, Int.reduceLE, Int.reduceNeg, Int.reduceAdd, Int.reduceEq, Nat.reduceBneDiff, Nat.reduceBEq, Int.reduceToNat, Int.reduceMul, Int.reduceSub, Int.reduceBEq, Int.reduceBNe]
          · simp only [go_sem, Wk_block, Wk_drawnC, reduceCtorEq, Nat.reduceEqDiff, Nat.reduceAdd, Nat.reduceLeDiff, Nat.reduceLT, Nat.reduceMul, Nat.reduceSub, ↓reduceIte, Int.reduceLT, Int.reduceLE, Int.reduceNeg, Int.reduceAdd, Int.reduceEq, Nat.reduceBneDiff, Nat.reduceBEq, Int.reduceToNat, Int.reduceMul, Int.reduceSub, Int.reduceBEq, Int.reduceBNe, g0]
          · rw [show k + 1 + (k2 + 1 + 1) = k + 1 + (k2 + 1) + 1 by omega, hdd, hx, ← htk, List.take_add_one, List.getElem?_set_self (by omega)]
            rw [List.take_set_of_le (by omega)]
            rfl
          · rw [show k + 1 + (k2 + 1 + 1) = k + 1 + (k2 + 1) + 1 by omega, hdd, List.length_append, ← hkl]
            rfl
          · rw [List.drop_set_of_lt (by omega)]
            have := congrArg (List.drop 1) hdr
            simpa [List.drop_drop, Nat.add_assoc] using this
        · have heq2 : L[k + 1 + (k2 + 1)] = L[k + 1 + (k2 + 1) - 1] := by rw [hx, hy]; simpa using hg2
          have hdd := ddN_eq (by omega) hlt2 heq2
          simp -implicitDefEqProofs only [go_sem, Wk_block, Wk_drawnC, reduceCtorEq, Nat.reduceEqDiff, Nat.reduceAdd, Nat.reduceLeDiff, Nat.reduceLT, Nat.reduceMul, Nat.reduceSub, ↓reduceIte, Int.reduceLT, Int.reduceLE, Int.reduceNeg, Int.reduceAdd, Int.reduceEq, Nat.reduceBneDiff, Nat.reduceBEq, Int.reduceToNat, Int.reduceMul, Int.reduceSub, Int.reduceBEq, Int.reduceBNe, g5, wk1]
          refine IH2 (L.length - (k + 1) - (k2 + 1 + 1)) _ _ (by omega) ⟨k2 + 1, kk, C, rfl, by omega, ?_, ?_, ?_, ?_, hC, hCl, ?_, ?_, by omega, ?_, f2⟩
          · simp only [go_sem, Wk_block, Wk_drawnC, reduceCtorEq, Nat.reduceEqDiff, Nat.reduceAdd, Nat.reduceLeDiff, Nat.reduceLT, Nat.reduceMul, Nat.reduceSub, ↓reduceIte, Int.reduceLT, Int.reduceLE, Int.reduceNeg, Int.reduceAdd, Int.reduceEq, Nat.reduceBneDiff, Nat.reduceBEq, Int.reduceToNat, Int.reduceMul, Int.reduceSub, Int.reduceBEq, Int.reduceBNe]
          · simp only [go_sem, Wk_block, Wk_drawnC, reduceCtorEq, Nat.reduceEqDiff, Nat.reduceAdd, Nat.reduceLeDiff, Nat.reduceLT, Nat.reduceMul, Nat.reduceSub, ↓reduceIte, Int.reduceLT, Int.reduceLE, Int.reduceNeg, Int.reduceAdd, Int.reduceEq, Nat.reduceBneDiff, Nat.reduceBEq, Int.reduceToNat, Int.reduceMul, Int.reduceSub, Int.reduceBEq, Int.reduceBNe, g4]
          · simp only [go_sem, Wk_block, Wk_drawnC, reduceCtorEq, Nat.reduceEqDiff, Nat.reduceAdd, Nat.reduceLeDiff, Nat.reduceLT, Nat.reduceMul, Nat.reduceSub, ↓reduceIte, Int.reduceLT, Int.reduceLE, Int.reduceNeg, Int.reduceAdd, Int.reduceEq, Nat.reduceBneDiff, Nat.reduceBEq, Int.reduceToNat, Int.reduceMul, Int.reduceSub, Int.reduceBEq, Int.reduceBNe, g3]
          · simp only [go_sem, Wk_block, Wk_drawnC, reduceCtorEq, Nat.reduceEqDiff, Nat.reduceAdd, Nat.reduceLeDiff, Nat.reduceLT, Nat.reduceMul, Nat.reduceSub, ↓reduceIte, Int.reduceLT, Int.reduceLE, Int.reduceNeg, Int.reduceAdd, Int.reduceEq, Nat.reduceBneDiff, Nat.reduceBEq, Int.reduceToNat, Int.reduceMul, Int.reduceSub, Int.reduceBEq, Int.reduceBNe, g0]
          · rw [show k + 1 + (k2 + 1 + 1) = k + 1 + (k2 + 1) + 1 by omega, hdd]; exact htk
          · rw [show k + 1 + (k2 + 1 + 1) = k + 1 + (k2 + 1) + 1 by omega, hdd]; exact hkl
          · have := congrArg (List.drop 1) hdr
            simpa [List.drop_drop, Nat.add_assoc] using this
      · have he : k + 1 + (k2 + 1) = L.length := by omega
        have hl3 : ¬ k2 + 1 < L.length - (k + 1) := by omega
        have hkn : kk < L.length := by omega
        have n2 := sl_from (p := p) hkn
        have n3 := sl_to (p := p) (Nat.le_of_lt hkn) (by omega)
        have hnz : ¬ L.length - kk = 0 := by omega
        have hz1 := zrep_len (L.length - kk)
        have hz2 := zrep_cell (L.length - kk)
        have hz3 : kk * 2 + (L.length - kk) * 2 ≤ (C.flatMap Lb.enc).length := by omega
        have hcl := lflat_clear C kk (by omega)
        rw [hCl] at hcl
        rw [he] at htk hkl
        simp -implicitDefEqProofs only [go_sem, Wk_block, Wk_drawnC, reduceCtorEq, Nat.reduceEqDiff, Nat.reduceAdd, Nat.reduceLeDiff, Nat.reduceLT, Nat.reduceMul, Nat.reduceSub, ↓reduceIte, Int.reduceLT, Int.reduceLE, Int.reduceNeg, Int.reduceAdd, Int.reduceEq, Nat.reduceBneDiff, Nat.reduceBEq, Int.reduceToNat, Int.reduceMul, Int.reduceSub, Int.reduceBEq, Int.reduceBNe, g5, g4, g3, g0, hl3, n2, n3, hnz, hz1, hz2, hz3, hC, hcl]
        refine ⟨⟨C.take kk ++ List.replicate (L.length - kk) ⟨0, 0⟩, ?_, ?_, ?_, ?_⟩, f2.put (.inl rfl) _⟩
        · rw [hkl]
        · rfl
        · rw [List.length_append, List.length_take, List.length_replicate]; omega
        · rw [← hkl, List.take_append_of_le_length (by rw [List.length_take]; omega), List.take_take, Nat.min_self]; exact htk
    · have hq := of_decide_eq_false hg
      simp -implicitDefEqProofs only [go_sem, Wk_block, Wk_drawnC, reduceCtorEq, Nat.reduceEqDiff, Nat.reduceAdd, Nat.reduceLeDiff, Nat.reduceLT, Nat.reduceMul, Nat.reduceSub, ↓reduceIte, Int.reduceLT, Int.reduceLE, Int.reduceNeg, Int.reduceAdd, Int.reduceEq, Nat.reduceBneDiff, Nat.reduceBEq, Int.reduceToNat, Int.reduceMul, Int.reduceSub, Int.reduceBEq, Int.reduceBNe, g3, wk1]
      refine IH (L.length - (k + 1 + 1)) _ _ (by omega) ⟨k + 1, rfl, by omega, ?_, ?_, rfl, fun i h0 h1 => ?_⟩
      · simp only [go_sem, Wk_block, Wk_drawnC, reduceCtorEq, Nat.reduceEqDiff, Nat.reduceAdd, Nat.reduceLeDiff, Nat.reduceLT, Nat.reduceMul, Nat.reduceSub, ↓reduceIte, Int.reduceLT, Int.reduceLE, Int.reduceNeg, Int.reduceAdd, Int.reduceEq, Nat.reduceBneDiff, Nat.reduceBEq, Int.reduceToNat, Int.reduceMul, Int.reduceSub, Int.reduceBEq, Int.reduceBNe]
      · simp only [go_sem, Wk_block, Wk_drawnC, reduceCtorEq, Nat.reduceEqDiff, Nat.reduceAdd, Nat.reduceLeDiff, Nat.reduceLT, Nat.reduceMul, Nat.reduceSub, ↓reduceIte, Int.reduceLT, Int.reduceLE, Int.reduceNeg, Int.reduceAdd, Int.reduceEq, Nat.reduceBneDiff, Nat.reduceBEq, Int.reduceToNat, Int.reduceMul, Int.reduceSub, Int.reduceBEq, Int.reduceBNe, g0]
      · by_cases hi : i = k + 1
        · subst hi
          rw [List.getElem?_eq_getElem hlt, List.getElem?_eq_getElem (by omega)]
          intro h
          exact hq (Option.some.inj h)
        · exact hne i h0 (by omega)
  · have hkl : k + 1 = L.length := by omega
    have hltZ : decide (((k + 1 : Nat) : Int) < (L.length : Int)) = false := decide_eq_false (by omega)
    have hd : ddN L L.length = L := by rw [ddN_first (fun i h0 h1 => hne i h0 (by omega)) (Nat.le_refl _), List.take_length]
    simp -implicitDefEqProofs only [go_sem, Wk_block, Wk_drawnC, reduceCtorEq, Nat.reduceEqDiff, Nat.reduceAdd, Nat.reduceLeDiff, Nat.reduceLT, Nat.reduceMul, Nat.reduceSub, ↓reduceIte, Int.reduceLT, Int.reduceLE, Int.reduceNeg, Int.reduceAdd, Int.reduceEq, Nat.reduceBneDiff, Nat.reduceBEq, Int.reduceToNat, Int.reduceMul, Int.reduceSub, Int.reduceBEq, Int.reduceBNe, g3, g0, hlt, hltZ, hd]
    exact ⟨⟨L, hp, rfl, List.take_length⟩, FrX.refl _ _⟩
end Go.Proofs.Ytjejgnbdlfkenaa
namespace Go.Proofs.Ytjejgnbdlfkenaa
open D Base
set_option linter.unusedSimpArgs false
set_option linter.unusedVariables false
set_option maxRecDepth 10000

/-- A slice that append made, and what it holds. -/
def Out (s : St) (N : Nat) (w : AV) (L : List Lb) : Prop := (w = .nilSlice ∧ L = []) ∨ ∃ p, w = .slice p 0 L.length L.length true ∧ 0 < L.length ∧ N ≤ p ∧ p < s.next ∧ s.get p = some (.cells (L.flatMap Lb.enc) true false 2)
theorem Out.new {s : St} {N : Nat} {w : AV} {L : List Lb} (h : Out s N w L) (o : AObj) : Out (s.new o) N w L := by
  rcases h with h | ⟨p, h1, h2, h3, h4, h5⟩
  · exact .inl h
  · exact .inr ⟨p, h1, h2, h3, by simp only [St.next_new]; omega, by rw [St.get_new, if_neg (by omega)]; exact h5⟩
theorem Out.cell {s : St} {N : Nat} {w : AV} {L : List Lb} (h : Out s N w L) : w.cell = true ∧ w.cells = [w] := by
  rcases h with ⟨rfl, _⟩ | ⟨p, rfl, _⟩ <;> exact ⟨rfl, rfl⟩
theorem Out.push {s : St} {N : Nat} {w : AV} {L : List Lb} (h : Out s N w L) (hN : N ≤ s.next) (hl : L.length < 1000000) (x : Lb) :
    ∃ w' s', appendA 2 8 s w 1 [.int .u32 x.e, .int .u32 x.q] = some (w', s') ∧ Out s' N w' (L ++ [x]) ∧ s.next ≤ s'.next ∧ ∀ b, b < N → s'.get b = s.get b := by
  rcases h with ⟨rfl, rfl⟩ | ⟨p, rfl, h1, h2, h3, h4⟩
  · refine ⟨.slice s.next 0 1 1 true, s.new (.cells [.int .u32 x.e, .int .u32 x.q] true false 2), rfl, .inr ⟨s.next, rfl, by simp, hN, Nat.lt_succ_self _, ?_⟩, Nat.le_succ _, fun b hb => ?_⟩
    · rw [St.get_new, if_pos rfl]; rfl
    · rw [St.get_new, if_neg (by omega)]
  · have hf := lflat_len L
    refine ⟨.slice s.next 0 (L.length + 1) (L.length + 1) true, (s.drop p).new (.cells (L.flatMap Lb.enc ++ [.int .u32 x.e, .int .u32 x.q]) true false 2), ?_, .inr ⟨s.next, by simp, by simp, hN, Nat.lt_succ_self _, ?_⟩, Nat.le_succ _, fun b hb => ?_⟩
    · have hlo : loadA s p 0 (L.length * 2) = some (L.flatMap Lb.enc) := by
        unfold loadA
        rw [h4]
        simp only [hf, Nat.zero_add, Nat.le_refl, if_true, List.drop_zero]
        rw [List.take_of_length_le (by omega)]
      unfold appendA
      simp only [hlo, h4]
      rw [if_neg (by omega), if_pos (by omega)]
      simp only [hf, if_true, allCell]
      rfl
    · rw [St.get_new, if_pos (by simp)]
      simp [Lb.enc]
    · rw [St.get_new, if_neg (by simp; omega), St.get_drop, if_neg (by omega)]

def toP (x : Lb) : Int × Int := (x.e, x.q)
def ofP (x : Int × Int) : Lb := ⟨x.1, x.2⟩
theorem dec_flat : ∀ (L : List Lb) (r : List AV), decN labE L.length (L.flatMap Lb.enc ++ r) = some (L.map toP)
  | [], r => rfl
  | a :: l, r => by
    have h := dec_flat l r
    rw [List.length_cons, List.flatMap_cons, List.append_assoc]
    unfold decN
    rw [show List.take labE.k (Lb.enc a ++ (l.flatMap Lb.enc ++ r)) = Lb.enc a from rfl, show List.drop labE.k (Lb.enc a ++ (l.flatMap Lb.enc ++ r)) = l.flatMap Lb.enc ++ r from rfl, h]
    rfl
theorem enc_flat (l : List (Int × Int)) : l.flatMap labE.enc = (l.map ofP).flatMap Lb.enc := by
  induction l with
  | nil => rfl
  | cons a l ih => rw [List.flatMap_cons, List.map_cons, List.flatMap_cons, ih]; rfl
/-- Labels, the lowest first. -/
def srt (L : List Lb) : List Lb := (sortL lcmp (L.map toP)).map ofP
theorem srt_aux (L : List Lb) (d : Array (Int × Int)) (h1 : d.size = (L.map toP).toArray.size) (h3 : (d.extract 0 (L.map toP).toArray.size).toList.Perm ((L.map toP).toArray.extract 0 (L.map toP).toArray.size).toList) (h4 : Go.Sort.SortedIn (ltOf lcmp) 0 (L.map toP).toArray.size d) :
    (d.toList.map ofP).Perm L ∧ ∀ i j (h : i < j) (hj : j < (d.toList.map ofP).length), ¬ ((d.toList.map ofP)[j]).lt ((d.toList.map ofP)[i]'(Nat.lt_trans h hj)) := by
  have e0 : d.extract 0 (L.map toP).toArray.size = d := by rw [← h1]; simp
  have e1 : ∀ A : Array (Int × Int), A.extract 0 A.size = A := fun A => by simp
  rw [e0, e1] at h3
  refine ⟨?_, fun i j h hj => ?_⟩
  · have := h3.map ofP
    rw [List.map_map] at this
    have hid : (ofP ∘ toP) = id := by funext x; rfl
    rwa [hid, List.map_id] at this
  · have hjd : j < d.size := by simpa using hj
    have := h4 i j (Nat.zero_le _) h (by rw [← h1]; exact hjd)
    rw [lt_lcmp, decide_eq_false_iff_not, getElem!_pos d j hjd, getElem!_pos d i (by omega)] at this
    simpa [ofP, Lb.lt, Base.Lb.lt] using this
theorem srt_perm (L : List Lb) : (srt L).Perm L ∧ ∀ i j (h : i < j) (hj : j < (srt L).length), ¬ ((srt L)[j]).lt ((srt L)[i]'(Nat.lt_trans h hj)) := by
  obtain ⟨⟨h1, _, h3⟩, h4⟩ := Go.Sort.pdq_sorts (ltOf lcmp) lswo (L.map toP).toArray 0 (L.map toP).toArray.size (Lib.bitLen (L.map toP).toArray.size) true true (Nat.zero_le _) (Nat.le_refl _) (Or.inl rfl)
  exact srt_aux L _ h1 h3 h4
theorem srt_len (L : List Lb) : (srt L).length = L.length := (srt_perm L).1.length_eq
/-- What the sort makes of a slice that append made. -/
theorem Out.sort {s : St} {N : Nat} {p : Nat} {L : List Lb} (h1 : 0 < L.length) (hl : L.length < 1000000) (h2 : N ≤ p) (h3 : p < s.next) (h4 : s.get p = some (.cells (L.flatMap Lb.enc) true false 2)) :
    mm.L.call 16 [.slice p 0 L.length L.length true, .fn (.func 17) [] []] s = some (.tup [], s.put p (.cells ((srt L).flatMap Lb.enc) true false 2)) := by
  rw [sort_eq]
  unfold sumSortN sumSort
  have hd := dec_flat L []
  rw [List.append_nil] at hd
  have hle : 0 + L.length * labE.k ≤ (L.flatMap Lb.enc).length := by rw [lflat_len]; show 0 + L.length * 2 ≤ _; omega
  have hz : splice (L.flatMap Lb.enc) 0 ((sortL lcmp (L.map toP)).flatMap labE.enc) = (srt L).flatMap Lb.enc := by
    rw [enc_flat]
    show splice _ 0 ((srt L).flatMap Lb.enc) = _
    unfold splice
    rw [List.take_zero, List.nil_append, List.drop_eq_nil_of_le (by rw [lflat_len, lflat_len, srt_len]; omega), List.append_nil]
  simp only [h4, hle, if_true, List.drop_zero, hd, hz]
  rw [if_pos ⟨trivial, by omega⟩]

theorem sort_nil (s : St) : mm.L.call 16 [.nilSlice, .fn (.func 17) [] []] s = some (.tup [], s) := by
  rw [sort_eq]
  rfl
theorem compact_nil (s : St) : mm.L.call 18 [.nilSlice] s = some (.nilSlice, s) := by
  refine of_Wf (Wf_enter ft18 (sm (by decide)) (by rfl) ?_)
  simp -implicitDefEqProofs only [go_sem, Wk_block, Wk_drawnC, reduceCtorEq, Nat.reduceEqDiff, Nat.reduceAdd, Nat.reduceLeDiff, Nat.reduceLT, Nat.reduceMul, Nat.reduceSub, ↓reduceIte, Int.reduceLT, Int.reduceLE, Int.reduceNeg, Int.reduceAdd, Int.reduceEq, Nat.reduceBneDiff, Nat.reduceBEq, Int.reduceToNat, Int.reduceMul, Int.reduceSub, Int.reduceBEq, Int.reduceBNe, fd18]

theorem ddN_mem (L : List Lb) : ∀ j, j ≤ L.length → ∀ x, x ∈ ddN L j ↔ x ∈ L.take j
  | 0, _, x => by simp [ddN]
  | j + 1, h, x => by
    have ih := ddN_mem L j (by omega) x
    rw [List.take_succ_eq_append_getElem (by omega : j < L.length), List.mem_append, List.mem_singleton, ← ih]
    by_cases h0 : 0 < j
    · by_cases he : L[j] = L[j - 1]
      · rw [ddN_eq h0 (by omega) he]
        constructor
        · exact .inl
        · rintro (h1 | rfl)
          · exact h1
          · rw [ddN_mem L j (by omega), he]
            exact List.mem_take_iff_getElem.2 ⟨j - 1, by omega, rfl⟩
      · rw [ddN_ne (by omega) he, List.mem_append, List.mem_singleton]
    · have : j = 0 := by omega
      subst this
      cases L with
      | nil => simp at h
      | cons a l => simp [ddN]

theorem nodup_len : ∀ (a b : List Lb), a.Nodup → (∀ x ∈ a, x ∈ b) → a.length ≤ b.length
  | [], b, _, _ => by simp
  | x :: a, b, hn, hs => by
    have hx := hs x (List.mem_cons_self ..)
    rw [List.nodup_cons] at hn
    have := nodup_len a (b.erase x) hn.2 fun y hy => (List.mem_erase_of_ne (fun e : y = x => hn.1 (by rw [← e]; exact hy))).2 (hs y (List.mem_cons_of_mem _ hy))
    rw [List.length_erase_of_mem hx] at this
    have hb : 0 < b.length := List.length_pos_of_mem hx
    simp
    omega
theorem lt_irrefl' (a : Lb) : ¬ a.lt a := by unfold Lb.lt; omega
theorem lt_of_not {a b c : Lb} (h1 : ¬ b.lt a) (h2 : ¬ c.lt b) (h3 : c ≠ b) : a.lt c := by
  have : ¬ (c.e = b.e ∧ c.q = b.q) := fun h => h3 (Lb.ext h.1 h.2)
  unfold Lb.lt at *
  omega
theorem ddN_pair (L : List Lb) (hs : ∀ i j (h : i < j) (hj : j < L.length), ¬ (L[j]).lt (L[i]'(Nat.lt_trans h hj))) : ∀ j, j ≤ L.length → (ddN L j).Pairwise Lb.lt
  | 0, _ => List.Pairwise.nil
  | j + 1, h => by
    have ih := ddN_pair L hs j (by omega)
    by_cases h0 : 0 < j
    · by_cases he : L[j] = L[j - 1]
      · rw [ddN_eq h0 (by omega) he]; exact ih
      · rw [ddN_ne (by omega) he, List.pairwise_append]
        refine ⟨ih, List.pairwise_singleton _ _, fun x hx y hy => ?_⟩
        rw [List.mem_singleton] at hy
        subst hy
        obtain ⟨i, hi, rfl⟩ := List.mem_take_iff_getElem.1 ((ddN_mem L j (by omega) x).1 hx)
        refine lt_of_not (b := L[j - 1]) ?_ (hs (j - 1) j (by omega) (by omega)) he
        by_cases hij : i = j - 1
        · subst hij; exact lt_irrefl' _
        · exact hs i (j - 1) (by omega) (by omega)
    · have : j = 0 := by omega
      subst this
      cases L with
      | nil => simp at h
      | cons a l => simp [ddN]
end Go.Proofs.Ytjejgnbdlfkenaa
namespace Go.Proofs.Ytjejgnbdlfkenaa.Base
open D
set_option linter.unusedSimpArgs false
set_option linter.unusedVariables false
set_option maxRecDepth 10000

theorem nodup_len : ∀ (a b : List Lb), a.Nodup → (∀ x ∈ a, x ∈ b) → a.length ≤ b.length
  | [], _, _, _ => Nat.zero_le _
  | x :: r, b, h, hs => by
    obtain ⟨h1, h2⟩ := List.nodup_cons.1 h
    have hx := hs x (List.mem_cons_self ..)
    have h3 := nodup_len r (b.erase x) h2 fun y hy => (List.mem_erase_of_ne (by rintro rfl; exact h1 hy)).2 (hs y (List.mem_cons_of_mem _ hy))
    rw [List.length_erase_of_mem hx] at h3
    have := List.length_pos_of_mem hx
    simp only [List.length_cons]
    omega
/-! ### What is the last one of each span: the plain law -/
theorem nodupI_len : ∀ (a b : List Int), a.Nodup → (∀ x ∈ a, x ∈ b) → a.length ≤ b.length
  | [], _, _, _ => Nat.zero_le _
  | x :: r, b, h, hs => by
    obtain ⟨h1, h2⟩ := List.nodup_cons.1 h
    have hx := hs x (List.mem_cons_self ..)
    have h3 := nodupI_len r (b.erase x) h2 fun y hy => (List.mem_erase_of_ne (by rintro rfl; exact h1 hy)).2 (hs y (List.mem_cons_of_mem _ hy))
    rw [List.length_erase_of_mem hx] at h3
    have := List.length_pos_of_mem hx
    simp only [List.length_cons]
    omega
theorem findB_none : ∀ (b : List (Int × Lb)) (n : Int) (k : Nat), findB b n k = none → n ∉ b.map (·.1)
  | [], _, _, _ => by simp
  | e :: r, n, k, h => by
    unfold findB at h
    split at h
    · cases h
    · rename_i hn
      have := findB_none r n (k + 1) h
      simp only [List.map_cons, List.mem_cons, not_or]
      exact ⟨by simpa using hn, this⟩
theorem pB_keys (b : List (Int × Lb)) (n : Int) (v : Lb) : (pB b n v).map (·.1) = if n ∈ b.map (·.1) then b.map (·.1) else b.map (·.1) ++ [n] := by
  unfold pB
  split
  · rename_i j w hf
    obtain ⟨_, h2, h3⟩ := findB_lt b n 0 j w hf
    rw [Nat.sub_zero] at h3
    have hm : n ∈ b.map (·.1) := List.mem_map.2 ⟨_, List.mem_of_getElem? h3, rfl⟩
    rw [if_pos hm]
    apply List.ext_getElem?
    intro i
    rw [List.getElem?_map, List.getElem?_map, List.getElem?_set]
    split
    · rename_i e
      subst e
      rw [if_pos (by omega), h3]
      rfl
    · rfl
  · rename_i hf
    rw [if_neg (findB_none b n 0 hf)]
    simp
theorem findB_get : ∀ (b : List (Int × Lb)) (n : Int) (k : Nat) (v : Lb), (b.map (·.1)).Nodup → (n, v) ∈ b → ∃ j, findB b n k = some (j, v)
  | [], _, _, _, _, h => by simp at h
  | e :: r, n, k, v, hn, h => by
    obtain ⟨h1, h2⟩ := List.nodup_cons.1 hn
    unfold findB
    rcases List.mem_cons.1 h with rfl | h
    · exact ⟨k, by simp⟩
    · have : ¬ (n == e.1) = true := by
        intro hh
        have : n = e.1 := by simpa using hh
        subst this
        exact h1 (List.mem_map.2 ⟨_, h, rfl⟩)
      rw [if_neg this]
      exact findB_get r n (k + 1) v h2 h
theorem gB_of {b : List (Int × Lb)} {n : Int} {v : Lb} (hn : (b.map (·.1)).Nodup) (h : (n, v) ∈ b) : gB b n = v := by
  obtain ⟨j, hj⟩ := findB_get b n 0 v hn h
  unfold gB
  rw [hj]
theorem gB_no {b : List (Int × Lb)} {n : Int} (h : n ∉ b.map (·.1)) : gB b n = ⟨0, 0⟩ := by
  unfold gB
  split
  · rename_i j v hf
    obtain ⟨_, h2, h3⟩ := findB_lt b n 0 j v hf
    rw [Nat.sub_zero] at h3
    exact absurd (List.mem_map.2 ⟨_, List.mem_of_getElem? h3, rfl⟩) h
  · rfl
theorem gB_mem {b : List (Int × Lb)} {n : Int} (hn : (b.map (·.1)).Nodup) (h : n ∈ b.map (·.1)) : (n, gB b n) ∈ b := by
  obtain ⟨⟨m, v⟩, h1, h2⟩ := List.mem_map.1 h
  simp only at h2
  subst h2
  rw [gB_of hn h1]
  exact h1
theorem pB_nodup {b : List (Int × Lb)} {n : Int} {v : Lb} (h : (b.map (·.1)).Nodup) : ((pB b n v).map (·.1)).Nodup := by
  rw [pB_keys]
  split
  · exact h
  · rename_i hn
    rw [List.nodup_append]
    refine ⟨h, by simp, ?_⟩
    intro a ha c hc
    rw [List.mem_singleton.1 hc]
    rintro rfl
    exact hn ha
theorem pB_mem_self {b : List (Int × Lb)} {n : Int} {v : Lb} : (n, v) ∈ pB b n v := by
  unfold pB
  split
  · rename_i j w hf
    obtain ⟨_, h2, h3⟩ := findB_lt b n 0 j w hf
    exact List.mem_of_getElem? (i := j) (by rw [List.getElem?_set, if_pos rfl, if_pos (by omega)])
  · simp
theorem pB_mem_ne {b : List (Int × Lb)} {n m : Int} {v w : Lb} (hm : m ≠ n) (h : (m, w) ∈ b) : (m, w) ∈ pB b n v := by
  unfold pB
  split
  · rename_i j u hf
    obtain ⟨_, h2, h3⟩ := findB_lt b n 0 j u hf
    rw [Nat.sub_zero] at h3
    obtain ⟨i, hi⟩ := List.getElem?_of_mem h
    refine List.mem_of_getElem? (i := i) ?_
    rw [List.getElem?_set, if_neg]
    · exact hi
    · rintro rfl
      rw [h3] at hi
      cases hi
      exact hm rfl
  · exact List.mem_append_left _ h
theorem gB_pB_self {b : List (Int × Lb)} {n : Int} {v : Lb} (h : (b.map (·.1)).Nodup) : gB (pB b n v) n = v := gB_of (pB_nodup h) pB_mem_self
theorem gB_pB_ne {b : List (Int × Lb)} {n m : Int} {v : Lb} (h : (b.map (·.1)).Nodup) (hm : m ≠ n) : gB (pB b n v) m = gB b m := by
  by_cases hk : m ∈ b.map (·.1)
  · exact gB_of (pB_nodup h) (pB_mem_ne hm (gB_mem h hk))
  · rw [gB_no hk]
    refine gB_no ?_
    rw [pB_keys]
    split
    · exact hk
    · simp only [List.mem_append, List.mem_singleton, not_or]
      exact ⟨hk, hm⟩

structure BestOk (span : Int) (l : List Sn) (b : List (Int × Lb)) : Prop where
  nd : (b.map (·.1)).Nodup
  keys : ∀ n, n ∈ b.map (·.1) ↔ ∃ x ∈ l, x.t.tdiv span = n
  most : ∀ x ∈ l, ¬ (gB b (x.t.tdiv span)).lt x.l
  is : ∀ n, gB b n = ⟨0, 0⟩ ∨ ∃ x ∈ l, x.t.tdiv span = n ∧ x.l = gB b n
theorem mxL_l (a b c : Lb) (h : ¬ a.lt c) : ¬ (mxL a b).lt c := by
  unfold mxL
  split
  · rename_i h2
    unfold Lb.lt at *
    omega
  · exact h
theorem mxL_r (a b : Lb) : ¬ (mxL a b).lt b := by
  unfold mxL
  split
  · unfold Lb.lt; omega
  · assumption
theorem bestOk_step {span : Int} {l : List Sn} {b : List (Int × Lb)} (h : BestOk span l b) (x : Sn) : BestOk span (l ++ [x]) (stepB span b x) where
  nd := pB_nodup h.nd
  keys n := by
    unfold stepB
    rw [pB_keys]
    constructor
    · intro hn
      split at hn
      · obtain ⟨y, hy, e⟩ := (h.keys n).1 hn
        exact ⟨y, List.mem_append_left _ hy, e⟩
      · rcases List.mem_append.1 hn with hn | hn
        · obtain ⟨y, hy, e⟩ := (h.keys n).1 hn
          exact ⟨y, List.mem_append_left _ hy, e⟩
        · exact ⟨x, by simp, (List.mem_singleton.1 hn).symm⟩
    · rintro ⟨y, hy, e⟩
      rcases List.mem_append.1 hy with hy | hy
      · have := (h.keys n).2 ⟨y, hy, e⟩
        split
        · exact this
        · exact List.mem_append_left _ this
      · rw [List.mem_singleton.1 hy] at e
        subst e
        split
        · assumption
        · simp
  most y hy := by
    unfold stepB
    by_cases e : y.t.tdiv span = x.t.tdiv span
    · rw [e, gB_pB_self h.nd]
      rcases List.mem_append.1 hy with hy | hy
      · have := h.most y hy
        rw [e] at this
        exact mxL_l _ _ _ this
      · rw [List.mem_singleton.1 hy]
        exact mxL_r _ _
    · rw [gB_pB_ne h.nd e]
      rcases List.mem_append.1 hy with hy | hy
      · exact h.most y hy
      · rw [List.mem_singleton.1 hy] at e
        exact absurd rfl e
  is n := by
    unfold stepB
    by_cases e : n = x.t.tdiv span
    · subst e
      rw [gB_pB_self h.nd]
      unfold mxL
      split
      · exact .inr ⟨x, by simp, rfl, rfl⟩
      · rcases h.is (x.t.tdiv span) with h0 | ⟨y, hy, e, e2⟩
        · exact .inl h0
        · exact .inr ⟨y, List.mem_append_left _ hy, e, e2⟩
    · rw [gB_pB_ne h.nd e]
      rcases h.is n with h0 | ⟨y, hy, e, e2⟩
      · exact .inl h0
      · exact .inr ⟨y, List.mem_append_left _ hy, e, e2⟩
theorem bestOk_fold (span : Int) : ∀ (r l : List Sn) (b : List (Int × Lb)), BestOk span l b → BestOk span (l ++ r) (r.foldl (stepB span) b)
  | [], l, b, h => by simpa using h
  | x :: r, l, b, h => by
    have := bestOk_fold span r (l ++ [x]) _ (bestOk_step h x)
    simpa using this
theorem bestOk (span : Int) (l : List Sn) : BestOk span l (bestOf span l) := by
  have := bestOk_fold span l [] [] ⟨by simp, by simp, by simp, fun n => .inl rfl⟩
  simpa [bestOf] using this

theorem mem_take_desc : ∀ (D : List Int) (m : Nat) (n : Int), D.Pairwise (· > ·) → (n ∈ D.take m ↔ n ∈ D ∧ (D.filter fun k => decide (k > n)).length < m)
  | [], m, n, _ => by simp
  | a :: D, 0, n, _ => by simp
  | a :: D, m + 1, n, h => by
    obtain ⟨h1, h2⟩ := List.pairwise_cons.1 h
    have ih := mem_take_desc D m n h2
    rw [List.take_succ_cons, List.mem_cons, List.mem_cons, ih]
    by_cases e : n = a
    · subst e
      have : (List.filter (fun k => decide (k > n)) (n :: D)) = [] := by
        rw [List.filter_eq_nil_iff]
        intro k hk
        rcases List.mem_cons.1 hk with rfl | hk
        · simp
        · have := h1 k hk
          simp; omega
      simp [this]
    · simp only [e, false_or]
      constructor
      · rintro ⟨h3, h4⟩
        have := h1 n h3
        refine ⟨h3, ?_⟩
        rw [List.filter_cons_of_pos (by simpa using this), List.length_cons]
        omega
      · rintro ⟨h3, h4⟩
        have := h1 n h3
        rw [List.filter_cons_of_pos (by simpa using this), List.length_cons] at h4
        exact ⟨h3, by omega⟩

/-- The spans behind one. -/
def lat (span own : Int) : List Sn → List Int → List Int
  | [], acc => acc
  | x :: r, acc => lat span own r (if x.t.tdiv span > own ∧ x.t.tdiv span ∉ acc then acc ++ [x.t.tdiv span] else acc)
theorem lat_mem (span own n : Int) : ∀ (l : List Sn) (acc : List Int), n ∈ lat span own l acc ↔ n ∈ acc ∨ (n > own ∧ ∃ x ∈ l, x.t.tdiv span = n)
  | [], acc => by simp [lat]
  | x :: r, acc => by
    rw [lat, lat_mem span own n r]
    constructor
    · rintro (h | ⟨h, y, hy, e⟩)
      · split at h
        · rename_i h2
          rcases List.mem_append.1 h with h | h
          · exact .inl h
          · rw [List.mem_singleton.1 h]
            exact .inr ⟨h2.1, x, List.mem_cons_self .., rfl⟩
        · exact .inl h
      · exact .inr ⟨h, y, List.mem_cons_of_mem _ hy, e⟩
    · rintro (h | ⟨h, y, hy, e⟩)
      · left
        split
        · exact List.mem_append_left _ h
        · exact h
      · rcases List.mem_cons.1 hy with rfl | hy
        · left
          subst e
          split
          · simp
          · rename_i h2
            exact Classical.not_not.1 fun h3 => h2 ⟨h, h3⟩
        · exact .inr ⟨h, y, hy, e⟩
theorem lat_nodup (span own : Int) : ∀ (l : List Sn) (acc : List Int), acc.Nodup → (lat span own l acc).Nodup
  | [], acc, h => h
  | x :: r, acc, h => by
    rw [lat]
    refine lat_nodup span own r _ ?_
    split
    · rename_i h2
      rw [List.nodup_append]
      refine ⟨h, by simp, ?_⟩
      intro a ha c hc
      rw [List.mem_singleton.1 hc]
      rintro rfl
      exact h2.2 ha
    · exact h

/-- Is it the last of its span? -/
def lastIn (span : Int) (l : List Sn) (x : Sn) : Bool := !l.any fun y => decide (y.t.tdiv span = x.t.tdiv span) && decide (x.l.lt y.l)
/-- Is a snapshot kept, there being so many from it on? -/
def keptB (last span spans : Int) (l : List Sn) (left : Nat) (x : Sn) : Bool :=
  decide ((left : Int) ≤ last) || (decide (span ≠ 0) && lastIn span l x && decide (((lat span (x.t.tdiv span) l []).length : Int) < spans))

theorem keys_desc (span : Int) (l : List Sn) : (keysS (bestOf span l)).reverse.Pairwise (· > ·) := by
  rw [List.pairwise_reverse]
  have h1 := keysS_pair (bestOf span l)
  have h2 : (keysS (bestOf span l)).Nodup := (keysS_perm _).nodup_iff.2 (bestOk span l).nd
  have h3 := List.pairwise_iff_getElem.1 h1
  rw [List.pairwise_iff_getElem]
  intro i j hi hj hij
  have h4 := h3 i j hi hj hij
  have h5 : (keysS (bestOf span l))[i] ≠ (keysS (bestOf span l))[j] := fun e => by
    have := (List.getElem_inj h2).1 e
    omega
  omega
theorem keys_mem (span : Int) (l : List Sn) (n : Int) : n ∈ (keysS (bestOf span l)).reverse ↔ ∃ x ∈ l, x.t.tdiv span = n := by
  rw [List.mem_reverse, (keysS_perm _).mem_iff]
  exact (bestOk span l).keys n
theorem lat_len (span own : Int) (l : List Sn) : ((keysS (bestOf span l)).reverse.filter fun k => decide (k > own)).length = (lat span own l []).length := by
  have hd : ((keysS (bestOf span l)).reverse).Nodup := by
    refine (keys_desc span l).imp ?_
    intro a b h e
    omega
  apply Nat.le_antisymm
  · refine nodupI_len _ _ (hd.filter _) ?_
    intro n hn
    rw [List.mem_filter, keys_mem] at hn
    rw [lat_mem]
    exact .inr ⟨by simpa using hn.2, hn.1⟩
  · refine nodupI_len _ _ (lat_nodup span own l [] (by simp)) ?_
    intro n hn
    rw [lat_mem] at hn
    rw [List.mem_filter, keys_mem]
    rcases hn with hn | ⟨h1, h2⟩
    · simp at hn
    · exact ⟨h2, by simpa using h1⟩
theorem lb_tri {a b : Lb} (h1 : ¬ a.lt b) (h2 : ¬ b.lt a) : a = b := by
  unfold Lb.lt at *
  ext <;> omega
/-- Which labels are among so many of the spans' last ones. -/
theorem spans_mem {span : Int} {l : List Sn} (h0 : ∀ x ∈ l, 0 ≤ x.l.e ∧ 0 ≤ x.l.q) (m : Nat) (v : Lb) : v ∈ (spansV span l).take m ↔ ∃ x ∈ l, x.l = v ∧ lastIn span l x = true ∧ (lat span (x.t.tdiv span) l []).length < m := by
  have B := bestOk span l
  unfold spansV
  rw [← List.map_take, List.mem_map]
  constructor
  · rintro ⟨n, hn, rfl⟩
    obtain ⟨h1, h2⟩ := (mem_take_desc _ m n (keys_desc span l)).1 hn
    obtain ⟨y, hy, e⟩ := (keys_mem span l n).1 h1
    have : ∃ x ∈ l, x.t.tdiv span = n ∧ x.l = gB (bestOf span l) n := by
      rcases B.is n with h3 | h3
      · refine ⟨y, hy, e, ?_⟩
        have h4 := B.most y hy
        rw [e, h3] at h4
        rw [h3]
        have := h0 y hy
        refine lb_tri (fun h5 => ?_) h4
        unfold Lb.lt at h5
        simp only at h5
        omega
      · exact h3
    obtain ⟨x, hx, e1, e2⟩ := this
    refine ⟨x, hx, e2, ?_, ?_⟩
    · unfold lastIn
      rw [Bool.not_eq_true', List.any_eq_false]
      intro z hz
      simp only [Bool.and_eq_true, decide_eq_true_eq, not_and]
      intro e3
      have := B.most z hz
      rw [e3, e1, ← e2] at this
      exact this
    · rw [e1, ← lat_len]
      exact h2
  · rintro ⟨x, hx, rfl, h1, h2⟩
    refine ⟨x.t.tdiv span, (mem_take_desc _ m _ (keys_desc span l)).2 ⟨(keys_mem span l _).2 ⟨x, hx, rfl⟩, by rw [lat_len]; exact h2⟩, ?_⟩
    have h3 := B.most x hx
    rcases B.is (x.t.tdiv span) with h4 | ⟨y, hy, e1, e2⟩
    · rw [h4] at h3 ⊢
      have := h0 x hx
      refine lb_tri h3 (fun h5 => ?_)
      unfold Lb.lt at h5
      simp only at h5
      omega
    · rw [← e2] at h3 ⊢
      refine lb_tri h3 (fun h5 => ?_)
      unfold lastIn at h1
      rw [Bool.not_eq_true', List.any_eq_false] at h1
      have := h1 y hy
      simp [e1] at this
      exact this h5

/-- Two rising lists of the same labels are one. -/
theorem rising_eq : ∀ (a b : List Lb), a.Pairwise Lb.lt → b.Pairwise Lb.lt → (∀ x, x ∈ a ↔ x ∈ b) → a = b
  | [], [], _, _, _ => rfl
  | [], y :: b, _, _, h => by have := (h y).2 (List.mem_cons_self ..); simp at this
  | x :: a, [], _, _, h => by have := (h x).1 (List.mem_cons_self ..); simp at this
  | x :: a, y :: b, ha, hb, h => by
    obtain ⟨a1, a2⟩ := List.pairwise_cons.1 ha
    obtain ⟨b1, b2⟩ := List.pairwise_cons.1 hb
    have e : x = y := by
      refine lb_tri (fun hxy => ?_) (fun hyx => ?_)
      · rcases List.mem_cons.1 ((h x).1 (List.mem_cons_self ..)) with e | h1
        · subst e; unfold Lb.lt at hxy; omega
        · have := b1 x h1; unfold Lb.lt at *; omega
      · rcases List.mem_cons.1 ((h y).2 (List.mem_cons_self ..)) with e | h1
        · subst e; unfold Lb.lt at hyx; omega
        · have := a1 y h1; unfold Lb.lt at *; omega
    subst e
    congr 1
    refine rising_eq a b a2 b2 fun z => ?_
    constructor
    · intro hz
      rcases List.mem_cons.1 ((h z).1 (List.mem_cons_of_mem _ hz)) with rfl | h1
      · have := a1 z hz; unfold Lb.lt at this; omega
      · exact h1
    · intro hz
      rcases List.mem_cons.1 ((h z).2 (List.mem_cons_of_mem _ hz)) with rfl | h1
      · have := b1 z hz; unfold Lb.lt at this; omega
      · exact h1
/-! ### Which are kept -/
def pickS (last span spans : Int) (l : List Sn) : List Sn → List Lb
  | [] => []
  | x :: r => (if keptB last span spans l (r.length + 1) x then [x.l] else []) ++ pickS last span spans l r
theorem pickS_mem (last span spans : Int) (l : List Sn) (v : Lb) : ∀ r : List Sn, v ∈ pickS last span spans l r ↔ ∃ a x b, r = a ++ x :: b ∧ keptB last span spans l (b.length + 1) x = true ∧ x.l = v
  | [] => by simp [pickS]
  | y :: r => by
    rw [pickS, List.mem_append, pickS_mem last span spans l v r]
    constructor
    · rintro (h | ⟨a, x, b, rfl, h1, h2⟩)
      · split at h
        · rename_i h1
          rw [List.mem_singleton] at h
          exact ⟨[], y, r, rfl, h1, h.symm⟩
        · simp at h
      · exact ⟨y :: a, x, b, rfl, h1, h2⟩
    · rintro ⟨a, x, b, e, h1, h2⟩
      cases a with
      | nil =>
        simp only [List.nil_append, List.cons.injEq] at e
        obtain ⟨rfl, rfl⟩ := e
        left
        rw [if_pos h1, h2]
        simp
      | cons c a =>
        simp only [List.cons_append, List.cons.injEq] at e
        obtain ⟨rfl, rfl⟩ := e
        exact .inr ⟨a, x, b, rfl, h1, h2⟩
def Rises (l : List Sn) : Prop := l.Pairwise fun x y => x.l.lt y.l
theorem pickS_sub (last span spans : Int) (l : List Sn) : ∀ r : List Sn, (pickS last span spans l r).Sublist (r.map (·.l))
  | [] => List.Sublist.slnil
  | y :: r => by
    rw [pickS, List.map_cons]
    split
    · exact (pickS_sub last span spans l r).cons_cons _
    · exact (pickS_sub last span spans l r).cons _
theorem rises_map {l : List Sn} (h : Rises l) : (l.map (·.l)).Pairwise Lb.lt := List.pairwise_map.2 h
theorem pickS_pair (last span spans : Int) {l r : List Sn} (h : Rises r) : (pickS last span spans l r).Pairwise Lb.lt := (rises_map h).sublist (pickS_sub ..)
/-- How many of the last ones. -/
def keepN (last : Int) (n : Nat) : Nat := (max 0 (min last (n : Int))).toNat
def keptP (last span spans : Int) (l : List Sn) : List Lb := (l.drop (l.length - keepN last l.length)).map (·.l) ++ (if span > 0 then (spansV span l).take (keepN spans (spansV span l).length) else [])
theorem rises_split {a b a' b' : List Sn} {x y : Sn} (h : Rises (a ++ x :: b)) (e : a ++ x :: b = a' ++ y :: b') (he : x.l = y.l) : a = a' ∧ x = y ∧ b = b' := by
  induction a generalizing a' with
  | nil =>
    cases a' with
    | nil => simpa using e
    | cons c a' =>
      simp only [List.nil_append, List.cons_append, List.cons.injEq] at e
      obtain ⟨rfl, rfl⟩ := e
      have := (List.pairwise_cons.1 h).1 y (by simp)
      rw [he] at this
      unfold Lb.lt at this
      omega
  | cons d a ih =>
    cases a' with
    | nil =>
      simp only [List.nil_append, List.cons_append, List.cons.injEq] at e
      obtain ⟨rfl, rfl⟩ := e
      have := (List.pairwise_cons.1 h).1 x (by simp)
      rw [he] at this
      unfold Lb.lt at this
      omega
    | cons c a' =>
      simp only [List.cons_append, List.cons.injEq] at e
      obtain ⟨rfl, e⟩ := e
      obtain ⟨rfl, h2⟩ := ih (List.pairwise_cons.1 h).2 e
      exact ⟨rfl, h2⟩
theorem tail_mem (last : Int) (l : List Sn) (v : Lb) : v ∈ (l.drop (l.length - keepN last l.length)).map (·.l) ↔ ∃ a x b, l = a ++ x :: b ∧ ((b.length + 1 : Nat) : Int) ≤ last ∧ x.l = v := by
  rw [List.mem_map]
  constructor
  · rintro ⟨x, hx, rfl⟩
    obtain ⟨a, b, e⟩ := List.append_of_mem hx
    refine ⟨l.take (l.length - keepN last l.length) ++ a, x, b, ?_, ?_, rfl⟩
    · rw [List.append_assoc, ← e, List.take_append_drop]
    · have := congrArg List.length e
      rw [List.length_drop, List.length_append, List.length_cons] at this
      unfold keepN at *
      omega
  · rintro ⟨a, x, b, e, h, rfl⟩
    refine ⟨x, ?_, rfl⟩
    have h1 : l.length = a.length + (b.length + 1) := by rw [e]; simp
    have h2 : l.length - keepN last l.length ≤ a.length := by unfold keepN; omega
    rw [e, List.drop_append_of_le_length (by rw [← e]; exact h2)]
    simp
theorem spans_len (span : Int) (l : List Sn) : (spansV span l).length ≤ l.length := by
  unfold spansV
  rw [List.length_map]
  have hd : ((keysS (bestOf span l)).reverse).Nodup := by
    refine (keys_desc span l).imp ?_
    intro a b h e
    omega
  have := nodupI_len _ (l.map fun x => x.t.tdiv span) hd fun n hn => by
    obtain ⟨x, hx, e⟩ := (keys_mem span l n).1 hn
    exact List.mem_map.2 ⟨x, hx, e⟩
  simpa using this
theorem take_all_mem {α} {L : List α} {v : α} (m : Int) : v ∈ L.take (keepN m L.length) ↔ v ∈ L.take m.toNat := by
  unfold keepN
  by_cases h : m ≤ L.length
  · rw [show (max 0 (min m (L.length : Int))).toNat = m.toNat by omega]
  · rw [show (max 0 (min m (L.length : Int))).toNat = L.length by omega, List.take_of_length_le (by omega), List.take_of_length_le (by omega)]
theorem keptP_mem {last span spans : Int} {l : List Sn} (hs : 0 ≤ span) (hr : Rises l) (h0 : ∀ x ∈ l, 0 ≤ x.l.e ∧ 0 ≤ x.l.q) (v : Lb) : v ∈ keptP last span spans l ↔ v ∈ pickS last span spans l l := by
  unfold keptP
  rw [List.mem_append, tail_mem, pickS_mem]
  constructor
  · rintro (⟨a, x, b, e, h1, h2⟩ | h)
    · exact ⟨a, x, b, e, by unfold keptB; rw [decide_eq_true h1]; rfl, h2⟩
    · split at h
      · rename_i hp
        rw [take_all_mem, spans_mem h0] at h
        obtain ⟨x, hx, h1, h2, h3⟩ := h
        obtain ⟨a, b, e⟩ := List.append_of_mem hx
        refine ⟨a, x, b, e, ?_, h1⟩
        unfold keptB
        rw [Bool.or_eq_true, Bool.and_eq_true, Bool.and_eq_true]
        exact .inr ⟨⟨by simp; omega, h2⟩, by simp; omega⟩
      · simp at h
  · rintro ⟨a, x, b, e, h1, h2⟩
    unfold keptB at h1
    rw [Bool.or_eq_true, Bool.and_eq_true, Bool.and_eq_true] at h1
    rcases h1 with h1 | ⟨⟨h3, h4⟩, h5⟩
    · exact .inl ⟨a, x, b, e, by simpa using h1, h2⟩
    · right
      rw [if_pos (by simp at h3; omega), take_all_mem, spans_mem h0]
      exact ⟨x, by rw [e]; simp, h2, h4, by simp at h5; omega⟩
theorem kept_eq {last span spans : Int} {l : List Sn} {D : List Lb} (hs : 0 ≤ span) (hr : Rises l) (h0 : ∀ x ∈ l, 0 ≤ x.l.e ∧ 0 ≤ x.l.q) (hD : D.Pairwise Lb.lt) (hm : ∀ v, v ∈ D ↔ v ∈ keptP last span spans l) : D = pickS last span spans l l :=
  rising_eq _ _ hD (pickS_pair _ _ _ hr) fun v => (hm v).trans (keptP_mem hs hr h0 v)

/-- Is a snapshot's label among those? -/
theorem in_pick {last span spans : Int} {l a b : List Sn} {x : Sn} (hr : Rises l) (e : l = a ++ x :: b) : (x.l ∈ pickS last span spans l l) = (keptB last span spans l (b.length + 1) x = true) := by
  apply propext
  rw [pickS_mem]
  constructor
  · rintro ⟨a', y, b', e', h, he⟩
    have hr' := hr
    rw [e] at hr'
    obtain ⟨rfl, rfl, rfl⟩ := rises_split hr' (e.symm.trans e') he.symm
    exact h
  · intro h
    exact ⟨a, x, b, e, h, rfl⟩

/-! ### Kept again -/
theorem lat_mono {span own : Int} {l k : List Sn} (h : ∀ x ∈ k, x ∈ l) : (lat span own k []).length ≤ (lat span own l []).length := by
  refine nodupI_len _ _ (lat_nodup span own k [] (by simp)) ?_
  intro n hn
  rw [lat_mem] at hn ⊢
  rcases hn with hn | ⟨h1, x, hx, h2⟩
  · simp at hn
  · exact .inr ⟨h1, x, h x hx, h2⟩
theorem keptB_mono {last span spans : Int} {l k : List Sn} {n m : Nat} {x : Sn} (h : ∀ x ∈ k, x ∈ l) (hn : m ≤ n) (hk : keptB last span spans l n x = true) : keptB last span spans k m x = true := by
  unfold keptB at *
  rw [Bool.or_eq_true, Bool.and_eq_true, Bool.and_eq_true] at *
  rcases hk with hk | ⟨⟨h1, h2⟩, h3⟩
  · left
    simp at hk ⊢
    omega
  · right
    refine ⟨⟨h1, ?_⟩, ?_⟩
    · unfold lastIn at *
      rw [Bool.not_eq_true', List.any_eq_false] at *
      exact fun y hy => h2 y (h y hy)
    · have := lat_mono (span := span) (own := x.t.tdiv span) h
      simp at h3 ⊢
      omega
/-- What is left of the snapshots. -/
def leftS (K : List Lb) (l : List Sn) : List Sn := l.filter fun x => decide (x.l ∈ K)
theorem again_eq {last span spans : Int} {l : List Sn} (hr : Rises l) : let k := leftS (pickS last span spans l l) l
    pickS last span spans k k = k.map (·.l) ∧ k.map (·.l) = pickS last span spans l l := by
  intro k
  have hsub : ∀ x ∈ k, x ∈ l := fun x hx => (List.mem_filter.1 hx).1
  have key : ∀ a r, l = a ++ r → pickS last span spans k (leftS (pickS last span spans l l) r) = (leftS (pickS last span spans l l) r).map (·.l) ∧ (leftS (pickS last span spans l l) r).map (·.l) = pickS last span spans l r := by
    intro a r
    induction r generalizing a with
    | nil => intro _; exact ⟨rfl, rfl⟩
    | cons x r ih =>
      intro e
      obtain ⟨h1, h2⟩ := ih (a ++ [x]) (by rw [e]; simp)
      have hin := in_pick (last := last) (span := span) (spans := spans) hr e
      unfold leftS at *
      by_cases hx : x.l ∈ pickS last span spans l l
      · rw [List.filter_cons_of_pos (by simpa using hx)]
        rw [hin] at hx
        refine ⟨?_, ?_⟩
        · rw [pickS, h1, if_pos, List.map_cons]
          · rfl
          · exact keptB_mono hsub (by simpa using List.length_filter_le _ r) hx
        · rw [List.map_cons, h2, pickS, if_pos hx]
          rfl
      · rw [List.filter_cons_of_neg (by simpa using hx)]
        rw [hin] at hx
        refine ⟨h1, ?_⟩
        rw [h2, pickS, if_neg hx]
        rfl
  exact key [] l rfl
theorem leftS_rises {K : List Lb} {l : List Sn} (h : Rises l) : Rises (leftS K l) := List.Pairwise.sublist List.filter_sublist h
theorem pick_last {last span spans : Int} {l : List Sn} (h : 0 < last) (a : List Sn) (x : Sn) (hl : l = a ++ [x]) : ∃ p, pickS last span spans l l = p ++ [x.l] := by
  have key : ∀ r : List Sn, ∃ p, pickS last span spans l (r ++ [x]) = p ++ [x.l] := by
    intro r
    induction r with
    | nil =>
      refine ⟨[], ?_⟩
      rw [List.nil_append, pickS, if_pos]
      · rfl
      · unfold keptB
        rw [decide_eq_true (by simp; omega)]
        rfl
    | cons y r ih =>
      obtain ⟨p, hp⟩ := ih
      exact ⟨_ ++ p, by rw [List.cons_append, pickS, hp, ← List.append_assoc]⟩
  obtain ⟨p, hp⟩ := key a
  exact ⟨p, by rw [← hp, ← hl]⟩

/-! ### How many -/
theorem kept_count {last span spans : Int} {l : List Sn} (hs : 0 ≤ span) (hr : Rises l) (h0 : ∀ x ∈ l, 0 ≤ x.l.e ∧ 0 ≤ x.l.q) : (pickS last span spans l l).length ≤ keepN last l.length + keepN spans l.length := by
  have hnd : (pickS last span spans l l).Nodup := by
    refine (pickS_pair _ _ _ hr).imp ?_
    rintro a b h rfl
    unfold Lb.lt at h
    omega
  refine Nat.le_trans (nodup_len _ (keptP last span spans l) hnd fun v hv => (keptP_mem hs hr h0 v).2 hv) ?_
  unfold keptP
  rw [List.length_append, List.length_map, List.length_drop]
  have := spans_len span l
  split
  · rw [List.length_take]
    unfold keepN
    omega
  · simp
    omega
theorem kept_none {last spans : Int} {l : List Sn} (h : last ≤ 0) : ∀ r, pickS last 0 spans l r = []
  | [] => rfl
  | x :: r => by
    rw [pickS, kept_none h r, if_neg]
    · rfl
    · unfold keptB
      rw [decide_eq_false (by simp; omega)]
      simp
end Go.Proofs.Ytjejgnbdlfkenaa.Base
namespace Go.Proofs.Ytjejgnbdlfkenaa
open D Base
set_option linter.unusedSimpArgs false
set_option linter.unusedVariables false
set_option maxRecDepth 10000

def tyLb : Ty := .many [.int .u32, .int .u32]
def tySn : Ty := .many [tyLb, .int .i64, .int .u32]
def tyKeep : Ty := .many [.int .u32, .int .u32, .int .i64, .int .i64]
/-- What holds of a snapshot's numbers. -/
structure SnOk (x : Sn) : Prop where
  e : 0 ≤ x.l.e ∧ x.l.e ≤ 4294967295
  q : 0 ≤ x.l.q ∧ x.l.q ≤ 4294967295
  t : 0 ≤ x.t ∧ x.t ≤ 4294967295
/-- Snapshots, in a slice that may be cut from some place on. -/
structure Sns (s : St) (v : AV) (l : List Sn) : Prop where
  rd : Rd s v 4 (l.map Sn.enc)
  read : ∀ s', Fr s s' → readSn s' v = some l
  from_ : ∀ k : Nat, k ≤ l.length → ∃ v', sliceA 4 v (some (.int .i64 (k : Int))) none none = some v' ∧ Rd s v' 4 ((l.drop k).map Sn.enc)
theorem Sns.mono {s s' : St} {v : AV} {l : List Sn} (h : Sns s v l) (f : Fr s s') : Sns s' v l where
  rd := h.rd.mono f
  read s2 f2 := h.read s2 (f.trans f2)
  from_ k hk := by
    obtain ⟨v', h1, h2⟩ := h.from_ k hk
    exact ⟨v', h1, h2.mono f⟩
theorem ok_lb {s : St} {l : List AV} (h : Ok s tyLb l) : ∃ x : Lb, l = x.enc ∧ (0 ≤ x.e ∧ x.e ≤ 4294967295) ∧ 0 ≤ x.q ∧ x.q ≤ 4294967295 := by
  obtain ⟨_, _, rfl, ⟨e, rfl, h1, h2⟩, k1⟩ := okAll_cons h
  obtain ⟨_, _, rfl, ⟨q, rfl, h3, h4⟩, k2⟩ := okAll_cons k1
  rw [okAll_nil k2]
  exact ⟨⟨e, q⟩, rfl, ⟨h1, h2⟩, h3, h4⟩
theorem ok_sn {s : St} {l : List AV} (h : Ok s tySn l) : ∃ x : Sn, l = x.enc ∧ SnOk x := by
  obtain ⟨_, _, rfl, h1, k1⟩ := okAll_cons h
  obtain ⟨x, rfl, h2, h3⟩ := ok_lb h1
  obtain ⟨_, _, rfl, ⟨r, rfl, h4, h5⟩, k2⟩ := okAll_cons k1
  obtain ⟨_, _, rfl, ⟨t, rfl, h6, h7⟩, k3⟩ := okAll_cons k2
  rw [okAll_nil k3]
  exact ⟨⟨x, r, t⟩, rfl, ⟨h2, h3, h6, h7⟩⟩
theorem decSn_of : ∀ (l : List Sn) (r : List AV), (∀ x ∈ l, 0 ≤ x.t ∧ x.t ≤ 4294967295) → decSn l.length (l.flatMap Sn.enc ++ r) = some l
  | [], _, _ => rfl
  | x :: l, r, h => by
    have ih := decSn_of l r fun y hy => h y (List.mem_cons_of_mem _ hy)
    rw [List.flatMap_cons, List.append_assoc]
    simp only [Sn.enc, List.cons_append, List.nil_append, List.length_cons, decSn]
    rw [if_pos (h x (List.mem_cons_self ..))]
    rw [ih]
theorem flat_take (vs : List AV) : ∀ (l : List Sn) (o : Nat), (∀ j (h : j < l.length), o + j * 4 + 4 ≤ vs.length ∧ (vs.drop (o + j * 4)).take 4 = l[j].enc) → (vs.drop o).take (l.length * 4) = l.flatMap Sn.enc
  | [], _, _ => by simp
  | x :: l, o, h => by
    have h0 := h 0 (by simp)
    simp only [Nat.zero_mul, Nat.add_zero, List.getElem_cons_zero] at h0
    have ih := flat_take vs l (o + 4) fun j hj => by
      have := h (j + 1) (by simpa using hj)
      rw [show o + (j + 1) * 4 = o + 4 + j * 4 by omega] at this
      exact this
    rw [List.flatMap_cons, ← ih, List.length_cons, show (l.length + 1) * 4 = 4 + l.length * 4 by omega, List.take_add, h0.2, List.drop_drop]
theorem rd_drop {s : St} {b o cap : Nat} {lo : Bool} {vs : List AV} {lo2 ro : Bool} {z : Nat} {l : List Sn} (hg : s.get b = some (.cells vs lo2 ro z)) (hb : b < s.next) (hm : l.length ≤ maxLen)
    (h : ∀ j (h : j < l.length), o + j * 4 + 4 ≤ vs.length ∧ (vs.drop (o + j * 4)).take 4 = l[j].enc) : Rd s (.slice b o l.length cap lo) 4 (l.map Sn.enc) where
  len s' := by rw [List.length_map]; rfl
  max := by rw [List.length_map]; exact hm
  form _ := ⟨b, o, cap, lo, vs, lo2, ro, z, by rw [List.length_map], hg, hb, fun j hj => by
    rw [List.length_map] at hj
    rw [List.getElem_map]
    exact h j hj⟩
theorem rd_nil {s : St} {v : AV} (h : ∀ s', len1 (some v) s' = some (.int .i64 0, s')) : Rd s v 4 (([] : List Sn).map Sn.enc) := ⟨h, by simp, fun h => by simp at h⟩
theorem sns_slice {s : St} {b o cap : Nat} {vs : List AV} {lo2 ro : Bool} {z : Nat} {l : List Sn} (hg : s.get b = some (.cells vs lo2 ro z)) (hb : b < s.next) (hm : l.length < 1000000) (hc : l.length ≤ cap) (hcm : cap ≤ maxLen) (ho : o ≤ vs.length)
    (ht : ∀ x ∈ l, 0 ≤ x.t ∧ x.t ≤ 4294967295) (h : ∀ j (h : j < l.length), o + j * 4 + 4 ≤ vs.length ∧ (vs.drop (o + j * 4)).take 4 = l[j].enc) : Sns s (.slice b o l.length cap false) l where
  rd := rd_drop hg hb (by unfold maxLen; omega) h
  read s' f := by
    have hg' := (f.get b hb).trans hg
    have hle : o + l.length * 4 ≤ vs.length := by
      rcases Nat.eq_zero_or_pos l.length with h0 | h0
      · omega
      · have := (h (l.length - 1) (by omega)).1
        omega
    unfold readSn
    have hla : loadA s' b o (l.length * 4) = some (l.flatMap Sn.enc) := by
      unfold loadA
      rw [hg']
      dsimp only
      rw [if_pos hle, flat_take vs l o h]
    have := decSn_of l [] ht
    rw [List.append_nil] at this
    dsimp only
    rw [if_pos hm, hla]
    exact this
  from_ k hk := by
    have hbk : boundsA l.length cap (some (.int .i64 (k : Int))) none none = some (k, l.length, cap) := by
      unfold boundsA
      dsimp only
      rw [if_pos hc]
      dsimp only
      have : boundA (.int .i64 (k : Int)) l.length = some k := by
        show (if 0 ≤ (k : Int) ∧ (k : Int) ≤ (l.length : Int) then some ((k : Int).toNat) else none) = some k
        rw [if_pos ⟨by omega, by omega⟩]
        simp
      rw [this]
    refine ⟨.slice b (if cap = k then o else o + k * 4) (l.length - k) (cap - k) false, ?_, ?_⟩
    · unfold sliceA
      dsimp only
      rw [hbk]
      rfl
    · have hl : (l.drop k).length = l.length - k := List.length_drop
      rw [← hl]
      refine rd_drop hg hb (by rw [hl]; unfold maxLen; omega) fun j hj => ?_
      rw [hl] at hj
      rw [if_neg (by omega), List.getElem_drop]
      have := h (k + j) (by omega)
      rw [show o + k * 4 + j * 4 = o + (k + j) * 4 by omega]
      exact this
theorem sns_arg {s : St} {v : AV} (h : ArgOk s (.slice tySn) v) : ∃ l : List Sn, Rd s v 4 (l.map Sn.enc) ∧ (∀ x ∈ l, SnOk x) ∧ (l.length < 1000000 → Sns s v l) := by
  obtain ⟨xs, b0, o0, hA, hok⟩ := acc_of_ok h
  obtain ⟨l, rfl, hl⟩ := list_read (f := Sn.enc) (Q := SnOk) fun x hx => ok_sn (hok x hx)
  rcases argOk_slice h with rfl | ⟨a, rfl⟩ | ⟨b, o, len, cap, vs, rfl, h1, h2, h3, h4, h5, h6⟩
  · have e := hA.len s
    simp [len1] at e
    obtain rfl : l = [] := List.eq_nil_of_length_eq_zero (by omega)
    exact ⟨[], rd_nil fun _ => rfl, by simp, fun _ => ⟨rd_nil fun _ => rfl, fun _ _ => rfl, fun k hk => by
      obtain rfl : k = 0 := by simpa using hk
      exact ⟨.nilSlice, rfl, rd_nil fun _ => rfl⟩⟩⟩
  · have e := hA.len s
    simp [len1] at e
    obtain rfl : l = [] := List.eq_nil_of_length_eq_zero (by omega)
    exact ⟨[], rd_nil fun _ => rfl, by simp, fun _ => ⟨rd_nil fun _ => rfl, fun _ _ => rfl, fun k hk => by
      obtain rfl : k = 0 := by simpa using hk
      exact ⟨.raw (.slice a 0 0), rfl, rd_nil fun _ => rfl⟩⟩⟩
  · have e := hA.len s
    simp [len1] at e
    obtain rfl : len = l.length := by omega
    have hat : ∀ j (hj : j < l.length), o + j * 4 + 4 ≤ vs.length ∧ (vs.drop (o + j * 4)).take 4 = l[j].enc := fun j hj => by
      obtain ⟨vs2, g1, g2, g3⟩ := hA.at_ j (by rw [List.length_map]; exact hj)
      obtain ⟨cap2, g4, _⟩ := hA.form (by rw [List.length_map]; omega)
      obtain ⟨e1, e2⟩ : b = b0 ∧ o = o0 := by injection g4 with e1 e2; exact ⟨e1, e2⟩
      subst e1 e2
      rw [h3] at g1
      cases g1
      rw [List.getElem_map] at g3
      exact ⟨by have : tySn.size = 4 := rfl; rw [this] at g2; omega, g3⟩
    have ho : o ≤ vs.length := by have := h5.2; omega
    exact ⟨l, rd_drop h3 h4 (by omega) hat, hl, fun hm => sns_slice h3 h4 hm h1 h2 ho (fun x hx => (hl x hx).t) hat⟩

theorem Out.pushL {s : St} {N : Nat} {w : AV} {L : List Lb} (h : Out s N w L) (hN : N ≤ s.next) (M : List Lb) (hl : L.length + M.length < 1000000) :
    ∃ w' s', appendA 2 8 s w M.length (M.flatMap Lb.enc) = some (w', s') ∧ Out s' N w' (L ++ M) ∧ s.next ≤ s'.next ∧ ∀ b, b < N → s'.get b = s.get b := by
  rcases M with _ | ⟨x, M⟩
  · refine ⟨w, s, ?_, by rw [List.append_nil]; exact h, Nat.le_refl _, fun _ _ => rfl⟩
    rcases h with ⟨rfl, rfl⟩ | ⟨p, rfl, h1, h2, h3, h4⟩
    · rfl
    · unfold appendA
      simp
  generalize hM : x :: M = M' at hl ⊢
  have hM0 : 0 < M'.length := by rw [← hM]; simp
  have hcell : ∀ M : List Lb, allCell (M.flatMap Lb.enc) = true := by
    intro M
    induction M with
    | nil => rfl
    | cons y M ih => simp only [List.flatMap_cons, Lb.enc, List.cons_append, List.nil_append, allCell] at ih ⊢; simp [AV.cell, ih]
  rcases h with ⟨rfl, rfl⟩ | ⟨p, rfl, h1, h2, h3, h4⟩
  · refine ⟨.slice s.next 0 M'.length M'.length true, s.new (.cells (M'.flatMap Lb.enc) true false 2), ?_, .inr ⟨s.next, rfl, hM0, hN, Nat.lt_succ_self _, ?_⟩, Nat.le_succ _, fun b hb => ?_⟩
    · unfold appendA
      dsimp only
      simp only [List.length_nil, Nat.zero_add] at hl
      rw [if_neg (by omega), if_pos (by omega)]
      rfl
    · rw [St.get_new, if_pos rfl]; rfl
    · rw [St.get_new, if_neg (by omega)]
  · have hf := lflat_len L
    refine ⟨.slice s.next 0 (L.length + M'.length) (L.length + M'.length) true, (s.drop p).new (.cells (L.flatMap Lb.enc ++ M'.flatMap Lb.enc) true false 2), ?_, .inr ⟨s.next, by simp, by simp; omega, hN, Nat.lt_succ_self _, ?_⟩, Nat.le_succ _, fun b hb => ?_⟩
    · have hlo : loadA s p 0 (L.length * 2) = some (L.flatMap Lb.enc) := by
        unfold loadA
        rw [h4]
        simp only [hf, Nat.zero_add, Nat.le_refl, if_true, List.drop_zero]
        rw [List.take_of_length_le (by omega)]
      unfold appendA
      simp only [hlo, h4]
      rw [if_neg (by omega), if_pos (by omega)]
      simp only [hf, if_true, hcell]
      rfl
    · rw [St.get_new, if_pos (by simp)]
      simp
    · rw [St.get_new, if_neg (by simp; omega), St.get_drop, if_neg (by omega)]
end Go.Proofs.Ytjejgnbdlfkenaa
namespace Go.Proofs.Ytjejgnbdlfkenaa
open D Base
set_option linter.unusedSimpArgs false
set_option linter.unusedVariables false
set_option maxRecDepth 10000

/-- What is kept, and for how long. -/
structure Kp where
  ev : Int
  span : Int
  last : Int
  spans : Int
abbrev Kp.enc (k : Kp) : List AV := [.int .u32 k.ev, .int .u32 k.span, .int .i64 k.last, .int .i64 k.spans]
structure KpOk (k : Kp) : Prop where
  ev : 0 ≤ k.ev ∧ k.ev ≤ 4294967295
  span : 0 ≤ k.span ∧ k.span ≤ 4294967295
theorem keepN_eq (m : Int) (n : Nat) : (if (if (n : Int) < m then (n : Int) else m) > 0 then (if (n : Int) < m then (n : Int) else m) else 0) = ((keepN m n : Nat) : Int) := by
  unfold keepN
  split <;> split <;> omega
theorem keepN_le (m : Int) (n : Nat) : keepN m n ≤ n := by unfold keepN; omega
theorem Out.fr {s s' : St} {N : Nat} {w : AV} {L : List Lb} (h : Out s N w L) (f : Fr s s') : Out s' N w L := by
  rcases h with h | ⟨p, h1, h2, h3, h4, h5⟩
  · exact .inl h
  · exact .inr ⟨p, h1, h2, h3, Nat.lt_of_lt_of_le h4 f.le, (f.get p h4).trans h5⟩
theorem Out.len {s : St} {N : Nat} {w : AV} {L : List Lb} (h : Out s N w L) (s' : St) : len1 (some w) s' = some (.int .i64 (L.length : Nat), s') := by
  rcases h with ⟨rfl, rfl⟩ | ⟨p, rfl, h1, h2, h3, h4⟩ <;> rfl
theorem Out.upto {s : St} {N : Nat} {w : AV} {L : List Lb} (h : Out s N w L) {k : Nat} (hk : k ≤ L.length) : ∃ v, sliceA 2 w none (some (.int .i64 (k : Int))) none = some v ∧ srcA s 2 v = some ((L.take k).length, (L.take k).flatMap Lb.enc) := by
  have hl : (L.take k).length = k := by rw [List.length_take]; omega
  rcases h with ⟨rfl, rfl⟩ | ⟨p, rfl, h1, h2, h3, h4⟩
  · obtain rfl : k = 0 := by simpa using hk
    exact ⟨.nilSlice, rfl, rfl⟩
  · refine ⟨_, sl_to hk h1, ?_⟩
    have hla : loadA s p 0 (k * 2) = some ((L.take k).flatMap Lb.enc) := by
      unfold loadA
      rw [h4]
      dsimp only
      rw [if_pos (by rw [lflat_len]; omega), List.drop_zero, lflat_take]
    unfold srcA
    dsimp only
    rw [hla, hl]
theorem spans_call {span : Int} (hs : 0 < span) {s : St} {v : AV} {l : List Sn} (hS : Sns s v l) : ∃ w s', mm.L.call 15 [.int .u32 span, v] s = some (w, s') ∧ Out s' s.next w (spansV span l) ∧ Fr s s' := by
  rw [spans_eq]
  unfold sumSpans
  dsimp only
  rw [if_pos hs, hS.read s (Fr.refl s)]
  dsimp only
  have fs : Fr s (s.skip (16 * l.length + 100)) := ⟨by rw [St.next_skip]; omega, fun b hb => by rw [St.get_skip]⟩
  cases hV : spansV span l with
  | nil => exact ⟨_, _, rfl, .inl ⟨rfl, rfl⟩, fs⟩
  | cons x r =>
    refine ⟨_, _, rfl, .inr ⟨_, rfl, by simp, by omega, by rw [St.next_new, St.next_skip]; omega, ?_⟩, fs.new _⟩
    rw [St.get_new, if_pos (by rw [St.next_skip])]

/-- What is answered: labels, each once, the lowest first, in a slice of our own. -/
def Cut (s : St) (N : Nat) (w : AV) (D : List Lb) : Prop := (w = .nilSlice ∧ D = []) ∨ ∃ (p : Nat) (C : List Lb), w = .slice p 0 D.length C.length true ∧ 0 < C.length ∧ D.length ≤ C.length ∧ C.take D.length = D ∧ N ≤ p ∧ p < s.next ∧ s.get p = some (.cells (C.flatMap Lb.enc) true false 2)
theorem srt_dd {L : List Lb} : (ddN (srt L) L.length).Pairwise Lb.lt ∧ ∀ v, v ∈ ddN (srt L) L.length ↔ v ∈ L := by
  have hp := srt_perm L
  have hl := srt_len L
  refine ⟨ddN_pair (srt L) hp.2 _ (by omega), fun v => ?_⟩
  rw [ddN_mem (srt L) _ (by omega), ← hl, List.take_length]
  exact hp.1.mem_iff

theorem Kept_run {k : Kp} (hk : KpOk k) {l : List Sn} (hl : l.length ≤ 60) (hr : Rises l) (h0 : ∀ x ∈ l, SnOk x) {v : AV} {s : St} (hS : Sns s v l) :
    Wf mm 9 [.agg k.enc, v] s fun w s' => Cut s' s.next w (pickS k.last k.span k.spans l l) ∧ Fr s s' := by
  have hkept : ∀ D : List Lb, D.Pairwise Lb.lt → (∀ v, v ∈ D ↔ v ∈ keptP k.last k.span k.spans l) → D = pickS k.last k.span k.spans l l := fun D h1 h2 => kept_eq hk.span.1 hr (fun x hx => ⟨(h0 x hx).e.1, (h0 x hx).q.1⟩) h1 h2
  generalize pickS k.last k.span k.spans l l = D at hkept ⊢
  refine Wf_enter ft9 (sm (by decide)) (by rfl) ?_
  have ft : (false == true) = false := rfl
  have hlen := hS.rd.len
  rw [List.length_map] at hlen
  have hkn := keepN_le k.last l.length
  have hmm := keepN_eq k.last l.length
  obtain ⟨n, hn⟩ : ∃ n, l.length - keepN k.last l.length = n := ⟨_, rfl⟩
  have hw := sub_in (i := l.length) (j := keepN k.last l.length) hkn (by omega)
  rw [hn] at hw
  obtain ⟨v', hv', hR⟩ := hS.from_ n (by omega)
  simp -implicitDefEqProofs only [go_sem, Wk_block, Wk_drawnC, reduceCtorEq, Nat.reduceEqDiff, Nat.reduceAdd, Nat.reduceLeDiff, Nat.reduceLT, Nat.reduceMul, Nat.reduceSub, ↓reduceIte, Int.reduceLT, Int.reduceLE, Int.reduceNeg, Int.reduceAdd, Int.reduceEq, Nat.reduceBneDiff, Nat.reduceBEq, Int.reduceToNat, Int.reduceMul, Int.reduceSub, Int.reduceBEq, Int.reduceBNe, fd9, hlen, hmm, hw, hv', ft]
  obtain ⟨a, ha⟩ : ∃ a, s.next = a := ⟨_, rfl⟩
  have hkp : keptP k.last k.span k.spans l = (l.drop n).map (·.l) ++ (if k.span > 0 then (spansV k.span l).take (keepN k.spans (spansV k.span l).length) else []) := by unfold keptP; rw [hn]
  have hld : (l.drop n).length ≤ 60 := by rw [List.length_drop]; omega
  generalize l.drop n = l' at hR hkp hld
  have hR' := hR.len
  rw [List.length_map] at hR'
  have f0 : Fr s (s.new (.cells k.enc false false 0)) := (Fr.refl s).new _
  have ga : (s.new (.cells k.enc false false 0)).get a = some (.cells k.enc false false 0) := by rw [St.get_new, if_pos ha.symm]
  have hna : (s.new (.cells k.enc false false 0)).next = a + 1 := by rw [St.next_new, ha]
  rw [ha]
  generalize s.new (.cells k.enc false false 0) = s0 at f0 ga hna ⊢
  simp -implicitDefEqProofs only [go_sem, Wk_block, Wk_drawnC, reduceCtorEq, Nat.reduceEqDiff, Nat.reduceAdd, Nat.reduceLeDiff, Nat.reduceLT, Nat.reduceMul, Nat.reduceSub, ↓reduceIte, Int.reduceLT, Int.reduceLE, Int.reduceNeg, Int.reduceAdd, Int.reduceEq, Nat.reduceBneDiff, Nat.reduceBEq, Int.reduceToNat, Int.reduceMul, Int.reduceSub, Int.reduceBEq, Int.reduceBNe, hR', ft]
  refine Wk_loop_post (fun ts s' => ∃ w, ts.get 5 = some w ∧ ts.get 1 = some v ∧ ts.get 2 = some (.ptr a 0) ∧ Out s' (a + 1) w (l'.map (·.l)) ∧ s'.get a = some (.cells k.enc false false 0) ∧ Fr s s' ∧ a + 1 ≤ s'.next) ?_ ?_
  · refine loop_ind (fun m ts s' => ∃ (j : Nat) (w : AV), m = l'.length - j ∧ j ≤ l'.length ∧ ts.get 21 = some (.int .i64 (j : Int)) ∧ ts.get 20 = some (.int .i64 (l'.length : Int)) ∧ ts.get 19 = some v' ∧ ts.get 5 = some w ∧ ts.get 1 = some v ∧ ts.get 2 = some (.ptr a 0) ∧
      Out s' (a + 1) w ((l'.take j).map (·.l)) ∧ s'.get a = some (.cells k.enc false false 0) ∧ Fr s s' ∧ a + 1 ≤ s'.next) ?_ (n := l'.length)
      ⟨0, .nilSlice, by omega, by omega, by simp only [go_sem, Wk_block, Wk_drawnC, reduceCtorEq, Nat.reduceEqDiff, Nat.reduceAdd, Nat.reduceLeDiff, Nat.reduceLT, Nat.reduceMul, Nat.reduceSub, ↓reduceIte, Int.reduceLT, Int.reduceLE, Int.reduceNeg, Int.reduceAdd, Int.reduceEq, Nat.reduceBneDiff, Nat.reduceBEq, Int.reduceToNat, Int.reduceMul, Int.reduceSub, Int.reduceBEq, Int.reduceBNe], by simp only [go_sem, Wk_block, Wk_drawnC, reduceCtorEq, Nat.reduceEqDiff, Nat.reduceAdd, Nat.reduceLeDiff, Nat.reduceLT, Nat.reduceMul, Nat.reduceSub, ↓reduceIte, Int.reduceLT, Int.reduceLE, Int.reduceNeg, Int.reduceAdd, Int.reduceEq, Nat.reduceBneDiff, Nat.reduceBEq, Int.reduceToNat, Int.reduceMul, Int.reduceSub, Int.reduceBEq, Int.reduceBNe], by simp only [go_sem, Wk_block, Wk_drawnC, reduceCtorEq, Nat.reduceEqDiff, Nat.reduceAdd, Nat.reduceLeDiff, Nat.reduceLT, Nat.reduceMul, Nat.reduceSub, ↓reduceIte, Int.reduceLT, Int.reduceLE, Int.reduceNeg, Int.reduceAdd, Int.reduceEq, Nat.reduceBneDiff, Nat.reduceBEq, Int.reduceToNat, Int.reduceMul, Int.reduceSub, Int.reduceBEq, Int.reduceBNe], by simp only [go_sem, Wk_block, Wk_drawnC, reduceCtorEq, Nat.reduceEqDiff, Nat.reduceAdd, Nat.reduceLeDiff, Nat.reduceLT, Nat.reduceMul, Nat.reduceSub, ↓reduceIte, Int.reduceLT, Int.reduceLE, Int.reduceNeg, Int.reduceAdd, Int.reduceEq, Nat.reduceBneDiff, Nat.reduceBEq, Int.reduceToNat, Int.reduceMul, Int.reduceSub, Int.reduceBEq, Int.reduceBNe], by simp only [go_sem, Wk_block, Wk_drawnC, reduceCtorEq, Nat.reduceEqDiff, Nat.reduceAdd, Nat.reduceLeDiff, Nat.reduceLT, Nat.reduceMul, Nat.reduceSub, ↓reduceIte, Int.reduceLT, Int.reduceLE, Int.reduceNeg, Int.reduceAdd, Int.reduceEq, Nat.reduceBneDiff, Nat.reduceBEq, Int.reduceToNat, Int.reduceMul, Int.reduceSub, Int.reduceBEq, Int.reduceBNe], by simp only [go_sem, Wk_block, Wk_drawnC, reduceCtorEq, Nat.reduceEqDiff, Nat.reduceAdd, Nat.reduceLeDiff, Nat.reduceLT, Nat.reduceMul, Nat.reduceSub, ↓reduceIte, Int.reduceLT, Int.reduceLE, Int.reduceNeg, Int.reduceAdd, Int.reduceEq, Nat.reduceBneDiff, Nat.reduceBEq, Int.reduceToNat, Int.reduceMul, Int.reduceSub, Int.reduceBEq, Int.reduceBNe], .inl ⟨rfl, by simp⟩, ga, f0, by omega⟩
    rintro _ ts s1 ⟨j, w, rfl, hj, g21, g20, g19, g5, g1, g2, ho, ga1, f1, hn1⟩ IH
    by_cases hlt : j < l'.length
    · have hjl : j < (l'.map Sn.enc).length := by rw [List.length_map]; exact hlt
      obtain ⟨b, o, vs, lo2, ro, z, hidx, hg, hle, heq, hbl⟩ := (hR.mono f1).at_ hjl
      rw [List.getElem_map] at heq
      have w21 := succ_in (j := j) (by omega)
      have htk : (l'.take (j + 1)).map (·.l) = (l'.take j).map (·.l) ++ [l'[j].l] := by rw [List.take_succ_eq_append_getElem hlt, List.map_append]; rfl
      have htl : ((l'.take j).map (·.l)).length ≤ 60 := by rw [List.length_map, List.length_take]; omega
      generalize l'[j] = x at heq htk
      generalize (l'.take j).map (·.l) = L at ho htk htl
      have hce := ho.cell
      have heq2 := heq
      unfold Sn.enc at heq2
      have hle2 : o + (j * 4 + 4) ≤ vs.length := by omega
      obtain ⟨w', s2, happ, ho2, hnx, hfr⟩ := Out.push ((ho.new (.cells [.int .u32 x.l.e, .int .u32 x.l.q, .int .i64 x.r, .int .u32 x.t] false false 0)).new (.cells [.int .u32 x.l.e, .int .u32 x.l.q] false false 0)) (by simp only [St.next_new]; omega) (by omega) x.l
      simp -implicitDefEqProofs only [go_sem, Wk_block, Wk_drawnC, reduceCtorEq, Nat.reduceEqDiff, Nat.reduceAdd, Nat.reduceLeDiff, Nat.reduceLT, Nat.reduceMul, Nat.reduceSub, ↓reduceIte, Int.reduceLT, Int.reduceLE, Int.reduceNeg, Int.reduceAdd, Int.reduceEq, Nat.reduceBneDiff, Nat.reduceBEq, Int.reduceToNat, Int.reduceMul, Int.reduceSub, Int.reduceBEq, Int.reduceBNe, g21, g20, g19, g5, hlt, hidx, hg, hle, hle2, heq2, w21, srcA, happ, hce, ft]
      simp only [St.next_new] at hnx
      refine IH (l'.length - (j + 1)) _ _ (by omega) ⟨j + 1, w', rfl, by omega, by simp only [go_sem, Wk_block, Wk_drawnC, reduceCtorEq, Nat.reduceEqDiff, Nat.reduceAdd, Nat.reduceLeDiff, Nat.reduceLT, Nat.reduceMul, Nat.reduceSub, ↓reduceIte, Int.reduceLT, Int.reduceLE, Int.reduceNeg, Int.reduceAdd, Int.reduceEq, Nat.reduceBneDiff, Nat.reduceBEq, Int.reduceToNat, Int.reduceMul, Int.reduceSub, Int.reduceBEq, Int.reduceBNe], by simp only [go_sem, Wk_block, Wk_drawnC, reduceCtorEq, Nat.reduceEqDiff, Nat.reduceAdd, Nat.reduceLeDiff, Nat.reduceLT, Nat.reduceMul, Nat.reduceSub, ↓reduceIte, Int.reduceLT, Int.reduceLE, Int.reduceNeg, Int.reduceAdd, Int.reduceEq, Nat.reduceBneDiff, Nat.reduceBEq, Int.reduceToNat, Int.reduceMul, Int.reduceSub, Int.reduceBEq, Int.reduceBNe, g20], by simp only [go_sem, Wk_block, Wk_drawnC, reduceCtorEq, Nat.reduceEqDiff, Nat.reduceAdd, Nat.reduceLeDiff, Nat.reduceLT, Nat.reduceMul, Nat.reduceSub, ↓reduceIte, Int.reduceLT, Int.reduceLE, Int.reduceNeg, Int.reduceAdd, Int.reduceEq, Nat.reduceBneDiff, Nat.reduceBEq, Int.reduceToNat, Int.reduceMul, Int.reduceSub, Int.reduceBEq, Int.reduceBNe, g19], by simp only [go_sem, Wk_block, Wk_drawnC, reduceCtorEq, Nat.reduceEqDiff, Nat.reduceAdd, Nat.reduceLeDiff, Nat.reduceLT, Nat.reduceMul, Nat.reduceSub, ↓reduceIte, Int.reduceLT, Int.reduceLE, Int.reduceNeg, Int.reduceAdd, Int.reduceEq, Nat.reduceBneDiff, Nat.reduceBEq, Int.reduceToNat, Int.reduceMul, Int.reduceSub, Int.reduceBEq, Int.reduceBNe], by simp only [go_sem, Wk_block, Wk_drawnC, reduceCtorEq, Nat.reduceEqDiff, Nat.reduceAdd, Nat.reduceLeDiff, Nat.reduceLT, Nat.reduceMul, Nat.reduceSub, ↓reduceIte, Int.reduceLT, Int.reduceLE, Int.reduceNeg, Int.reduceAdd, Int.reduceEq, Nat.reduceBneDiff, Nat.reduceBEq, Int.reduceToNat, Int.reduceMul, Int.reduceSub, Int.reduceBEq, Int.reduceBNe, g1], by simp only [go_sem, Wk_block, Wk_drawnC, reduceCtorEq, Nat.reduceEqDiff, Nat.reduceAdd, Nat.reduceLeDiff, Nat.reduceLT, Nat.reduceMul, Nat.reduceSub, ↓reduceIte, Int.reduceLT, Int.reduceLE, Int.reduceNeg, Int.reduceAdd, Int.reduceEq, Nat.reduceBneDiff, Nat.reduceBEq, Int.reduceToNat, Int.reduceMul, Int.reduceSub, Int.reduceBEq, Int.reduceBNe, g2], by rw [htk]; exact ho2, ?_, ?_, by omega⟩
      · rw [hfr a (by omega), St.get_new, if_neg (by simp only [St.next_new]; omega), St.get_new, if_neg (by omega)]; exact ga1
      · refine ⟨by have := f1.le; omega, fun b hb => ?_⟩
        rw [hfr b (by omega), St.get_new, if_neg (by simp only [St.next_new]; omega), St.get_new, if_neg (by omega)]; exact f1.get b hb
    · have hje : j = l'.length := by omega
      simp -implicitDefEqProofs only [go_sem, Wk_block, Wk_drawnC, reduceCtorEq, Nat.reduceEqDiff, Nat.reduceAdd, Nat.reduceLeDiff, Nat.reduceLT, Nat.reduceMul, Nat.reduceSub, ↓reduceIte, Int.reduceLT, Int.reduceLE, Int.reduceNeg, Int.reduceAdd, Int.reduceEq, Nat.reduceBneDiff, Nat.reduceBEq, Int.reduceToNat, Int.reduceMul, Int.reduceSub, Int.reduceBEq, Int.reduceBNe, g21, g20, hlt, ft]
      rw [Wr_nil]
      rw [hje, List.take_length] at ho
      exact ⟨.inr rfl, rfl, w, by simp only [go_sem, Wk_block, Wk_drawnC, reduceCtorEq, Nat.reduceEqDiff, Nat.reduceAdd, Nat.reduceLeDiff, Nat.reduceLT, Nat.reduceMul, Nat.reduceSub, ↓reduceIte, Int.reduceLT, Int.reduceLE, Int.reduceNeg, Int.reduceAdd, Int.reduceEq, Nat.reduceBneDiff, Nat.reduceBEq, Int.reduceToNat, Int.reduceMul, Int.reduceSub, Int.reduceBEq, Int.reduceBNe, g5], by simp only [go_sem, Wk_block, Wk_drawnC, reduceCtorEq, Nat.reduceEqDiff, Nat.reduceAdd, Nat.reduceLeDiff, Nat.reduceLT, Nat.reduceMul, Nat.reduceSub, ↓reduceIte, Int.reduceLT, Int.reduceLE, Int.reduceNeg, Int.reduceAdd, Int.reduceEq, Nat.reduceBneDiff, Nat.reduceBEq, Int.reduceToNat, Int.reduceMul, Int.reduceSub, Int.reduceBEq, Int.reduceBNe, g1], by simp only [go_sem, Wk_block, Wk_drawnC, reduceCtorEq, Nat.reduceEqDiff, Nat.reduceAdd, Nat.reduceLeDiff, Nat.reduceLT, Nat.reduceMul, Nat.reduceSub, ↓reduceIte, Int.reduceLT, Int.reduceLE, Int.reduceNeg, Int.reduceAdd, Int.reduceEq, Nat.reduceBneDiff, Nat.reduceBEq, Int.reduceToNat, Int.reduceMul, Int.reduceSub, Int.reduceBEq, Int.reduceBNe, g2], ho, ga1, f1, hn1⟩
  rintro ts s1 ⟨w, g5, g1, g2, ho, ga1, f1, hn1⟩
  rw [Wr_sq, Wk_seq]
  refine Wk_cut (fun ts s' => ∃ w, ts.get 5 = some w ∧ Out s' (a + 1) w (keptP k.last k.span k.spans l) ∧ Fr s s' ∧ a + 1 ≤ s'.next) ?_ ?_
  · by_cases hsp : 0 < k.span
    rotate_left
    · have c1 : decide (k.span > 0) = false := decide_eq_false hsp
      have c2 : decide (0 < k.span) = false := decide_eq_false hsp
      simp -implicitDefEqProofs only [go_sem, Wk_block, Wk_drawnC, reduceCtorEq, Nat.reduceEqDiff, Nat.reduceAdd, Nat.reduceLeDiff, Nat.reduceLT, Nat.reduceMul, Nat.reduceSub, ↓reduceIte, Int.reduceLT, Int.reduceLE, Int.reduceNeg, Int.reduceAdd, Int.reduceEq, Nat.reduceBneDiff, Nat.reduceBEq, Int.reduceToNat, Int.reduceMul, Int.reduceSub, Int.reduceBEq, Int.reduceBNe, g2, ga1, c1, c2, ft]
      rw [Wr_nil]
      rw [hkp, if_neg hsp, List.append_nil]
      exact ⟨rfl, rfl, w, by simp only [go_sem, Wk_block, Wk_drawnC, reduceCtorEq, Nat.reduceEqDiff, Nat.reduceAdd, Nat.reduceLeDiff, Nat.reduceLT, Nat.reduceMul, Nat.reduceSub, ↓reduceIte, Int.reduceLT, Int.reduceLE, Int.reduceNeg, Int.reduceAdd, Int.reduceEq, Nat.reduceBneDiff, Nat.reduceBEq, Int.reduceToNat, Int.reduceMul, Int.reduceSub, Int.reduceBEq, Int.reduceBNe, g5], ho, f1, hn1⟩
    have c1 : decide (k.span > 0) = true := decide_eq_true hsp
    have c2 : decide (0 < k.span) = true := decide_eq_true hsp
    obtain ⟨w2, s2, hcall, ho2, f2⟩ := spans_call hsp (hS.mono f1)
    have ga2 := (f2.get a (by omega)).trans ga1
    have hmm2 := keepN_eq k.spans (spansV k.span l).length
    have hkn2 := keepN_le k.spans (spansV k.span l).length
    obtain ⟨v3, hv3, hsrc⟩ := ho2.upto hkn2
    have hsl := spans_len k.span l
    have hln2 := ho2.len
    rw [if_pos hsp] at hkp
    obtain ⟨w', s3, happ, ho3, hnx, hfr⟩ := (ho.fr f2).pushL (by have := f2.le; omega) ((spansV k.span l).take (keepN k.spans (spansV k.span l).length)) (by rw [List.length_map, List.length_take]; omega)
    simp -implicitDefEqProofs only [go_sem, Wk_block, Wk_drawnC, reduceCtorEq, Nat.reduceEqDiff, Nat.reduceAdd, Nat.reduceLeDiff, Nat.reduceLT, Nat.reduceMul, Nat.reduceSub, ↓reduceIte, Int.reduceLT, Int.reduceLE, Int.reduceNeg, Int.reduceAdd, Int.reduceEq, Nat.reduceBneDiff, Nat.reduceBEq, Int.reduceToNat, Int.reduceMul, Int.reduceSub, Int.reduceBEq, Int.reduceBNe, g2, ga1, c1, c2, g1, Wl_eq hcall, g5, ga2, hln2, hmm2, hv3, hsrc, lflat_len, happ, ft]
    rw [Wr_nil]
    rw [hkp]
    refine ⟨rfl, rfl, w', by simp only [go_sem, Wk_block, Wk_drawnC, reduceCtorEq, Nat.reduceEqDiff, Nat.reduceAdd, Nat.reduceLeDiff, Nat.reduceLT, Nat.reduceMul, Nat.reduceSub, ↓reduceIte, Int.reduceLT, Int.reduceLE, Int.reduceNeg, Int.reduceAdd, Int.reduceEq, Nat.reduceBneDiff, Nat.reduceBEq, Int.reduceToNat, Int.reduceMul, Int.reduceSub, Int.reduceBEq, Int.reduceBNe], ho3, ?_, by have := f2.le; omega⟩
    refine ⟨by have := f1.le; have := f2.le; omega, fun b hb => ?_⟩
    rw [hfr b (by omega), f2.get b (by omega)]
    exact f1.get b hb
  clear g5 g1 g2 ho ga1 f1 hn1 w
  rintro ts s2 ⟨w, g5, ho, f1, hn1⟩
  have hKl : (keptP k.last k.span k.spans l).length < 1000000 := by
    rw [hkp, List.length_append, List.length_map]
    have := spans_len k.span l
    split
    · rw [List.length_take]; omega
    · simp; omega
  generalize keptP k.last k.span k.spans l = L at ho hkept hKl
  rcases ho with ⟨rfl, rfl⟩ | ⟨p, rfl, h1, h2, h3, h4⟩
  · have := hkept [] List.Pairwise.nil fun v => by simp
    simp -implicitDefEqProofs only [go_sem, Wk_block, Wk_drawnC, reduceCtorEq, Nat.reduceEqDiff, Nat.reduceAdd, Nat.reduceLeDiff, Nat.reduceLT, Nat.reduceMul, Nat.reduceSub, ↓reduceIte, Int.reduceLT, Int.reduceLE, Int.reduceNeg, Int.reduceAdd, Int.reduceEq, Nat.reduceBneDiff, Nat.reduceBEq, Int.reduceToNat, Int.reduceMul, Int.reduceSub, Int.reduceBEq, Int.reduceBNe, g5, Wl_eq (sort_nil _), Wl_eq (compact_nil _), ft]
    exact ⟨.inl ⟨rfl, this.symm⟩, f1⟩
  · simp -implicitDefEqProofs only [go_sem, Wk_block, Wk_drawnC, reduceCtorEq, Nat.reduceEqDiff, Nat.reduceAdd, Nat.reduceLeDiff, Nat.reduceLT, Nat.reduceMul, Nat.reduceSub, ↓reduceIte, Int.reduceLT, Int.reduceLE, Int.reduceNeg, Int.reduceAdd, Int.reduceEq, Nat.reduceBneDiff, Nat.reduceBEq, Int.reduceToNat, Int.reduceMul, Int.reduceSub, Int.reduceBEq, Int.reduceBNe, g5, Wl_eq (Out.sort h1 hKl h2 h3 h4), ft]
    have hc := Compact_run (srt L) (by rw [srt_len]; omega) (s := s2.put p (.cells ((srt L).flatMap Lb.enc) true false 2)) (p := p) (by rw [St.get_put, if_pos rfl]) h3
    rw [srt_len] at hc
    refine Wl_of hc ?_
    rintro _ s5 ⟨⟨C, rfl, hC, hCl, hCt⟩, f5⟩
    obtain ⟨q1, q2⟩ := srt_dd (L := L)
    have hD := hkept _ q1 q2
    have hdl : (ddN (srt L) L.length).length ≤ L.length := ddN_le _ _
    rw [hD] at hCt hdl ⊢
    simp -implicitDefEqProofs only [go_sem, Wk_block, Wk_drawnC, reduceCtorEq, Nat.reduceEqDiff, Nat.reduceAdd, Nat.reduceLeDiff, Nat.reduceLT, Nat.reduceMul, Nat.reduceSub, ↓reduceIte, Int.reduceLT, Int.reduceLE, Int.reduceNeg, Int.reduceAdd, Int.reduceEq, Nat.reduceBneDiff, Nat.reduceBEq, Int.reduceToNat, Int.reduceMul, Int.reduceSub, Int.reduceBEq, Int.reduceBNe, g5, ft]
    have hlp := f5.le
    have : (s2.put p (.cells ((srt L).flatMap Lb.enc) true false 2)).next = s2.next := rfl
    refine ⟨.inr ⟨p, C, by rw [hCl], by omega, by omega, hCt, by omega, by omega, hC⟩, ⟨by have := f1.le; omega, fun b hb => ?_⟩⟩
    exact (f5.get b (by have := f1.le; omega) (by omega)).trans ((St.get_put _ _ _ _).trans ((if_neg (by omega)).trans (f1.get b hb)))
end Go.Proofs.Ytjejgnbdlfkenaa
namespace Go.Proofs.Ytjejgnbdlfkenaa
open D Base
set_option linter.unusedSimpArgs false
set_option linter.unusedVariables false
set_option maxRecDepth 10000

/-- A list that began as an empty array. -/
def OutG (s : St) (N : Nat) (w : AV) (sz : Nat) (L : List (List AV)) : Prop :=
  (∃ q, w = .slice q 0 0 0 false ∧ L = [] ∧ N ≤ q ∧ q < s.next ∧ s.get q = some (.cells [] false false 0)) ∨ ∃ p, w = .slice p 0 L.length L.length true ∧ 0 < L.length ∧ N ≤ p ∧ p < s.next ∧ s.get p = some (.cells L.flatten true false sz)
theorem OutG.fr {s s' : St} {N : Nat} {w : AV} {sz : Nat} {L : List (List AV)} (h : OutG s N w sz L) (f : Fr s s') : OutG s' N w sz L := by
  rcases h with ⟨q, h1, h2, h3, h4, h5⟩ | ⟨p, h1, h2, h3, h4, h5⟩
  · exact .inl ⟨q, h1, h2, h3, Nat.lt_of_lt_of_le h4 f.le, (f.get q h4).trans h5⟩
  · exact .inr ⟨p, h1, h2, h3, Nat.lt_of_lt_of_le h4 f.le, (f.get p h4).trans h5⟩
theorem OutG.cell {s : St} {N : Nat} {w : AV} {sz : Nat} {L : List (List AV)} (h : OutG s N w sz L) : w.cell = true ∧ w.cells = [w] := by
  rcases h with ⟨q, rfl, _⟩ | ⟨p, rfl, _⟩ <;> exact ⟨rfl, rfl⟩
theorem OutG.len {s : St} {N : Nat} {w : AV} {sz : Nat} {L : List (List AV)} (h : OutG s N w sz L) (s' : St) : len1 (some w) s' = some (.int .i64 (L.length : Nat), s') := by
  rcases h with ⟨q, rfl, rfl, _⟩ | ⟨p, rfl, _⟩ <;> rfl
theorem flat_len {sz : Nat} : ∀ {L : List (List AV)}, (∀ x ∈ L, x.length = sz) → L.flatten.length = L.length * sz
  | [], _ => by simp
  | x :: L, h => by
    rw [List.flatten_cons, List.length_append, h x (List.mem_cons_self ..), flat_len fun y hy => h y (List.mem_cons_of_mem _ hy), List.length_cons, Nat.succ_mul]
    omega
theorem flat_at {sz : Nat} : ∀ {L : List (List AV)}, (∀ x ∈ L, x.length = sz) → ∀ j (h : j < L.length), j * sz + sz ≤ L.flatten.length ∧ (L.flatten.drop (j * sz)).take sz = L[j]
  | [], _, j, h => by simp at h
  | x :: L, hs, 0, h => by
    have hx := hs x (List.mem_cons_self ..)
    rw [List.flatten_cons, List.length_append]
    refine ⟨by omega, ?_⟩
    rw [Nat.zero_mul, List.drop_zero, ← hx, List.take_left]
    rfl
  | x :: L, hs, j + 1, h => by
    have hx := hs x (List.mem_cons_self ..)
    obtain ⟨h1, h2⟩ := flat_at (fun y hy => hs y (List.mem_cons_of_mem _ hy)) j (by simpa using h)
    rw [List.flatten_cons, List.length_append, Nat.succ_mul]
    refine ⟨by omega, ?_⟩
    rw [show j * sz + sz = x.length + j * sz by omega, List.drop_append, List.drop_eq_nil_of_le (by omega), List.nil_append, Nat.add_sub_cancel_left, h2]
    rfl
theorem OutG.rd {s : St} {N : Nat} {w : AV} {sz : Nat} {L : List (List AV)} (h : OutG s N w sz L) (hs : ∀ x ∈ L, x.length = sz) (hl : L.length ≤ maxLen) : Rd s w sz L where
  len := h.len
  max := hl
  form h0 := by
    rcases h with ⟨q, rfl, rfl, _⟩ | ⟨p, rfl, h1, h2, h3, h4⟩
    · simp at h0
    · exact ⟨p, 0, L.length, true, _, true, false, sz, rfl, h4, h3, fun j hj => by rw [Nat.zero_add]; exact flat_at hs j hj⟩
theorem OutG.push {s : St} {N : Nat} {w : AV} {sz eb : Nat} {L : List (List AV)} (h : OutG s N w sz L) (hN : N ≤ s.next) (hs : ∀ x ∈ L, x.length = sz) {x : List AV} (hx : x.length = sz) (hc : allCell x = true) (hl : (L.length + 1) * eb ≤ 2 ^ 46) :
    ∃ w' s', appendA sz eb s w 1 x = some (w', s') ∧ OutG s' N w' sz (L ++ [x]) ∧ s.next ≤ s'.next ∧ ∀ b, b < N → s'.get b = s.get b := by
  rcases h with ⟨q, rfl, rfl, h3, h4, h5⟩ | ⟨p, rfl, h1, h2, h3, h4⟩
  · refine ⟨.slice s.next 0 1 1 true, s.new (.cells x true false sz), ?_, .inr ⟨s.next, rfl, by simp, hN, Nat.lt_succ_self _, ?_⟩, Nat.le_succ _, fun b hb => ?_⟩
    · unfold appendA
      dsimp only
      rw [if_neg (by omega), if_pos (show (0 + 1) * eb ≤ 2 ^ 46 from hl)]
      have : loadA s q 0 (0 * sz) = some [] := by unfold loadA; rw [h5]; simp
      rw [this]
      rfl
    · rw [St.get_new, if_pos rfl]; simp
    · rw [St.get_new, if_neg (by omega)]
  · have hf := flat_len hs
    refine ⟨.slice s.next 0 (L.length + 1) (L.length + 1) true, (s.drop p).new (.cells (L.flatten ++ x) true false sz), ?_, .inr ⟨s.next, by simp, by simp, hN, Nat.lt_succ_self _, ?_⟩, Nat.le_succ _, fun b hb => ?_⟩
    · have hlo : loadA s p 0 (L.length * sz) = some L.flatten := by
        unfold loadA
        rw [h4]
        simp only [hf, Nat.zero_add, Nat.le_refl, if_true, List.drop_zero]
        rw [List.take_of_length_le (by omega)]
      unfold appendA
      simp only [hlo, h4]
      rw [if_neg (by omega), if_pos hl]
      simp only [hf, if_true, hc]
      rfl
    · rw [St.get_new, if_pos (by simp)]
      simp
    · rw [St.get_new, if_neg (by simp; omega), St.get_drop, if_neg (by omega)]

theorem Less_run (a b : Lb) (s : St) : Wf mm 14 [.agg [.int .u32 a.e, .int .u32 a.q], .agg [.int .u32 b.e, .int .u32 b.q]] s fun v s' => v = .bool (decide (a.lt b)) ∧ Fr s s' := by
  refine Wf_enter ft14 (sm (by decide)) (by rfl) ?_
  have ft : (false == true) = false := rfl
  have tf : (true == false) = false := rfl
  have fr : Fr s ((s.new (.cells [.int .u32 a.e, .int .u32 a.q] false false 0)).new (.cells [.int .u32 b.e, .int .u32 b.q] false false 0)) := ((Fr.refl s).new _).new _
  have hne : ¬ s.next = s.next + 1 := by omega
  by_cases h1 : a.e < b.e
  · have c1 : decide (a.e < b.e) = true := decide_eq_true h1
    have c2 : decide (a.lt b) = true := decide_eq_true (.inl h1)
    rw [c2]
    simp -implicitDefEqProofs only [go_sem, Wk_block, Wk_drawnC, reduceCtorEq, Nat.reduceEqDiff, Nat.reduceAdd, Nat.reduceLeDiff, Nat.reduceLT, Nat.reduceMul, Nat.reduceSub, ↓reduceIte, Int.reduceLT, Int.reduceLE, Int.reduceNeg, Int.reduceAdd, Int.reduceEq, Nat.reduceBneDiff, Nat.reduceBEq, Int.reduceToNat, Int.reduceMul, Int.reduceSub, Int.reduceBEq, Int.reduceBNe, fd14, hne, c1, ft, tf]
    exact fr
  have c1 : decide (a.e < b.e) = false := decide_eq_false h1
  by_cases h2 : a.e = b.e
  · have c3 : (a.e == b.e) = true := by simp [h2]
    have c2 : decide (a.lt b) = decide (a.q < b.q) := by
      unfold Lb.lt
      simp [h2]
    rw [c2]
    simp -implicitDefEqProofs only [go_sem, Wk_block, Wk_drawnC, reduceCtorEq, Nat.reduceEqDiff, Nat.reduceAdd, Nat.reduceLeDiff, Nat.reduceLT, Nat.reduceMul, Nat.reduceSub, ↓reduceIte, Int.reduceLT, Int.reduceLE, Int.reduceNeg, Int.reduceAdd, Int.reduceEq, Nat.reduceBneDiff, Nat.reduceBEq, Int.reduceToNat, Int.reduceMul, Int.reduceSub, Int.reduceBEq, Int.reduceBNe, fd14, hne, c1, c3, ft, tf]
    exact fr
  · have c3 : (a.e == b.e) = false := by simp [h2]
    have c2 : decide (a.lt b) = false := decide_eq_false (by unfold Lb.lt; omega)
    rw [c2]
    simp -implicitDefEqProofs only [go_sem, Wk_block, Wk_drawnC, reduceCtorEq, Nat.reduceEqDiff, Nat.reduceAdd, Nat.reduceLeDiff, Nat.reduceLT, Nat.reduceMul, Nat.reduceSub, ↓reduceIte, Int.reduceLT, Int.reduceLE, Int.reduceNeg, Int.reduceAdd, Int.reduceEq, Nat.reduceBneDiff, Nat.reduceBEq, Int.reduceToNat, Int.reduceMul, Int.reduceSub, Int.reduceBEq, Int.reduceBNe, fd14, hne, c1, c3, ft, tf]
    exact fr
end Go.Proofs.Ytjejgnbdlfkenaa
