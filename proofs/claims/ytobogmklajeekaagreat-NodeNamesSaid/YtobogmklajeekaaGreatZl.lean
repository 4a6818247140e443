/- slices.Sorted(maps.Keys(m)) of this seat, out of the kit's own proof of it.
The machine of this seat: its functions that are run, and what is known of some. Printed by a program. -/
import Derived.Test.YtobogmklajeekaaGreatZk
import Derived.Shelf.SlIterI.Sorted
import Derived.Shelf.SlIterI.Keys
import Derived.Shelf.SortM.Plain
import Derived.Shelf.SortM.SortNone
import Derived.Shelf.Lay
import Derived.Ground.GgzProg
import Derived.Ground.SlgmProg
import Derived.KernelRfl
namespace Go.Proofs.YtobogmklajeekaaGreat.Base
open D
set_option linter.unusedSimpArgs false
set_option linter.unusedVariables false
open Go.RowKit Go.Maps Go.Sort Go.Shelf Go.Proofs

shelf_lay_g SlLaysZI.n7 Ggz 7 at Tryz 210 as Tryz.keysL
shelf_lay_g SlLaysZI.n6 Ggz 6 at Tryz 209 as Tryz.sortedL
shelf_lay_g SlLaysM.n5 Slgm 5 at Tryz 248 as Tryz.sortL

theorem sortsL (m : Nat) : AnyZI.SortsIn Tryz.prog Tryz.sortedL_ren Fence.wide m :=
  ⟨fun blk off cap ss W hH hblk hsz => callsIn_wide.2 (AnyM.slices_Sort_int Tryz.sortL blk off cap ss W hH hblk hsz),
   fun p cap W => callsIn_wide.2 (AnyM.slices_Sort_int_none Tryz.sortL p cap W)⟩

theorem sortedLaw : SortedLaw Tryz.prog (Tryz.keysL_ren.t 26) (Tryz.sortedL_ren.t 26) 209 249 := by
  intro R Bm b nn D0 W hBm hcell hown hsz
  refine (callsIn_wide (n := 5)).1 ?_
  have hmax : Maps.size D0 ≤ maxLen := by unfold maxLen; omega
  have hbytes : Maps.size D0 * 8 ≤ 140737488355328 := by omega
  have hseq : SeqGives Fence.wide 2 Tryz.prog 249 #[.pointer (some ⟨Bm, 0, none⟩)] encZ (fun ss => ss.Perm (intKeys D0)) (Maps.size D0) W :=
    AnyZI.keys_gives (ρ := Tryz.keysL_ren) { Tryz.keysL with } Fence.wide _ trivial rfl (by omega) Bm b nn D0 W hBm hcell hown
  exact AnyZI.sorted_in Tryz.sortedL Fence.wide 5 trivial trivial trivial trivial rfl (by omega) (sortsL _) (enters_of Tryz.func248 (by kernel_rfl) rfl) 249 #[.pointer (some ⟨Bm, 0, none⟩)] trivial (enters_of Tryz.func249 (by kernel_rfl) rfl) _ _ hmax hbytes _ hseq

noncomputable def sumKeys : List AV → St → Option (AV × St) := sumSorted 249
theorem sumKeys_ok {SM : Sums} (h : SumsOk Tryz.prog SM) : SumsOk Tryz.prog (addSum SM 209 sumKeys) :=
  sumsOk_addI ⟨_, Tryz.func209, by kernel_rfl, by kernel_rfl⟩ (fun hx hR hr hc n => sumSorted_ok Tryz.keysL.t26 sortedLaw hx hR hr hc n) h
theorem sumKeys_next {SM : Sums} (h : SumsNext SM) : SumsNext (addSum SM 209 sumKeys) := sumsNext_addI (fun args s v s' hx => sumSorted_next args s v s' hx) h
end Go.Proofs.YtobogmklajeekaaGreat.Base
namespace Go.Proofs.YtobogmklajeekaaGreat
open D
noncomputable def SM2 : Sums := addSum (addSum (addSum (addSum (addSum (addSum (addSum (addSum (Base.SM1) 179 Base.sumRight) 112 Base.sumOf) 191 Base.sumTurn) 114 Base.sumNum) 239 Base.sumLen) 113 Base.sumClone) 188 Base.sumPut) 209 Base.sumKeys
structure FMach where
  FT : Fns
  SM : Sums
noncomputable def mm : FMach := ⟨tab.get, SM2⟩
theorem mm_mixed : Tryz.prog.follows .mixedOrders = true := Base.mm_mixed
set_option maxRecDepth 1000000 in
theorem mm_ft : FnsOk Tryz.prog mm.FT := tab_ok
set_option maxRecDepth 1000000 in
theorem mm_sm : SumsOk Tryz.prog mm.SM := Base.sumKeys_ok (sumsOk_addW Base.mm_mixed Base.mm_ft Base.mm_sm Base.mm_sn Base.sumPut_run (sumsOk_addW Base.mm_mixed Base.mm_ft Base.mm_sm Base.mm_sn Base.sumClone_run (sumsOk_addW Base.mm_mixed Base.mm_ft Base.mm_sm Base.mm_sn Base.sumLen_run (sumsOk_addW Base.mm_mixed Base.mm_ft Base.mm_sm Base.mm_sn Base.sumNum_run (sumsOk_addW Base.mm_mixed Base.mm_ft Base.mm_sm Base.mm_sn Base.sumTurn_run (sumsOk_addW Base.mm_mixed Base.mm_ft Base.mm_sm Base.mm_sn Base.sumOf_run (sumsOk_addW Base.mm_mixed Base.mm_ft Base.mm_sm Base.mm_sn Base.sumRight_run (Base.mm_sm))))))))
theorem mm_sn : SumsNext mm.SM := Base.sumKeys_next (sumsNext_addI Base.sumPut_next (sumsNext_addI Base.sumClone_next (sumsNext_addI Base.sumLen_next (sumsNext_addI Base.sumNum_next (sumsNext_addI Base.sumTurn_next (sumsNext_addI Base.sumOf_next (sumsNext_addI Base.sumRight_next (Base.mm_sn))))))))
end Go.Proofs.YtobogmklajeekaaGreat
