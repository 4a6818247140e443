/- The machine of this seat: its functions, and what is known of a check that asks for nothing. Printed by a program. -/
import Derived.Test.YteffppdkofdmdaaFT
import Derived.Test.YteffppdkofdmdaaDSum
import Derived.Test.YteffppdkofdmdaaDSet
import Derived.KernelRfl
namespace Go.Proofs.Yteffppdkofdmdaa
open D
noncomputable def mm : Mach := ⟨tab.get, addSum noSums 7 aliveSum⟩
set_option maxRecDepth 100000 in
theorem alive_ran : isTrue ((eng tab.get noSums 120).call 7 [] St.empty) = true := by kernel_rfl
theorem mm_ft : FnsOk Try.prog mm.FT := tab_ok
theorem mm_sm : SumsOk Try.prog mm.SM := sumsOk_add (by kernel_rfl) tab_ok noSums_ok noSums_next alive_ran noSums_ok
theorem mm_sn : SumsNext mm.SM := sumsNext_add noSums_next 7
theorem sm {f : Nat} (h : f ≠ 7) : mm.SM f = none := addSum_ne h
theorem alive_eq (s : St) : mm.L.call 7 [] s = some (.bool true, s) := by
  rw [lim_call]
  unfold callStep
  rw [show mm.SM 7 = some aliveSum by show addSum noSums 7 aliveSum 7 = _; exact addSum_eq]
  rfl
theorem ft2 : mm.FT 2 = some fd2 := by kernel_rfl
theorem ft3 : mm.FT 3 = some fd3 := by kernel_rfl
theorem ft4 : mm.FT 4 = some fd4 := by kernel_rfl
theorem ft5 : mm.FT 5 = some fd5 := by kernel_rfl
theorem ft6 : mm.FT 6 = some fd6 := by kernel_rfl
theorem ft7 : mm.FT 7 = some fd7 := by kernel_rfl
theorem ft8 : mm.FT 8 = some fd8 := by kernel_rfl
theorem ft9 : mm.FT 9 = some fd9 := by kernel_rfl
theorem ft10 : mm.FT 10 = some fd10 := by kernel_rfl
theorem ft11 : mm.FT 11 = some fd11 := by kernel_rfl
theorem ft12 : mm.FT 12 = some fd12 := by kernel_rfl
theorem ft13 : mm.FT 13 = some fd13 := by kernel_rfl
theorem ft14 : mm.FT 14 = some fd14 := by kernel_rfl
theorem ft15 : mm.FT 15 = some fd15 := by kernel_rfl
theorem ft16 : mm.FT 16 = some fd16 := by kernel_rfl
theorem ft17 : mm.FT 17 = some fd17 := by kernel_rfl
theorem ft18 : mm.FT 18 = some fd18 := by kernel_rfl
theorem ft19 : mm.FT 19 = some fd19 := by kernel_rfl
theorem ft20 : mm.FT 20 = some fd20 := by kernel_rfl
theorem ft21 : mm.FT 21 = some fd21 := by kernel_rfl
theorem ft22 : mm.FT 22 = some fd22 := by kernel_rfl
theorem ft23 : mm.FT 23 = some fd23 := by kernel_rfl
theorem ft24 : mm.FT 24 = some fd24 := by kernel_rfl
theorem ft25 : mm.FT 25 = some fd25 := by kernel_rfl
theorem ft26 : mm.FT 26 = some fd26 := by kernel_rfl
theorem ft27 : mm.FT 27 = some fd27 := by kernel_rfl
theorem ft28 : mm.FT 28 = some fd28 := by kernel_rfl
theorem ft29 : mm.FT 29 = some fd29 := by kernel_rfl
theorem ft30 : mm.FT 30 = some fd30 := by kernel_rfl
theorem ft31 : mm.FT 31 = some fd31 := by kernel_rfl
theorem ft32 : mm.FT 32 = some fd32 := by kernel_rfl
theorem ft33 : mm.FT 33 = some fd33 := by kernel_rfl
theorem ft34 : mm.FT 34 = some fd34 := by kernel_rfl
theorem ft35 : mm.FT 35 = some fd35 := by kernel_rfl
theorem ft36 : mm.FT 36 = some fd36 := by kernel_rfl
theorem ft37 : mm.FT 37 = some fd37 := by kernel_rfl
theorem ft38 : mm.FT 38 = some fd38 := by kernel_rfl
theorem ft39 : mm.FT 39 = some fd39 := by kernel_rfl
theorem ft40 : mm.FT 40 = some fd40 := by kernel_rfl
theorem ft41 : mm.FT 41 = some fd41 := by kernel_rfl
theorem ft42 : mm.FT 42 = some fd42 := by kernel_rfl
theorem ft43 : mm.FT 43 = some fd43 := by kernel_rfl
theorem ft44 : mm.FT 44 = some fd44 := by kernel_rfl
theorem ft45 : mm.FT 45 = some fd45 := by kernel_rfl
theorem ft46 : mm.FT 46 = some fd46 := by kernel_rfl
theorem ft47 : mm.FT 47 = some fd47 := by kernel_rfl
end Go.Proofs.Yteffppdkofdmdaa
