/- The functions that are run, as the abstract machine's. Printed by a program.
The table of the functions that are run. Printed by a program.
The base machine of this seat: its functions that are run, and what is known of the sum's step. Printed by a program.
What is known of a few functions of the lowest layers. First part: which widths there are; the sum of bytes. -/
import Derived.Test.YtobogmklajeekaaGreatZi
import Derived.Test.YtobogmklajeekaaGreatProg
import Derived.KernelRfl
namespace Go.Proofs.YtobogmklajeekaaGreat
open D
/-- understudy/root.page -/
def fd215 : FD := ⟨43, [(.cellN 256 4)], (.seq (.region [⟨some 4, (.alloc [(.int .u8 0), (.int .u8 0), (.int .u8 0), (.int .u8 0), (.int .u8 0), (.int .u8 0), (.int .u8 0), (.int .u8 0), (.int .u8 0), (.int .u8 0), (.int .u8 0), (.int .u8 0), (.int .u8 0), (.int .u8 0), (.int .u8 0), (.int .u8 0), (.int .u8 0), (.int .u8 0), (.int .u8 0), (.int .u8 0), (.int .u8 0), (.int .u8 0), (.int .u8 0), (.int .u8 0), (.int .u8 0), (.int .u8 0), (.int .u8 0), (.int .u8 0), (.int .u8 0), (.int .u8 0), (.int .u8 0), (.int .u8 0), (.int .u8 0), (.int .u8 0), (.int .u8 0), (.int .u8 0), (.int .u8 0), (.int .u8 0), (.int .u8 0), (.int .u8 0), (.int .u8 0), (.int .u8 0), (.int .u8 0), (.int .u8 0), (.int .u8 0), (.int .u8 0), (.int .u8 0), (.int .u8 0), (.int .u8 0), (.int .u8 0), (.int .u8 0), (.int .u8 0), (.int .u8 0), (.int .u8 0), (.int .u8 0), (.int .u8 0), (.int .u8 0), (.int .u8 0), (.int .u8 0), (.int .u8 0), (.int .u8 0), (.int .u8 0), (.int .u8 0), (.int .u8 0), (.int .u8 0), (.int .u8 0), (.int .u8 0), (.int .u8 0), (.int .u8 0), (.int .u8 0), (.int .u8 0), (.int .u8 0), (.int .u8 0), (.int .u8 0), (.int .u8 0), (.int .u8 0), (.int .u8 0), (.int .u8 0), (.int .u8 0), (.int .u8 0), (.int .u8 0), (.int .u8 0), (.int .u8 0), (.int .u8 0), (.int .u8 0), (.int .u8 0), (.int .u8 0), (.int .u8 0), (.int .u8 0), (.int .u8 0), (.int .u8 0), (.int .u8 0), (.int .u8 0), (.int .u8 0), (.int .u8 0), (.int .u8 0), (.int .u8 0), (.int .u8 0), (.int .u8 0), (.int .u8 0), (.int .u8 0), (.int .u8 0), (.int .u8 0), (.int .u8 0), (.int .u8 0), (.int .u8 0), (.int .u8 0), (.int .u8 0), (.int .u8 0), (.int .u8 0), (.int .u8 0), (.int .u8 0), (.int .u8 0), (.int .u8 0), (.int .u8 0), (.int .u8 0), (.int .u8 0), (.int .u8 0), (.int .u8 0), (.int .u8 0), (.int .u8 0), (.int .u8 0), (.int .u8 0), (.int .u8 0), (.int .u8 0), (.int .u8 0), (.int .u8 0), (.int .u8 0), (.int .u8 0), (.int .u8 0), (.int .u8 0), (.int .u8 0), (.int .u8 0), (.int .u8 0), (.int .u8 0), (.int .u8 0), (.int .u8 0), (.int .u8 0), (.int .u8 0), (.int .u8 0), (.int .u8 0), (.int .u8 0), (.int .u8 0), (.int .u8 0), (.int .u8 0), (.int .u8 0), (.int .u8 0), (.int .u8 0), (.int .u8 0), (.int .u8 0), (.int .u8 0), (.int .u8 0), (.int .u8 0), (.int .u8 0), (.int .u8 0), (.int .u8 0), (.int .u8 0), (.int .u8 0), (.int .u8 0), (.int .u8 0), (.int .u8 0), (.int .u8 0), (.int .u8 0), (.int .u8 0), (.int .u8 0), (.int .u8 0), (.int .u8 0), (.int .u8 0), (.int .u8 0), (.int .u8 0), (.int .u8 0), (.int .u8 0), (.int .u8 0), (.int .u8 0), (.int .u8 0), (.int .u8 0), (.int .u8 0), (.int .u8 0), (.int .u8 0), (.int .u8 0), (.int .u8 0), (.int .u8 0), (.int .u8 0), (.int .u8 0), (.int .u8 0), (.int .u8 0), (.int .u8 0), (.int .u8 0), (.int .u8 0), (.int .u8 0), (.int .u8 0), (.int .u8 0), (.int .u8 0), (.int .u8 0), (.int .u8 0), (.int .u8 0), (.int .u8 0), (.int .u8 0), (.int .u8 0), (.int .u8 0), (.int .u8 0), (.int .u8 0), (.int .u8 0), (.int .u8 0), (.int .u8 0), (.int .u8 0), (.int .u8 0), (.int .u8 0), (.int .u8 0), (.int .u8 0), (.int .u8 0), (.int .u8 0), (.int .u8 0), (.int .u8 0), (.int .u8 0), (.int .u8 0), (.int .u8 0), (.int .u8 0), (.int .u8 0), (.int .u8 0), (.int .u8 0), (.int .u8 0), (.int .u8 0), (.int .u8 0), (.int .u8 0), (.int .u8 0), (.int .u8 0), (.int .u8 0), (.int .u8 0), (.int .u8 0), (.int .u8 0), (.int .u8 0), (.int .u8 0), (.int .u8 0), (.int .u8 0), (.int .u8 0), (.int .u8 0), (.int .u8 0), (.int .u8 0), (.int .u8 0), (.int .u8 0), (.int .u8 0), (.int .u8 0), (.int .u8 0), (.int .u8 0), (.int .u8 0), (.int .u8 0), (.int .u8 0), (.int .u8 0), (.int .u8 0), (.int .u8 0), (.int .u8 0), (.int .u8 0), (.int .u8 0), (.int .u8 0), (.int .u8 0)]), none⟩]) (.seq (.region [⟨some 5, (.alloc [(.int .u8 0), (.int .u8 0), (.int .u8 0), (.int .u8 0), (.int .u8 0), (.int .u8 0), (.int .u8 0), (.int .u8 0), (.int .u8 0), (.int .u8 0), (.int .u8 0), (.int .u8 0), (.int .u8 0), (.int .u8 0), (.int .u8 0), (.int .u8 0), (.int .u8 0), (.int .u8 0), (.int .u8 0), (.int .u8 0), (.int .u8 0), (.int .u8 0), (.int .u8 0), (.int .u8 0), (.int .u8 0), (.int .u8 0), (.int .u8 0), (.int .u8 0), (.int .u8 0), (.int .u8 0), (.int .u8 0), (.int .u8 0), (.int .u8 0), (.int .u8 0), (.int .u8 0), (.int .u8 0), (.int .u8 0), (.int .u8 0), (.int .u8 0), (.int .u8 0), (.int .u8 0), (.int .u8 0), (.int .u8 0), (.int .u8 0), (.int .u8 0), (.int .u8 0), (.int .u8 0), (.int .u8 0), (.int .u8 0), (.int .u8 0), (.int .u8 0), (.int .u8 0), (.int .u8 0), (.int .u8 0), (.int .u8 0), (.int .u8 0), (.int .u8 0), (.int .u8 0), (.int .u8 0), (.int .u8 0), (.int .u8 0), (.int .u8 0), (.int .u8 0), (.int .u8 0), (.int .u8 0), (.int .u8 0), (.int .u8 0), (.int .u8 0), (.int .u8 0), (.int .u8 0), (.int .u8 0), (.int .u8 0), (.int .u8 0), (.int .u8 0), (.int .u8 0), (.int .u8 0), (.int .u8 0), (.int .u8 0), (.int .u8 0), (.int .u8 0), (.int .u8 0), (.int .u8 0), (.int .u8 0), (.int .u8 0), (.int .u8 0), (.int .u8 0), (.int .u8 0), (.int .u8 0), (.int .u8 0), (.int .u8 0), (.int .u8 0), (.int .u8 0), (.int .u8 0), (.int .u8 0), (.int .u8 0), (.int .u8 0), (.int .u8 0), (.int .u8 0), (.int .u8 0), (.int .u8 0), (.int .u8 0), (.int .u8 0), (.int .u8 0), (.int .u8 0), (.int .u8 0), (.int .u8 0), (.int .u8 0), (.int .u8 0), (.int .u8 0), (.int .u8 0), (.int .u8 0), (.int .u8 0), (.int .u8 0), (.int .u8 0), (.int .u8 0), (.int .u8 0), (.int .u8 0), (.int .u8 0), (.int .u8 0), (.int .u8 0), (.int .u8 0), (.int .u8 0), (.int .u8 0), (.int .u8 0), (.int .u8 0), (.int .u8 0), (.int .u8 0), (.int .u8 0), (.int .u8 0), (.int .u8 0), (.int .u8 0), (.int .u8 0), (.int .u8 0), (.int .u8 0), (.int .u8 0), (.int .u8 0), (.int .u8 0), (.int .u8 0), (.int .u8 0), (.int .u8 0), (.int .u8 0), (.int .u8 0), (.int .u8 0), (.int .u8 0), (.int .u8 0), (.int .u8 0), (.int .u8 0), (.int .u8 0), (.int .u8 0), (.int .u8 0), (.int .u8 0), (.int .u8 0), (.int .u8 0), (.int .u8 0), (.int .u8 0), (.int .u8 0), (.int .u8 0), (.int .u8 0), (.int .u8 0), (.int .u8 0), (.int .u8 0), (.int .u8 0), (.int .u8 0), (.int .u8 0), (.int .u8 0), (.int .u8 0), (.int .u8 0), (.int .u8 0), (.int .u8 0), (.int .u8 0), (.int .u8 0), (.int .u8 0), (.int .u8 0), (.int .u8 0), (.int .u8 0), (.int .u8 0), (.int .u8 0), (.int .u8 0), (.int .u8 0), (.int .u8 0), (.int .u8 0), (.int .u8 0), (.int .u8 0), (.int .u8 0), (.int .u8 0), (.int .u8 0), (.int .u8 0), (.int .u8 0), (.int .u8 0), (.int .u8 0), (.int .u8 0), (.int .u8 0), (.int .u8 0), (.int .u8 0), (.int .u8 0), (.int .u8 0), (.int .u8 0), (.int .u8 0), (.int .u8 0), (.int .u8 0), (.int .u8 0), (.int .u8 0), (.int .u8 0), (.int .u8 0), (.int .u8 0), (.int .u8 0), (.int .u8 0), (.int .u8 0), (.int .u8 0), (.int .u8 0), (.int .u8 0), (.int .u8 0), (.int .u8 0), (.int .u8 0), (.int .u8 0), (.int .u8 0), (.int .u8 0), (.int .u8 0), (.int .u8 0), (.int .u8 0), (.int .u8 0), (.int .u8 0), (.int .u8 0), (.int .u8 0), (.int .u8 0), (.int .u8 0), (.int .u8 0), (.int .u8 0), (.int .u8 0), (.int .u8 0), (.int .u8 0), (.int .u8 0), (.int .u8 0), (.int .u8 0), (.int .u8 0), (.int .u8 0), (.int .u8 0), (.int .u8 0), (.int .u8 0), (.int .u8 0), (.int .u8 0), (.int .u8 0), (.int .u8 0), (.int .u8 0), (.int .u8 0), (.int .u8 0), (.int .u8 0), (.int .u8 0), (.int .u8 0), (.int .u8 0), (.int .u8 0), (.int .u8 0), (.int .u8 0), (.int .u8 0), (.int .u8 0), (.int .u8 0)]), none⟩]) (.seq (.seq (.region [⟨some 11, (.move (.c (.int .i64 0))), none⟩]) (.block 0 (.loop (.seq (.region [⟨some 12, (.bin .lss .no (.t 11) (.c (.int .i64 8))), none⟩]) (.seq (.cond (.t 12) .skip (.exit 0)) (.seq (.block 1 (.seq (.region [⟨some 13, (.move (.t 11)), none⟩, ⟨some 6, (.move (.t 13)), none⟩]) (.seq (.region [⟨some 15, (.move (.t 0)), none⟩, ⟨some 16, (.buildSlice [(.int .u64 0)] 1 [(0, 1, (.t 15))] 1), none⟩, ⟨some 17, (.call (.c (.fn (.func 188) [] [])) [(.c .nilSlice), (.c (.int .i64 8)), (.t 16)]), none⟩, ⟨some 14, (.move (.t 17)), none⟩, ⟨some 18, (.extract (.t 14) 0), none⟩, ⟨some 19, (.extract (.t 14) 1), none⟩, ⟨some 7, (.move (.t 18)), none⟩, ⟨some 8, (.move (.t 19)), none⟩]) (.seq (.region [⟨some 20, (.move (.t 6)), none⟩, ⟨some 21, (.bin .mul .no (.t 20) (.c (.int .i64 32))), none⟩, ⟨some 9, (.move (.t 21)), none⟩]) (.seq (.region [⟨some 22, (.move (.t 9)), none⟩, ⟨some 23, (.sliceArr 256 1 (.t 5) (some (.t 22)) none none), none⟩, ⟨some 24, (.move (.t 7)), none⟩, ⟨some 25, (.copy 1 (.t 23) (.t 24)), none⟩]) (.seq (.region [⟨some 26, (.move (.t 6)), none⟩, ⟨some 27, (.bin .mul .no (.t 26) (.c (.int .i64 24))), none⟩, ⟨some 10, (.move (.t 27)), none⟩]) (.seq (.region [⟨some 28, (.move (.t 10)), none⟩, ⟨some 29, (.move (.t 1)), none⟩, ⟨some 30, (.len 1 (.t 29)), none⟩, ⟨some 31, (.bin .lss .no (.t 28) (.t 30)), none⟩]) (.cond (.t 31) (.drawn [⟨some 32, (.move (.t 9)), none⟩, ⟨some 33, (.bin .add .no (.t 32) (.c (.int .i64 8))), none⟩, ⟨some 34, (.move (.t 9)), none⟩, ⟨some 35, (.bin .add .no (.t 34) (.c (.int .i64 32))), none⟩, ⟨some 36, (.sliceArr 256 1 (.t 5) (some (.t 33)) (some (.t 35)) none), none⟩, ⟨some 37, (.move (.t 1)), none⟩, ⟨some 38, (.move (.t 10)), none⟩, ⟨some 39, (.sliceSl 1 (.t 37) (some (.t 38)) none none), none⟩, ⟨some 40, (.copy 1 (.t 36) (.t 39)), none⟩] []) .skip)))))))) (.region [⟨some 41, (.bin .add .no (.t 11) (.c (.int .i64 1))), none⟩, ⟨some 11, (.move (.t 41)), none⟩]))))))) (.seq (.region [⟨some 42, (.loadN 256 (.t 5)), none⟩, ⟨none, (.store 256 (.t 4) (.t 42)), none⟩]) .ret))))⟩
theorem prep215 : prepF Tryz.prog Tryz.f215 = some fd215 := by kernel_rfl
/-- understudy/root.seal -/
def fd216 : FD := ⟨17, [(.tmp 2)], (.seq (.region [⟨some 2, (.move (.c .nilSlice)), none⟩]) (.seq (.region [⟨some 6, (.move (.t 0)), none⟩, ⟨some 7, (.len 1 (.t 6)), none⟩, ⟨some 8, (.convInt .u64 (.t 7)), none⟩, ⟨some 9, (.buildSlice [(.int .u64 0)] 1 [(0, 1, (.t 8))] 1), none⟩, ⟨some 10, (.call (.c (.fn (.func 188) [] [])) [(.c .nilSlice), (.c (.int .i64 2)), (.t 9)]), none⟩, ⟨some 5, (.move (.t 10)), none⟩, ⟨some 11, (.extract (.t 5) 0), none⟩, ⟨some 12, (.extract (.t 5) 1), none⟩, ⟨some 3, (.move (.t 11)), none⟩, ⟨some 4, (.move (.t 12)), none⟩]) (.seq (.region [⟨some 13, (.move (.t 3)), none⟩, ⟨some 14, (.move (.t 0)), none⟩, ⟨some 15, (.buildSlice [.nilSlice, .nilSlice] 2 [(0, 1, (.t 13)), (1, 1, (.t 14))] 1), none⟩, ⟨some 16, (.call (.c (.fn (.func 120) [] [])) [(.t 15)]), none⟩, ⟨some 2, (.move (.t 16)), none⟩]) .ret)))⟩
theorem prep216 : prepF Tryz.prog Tryz.f216 = some fd216 := by kernel_rfl
/-- (*understudy/pool.Pool).Tidy -/
def fd217 : FD := ⟨4, [], (.region [⟨some 2, (.move (.t 0)), none⟩, ⟨some 3, (.call (.c (.fn (.func 191) [] [])) [(.t 2), (.c (.int .u8 3)), (.c (.int .u8 0))]), none⟩])⟩
theorem prep217 : prepF Tryz.prog Tryz.f217 = some fd217 := by kernel_rfl
/-- understudy/leaf.Page -/
def fd218 : FD := ⟨16, [(.cellN 256 2), (.tmp 3)], (.seq (.region [⟨some 1, (.box (.t 0)), none⟩, ⟨some 2, (.alloc [(.int .u8 0), (.int .u8 0), (.int .u8 0), (.int .u8 0), (.int .u8 0), (.int .u8 0), (.int .u8 0), (.int .u8 0), (.int .u8 0), (.int .u8 0), (.int .u8 0), (.int .u8 0), (.int .u8 0), (.int .u8 0), (.int .u8 0), (.int .u8 0), (.int .u8 0), (.int .u8 0), (.int .u8 0), (.int .u8 0), (.int .u8 0), (.int .u8 0), (.int .u8 0), (.int .u8 0), (.int .u8 0), (.int .u8 0), (.int .u8 0), (.int .u8 0), (.int .u8 0), (.int .u8 0), (.int .u8 0), (.int .u8 0), (.int .u8 0), (.int .u8 0), (.int .u8 0), (.int .u8 0), (.int .u8 0), (.int .u8 0), (.int .u8 0), (.int .u8 0), (.int .u8 0), (.int .u8 0), (.int .u8 0), (.int .u8 0), (.int .u8 0), (.int .u8 0), (.int .u8 0), (.int .u8 0), (.int .u8 0), (.int .u8 0), (.int .u8 0), (.int .u8 0), (.int .u8 0), (.int .u8 0), (.int .u8 0), (.int .u8 0), (.int .u8 0), (.int .u8 0), (.int .u8 0), (.int .u8 0), (.int .u8 0), (.int .u8 0), (.int .u8 0), (.int .u8 0), (.int .u8 0), (.int .u8 0), (.int .u8 0), (.int .u8 0), (.int .u8 0), (.int .u8 0), (.int .u8 0), (.int .u8 0), (.int .u8 0), (.int .u8 0), (.int .u8 0), (.int .u8 0), (.int .u8 0), (.int .u8 0), (.int .u8 0), (.int .u8 0), (.int .u8 0), (.int .u8 0), (.int .u8 0), (.int .u8 0), (.int .u8 0), (.int .u8 0), (.int .u8 0), (.int .u8 0), (.int .u8 0), (.int .u8 0), (.int .u8 0), (.int .u8 0), (.int .u8 0), (.int .u8 0), (.int .u8 0), (.int .u8 0), (.int .u8 0), (.int .u8 0), (.int .u8 0), (.int .u8 0), (.int .u8 0), (.int .u8 0), (.int .u8 0), (.int .u8 0), (.int .u8 0), (.int .u8 0), (.int .u8 0), (.int .u8 0), (.int .u8 0), (.int .u8 0), (.int .u8 0), (.int .u8 0), (.int .u8 0), (.int .u8 0), (.int .u8 0), (.int .u8 0), (.int .u8 0), (.int .u8 0), (.int .u8 0), (.int .u8 0), (.int .u8 0), (.int .u8 0), (.int .u8 0), (.int .u8 0), (.int .u8 0), (.int .u8 0), (.int .u8 0), (.int .u8 0), (.int .u8 0), (.int .u8 0), (.int .u8 0), (.int .u8 0), (.int .u8 0), (.int .u8 0), (.int .u8 0), (.int .u8 0), (.int .u8 0), (.int .u8 0), (.int .u8 0), (.int .u8 0), (.int .u8 0), (.int .u8 0), (.int .u8 0), (.int .u8 0), (.int .u8 0), (.int .u8 0), (.int .u8 0), (.int .u8 0), (.int .u8 0), (.int .u8 0), (.int .u8 0), (.int .u8 0), (.int .u8 0), (.int .u8 0), (.int .u8 0), (.int .u8 0), (.int .u8 0), (.int .u8 0), (.int .u8 0), (.int .u8 0), (.int .u8 0), (.int .u8 0), (.int .u8 0), (.int .u8 0), (.int .u8 0), (.int .u8 0), (.int .u8 0), (.int .u8 0), (.int .u8 0), (.int .u8 0), (.int .u8 0), (.int .u8 0), (.int .u8 0), (.int .u8 0), (.int .u8 0), (.int .u8 0), (.int .u8 0), (.int .u8 0), (.int .u8 0), (.int .u8 0), (.int .u8 0), (.int .u8 0), (.int .u8 0), (.int .u8 0), (.int .u8 0), (.int .u8 0), (.int .u8 0), (.int .u8 0), (.int .u8 0), (.int .u8 0), (.int .u8 0), (.int .u8 0), (.int .u8 0), (.int .u8 0), (.int .u8 0), (.int .u8 0), (.int .u8 0), (.int .u8 0), (.int .u8 0), (.int .u8 0), (.int .u8 0), (.int .u8 0), (.int .u8 0), (.int .u8 0), (.int .u8 0), (.int .u8 0), (.int .u8 0), (.int .u8 0), (.int .u8 0), (.int .u8 0), (.int .u8 0), (.int .u8 0), (.int .u8 0), (.int .u8 0), (.int .u8 0), (.int .u8 0), (.int .u8 0), (.int .u8 0), (.int .u8 0), (.int .u8 0), (.int .u8 0), (.int .u8 0), (.int .u8 0), (.int .u8 0), (.int .u8 0), (.int .u8 0), (.int .u8 0), (.int .u8 0), (.int .u8 0), (.int .u8 0), (.int .u8 0), (.int .u8 0), (.int .u8 0), (.int .u8 0), (.int .u8 0), (.int .u8 0), (.int .u8 0), (.int .u8 0), (.int .u8 0), (.int .u8 0), (.int .u8 0), (.int .u8 0), (.int .u8 0), (.int .u8 0), (.int .u8 0), (.int .u8 0), (.int .u8 0), (.int .u8 0), (.int .u8 0), (.int .u8 0), (.int .u8 0), (.int .u8 0), (.int .u8 0), (.int .u8 0), (.int .u8 0), (.int .u8 0)]), none⟩, ⟨some 3, (.move (.c (.int .i64 0))), none⟩]) (.seq (.region [⟨some 4, (.alloc [(.int .u8 0), (.int .u8 0), (.int .u8 0), (.int .u8 0), (.int .u8 0), (.int .u8 0), (.int .u8 0), (.int .u8 0), (.int .u8 0), (.int .u8 0), (.int .u8 0), (.int .u8 0), (.int .u8 0), (.int .u8 0), (.int .u8 0), (.int .u8 0), (.int .u8 0), (.int .u8 0), (.int .u8 0), (.int .u8 0), (.int .u8 0), (.int .u8 0), (.int .u8 0), (.int .u8 0), (.int .u8 0), (.int .u8 0), (.int .u8 0), (.int .u8 0), (.int .u8 0), (.int .u8 0), (.int .u8 0), (.int .u8 0), (.int .u8 0), (.int .u8 0), (.int .u8 0), (.int .u8 0), (.int .u8 0), (.int .u8 0), (.int .u8 0), (.int .u8 0), (.int .u8 0), (.int .u8 0), (.int .u8 0), (.int .u8 0), (.int .u8 0), (.int .u8 0), (.int .u8 0), (.int .u8 0), (.int .u8 0), (.int .u8 0), (.int .u8 0), (.int .u8 0), (.int .u8 0), (.int .u8 0), (.int .u8 0), (.int .u8 0), (.int .u8 0), (.int .u8 0), (.int .u8 0), (.int .u8 0), (.int .u8 0), (.int .u8 0), (.int .u8 0), (.int .u8 0), (.int .u8 0), (.int .u8 0), (.int .u8 0), (.int .u8 0), (.int .u8 0), (.int .u8 0), (.int .u8 0), (.int .u8 0), (.int .u8 0), (.int .u8 0), (.int .u8 0), (.int .u8 0), (.int .u8 0), (.int .u8 0), (.int .u8 0), (.int .u8 0), (.int .u8 0), (.int .u8 0), (.int .u8 0), (.int .u8 0), (.int .u8 0), (.int .u8 0), (.int .u8 0), (.int .u8 0), (.int .u8 0), (.int .u8 0), (.int .u8 0), (.int .u8 0), (.int .u8 0), (.int .u8 0), (.int .u8 0), (.int .u8 0), (.int .u8 0), (.int .u8 0), (.int .u8 0), (.int .u8 0), (.int .u8 0), (.int .u8 0), (.int .u8 0), (.int .u8 0), (.int .u8 0), (.int .u8 0), (.int .u8 0), (.int .u8 0), (.int .u8 0), (.int .u8 0), (.int .u8 0), (.int .u8 0), (.int .u8 0), (.int .u8 0), (.int .u8 0), (.int .u8 0), (.int .u8 0), (.int .u8 0), (.int .u8 0), (.int .u8 0), (.int .u8 0), (.int .u8 0), (.int .u8 0), (.int .u8 0), (.int .u8 0), (.int .u8 0), (.int .u8 0), (.int .u8 0), (.int .u8 0), (.int .u8 0), (.int .u8 0), (.int .u8 0), (.int .u8 0), (.int .u8 0), (.int .u8 0), (.int .u8 0), (.int .u8 0), (.int .u8 0), (.int .u8 0), (.int .u8 0), (.int .u8 0), (.int .u8 0), (.int .u8 0), (.int .u8 0), (.int .u8 0), (.int .u8 0), (.int .u8 0), (.int .u8 0), (.int .u8 0), (.int .u8 0), (.int .u8 0), (.int .u8 0), (.int .u8 0), (.int .u8 0), (.int .u8 0), (.int .u8 0), (.int .u8 0), (.int .u8 0), (.int .u8 0), (.int .u8 0), (.int .u8 0), (.int .u8 0), (.int .u8 0), (.int .u8 0), (.int .u8 0), (.int .u8 0), (.int .u8 0), (.int .u8 0), (.int .u8 0), (.int .u8 0), (.int .u8 0), (.int .u8 0), (.int .u8 0), (.int .u8 0), (.int .u8 0), (.int .u8 0), (.int .u8 0), (.int .u8 0), (.int .u8 0), (.int .u8 0), (.int .u8 0), (.int .u8 0), (.int .u8 0), (.int .u8 0), (.int .u8 0), (.int .u8 0), (.int .u8 0), (.int .u8 0), (.int .u8 0), (.int .u8 0), (.int .u8 0), (.int .u8 0), (.int .u8 0), (.int .u8 0), (.int .u8 0), (.int .u8 0), (.int .u8 0), (.int .u8 0), (.int .u8 0), (.int .u8 0), (.int .u8 0), (.int .u8 0), (.int .u8 0), (.int .u8 0), (.int .u8 0), (.int .u8 0), (.int .u8 0), (.int .u8 0), (.int .u8 0), (.int .u8 0), (.int .u8 0), (.int .u8 0), (.int .u8 0), (.int .u8 0), (.int .u8 0), (.int .u8 0), (.int .u8 0), (.int .u8 0), (.int .u8 0), (.int .u8 0), (.int .u8 0), (.int .u8 0), (.int .u8 0), (.int .u8 0), (.int .u8 0), (.int .u8 0), (.int .u8 0), (.int .u8 0), (.int .u8 0), (.int .u8 0), (.int .u8 0), (.int .u8 0), (.int .u8 0), (.int .u8 0), (.int .u8 0), (.int .u8 0), (.int .u8 0), (.int .u8 0), (.int .u8 0), (.int .u8 0), (.int .u8 0), (.int .u8 0), (.int .u8 0), (.int .u8 0), (.int .u8 0), (.int .u8 0), (.int .u8 0), (.int .u8 0), (.int .u8 0), (.int .u8 0), (.int .u8 0), (.int .u8 0), (.int .u8 0), (.int .u8 0), (.int .u8 0), (.int .u8 0)]), none⟩]) (.seq (.seq (.region [⟨some 5, (.loadN 18 (.t 1)), none⟩, ⟨some 6, (.call (.c (.fn (.func 250) [] [])) [(.t 5)]), none⟩, ⟨some 7, (.un .not (.t 6)), none⟩]) (.cond (.t 7) (.seq (.region [⟨some 8, (.loadN 256 (.t 4)), none⟩, ⟨none, (.store 256 (.t 2) (.t 8)), none⟩, ⟨some 3, (.move (.c (.int .i64 81))), none⟩]) .ret) .skip)) (.seq (.drawn [⟨some 9, (.sliceArr 256 1 (.t 4) none none none), none⟩, ⟨some 10, (.loadN 18 (.t 1)), none⟩, ⟨some 11, (.call (.c (.fn (.func 251) [] [])) [(.t 10)]), none⟩, ⟨some 12, (.buildSlice [.nilSlice] 1 [(0, 1, (.t 11))] 1), none⟩, ⟨some 13, (.call (.c (.fn (.func 120) [] [])) [(.t 12)]), none⟩, ⟨some 14, (.copy 1 (.t 9) (.t 13)), none⟩] []) (.seq (.region [⟨some 15, (.loadN 256 (.t 4)), none⟩, ⟨none, (.store 256 (.t 2) (.t 15)), none⟩, ⟨some 3, (.move (.c (.int .i64 0))), none⟩]) .ret)))))⟩
theorem prep218 : prepF Tryz.prog Tryz.f218 = some fd218 := by kernel_rfl
/-- slices.ContainsFunc[[]int,int] -/
def fd219 : FD := ⟨9, [(.tmp 4)], (.seq (.region [⟨some 4, (.move (.c (.bool false))), none⟩]) (.seq (.region [⟨some 5, (.move (.t 0)), none⟩, ⟨some 6, (.move (.t 1)), none⟩, ⟨some 7, (.call (.c (.fn (.func 246) [] [])) [(.t 5), (.t 6)]), none⟩, ⟨some 8, (.bin .geq .no (.t 7) (.c (.int .i64 0))), none⟩, ⟨some 4, (.move (.t 8)), none⟩]) .ret))⟩
theorem prep219 : prepF Tryz.prog Tryz.f219 = some fd219 := by kernel_rfl
/-- (*understudy/pool.Pool).Take -/
def fd220 : FD := ⟨22, [(.tmp 2), (.tmp 3)], (.seq (.region [⟨some 2, (.move (.c (.int .i64 0))), none⟩, ⟨some 3, (.move (.c (.int .i64 0))), none⟩]) (.seq (.seq (.region [⟨some 5, (.move (.t 0)), none⟩, ⟨some 6, (.nilCheck (.t 5)), none⟩, ⟨some 7, (.fieldAddr 0 (.t 6)), none⟩, ⟨some 8, (.load1 (.t 7)), none⟩, ⟨some 9, (.move (.c (.int .i64 0))), none⟩]) (.block 0 (.loop (.seq (.region [⟨some 10, (.bin .lss .no (.t 9) (.t 8)), none⟩]) (.seq (.cond (.t 10) .skip (.exit 0)) (.seq (.block 1 (.seq (.region [⟨some 11, (.move (.t 9)), none⟩, ⟨some 4, (.move (.t 11)), none⟩]) (.seq (.region [⟨some 12, (.move (.t 0)), none⟩, ⟨some 13, (.move (.t 4)), none⟩, ⟨some 14, (.call (.c (.fn (.func 108) [] [])) [(.t 12), (.t 13)]), none⟩]) (.cond (.t 14) (.seq (.region [⟨some 15, (.move (.t 0)), none⟩, ⟨some 16, (.move (.t 4)), none⟩, ⟨some 17, (.nilCheck (.t 15)), none⟩, ⟨some 18, (.fieldAddr 241 (.t 17)), none⟩, ⟨some 19, (.idxArr 240 1 (.t 18) (.t 16)), none⟩, ⟨none, (.store 1 (.t 19) (.c (.int .u8 1))), none⟩]) (.seq (.region [⟨some 20, (.move (.t 4)), none⟩, ⟨some 2, (.move (.t 20)), none⟩, ⟨some 3, (.move (.c (.int .i64 0))), none⟩]) .ret)) .skip)))) (.region [⟨some 21, (.bin .add .no (.t 9) (.c (.int .i64 1))), none⟩, ⟨some 9, (.move (.t 21)), none⟩]))))))) (.seq (.region [⟨some 2, (.move (.c (.int .i64 0))), none⟩, ⟨some 3, (.move (.c (.int .i64 71))), none⟩]) .ret)))⟩
theorem prep220 : prepF Tryz.prog Tryz.f220 = some fd220 := by kernel_rfl
/-- (understudy/diff.Differ).one -/
def fd221 : FD := ⟨37, [(.tmp 6), (.tmp 7)], (.seq (.region [⟨some 3, (.box (.t 0)), none⟩, ⟨some 5, (.box (.t 2)), none⟩, ⟨some 6, (.move (.c (.int .i64 0))), none⟩, ⟨some 7, (.move (.c (.int .i64 0))), none⟩]) (.seq (.seq (.region [⟨some 11, (.fieldAddr 1 (.t 5)), none⟩, ⟨some 12, (.load1 (.t 11)), none⟩, ⟨some 13, (.bin .neq .no (.t 12) (.c (.int .i64 (-1)))), none⟩]) (.cond (.t 13) (.seq (.region [⟨some 14, (.fieldAddr 0 (.t 3)), none⟩, ⟨some 15, (.fieldAddr 0 (.t 14)), none⟩, ⟨some 16, (.loadN 1 (.t 15)), none⟩, ⟨some 17, (.move (.t 1)), none⟩, ⟨some 18, (.fieldAddr 0 (.t 5)), none⟩, ⟨some 19, (.load1 (.t 18)), none⟩, ⟨some 20, (.fieldAddr 1 (.t 5)), none⟩, ⟨some 21, (.load1 (.t 20)), none⟩, ⟨some 22, (.call (.c (.fn (.func 252) [] [])) [(.t 16), (.t 17), (.t 19), (.t 21)]), none⟩, ⟨some 23, (.extract (.t 22) 0), none⟩, ⟨some 24, (.extract (.t 22) 1), none⟩, ⟨some 6, (.move (.t 23)), none⟩, ⟨some 7, (.move (.t 24)), none⟩]) .ret) .skip)) (.seq (.region [⟨some 26, (.fieldAddr 0 (.t 3)), none⟩, ⟨some 27, (.loadN 1 (.t 26)), none⟩, ⟨some 28, (.move (.t 1)), none⟩, ⟨some 29, (.fieldAddr 0 (.t 5)), none⟩, ⟨some 30, (.load1 (.t 29)), none⟩, ⟨some 31, (.call (.c (.fn (.func 222) [] [])) [(.t 27), (.t 28), (.t 30)]), none⟩, ⟨some 25, (.move (.t 31)), none⟩, ⟨some 32, (.extract (.t 25) 0), none⟩, ⟨some 33, (.extract (.t 25) 1), none⟩, ⟨some 34, (.extract (.t 25) 2), none⟩, ⟨some 8, (.move (.t 32)), none⟩, ⟨some 9, (.move (.t 33)), none⟩, ⟨some 10, (.move (.t 34)), none⟩]) (.seq (.region [⟨some 35, (.move (.t 8)), none⟩, ⟨some 36, (.move (.t 10)), none⟩, ⟨some 6, (.move (.t 35)), none⟩, ⟨some 7, (.move (.t 36)), none⟩]) .ret))))⟩
theorem prep221 : prepF Tryz.prog Tryz.f221 = some fd221 := by kernel_rfl
/-- cmp.isNaN[uint32] -/
def fd231 : FD := ⟨6, [(.tmp 2)], (.seq (.region [⟨some 2, (.move (.c (.bool false))), none⟩]) (.seq (.region [⟨some 3, (.move (.t 0)), none⟩, ⟨some 4, (.move (.t 0)), none⟩, ⟨some 5, (.bin .neq .no (.t 3) (.t 4)), none⟩, ⟨some 2, (.move (.t 5)), none⟩]) .ret))⟩
theorem prep231 : prepF Tryz.prog Tryz.f231 = some fd231 := by kernel_rfl
/-- math/bits.OnesCount -/
def fd234 : FD := ⟨8, [(.tmp 2)], (.seq (.region [⟨some 2, (.move (.c (.int .i64 0))), none⟩]) (.seq (.cond (.c (.bool false)) (.seq (.region [⟨some 3, (.move (.t 0)), none⟩, ⟨some 4, (.convInt .u32 (.t 3)), none⟩, ⟨some 5, (.call (.c (.fn (.func 265) [] [])) [(.t 4)]), none⟩, ⟨some 2, (.move (.t 5)), none⟩]) .ret) .skip) (.seq (.region [⟨some 6, (.move (.t 0)), none⟩, ⟨some 7, (.call (.c (.fn (.func 266) [] [])) [(.t 6)]), none⟩, ⟨some 2, (.move (.t 7)), none⟩]) .ret)))⟩
theorem prep234 : prepF Tryz.prog Tryz.f234 = some fd234 := by kernel_rfl
/-- slices.Backward[[]byte,byte]$1 -/
def fd235 : FD := ⟨19, [], (.seq (.region [⟨some 4, (.load1 (.t 1)), none⟩, ⟨some 5, (.len 1 (.t 4)), none⟩, ⟨some 6, (.bin .sub .no (.t 5) (.c (.int .i64 1))), none⟩, ⟨some 3, (.move (.t 6)), none⟩]) (.block 0 (.loop (.seq (.seq (.region [⟨some 7, (.move (.t 3)), none⟩, ⟨some 8, (.bin .geq .no (.t 7) (.c (.int .i64 0))), none⟩]) (.cond (.t 8) .skip (.exit 0))) (.seq (.block 1 (.seq (.region [⟨some 11, (.move (.t 0)), none⟩, ⟨some 12, (.move (.t 3)), none⟩, ⟨some 13, (.load1 (.t 1)), none⟩, ⟨some 14, (.move (.t 3)), none⟩, ⟨some 15, (.idxSl 1 (.t 13) (.t 14)), none⟩, ⟨some 16, (.load1 (.t 15)), none⟩, ⟨some 17, (.call (.t 11) [(.t 12), (.t 16)]), none⟩, ⟨some 18, (.un .not (.t 17)), none⟩]) (.cond (.t 18) .ret .skip))) (.region [⟨some 9, (.move (.t 3)), none⟩, ⟨some 10, (.bin .sub .no (.t 9) (.c (.int .i64 1))), none⟩, ⟨some 3, (.move (.t 10)), none⟩]))))))⟩
theorem prep235 : prepF Tryz.prog Tryz.f235 = some fd235 := by kernel_rfl
/-- slices.Contains[[]int,int] -/
def fd236 : FD := ⟨9, [(.tmp 4)], (.seq (.region [⟨some 4, (.move (.c (.bool false))), none⟩]) (.seq (.region [⟨some 5, (.move (.t 0)), none⟩, ⟨some 6, (.move (.t 1)), none⟩, ⟨some 7, (.call (.c (.fn (.func 267) [] [])) [(.t 5), (.t 6)]), none⟩, ⟨some 8, (.bin .geq .no (.t 7) (.c (.int .i64 0))), none⟩, ⟨some 4, (.move (.t 8)), none⟩]) .ret))⟩
theorem prep236 : prepF Tryz.prog Tryz.f236 = some fd236 := by kernel_rfl
/-- slices.IndexFunc[[]understudy/api.Item,understudy/api.Item] -/
def fd237 : FD := ⟨19, [(.tmp 4)], (.seq (.region [⟨some 4, (.move (.c (.int .i64 0))), none⟩]) (.seq (.seq (.region [⟨some 6, (.move (.t 0)), none⟩, ⟨some 7, (.len 1 (.t 6)), none⟩, ⟨some 8, (.move (.c (.int .i64 0))), none⟩]) (.block 0 (.loop (.seq (.region [⟨some 9, (.bin .lss .no (.t 8) (.t 7)), none⟩]) (.seq (.cond (.t 9) .skip (.exit 0)) (.seq (.block 1 (.seq (.region [⟨some 10, (.move (.t 8)), none⟩, ⟨some 5, (.move (.t 10)), none⟩]) (.seq (.region [⟨some 11, (.move (.t 1)), none⟩, ⟨some 12, (.move (.t 0)), none⟩, ⟨some 13, (.move (.t 5)), none⟩, ⟨some 14, (.idxSl 18 (.t 12) (.t 13)), none⟩, ⟨some 15, (.loadN 18 (.t 14)), none⟩, ⟨some 16, (.call (.t 11) [(.t 15)]), none⟩]) (.cond (.t 16) (.seq (.region [⟨some 17, (.move (.t 5)), none⟩, ⟨some 4, (.move (.t 17)), none⟩]) .ret) .skip)))) (.region [⟨some 18, (.bin .add .no (.t 8) (.c (.int .i64 1))), none⟩, ⟨some 8, (.move (.t 18)), none⟩]))))))) (.seq (.region [⟨some 4, (.move (.c (.int .i64 (-1)))), none⟩]) .ret)))⟩
theorem prep237 : prepF Tryz.prog Tryz.f237 = some fd237 := by kernel_rfl
/-- slices.IndexFunc[[]understudy/api.Have,understudy/api.Have] -/
def fd238 : FD := ⟨19, [(.tmp 4)], (.seq (.region [⟨some 4, (.move (.c (.int .i64 0))), none⟩]) (.seq (.seq (.region [⟨some 6, (.move (.t 0)), none⟩, ⟨some 7, (.len 1 (.t 6)), none⟩, ⟨some 8, (.move (.c (.int .i64 0))), none⟩]) (.block 0 (.loop (.seq (.region [⟨some 9, (.bin .lss .no (.t 8) (.t 7)), none⟩]) (.seq (.cond (.t 9) .skip (.exit 0)) (.seq (.block 1 (.seq (.region [⟨some 10, (.move (.t 8)), none⟩, ⟨some 5, (.move (.t 10)), none⟩]) (.seq (.region [⟨some 11, (.move (.t 1)), none⟩, ⟨some 12, (.move (.t 0)), none⟩, ⟨some 13, (.move (.t 5)), none⟩, ⟨some 14, (.idxSl 3 (.t 12) (.t 13)), none⟩, ⟨some 15, (.loadN 3 (.t 14)), none⟩, ⟨some 16, (.call (.t 11) [(.t 15)]), none⟩]) (.cond (.t 16) (.seq (.region [⟨some 17, (.move (.t 5)), none⟩, ⟨some 4, (.move (.t 17)), none⟩]) .ret) .skip)))) (.region [⟨some 18, (.bin .add .no (.t 8) (.c (.int .i64 1))), none⟩, ⟨some 8, (.move (.t 18)), none⟩]))))))) (.seq (.region [⟨some 4, (.move (.c (.int .i64 (-1)))), none⟩]) .ret)))⟩
theorem prep238 : prepF Tryz.prog Tryz.f238 = some fd238 := by kernel_rfl
/-- math/bits.Len64 -/
def fd239 : FD := ⟨25, [(.tmp 2)], (.seq (.region [⟨some 2, (.move (.c (.int .i64 0))), none⟩]) (.seq (.seq (.region [⟨some 3, (.move (.t 0)), none⟩, ⟨some 4, (.bin .geq .no (.t 3) (.c (.int .u64 4294967296))), none⟩]) (.cond (.t 4) (.seq (.region [⟨some 5, (.move (.t 0)), none⟩, ⟨some 6, (.bin .shr .no (.t 5) (.c (.int .u64 32))), none⟩, ⟨some 0, (.move (.t 6)), none⟩]) (.region [⟨some 2, (.move (.c (.int .i64 32))), none⟩])) .skip)) (.seq (.seq (.region [⟨some 7, (.move (.t 0)), none⟩, ⟨some 8, (.bin .geq .no (.t 7) (.c (.int .u64 65536))), none⟩]) (.cond (.t 8) (.seq (.region [⟨some 9, (.move (.t 0)), none⟩, ⟨some 10, (.bin .shr .no (.t 9) (.c (.int .u64 16))), none⟩, ⟨some 0, (.move (.t 10)), none⟩]) (.region [⟨some 11, (.move (.t 2)), none⟩, ⟨some 12, (.bin .add .no (.t 11) (.c (.int .i64 16))), none⟩, ⟨some 2, (.move (.t 12)), none⟩])) .skip)) (.seq (.seq (.region [⟨some 13, (.move (.t 0)), none⟩, ⟨some 14, (.bin .geq .no (.t 13) (.c (.int .u64 256))), none⟩]) (.cond (.t 14) (.seq (.region [⟨some 15, (.move (.t 0)), none⟩, ⟨some 16, (.bin .shr .no (.t 15) (.c (.int .u64 8))), none⟩, ⟨some 0, (.move (.t 16)), none⟩]) (.region [⟨some 17, (.move (.t 2)), none⟩, ⟨some 18, (.bin .add .no (.t 17) (.c (.int .i64 8))), none⟩, ⟨some 2, (.move (.t 18)), none⟩])) .skip)) (.seq (.region [⟨some 19, (.move (.t 2)), none⟩, ⟨some 20, (.move (.t 0)), none⟩, ⟨some 21, (.convInt .u8 (.t 20)), none⟩, ⟨some 22, (.idxStr (.c (.str ⟨#[0, 1, 2, 2, 3, 3, 3, 3, 4, 4, 4, 4, 4, 4, 4, 4, 5, 5, 5, 5, 5, 5, 5, 5, 5, 5, 5, 5, 5, 5, 5, 5, 6, 6, 6, 6, 6, 6, 6, 6, 6, 6, 6, 6, 6, 6, 6, 6, 6, 6, 6, 6, 6, 6, 6, 6, 6, 6, 6, 6, 6, 6, 6, 6, 7, 7, 7, 7, 7, 7, 7, 7, 7, 7, 7, 7, 7, 7, 7, 7, 7, 7, 7, 7, 7, 7, 7, 7, 7, 7, 7, 7, 7, 7, 7, 7, 7, 7, 7, 7, 7, 7, 7, 7, 7, 7, 7, 7, 7, 7, 7, 7, 7, 7, 7, 7, 7, 7, 7, 7, 7, 7, 7, 7, 7, 7, 7, 7, 8, 8, 8, 8, 8, 8, 8, 8, 8, 8, 8, 8, 8, 8, 8, 8, 8, 8, 8, 8, 8, 8, 8, 8, 8, 8, 8, 8, 8, 8, 8, 8, 8, 8, 8, 8, 8, 8, 8, 8, 8, 8, 8, 8, 8, 8, 8, 8, 8, 8, 8, 8, 8, 8, 8, 8, 8, 8, 8, 8, 8, 8, 8, 8, 8, 8, 8, 8, 8, 8, 8, 8, 8, 8, 8, 8, 8, 8, 8, 8, 8, 8, 8, 8, 8, 8, 8, 8, 8, 8, 8, 8, 8, 8, 8, 8, 8, 8, 8, 8, 8, 8, 8, 8, 8, 8, 8, 8, 8, 8, 8, 8, 8, 8, 8, 8, 8, 8, 8, 8, 8, 8, 8, 8, 8, 8, 8, 8]⟩)) (.t 21)), none⟩, ⟨some 23, (.convInt .i64 (.t 22)), none⟩, ⟨some 24, (.bin .add .no (.t 19) (.t 23)), none⟩, ⟨some 2, (.move (.t 24)), none⟩]) .ret)))))⟩
theorem prep239 : prepF Tryz.prog Tryz.f239 = some fd239 := by kernel_rfl
/-- slices.Grow[[]byte,byte] -/
def fd240 : FD := ⟨27, [(.tmp 4)], (.seq (.region [⟨some 4, (.move (.c .nilSlice)), none⟩]) (.seq (.seq (.region [⟨some 5, (.move (.t 1)), none⟩, ⟨some 6, (.bin .lss .no (.t 5) (.c (.int .i64 0))), none⟩]) (.cond (.t 6) (.region [⟨some 7, (.mkIface 9 (.c (.str ⟨#[99, 97, 110, 110, 111, 116, 32, 98, 101, 32, 110, 101, 103, 97, 116, 105, 118, 101]⟩))), none⟩, ⟨none, .fail, none⟩]) .skip)) (.seq (.seq (.region [⟨some 8, (.move (.t 1)), none⟩, ⟨some 9, (.move (.t 0)), none⟩, ⟨some 10, (.cap (.t 9)), none⟩, ⟨some 11, (.move (.t 0)), none⟩, ⟨some 12, (.len 1 (.t 11)), none⟩, ⟨some 13, (.bin .sub .no (.t 10) (.t 12)), none⟩, ⟨some 14, (.bin .sub .no (.t 8) (.t 13)), none⟩, ⟨some 1, (.move (.t 14)), none⟩]) (.seq (.region [⟨some 15, (.move (.t 1)), none⟩, ⟨some 16, (.bin .gtr .no (.t 15) (.c (.int .i64 0))), none⟩]) (.cond (.t 16) (.region [⟨some 17, (.move (.t 0)), none⟩, ⟨some 18, (.move (.t 0)), none⟩, ⟨some 19, (.cap (.t 18)), none⟩, ⟨some 20, (.sliceSl 1 (.t 17) none (some (.t 19)) none), none⟩, ⟨some 21, (.move (.t 1)), none⟩, ⟨some 22, (.appendN 1 1 [(.int .u8 0)] (.t 20) (.t 21)), none⟩, ⟨some 23, (.move (.t 0)), none⟩, ⟨some 24, (.len 1 (.t 23)), none⟩, ⟨some 25, (.sliceSl 1 (.t 22) none (some (.t 24)) none), none⟩, ⟨some 0, (.move (.t 25)), none⟩]) .skip))) (.seq (.region [⟨some 26, (.move (.t 0)), none⟩, ⟨some 4, (.move (.t 26)), none⟩]) .ret))))⟩
theorem prep240 : prepF Tryz.prog Tryz.f240 = some fd240 := by kernel_rfl
/-- (*understudy/pool.Pool).held -/
def fd241 : FD := ⟨22, [(.tmp 4)], (.seq (.region [⟨some 4, (.move (.c (.bool false))), none⟩]) (.seq (.region [⟨some 5, (.move (.t 0)), none⟩, ⟨some 6, (.move (.t 1)), none⟩, ⟨some 7, (.call (.c (.fn (.func 211) [] [])) [(.t 5), (.t 6)]), none⟩, ⟨some 8, (.move (.t 7)), none⟩, ⟨some 9, (.move (.t 0)), some (8, true)⟩, ⟨some 10, (.move (.t 1)), some (8, true)⟩, ⟨some 11, (.nilCheck (.t 9)), some (8, true)⟩, ⟨some 12, (.fieldAddr 1 (.t 11)), some (8, true)⟩, ⟨some 13, (.idxArr 240 1 (.t 12) (.t 10)), some (8, true)⟩, ⟨some 14, (.load1 (.t 13)), some (8, true)⟩, ⟨some 15, (.bin .gtr .no (.t 14) (.c (.int .u8 0))), some (8, true)⟩, ⟨some 16, (.move (.t 15)), some (8, true)⟩, ⟨some 17, (.move (.t 0)), some (16, false)⟩, ⟨some 18, (.move (.t 1)), some (16, false)⟩, ⟨some 19, (.call (.c (.fn (.func 243) [] [])) [(.t 17), (.t 18)]), some (16, false)⟩, ⟨some 20, (.pick (.t 16) (.c (.bool true)) (.t 19)), some (8, true)⟩, ⟨some 21, (.pick (.t 8) (.t 20) (.c (.bool false))), none⟩, ⟨some 4, (.move (.t 21)), none⟩]) .ret))⟩
theorem prep241 : prepF Tryz.prog Tryz.f241 = some fd241 := by kernel_rfl
/-- cmp.isNaN[int] -/
def fd242 : FD := ⟨6, [(.tmp 2)], (.seq (.region [⟨some 2, (.move (.c (.bool false))), none⟩]) (.seq (.region [⟨some 3, (.move (.t 0)), none⟩, ⟨some 4, (.move (.t 0)), none⟩, ⟨some 5, (.bin .neq .no (.t 3) (.t 4)), none⟩, ⟨some 2, (.move (.t 5)), none⟩]) .ret))⟩
theorem prep242 : prepF Tryz.prog Tryz.f242 = some fd242 := by kernel_rfl
/-- (*understudy/pool.Pool).Fresh -/
def fd243 : FD := ⟨26, [(.tmp 4)], (.seq (.region [⟨some 4, (.move (.c (.bool false))), none⟩]) (.seq (.region [⟨some 5, (.move (.t 0)), none⟩, ⟨some 6, (.move (.t 1)), none⟩, ⟨some 7, (.call (.c (.fn (.func 211) [] [])) [(.t 5), (.t 6)]), none⟩, ⟨some 8, (.move (.t 7)), none⟩, ⟨some 9, (.move (.t 0)), some (8, true)⟩, ⟨some 10, (.move (.t 1)), some (8, true)⟩, ⟨some 11, (.nilCheck (.t 9)), some (8, true)⟩, ⟨some 12, (.fieldAddr 241 (.t 11)), some (8, true)⟩, ⟨some 13, (.idxArr 240 1 (.t 12) (.t 10)), some (8, true)⟩, ⟨some 14, (.load1 (.t 13)), some (8, true)⟩, ⟨some 15, (.bin .eql .no (.t 14) (.c (.int .u8 1))), some (8, true)⟩, ⟨some 16, (.move (.t 15)), some (8, true)⟩, ⟨some 17, (.move (.t 0)), some (16, false)⟩, ⟨some 18, (.move (.t 1)), some (16, false)⟩, ⟨some 19, (.nilCheck (.t 17)), some (16, false)⟩, ⟨some 20, (.fieldAddr 241 (.t 19)), some (16, false)⟩, ⟨some 21, (.idxArr 240 1 (.t 20) (.t 18)), some (16, false)⟩, ⟨some 22, (.load1 (.t 21)), some (16, false)⟩, ⟨some 23, (.bin .eql .no (.t 22) (.c (.int .u8 2))), some (16, false)⟩, ⟨some 24, (.pick (.t 16) (.c (.bool true)) (.t 23)), some (8, true)⟩, ⟨some 25, (.pick (.t 8) (.t 24) (.c (.bool false))), none⟩, ⟨some 4, (.move (.t 25)), none⟩]) .ret))⟩
theorem prep243 : prepF Tryz.prog Tryz.f243 = some fd243 := by kernel_rfl
/-- understudy/leaf.read -/
def fd244 : FD := ⟨36, [(.cellN 18 2)], (.seq (.region [⟨some 2, (.alloc [(.int .i64 0), (.int .u8 0), (.int .u8 0), (.int .u8 0), (.int .u8 0), (.int .u8 0), (.int .u8 0), (.int .u8 0), (.int .u8 0), (.int .u8 0), (.int .u8 0), (.int .u8 0), (.int .u8 0), (.int .u8 0), (.int .u8 0), (.int .u8 0), (.int .u8 0), .nilSlice]), none⟩]) (.seq (.region [⟨some 4, (.move (.t 0)), none⟩, ⟨some 5, (.call (.c (.fn (.func 114) [] [])) [(.t 4), (.c (.int .i64 1))]), none⟩, ⟨some 6, (.convInt .i64 (.t 5)), none⟩, ⟨some 7, (.build [(.int .i64 0), (.int .u8 0), (.int .u8 0), (.int .u8 0), (.int .u8 0), (.int .u8 0), (.int .u8 0), (.int .u8 0), (.int .u8 0), (.int .u8 0), (.int .u8 0), (.int .u8 0), (.int .u8 0), (.int .u8 0), (.int .u8 0), (.int .u8 0), (.int .u8 0), .nilSlice] [(0, 1, (.t 6))]), none⟩, ⟨some 3, (.alloc [(.int .i64 0), (.int .u8 0), (.int .u8 0), (.int .u8 0), (.int .u8 0), (.int .u8 0), (.int .u8 0), (.int .u8 0), (.int .u8 0), (.int .u8 0), (.int .u8 0), (.int .u8 0), (.int .u8 0), (.int .u8 0), (.int .u8 0), (.int .u8 0), (.int .u8 0), .nilSlice]), none⟩, ⟨none, (.store 18 (.t 3) (.t 7)), none⟩]) (.seq (.seq (.region [⟨some 8, (.fieldAddr 0 (.t 3)), none⟩, ⟨some 9, (.load1 (.t 8)), none⟩, ⟨some 10, (.bin .eql .no (.t 9) (.c (.int .i64 1))), none⟩]) (.cond (.t 10) (.seq (.drawn [⟨some 11, (.fieldAddr 1 (.t 3)), none⟩, ⟨some 12, (.sliceArr 16 1 (.t 11) none none none), none⟩, ⟨some 13, (.move (.t 0)), none⟩, ⟨some 14, (.call (.c (.fn (.func 181) [] [])) [(.t 13), (.c (.int .i64 16))]), none⟩, ⟨some 15, (.copy 1 (.t 12) (.t 14)), none⟩] []) (.seq (.region [⟨some 16, (.loadN 18 (.t 3)), none⟩, ⟨none, (.store 18 (.t 2) (.t 16)), none⟩]) .ret)) .skip)) (.seq (.seq (.region [⟨some 17, (.move (.t 0)), none⟩, ⟨some 18, (.call (.c (.fn (.func 114) [] [])) [(.t 17), (.c (.int .i64 1))]), none⟩, ⟨some 19, (.minmax false [(.t 18), (.c (.int .u64 6))]), none⟩, ⟨some 20, (.move (.c (.int .u64 0))), none⟩]) (.block 0 (.loop (.seq (.region [⟨some 21, (.bin .lss .no (.t 20) (.t 19)), none⟩]) (.seq (.cond (.t 21) .skip (.exit 0)) (.seq (.block 1 (.drawn [⟨some 22, (.fieldAddr 17 (.t 3)), none⟩, ⟨some 23, (.load1 (.t 22)), none⟩, ⟨some 24, (.move (.t 0)), none⟩, ⟨some 25, (.call (.c (.fn (.func 114) [] [])) [(.t 24), (.c (.int .i64 1))]), none⟩, ⟨some 26, (.convInt .i64 (.t 25)), none⟩, ⟨some 27, (.move (.t 0)), none⟩, ⟨some 28, (.call (.c (.fn (.func 114) [] [])) [(.t 27), (.c (.int .i64 1))]), none⟩, ⟨some 29, (.convInt .i64 (.t 28)), none⟩, ⟨some 30, (.build [(.int .i64 0), (.int .i64 0)] [(0, 1, (.t 26)), (1, 1, (.t 29))]), none⟩, ⟨some 31, (.buildSlice [(.int .i64 0), (.int .i64 0)] 1 [(0, 2, (.t 30))] 2), none⟩, ⟨some 32, (.append 2 16 [(.int .i64 0), (.int .i64 0)] (.t 23) (.t 31)), none⟩, ⟨some 33, (.fieldAddr 17 (.t 3)), none⟩, ⟨none, (.store 1 (.t 33) (.t 32)), none⟩] [⟨1, [3, 6, 9, 10]⟩])) (.region [⟨some 34, (.bin .add .no (.t 20) (.c (.int .u64 1))), none⟩, ⟨some 20, (.move (.t 34)), none⟩]))))))) (.seq (.region [⟨some 35, (.loadN 18 (.t 3)), none⟩, ⟨none, (.store 18 (.t 2) (.t 35)), none⟩]) .ret)))))⟩
theorem prep244 : prepF Tryz.prog Tryz.f244 = some fd244 := by kernel_rfl
/-- (*understudy/disk.Disk).there -/
def fd245 : FD := ⟨16, [(.tmp 4)], (.seq (.region [⟨some 4, (.move (.c (.bool false))), none⟩]) (.seq (.region [⟨some 5, (.move (.t 1)), none⟩, ⟨some 6, (.bin .geq .no (.t 5) (.c (.int .i64 0))), none⟩, ⟨some 7, (.move (.t 6)), none⟩, ⟨some 8, (.move (.t 1)), some (7, true)⟩, ⟨some 9, (.move (.t 0)), some (7, true)⟩, ⟨some 10, (.nilCheck (.t 9)), some (7, true)⟩, ⟨some 11, (.fieldAddr 0 (.t 10)), some (7, true)⟩, ⟨some 12, (.load1 (.t 11)), some (7, true)⟩, ⟨some 13, (.len 1 (.t 12)), some (7, true)⟩, ⟨some 14, (.bin .lss .no (.t 8) (.t 13)), some (7, true)⟩, ⟨some 15, (.pick (.t 7) (.t 14) (.c (.bool false))), none⟩, ⟨some 4, (.move (.t 15)), none⟩]) .ret))⟩
theorem prep245 : prepF Tryz.prog Tryz.f245 = some fd245 := by kernel_rfl
/-- slices.IndexFunc[[]int,int] -/
def fd246 : FD := ⟨19, [(.tmp 4)], (.seq (.region [⟨some 4, (.move (.c (.int .i64 0))), none⟩]) (.seq (.seq (.region [⟨some 6, (.move (.t 0)), none⟩, ⟨some 7, (.len 1 (.t 6)), none⟩, ⟨some 8, (.move (.c (.int .i64 0))), none⟩]) (.block 0 (.loop (.seq (.region [⟨some 9, (.bin .lss .no (.t 8) (.t 7)), none⟩]) (.seq (.cond (.t 9) .skip (.exit 0)) (.seq (.block 1 (.seq (.region [⟨some 10, (.move (.t 8)), none⟩, ⟨some 5, (.move (.t 10)), none⟩]) (.seq (.region [⟨some 11, (.move (.t 1)), none⟩, ⟨some 12, (.move (.t 0)), none⟩, ⟨some 13, (.move (.t 5)), none⟩, ⟨some 14, (.idxSl 1 (.t 12) (.t 13)), none⟩, ⟨some 15, (.load1 (.t 14)), none⟩, ⟨some 16, (.call (.t 11) [(.t 15)]), none⟩]) (.cond (.t 16) (.seq (.region [⟨some 17, (.move (.t 5)), none⟩, ⟨some 4, (.move (.t 17)), none⟩]) .ret) .skip)))) (.region [⟨some 18, (.bin .add .no (.t 8) (.c (.int .i64 1))), none⟩, ⟨some 8, (.move (.t 18)), none⟩]))))))) (.seq (.region [⟨some 4, (.move (.c (.int .i64 (-1)))), none⟩]) .ret)))⟩
theorem prep246 : prepF Tryz.prog Tryz.f246 = some fd246 := by kernel_rfl
/-- slices.Collect[int] -/
def fd247 : FD := ⟨5, [(.tmp 2)], (.seq (.region [⟨some 2, (.move (.c .nilSlice)), none⟩]) (.seq (.region [⟨some 3, (.move (.t 0)), none⟩, ⟨some 4, (.call (.c (.fn (.func 268) [] [])) [(.c .nilSlice), (.t 3)]), none⟩, ⟨some 2, (.move (.t 4)), none⟩]) .ret))⟩
theorem prep247 : prepF Tryz.prog Tryz.f247 = some fd247 := by kernel_rfl
/-- slices.Sort[[]int,int] -/
def fd248 : FD := ⟨11, [], (.seq (.region [⟨some 3, (.move (.t 0)), none⟩, ⟨some 4, (.len 1 (.t 3)), none⟩, ⟨some 2, (.move (.t 4)), none⟩]) (.region [⟨some 5, (.move (.t 0)), none⟩, ⟨some 6, (.move (.t 2)), none⟩, ⟨some 7, (.move (.t 2)), none⟩, ⟨some 8, (.convInt .u64 (.t 7)), none⟩, ⟨some 9, (.call (.c (.fn (.func 262) [] [])) [(.t 8)]), none⟩, ⟨some 10, (.call (.c (.fn (.func 269) [] [])) [(.t 5), (.c (.int .i64 0)), (.t 6), (.t 9)]), none⟩]))⟩
theorem prep248 : prepF Tryz.prog Tryz.f248 = some fd248 := by kernel_rfl
/-- maps.Keys[map[int]int,int,int]$1 -/
def fd249 : FD := ⟨14, [], (.seq (.region [⟨some 4, (.load1 (.t 1)), none⟩, ⟨some 5, (.range (.t 4)), none⟩]) (.block 0 (.loop (.seq (.region [⟨some 6, (.next (.t 5)), none⟩, ⟨some 7, (.extract (.t 6) 0), none⟩]) (.seq (.cond (.t 7) .skip (.exit 0)) (.block 1 (.seq (.region [⟨some 8, (.entry (.t 5)), none⟩, ⟨some 9, (.extract (.t 8) 0), none⟩, ⟨some 3, (.move (.t 9)), none⟩]) (.seq (.region [⟨some 10, (.move (.t 0)), none⟩, ⟨some 11, (.move (.t 3)), none⟩, ⟨some 12, (.call (.t 10) [(.t 11)]), none⟩, ⟨some 13, (.un .not (.t 12)), none⟩]) (.cond (.t 13) .ret .skip)))))))))⟩
theorem prep249 : prepF Tryz.prog Tryz.f249 = some fd249 := by kernel_rfl
/-- understudy/leaf.Right -/
def fd250 : FD := ⟨29, [(.tmp 2)], (.seq (.region [⟨some 1, (.box (.t 0)), none⟩, ⟨some 2, (.move (.c (.bool false))), none⟩]) (.seq (.seq (.region [⟨some 3, (.fieldAddr 0 (.t 1)), none⟩, ⟨some 4, (.load1 (.t 3)), none⟩]) (.block 0 (.seq (.region [⟨some 6, (.bin .eql .no (.t 4) (.c (.int .i64 1))), none⟩, ⟨some 5, (.move (.t 6)), none⟩]) (.cond (.t 5) (.seq (.region [⟨some 7, (.fieldAddr 17 (.t 1)), none⟩, ⟨some 8, (.load1 (.t 7)), none⟩, ⟨some 9, (.len 1 (.t 8)), none⟩, ⟨some 10, (.bin .eql .no (.t 9) (.c (.int .i64 0))), none⟩, ⟨some 2, (.move (.t 10)), none⟩]) .ret) (.seq (.seq (.region [⟨some 12, (.bin .eql .no (.t 4) (.c (.int .i64 2))), none⟩, ⟨some 11, (.move (.t 12)), none⟩]) (.cond (.t 11) .skip (.region [⟨some 13, (.bin .eql .no (.t 4) (.c (.int .i64 3))), none⟩, ⟨some 11, (.move (.t 13)), none⟩]))) (.cond (.t 11) (.seq (.region [⟨some 14, (.fieldAddr 1 (.t 1)), none⟩, ⟨some 15, (.loadN 16 (.t 14)), none⟩, ⟨some 16, (.build [(.int .u8 0), (.int .u8 0), (.int .u8 0), (.int .u8 0), (.int .u8 0), (.int .u8 0), (.int .u8 0), (.int .u8 0), (.int .u8 0), (.int .u8 0), (.int .u8 0), (.int .u8 0), (.int .u8 0), (.int .u8 0), (.int .u8 0), (.int .u8 0)] []), none⟩, ⟨some 17, (.bin .eql (.cells [1, 1, 1, 1, 1, 1, 1, 1, 1, 1, 1, 1, 1, 1, 1, 1]) (.t 15) (.t 16)), none⟩, ⟨some 18, (.move (.t 17)), none⟩, ⟨some 19, (.fieldAddr 17 (.t 1)), some (18, true)⟩, ⟨some 20, (.load1 (.t 19)), some (18, true)⟩, ⟨some 21, (.len 1 (.t 20)), some (18, true)⟩, ⟨some 22, (.bin .leq .no (.t 21) (.c (.int .i64 6))), some (18, true)⟩, ⟨some 23, (.pick (.t 18) (.t 22) (.c (.bool false))), none⟩, ⟨some 24, (.move (.t 23)), none⟩, ⟨some 25, (.fieldAddr 17 (.t 1)), some (24, true)⟩, ⟨some 26, (.load1 (.t 25)), some (24, true)⟩, ⟨some 27, (.call (.c (.fn (.func 270) [] [])) [(.t 26)]), some (24, true)⟩, ⟨some 28, (.pick (.t 24) (.t 27) (.c (.bool false))), none⟩, ⟨some 2, (.move (.t 28)), none⟩]) .ret) .skip)))))) (.seq (.region [⟨some 2, (.move (.c (.bool false))), none⟩]) .ret)))⟩
theorem prep250 : prepF Tryz.prog Tryz.f250 = some fd250 := by kernel_rfl
/-- understudy/leaf.bytes -/
def fd251 : FD := ⟨42, [(.tmp 2)], (.seq (.region [⟨some 1, (.box (.t 0)), none⟩, ⟨some 2, (.move (.c .nilSlice)), none⟩]) (.seq (.seq (.region [⟨some 6, (.fieldAddr 0 (.t 1)), none⟩, ⟨some 7, (.load1 (.t 6)), none⟩, ⟨some 8, (.bin .eql .no (.t 7) (.c (.int .i64 1))), none⟩]) (.cond (.t 8) (.seq (.drawn [⟨some 9, (.fieldAddr 0 (.t 1)), none⟩, ⟨some 10, (.load1 (.t 9)), none⟩, ⟨some 11, (.convInt .u8 (.t 10)), none⟩, ⟨some 12, (.buildSlice [(.int .u8 0)] 1 [(0, 1, (.t 11))] 1), none⟩, ⟨some 13, (.fieldAddr 1 (.t 1)), none⟩, ⟨some 14, (.sliceArr 16 1 (.t 13) none none none), none⟩, ⟨some 15, (.append 1 1 [(.int .u8 0)] (.t 12) (.t 14)), none⟩, ⟨some 2, (.move (.t 15)), none⟩] []) .ret) .skip)) (.seq (.region [⟨some 16, (.fieldAddr 0 (.t 1)), none⟩, ⟨some 17, (.load1 (.t 16)), none⟩, ⟨some 18, (.convInt .u8 (.t 17)), none⟩, ⟨some 19, (.fieldAddr 17 (.t 1)), none⟩, ⟨some 20, (.load1 (.t 19)), none⟩, ⟨some 21, (.len 1 (.t 20)), none⟩, ⟨some 22, (.convInt .u8 (.t 21)), none⟩, ⟨some 23, (.buildSlice [(.int .u8 0), (.int .u8 0)] 2 [(0, 1, (.t 18)), (1, 1, (.t 22))] 1), none⟩, ⟨some 3, (.move (.t 23)), none⟩]) (.seq (.seq (.region [⟨some 24, (.fieldAddr 17 (.t 1)), none⟩, ⟨some 25, (.load1 (.t 24)), none⟩, ⟨some 26, (.len 1 (.t 25)), none⟩, ⟨some 27, (.move (.c (.int .i64 0))), none⟩]) (.block 0 (.loop (.seq (.region [⟨some 28, (.bin .lss .no (.t 27) (.t 26)), none⟩]) (.seq (.cond (.t 28) .skip (.exit 0)) (.seq (.block 1 (.seq (.region [⟨some 29, (.idxSl 2 (.t 25) (.t 27)), none⟩, ⟨some 30, (.loadN 2 (.t 29)), none⟩, ⟨some 5, (.alloc [(.int .i64 0), (.int .i64 0)]), none⟩, ⟨none, (.store 2 (.t 5) (.t 30)), none⟩]) (.region [⟨some 31, (.move (.t 3)), none⟩, ⟨some 32, (.fieldAddr 0 (.t 5)), none⟩, ⟨some 33, (.load1 (.t 32)), none⟩, ⟨some 34, (.convInt .u8 (.t 33)), none⟩, ⟨some 35, (.fieldAddr 1 (.t 5)), none⟩, ⟨some 36, (.load1 (.t 35)), none⟩, ⟨some 37, (.convInt .u8 (.t 36)), none⟩, ⟨some 38, (.buildSlice [(.int .u8 0), (.int .u8 0)] 2 [(0, 1, (.t 34)), (1, 1, (.t 37))] 1), none⟩, ⟨some 39, (.append 1 1 [(.int .u8 0)] (.t 31) (.t 38)), none⟩, ⟨some 3, (.move (.t 39)), none⟩]))) (.region [⟨some 40, (.bin .add .no (.t 27) (.c (.int .i64 1))), none⟩, ⟨some 27, (.move (.t 40)), none⟩]))))))) (.seq (.region [⟨some 41, (.move (.t 3)), none⟩, ⟨some 2, (.move (.t 41)), none⟩]) .ret)))))⟩
theorem prep251 : prepF Tryz.prog Tryz.f251 = some fd251 := by kernel_rfl
/-- (understudy/tree.Tree).Put -/
def fd252 : FD := ⟨46, [(.tmp 8), (.tmp 9)], (.seq (.region [⟨some 4, (.box (.t 0)), none⟩, ⟨some 8, (.move (.c (.int .i64 0))), none⟩, ⟨some 9, (.move (.c (.int .i64 0))), none⟩]) (.seq (.seq (.region [⟨some 13, (.move (.t 2)), none⟩, ⟨some 14, (.bin .lss .no (.t 13) (.c (.int .i64 0))), none⟩, ⟨some 15, (.move (.t 14)), none⟩, ⟨some 16, (.move (.t 2)), some (15, false)⟩, ⟨some 17, (.bin .geq .no (.t 16) (.c (.int .i64 64))), some (15, false)⟩, ⟨some 18, (.pick (.t 15) (.c (.bool true)) (.t 17)), none⟩]) (.cond (.t 18) (.seq (.region [⟨some 8, (.move (.c (.int .i64 (-1)))), none⟩, ⟨some 9, (.move (.c (.int .i64 101))), none⟩]) .ret) .skip)) (.seq (.region [⟨some 19, (.move (.t 2)), none⟩, ⟨some 20, (.move (.t 3)), none⟩, ⟨some 21, (.build [(.int .i64 0), (.int .i64 0)] [(0, 1, (.t 19)), (1, 1, (.t 20))]), none⟩, ⟨some 10, (.alloc [(.int .i64 0), (.int .i64 0)]), none⟩, ⟨none, (.store 2 (.t 10) (.t 21)), none⟩]) (.seq (.seq (.region [⟨some 22, (.move (.t 1)), none⟩, ⟨some 23, (.bin .eql .no (.t 22) (.c (.int .i64 (-1)))), none⟩]) (.cond (.t 23) (.seq (.region [⟨some 24, (.loadN 1 (.t 4)), none⟩, ⟨some 25, (.loadN 2 (.t 10)), none⟩, ⟨some 26, (.buildSlice [(.int .i64 0), (.int .i64 0)] 1 [(0, 2, (.t 25))] 2), none⟩, ⟨some 27, (.build [(.int .i64 0), (.int .u8 0), (.int .u8 0), (.int .u8 0), (.int .u8 0), (.int .u8 0), (.int .u8 0), (.int .u8 0), (.int .u8 0), (.int .u8 0), (.int .u8 0), (.int .u8 0), (.int .u8 0), (.int .u8 0), (.int .u8 0), (.int .u8 0), (.int .u8 0), .nilSlice] [(0, 1, (.c (.int .i64 2))), (17, 1, (.t 26))]), none⟩, ⟨some 28, (.call (.c (.fn (.func 271) [] [])) [(.t 24), (.t 27)]), none⟩, ⟨some 29, (.extract (.t 28) 0), none⟩, ⟨some 30, (.extract (.t 28) 1), none⟩, ⟨some 8, (.move (.t 29)), none⟩, ⟨some 9, (.move (.t 30)), none⟩]) .ret) .skip)) (.seq (.region [⟨some 32, (.loadN 1 (.t 4)), none⟩, ⟨some 33, (.move (.t 1)), none⟩, ⟨some 34, (.loadN 2 (.t 10)), none⟩, ⟨some 35, (.call (.c (.fn (.func 272) [] [])) [(.t 32), (.t 33), (.c (.int .i64 0)), (.t 34)]), none⟩, ⟨some 31, (.move (.t 35)), none⟩, ⟨some 36, (.extract (.t 31) 0), none⟩, ⟨some 37, (.extract (.t 31) 1), none⟩, ⟨some 11, (.alloc [(.int .i64 0), (.int .u8 0), (.int .u8 0), (.int .u8 0), (.int .u8 0), (.int .u8 0), (.int .u8 0), (.int .u8 0), (.int .u8 0), (.int .u8 0), (.int .u8 0), (.int .u8 0), (.int .u8 0), (.int .u8 0), (.int .u8 0), (.int .u8 0), (.int .u8 0), .nilSlice]), none⟩, ⟨none, (.store 18 (.t 11) (.t 36)), none⟩, ⟨some 12, (.move (.t 37)), none⟩]) (.seq (.seq (.region [⟨some 38, (.move (.t 12)), none⟩, ⟨some 39, (.bin .neq .no (.t 38) (.c (.int .i64 0))), none⟩]) (.cond (.t 39) (.seq (.region [⟨some 40, (.move (.t 12)), none⟩, ⟨some 8, (.move (.c (.int .i64 (-1)))), none⟩, ⟨some 9, (.move (.t 40)), none⟩]) .ret) .skip)) (.seq (.region [⟨some 41, (.loadN 1 (.t 4)), none⟩, ⟨some 42, (.loadN 18 (.t 11)), none⟩, ⟨some 43, (.call (.c (.fn (.func 271) [] [])) [(.t 41), (.t 42)]), none⟩, ⟨some 44, (.extract (.t 43) 0), none⟩, ⟨some 45, (.extract (.t 43) 1), none⟩, ⟨some 8, (.move (.t 44)), none⟩, ⟨some 9, (.move (.t 45)), none⟩]) .ret)))))))⟩
theorem prep252 : prepF Tryz.prog Tryz.f252 = some fd252 := by kernel_rfl
/-- (understudy/tree.Tree).Split -/
def fd254 : FD := ⟨69, [(.tmp 4), (.tmp 5)], (.seq (.region [⟨some 2, (.box (.t 0)), none⟩, ⟨some 3, (.box (.t 1)), none⟩, ⟨some 4, (.move (.c .nilSlice)), none⟩, ⟨some 5, (.move (.c (.int .i64 0))), none⟩]) (.seq (.region [⟨some 13, (.fieldAddr 17 (.t 3)), none⟩, ⟨some 14, (.load1 (.t 13)), none⟩, ⟨some 6, (.move (.t 14)), none⟩]) (.seq (.seq (.region [⟨some 15, (.move (.t 6)), none⟩, ⟨some 16, (.len 1 (.t 15)), none⟩, ⟨some 17, (.bin .gtr .no (.t 16) (.c (.int .i64 12))), none⟩]) (.cond (.t 17) (.seq (.region [⟨some 4, (.move (.c .nilSlice)), none⟩, ⟨some 5, (.move (.c (.int .i64 81))), none⟩]) .ret) .skip)) (.seq (.region [⟨some 18, (.move (.t 6)), none⟩, ⟨some 19, (.buildSlice [.nilSlice] 1 [(0, 1, (.t 18))] 1), none⟩, ⟨some 7, (.move (.t 19)), none⟩]) (.seq (.block 0 (.seq (.region [⟨some 21, (.move (.t 6)), none⟩, ⟨some 22, (.len 1 (.t 21)), none⟩, ⟨some 23, (.bin .eql .no (.t 22) (.c (.int .i64 0))), none⟩, ⟨some 20, (.move (.t 23)), none⟩]) (.cond (.t 20) (.seq (.region [⟨some 4, (.move (.c .nilSlice)), none⟩, ⟨some 5, (.move (.c (.int .i64 0))), none⟩]) .ret) (.seq (.region [⟨some 25, (.move (.t 6)), none⟩, ⟨some 26, (.len 1 (.t 25)), none⟩, ⟨some 27, (.bin .gtr .no (.t 26) (.c (.int .i64 6))), none⟩, ⟨some 24, (.move (.t 27)), none⟩]) (.cond (.t 24) (.drawn [⟨some 28, (.move (.t 6)), none⟩, ⟨some 29, (.move (.t 6)), none⟩, ⟨some 30, (.len 1 (.t 29)), none⟩, ⟨some 31, (.bin .quo .no (.t 30) (.c (.int .i64 2))), none⟩, ⟨some 32, (.sliceSl 2 (.t 28) none (some (.t 31)) none), none⟩, ⟨some 33, (.move (.t 6)), none⟩, ⟨some 34, (.move (.t 6)), none⟩, ⟨some 35, (.len 1 (.t 34)), none⟩, ⟨some 36, (.bin .quo .no (.t 35) (.c (.int .i64 2))), none⟩, ⟨some 37, (.sliceSl 2 (.t 33) (some (.t 36)) none none), none⟩, ⟨some 38, (.buildSlice [.nilSlice, .nilSlice] 2 [(0, 1, (.t 32)), (1, 1, (.t 37))] 1), none⟩, ⟨some 7, (.move (.t 38)), none⟩] []) .skip))))) (.seq (.region [⟨some 8, (.move (.c .nilSlice)), none⟩]) (.seq (.seq (.region [⟨some 39, (.move (.t 7)), none⟩, ⟨some 40, (.len 1 (.t 39)), none⟩, ⟨some 41, (.move (.c (.int .i64 0))), none⟩]) (.block 1 (.loop (.seq (.region [⟨some 42, (.bin .lss .no (.t 41) (.t 40)), none⟩]) (.seq (.cond (.t 42) .skip (.exit 1)) (.seq (.block 2 (.seq (.region [⟨some 43, (.idxSl 1 (.t 39) (.t 41)), none⟩, ⟨some 44, (.load1 (.t 43)), none⟩, ⟨some 10, (.move (.t 44)), none⟩]) (.seq (.region [⟨some 46, (.fieldAddr 0 (.t 2)), none⟩, ⟨some 47, (.load1 (.t 46)), none⟩, ⟨some 48, (.fieldAddr 0 (.t 3)), none⟩, ⟨some 49, (.load1 (.t 48)), none⟩, ⟨some 50, (.move (.t 10)), none⟩, ⟨some 51, (.build [(.int .i64 0), (.int .u8 0), (.int .u8 0), (.int .u8 0), (.int .u8 0), (.int .u8 0), (.int .u8 0), (.int .u8 0), (.int .u8 0), (.int .u8 0), (.int .u8 0), (.int .u8 0), (.int .u8 0), (.int .u8 0), (.int .u8 0), (.int .u8 0), (.int .u8 0), .nilSlice] [(0, 1, (.t 49)), (17, 1, (.t 50))]), none⟩, ⟨some 52, (.call (.c (.fn (.func 149) [] [])) [(.t 47), (.t 51)]), none⟩, ⟨some 45, (.move (.t 52)), none⟩, ⟨some 53, (.extract (.t 45) 0), none⟩, ⟨some 54, (.extract (.t 45) 1), none⟩, ⟨some 11, (.move (.t 53)), none⟩, ⟨some 12, (.move (.t 54)), none⟩]) (.seq (.seq (.region [⟨some 55, (.move (.t 12)), none⟩, ⟨some 56, (.bin .neq .no (.t 55) (.c (.int .i64 0))), none⟩]) (.cond (.t 56) (.seq (.region [⟨some 57, (.move (.t 12)), none⟩, ⟨some 4, (.move (.c .nilSlice)), none⟩, ⟨some 5, (.move (.t 57)), none⟩]) .ret) .skip)) (.region [⟨some 58, (.move (.t 8)), none⟩, ⟨some 59, (.move (.t 10)), none⟩, ⟨some 60, (.idxSl 2 (.t 59) (.c (.int .i64 0))), none⟩, ⟨some 61, (.fieldAddr 0 (.t 60)), none⟩, ⟨some 62, (.load1 (.t 61)), none⟩, ⟨some 63, (.move (.t 11)), none⟩, ⟨some 64, (.build [(.int .i64 0), (.int .i64 0)] [(0, 1, (.t 62)), (1, 1, (.t 63))]), none⟩, ⟨some 65, (.buildSlice [(.int .i64 0), (.int .i64 0)] 1 [(0, 2, (.t 64))] 2), none⟩, ⟨some 66, (.append 2 16 [(.int .i64 0), (.int .i64 0)] (.t 58) (.t 65)), none⟩, ⟨some 8, (.move (.t 66)), none⟩]))))) (.region [⟨some 67, (.bin .add .no (.t 41) (.c (.int .i64 1))), none⟩, ⟨some 41, (.move (.t 67)), none⟩]))))))) (.seq (.region [⟨some 68, (.move (.t 8)), none⟩, ⟨some 4, (.move (.t 68)), none⟩, ⟨some 5, (.move (.c (.int .i64 0))), none⟩]) .ret))))))))⟩
theorem prep254 : prepF Tryz.prog Tryz.f254 = some fd254 := by kernel_rfl
/-- math/bits.Len -/
def fd262 : FD := ⟨8, [(.tmp 2)], (.seq (.region [⟨some 2, (.move (.c (.int .i64 0))), none⟩]) (.seq (.cond (.c (.bool false)) (.seq (.region [⟨some 3, (.move (.t 0)), none⟩, ⟨some 4, (.convInt .u32 (.t 3)), none⟩, ⟨some 5, (.call (.c (.fn (.func 294) [] [])) [(.t 4)]), none⟩, ⟨some 2, (.move (.t 5)), none⟩]) .ret) .skip) (.seq (.region [⟨some 6, (.move (.t 0)), none⟩, ⟨some 7, (.call (.c (.fn (.func 239) [] [])) [(.t 6)]), none⟩, ⟨some 2, (.move (.t 7)), none⟩]) .ret)))⟩
theorem prep262 : prepF Tryz.prog Tryz.f262 = some fd262 := by kernel_rfl
/-- math/bits.OnesCount64 -/
def fd266 : FD := ⟨35, [(.tmp 2)], (.seq (.region [⟨some 2, (.move (.c (.int .i64 0))), none⟩]) (.seq (.region [⟨some 3, (.move (.t 0)), none⟩, ⟨some 4, (.bin .shr .no (.t 3) (.c (.int .u64 1))), none⟩, ⟨some 5, (.bin .and .no (.t 4) (.c (.int .u64 6148914691236517205))), none⟩, ⟨some 6, (.move (.t 0)), none⟩, ⟨some 7, (.bin .and .no (.t 6) (.c (.int .u64 6148914691236517205))), none⟩, ⟨some 8, (.bin .add .no (.t 5) (.t 7)), none⟩, ⟨some 0, (.move (.t 8)), none⟩]) (.seq (.region [⟨some 9, (.move (.t 0)), none⟩, ⟨some 10, (.bin .shr .no (.t 9) (.c (.int .u64 2))), none⟩, ⟨some 11, (.bin .and .no (.t 10) (.c (.int .u64 3689348814741910323))), none⟩, ⟨some 12, (.move (.t 0)), none⟩, ⟨some 13, (.bin .and .no (.t 12) (.c (.int .u64 3689348814741910323))), none⟩, ⟨some 14, (.bin .add .no (.t 11) (.t 13)), none⟩, ⟨some 0, (.move (.t 14)), none⟩]) (.seq (.region [⟨some 15, (.move (.t 0)), none⟩, ⟨some 16, (.bin .shr .no (.t 15) (.c (.int .u64 4))), none⟩, ⟨some 17, (.move (.t 0)), none⟩, ⟨some 18, (.bin .add .no (.t 16) (.t 17)), none⟩, ⟨some 19, (.bin .and .no (.t 18) (.c (.int .u64 1085102592571150095))), none⟩, ⟨some 0, (.move (.t 19)), none⟩]) (.seq (.region [⟨some 20, (.move (.t 0)), none⟩, ⟨some 21, (.move (.t 0)), none⟩, ⟨some 22, (.bin .shr .no (.t 21) (.c (.int .u64 8))), none⟩, ⟨some 23, (.bin .add .no (.t 20) (.t 22)), none⟩, ⟨some 0, (.move (.t 23)), none⟩]) (.seq (.region [⟨some 24, (.move (.t 0)), none⟩, ⟨some 25, (.move (.t 0)), none⟩, ⟨some 26, (.bin .shr .no (.t 25) (.c (.int .u64 16))), none⟩, ⟨some 27, (.bin .add .no (.t 24) (.t 26)), none⟩, ⟨some 0, (.move (.t 27)), none⟩]) (.seq (.region [⟨some 28, (.move (.t 0)), none⟩, ⟨some 29, (.move (.t 0)), none⟩, ⟨some 30, (.bin .shr .no (.t 29) (.c (.int .u64 32))), none⟩, ⟨some 31, (.bin .add .no (.t 28) (.t 30)), none⟩, ⟨some 0, (.move (.t 31)), none⟩]) (.seq (.region [⟨some 32, (.move (.t 0)), none⟩, ⟨some 33, (.convInt .i64 (.t 32)), none⟩, ⟨some 34, (.bin .and .no (.t 33) (.c (.int .i64 127))), none⟩, ⟨some 2, (.move (.t 34)), none⟩]) .ret))))))))⟩
theorem prep266 : prepF Tryz.prog Tryz.f266 = some fd266 := by kernel_rfl
/-- slices.Index[[]int,int] -/
def fd267 : FD := ⟨19, [(.tmp 4)], (.seq (.region [⟨some 4, (.move (.c (.int .i64 0))), none⟩]) (.seq (.seq (.region [⟨some 6, (.move (.t 0)), none⟩, ⟨some 7, (.len 1 (.t 6)), none⟩, ⟨some 8, (.move (.c (.int .i64 0))), none⟩]) (.block 0 (.loop (.seq (.region [⟨some 9, (.bin .lss .no (.t 8) (.t 7)), none⟩]) (.seq (.cond (.t 9) .skip (.exit 0)) (.seq (.block 1 (.seq (.region [⟨some 10, (.move (.t 8)), none⟩, ⟨some 5, (.move (.t 10)), none⟩]) (.seq (.region [⟨some 11, (.move (.t 1)), none⟩, ⟨some 12, (.move (.t 0)), none⟩, ⟨some 13, (.move (.t 5)), none⟩, ⟨some 14, (.idxSl 1 (.t 12) (.t 13)), none⟩, ⟨some 15, (.load1 (.t 14)), none⟩, ⟨some 16, (.bin .eql .no (.t 11) (.t 15)), none⟩]) (.cond (.t 16) (.seq (.region [⟨some 17, (.move (.t 5)), none⟩, ⟨some 4, (.move (.t 17)), none⟩]) .ret) .skip)))) (.region [⟨some 18, (.bin .add .no (.t 8) (.c (.int .i64 1))), none⟩, ⟨some 8, (.move (.t 18)), none⟩]))))))) (.seq (.region [⟨some 4, (.move (.c (.int .i64 (-1)))), none⟩]) .ret)))⟩
theorem prep267 : prepF Tryz.prog Tryz.f267 = some fd267 := by kernel_rfl
/-- slices.AppendSeq[[]int,int] -/
def fd268 : FD := ⟨13, [(.tmp 4)], (.seq (.region [⟨some 2, (.box (.t 0)), none⟩, ⟨some 4, (.move (.c .nilSlice)), none⟩]) (.seq (.seq (.region [⟨some 6, (.move (.t 1)), none⟩]) (.block 0 (.rangeF (.t 6) [7] (.region [⟨some 5, (.move (.t 7)), none⟩]) (.block 1 (.region [⟨some 8, (.load1 (.t 2)), none⟩, ⟨some 9, (.move (.t 5)), none⟩, ⟨some 10, (.buildSlice [(.int .i64 0)] 1 [(0, 1, (.t 9))] 1), none⟩, ⟨some 11, (.append 1 8 [(.int .i64 0)] (.t 8) (.t 10)), none⟩, ⟨none, (.store 1 (.t 2) (.t 11)), none⟩]))))) (.seq (.region [⟨some 12, (.load1 (.t 2)), none⟩, ⟨some 4, (.move (.t 12)), none⟩]) .ret)))⟩
theorem prep268 : prepF Tryz.prog Tryz.f268 = some fd268 := by kernel_rfl
/-- slices.pdqsortOrdered[int] -/
def fd269 : FD := ⟨134, [], (.seq (.region [⟨some 8, (.move (.c (.bool true))), none⟩]) (.seq (.region [⟨some 9, (.move (.c (.bool true))), none⟩]) (.block 0 (.loop (.block 1 (.seq (.region [⟨some 19, (.move (.t 2)), none⟩, ⟨some 20, (.move (.t 1)), none⟩, ⟨some 21, (.bin .sub .no (.t 19) (.t 20)), none⟩, ⟨some 10, (.move (.t 21)), none⟩]) (.seq (.seq (.region [⟨some 22, (.move (.t 10)), none⟩, ⟨some 23, (.bin .leq .no (.t 22) (.c (.int .i64 12))), none⟩]) (.cond (.t 23) (.seq (.region [⟨some 24, (.move (.t 0)), none⟩, ⟨some 25, (.move (.t 1)), none⟩, ⟨some 26, (.move (.t 2)), none⟩, ⟨some 27, (.call (.c (.fn (.func 296) [] [])) [(.t 24), (.t 25), (.t 26)]), none⟩]) .ret) .skip)) (.seq (.seq (.region [⟨some 28, (.move (.t 3)), none⟩, ⟨some 29, (.bin .eql .no (.t 28) (.c (.int .i64 0))), none⟩]) (.cond (.t 29) (.seq (.region [⟨some 30, (.move (.t 0)), none⟩, ⟨some 31, (.move (.t 1)), none⟩, ⟨some 32, (.move (.t 2)), none⟩, ⟨some 33, (.call (.c (.fn (.func 297) [] [])) [(.t 30), (.t 31), (.t 32)]), none⟩]) .ret) .skip)) (.seq (.seq (.region [⟨some 34, (.move (.t 8)), none⟩, ⟨some 35, (.un .not (.t 34)), none⟩]) (.cond (.t 35) (.seq (.region [⟨some 36, (.move (.t 0)), none⟩, ⟨some 37, (.move (.t 1)), none⟩, ⟨some 38, (.move (.t 2)), none⟩, ⟨some 39, (.call (.c (.fn (.func 298) [] [])) [(.t 36), (.t 37), (.t 38)]), none⟩]) (.region [⟨some 40, (.move (.t 3)), none⟩, ⟨some 41, (.bin .sub .no (.t 40) (.c (.int .i64 1))), none⟩, ⟨some 3, (.move (.t 41)), none⟩])) .skip)) (.seq (.region [⟨some 43, (.move (.t 0)), none⟩, ⟨some 44, (.move (.t 1)), none⟩, ⟨some 45, (.move (.t 2)), none⟩, ⟨some 46, (.call (.c (.fn (.func 299) [] [])) [(.t 43), (.t 44), (.t 45)]), none⟩, ⟨some 42, (.move (.t 46)), none⟩, ⟨some 47, (.extract (.t 42) 0), none⟩, ⟨some 48, (.extract (.t 42) 1), none⟩, ⟨some 11, (.move (.t 47)), none⟩, ⟨some 12, (.move (.t 48)), none⟩]) (.seq (.seq (.region [⟨some 49, (.move (.t 12)), none⟩, ⟨some 50, (.bin .eql .no (.t 49) (.c (.int .i64 2))), none⟩]) (.cond (.t 50) (.seq (.region [⟨some 51, (.move (.t 0)), none⟩, ⟨some 52, (.move (.t 1)), none⟩, ⟨some 53, (.move (.t 2)), none⟩, ⟨some 54, (.call (.c (.fn (.func 300) [] [])) [(.t 51), (.t 52), (.t 53)]), none⟩]) (.seq (.region [⟨some 55, (.move (.t 2)), none⟩, ⟨some 56, (.bin .sub .no (.t 55) (.c (.int .i64 1))), none⟩, ⟨some 57, (.move (.t 11)), none⟩, ⟨some 58, (.move (.t 1)), none⟩, ⟨some 59, (.bin .sub .no (.t 57) (.t 58)), none⟩, ⟨some 60, (.bin .sub .no (.t 56) (.t 59)), none⟩, ⟨some 11, (.move (.t 60)), none⟩]) (.region [⟨some 12, (.move (.c (.int .i64 1))), none⟩]))) .skip)) (.seq (.seq (.region [⟨some 61, (.move (.t 8)), none⟩, ⟨some 62, (.move (.t 61)), none⟩, ⟨some 63, (.move (.t 9)), some (62, true)⟩, ⟨some 64, (.pick (.t 62) (.t 63) (.c (.bool false))), none⟩, ⟨some 65, (.move (.t 64)), none⟩, ⟨some 66, (.move (.t 12)), some (65, true)⟩, ⟨some 67, (.bin .eql .no (.t 66) (.c (.int .i64 1))), some (65, true)⟩, ⟨some 68, (.pick (.t 65) (.t 67) (.c (.bool false))), none⟩]) (.cond (.t 68) (.seq (.region [⟨some 69, (.move (.t 0)), none⟩, ⟨some 70, (.move (.t 1)), none⟩, ⟨some 71, (.move (.t 2)), none⟩, ⟨some 72, (.call (.c (.fn (.func 301) [] [])) [(.t 69), (.t 70), (.t 71)]), none⟩]) (.cond (.t 72) .ret .skip)) .skip)) (.seq (.seq (.drawn [⟨some 73, (.move (.t 1)), none⟩, ⟨some 74, (.bin .gtr .no (.t 73) (.c (.int .i64 0))), none⟩, ⟨some 75, (.move (.t 74)), none⟩, ⟨some 76, (.move (.t 0)), some (75, true)⟩, ⟨some 77, (.move (.t 1)), some (75, true)⟩, ⟨some 78, (.bin .sub .no (.t 77) (.c (.int .i64 1))), some (75, true)⟩, ⟨some 79, (.idxSl 1 (.t 76) (.t 78)), some (75, true)⟩, ⟨some 80, (.load1 (.t 79)), some (75, true)⟩, ⟨some 81, (.move (.t 0)), some (75, true)⟩, ⟨some 82, (.move (.t 11)), some (75, true)⟩, ⟨some 83, (.idxSl 1 (.t 81) (.t 82)), some (75, true)⟩, ⟨some 84, (.load1 (.t 83)), some (75, true)⟩, ⟨some 85, (.call (.c (.fn (.func 302) [] [])) [(.t 80), (.t 84)]), some (75, true)⟩, ⟨some 86, (.un .not (.t 85)), some (75, true)⟩, ⟨some 87, (.pick (.t 75) (.t 86) (.c (.bool false))), none⟩] []) (.cond (.t 87) (.seq (.region [⟨some 88, (.move (.t 0)), none⟩, ⟨some 89, (.move (.t 1)), none⟩, ⟨some 90, (.move (.t 2)), none⟩, ⟨some 91, (.move (.t 11)), none⟩, ⟨some 92, (.call (.c (.fn (.func 303) [] [])) [(.t 88), (.t 89), (.t 90), (.t 91)]), none⟩, ⟨some 13, (.move (.t 92)), none⟩]) (.seq (.region [⟨some 93, (.move (.t 13)), none⟩, ⟨some 1, (.move (.t 93)), none⟩]) (.exit 1))) .skip)) (.seq (.region [⟨some 95, (.move (.t 0)), none⟩, ⟨some 96, (.move (.t 1)), none⟩, ⟨some 97, (.move (.t 2)), none⟩, ⟨some 98, (.move (.t 11)), none⟩, ⟨some 99, (.call (.c (.fn (.func 304) [] [])) [(.t 95), (.t 96), (.t 97), (.t 98)]), none⟩, ⟨some 94, (.move (.t 99)), none⟩, ⟨some 100, (.extract (.t 94) 0), none⟩, ⟨some 101, (.extract (.t 94) 1), none⟩, ⟨some 14, (.move (.t 100)), none⟩, ⟨some 15, (.move (.t 101)), none⟩]) (.seq (.region [⟨some 102, (.move (.t 15)), none⟩, ⟨some 9, (.move (.t 102)), none⟩]) (.seq (.region [⟨some 103, (.move (.t 14)), none⟩, ⟨some 104, (.move (.t 1)), none⟩, ⟨some 105, (.bin .sub .no (.t 103) (.t 104)), none⟩, ⟨some 106, (.move (.t 2)), none⟩, ⟨some 107, (.move (.t 14)), none⟩, ⟨some 108, (.bin .sub .no (.t 106) (.t 107)), none⟩, ⟨some 16, (.move (.t 105)), none⟩, ⟨some 17, (.move (.t 108)), none⟩]) (.seq (.region [⟨some 109, (.move (.t 10)), none⟩, ⟨some 110, (.bin .quo .no (.t 109) (.c (.int .i64 8))), none⟩, ⟨some 18, (.move (.t 110)), none⟩]) (.seq (.region [⟨some 111, (.move (.t 16)), none⟩, ⟨some 112, (.move (.t 17)), none⟩, ⟨some 113, (.bin .lss .no (.t 111) (.t 112)), none⟩]) (.cond (.t 113) (.seq (.region [⟨some 114, (.move (.t 16)), none⟩, ⟨some 115, (.move (.t 18)), none⟩, ⟨some 116, (.bin .geq .no (.t 114) (.t 115)), none⟩, ⟨some 8, (.move (.t 116)), none⟩]) (.seq (.region [⟨some 117, (.move (.t 0)), none⟩, ⟨some 118, (.move (.t 1)), none⟩, ⟨some 119, (.move (.t 14)), none⟩, ⟨some 120, (.move (.t 3)), none⟩, ⟨some 121, (.call (.c (.fn (.func 269) [] [])) [(.t 117), (.t 118), (.t 119), (.t 120)]), none⟩]) (.region [⟨some 122, (.move (.t 14)), none⟩, ⟨some 123, (.bin .add .no (.t 122) (.c (.int .i64 1))), none⟩, ⟨some 1, (.move (.t 123)), none⟩]))) (.seq (.region [⟨some 124, (.move (.t 17)), none⟩, ⟨some 125, (.move (.t 18)), none⟩, ⟨some 126, (.bin .geq .no (.t 124) (.t 125)), none⟩, ⟨some 8, (.move (.t 126)), none⟩]) (.seq (.region [⟨some 127, (.move (.t 0)), none⟩, ⟨some 128, (.move (.t 14)), none⟩, ⟨some 129, (.bin .add .no (.t 128) (.c (.int .i64 1))), none⟩, ⟨some 130, (.move (.t 2)), none⟩, ⟨some 131, (.move (.t 3)), none⟩, ⟨some 132, (.call (.c (.fn (.func 269) [] [])) [(.t 127), (.t 129), (.t 130), (.t 131)]), none⟩]) (.region [⟨some 133, (.move (.t 14)), none⟩, ⟨some 2, (.move (.t 133)), none⟩]))))))))))))))))))))))⟩
theorem prep269 : prepF Tryz.prog Tryz.f269 = some fd269 := by kernel_rfl
/-- understudy/leaf.rises -/
def fd270 : FD := ⟨54, [(.tmp 2)], (.seq (.region [⟨some 2, (.move (.c (.bool false))), none⟩]) (.seq (.seq (.region [⟨some 5, (.move (.t 0)), none⟩, ⟨some 6, (.len 1 (.t 5)), none⟩, ⟨some 7, (.move (.c (.int .i64 0))), none⟩]) (.block 0 (.loop (.seq (.region [⟨some 8, (.bin .lss .no (.t 7) (.t 6)), none⟩]) (.seq (.cond (.t 8) .skip (.exit 0)) (.seq (.block 1 (.seq (.region [⟨some 9, (.move (.t 7)), none⟩, ⟨some 10, (.idxSl 2 (.t 5) (.t 7)), none⟩, ⟨some 11, (.loadN 2 (.t 10)), none⟩, ⟨some 4, (.alloc [(.int .i64 0), (.int .i64 0)]), none⟩, ⟨some 3, (.move (.t 9)), none⟩, ⟨none, (.store 2 (.t 4) (.t 11)), none⟩]) (.seq (.drawn [⟨some 12, (.fieldAddr 0 (.t 4)), none⟩, ⟨some 13, (.load1 (.t 12)), none⟩, ⟨some 14, (.bin .lss .no (.t 13) (.c (.int .i64 0))), none⟩, ⟨some 15, (.move (.t 14)), none⟩, ⟨some 16, (.fieldAddr 0 (.t 4)), some (15, false)⟩, ⟨some 17, (.load1 (.t 16)), some (15, false)⟩, ⟨some 18, (.bin .geq .no (.t 17) (.c (.int .i64 64))), some (15, false)⟩, ⟨some 19, (.pick (.t 15) (.c (.bool true)) (.t 18)), none⟩, ⟨some 20, (.move (.t 19)), none⟩, ⟨some 21, (.fieldAddr 1 (.t 4)), some (20, false)⟩, ⟨some 22, (.load1 (.t 21)), some (20, false)⟩, ⟨some 23, (.bin .lss .no (.t 22) (.c (.int .i64 0))), some (20, false)⟩, ⟨some 24, (.pick (.t 20) (.c (.bool true)) (.t 23)), none⟩, ⟨some 25, (.move (.t 24)), none⟩, ⟨some 26, (.fieldAddr 1 (.t 4)), some (25, false)⟩, ⟨some 27, (.load1 (.t 26)), some (25, false)⟩, ⟨some 28, (.bin .geq .no (.t 27) (.c (.int .i64 240))), some (25, false)⟩, ⟨some 29, (.pick (.t 25) (.c (.bool true)) (.t 28)), none⟩, ⟨some 30, (.move (.t 29)), none⟩, ⟨some 31, (.move (.t 3)), some (30, false)⟩, ⟨some 32, (.bin .gtr .no (.t 31) (.c (.int .i64 0))), some (30, false)⟩, ⟨some 33, (.move (.t 32)), some (30, false)⟩, ⟨some 34, (.fieldAddr 0 (.t 4)), some (33, true)⟩, ⟨some 35, (.load1 (.t 34)), some (33, true)⟩, ⟨some 36, (.move (.t 0)), some (33, true)⟩, ⟨some 37, (.move (.t 3)), some (33, true)⟩, ⟨some 38, (.bin .sub .no (.t 37) (.c (.int .i64 1))), some (33, true)⟩, ⟨some 39, (.idxSl 2 (.t 36) (.t 38)), some (33, true)⟩, ⟨some 40, (.fieldAddr 0 (.t 39)), some (33, true)⟩, ⟨some 41, (.load1 (.t 40)), some (33, true)⟩, ⟨some 42, (.bin .leq .no (.t 35) (.t 41)), some (33, true)⟩, ⟨some 43, (.pick (.t 33) (.t 42) (.c (.bool false))), some (30, false)⟩, ⟨some 44, (.pick (.t 30) (.c (.bool true)) (.t 43)), none⟩] []) (.cond (.t 44) (.seq (.region [⟨some 2, (.move (.c (.bool false))), none⟩]) .ret) .skip)))) (.region [⟨some 45, (.bin .add .no (.t 7) (.c (.int .i64 1))), none⟩, ⟨some 7, (.move (.t 45)), none⟩]))))))) (.seq (.region [⟨some 46, (.move (.t 0)), none⟩, ⟨some 47, (.len 1 (.t 46)), none⟩, ⟨some 48, (.bin .geq .no (.t 47) (.c (.int .i64 1))), none⟩, ⟨some 49, (.move (.t 48)), none⟩, ⟨some 50, (.move (.t 0)), some (49, true)⟩, ⟨some 51, (.len 1 (.t 50)), some (49, true)⟩, ⟨some 52, (.bin .leq .no (.t 51) (.c (.int .i64 6))), some (49, true)⟩, ⟨some 53, (.pick (.t 49) (.t 52) (.c (.bool false))), none⟩, ⟨some 2, (.move (.t 53)), none⟩]) .ret)))⟩
theorem prep270 : prepF Tryz.prog Tryz.f270 = some fd270 := by kernel_rfl
/-- (understudy/tree.Tree).top -/
def fd271 : FD := ⟨40, [(.tmp 4), (.tmp 5)], (.seq (.region [⟨some 2, (.box (.t 0)), none⟩, ⟨some 3, (.box (.t 1)), none⟩, ⟨some 4, (.move (.c (.int .i64 0))), none⟩, ⟨some 5, (.move (.c (.int .i64 0))), none⟩]) (.seq (.region [⟨some 9, (.loadN 1 (.t 2)), none⟩, ⟨some 10, (.loadN 18 (.t 3)), none⟩, ⟨some 11, (.call (.c (.fn (.func 254) [] [])) [(.t 9), (.t 10)]), none⟩, ⟨some 8, (.move (.t 11)), none⟩, ⟨some 12, (.extract (.t 8) 0), none⟩, ⟨some 13, (.extract (.t 8) 1), none⟩, ⟨some 6, (.move (.t 12)), none⟩, ⟨some 7, (.move (.t 13)), none⟩]) (.seq (.seq (.region [⟨some 14, (.move (.t 7)), none⟩, ⟨some 15, (.bin .eql .no (.t 14) (.c (.int .i64 0))), none⟩, ⟨some 16, (.move (.t 15)), none⟩, ⟨some 17, (.move (.t 6)), some (16, true)⟩, ⟨some 18, (.len 1 (.t 17)), some (16, true)⟩, ⟨some 19, (.bin .gtr .no (.t 18) (.c (.int .i64 1))), some (16, true)⟩, ⟨some 20, (.pick (.t 16) (.t 19) (.c (.bool false))), none⟩]) (.cond (.t 20) (.region [⟨some 22, (.loadN 1 (.t 2)), none⟩, ⟨some 23, (.move (.t 6)), none⟩, ⟨some 24, (.build [(.int .i64 0), (.int .u8 0), (.int .u8 0), (.int .u8 0), (.int .u8 0), (.int .u8 0), (.int .u8 0), (.int .u8 0), (.int .u8 0), (.int .u8 0), (.int .u8 0), (.int .u8 0), (.int .u8 0), (.int .u8 0), (.int .u8 0), (.int .u8 0), (.int .u8 0), .nilSlice] [(0, 1, (.c (.int .i64 3))), (17, 1, (.t 23))]), none⟩, ⟨some 25, (.call (.c (.fn (.func 254) [] [])) [(.t 22), (.t 24)]), none⟩, ⟨some 21, (.move (.t 25)), none⟩, ⟨some 26, (.extract (.t 21) 0), none⟩, ⟨some 27, (.extract (.t 21) 1), none⟩, ⟨some 6, (.move (.t 26)), none⟩, ⟨some 7, (.move (.t 27)), none⟩]) .skip)) (.seq (.seq (.region [⟨some 28, (.move (.t 7)), none⟩, ⟨some 29, (.bin .neq .no (.t 28) (.c (.int .i64 0))), none⟩, ⟨some 30, (.move (.t 29)), none⟩, ⟨some 31, (.move (.t 6)), some (30, false)⟩, ⟨some 32, (.len 1 (.t 31)), some (30, false)⟩, ⟨some 33, (.bin .eql .no (.t 32) (.c (.int .i64 0))), some (30, false)⟩, ⟨some 34, (.pick (.t 30) (.c (.bool true)) (.t 33)), none⟩]) (.cond (.t 34) (.seq (.region [⟨some 35, (.move (.t 7)), none⟩, ⟨some 4, (.move (.c (.int .i64 (-1)))), none⟩, ⟨some 5, (.move (.t 35)), none⟩]) .ret) .skip)) (.seq (.region [⟨some 36, (.move (.t 6)), none⟩, ⟨some 37, (.idxSl 2 (.t 36) (.c (.int .i64 0))), none⟩, ⟨some 38, (.fieldAddr 1 (.t 37)), none⟩, ⟨some 39, (.load1 (.t 38)), none⟩, ⟨some 4, (.move (.t 39)), none⟩, ⟨some 5, (.move (.c (.int .i64 0))), none⟩]) .ret)))))⟩
theorem prep271 : prepF Tryz.prog Tryz.f271 = some fd271 := by kernel_rfl
/-- slices.insertionSortOrdered[int] -/
def fd296 : FD := ⟨49, [], (.seq (.region [⟨some 8, (.move (.t 1)), none⟩, ⟨some 9, (.bin .add .no (.t 8) (.c (.int .i64 1))), none⟩, ⟨some 6, (.move (.t 9)), none⟩]) (.block 0 (.loop (.seq (.seq (.region [⟨some 10, (.move (.t 6)), none⟩, ⟨some 11, (.move (.t 2)), none⟩, ⟨some 12, (.bin .lss .no (.t 10) (.t 11)), none⟩]) (.cond (.t 12) .skip (.exit 0))) (.seq (.block 1 (.seq (.region [⟨some 15, (.move (.t 6)), none⟩, ⟨some 7, (.move (.t 15)), none⟩]) (.block 2 (.loop (.seq (.seq (.drawn [⟨some 16, (.move (.t 7)), none⟩, ⟨some 17, (.move (.t 1)), none⟩, ⟨some 18, (.bin .gtr .no (.t 16) (.t 17)), none⟩, ⟨some 19, (.move (.t 18)), none⟩, ⟨some 20, (.move (.t 0)), some (19, true)⟩, ⟨some 21, (.move (.t 7)), some (19, true)⟩, ⟨some 22, (.idxSl 1 (.t 20) (.t 21)), some (19, true)⟩, ⟨some 23, (.load1 (.t 22)), some (19, true)⟩, ⟨some 24, (.move (.t 0)), some (19, true)⟩, ⟨some 25, (.move (.t 7)), some (19, true)⟩, ⟨some 26, (.bin .sub .no (.t 25) (.c (.int .i64 1))), some (19, true)⟩, ⟨some 27, (.idxSl 1 (.t 24) (.t 26)), some (19, true)⟩, ⟨some 28, (.load1 (.t 27)), some (19, true)⟩, ⟨some 29, (.call (.c (.fn (.func 302) [] [])) [(.t 23), (.t 28)]), some (19, true)⟩, ⟨some 30, (.pick (.t 19) (.t 29) (.c (.bool false))), none⟩] []) (.cond (.t 30) .skip (.exit 2))) (.seq (.block 3 (.drawn [⟨some 33, (.move (.t 0)), none⟩, ⟨some 34, (.move (.t 7)), none⟩, ⟨some 35, (.move (.t 0)), none⟩, ⟨some 36, (.move (.t 7)), none⟩, ⟨some 37, (.bin .sub .no (.t 36) (.c (.int .i64 1))), none⟩, ⟨some 38, (.move (.t 0)), none⟩, ⟨some 39, (.move (.t 7)), none⟩, ⟨some 40, (.bin .sub .no (.t 39) (.c (.int .i64 1))), none⟩, ⟨some 41, (.idxSl 1 (.t 38) (.t 40)), none⟩, ⟨some 42, (.load1 (.t 41)), none⟩, ⟨some 43, (.move (.t 0)), none⟩, ⟨some 44, (.move (.t 7)), none⟩, ⟨some 45, (.idxSl 1 (.t 43) (.t 44)), none⟩, ⟨some 46, (.load1 (.t 45)), none⟩, ⟨some 47, (.idxSl 1 (.t 33) (.t 34)), none⟩, ⟨none, (.store 1 (.t 47) (.t 42)), none⟩, ⟨some 48, (.idxSl 1 (.t 35) (.t 37)), none⟩, ⟨none, (.store 1 (.t 48) (.t 46)), none⟩] [])) (.region [⟨some 31, (.move (.t 7)), none⟩, ⟨some 32, (.bin .sub .no (.t 31) (.c (.int .i64 1))), none⟩, ⟨some 7, (.move (.t 32)), none⟩]))))))) (.region [⟨some 13, (.move (.t 6)), none⟩, ⟨some 14, (.bin .add .no (.t 13) (.c (.int .i64 1))), none⟩, ⟨some 6, (.move (.t 14)), none⟩]))))))⟩
theorem prep296 : prepF Tryz.prog Tryz.f296 = some fd296 := by kernel_rfl
end Go.Proofs.YtobogmklajeekaaGreat
namespace Go.Proofs.YtobogmklajeekaaGreat
open D
noncomputable def tab : Tr FD := ((((((((((((((((((((((((((((((((((((((((((((((((((((((((((((((((((((((((((((((((((((((((((((((((((((((((((((((((((((((((((((((((((((((((((((((((((((((((((((((((((((((((((((((((((((((((((((((((((Tr.lf.set 3 fd3).set 4 fd4).set 5 fd5).set 6 fd6).set 7 fd7).set 8 fd8).set 9 fd9).set 10 fd10).set 11 fd11).set 12 fd12).set 13 fd13).set 14 fd14).set 15 fd15).set 16 fd16).set 17 fd17).set 18 fd18).set 19 fd19).set 20 fd20).set 21 fd21).set 22 fd22).set 23 fd23).set 24 fd24).set 25 fd25).set 26 fd26).set 27 fd27).set 28 fd28).set 29 fd29).set 30 fd30).set 31 fd31).set 32 fd32).set 33 fd33).set 34 fd34).set 35 fd35).set 36 fd36).set 42 fd42).set 44 fd44).set 48 fd48).set 49 fd49).set 50 fd50).set 51 fd51).set 53 fd53).set 54 fd54).set 56 fd56).set 57 fd57).set 59 fd59).set 60 fd60).set 61 fd61).set 62 fd62).set 63 fd63).set 64 fd64).set 65 fd65).set 66 fd66).set 67 fd67).set 68 fd68).set 69 fd69).set 70 fd70).set 71 fd71).set 72 fd72).set 73 fd73).set 74 fd74).set 75 fd75).set 76 fd76).set 77 fd77).set 78 fd78).set 79 fd79).set 80 fd80).set 81 fd81).set 84 fd84).set 91 fd91).set 93 fd93).set 94 fd94).set 99 fd99).set 101 fd101).set 103 fd103).set 104 fd104).set 105 fd105).set 108 fd108).set 109 fd109).set 110 fd110).set 111 fd111).set 112 fd112).set 113 fd113).set 114 fd114).set 115 fd115).set 117 fd117).set 118 fd118).set 119 fd119).set 120 fd120).set 121 fd121).set 122 fd122).set 123 fd123).set 124 fd124).set 125 fd125).set 126 fd126).set 128 fd128).set 129 fd129).set 130 fd130).set 131 fd131).set 132 fd132).set 133 fd133).set 134 fd134).set 135 fd135).set 136 fd136).set 137 fd137).set 138 fd138).set 139 fd139).set 140 fd140).set 141 fd141).set 142 fd142).set 143 fd143).set 144 fd144).set 145 fd145).set 146 fd146).set 147 fd147).set 148 fd148).set 149 fd149).set 150 fd150).set 155 fd155).set 168 fd168).set 169 fd169).set 170 fd170).set 175 fd175).set 176 fd176).set 177 fd177).set 178 fd178).set 179 fd179).set 180 fd180).set 181 fd181).set 182 fd182).set 183 fd183).set 186 fd186).set 188 fd188).set 189 fd189).set 190 fd190).set 191 fd191).set 192 fd192).set 193 fd193).set 194 fd194).set 195 fd195).set 196 fd196).set 197 fd197).set 198 fd198).set 199 fd199).set 200 fd200).set 201 fd201).set 202 fd202).set 203 fd203).set 204 fd204).set 205 fd205).set 206 fd206).set 207 fd207).set 208 fd208).set 209 fd209).set 210 fd210).set 211 fd211).set 212 fd212).set 213 fd213).set 214 fd214).set 215 fd215).set 216 fd216).set 217 fd217).set 218 fd218).set 219 fd219).set 220 fd220).set 221 fd221).set 231 fd231).set 234 fd234).set 235 fd235).set 236 fd236).set 237 fd237).set 238 fd238).set 239 fd239).set 240 fd240).set 241 fd241).set 242 fd242).set 243 fd243).set 244 fd244).set 245 fd245).set 246 fd246).set 247 fd247).set 248 fd248).set 249 fd249).set 250 fd250).set 251 fd251).set 252 fd252).set 254 fd254).set 262 fd262).set 266 fd266).set 267 fd267).set 268 fd268).set 269 fd269).set 270 fd270).set 271 fd271).set 296 fd296)
theorem tab_ok : FnsOk Tryz.prog tab.get := ((((((((((((((((((((((((((((((((((((((((((((((((((((((((((((((((((((((((((((((((((((((((((((((((((((((((((((((((((((((((((((((((((((((((((((((((((((((((((((((((((((((((((((((((((((((((((((((((((fnsOk_lf.set Tryz.func3 prep3).set Tryz.func4 prep4).set Tryz.func5 prep5).set Tryz.func6 prep6).set Tryz.func7 prep7).set Tryz.func8 prep8).set Tryz.func9 prep9).set Tryz.func10 prep10).set Tryz.func11 prep11).set Tryz.func12 prep12).set Tryz.func13 prep13).set Tryz.func14 prep14).set Tryz.func15 prep15).set Tryz.func16 prep16).set Tryz.func17 prep17).set Tryz.func18 prep18).set Tryz.func19 prep19).set Tryz.func20 prep20).set Tryz.func21 prep21).set Tryz.func22 prep22).set Tryz.func23 prep23).set Tryz.func24 prep24).set Tryz.func25 prep25).set Tryz.func26 prep26).set Tryz.func27 prep27).set Tryz.func28 prep28).set Tryz.func29 prep29).set Tryz.func30 prep30).set Tryz.func31 prep31).set Tryz.func32 prep32).set Tryz.func33 prep33).set Tryz.func34 prep34).set Tryz.func35 prep35).set Tryz.func36 prep36).set Tryz.func42 prep42).set Tryz.func44 prep44).set Tryz.func48 prep48).set Tryz.func49 prep49).set Tryz.func50 prep50).set Tryz.func51 prep51).set Tryz.func53 prep53).set Tryz.func54 prep54).set Tryz.func56 prep56).set Tryz.func57 prep57).set Tryz.func59 prep59).set Tryz.func60 prep60).set Tryz.func61 prep61).set Tryz.func62 prep62).set Tryz.func63 prep63).set Tryz.func64 prep64).set Tryz.func65 prep65).set Tryz.func66 prep66).set Tryz.func67 prep67).set Tryz.func68 prep68).set Tryz.func69 prep69).set Tryz.func70 prep70).set Tryz.func71 prep71).set Tryz.func72 prep72).set Tryz.func73 prep73).set Tryz.func74 prep74).set Tryz.func75 prep75).set Tryz.func76 prep76).set Tryz.func77 prep77).set Tryz.func78 prep78).set Tryz.func79 prep79).set Tryz.func80 prep80).set Tryz.func81 prep81).set Tryz.func84 prep84).set Tryz.func91 prep91).set Tryz.func93 prep93).set Tryz.func94 prep94).set Tryz.func99 prep99).set Tryz.func101 prep101).set Tryz.func103 prep103).set Tryz.func104 prep104).set Tryz.func105 prep105).set Tryz.func108 prep108).set Tryz.func109 prep109).set Tryz.func110 prep110).set Tryz.func111 prep111).set Tryz.func112 prep112).set Tryz.func113 prep113).set Tryz.func114 prep114).set Tryz.func115 prep115).set Tryz.func117 prep117).set Tryz.func118 prep118).set Tryz.func119 prep119).set Tryz.func120 prep120).set Tryz.func121 prep121).set Tryz.func122 prep122).set Tryz.func123 prep123).set Tryz.func124 prep124).set Tryz.func125 prep125).set Tryz.func126 prep126).set Tryz.func128 prep128).set Tryz.func129 prep129).set Tryz.func130 prep130).set Tryz.func131 prep131).set Tryz.func132 prep132).set Tryz.func133 prep133).set Tryz.func134 prep134).set Tryz.func135 prep135).set Tryz.func136 prep136).set Tryz.func137 prep137).set Tryz.func138 prep138).set Tryz.func139 prep139).set Tryz.func140 prep140).set Tryz.func141 prep141).set Tryz.func142 prep142).set Tryz.func143 prep143).set Tryz.func144 prep144).set Tryz.func145 prep145).set Tryz.func146 prep146).set Tryz.func147 prep147).set Tryz.func148 prep148).set Tryz.func149 prep149).set Tryz.func150 prep150).set Tryz.func155 prep155).set Tryz.func168 prep168).set Tryz.func169 prep169).set Tryz.func170 prep170).set Tryz.func175 prep175).set Tryz.func176 prep176).set Tryz.func177 prep177).set Tryz.func178 prep178).set Tryz.func179 prep179).set Tryz.func180 prep180).set Tryz.func181 prep181).set Tryz.func182 prep182).set Tryz.func183 prep183).set Tryz.func186 prep186).set Tryz.func188 prep188).set Tryz.func189 prep189).set Tryz.func190 prep190).set Tryz.func191 prep191).set Tryz.func192 prep192).set Tryz.func193 prep193).set Tryz.func194 prep194).set Tryz.func195 prep195).set Tryz.func196 prep196).set Tryz.func197 prep197).set Tryz.func198 prep198).set Tryz.func199 prep199).set Tryz.func200 prep200).set Tryz.func201 prep201).set Tryz.func202 prep202).set Tryz.func203 prep203).set Tryz.func204 prep204).set Tryz.func205 prep205).set Tryz.func206 prep206).set Tryz.func207 prep207).set Tryz.func208 prep208).set Tryz.func209 prep209).set Tryz.func210 prep210).set Tryz.func211 prep211).set Tryz.func212 prep212).set Tryz.func213 prep213).set Tryz.func214 prep214).set Tryz.func215 prep215).set Tryz.func216 prep216).set Tryz.func217 prep217).set Tryz.func218 prep218).set Tryz.func219 prep219).set Tryz.func220 prep220).set Tryz.func221 prep221).set Tryz.func231 prep231).set Tryz.func234 prep234).set Tryz.func235 prep235).set Tryz.func236 prep236).set Tryz.func237 prep237).set Tryz.func238 prep238).set Tryz.func239 prep239).set Tryz.func240 prep240).set Tryz.func241 prep241).set Tryz.func242 prep242).set Tryz.func243 prep243).set Tryz.func244 prep244).set Tryz.func245 prep245).set Tryz.func246 prep246).set Tryz.func247 prep247).set Tryz.func248 prep248).set Tryz.func249 prep249).set Tryz.func250 prep250).set Tryz.func251 prep251).set Tryz.func252 prep252).set Tryz.func254 prep254).set Tryz.func262 prep262).set Tryz.func266 prep266).set Tryz.func267 prep267).set Tryz.func268 prep268).set Tryz.func269 prep269).set Tryz.func270 prep270).set Tryz.func271 prep271).set Tryz.func296 prep296)
end Go.Proofs.YtobogmklajeekaaGreat
namespace Go.Proofs.YtobogmklajeekaaGreat.Base
open D
noncomputable def SM1 : Sums := addSum noSums 178 sumStep
theorem mm_mixed : Tryz.prog.follows .mixedOrders = true := by kernel_rfl
theorem step_is : tab.get 178 = some fdStep := by kernel_rfl
theorem SM1_of : ∀ f g, SM1 f = some g → ∀ args s v s', g args s = some (v, s') → ∃ n, (eng tab.get noSums n).call f args s = some (v, s') := by
  intro f g hg args s v s' hx
  unfold SM1 addSum at hg
  split at hg
  · rename_i e
    subst e
    cases hg
    exact ⟨41, sumStep_run step_is rfl hx⟩
  · cases hg
noncomputable def mm : Mach := ⟨tab.get, SM1⟩
set_option maxRecDepth 1000000 in
theorem mm_ft : FnsOk Tryz.prog mm.FT := tab_ok
set_option maxRecDepth 1000000 in
theorem mm_sm : SumsOk Tryz.prog mm.SM := sumsOk_of_eng mm_mixed tab_ok noSums_ok noSums_next SM1_of
theorem mm_sn : SumsNext mm.SM := sumsNext_of_eng noSums_next SM1_of
theorem sm {f : Nat} (h : f ≠ 178) : mm.SM f = none := addSum_ne h
theorem step_eq (args : List AV) (s : St) : mm.L.call 178 args s = sumStep args s := by
  rw [lim_call]
  unfold callStep
  rw [show mm.SM 178 = some sumStep by show addSum noSums 178 sumStep 178 = _; exact addSum_eq]
theorem of_Wf {f : Nat} {l : List AV} {s s' : St} {v : AV} (h : Wf mm f l s fun v1 s1 => v1 = v ∧ s1 = s') : mm.L.call f l s = some (v, s') := by
  obtain ⟨v1, s1, h, rfl, rfl⟩ := h; exact h
theorem call_of_eng {f fuel : Nat} {a : List AV} {s s' : St} {v : AV} (h : (eng mm.FT mm.SM fuel).call f a s = some (v, s')) : mm.L.call f a s = some (v, s') := ((sup_lim mm.FT mm.SM).le fuel).call f a s _ h
theorem ft3 : mm.FT 3 = some fd3 := by kernel_rfl
theorem ft4 : mm.FT 4 = some fd4 := by kernel_rfl
theorem ft5 : mm.FT 5 = some fd5 := by kernel_rfl
theorem ft6 : mm.FT 6 = some fd6 := by kernel_rfl
theorem ft7 : mm.FT 7 = some fd7 := by kernel_rfl
theorem ft8 : mm.FT 8 = some fd8 := by kernel_rfl
theorem ft9 : mm.FT 9 = some fd9 := by kernel_rfl
theorem ft10 : mm.FT 10 = some fd10 := by kernel_rfl
theorem ft11 : mm.FT 11 = some fd11 := by kernel_rfl
theorem ft12 : mm.FT 12 = some fd12 := by kernel_rfl
theorem ft13 : mm.FT 13 = some fd13 := by kernel_rfl
theorem ft14 : mm.FT 14 = some fd14 := by kernel_rfl
theorem ft15 : mm.FT 15 = some fd15 := by kernel_rfl
theorem ft16 : mm.FT 16 = some fd16 := by kernel_rfl
theorem ft17 : mm.FT 17 = some fd17 := by kernel_rfl
theorem ft18 : mm.FT 18 = some fd18 := by kernel_rfl
theorem ft19 : mm.FT 19 = some fd19 := by kernel_rfl
theorem ft20 : mm.FT 20 = some fd20 := by kernel_rfl
theorem ft21 : mm.FT 21 = some fd21 := by kernel_rfl
theorem ft22 : mm.FT 22 = some fd22 := by kernel_rfl
theorem ft23 : mm.FT 23 = some fd23 := by kernel_rfl
theorem ft24 : mm.FT 24 = some fd24 := by kernel_rfl
theorem ft25 : mm.FT 25 = some fd25 := by kernel_rfl
theorem ft26 : mm.FT 26 = some fd26 := by kernel_rfl
theorem ft27 : mm.FT 27 = some fd27 := by kernel_rfl
theorem ft28 : mm.FT 28 = some fd28 := by kernel_rfl
theorem ft29 : mm.FT 29 = some fd29 := by kernel_rfl
theorem ft30 : mm.FT 30 = some fd30 := by kernel_rfl
theorem ft31 : mm.FT 31 = some fd31 := by kernel_rfl
theorem ft32 : mm.FT 32 = some fd32 := by kernel_rfl
theorem ft33 : mm.FT 33 = some fd33 := by kernel_rfl
theorem ft34 : mm.FT 34 = some fd34 := by kernel_rfl
theorem ft35 : mm.FT 35 = some fd35 := by kernel_rfl
theorem ft36 : mm.FT 36 = some fd36 := by kernel_rfl
theorem ft42 : mm.FT 42 = some fd42 := by kernel_rfl
theorem ft44 : mm.FT 44 = some fd44 := by kernel_rfl
theorem ft48 : mm.FT 48 = some fd48 := by kernel_rfl
theorem ft49 : mm.FT 49 = some fd49 := by kernel_rfl
theorem ft50 : mm.FT 50 = some fd50 := by kernel_rfl
theorem ft51 : mm.FT 51 = some fd51 := by kernel_rfl
theorem ft53 : mm.FT 53 = some fd53 := by kernel_rfl
theorem ft54 : mm.FT 54 = some fd54 := by kernel_rfl
theorem ft56 : mm.FT 56 = some fd56 := by kernel_rfl
theorem ft57 : mm.FT 57 = some fd57 := by kernel_rfl
theorem ft59 : mm.FT 59 = some fd59 := by kernel_rfl
theorem ft60 : mm.FT 60 = some fd60 := by kernel_rfl
theorem ft61 : mm.FT 61 = some fd61 := by kernel_rfl
theorem ft62 : mm.FT 62 = some fd62 := by kernel_rfl
theorem ft63 : mm.FT 63 = some fd63 := by kernel_rfl
theorem ft64 : mm.FT 64 = some fd64 := by kernel_rfl
theorem ft65 : mm.FT 65 = some fd65 := by kernel_rfl
theorem ft66 : mm.FT 66 = some fd66 := by kernel_rfl
theorem ft67 : mm.FT 67 = some fd67 := by kernel_rfl
theorem ft68 : mm.FT 68 = some fd68 := by kernel_rfl
theorem ft69 : mm.FT 69 = some fd69 := by kernel_rfl
theorem ft70 : mm.FT 70 = some fd70 := by kernel_rfl
theorem ft71 : mm.FT 71 = some fd71 := by kernel_rfl
theorem ft72 : mm.FT 72 = some fd72 := by kernel_rfl
theorem ft73 : mm.FT 73 = some fd73 := by kernel_rfl
theorem ft74 : mm.FT 74 = some fd74 := by kernel_rfl
theorem ft75 : mm.FT 75 = some fd75 := by kernel_rfl
theorem ft76 : mm.FT 76 = some fd76 := by kernel_rfl
theorem ft77 : mm.FT 77 = some fd77 := by kernel_rfl
theorem ft78 : mm.FT 78 = some fd78 := by kernel_rfl
theorem ft79 : mm.FT 79 = some fd79 := by kernel_rfl
theorem ft80 : mm.FT 80 = some fd80 := by kernel_rfl
theorem ft81 : mm.FT 81 = some fd81 := by kernel_rfl
theorem ft84 : mm.FT 84 = some fd84 := by kernel_rfl
theorem ft91 : mm.FT 91 = some fd91 := by kernel_rfl
theorem ft93 : mm.FT 93 = some fd93 := by kernel_rfl
theorem ft94 : mm.FT 94 = some fd94 := by kernel_rfl
theorem ft99 : mm.FT 99 = some fd99 := by kernel_rfl
theorem ft101 : mm.FT 101 = some fd101 := by kernel_rfl
theorem ft103 : mm.FT 103 = some fd103 := by kernel_rfl
theorem ft104 : mm.FT 104 = some fd104 := by kernel_rfl
theorem ft105 : mm.FT 105 = some fd105 := by kernel_rfl
theorem ft108 : mm.FT 108 = some fd108 := by kernel_rfl
theorem ft109 : mm.FT 109 = some fd109 := by kernel_rfl
theorem ft110 : mm.FT 110 = some fd110 := by kernel_rfl
theorem ft111 : mm.FT 111 = some fd111 := by kernel_rfl
theorem ft112 : mm.FT 112 = some fd112 := by kernel_rfl
theorem ft113 : mm.FT 113 = some fd113 := by kernel_rfl
theorem ft114 : mm.FT 114 = some fd114 := by kernel_rfl
theorem ft115 : mm.FT 115 = some fd115 := by kernel_rfl
theorem ft117 : mm.FT 117 = some fd117 := by kernel_rfl
theorem ft118 : mm.FT 118 = some fd118 := by kernel_rfl
theorem ft119 : mm.FT 119 = some fd119 := by kernel_rfl
theorem ft120 : mm.FT 120 = some fd120 := by kernel_rfl
theorem ft121 : mm.FT 121 = some fd121 := by kernel_rfl
theorem ft122 : mm.FT 122 = some fd122 := by kernel_rfl
theorem ft123 : mm.FT 123 = some fd123 := by kernel_rfl
theorem ft124 : mm.FT 124 = some fd124 := by kernel_rfl
theorem ft125 : mm.FT 125 = some fd125 := by kernel_rfl
theorem ft126 : mm.FT 126 = some fd126 := by kernel_rfl
theorem ft128 : mm.FT 128 = some fd128 := by kernel_rfl
theorem ft129 : mm.FT 129 = some fd129 := by kernel_rfl
theorem ft130 : mm.FT 130 = some fd130 := by kernel_rfl
theorem ft131 : mm.FT 131 = some fd131 := by kernel_rfl
theorem ft132 : mm.FT 132 = some fd132 := by kernel_rfl
theorem ft133 : mm.FT 133 = some fd133 := by kernel_rfl
theorem ft134 : mm.FT 134 = some fd134 := by kernel_rfl
theorem ft135 : mm.FT 135 = some fd135 := by kernel_rfl
theorem ft136 : mm.FT 136 = some fd136 := by kernel_rfl
theorem ft137 : mm.FT 137 = some fd137 := by kernel_rfl
theorem ft138 : mm.FT 138 = some fd138 := by kernel_rfl
theorem ft139 : mm.FT 139 = some fd139 := by kernel_rfl
theorem ft140 : mm.FT 140 = some fd140 := by kernel_rfl
theorem ft141 : mm.FT 141 = some fd141 := by kernel_rfl
theorem ft142 : mm.FT 142 = some fd142 := by kernel_rfl
theorem ft143 : mm.FT 143 = some fd143 := by kernel_rfl
theorem ft144 : mm.FT 144 = some fd144 := by kernel_rfl
theorem ft145 : mm.FT 145 = some fd145 := by kernel_rfl
theorem ft146 : mm.FT 146 = some fd146 := by kernel_rfl
theorem ft147 : mm.FT 147 = some fd147 := by kernel_rfl
theorem ft148 : mm.FT 148 = some fd148 := by kernel_rfl
theorem ft149 : mm.FT 149 = some fd149 := by kernel_rfl
theorem ft150 : mm.FT 150 = some fd150 := by kernel_rfl
theorem ft155 : mm.FT 155 = some fd155 := by kernel_rfl
theorem ft168 : mm.FT 168 = some fd168 := by kernel_rfl
theorem ft169 : mm.FT 169 = some fd169 := by kernel_rfl
theorem ft170 : mm.FT 170 = some fd170 := by kernel_rfl
theorem ft175 : mm.FT 175 = some fd175 := by kernel_rfl
theorem ft176 : mm.FT 176 = some fd176 := by kernel_rfl
theorem ft177 : mm.FT 177 = some fd177 := by kernel_rfl
theorem ft178 : mm.FT 178 = some fd178 := by kernel_rfl
theorem ft179 : mm.FT 179 = some fd179 := by kernel_rfl
theorem ft180 : mm.FT 180 = some fd180 := by kernel_rfl
theorem ft181 : mm.FT 181 = some fd181 := by kernel_rfl
theorem ft182 : mm.FT 182 = some fd182 := by kernel_rfl
theorem ft183 : mm.FT 183 = some fd183 := by kernel_rfl
theorem ft186 : mm.FT 186 = some fd186 := by kernel_rfl
theorem ft188 : mm.FT 188 = some fd188 := by kernel_rfl
theorem ft189 : mm.FT 189 = some fd189 := by kernel_rfl
theorem ft190 : mm.FT 190 = some fd190 := by kernel_rfl
theorem ft191 : mm.FT 191 = some fd191 := by kernel_rfl
theorem ft192 : mm.FT 192 = some fd192 := by kernel_rfl
theorem ft193 : mm.FT 193 = some fd193 := by kernel_rfl
theorem ft194 : mm.FT 194 = some fd194 := by kernel_rfl
theorem ft195 : mm.FT 195 = some fd195 := by kernel_rfl
theorem ft196 : mm.FT 196 = some fd196 := by kernel_rfl
theorem ft197 : mm.FT 197 = some fd197 := by kernel_rfl
theorem ft198 : mm.FT 198 = some fd198 := by kernel_rfl
theorem ft199 : mm.FT 199 = some fd199 := by kernel_rfl
theorem ft200 : mm.FT 200 = some fd200 := by kernel_rfl
theorem ft201 : mm.FT 201 = some fd201 := by kernel_rfl
theorem ft202 : mm.FT 202 = some fd202 := by kernel_rfl
theorem ft203 : mm.FT 203 = some fd203 := by kernel_rfl
theorem ft204 : mm.FT 204 = some fd204 := by kernel_rfl
theorem ft205 : mm.FT 205 = some fd205 := by kernel_rfl
theorem ft206 : mm.FT 206 = some fd206 := by kernel_rfl
theorem ft207 : mm.FT 207 = some fd207 := by kernel_rfl
theorem ft208 : mm.FT 208 = some fd208 := by kernel_rfl
theorem ft209 : mm.FT 209 = some fd209 := by kernel_rfl
theorem ft210 : mm.FT 210 = some fd210 := by kernel_rfl
theorem ft211 : mm.FT 211 = some fd211 := by kernel_rfl
theorem ft212 : mm.FT 212 = some fd212 := by kernel_rfl
theorem ft213 : mm.FT 213 = some fd213 := by kernel_rfl
theorem ft214 : mm.FT 214 = some fd214 := by kernel_rfl
theorem ft215 : mm.FT 215 = some fd215 := by kernel_rfl
theorem ft216 : mm.FT 216 = some fd216 := by kernel_rfl
theorem ft217 : mm.FT 217 = some fd217 := by kernel_rfl
theorem ft218 : mm.FT 218 = some fd218 := by kernel_rfl
theorem ft219 : mm.FT 219 = some fd219 := by kernel_rfl
theorem ft220 : mm.FT 220 = some fd220 := by kernel_rfl
theorem ft221 : mm.FT 221 = some fd221 := by kernel_rfl
theorem ft231 : mm.FT 231 = some fd231 := by kernel_rfl
theorem ft234 : mm.FT 234 = some fd234 := by kernel_rfl
theorem ft235 : mm.FT 235 = some fd235 := by kernel_rfl
theorem ft236 : mm.FT 236 = some fd236 := by kernel_rfl
theorem ft237 : mm.FT 237 = some fd237 := by kernel_rfl
theorem ft238 : mm.FT 238 = some fd238 := by kernel_rfl
theorem ft239 : mm.FT 239 = some fd239 := by kernel_rfl
theorem ft240 : mm.FT 240 = some fd240 := by kernel_rfl
theorem ft241 : mm.FT 241 = some fd241 := by kernel_rfl
theorem ft242 : mm.FT 242 = some fd242 := by kernel_rfl
theorem ft243 : mm.FT 243 = some fd243 := by kernel_rfl
theorem ft244 : mm.FT 244 = some fd244 := by kernel_rfl
theorem ft245 : mm.FT 245 = some fd245 := by kernel_rfl
theorem ft246 : mm.FT 246 = some fd246 := by kernel_rfl
theorem ft247 : mm.FT 247 = some fd247 := by kernel_rfl
theorem ft248 : mm.FT 248 = some fd248 := by kernel_rfl
theorem ft249 : mm.FT 249 = some fd249 := by kernel_rfl
theorem ft250 : mm.FT 250 = some fd250 := by kernel_rfl
theorem ft251 : mm.FT 251 = some fd251 := by kernel_rfl
theorem ft252 : mm.FT 252 = some fd252 := by kernel_rfl
theorem ft254 : mm.FT 254 = some fd254 := by kernel_rfl
theorem ft262 : mm.FT 262 = some fd262 := by kernel_rfl
theorem ft266 : mm.FT 266 = some fd266 := by kernel_rfl
theorem ft267 : mm.FT 267 = some fd267 := by kernel_rfl
theorem ft268 : mm.FT 268 = some fd268 := by kernel_rfl
theorem ft269 : mm.FT 269 = some fd269 := by kernel_rfl
theorem ft270 : mm.FT 270 = some fd270 := by kernel_rfl
theorem ft271 : mm.FT 271 = some fd271 := by kernel_rfl
theorem ft296 : mm.FT 296 = some fd296 := by kernel_rfl
end Go.Proofs.YtobogmklajeekaaGreat.Base
namespace Go.Proofs.YtobogmklajeekaaGreat.Base
open D
set_option linter.unusedSimpArgs false
set_option linter.unusedVariables false
set_option maxRecDepth 10000

theorem Sums_exact {f : Nat} {args : List AV} {s s' : St} {v : AV} (hro : ∀ b vs l e, s.get b = some (.cells vs l true e) → s'.get b = some (.cells vs l true e)) (h : mm.L.call f args s = some (v, s')) : Wf mm f args s fun v1 s1 => D.Can s v1 s1 v s' :=
  ⟨v, s', h, .old rfl (fun _ _ h => h) (Nat.le_refl _) hro⟩

set_option maxRecDepth 100000 in
theorem right_small (s : St) : ∀ w : Nat, 0 < w → w ≤ 8 → mm.L.call 179 [.int .i64 (w : Int)] s = some (.bool (w == 1 || w == 2 || w == 4 || w == 8), s)
  | 1, _, _ => call_of_eng (fuel := 60) (by kernel_rfl)
  | 2, _, _ => call_of_eng (fuel := 60) (by kernel_rfl)
  | 3, _, _ => call_of_eng (fuel := 60) (by kernel_rfl)
  | 4, _, _ => call_of_eng (fuel := 60) (by kernel_rfl)
  | 5, _, _ => call_of_eng (fuel := 60) (by kernel_rfl)
  | 6, _, _ => call_of_eng (fuel := 60) (by kernel_rfl)
  | 7, _, _ => call_of_eng (fuel := 60) (by kernel_rfl)
  | 8, _, _ => call_of_eng (fuel := 60) (by kernel_rfl)
  | 0, h, _ => by omega
  | n + 9, _, h => by omega
def okW (w : Int) : Bool := match w with
  | .ofNat n => Nat.beq n 1 || Nat.beq n 2 || Nat.beq n 4 || Nat.beq n 8
  | .negSucc _ => false
theorem right_eq (w : Int) (s : St) : mm.L.call 179 [.int .i64 w] s = some (.bool (okW w), s) := by
  by_cases h : 0 < w ∧ w ≤ 8
  · obtain ⟨n, rfl⟩ : ∃ n : Nat, w = (n : Int) := ⟨w.toNat, by omega⟩
    have := right_small s n (by omega) (by omega)
    rw [this]
    have e : ∀ k, (n == k) = Nat.beq n k := fun k => by
      by_cases hk : n = k
      · subst hk; simp
      · rw [show (n == k) = false by simpa using hk]
        cases hb : Nat.beq n k with
        | false => rfl
        | true => exact absurd (Nat.eq_of_beq_eq_true hb) hk
    simp only [e]
    rfl
  · have hw : okW w = false := by
      cases w with
      | negSucc n => rfl
      | ofNat n =>
        have : ¬ (n = 1 ∨ n = 2 ∨ n = 4 ∨ n = 8) := by
          have h' : ¬ (0 < (n : Int) ∧ (n : Int) ≤ 8) := h
          omega
        have e : ∀ k, n ≠ k → Nat.beq n k = false := fun k hk => by
          cases hb : Nat.beq n k with
          | false => rfl
          | true => exact absurd (Nat.eq_of_beq_eq_true hb) hk
        show (Nat.beq n 1 || Nat.beq n 2 || Nat.beq n 4 || Nat.beq n 8) = false
        rw [e 1 (by omega), e 2 (by omega), e 4 (by omega), e 8 (by omega)]
        rfl
    rw [hw]
    refine of_Wf (Wf_enter ft179 (sm (by decide)) (by rfl) ?_)
    have ft : (false == true) = false := rfl
    cases c1 : decide (w > 0)
    · simp -implicitDefEqProofs only [go_sem, Wk_block, Wk_drawnC, reduceCtorEq, Nat.reduceEqDiff, Nat.reduceAdd, Nat.reduceLeDiff, Nat.reduceLT, Nat.reduceMul, Nat.reduceSub, ↓reduceIte, Int.reduceLT, Int.reduceLE, Int.reduceNeg, Int.reduceAdd, Int.reduceEq, Nat.reduceBneDiff, Nat.reduceBEq, Int.reduceToNat, Int.reduceMul, Int.reduceSub, Int.reduceBEq, Int.reduceBNe, Int.cast_ofNat_Int, Int.toNat_natCast_add_one, Nat.add_left_cancel_iff, Nat.left_eq_add, Nat.add_eq_left, Int.toNat_natCast, Nat.add_assoc, Int.ofNat_lt, Int.ofNat_le, Nat.lt_add_one_of_lt, Nat.lt_add_one, Nat.lt_add_right, Nat.lt_add_right_iff_pos, Nat.add_lt_add_iff_left, fd179, c1, ft]
    · have p1 := of_decide_eq_true c1
      have c2 : decide (w ≤ 8) = false := decide_eq_false (by omega)
      simp -implicitDefEqProofs only [go_sem, Wk_block, Wk_drawnC, reduceCtorEq, Nat.reduceEqDiff, Nat.reduceAdd, Nat.reduceLeDiff, Nat.reduceLT, Nat.reduceMul, Nat.reduceSub, ↓reduceIte, Int.reduceLT, Int.reduceLE, Int.reduceNeg, Int.reduceAdd, Int.reduceEq, Nat.reduceBneDiff, Nat.reduceBEq, Int.reduceToNat, Int.reduceMul, Int.reduceSub, Int.reduceBEq, Int.reduceBNe, Int.cast_ofNat_Int, Int.toNat_natCast_add_one, Nat.add_left_cancel_iff, Nat.left_eq_add, Nat.add_eq_left, Int.toNat_natCast, Nat.add_assoc, Int.ofNat_lt, Int.ofNat_le, Nat.lt_add_one_of_lt, Nat.lt_add_one, Nat.lt_add_right, Nat.lt_add_right_iff_pos, Nat.add_lt_add_iff_left, fd179, c1, c2, ft]
def sumRight : List AV → St → Option (AV × St)
  | [.int .i64 w], s => some (.bool (okW w), s)
  | _, _ => none
theorem sumRight_run {args : List AV} {s s' : St} {v : AV} (h : sumRight args s = some (v, s')) (_ : ∀ b o, s.get b = some o → b < s.next) : Wf mm 179 args s fun v1 s1 => D.Can s v1 s1 v s' := by
  unfold sumRight at h
  split at h
  · cases h
    exact Sums_exact (fun _ _ _ _ h => h) (right_eq _ _)
  · cases h

theorem sumRight_next (args : List AV) (s : St) (v : AV) (s' : St) (hx : sumRight args s = some (v, s')) : s.next ≤ s'.next := by
  unfold sumRight at hx
  repeat' split at hx
  all_goals first
    | (cases hx; done)
    | (cases hx; exact Nat.le_refl _)

/-! ### Bytes -/
def u8 (c : Nat) : AV := .int .u8 (c : Int)
def decU : List AV → Option (List Nat)
  | [] => some []
  | .int .u8 (.ofNat n) :: r => if Nat.blt n 256 then match decU r with
      | some l => some (n :: l)
      | none => none
    else none
  | _ :: _ => none
theorem decU_some : ∀ {l : List AV} {L : List Nat}, decU l = some L → l = L.map u8 ∧ ∀ x ∈ L, x < 256
  | [], L, h => by cases h; exact ⟨rfl, by simp⟩
  | x :: r, L, h => by
    unfold decU at h
    split at h
    · rename_i hm; cases hm
    · rename_i n r' hm
      cases hm
      split at h
      · rename_i hn
        split at h
        · rename_i l hl
          cases h
          obtain ⟨h1, h2⟩ := decU_some hl
          refine ⟨by rw [h1]; rfl, fun y hy => ?_⟩
          rcases List.mem_cons.1 hy with rfl | hy
          · simpa using hn
          · exact h2 y hy
        · cases h
      · cases h
    · cases h
/-- The bytes of a slice. -/
noncomputable def readU (s : St) : AV → Option (List Nat)
  | .nilSlice => some []
  | .tail _ _ _ => some []
  | .slice b o n _ _ => match loadA s b o n with
    | some l => decU l
    | none => none
  | _ => none
/-- A slice that holds those bytes. -/
structure Bs (s : St) (v : AV) (L : List Nat) : Prop where
  len : ∀ s', len1 (some v) s' = some (.int .i64 (L.length : Nat), s')
  lt : ∀ x ∈ L, x < 256
  at_ : ∀ j (h : j < L.length), ∃ b o vs lo ro z, (∀ s', idx1 1 (some v) (some (.int .i64 (j : Int))) s' = some (.ptr b (o + j), s')) ∧ s.get b = some (.cells vs lo ro z) ∧ vs[o + j]? = some (u8 L[j])
  src : 0 < L.length → ∃ b o c lo, v = .slice b o L.length c lo ∧ loadA s b o L.length = some (L.map u8)
  cell : v.cells = [v] ∧ v.cell = true
theorem readU_bs {s : St} {v : AV} {L : List Nat} (h : readU s v = some L) : Bs s v L := by
  unfold readU at h
  split at h
  · cases h; exact ⟨fun _ => rfl, by simp, fun j h => by simp at h, fun h => by simp at h, rfl, rfl⟩
  · cases h; exact ⟨fun _ => rfl, by simp, fun j h => by simp at h, fun h => by simp at h, rfl, rfl⟩
  · rename_i b o n c lo
    split at h
    · rename_i l hl
      obtain ⟨h1, h2⟩ := decU_some h
      have hl0 := hl
      obtain ⟨vs, lo2, ro, z, g1, g2, rfl⟩ := loadA_some hl
      have hn : L.length = n := by
        have := congrArg List.length h1
        rw [List.length_take, List.length_drop, List.length_map] at this
        omega
      subst hn
      refine ⟨fun _ => rfl, h2, fun j hj => ⟨b, o, vs, lo2, ro, z, fun s' => by rw [idx1_slice hj, Nat.mul_one], g1, ?_⟩, fun _ => ⟨b, o, c, lo, rfl, by rw [hl0, h1]⟩, rfl, rfl⟩
      have := congrArg (fun l => l[j]?) h1
      simp only [List.getElem?_take_of_lt hj, List.getElem?_drop] at this
      rw [this, List.getElem?_map, List.getElem?_eq_getElem hj]
      rfl
    · cases h
  · cases h

theorem stps_lt : ∀ (k : Nat) {n : Nat}, stps (k + 1) n < 4294967296
  | 0, n => stp_lt
  | k + 1, n => stps_lt k
theorem crcStep_lt (n c : Nat) : crcStep n c < 4294967296 := stps_lt 7
theorem step_run (n c : Nat) (hn : n < 4294967296) (hc : c < 256) (s : St) : mm.L.call 178 [.int .u32 (n : Int), u8 c] s = some (.int .u32 ((crcStep n c : Nat) : Int), s) := by
  rw [step_eq]
  unfold u8
  show (if (n : Int) < 0 ∨ (c : Int) < 0 ∨ 4294967296 ≤ (n : Int) ∨ 256 ≤ (c : Int) then none else some (AV.int .u32 ((crcStep (n : Int).toNat (c : Int).toNat : Nat) : Int), s)) = _
  rw [if_neg (by omega)]
  rfl
def crcB (n : Nat) (L : List Nat) : Nat := L.foldl crcStep n
theorem crcB_take {n : Nat} {L : List Nat} {j : Nat} (h : j < L.length) : crcB n (L.take (j + 1)) = crcStep (crcB n (L.take j)) L[j] := by
  unfold crcB
  rw [List.take_succ_eq_append_getElem h, List.foldl_append]
  rfl
theorem crcB_lt {n : Nat} (hn : n < 4294967296) (L : List Nat) : crcB n L < 4294967296 := by
  unfold crcB
  induction L generalizing n with
  | nil => exact hn
  | cons a l ih => exact ih (crcStep_lt n a)
def crcP (n : Nat) (Ps : List (List Nat)) : Nat := Ps.foldl crcB n
theorem crcP_take {n : Nat} {L : List (List Nat)} {j : Nat} (h : j < L.length) : crcP n (L.take (j + 1)) = crcB (crcP n (L.take j)) L[j] := by
  unfold crcP
  rw [List.take_succ_eq_append_getElem h, List.foldl_append]
  rfl
theorem crcP_lt {n : Nat} (hn : n < 4294967296) (L : List (List Nat)) : crcP n L < 4294967296 := by
  unfold crcP
  induction L generalizing n with
  | nil => exact hn
  | cons a l ih => exact ih (crcB_lt hn a)

noncomputable def readPs (s : St) : List AV → Option (List (List Nat))
  | [] => some []
  | w :: r => match readU s w with
    | some L => match readPs s r with
      | some l => some (L :: l)
      | none => none
    | none => none
theorem readPs_some {s : St} : ∀ {l : List AV} {Ps : List (List Nat)}, readPs s l = some Ps → l.length = Ps.length ∧ ∀ j (h : j < Ps.length), ∃ w, l[j]? = some w ∧ Bs s w Ps[j]
  | [], Ps, h => by cases h; exact ⟨rfl, fun j h => by simp at h⟩
  | w :: r, Ps, h => by
    simp only [readPs] at h
    split at h
    · rename_i L hL
      split at h
      · rename_i l hl
        cases h
        obtain ⟨h1, h2⟩ := readPs_some hl
        refine ⟨by simp [h1], fun j hj => ?_⟩
        cases j with
        | zero => exact ⟨w, rfl, readU_bs hL⟩
        | succ j => simpa using h2 j (by simpa using hj)
      · cases h
    · cases h

theorem Of_run {Ps : List (List Nat)} {ws : List AV} {s : St} {v : AV} (hl : ws.length = Ps.length) (hP : ∀ j (h : j < Ps.length), ∃ w, ws[j]? = some w ∧ Bs s w Ps[j])
    (hv : ∀ s', len1 (some v) s' = some (.int .i64 (Ps.length : Nat), s')) (hi : ∀ j, j < Ps.length → ∃ b o vs lo ro z, (∀ s', idx1 1 (some v) (some (.int .i64 (j : Int))) s' = some (.ptr b (o + j), s')) ∧ s.get b = some (.cells vs lo ro z) ∧ vs[o + j]? = ws[j]?) (hm : Ps.length < 1000000000) (hmP : ∀ L ∈ Ps, L.length < 1000000000) :
    mm.L.call 112 [v] s = some (.int .u32 ((crcP 4294967295 Ps : Nat) : Int), s) := by
  refine of_Wf (Wf_enter ft112 (sm (by decide)) (by rfl) ?_)
  simp -implicitDefEqProofs only [go_sem, Wk_block, Wk_drawnC, reduceCtorEq, Nat.reduceEqDiff, Nat.reduceAdd, Nat.reduceLeDiff, Nat.reduceLT, Nat.reduceMul, Nat.reduceSub, ↓reduceIte, Int.reduceLT, Int.reduceLE, Int.reduceNeg, Int.reduceAdd, Int.reduceEq, Nat.reduceBneDiff, Nat.reduceBEq, Int.reduceToNat, Int.reduceMul, Int.reduceSub, Int.reduceBEq, Int.reduceBNe, Int.cast_ofNat_Int, Int.toNat_natCast_add_one, Nat.add_left_cancel_iff, Nat.left_eq_add, Nat.add_eq_left, Int.toNat_natCast, Nat.add_assoc, Int.ofNat_lt, Int.ofNat_le, Nat.lt_add_one_of_lt, Nat.lt_add_one, Nat.lt_add_right, Nat.lt_add_right_iff_pos, Nat.add_lt_add_iff_left, fd112, hv]
  refine loop_ind (fun m ts s' => ∃ j : Nat, m = Ps.length - j ∧ j ≤ Ps.length ∧ ts.get 10 = some (.int .i64 (j : Int)) ∧ ts.get 9 = some (.int .i64 (Ps.length : Int)) ∧ ts.get 8 = some v ∧ ts.get 3 = some (.int .u32 ((crcP 4294967295 (Ps.take j) : Nat) : Int)) ∧ s' = s) ?_ (n := Ps.length)
    ⟨0, rfl, by omega, by simp only [go_sem, Wk_block, Wk_drawnC, reduceCtorEq, Nat.reduceEqDiff, Nat.reduceAdd, Nat.reduceLeDiff, Nat.reduceLT, Nat.reduceMul, Nat.reduceSub, ↓reduceIte, Int.reduceLT, Int.reduceLE, Int.reduceNeg, Int.reduceAdd, Int.reduceEq, Nat.reduceBneDiff, Nat.reduceBEq, Int.reduceToNat, Int.reduceMul, Int.reduceSub, Int.reduceBEq, Int.reduceBNe, Int.cast_ofNat_Int, Int.toNat_natCast_add_one, Nat.add_left_cancel_iff, Nat.left_eq_add, Nat.add_eq_left, Int.toNat_natCast, Nat.add_assoc, Int.ofNat_lt, Int.ofNat_le], by simp only [go_sem, Wk_block, Wk_drawnC, reduceCtorEq, Nat.reduceEqDiff, Nat.reduceAdd, Nat.reduceLeDiff, Nat.reduceLT, Nat.reduceMul, Nat.reduceSub, ↓reduceIte, Int.reduceLT, Int.reduceLE, Int.reduceNeg, Int.reduceAdd, Int.reduceEq, Nat.reduceBneDiff, Nat.reduceBEq, Int.reduceToNat, Int.reduceMul, Int.reduceSub, Int.reduceBEq, Int.reduceBNe, Int.cast_ofNat_Int, Int.toNat_natCast_add_one, Nat.add_left_cancel_iff, Nat.left_eq_add, Nat.add_eq_left, Int.toNat_natCast, Nat.add_assoc, Int.ofNat_lt, Int.ofNat_le], by simp only [go_sem, Wk_block, Wk_drawnC, reduceCtorEq, Nat.reduceEqDiff, Nat.reduceAdd, Nat.reduceLeDiff, Nat.reduceLT, Nat.reduceMul, Nat.reduceSub, ↓reduceIte, Int.reduceLT, Int.reduceLE, Int.reduceNeg, Int.reduceAdd, Int.reduceEq, Nat.reduceBneDiff, Nat.reduceBEq, Int.reduceToNat, Int.reduceMul, Int.reduceSub, Int.reduceBEq, Int.reduceBNe, Int.cast_ofNat_Int, Int.toNat_natCast_add_one, Nat.add_left_cancel_iff, Nat.left_eq_add, Nat.add_eq_left, Int.toNat_natCast, Nat.add_assoc, Int.ofNat_lt, Int.ofNat_le], by simp only [go_sem, Wk_block, Wk_drawnC, reduceCtorEq, Nat.reduceEqDiff, Nat.reduceAdd, Nat.reduceLeDiff, Nat.reduceLT, Nat.reduceMul, Nat.reduceSub, ↓reduceIte, Int.reduceLT, Int.reduceLE, Int.reduceNeg, Int.reduceAdd, Int.reduceEq, Nat.reduceBneDiff, Nat.reduceBEq, Int.reduceToNat, Int.reduceMul, Int.reduceSub, Int.reduceBEq, Int.reduceBNe, Int.cast_ofNat_Int, Int.toNat_natCast_add_one, Nat.add_left_cancel_iff, Nat.left_eq_add, Nat.add_eq_left, Int.toNat_natCast, Nat.add_assoc, Int.ofNat_lt, Int.ofNat_le]; rfl, rfl⟩
  rintro m ts s' ⟨j, rfl, hj, g10, g9, g8, g3, rfl⟩ IH
  by_cases hlt : j < Ps.length
  · obtain ⟨w, hw, hB⟩ := hP j hlt
    obtain ⟨b, o, vs, lo, ro, z, hidx, hg, hvj⟩ := hi j hlt
    rw [hw] at hvj
    have hct := crcP_take (n := 4294967295) hlt
    have hcl := crcP_lt (n := 4294967295) (by omega) (Ps.take j)
    have hL := hmP Ps[j] (List.getElem_mem hlt)
    generalize Ps[j] = L at hB hct hL
    generalize crcP 4294967295 (Ps.take j) = c0 at g3 hct hcl
    have wj := succ_in (j := j) (by omega)
    simp -implicitDefEqProofs only [go_sem, Wk_block, Wk_drawnC, reduceCtorEq, Nat.reduceEqDiff, Nat.reduceAdd, Nat.reduceLeDiff, Nat.reduceLT, Nat.reduceMul, Nat.reduceSub, ↓reduceIte, Int.reduceLT, Int.reduceLE, Int.reduceNeg, Int.reduceAdd, Int.reduceEq, Nat.reduceBneDiff, Nat.reduceBEq, Int.reduceToNat, Int.reduceMul, Int.reduceSub, Int.reduceBEq, Int.reduceBNe, Int.cast_ofNat_Int, Int.toNat_natCast_add_one, Nat.add_left_cancel_iff, Nat.left_eq_add, Nat.add_eq_left, Int.toNat_natCast, Nat.add_assoc, Int.ofNat_lt, Int.ofNat_le, Nat.lt_add_one_of_lt, Nat.lt_add_one, Nat.lt_add_right, Nat.lt_add_right_iff_pos, Nat.add_lt_add_iff_left, g10, g9, g8, hlt, hidx, hg, hvj, hB.len]
    refine loop_ind (fun m ts s1 => ∃ i : Nat, m = L.length - i ∧ i ≤ L.length ∧ ts.get 16 = some (.int .i64 (i : Int)) ∧ ts.get 15 = some (.int .i64 (L.length : Int)) ∧ ts.get 14 = some w ∧ ts.get 3 = some (.int .u32 ((crcB c0 (L.take i) : Nat) : Int)) ∧
      ts.get 10 = some (.int .i64 (j : Int)) ∧ ts.get 9 = some (.int .i64 (Ps.length : Int)) ∧ ts.get 8 = some v ∧ s1 = s') ?_ (n := L.length)
      ⟨0, rfl, by omega, by simp only [go_sem, Wk_block, Wk_drawnC, reduceCtorEq, Nat.reduceEqDiff, Nat.reduceAdd, Nat.reduceLeDiff, Nat.reduceLT, Nat.reduceMul, Nat.reduceSub, ↓reduceIte, Int.reduceLT, Int.reduceLE, Int.reduceNeg, Int.reduceAdd, Int.reduceEq, Nat.reduceBneDiff, Nat.reduceBEq, Int.reduceToNat, Int.reduceMul, Int.reduceSub, Int.reduceBEq, Int.reduceBNe, Int.cast_ofNat_Int, Int.toNat_natCast_add_one, Nat.add_left_cancel_iff, Nat.left_eq_add, Nat.add_eq_left, Int.toNat_natCast, Nat.add_assoc, Int.ofNat_lt, Int.ofNat_le], by simp only [go_sem, Wk_block, Wk_drawnC, reduceCtorEq, Nat.reduceEqDiff, Nat.reduceAdd, Nat.reduceLeDiff, Nat.reduceLT, Nat.reduceMul, Nat.reduceSub, ↓reduceIte, Int.reduceLT, Int.reduceLE, Int.reduceNeg, Int.reduceAdd, Int.reduceEq, Nat.reduceBneDiff, Nat.reduceBEq, Int.reduceToNat, Int.reduceMul, Int.reduceSub, Int.reduceBEq, Int.reduceBNe, Int.cast_ofNat_Int, Int.toNat_natCast_add_one, Nat.add_left_cancel_iff, Nat.left_eq_add, Nat.add_eq_left, Int.toNat_natCast, Nat.add_assoc, Int.ofNat_lt, Int.ofNat_le], by simp only [go_sem, Wk_block, Wk_drawnC, reduceCtorEq, Nat.reduceEqDiff, Nat.reduceAdd, Nat.reduceLeDiff, Nat.reduceLT, Nat.reduceMul, Nat.reduceSub, ↓reduceIte, Int.reduceLT, Int.reduceLE, Int.reduceNeg, Int.reduceAdd, Int.reduceEq, Nat.reduceBneDiff, Nat.reduceBEq, Int.reduceToNat, Int.reduceMul, Int.reduceSub, Int.reduceBEq, Int.reduceBNe, Int.cast_ofNat_Int, Int.toNat_natCast_add_one, Nat.add_left_cancel_iff, Nat.left_eq_add, Nat.add_eq_left, Int.toNat_natCast, Nat.add_assoc, Int.ofNat_lt, Int.ofNat_le], by simp only [go_sem, Wk_block, Wk_drawnC, reduceCtorEq, Nat.reduceEqDiff, Nat.reduceAdd, Nat.reduceLeDiff, Nat.reduceLT, Nat.reduceMul, Nat.reduceSub, ↓reduceIte, Int.reduceLT, Int.reduceLE, Int.reduceNeg, Int.reduceAdd, Int.reduceEq, Nat.reduceBneDiff, Nat.reduceBEq, Int.reduceToNat, Int.reduceMul, Int.reduceSub, Int.reduceBEq, Int.reduceBNe, Int.cast_ofNat_Int, Int.toNat_natCast_add_one, Nat.add_left_cancel_iff, Nat.left_eq_add, Nat.add_eq_left, Int.toNat_natCast, Nat.add_assoc, Int.ofNat_lt, Int.ofNat_le, g3]; rfl, by simp only [go_sem, Wk_block, Wk_drawnC, reduceCtorEq, Nat.reduceEqDiff, Nat.reduceAdd, Nat.reduceLeDiff, Nat.reduceLT, Nat.reduceMul, Nat.reduceSub, ↓reduceIte, Int.reduceLT, Int.reduceLE, Int.reduceNeg, Int.reduceAdd, Int.reduceEq, Nat.reduceBneDiff, Nat.reduceBEq, Int.reduceToNat, Int.reduceMul, Int.reduceSub, Int.reduceBEq, Int.reduceBNe, Int.cast_ofNat_Int, Int.toNat_natCast_add_one, Nat.add_left_cancel_iff, Nat.left_eq_add, Nat.add_eq_left, Int.toNat_natCast, Nat.add_assoc, Int.ofNat_lt, Int.ofNat_le, g10], by simp only [go_sem, Wk_block, Wk_drawnC, reduceCtorEq, Nat.reduceEqDiff, Nat.reduceAdd, Nat.reduceLeDiff, Nat.reduceLT, Nat.reduceMul, Nat.reduceSub, ↓reduceIte, Int.reduceLT, Int.reduceLE, Int.reduceNeg, Int.reduceAdd, Int.reduceEq, Nat.reduceBneDiff, Nat.reduceBEq, Int.reduceToNat, Int.reduceMul, Int.reduceSub, Int.reduceBEq, Int.reduceBNe, Int.cast_ofNat_Int, Int.toNat_natCast_add_one, Nat.add_left_cancel_iff, Nat.left_eq_add, Nat.add_eq_left, Int.toNat_natCast, Nat.add_assoc, Int.ofNat_lt, Int.ofNat_le, g9], by simp only [go_sem, Wk_block, Wk_drawnC, reduceCtorEq, Nat.reduceEqDiff, Nat.reduceAdd, Nat.reduceLeDiff, Nat.reduceLT, Nat.reduceMul, Nat.reduceSub, ↓reduceIte, Int.reduceLT, Int.reduceLE, Int.reduceNeg, Int.reduceAdd, Int.reduceEq, Nat.reduceBneDiff, Nat.reduceBEq, Int.reduceToNat, Int.reduceMul, Int.reduceSub, Int.reduceBEq, Int.reduceBNe, Int.cast_ofNat_Int, Int.toNat_natCast_add_one, Nat.add_left_cancel_iff, Nat.left_eq_add, Nat.add_eq_left, Int.toNat_natCast, Nat.add_assoc, Int.ofNat_lt, Int.ofNat_le, g8], rfl⟩
    clear g10 g9 g8 g3
    rintro m ts s1 ⟨i, rfl, hi2, g16, g15, g14, g3, g10, g9, g8, rfl⟩ IH2
    by_cases hlt2 : i < L.length
    · obtain ⟨b2, o2, vs2, lo2, ro2, z2, hidx2, hg2, hv2⟩ := hB.at_ i hlt2
      have hxl := hB.lt L[i] (List.getElem_mem hlt2)
      have hct2 := crcB_take (n := c0) hlt2
      have hcl2 := crcB_lt hcl (L.take i)
      generalize L[i] = x at hv2 hxl hct2
      generalize crcB c0 (L.take i) = c1 at g3 hct2 hcl2
      have wi := succ_in (j := i) (by omega)
      simp -implicitDefEqProofs only [go_sem, Wk_block, Wk_drawnC, reduceCtorEq, Nat.reduceEqDiff, Nat.reduceAdd, Nat.reduceLeDiff, Nat.reduceLT, Nat.reduceMul, Nat.reduceSub, ↓reduceIte, Int.reduceLT, Int.reduceLE, Int.reduceNeg, Int.reduceAdd, Int.reduceEq, Nat.reduceBneDiff, Nat.reduceBEq, Int.reduceToNat, Int.reduceMul, Int.reduceSub, Int.reduceBEq, Int.reduceBNe, Int.cast_ofNat_Int, Int.toNat_natCast_add_one, Nat.add_left_cancel_iff, Nat.left_eq_add, Nat.add_eq_left, Int.toNat_natCast, Nat.add_assoc, Int.ofNat_lt, Int.ofNat_le, Nat.lt_add_one_of_lt, Nat.lt_add_one, Nat.lt_add_right, Nat.lt_add_right_iff_pos, Nat.add_lt_add_iff_left, g16, g15, g14, g3, hlt2, hidx2, hg2, hv2, Wl_eq (step_run c1 x hcl2 hxl _), wi]
      refine IH2 (L.length - (i + 1)) _ _ (by omega) ⟨i + 1, rfl, by omega, ?_, ?_, ?_, ?_, ?_, ?_, ?_, rfl⟩
      · simp only [go_sem, Wk_block, Wk_drawnC, reduceCtorEq, Nat.reduceEqDiff, Nat.reduceAdd, Nat.reduceLeDiff, Nat.reduceLT, Nat.reduceMul, Nat.reduceSub, ↓reduceIte, Int.reduceLT, Int.reduceLE, Int.reduceNeg, Int.reduceAdd, Int.reduceEq, Nat.reduceBneDiff, Nat.reduceBEq, Int.reduceToNat, Int.reduceMul, Int.reduceSub, Int.reduceBEq, Int.reduceBNe, Int.cast_ofNat_Int, Int.toNat_natCast_add_one, Nat.add_left_cancel_iff, Nat.left_eq_add, Nat.add_eq_left, Int.toNat_natCast, Nat.add_assoc, Int.ofNat_lt, Int.ofNat_le]
      · simp only [go_sem, Wk_block, Wk_drawnC, reduceCtorEq, Nat.reduceEqDiff, Nat.reduceAdd, Nat.reduceLeDiff, Nat.reduceLT, Nat.reduceMul, Nat.reduceSub, ↓reduceIte, Int.reduceLT, Int.reduceLE, Int.reduceNeg, Int.reduceAdd, Int.reduceEq, Nat.reduceBneDiff, Nat.reduceBEq, Int.reduceToNat, Int.reduceMul, Int.reduceSub, Int.reduceBEq, Int.reduceBNe, Int.cast_ofNat_Int, Int.toNat_natCast_add_one, Nat.add_left_cancel_iff, Nat.left_eq_add, Nat.add_eq_left, Int.toNat_natCast, Nat.add_assoc, Int.ofNat_lt, Int.ofNat_le, g15]
      · simp only [go_sem, Wk_block, Wk_drawnC, reduceCtorEq, Nat.reduceEqDiff, Nat.reduceAdd, Nat.reduceLeDiff, Nat.reduceLT, Nat.reduceMul, Nat.reduceSub, ↓reduceIte, Int.reduceLT, Int.reduceLE, Int.reduceNeg, Int.reduceAdd, Int.reduceEq, Nat.reduceBneDiff, Nat.reduceBEq, Int.reduceToNat, Int.reduceMul, Int.reduceSub, Int.reduceBEq, Int.reduceBNe, Int.cast_ofNat_Int, Int.toNat_natCast_add_one, Nat.add_left_cancel_iff, Nat.left_eq_add, Nat.add_eq_left, Int.toNat_natCast, Nat.add_assoc, Int.ofNat_lt, Int.ofNat_le, g14]
      · rw [hct2]; simp only [go_sem, Wk_block, Wk_drawnC, reduceCtorEq, Nat.reduceEqDiff, Nat.reduceAdd, Nat.reduceLeDiff, Nat.reduceLT, Nat.reduceMul, Nat.reduceSub, ↓reduceIte, Int.reduceLT, Int.reduceLE, Int.reduceNeg, Int.reduceAdd, Int.reduceEq, Nat.reduceBneDiff, Nat.reduceBEq, Int.reduceToNat, Int.reduceMul, Int.reduceSub, Int.reduceBEq, Int.reduceBNe, Int.cast_ofNat_Int, Int.toNat_natCast_add_one, Nat.add_left_cancel_iff, Nat.left_eq_add, Nat.add_eq_left, Int.toNat_natCast, Nat.add_assoc, Int.ofNat_lt, Int.ofNat_le]
      · simp only [go_sem, Wk_block, Wk_drawnC, reduceCtorEq, Nat.reduceEqDiff, Nat.reduceAdd, Nat.reduceLeDiff, Nat.reduceLT, Nat.reduceMul, Nat.reduceSub, ↓reduceIte, Int.reduceLT, Int.reduceLE, Int.reduceNeg, Int.reduceAdd, Int.reduceEq, Nat.reduceBneDiff, Nat.reduceBEq, Int.reduceToNat, Int.reduceMul, Int.reduceSub, Int.reduceBEq, Int.reduceBNe, Int.cast_ofNat_Int, Int.toNat_natCast_add_one, Nat.add_left_cancel_iff, Nat.left_eq_add, Nat.add_eq_left, Int.toNat_natCast, Nat.add_assoc, Int.ofNat_lt, Int.ofNat_le, g10]
      · simp only [go_sem, Wk_block, Wk_drawnC, reduceCtorEq, Nat.reduceEqDiff, Nat.reduceAdd, Nat.reduceLeDiff, Nat.reduceLT, Nat.reduceMul, Nat.reduceSub, ↓reduceIte, Int.reduceLT, Int.reduceLE, Int.reduceNeg, Int.reduceAdd, Int.reduceEq, Nat.reduceBneDiff, Nat.reduceBEq, Int.reduceToNat, Int.reduceMul, Int.reduceSub, Int.reduceBEq, Int.reduceBNe, Int.cast_ofNat_Int, Int.toNat_natCast_add_one, Nat.add_left_cancel_iff, Nat.left_eq_add, Nat.add_eq_left, Int.toNat_natCast, Nat.add_assoc, Int.ofNat_lt, Int.ofNat_le, g9]
      · simp only [go_sem, Wk_block, Wk_drawnC, reduceCtorEq, Nat.reduceEqDiff, Nat.reduceAdd, Nat.reduceLeDiff, Nat.reduceLT, Nat.reduceMul, Nat.reduceSub, ↓reduceIte, Int.reduceLT, Int.reduceLE, Int.reduceNeg, Int.reduceAdd, Int.reduceEq, Nat.reduceBneDiff, Nat.reduceBEq, Int.reduceToNat, Int.reduceMul, Int.reduceSub, Int.reduceBEq, Int.reduceBNe, Int.cast_ofNat_Int, Int.toNat_natCast_add_one, Nat.add_left_cancel_iff, Nat.left_eq_add, Nat.add_eq_left, Int.toNat_natCast, Nat.add_assoc, Int.ofNat_lt, Int.ofNat_le, g8]
    · have : i = L.length := by omega
      subst this
      rw [List.take_length] at g3
      have hlf : decide ((L.length : Int) < (L.length : Int)) = false := decide_eq_false (by omega)
      simp -implicitDefEqProofs only [go_sem, Wk_block, Wk_drawnC, reduceCtorEq, Nat.reduceEqDiff, Nat.reduceAdd, Nat.reduceLeDiff, Nat.reduceLT, Nat.reduceMul, Nat.reduceSub, ↓reduceIte, Int.reduceLT, Int.reduceLE, Int.reduceNeg, Int.reduceAdd, Int.reduceEq, Nat.reduceBneDiff, Nat.reduceBEq, Int.reduceToNat, Int.reduceMul, Int.reduceSub, Int.reduceBEq, Int.reduceBNe, Int.cast_ofNat_Int, Int.toNat_natCast_add_one, Nat.add_left_cancel_iff, Nat.left_eq_add, Nat.add_eq_left, Int.toNat_natCast, Nat.add_assoc, Int.ofNat_lt, Int.ofNat_le, Nat.lt_add_one_of_lt, Nat.lt_add_one, Nat.lt_add_right, Nat.lt_add_right_iff_pos, Nat.add_lt_add_iff_left, g16, g15, hlf, hlt2, g10, wj]
      refine IH (Ps.length - (j + 1)) _ _ (by omega) ⟨j + 1, rfl, by omega, ?_, ?_, ?_, ?_, rfl⟩
      · simp only [go_sem, Wk_block, Wk_drawnC, reduceCtorEq, Nat.reduceEqDiff, Nat.reduceAdd, Nat.reduceLeDiff, Nat.reduceLT, Nat.reduceMul, Nat.reduceSub, ↓reduceIte, Int.reduceLT, Int.reduceLE, Int.reduceNeg, Int.reduceAdd, Int.reduceEq, Nat.reduceBneDiff, Nat.reduceBEq, Int.reduceToNat, Int.reduceMul, Int.reduceSub, Int.reduceBEq, Int.reduceBNe, Int.cast_ofNat_Int, Int.toNat_natCast_add_one, Nat.add_left_cancel_iff, Nat.left_eq_add, Nat.add_eq_left, Int.toNat_natCast, Nat.add_assoc, Int.ofNat_lt, Int.ofNat_le]
      · simp only [go_sem, Wk_block, Wk_drawnC, reduceCtorEq, Nat.reduceEqDiff, Nat.reduceAdd, Nat.reduceLeDiff, Nat.reduceLT, Nat.reduceMul, Nat.reduceSub, ↓reduceIte, Int.reduceLT, Int.reduceLE, Int.reduceNeg, Int.reduceAdd, Int.reduceEq, Nat.reduceBneDiff, Nat.reduceBEq, Int.reduceToNat, Int.reduceMul, Int.reduceSub, Int.reduceBEq, Int.reduceBNe, Int.cast_ofNat_Int, Int.toNat_natCast_add_one, Nat.add_left_cancel_iff, Nat.left_eq_add, Nat.add_eq_left, Int.toNat_natCast, Nat.add_assoc, Int.ofNat_lt, Int.ofNat_le, g9]
      · simp only [go_sem, Wk_block, Wk_drawnC, reduceCtorEq, Nat.reduceEqDiff, Nat.reduceAdd, Nat.reduceLeDiff, Nat.reduceLT, Nat.reduceMul, Nat.reduceSub, ↓reduceIte, Int.reduceLT, Int.reduceLE, Int.reduceNeg, Int.reduceAdd, Int.reduceEq, Nat.reduceBneDiff, Nat.reduceBEq, Int.reduceToNat, Int.reduceMul, Int.reduceSub, Int.reduceBEq, Int.reduceBNe, Int.cast_ofNat_Int, Int.toNat_natCast_add_one, Nat.add_left_cancel_iff, Nat.left_eq_add, Nat.add_eq_left, Int.toNat_natCast, Nat.add_assoc, Int.ofNat_lt, Int.ofNat_le, g8]
      · rw [hct]; simp only [go_sem, Wk_block, Wk_drawnC, reduceCtorEq, Nat.reduceEqDiff, Nat.reduceAdd, Nat.reduceLeDiff, Nat.reduceLT, Nat.reduceMul, Nat.reduceSub, ↓reduceIte, Int.reduceLT, Int.reduceLE, Int.reduceNeg, Int.reduceAdd, Int.reduceEq, Nat.reduceBneDiff, Nat.reduceBEq, Int.reduceToNat, Int.reduceMul, Int.reduceSub, Int.reduceBEq, Int.reduceBNe, Int.cast_ofNat_Int, Int.toNat_natCast_add_one, Nat.add_left_cancel_iff, Nat.left_eq_add, Nat.add_eq_left, Int.toNat_natCast, Nat.add_assoc, Int.ofNat_lt, Int.ofNat_le, g3]
  · have : j = Ps.length := by omega
    subst this
    rw [List.take_length] at g3
    have hlf : decide ((Ps.length : Int) < (Ps.length : Int)) = false := decide_eq_false (by omega)
    simp -implicitDefEqProofs only [go_sem, Wk_block, Wk_drawnC, reduceCtorEq, Nat.reduceEqDiff, Nat.reduceAdd, Nat.reduceLeDiff, Nat.reduceLT, Nat.reduceMul, Nat.reduceSub, ↓reduceIte, Int.reduceLT, Int.reduceLE, Int.reduceNeg, Int.reduceAdd, Int.reduceEq, Nat.reduceBneDiff, Nat.reduceBEq, Int.reduceToNat, Int.reduceMul, Int.reduceSub, Int.reduceBEq, Int.reduceBNe, Int.cast_ofNat_Int, Int.toNat_natCast_add_one, Nat.add_left_cancel_iff, Nat.left_eq_add, Nat.add_eq_left, Int.toNat_natCast, Nat.add_assoc, Int.ofNat_lt, Int.ofNat_le, Nat.lt_add_one_of_lt, Nat.lt_add_one, Nat.lt_add_right, Nat.lt_add_right_iff_pos, Nat.add_lt_add_iff_left, g10, g9, hlf, hlt, g3]

def small (Ps : List (List Nat)) : Bool := Ps.all fun L => Nat.blt L.length 1000000000
noncomputable def sumOf : List AV → St → Option (AV × St)
  | [.slice b o n _ _], s => match loadA s b o n with
    | some l => match readPs s l with
      | some Ps => if Nat.blt Ps.length 1000000000 && small Ps then some (.int .u32 ((crcP 4294967295 Ps : Nat) : Int), s) else none
      | none => none
    | none => none
  | _, _ => none
theorem sumOf_run {args : List AV} {s s' : St} {v : AV} (h : sumOf args s = some (v, s')) (_ : ∀ b o, s.get b = some o → b < s.next) : Wf mm 112 args s fun v1 s1 => D.Can s v1 s1 v s' := by
  unfold sumOf at h
  split at h
  case h_2 => cases h
  rename_i b o n c lo
  split at h
  case h_2 => cases h
  rename_i l hl
  split at h
  case h_2 => cases h
  rename_i Ps hP
  split at h
  case isFalse => cases h
  rename_i hs
  cases h
  obtain ⟨h1, h2⟩ := readPs_some hP
  obtain ⟨vs, lo2, ro, z, g1, g2, rfl⟩ := loadA_some hl
  have hn : Ps.length = n := by rw [← h1, List.length_take, List.length_drop]; omega
  subst hn
  simp only [Bool.and_eq_true] at hs
  refine Sums_exact (fun _ _ _ _ h => h) (Of_run h1 h2 (fun _ => rfl) (fun j hj => ⟨b, o, vs, lo2, ro, z, fun s' => by rw [idx1_slice hj, Nat.mul_one], g1, ?_⟩) (by simpa using hs.1) fun L hL => ?_)
  · rw [List.getElem?_take_of_lt hj, List.getElem?_drop]
  · have := List.all_eq_true.1 hs.2 L hL
    simpa using this
theorem sumOf_next (args : List AV) (s : St) (v : AV) (s' : St) (hx : sumOf args s = some (v, s')) : s.next ≤ s'.next := by
  unfold sumOf at hx
  repeat' split at hx
  all_goals first
    | (cases hx; done)
    | (cases hx; exact Nat.le_refl _)
end Go.Proofs.YtobogmklajeekaaGreat.Base
