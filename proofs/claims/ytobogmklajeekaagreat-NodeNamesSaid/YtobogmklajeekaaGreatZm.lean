/- The check that every law of this seat makes first, carried out by the kernel; the machine that knows it. -/
import Derived.Test.YtobogmklajeekaaGreatZl
import Derived.KernelRfl
namespace Go.Proofs.YtobogmklajeekaaGreat
open D
set_option maxRecDepth 1000000 in
theorem alive_ran0 : isTrue ((engF mm.FT mm.SM 2000).call 4 [] St.empty) = true := by kernel_rfl
theorem alive_ran : isTrue ((eng mm.FT mm.SM 2000).call 4 [] St.empty) = true := by
  have h := alive_ran0
  rwa [engF_eq] at h
noncomputable def mma : FMach := ⟨mm.FT, addSum mm.SM 4 aliveSum⟩
set_option maxRecDepth 1000000 in
theorem mma_mixed : Tryz.prog.follows .mixedOrders = true := mm_mixed
set_option maxRecDepth 1000000 in
theorem mma_ft : FnsOk Tryz.prog mma.FT := mm_ft
set_option maxRecDepth 1000000 in
theorem mma_sm : SumsOk Tryz.prog mma.SM := sumsOk_add mm_mixed mm_ft mm_sm mm_sn alive_ran mm_sm
theorem mma_sn : SumsNext mma.SM := sumsNext_add mm_sn _
end Go.Proofs.YtobogmklajeekaaGreat
