/- The run of a law that asks for nothing, carried out by the kernel. -/
import Derived.Test.YtobogmklajeekaaGreatZm
import Derived.KernelRfl
namespace Go.Proofs.YtobogmklajeekaaGreat
open D
set_option maxRecDepth 1000000 in
theorem nodeNames_ran0 : isTrue ((engF mma.FT mma.SM 2000).call 3 [] St.empty) = true := by kernel_rfl
theorem nodeNames_ran : isTrue ((eng mma.FT mma.SM 2000).call 3 [] St.empty) = true := by
  have h := nodeNames_ran0
  rwa [engF_eq] at h
end Go.Proofs.YtobogmklajeekaaGreat
