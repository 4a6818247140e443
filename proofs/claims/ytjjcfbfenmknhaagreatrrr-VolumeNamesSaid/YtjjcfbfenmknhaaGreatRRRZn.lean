/- The run of a law that asks for nothing, carried out by the kernel. -/
import Derived.Test.YtjjcfbfenmknhaaGreatRRRZm
import Derived.KernelRfl
namespace Go.Proofs.YtjjcfbfenmknhaaGreatRRR
open D
set_option maxRecDepth 1000000 in
theorem volumeNames_ran0 : isTrue ((engF mma.FT mma.SM 2000).call 3 [] St.empty) = true := by kernel_rfl
theorem volumeNames_ran : isTrue ((eng mma.FT mma.SM 2000).call 3 [] St.empty) = true := by
  have h := volumeNames_ran0
  rwa [engF_eq] at h
end Go.Proofs.YtjjcfbfenmknhaaGreatRRR
