/- The run of a law that asks for nothing, carried out by the kernel. -/
import Derived.Test.YtcemfccabchnjaaGreatZk
import Derived.KernelRfl
namespace Go.Proofs.YtcemfccabchnjaaGreat
open D
set_option maxRecDepth 1000000 in
theorem receiverNames_ran0 : isTrue ((engF mma.FT mma.SM 2000).call 3 [] St.empty) = true := by kernel_rfl
theorem receiverNames_ran : isTrue ((eng mma.FT mma.SM 2000).call 3 [] St.empty) = true := by
  have h := receiverNames_ran0
  rwa [engF_eq] at h
end Go.Proofs.YtcemfccabchnjaaGreat
