/- The run of a law that asks for nothing, carried out by the kernel. -/
import Derived.Test.YtcaofhdlekjooaaGreatZi
namespace Go.Proofs.YtcaofhdlekjooaaGreat
open D
set_option maxRecDepth 1000000 in
theorem pairNames_ran0 : isTrue ((engF mma.FT mma.SM 2000).call 3 [] St.empty) = true := by decide +kernel
theorem pairNames_ran : isTrue ((eng mma.FT mma.SM 2000).call 3 [] St.empty) = true := by
  have h := pairNames_ran0
  rwa [engF_eq] at h
end Go.Proofs.YtcaofhdlekjooaaGreat
