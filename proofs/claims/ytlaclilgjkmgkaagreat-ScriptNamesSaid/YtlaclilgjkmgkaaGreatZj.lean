/- The run of a law that asks for nothing, carried out by the kernel. -/
import Derived.Test.YtlaclilgjkmgkaaGreatZi
import Derived.KernelRfl
namespace Go.Proofs.YtlaclilgjkmgkaaGreat
open D
set_option maxRecDepth 1000000 in
theorem scriptNames_ran0 : isTrue ((engF mm.FT mm.SM 2000).call 3 [] St.empty) = true := by kernel_rfl
theorem scriptNames_ran : isTrue ((eng mm.FT mm.SM 2000).call 3 [] St.empty) = true := by
  have h := scriptNames_ran0
  rwa [engF_eq] at h
end Go.Proofs.YtlaclilgjkmgkaaGreat
