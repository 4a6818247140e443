/- The check that every law of this seat makes first, carried out by the kernel; the machine that knows it. -/
import Derived.Test.YteiiblpnegjjlaaGreatZd
namespace Go.Proofs.YteiiblpnegjjlaaGreat
open D
set_option maxRecDepth 1000000 in
theorem alive_ran0 : isTrue ((engF mm.FT mm.SM 2000).call 6 [] St.empty) = true := by decide +kernel
theorem alive_ran : isTrue ((eng mm.FT mm.SM 2000).call 6 [] St.empty) = true := by
  have h := alive_ran0
  rwa [engF_eq] at h
noncomputable def mma : FMach := ⟨mm.FT, addSum mm.SM 6 aliveSum⟩
end Go.Proofs.YteiiblpnegjjlaaGreat
