/- The closed facts that join the statement of this law to the program, each by the kernel and each a lemma of its own (together they outgrow the lid). -/
import Derived.Test.YteiiblpnegjjlaaGreatZo
import Derived.Test.YteiiblpnegjjlaaGreatRows
import Derived.KernelRfl
import Derived.JoinedOf
namespace Go.Proofs.YteiiblpnegjjlaaGreat
open Go
theorem and_i {a b : Bool} (ha : a = true) (hb : b = true) : (a && b) = true := by rw [ha, hb]; rfl

set_option maxHeartbeats 0 in
theorem scriptReads_closed : joinedFacts Tryz.prog 3 Tryz.f3 Rows.scriptReadsSpec Rows.scriptReadsRow = true := by
  unfold joinedFacts
  refine and_i (and_i (and_i (and_i (and_i (and_i (and_i (and_i (and_i (and_i (and_i (and_i (and_i (and_i (and_i (and_i (and_i (and_i (and_i (and_i (and_i (and_i (and_i (and_i (and_i (and_i (and_i (and_i (and_i (and_i (and_i ?_ ?_) ?_) ?_) ?_) ?_) ?_) ?_) ?_) ?_) ?_) ?_) ?_) ?_) ?_) ?_) ?_) ?_) ?_) ?_) ?_) ?_) ?_) ?_) ?_) ?_) ?_) ?_) ?_) ?_) ?_) ?_
  all_goals (as_aux_lemma => kernel_rfl)

theorem scriptReads_named : Tryz.prog.funcNamed Rows.scriptReadsRow.func = some 3 := by kernel_rfl
end Go.Proofs.YteiiblpnegjjlaaGreat
