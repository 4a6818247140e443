/- The closed facts that join the statement of this law to the program, each by the kernel and each a lemma of its own (together they outgrow the lid). -/
import Derived.Test.YteiiblpnegjjlaaGreatZn
import Derived.Test.YteiiblpnegjjlaaGreatRows
import Derived.KernelRfl
import Derived.JoinedOf
namespace Go.Proofs.YteiiblpnegjjlaaGreat
open Go
theorem and_i {a b : Bool} (ha : a = true) (hb : b = true) : (a && b) = true := by rw [ha, hb]; rfl

set_option maxHeartbeats 0 in
theorem scriptBack_closed : joinedFacts Tryz.prog 4 Tryz.f4 Rows.scriptBackSpec Rows.scriptBackRow = true := by
  unfold joinedFacts
  refine and_i (and_i (and_i (and_i (and_i (and_i (and_i (and_i (and_i (and_i (and_i (and_i (and_i (and_i (and_i (and_i (and_i (and_i (and_i (and_i (and_i (and_i (and_i (and_i (and_i (and_i (and_i (and_i (and_i (and_i (and_i ?_ ?_) ?_) ?_) ?_) ?_) ?_) ?_) ?_) ?_) ?_) ?_) ?_) ?_) ?_) ?_) ?_) ?_) ?_) ?_) ?_) ?_) ?_) ?_) ?_) ?_) ?_) ?_) ?_) ?_) ?_) ?_
  all_goals (as_aux_lemma => kernel_rfl)

theorem scriptBack_named : Tryz.prog.funcNamed Rows.scriptBackRow.func = some 4 := by kernel_rfl
end Go.Proofs.YteiiblpnegjjlaaGreat
