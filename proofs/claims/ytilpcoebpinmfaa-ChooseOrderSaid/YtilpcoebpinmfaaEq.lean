/-
  Two tallies compared.
-/
import Derived.Test.YtilpcoebpinmfaaLoad
namespace Go.Proofs.Ytilpcoebpinmfaa
open Go.RowKit

set_option maxHeartbeats 1000000 in
theorem run_eq_T (t : Ty) (w : World) : (binOp .eql 30 (.agg (tc t)) (.agg (tc t))).run Try.prog w = .ok (.bool true) w := by
  simp [go_sem, tc]
set_option maxHeartbeats 1000000 in
theorem run_ne_T (t : Ty) (w : World) : (binOp .neq 30 (.agg (tc t)) (.agg (tc t))).run Try.prog w = .ok (.bool false) w := by
  simp [go_sem, tc]
end Go.Proofs.Ytilpcoebpinmfaa
