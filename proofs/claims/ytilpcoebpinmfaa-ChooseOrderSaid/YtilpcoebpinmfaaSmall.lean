/-
  Contracts of choose's Stops and Value.
-/
import Derived.Test.YtilpcoebpinmfaaTally
namespace Go.Proofs.Ytilpcoebpinmfaa
open Go.RowKit

set_option maxHeartbeats 400000 in
/-- Stops -/
theorem stops_any (a b c s : Int) (v : ByteArray) (x y : Bool) (w : World) :
    Calls Try.prog 14 #[.agg #[.int .i64 a, .int .i64 b, .int .i64 c, .string v, .int .i64 s, .bool x, .bool y]] w fun e w' => e = .returned (.bool (x || y)) ∧ Below w.heap.size w w' := by
  cases x <;> cases y
  all_goals
    go_enter Try.func14, Try.ntmps14
    go_wp2
    refine bodyPost_ret (by simp [results, Try.results14, go_sem]) rfl ⟨rfl, (Below.refl _ _).alloc (Nat.le_refl _) _⟩

set_option maxHeartbeats 400000 in
/-- Value -/
theorem value_any (a b c s : Int) (v z : ByteArray) (x y : Bool) (w : World) :
    Calls Try.prog 16 #[.agg #[.int .i64 a, .int .i64 b, .int .i64 c, .string v, .int .i64 s, .bool x, .bool y], .string z] w fun e w' => e = .returned (.string (if 0 < c then v else z)) ∧ Below w.heap.size w w' := by
  by_cases hc : 0 < c
  · rw [if_pos hc]
    go_enter Try.func16, Try.ntmps16
    go_wp2
    refine bodyPost_ret (v := .string v) (by simp [results, Try.results16, go_sem]) rfl ⟨rfl, (Below.refl _ _).alloc (Nat.le_refl _) _⟩
  · rw [if_neg hc]
    go_enter Try.func16, Try.ntmps16
    go_wp2
    refine bodyPost_ret (v := .string z) (by simp [results, Try.results16, go_sem]) rfl ⟨rfl, (Below.refl _ _).alloc (Nat.le_refl _) _⟩

end Go.Proofs.Ytilpcoebpinmfaa
