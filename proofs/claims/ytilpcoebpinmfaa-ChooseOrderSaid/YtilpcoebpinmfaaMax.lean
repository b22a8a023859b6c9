/-
  The builtin max of two ints, as an operation.
-/
import Derived.Test.YtilpcoebpinmfaaLawLib
namespace Go.Proofs.Ytilpcoebpinmfaa
open Go.RowKit

theorem run_max {ρ : Operand → Value} {dst : Option Tmp} {ty : TypeId} {pos : String} {af : Array Edge} {gd : Option (Nat × Bool)} {w : World} {x y : Nat} {a b : Int} (h1 : ρ (.tmp x) = .int .i64 a) (h2 : ρ (.tmp y) = .int .i64 b) :
    (execOp ρ ⟨dst, .call { callee := .builtin .max, args := #[.tmp x, .tmp y], argTypes := #[3, 3] }, ty, pos, af, gd⟩).run Try.prog w = .ok (.value (.int .i64 (mx a b))) w := by
  unfold mx
  by_cases h : a < b
  · rw [if_pos h]
    simp [go_sem, h1, h2, h]
  · rw [if_neg h]
    simp [go_sem, h1, h2, h]

theorem toList_eq {x y : ByteArray} (h : y.toList = x.toList) : y = x := by
  have e : ∀ z : ByteArray, z.toList = z.data.toList := fun z => ByteArray.toList_eq z
  rw [e, e] at h
  cases x; cases y
  simp at h
  rw [h]

end Go.Proofs.Ytilpcoebpinmfaa
