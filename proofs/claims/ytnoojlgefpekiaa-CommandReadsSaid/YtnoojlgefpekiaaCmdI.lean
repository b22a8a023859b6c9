/-
  Contracts of commands: Mine; and what a command's bytes are.
-/
import Derived.Test.YtnoojlgefpekiaaCmdB
import Derived.Test.YtnoojlgefpekiaaPlain
namespace Go.Proofs.Ytnoojlgefpekiaa
open Go.RowKit

/-- a command's bytes -/
def bytesC (c : Cm) : List UInt8 := putL 1 [c.kind] ++ putL 6 [c.node] ++ putL 4 [c.serial] ++
  (if c.kind = 2 then putL 1 [c.lo, c.hi, c.mode] else if c.kind = 3 then putL 1 [c.lo, c.hi] else if c.kind = 4 then putL 6 [c.dead, c.was] else if c.kind = 5 then putL 6 [c.dead] else [])

def mineB (c : Cm) (k s : Int) : Bool := decide (c.node = k) && decide (c.serial = s)

set_option maxHeartbeats 1000000 in
theorem mine_any (c : Cm) (k s : Int) (w : World) : Calls Try.prog 29 #[.agg (cC c), .int .i64 k, .int .i64 s] w fun e w' => e = .returned (.bool (mineB c k s)) ∧ Below w.heap.size w w' := by
  change Calls Try.prog 29 #[.agg #[.int .i8 c.kind, .int .i64 c.node, .int .i64 c.serial, .int .i64 c.dead, .int .i64 c.was, .int .i64 c.lo, .int .i64 c.hi, .int .i8 c.mode], .int .i64 k, .int .i64 s] w _
  by_cases h1 : c.node = k
  · by_cases h2 : c.serial = s
    · have e : mineB c k s = true := by simp [mineB, h1, h2]
      rw [e]; clear e
      go_enter Try.func29, Try.ntmps29
      go_wp2
      go_ret
      exact ⟨rfl, (Below.refl _ _).alloc (Nat.le_refl _) _⟩
    · have e : mineB c k s = false := by simp [mineB, h2]
      rw [e]; clear e
      have x2 : (c.serial == s) = false := by simp [h2]
      go_enter Try.func29, Try.ntmps29
      go_wp2
      go_ret
      exact ⟨rfl, (Below.refl _ _).alloc (Nat.le_refl _) _⟩
  · have e : mineB c k s = false := by simp [mineB, h1]
    rw [e]; clear e
    have x1 : (c.node == k) = false := by simp [h1]
    go_enter Try.func29, Try.ntmps29
    go_wp2
    go_ret
    exact ⟨rfl, (Below.refl _ _).alloc (Nat.le_refl _) _⟩

end Go.Proofs.Ytnoojlgefpekiaa
