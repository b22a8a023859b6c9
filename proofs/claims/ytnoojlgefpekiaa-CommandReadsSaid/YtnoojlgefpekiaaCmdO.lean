/-
  Contracts of commands: Bytes of any command.
-/
import Derived.Test.YtnoojlgefpekiaaCmdK
import Derived.Test.YtnoojlgefpekiaaCmdN
namespace Go.Proofs.Ytnoojlgefpekiaa
open Go.RowKit

/-- the kinds of integers that a command's fields are -/
def Wf (c : Cm) : Prop := (-128 ≤ c.kind ∧ c.kind ≤ 127) ∧ (-128 ≤ c.mode ∧ c.mode ≤ 127)

def bytesS (c : Cm) : ByteArray := if mayC c = true then strB (bytesC c) else strB []
def bytesE (c : Cm) : Int := if mayC c = true then 0 else 2

theorem wrap_small (z : Int) (h1 : -128 ≤ z) (h2 : z ≤ 127) : IntKind.i64.wrap z = z :=
  IntWalk.i64_in z ⟨by omega, by omega⟩

set_option maxHeartbeats 1000000 in
theorem bytes_no (c : Cm) (w : World) (hm : mayC c = false) : Calls Try.prog 24 #[.agg (cC c)] w fun e w' => e = .returned (.tuple #[.string ⟨#[]⟩, .int .i64 2]) ∧ Below w.heap.size w w' := by
  change Calls Try.prog 24 #[.agg #[.int .i8 c.kind, .int .i64 c.node, .int .i64 c.serial, .int .i64 c.dead, .int .i64 c.was, .int .i64 c.lo, .int .i64 c.hi, .int .i8 c.mode]] w _
  have kb := Blk.new (w.alloc (Obj.cells (cC c) 42)) 60 (cO c (.slice none 0 0))
  have hy := may_any (w.heap.size + 1) 60 c (.slice none 0 0) ((w.alloc (Obj.cells (cC c) 42)).alloc (Obj.cells (cO c (.slice none 0 0)) 60)) (by simpa using kb)
  rw [hm] at hy
  have hw : Below w.heap.size w ((w.alloc (Obj.cells (cC c) 42)).alloc (Obj.cells (cO c (.slice none 0 0)) 60)) := ((Below.refl _ _).alloc (Nat.le_refl _) _).alloc (by simp) _
  have HM := Lib.hid hy; have HW := Lib.hid hw
  clear kb hy hw hm
  go_enter Try.func24, Try.ntmps24
  go_wp2_with fail
  refine HM.out.mono ?_
  rintro e w1 ⟨rfl, hb⟩
  go_wp2
  go_ret2
  exact ⟨rfl, HW.out.trans (hb.mono HW.out.size)⟩

theorem bytes_any (c : Cm) (w : World) (h : Wf c) : Calls Try.prog 24 #[.agg (cC c)] w fun e w' => e = .returned (.tuple #[.string (bytesS c), .int .i64 (bytesE c)]) ∧ Below w.heap.size w w' := by
  unfold bytesS bytesE
  cases hm : mayC c with
  | true => exact bytes_yes c w hm (wrap_small _ h.1.1 h.1.2) (wrap_small _ h.2.1 h.2.2)
  | false => exact bytes_no c w hm

end Go.Proofs.Ytnoojlgefpekiaa
