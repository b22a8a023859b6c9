/-
  Contracts of commands: May.
-/
import Derived.Test.YtnoojlgefpekiaaCmdE
namespace Go.Proofs.Ytnoojlgefpekiaa
open Go.RowKit

set_option maxHeartbeats 1000000 in
theorem mayc_any (c : Cm) (w : World) : Calls Try.prog 25 #[.agg (cC c)] w fun e w' => e = .returned (.bool (mayC c)) ∧ Below w.heap.size w w' := by
  change Calls Try.prog 25 #[.agg #[.int .i8 c.kind, .int .i64 c.node, .int .i64 c.serial, .int .i64 c.dead, .int .i64 c.was, .int .i64 c.lo, .int .i64 c.hi, .int .i8 c.mode]] w _
  have kb := Blk.new (w.alloc (Obj.cells (cC c) 42)) 60 (cO c (.slice none 0 0))
  have hm := may_any (w.heap.size + 1) 60 c (.slice none 0 0) ((w.alloc (Obj.cells (cC c) 42)).alloc (Obj.cells (cO c (.slice none 0 0)) 60)) (by simpa using kb)
  have hw : Below w.heap.size w ((w.alloc (Obj.cells (cC c) 42)).alloc (Obj.cells (cO c (.slice none 0 0)) 60)) := ((Below.refl _ _).alloc (Nat.le_refl _) _).alloc (by simp) _
  have HM := Lib.hid hm; have HW := Lib.hid hw
  clear kb hm hw
  go_enter Try.func25, Try.ntmps25
  go_wp2_with fail
  refine HM.out.mono ?_
  rintro e w1 ⟨rfl, hb⟩
  go_wp2
  go_ret
  exact ⟨rfl, HW.out.trans (hb.mono HW.out.size)⟩

end Go.Proofs.Ytnoojlgefpekiaa
