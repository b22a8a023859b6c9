/-
  The reference's May and Bytes, for any command.
-/
import Derived.Test.YtnoojlgefpekiaaCmdY
import Derived.Test.YtnoojlgefpekiaaCmdO
namespace Go.Proofs.Ytnoojlgefpekiaa
open Go.RowKit

set_option maxHeartbeats 1000000 in
theorem rm_key (c : Cm) (w : World) (hn : keyB c.node = false) : Calls Try.prog 36 #[.agg (cC c)] w fun e w2 => e = .returned (.bool false) ∧ Below w.heap.size w w2 := by
  have c1 := fun W => rkey_any c.node W
  rw [hn] at c1
  have C1 := Lib.hid c1
  clear c1 hn
  change Calls Try.prog 36 #[.agg #[.int .i8 c.kind, .int .i64 c.node, .int .i64 c.serial, .int .i64 c.dead, .int .i64 c.was, .int .i64 c.lo, .int .i64 c.hi, .int .i8 c.mode]] w _
  go_enter Try.func36, Try.ntmps36
  go_wp2_with fail
  refine (C1.out _).mono ?_
  rintro e w1 ⟨rfl, rfl⟩
  go_wp2_with fail
  go_ret
  exact ⟨rfl, (Below.refl _ _).alloc (Nat.le_refl _) _⟩

set_option maxHeartbeats 1000000 in
theorem rm_small (c : Cm) (w : World) (hn : keyB c.node = true) (h : c.serial < 1) : Calls Try.prog 36 #[.agg (cC c)] w fun e w2 => e = .returned (.bool false) ∧ Below w.heap.size w w2 := by
  have c1 := fun W => rkey_any c.node W
  rw [hn] at c1
  have C1 := Lib.hid c1
  clear c1 hn
  change Calls Try.prog 36 #[.agg #[.int .i8 c.kind, .int .i64 c.node, .int .i64 c.serial, .int .i64 c.dead, .int .i64 c.was, .int .i64 c.lo, .int .i64 c.hi, .int .i8 c.mode]] w _
  go_enter Try.func36, Try.ntmps36
  go_wp2_with fail
  refine (C1.out _).mono ?_
  rintro e w1 ⟨rfl, rfl⟩
  go_wp2_with fail
  go_ret
  exact ⟨rfl, (Below.refl _ _).alloc (Nat.le_refl _) _⟩

set_option maxHeartbeats 1000000 in
theorem rm_great (c : Cm) (w : World) (hn : keyB c.node = true) (h0 : ¬ c.serial < 1) (h : 2147483648 < c.serial) : Calls Try.prog 36 #[.agg (cC c)] w fun e w2 => e = .returned (.bool false) ∧ Below w.heap.size w w2 := by
  have c1 := fun W => rkey_any c.node W
  rw [hn] at c1
  have C1 := Lib.hid c1
  clear c1 hn
  change Calls Try.prog 36 #[.agg #[.int .i8 c.kind, .int .i64 c.node, .int .i64 c.serial, .int .i64 c.dead, .int .i64 c.was, .int .i64 c.lo, .int .i64 c.hi, .int .i8 c.mode]] w _
  go_enter Try.func36, Try.ntmps36
  go_wp2_with fail
  refine (C1.out _).mono ?_
  rintro e w1 ⟨rfl, rfl⟩
  go_wp2_with fail
  go_ret
  exact ⟨rfl, (Below.refl _ _).alloc (Nat.le_refl _) _⟩

theorem rmay_any (c : Cm) (w : World) : Calls Try.prog 36 #[.agg (cC c)] w fun e w2 => e = .returned (.bool (mayC c)) ∧ Below w.heap.size w w2 := by
  cases hn : keyB c.node with
  | false =>
    have e : mayC c = false := by unfold mayC; simp [hn]
    rw [e]; exact rm_key c w hn
  | true =>
    by_cases h0 : c.serial < 1
    · have e : mayC c = false := by unfold mayC; simp [show ¬ 1 ≤ c.serial by omega]
      rw [e]; exact rm_small c w hn h0
    · by_cases h1 : 2147483648 < c.serial
      · have e : mayC c = false := by unfold mayC; simp [show ¬ c.serial ≤ 2147483648 by omega]
        rw [e]; exact rm_great c w hn h0 h1
      · exact rm_yes c w hn (by omega) (by omega)

theorem rbytes_any (c : Cm) (w : World) : Calls Try.prog 32 #[.agg (cC c)] w fun e w' => e = .returned (.tuple #[.string (bytesS c), .int .i64 (bytesE c)]) ∧ Below w.heap.size w w' := by
  unfold bytesS bytesE
  cases hm : mayC c with
  | true => exact rb_yes c w hm
  | false =>
    have h := rmay_any c (w.alloc (Obj.cells (cC c) 42))
    rw [hm] at h
    exact rb_no c w h

end Go.Proofs.Ytnoojlgefpekiaa
