/-
  The walk of breakwaterlaw10.CommandOther. (Printed by cmd_other.py.)
-/
import Derived.Test.YtnoojlgefpekiaaCmdR
import Derived.Deep.Cut
namespace Go.Proofs.Ytnoojlgefpekiaa
open Go.RowKit

/-- whether two commands are the same -/
def eqC (c d : Cm) : Bool := decide (c.kind = d.kind) && decide (c.node = d.node) && decide (c.serial = d.serial) && decide (c.dead = d.dead) && decide (c.was = d.was) && decide (c.lo = d.lo) && decide (c.hi = d.hi) && decide (c.mode = d.mode)
theorem eqC_iff (c d : Cm) : eqC c d = true ↔ c = d := by
  rcases c with ⟨a0, a1, a2, a3, a4, a5, a6, a7⟩
  rcases d with ⟨b0, b1, b2, b3, b4, b5, b6, b7⟩
  simp [eqC, and_assoc]
theorem eqC_self (c : Cm) : eqC c c = true := (eqC_iff c c).2 rfl

set_option maxHeartbeats 1000000 in
theorem run_eqC (c d : Cm) (w : World) : (binOp .eql 42 (.agg (cC c)) (.agg (cC d))).run Try.prog w = .ok (.bool (eqC c d)) w := by
  simp only [cC, eqC]
  generalize c.kind = a0, c.node = a1, c.serial = a2, c.dead = a3, c.was = a4, c.lo = a5, c.hi = a6, c.mode = a7
  generalize d.kind = b0, d.node = b1, d.serial = b2, d.dead = b3, d.was = b4, d.lo = b5, d.hi = b6, d.mode = b7
  simp [go_sem]
  by_cases h0 : a0 = b0
  case neg => simp [h0]
  subst h0
  simp only [if_true, decide_true, Bool.true_and]
  by_cases h1 : a1 = b1
  case neg => simp [h1]
  subst h1
  simp only [if_true, decide_true, Bool.true_and]
  by_cases h2 : a2 = b2
  case neg => simp [h2]
  subst h2
  simp only [if_true, decide_true, Bool.true_and]
  by_cases h3 : a3 = b3
  case neg => simp [h3]
  subst h3
  simp only [if_true, decide_true, Bool.true_and]
  by_cases h4 : a4 = b4
  case neg => simp [h4]
  subst h4
  simp only [if_true, decide_true, Bool.true_and]
  by_cases h5 : a5 = b5
  case neg => simp [h5]
  subst h5
  simp only [if_true, decide_true, Bool.true_and]
  by_cases h6 : a6 = b6
  case neg => simp [h6]
  subst h6
  simp only [if_true, decide_true, Bool.true_and]
  by_cases h7 : a7 = b7
  case neg => simp [h7]
  subst h7
  simp only [if_true, decide_true]

set_option maxHeartbeats 1000000 in
theorem co_A (c d : Cm) (n : Int) (w : World) (hc : Wf c) (hd : Wf d) (h1 : bytesE c = 2) :
    Calls Try.prog 10 #[.agg (cC c), .agg (cC d), .int .i64 n] w fun e w' => e = .returned (.bool true) ∧ Below w.heap.size w w' := by
  have c1 := fun W => bytes_any c W hc
  have c2 := fun W => bytes_any d W hd
  simp only [cC] at c1 c2
  obtain ⟨S, hS⟩ : ∃ S, bytesS c = S := ⟨_, rfl⟩
  obtain ⟨T, hT⟩ : ∃ T, bytesS d = T := ⟨_, rfl⟩
  rw [hS, h1] at c1
  rw [hT] at c2
  have C1 := Lib.hid c1; have C2 := Lib.hid c2
  clear c1 c2
  obtain ⟨W0, hW0⟩ : ∃ W0, W0 = (w.alloc (Obj.cells (cC c) 42)).alloc (Obj.cells (cC d) 42) := ⟨_, rfl⟩
  have k1 : Blk W0 w.heap.size 42 (cC c) := by rw [hW0]; exact (Blk.new w 42 (cC c)).alloc _
  have k2 : Blk W0 (w.heap.size + 1) 42 (cC d) := by rw [hW0]; simpa using Blk.new (w.alloc (Obj.cells (cC c) 42)) 42 (cC d)
  have k3 : Below w.heap.size w W0 := by rw [hW0]; exact ((Below.refl _ _).alloc (Nat.le_refl _) _).alloc (by simp) _
  have K1 := Lib.hid k1; have K2 := Lib.hid k2; have K3 := Lib.hid k3; have HW0 := Lib.hid hW0
  clear k1 k2 k3 hW0
  simp only [cC] at HW0
  change Calls Try.prog 10 #[.agg #[Value.int IntKind.i8 c.kind, Value.int IntKind.i64 c.node, Value.int IntKind.i64 c.serial, Value.int IntKind.i64 c.dead, Value.int IntKind.i64 c.was, Value.int IntKind.i64 c.lo, Value.int IntKind.i64 c.hi, Value.int IntKind.i8 c.mode], .agg #[Value.int IntKind.i8 d.kind, Value.int IntKind.i64 d.node, Value.int IntKind.i64 d.serial, Value.int IntKind.i64 d.dead, Value.int IntKind.i64 d.was, Value.int IntKind.i64 d.lo, Value.int IntKind.i64 d.hi, Value.int IntKind.i8 d.mode], .int .i64 n] w _
  clear hS hT
  clear h1 hc hd
  go_enter Try.func10, Try.ntmps10
  go_wp2_with fail
  rw [← HW0.out]
  refine (C1.out _).mono ?_
  rintro e w1 ⟨rfl, b1⟩
  have K11 := Lib.hid (K1.out.below b1 K1.out.lt); have K21 := Lib.hid (K2.out.below b1 K2.out.lt); have K31 := Lib.hid (K3.out.trans (b1.mono K3.out.size))
  clear b1 K1 K2 K3 HW0 C1
  have p0 : w1.cell? ⟨w.heap.size + 1, 0, none⟩ = some (.int .i8 d.kind) := by rw [K21.out.cell 0]; rfl
  have p1 : w1.cell? ⟨w.heap.size + 1, 1, none⟩ = some (.int .i64 d.node) := by rw [K21.out.cell 1]; rfl
  have p2 : w1.cell? ⟨w.heap.size + 1, 2, none⟩ = some (.int .i64 d.serial) := by rw [K21.out.cell 2]; rfl
  have p3 : w1.cell? ⟨w.heap.size + 1, 3, none⟩ = some (.int .i64 d.dead) := by rw [K21.out.cell 3]; rfl
  have p4 : w1.cell? ⟨w.heap.size + 1, 4, none⟩ = some (.int .i64 d.was) := by rw [K21.out.cell 4]; rfl
  have p5 : w1.cell? ⟨w.heap.size + 1, 5, none⟩ = some (.int .i64 d.lo) := by rw [K21.out.cell 5]; rfl
  have p6 : w1.cell? ⟨w.heap.size + 1, 6, none⟩ = some (.int .i64 d.hi) := by rw [K21.out.cell 6]; rfl
  have p7 : w1.cell? ⟨w.heap.size + 1, 7, none⟩ = some (.int .i8 d.mode) := by rw [K21.out.cell 7]; rfl
  go_wp2_with fail
  refine (C2.out _).mono ?_
  rintro e w2 ⟨rfl, b2⟩
  have K12 := Lib.hid (K11.out.below b2 K11.out.lt); have K22 := Lib.hid (K21.out.below b2 K21.out.lt); have K32 := Lib.hid (K31.out.trans (b2.mono K31.out.size))
  clear b2 K11 K21 K31 p0 p1 p2 p3 p4 p5 p6 p7 C2
  have p0 : w2.cell? ⟨w.heap.size + 1, 0, none⟩ = some (.int .i8 d.kind) := by rw [K22.out.cell 0]; rfl
  have p1 : w2.cell? ⟨w.heap.size + 1, 1, none⟩ = some (.int .i64 d.node) := by rw [K22.out.cell 1]; rfl
  have p2 : w2.cell? ⟨w.heap.size + 1, 2, none⟩ = some (.int .i64 d.serial) := by rw [K22.out.cell 2]; rfl
  have p3 : w2.cell? ⟨w.heap.size + 1, 3, none⟩ = some (.int .i64 d.dead) := by rw [K22.out.cell 3]; rfl
  have p4 : w2.cell? ⟨w.heap.size + 1, 4, none⟩ = some (.int .i64 d.was) := by rw [K22.out.cell 4]; rfl
  have p5 : w2.cell? ⟨w.heap.size + 1, 5, none⟩ = some (.int .i64 d.lo) := by rw [K22.out.cell 5]; rfl
  have p6 : w2.cell? ⟨w.heap.size + 1, 6, none⟩ = some (.int .i64 d.hi) := by rw [K22.out.cell 6]; rfl
  have p7 : w2.cell? ⟨w.heap.size + 1, 7, none⟩ = some (.int .i8 d.mode) := by rw [K22.out.cell 7]; rfl
  have q0 : w2.cell? ⟨w.heap.size, 0, none⟩ = some (.int .i8 c.kind) := by rw [K12.out.cell 0]; rfl
  have q1 : w2.cell? ⟨w.heap.size, 1, none⟩ = some (.int .i64 c.node) := by rw [K12.out.cell 1]; rfl
  have q2 : w2.cell? ⟨w.heap.size, 2, none⟩ = some (.int .i64 c.serial) := by rw [K12.out.cell 2]; rfl
  have q3 : w2.cell? ⟨w.heap.size, 3, none⟩ = some (.int .i64 c.dead) := by rw [K12.out.cell 3]; rfl
  have q4 : w2.cell? ⟨w.heap.size, 4, none⟩ = some (.int .i64 c.was) := by rw [K12.out.cell 4]; rfl
  have q5 : w2.cell? ⟨w.heap.size, 5, none⟩ = some (.int .i64 c.lo) := by rw [K12.out.cell 5]; rfl
  have q6 : w2.cell? ⟨w.heap.size, 6, none⟩ = some (.int .i64 c.hi) := by rw [K12.out.cell 6]; rfl
  have q7 : w2.cell? ⟨w.heap.size, 7, none⟩ = some (.int .i8 c.mode) := by rw [K12.out.cell 7]; rfl
  go_wp2_with fail
  refine (wakes_cmd w2).mono ?_
  rintro e w9 ⟨rfl, b9⟩
  go_wp2
  go_ret
  exact ⟨rfl, K32.out.trans (b9.mono K32.out.size)⟩

set_option maxHeartbeats 1000000 in
theorem co_Bz (c d : Cm) (n : Int) (w : World) (hc : Wf c) (hd : Wf d) (h1 : bytesE c = 0) (h2 : bytesE d = 2) (n0 : (n == 0) = true) :
    Calls Try.prog 10 #[.agg (cC c), .agg (cC d), .int .i64 n] w fun e w' => e = .returned (.bool true) ∧ Below w.heap.size w w' := by
  have c1 := fun W => bytes_any c W hc
  have c2 := fun W => bytes_any d W hd
  simp only [cC] at c1 c2
  obtain ⟨S, hS⟩ : ∃ S, bytesS c = S := ⟨_, rfl⟩
  obtain ⟨T, hT⟩ : ∃ T, bytesS d = T := ⟨_, rfl⟩
  rw [hS, h1] at c1
  rw [hT, h2] at c2
  have C1 := Lib.hid c1; have C2 := Lib.hid c2
  clear c1 c2
  obtain ⟨W0, hW0⟩ : ∃ W0, W0 = (w.alloc (Obj.cells (cC c) 42)).alloc (Obj.cells (cC d) 42) := ⟨_, rfl⟩
  have k1 : Blk W0 w.heap.size 42 (cC c) := by rw [hW0]; exact (Blk.new w 42 (cC c)).alloc _
  have k2 : Blk W0 (w.heap.size + 1) 42 (cC d) := by rw [hW0]; simpa using Blk.new (w.alloc (Obj.cells (cC c) 42)) 42 (cC d)
  have k3 : Below w.heap.size w W0 := by rw [hW0]; exact ((Below.refl _ _).alloc (Nat.le_refl _) _).alloc (by simp) _
  have K1 := Lib.hid k1; have K2 := Lib.hid k2; have K3 := Lib.hid k3; have HW0 := Lib.hid hW0
  clear k1 k2 k3 hW0
  simp only [cC] at HW0
  change Calls Try.prog 10 #[.agg #[Value.int IntKind.i8 c.kind, Value.int IntKind.i64 c.node, Value.int IntKind.i64 c.serial, Value.int IntKind.i64 c.dead, Value.int IntKind.i64 c.was, Value.int IntKind.i64 c.lo, Value.int IntKind.i64 c.hi, Value.int IntKind.i8 c.mode], .agg #[Value.int IntKind.i8 d.kind, Value.int IntKind.i64 d.node, Value.int IntKind.i64 d.serial, Value.int IntKind.i64 d.dead, Value.int IntKind.i64 d.was, Value.int IntKind.i64 d.lo, Value.int IntKind.i64 d.hi, Value.int IntKind.i8 d.mode], .int .i64 n] w _
  clear hS hT
  clear h1 h2 hc hd
  go_enter Try.func10, Try.ntmps10
  go_wp2_with fail
  rw [← HW0.out]
  refine (C1.out _).mono ?_
  rintro e w1 ⟨rfl, b1⟩
  have K11 := Lib.hid (K1.out.below b1 K1.out.lt); have K21 := Lib.hid (K2.out.below b1 K2.out.lt); have K31 := Lib.hid (K3.out.trans (b1.mono K3.out.size))
  clear b1 K1 K2 K3 HW0 C1
  have p0 : w1.cell? ⟨w.heap.size + 1, 0, none⟩ = some (.int .i8 d.kind) := by rw [K21.out.cell 0]; rfl
  have p1 : w1.cell? ⟨w.heap.size + 1, 1, none⟩ = some (.int .i64 d.node) := by rw [K21.out.cell 1]; rfl
  have p2 : w1.cell? ⟨w.heap.size + 1, 2, none⟩ = some (.int .i64 d.serial) := by rw [K21.out.cell 2]; rfl
  have p3 : w1.cell? ⟨w.heap.size + 1, 3, none⟩ = some (.int .i64 d.dead) := by rw [K21.out.cell 3]; rfl
  have p4 : w1.cell? ⟨w.heap.size + 1, 4, none⟩ = some (.int .i64 d.was) := by rw [K21.out.cell 4]; rfl
  have p5 : w1.cell? ⟨w.heap.size + 1, 5, none⟩ = some (.int .i64 d.lo) := by rw [K21.out.cell 5]; rfl
  have p6 : w1.cell? ⟨w.heap.size + 1, 6, none⟩ = some (.int .i64 d.hi) := by rw [K21.out.cell 6]; rfl
  have p7 : w1.cell? ⟨w.heap.size + 1, 7, none⟩ = some (.int .i8 d.mode) := by rw [K21.out.cell 7]; rfl
  go_wp2_with fail
  refine (C2.out _).mono ?_
  rintro e w2 ⟨rfl, b2⟩
  have K12 := Lib.hid (K11.out.below b2 K11.out.lt); have K22 := Lib.hid (K21.out.below b2 K21.out.lt); have K32 := Lib.hid (K31.out.trans (b2.mono K31.out.size))
  clear b2 K11 K21 K31 p0 p1 p2 p3 p4 p5 p6 p7 C2
  have p0 : w2.cell? ⟨w.heap.size + 1, 0, none⟩ = some (.int .i8 d.kind) := by rw [K22.out.cell 0]; rfl
  have p1 : w2.cell? ⟨w.heap.size + 1, 1, none⟩ = some (.int .i64 d.node) := by rw [K22.out.cell 1]; rfl
  have p2 : w2.cell? ⟨w.heap.size + 1, 2, none⟩ = some (.int .i64 d.serial) := by rw [K22.out.cell 2]; rfl
  have p3 : w2.cell? ⟨w.heap.size + 1, 3, none⟩ = some (.int .i64 d.dead) := by rw [K22.out.cell 3]; rfl
  have p4 : w2.cell? ⟨w.heap.size + 1, 4, none⟩ = some (.int .i64 d.was) := by rw [K22.out.cell 4]; rfl
  have p5 : w2.cell? ⟨w.heap.size + 1, 5, none⟩ = some (.int .i64 d.lo) := by rw [K22.out.cell 5]; rfl
  have p6 : w2.cell? ⟨w.heap.size + 1, 6, none⟩ = some (.int .i64 d.hi) := by rw [K22.out.cell 6]; rfl
  have p7 : w2.cell? ⟨w.heap.size + 1, 7, none⟩ = some (.int .i8 d.mode) := by rw [K22.out.cell 7]; rfl
  have q0 : w2.cell? ⟨w.heap.size, 0, none⟩ = some (.int .i8 c.kind) := by rw [K12.out.cell 0]; rfl
  have q1 : w2.cell? ⟨w.heap.size, 1, none⟩ = some (.int .i64 c.node) := by rw [K12.out.cell 1]; rfl
  have q2 : w2.cell? ⟨w.heap.size, 2, none⟩ = some (.int .i64 c.serial) := by rw [K12.out.cell 2]; rfl
  have q3 : w2.cell? ⟨w.heap.size, 3, none⟩ = some (.int .i64 c.dead) := by rw [K12.out.cell 3]; rfl
  have q4 : w2.cell? ⟨w.heap.size, 4, none⟩ = some (.int .i64 c.was) := by rw [K12.out.cell 4]; rfl
  have q5 : w2.cell? ⟨w.heap.size, 5, none⟩ = some (.int .i64 c.lo) := by rw [K12.out.cell 5]; rfl
  have q6 : w2.cell? ⟨w.heap.size, 6, none⟩ = some (.int .i64 c.hi) := by rw [K12.out.cell 6]; rfl
  have q7 : w2.cell? ⟨w.heap.size, 7, none⟩ = some (.int .i8 c.mode) := by rw [K12.out.cell 7]; rfl
  go_wp2_with fail
  refine (wakes_cmd w2).mono ?_
  rintro e w9 ⟨rfl, b9⟩
  go_wp2
  go_ret
  exact ⟨rfl, K32.out.trans (b9.mono K32.out.size)⟩

set_option maxHeartbeats 1000000 in
theorem co_Ez (c : Cm) (n : Int) (w : World) (hc : Wf c) (hd : Wf c) (h1 : bytesE c = 0) (h2 : bytesE c = 0) (n0 : (n == 0) = true) :
    Calls Try.prog 10 #[.agg (cC c), .agg (cC c), .int .i64 n] w fun e w' => e = .returned (.bool true) ∧ Below w.heap.size w w' := by
  have c1 := fun W => bytes_any c W hc
  have c2 := fun W => bytes_any c W hd
  simp only [cC] at c1 c2
  obtain ⟨S, hS⟩ : ∃ S, bytesS c = S := ⟨_, rfl⟩
  obtain ⟨T, hT⟩ : ∃ T, bytesS c = T := ⟨_, rfl⟩
  rw [hS, h1] at c1
  rw [hT, h2] at c2
  have C1 := Lib.hid c1; have C2 := Lib.hid c2
  clear c1 c2
  obtain ⟨W0, hW0⟩ : ∃ W0, W0 = (w.alloc (Obj.cells (cC c) 42)).alloc (Obj.cells (cC c) 42) := ⟨_, rfl⟩
  have k1 : Blk W0 w.heap.size 42 (cC c) := by rw [hW0]; exact (Blk.new w 42 (cC c)).alloc _
  have k2 : Blk W0 (w.heap.size + 1) 42 (cC c) := by rw [hW0]; simpa using Blk.new (w.alloc (Obj.cells (cC c) 42)) 42 (cC c)
  have k3 : Below w.heap.size w W0 := by rw [hW0]; exact ((Below.refl _ _).alloc (Nat.le_refl _) _).alloc (by simp) _
  have K1 := Lib.hid k1; have K2 := Lib.hid k2; have K3 := Lib.hid k3; have HW0 := Lib.hid hW0
  clear k1 k2 k3 hW0
  simp only [cC] at HW0
  change Calls Try.prog 10 #[.agg #[Value.int IntKind.i8 c.kind, Value.int IntKind.i64 c.node, Value.int IntKind.i64 c.serial, Value.int IntKind.i64 c.dead, Value.int IntKind.i64 c.was, Value.int IntKind.i64 c.lo, Value.int IntKind.i64 c.hi, Value.int IntKind.i8 c.mode], .agg #[Value.int IntKind.i8 c.kind, Value.int IntKind.i64 c.node, Value.int IntKind.i64 c.serial, Value.int IntKind.i64 c.dead, Value.int IntKind.i64 c.was, Value.int IntKind.i64 c.lo, Value.int IntKind.i64 c.hi, Value.int IntKind.i8 c.mode], .int .i64 n] w _
  obtain rfl : S = T := hS.symm.trans hT
  clear hS hT
  clear h1 h2 hc hd
  go_enter Try.func10, Try.ntmps10
  go_wp2_with fail
  rw [← HW0.out]
  refine (C1.out _).mono ?_
  rintro e w1 ⟨rfl, b1⟩
  have K11 := Lib.hid (K1.out.below b1 K1.out.lt); have K21 := Lib.hid (K2.out.below b1 K2.out.lt); have K31 := Lib.hid (K3.out.trans (b1.mono K3.out.size))
  clear b1 K1 K2 K3 HW0 C1
  have p0 : w1.cell? ⟨w.heap.size + 1, 0, none⟩ = some (.int .i8 c.kind) := by rw [K21.out.cell 0]; rfl
  have p1 : w1.cell? ⟨w.heap.size + 1, 1, none⟩ = some (.int .i64 c.node) := by rw [K21.out.cell 1]; rfl
  have p2 : w1.cell? ⟨w.heap.size + 1, 2, none⟩ = some (.int .i64 c.serial) := by rw [K21.out.cell 2]; rfl
  have p3 : w1.cell? ⟨w.heap.size + 1, 3, none⟩ = some (.int .i64 c.dead) := by rw [K21.out.cell 3]; rfl
  have p4 : w1.cell? ⟨w.heap.size + 1, 4, none⟩ = some (.int .i64 c.was) := by rw [K21.out.cell 4]; rfl
  have p5 : w1.cell? ⟨w.heap.size + 1, 5, none⟩ = some (.int .i64 c.lo) := by rw [K21.out.cell 5]; rfl
  have p6 : w1.cell? ⟨w.heap.size + 1, 6, none⟩ = some (.int .i64 c.hi) := by rw [K21.out.cell 6]; rfl
  have p7 : w1.cell? ⟨w.heap.size + 1, 7, none⟩ = some (.int .i8 c.mode) := by rw [K21.out.cell 7]; rfl
  go_wp2_with fail
  refine (C2.out _).mono ?_
  rintro e w2 ⟨rfl, b2⟩
  have K12 := Lib.hid (K11.out.below b2 K11.out.lt); have K22 := Lib.hid (K21.out.below b2 K21.out.lt); have K32 := Lib.hid (K31.out.trans (b2.mono K31.out.size))
  clear b2 K11 K21 K31 p0 p1 p2 p3 p4 p5 p6 p7 C2
  have p0 : w2.cell? ⟨w.heap.size + 1, 0, none⟩ = some (.int .i8 c.kind) := by rw [K22.out.cell 0]; rfl
  have p1 : w2.cell? ⟨w.heap.size + 1, 1, none⟩ = some (.int .i64 c.node) := by rw [K22.out.cell 1]; rfl
  have p2 : w2.cell? ⟨w.heap.size + 1, 2, none⟩ = some (.int .i64 c.serial) := by rw [K22.out.cell 2]; rfl
  have p3 : w2.cell? ⟨w.heap.size + 1, 3, none⟩ = some (.int .i64 c.dead) := by rw [K22.out.cell 3]; rfl
  have p4 : w2.cell? ⟨w.heap.size + 1, 4, none⟩ = some (.int .i64 c.was) := by rw [K22.out.cell 4]; rfl
  have p5 : w2.cell? ⟨w.heap.size + 1, 5, none⟩ = some (.int .i64 c.lo) := by rw [K22.out.cell 5]; rfl
  have p6 : w2.cell? ⟨w.heap.size + 1, 6, none⟩ = some (.int .i64 c.hi) := by rw [K22.out.cell 6]; rfl
  have p7 : w2.cell? ⟨w.heap.size + 1, 7, none⟩ = some (.int .i8 c.mode) := by rw [K22.out.cell 7]; rfl
  have q0 : w2.cell? ⟨w.heap.size, 0, none⟩ = some (.int .i8 c.kind) := by rw [K12.out.cell 0]; rfl
  have q1 : w2.cell? ⟨w.heap.size, 1, none⟩ = some (.int .i64 c.node) := by rw [K12.out.cell 1]; rfl
  have q2 : w2.cell? ⟨w.heap.size, 2, none⟩ = some (.int .i64 c.serial) := by rw [K12.out.cell 2]; rfl
  have q3 : w2.cell? ⟨w.heap.size, 3, none⟩ = some (.int .i64 c.dead) := by rw [K12.out.cell 3]; rfl
  have q4 : w2.cell? ⟨w.heap.size, 4, none⟩ = some (.int .i64 c.was) := by rw [K12.out.cell 4]; rfl
  have q5 : w2.cell? ⟨w.heap.size, 5, none⟩ = some (.int .i64 c.lo) := by rw [K12.out.cell 5]; rfl
  have q6 : w2.cell? ⟨w.heap.size, 6, none⟩ = some (.int .i64 c.hi) := by rw [K12.out.cell 6]; rfl
  have q7 : w2.cell? ⟨w.heap.size, 7, none⟩ = some (.int .i8 c.mode) := by rw [K12.out.cell 7]; rfl
  go_wp2_with fail
  refine (wakes_cmd w2).mono ?_
  rintro e w9 ⟨rfl, b9⟩
  go_wp2
  go_ret
  exact ⟨rfl, K32.out.trans (b9.mono K32.out.size)⟩

set_option maxHeartbeats 1000000 in
theorem co_Nz (c d : Cm) (n : Int) (w : World) (hc : Wf c) (hd : Wf d) (h1 : bytesE c = 0) (h2 : bytesE d = 0) (hne : eqC c d = false) (hst : bytesS c ≠ bytesS d) (n0 : (n == 0) = true) :
    Calls Try.prog 10 #[.agg (cC c), .agg (cC d), .int .i64 n] w fun e w' => e = .returned (.bool true) ∧ Below w.heap.size w w' := by
  have c1 := fun W => bytes_any c W hc
  have c2 := fun W => bytes_any d W hd
  simp only [cC] at c1 c2
  obtain ⟨S, hS⟩ : ∃ S, bytesS c = S := ⟨_, rfl⟩
  obtain ⟨T, hT⟩ : ∃ T, bytesS d = T := ⟨_, rfl⟩
  rw [hS, h1] at c1
  rw [hT, h2] at c2
  have C1 := Lib.hid c1; have C2 := Lib.hid c2
  clear c1 c2
  obtain ⟨W0, hW0⟩ : ∃ W0, W0 = (w.alloc (Obj.cells (cC c) 42)).alloc (Obj.cells (cC d) 42) := ⟨_, rfl⟩
  have k1 : Blk W0 w.heap.size 42 (cC c) := by rw [hW0]; exact (Blk.new w 42 (cC c)).alloc _
  have k2 : Blk W0 (w.heap.size + 1) 42 (cC d) := by rw [hW0]; simpa using Blk.new (w.alloc (Obj.cells (cC c) 42)) 42 (cC d)
  have k3 : Below w.heap.size w W0 := by rw [hW0]; exact ((Below.refl _ _).alloc (Nat.le_refl _) _).alloc (by simp) _
  have K1 := Lib.hid k1; have K2 := Lib.hid k2; have K3 := Lib.hid k3; have HW0 := Lib.hid hW0
  clear k1 k2 k3 hW0
  simp only [cC] at HW0
  change Calls Try.prog 10 #[.agg #[Value.int IntKind.i8 c.kind, Value.int IntKind.i64 c.node, Value.int IntKind.i64 c.serial, Value.int IntKind.i64 c.dead, Value.int IntKind.i64 c.was, Value.int IntKind.i64 c.lo, Value.int IntKind.i64 c.hi, Value.int IntKind.i8 c.mode], .agg #[Value.int IntKind.i8 d.kind, Value.int IntKind.i64 d.node, Value.int IntKind.i64 d.serial, Value.int IntKind.i64 d.dead, Value.int IntKind.i64 d.was, Value.int IntKind.i64 d.lo, Value.int IntKind.i64 d.hi, Value.int IntKind.i8 d.mode], .int .i64 n] w _
  have hl : (S.toList == T.toList) = false := by
    cases hq : (S.toList == T.toList) with
    | false => rfl
    | true =>
      have := eq_of_beq hq
      rw [str_toList, str_toList] at this
      exact absurd (by rw [hS, hT, ← str_of S, this]; rfl) hst
  have heq : ∀ W, Sem.run Try.prog (binOp BinOp.eql 42 (.agg #[Value.int IntKind.i8 c.kind, Value.int IntKind.i64 c.node, Value.int IntKind.i64 c.serial, Value.int IntKind.i64 c.dead, Value.int IntKind.i64 c.was, Value.int IntKind.i64 c.lo, Value.int IntKind.i64 c.hi, Value.int IntKind.i8 c.mode]) (.agg #[Value.int IntKind.i8 d.kind, Value.int IntKind.i64 d.node, Value.int IntKind.i64 d.serial, Value.int IntKind.i64 d.dead, Value.int IntKind.i64 d.was, Value.int IntKind.i64 d.lo, Value.int IntKind.i64 d.hi, Value.int IntKind.i8 d.mode])) W = Result.ok (.bool false) W := by
    intro W
    rw [← hne]
    exact run_eqC c d W
  clear hst hne
  clear hS hT
  clear h1 h2 hc hd
  go_enter Try.func10, Try.ntmps10
  go_wp2_with fail
  rw [← HW0.out]
  refine (C1.out _).mono ?_
  rintro e w1 ⟨rfl, b1⟩
  have K11 := Lib.hid (K1.out.below b1 K1.out.lt); have K21 := Lib.hid (K2.out.below b1 K2.out.lt); have K31 := Lib.hid (K3.out.trans (b1.mono K3.out.size))
  clear b1 K1 K2 K3 HW0 C1
  have p0 : w1.cell? ⟨w.heap.size + 1, 0, none⟩ = some (.int .i8 d.kind) := by rw [K21.out.cell 0]; rfl
  have p1 : w1.cell? ⟨w.heap.size + 1, 1, none⟩ = some (.int .i64 d.node) := by rw [K21.out.cell 1]; rfl
  have p2 : w1.cell? ⟨w.heap.size + 1, 2, none⟩ = some (.int .i64 d.serial) := by rw [K21.out.cell 2]; rfl
  have p3 : w1.cell? ⟨w.heap.size + 1, 3, none⟩ = some (.int .i64 d.dead) := by rw [K21.out.cell 3]; rfl
  have p4 : w1.cell? ⟨w.heap.size + 1, 4, none⟩ = some (.int .i64 d.was) := by rw [K21.out.cell 4]; rfl
  have p5 : w1.cell? ⟨w.heap.size + 1, 5, none⟩ = some (.int .i64 d.lo) := by rw [K21.out.cell 5]; rfl
  have p6 : w1.cell? ⟨w.heap.size + 1, 6, none⟩ = some (.int .i64 d.hi) := by rw [K21.out.cell 6]; rfl
  have p7 : w1.cell? ⟨w.heap.size + 1, 7, none⟩ = some (.int .i8 d.mode) := by rw [K21.out.cell 7]; rfl
  go_wp2_with fail
  refine (C2.out _).mono ?_
  rintro e w2 ⟨rfl, b2⟩
  have K12 := Lib.hid (K11.out.below b2 K11.out.lt); have K22 := Lib.hid (K21.out.below b2 K21.out.lt); have K32 := Lib.hid (K31.out.trans (b2.mono K31.out.size))
  clear b2 K11 K21 K31 p0 p1 p2 p3 p4 p5 p6 p7 C2
  have p0 : w2.cell? ⟨w.heap.size + 1, 0, none⟩ = some (.int .i8 d.kind) := by rw [K22.out.cell 0]; rfl
  have p1 : w2.cell? ⟨w.heap.size + 1, 1, none⟩ = some (.int .i64 d.node) := by rw [K22.out.cell 1]; rfl
  have p2 : w2.cell? ⟨w.heap.size + 1, 2, none⟩ = some (.int .i64 d.serial) := by rw [K22.out.cell 2]; rfl
  have p3 : w2.cell? ⟨w.heap.size + 1, 3, none⟩ = some (.int .i64 d.dead) := by rw [K22.out.cell 3]; rfl
  have p4 : w2.cell? ⟨w.heap.size + 1, 4, none⟩ = some (.int .i64 d.was) := by rw [K22.out.cell 4]; rfl
  have p5 : w2.cell? ⟨w.heap.size + 1, 5, none⟩ = some (.int .i64 d.lo) := by rw [K22.out.cell 5]; rfl
  have p6 : w2.cell? ⟨w.heap.size + 1, 6, none⟩ = some (.int .i64 d.hi) := by rw [K22.out.cell 6]; rfl
  have p7 : w2.cell? ⟨w.heap.size + 1, 7, none⟩ = some (.int .i8 d.mode) := by rw [K22.out.cell 7]; rfl
  have q0 : w2.cell? ⟨w.heap.size, 0, none⟩ = some (.int .i8 c.kind) := by rw [K12.out.cell 0]; rfl
  have q1 : w2.cell? ⟨w.heap.size, 1, none⟩ = some (.int .i64 c.node) := by rw [K12.out.cell 1]; rfl
  have q2 : w2.cell? ⟨w.heap.size, 2, none⟩ = some (.int .i64 c.serial) := by rw [K12.out.cell 2]; rfl
  have q3 : w2.cell? ⟨w.heap.size, 3, none⟩ = some (.int .i64 c.dead) := by rw [K12.out.cell 3]; rfl
  have q4 : w2.cell? ⟨w.heap.size, 4, none⟩ = some (.int .i64 c.was) := by rw [K12.out.cell 4]; rfl
  have q5 : w2.cell? ⟨w.heap.size, 5, none⟩ = some (.int .i64 c.lo) := by rw [K12.out.cell 5]; rfl
  have q6 : w2.cell? ⟨w.heap.size, 6, none⟩ = some (.int .i64 c.hi) := by rw [K12.out.cell 6]; rfl
  have q7 : w2.cell? ⟨w.heap.size, 7, none⟩ = some (.int .i8 c.mode) := by rw [K12.out.cell 7]; rfl
  go_wp2_with fail
  refine (wakes_cmd w2).mono ?_
  rintro e w9 ⟨rfl, b9⟩
  go_wp2
  go_ret
  exact ⟨rfl, K32.out.trans (b9.mono K32.out.size)⟩

set_option maxHeartbeats 1000000 in
theorem co_B2 (c d : Cm) (n : Int) (w : World) (hc : Wf c) (hd : Wf d) (h1 : bytesE c = 0) (h2 : bytesE d = 2) (n0 : (n == 0) = false) (k2 : (c.kind == 2) = true) (hm1 : mayC ⟨c.kind, c.node, c.serial, n, c.was, c.lo, c.hi, c.mode⟩ = false) (hm2 : mayC ⟨6, c.node, c.serial, c.dead, c.was, c.lo, c.hi, c.mode⟩ = false) :
    Calls Try.prog 10 #[.agg (cC c), .agg (cC d), .int .i64 n] w fun e w' => e = .returned (.bool true) ∧ Below w.heap.size w w' := by
  have c1 := fun W => bytes_any c W hc
  have c2 := fun W => bytes_any d W hd
  simp only [cC] at c1 c2
  obtain ⟨S, hS⟩ : ∃ S, bytesS c = S := ⟨_, rfl⟩
  obtain ⟨T, hT⟩ : ∃ T, bytesS d = T := ⟨_, rfl⟩
  rw [hS, h1] at c1
  rw [hT, h2] at c2
  have C1 := Lib.hid c1; have C2 := Lib.hid c2
  clear c1 c2
  obtain ⟨W0, hW0⟩ : ∃ W0, W0 = (w.alloc (Obj.cells (cC c) 42)).alloc (Obj.cells (cC d) 42) := ⟨_, rfl⟩
  have k1 : Blk W0 w.heap.size 42 (cC c) := by rw [hW0]; exact (Blk.new w 42 (cC c)).alloc _
  have k2 : Blk W0 (w.heap.size + 1) 42 (cC d) := by rw [hW0]; simpa using Blk.new (w.alloc (Obj.cells (cC c) 42)) 42 (cC d)
  have k3 : Below w.heap.size w W0 := by rw [hW0]; exact ((Below.refl _ _).alloc (Nat.le_refl _) _).alloc (by simp) _
  have K1 := Lib.hid k1; have K2 := Lib.hid k2; have K3 := Lib.hid k3; have HW0 := Lib.hid hW0
  clear k1 k2 k3 hW0
  simp only [cC] at HW0
  change Calls Try.prog 10 #[.agg #[Value.int IntKind.i8 c.kind, Value.int IntKind.i64 c.node, Value.int IntKind.i64 c.serial, Value.int IntKind.i64 c.dead, Value.int IntKind.i64 c.was, Value.int IntKind.i64 c.lo, Value.int IntKind.i64 c.hi, Value.int IntKind.i8 c.mode], .agg #[Value.int IntKind.i8 d.kind, Value.int IntKind.i64 d.node, Value.int IntKind.i64 d.serial, Value.int IntKind.i64 d.dead, Value.int IntKind.i64 d.was, Value.int IntKind.i64 d.lo, Value.int IntKind.i64 d.hi, Value.int IntKind.i8 d.mode], .int .i64 n] w _
  clear hS hT
  clear h1 h2 hc hd
  have m1 := fun W => mayc_any ⟨c.kind, c.node, c.serial, n, c.was, c.lo, c.hi, c.mode⟩ W
  rw [hm1] at m1
  have m2 := fun W => mayc_any ⟨6, c.node, c.serial, c.dead, c.was, c.lo, c.hi, c.mode⟩ W
  rw [hm2] at m2
  have M1 := Lib.hid m1; have M2 := Lib.hid m2
  clear m1 m2 hm1 hm2
  go_enter Try.func10, Try.ntmps10
  go_wp2_with fail
  rw [← HW0.out]
  refine (C1.out _).mono ?_
  rintro e w1 ⟨rfl, b1⟩
  have K11 := Lib.hid (K1.out.below b1 K1.out.lt); have K21 := Lib.hid (K2.out.below b1 K2.out.lt); have K31 := Lib.hid (K3.out.trans (b1.mono K3.out.size))
  clear b1 K1 K2 K3 HW0 C1
  have p0 : w1.cell? ⟨w.heap.size + 1, 0, none⟩ = some (.int .i8 d.kind) := by rw [K21.out.cell 0]; rfl
  have p1 : w1.cell? ⟨w.heap.size + 1, 1, none⟩ = some (.int .i64 d.node) := by rw [K21.out.cell 1]; rfl
  have p2 : w1.cell? ⟨w.heap.size + 1, 2, none⟩ = some (.int .i64 d.serial) := by rw [K21.out.cell 2]; rfl
  have p3 : w1.cell? ⟨w.heap.size + 1, 3, none⟩ = some (.int .i64 d.dead) := by rw [K21.out.cell 3]; rfl
  have p4 : w1.cell? ⟨w.heap.size + 1, 4, none⟩ = some (.int .i64 d.was) := by rw [K21.out.cell 4]; rfl
  have p5 : w1.cell? ⟨w.heap.size + 1, 5, none⟩ = some (.int .i64 d.lo) := by rw [K21.out.cell 5]; rfl
  have p6 : w1.cell? ⟨w.heap.size + 1, 6, none⟩ = some (.int .i64 d.hi) := by rw [K21.out.cell 6]; rfl
  have p7 : w1.cell? ⟨w.heap.size + 1, 7, none⟩ = some (.int .i8 d.mode) := by rw [K21.out.cell 7]; rfl
  go_wp2_with fail
  refine (C2.out _).mono ?_
  rintro e w2 ⟨rfl, b2⟩
  have K12 := Lib.hid (K11.out.below b2 K11.out.lt); have K22 := Lib.hid (K21.out.below b2 K21.out.lt); have K32 := Lib.hid (K31.out.trans (b2.mono K31.out.size))
  clear b2 K11 K21 K31 p0 p1 p2 p3 p4 p5 p6 p7 C2
  have p0 : w2.cell? ⟨w.heap.size + 1, 0, none⟩ = some (.int .i8 d.kind) := by rw [K22.out.cell 0]; rfl
  have p1 : w2.cell? ⟨w.heap.size + 1, 1, none⟩ = some (.int .i64 d.node) := by rw [K22.out.cell 1]; rfl
  have p2 : w2.cell? ⟨w.heap.size + 1, 2, none⟩ = some (.int .i64 d.serial) := by rw [K22.out.cell 2]; rfl
  have p3 : w2.cell? ⟨w.heap.size + 1, 3, none⟩ = some (.int .i64 d.dead) := by rw [K22.out.cell 3]; rfl
  have p4 : w2.cell? ⟨w.heap.size + 1, 4, none⟩ = some (.int .i64 d.was) := by rw [K22.out.cell 4]; rfl
  have p5 : w2.cell? ⟨w.heap.size + 1, 5, none⟩ = some (.int .i64 d.lo) := by rw [K22.out.cell 5]; rfl
  have p6 : w2.cell? ⟨w.heap.size + 1, 6, none⟩ = some (.int .i64 d.hi) := by rw [K22.out.cell 6]; rfl
  have p7 : w2.cell? ⟨w.heap.size + 1, 7, none⟩ = some (.int .i8 d.mode) := by rw [K22.out.cell 7]; rfl
  have q0 : w2.cell? ⟨w.heap.size, 0, none⟩ = some (.int .i8 c.kind) := by rw [K12.out.cell 0]; rfl
  have q1 : w2.cell? ⟨w.heap.size, 1, none⟩ = some (.int .i64 c.node) := by rw [K12.out.cell 1]; rfl
  have q2 : w2.cell? ⟨w.heap.size, 2, none⟩ = some (.int .i64 c.serial) := by rw [K12.out.cell 2]; rfl
  have q3 : w2.cell? ⟨w.heap.size, 3, none⟩ = some (.int .i64 c.dead) := by rw [K12.out.cell 3]; rfl
  have q4 : w2.cell? ⟨w.heap.size, 4, none⟩ = some (.int .i64 c.was) := by rw [K12.out.cell 4]; rfl
  have q5 : w2.cell? ⟨w.heap.size, 5, none⟩ = some (.int .i64 c.lo) := by rw [K12.out.cell 5]; rfl
  have q6 : w2.cell? ⟨w.heap.size, 6, none⟩ = some (.int .i64 c.hi) := by rw [K12.out.cell 6]; rfl
  have q7 : w2.cell? ⟨w.heap.size, 7, none⟩ = some (.int .i8 c.mode) := by rw [K12.out.cell 7]; rfl
  have hlt := K12.out.lt
  go_upto_region 11 with fail
  clear p0 p1 p2 p3 p4 p5 p6 p7
  go_wp2_with fail
  have k4 := (Blk.new (w2.alloc (Obj.cells (cC ⟨c.kind, c.node, c.serial, n, c.was, c.lo, c.hi, c.mode⟩) 42)) 42 (cC ⟨6, c.node, c.serial, c.dead, c.was, c.lo, c.hi, c.mode⟩))
  rw [World.size_alloc] at k4
  obtain ⟨W3, hW3⟩ : ∃ W, W = ((w2.alloc (Obj.cells (cC ⟨c.kind, c.node, c.serial, n, c.was, c.lo, c.hi, c.mode⟩) 42)).alloc (Obj.cells (cC ⟨6, c.node, c.serial, c.dead, c.was, c.lo, c.hi, c.mode⟩) 42)) := ⟨_, rfl⟩
  rw [← hW3] at k4
  have k5 : Below w.heap.size w W3 := by rw [hW3]; exact (K32.out.alloc K32.out.size _).alloc (by rw [World.size_alloc]; have := K32.out.size; omega) _
  have K4 := Lib.hid k4; have K5 := Lib.hid k5
  refine (M1.out _).mono ?_
  rintro e w3 ⟨rfl, b3⟩
  have b3' : Below W3.heap.size W3 w3 := by rw [hW3]; exact b3
  have K6 : Hid (Blk w3 (w2.heap.size + 1) 42 (cC ⟨6, c.node, c.serial, c.dead, c.was, c.lo, c.hi, c.mode⟩)) := Lib.hid (K4.out.below b3' K4.out.lt)
  have K7 : Hid (Below w.heap.size w w3) := Lib.hid (K5.out.trans (b3'.mono K5.out.size))
  clear b3 b3' hW3 k4 k5 K4 K5 M1 q0 q1 q2 q3 q4 q5 q6 q7
  have p0 : w3.cell? ⟨w2.heap.size + 1, 0, none⟩ = some (.int .i8 6) := by rw [K6.out.cell 0]; rfl
  have p1 : w3.cell? ⟨w2.heap.size + 1, 1, none⟩ = some (.int .i64 c.node) := by rw [K6.out.cell 1]; rfl
  have p2 : w3.cell? ⟨w2.heap.size + 1, 2, none⟩ = some (.int .i64 c.serial) := by rw [K6.out.cell 2]; rfl
  have p3 : w3.cell? ⟨w2.heap.size + 1, 3, none⟩ = some (.int .i64 c.dead) := by rw [K6.out.cell 3]; rfl
  have p4 : w3.cell? ⟨w2.heap.size + 1, 4, none⟩ = some (.int .i64 c.was) := by rw [K6.out.cell 4]; rfl
  have p5 : w3.cell? ⟨w2.heap.size + 1, 5, none⟩ = some (.int .i64 c.lo) := by rw [K6.out.cell 5]; rfl
  have p6 : w3.cell? ⟨w2.heap.size + 1, 6, none⟩ = some (.int .i64 c.hi) := by rw [K6.out.cell 6]; rfl
  have p7 : w3.cell? ⟨w2.heap.size + 1, 7, none⟩ = some (.int .i8 c.mode) := by rw [K6.out.cell 7]; rfl
  go_wp2_with fail
  refine (M2.out _).mono ?_
  rintro e w4 ⟨rfl, b4⟩
  have K8 : Hid (Below w.heap.size w w4) := Lib.hid (K7.out.trans (b4.mono K7.out.size))
  clear b4 K7 K6
  go_wp2_with fail
  refine (wakes_cmd w4).mono ?_
  rintro e w9 ⟨rfl, b9⟩
  go_wp2
  go_ret
  exact ⟨rfl, K8.out.trans (b9.mono K8.out.size)⟩

set_option maxHeartbeats 1000000 in
theorem co_B3 (c d : Cm) (n : Int) (w : World) (hc : Wf c) (hd : Wf d) (h1 : bytesE c = 0) (h2 : bytesE d = 2) (n0 : (n == 0) = false) (k2 : (c.kind == 2) = false) (k3 : (c.kind == 3) = true) (hm1 : mayC ⟨c.kind, c.node, c.serial, n, c.was, c.lo, c.hi, c.mode⟩ = false) (hm2 : mayC ⟨6, c.node, c.serial, c.dead, c.was, c.lo, c.hi, c.mode⟩ = false) :
    Calls Try.prog 10 #[.agg (cC c), .agg (cC d), .int .i64 n] w fun e w' => e = .returned (.bool true) ∧ Below w.heap.size w w' := by
  have c1 := fun W => bytes_any c W hc
  have c2 := fun W => bytes_any d W hd
  simp only [cC] at c1 c2
  obtain ⟨S, hS⟩ : ∃ S, bytesS c = S := ⟨_, rfl⟩
  obtain ⟨T, hT⟩ : ∃ T, bytesS d = T := ⟨_, rfl⟩
  rw [hS, h1] at c1
  rw [hT, h2] at c2
  have C1 := Lib.hid c1; have C2 := Lib.hid c2
  clear c1 c2
  obtain ⟨W0, hW0⟩ : ∃ W0, W0 = (w.alloc (Obj.cells (cC c) 42)).alloc (Obj.cells (cC d) 42) := ⟨_, rfl⟩
  have k1 : Blk W0 w.heap.size 42 (cC c) := by rw [hW0]; exact (Blk.new w 42 (cC c)).alloc _
  have k2 : Blk W0 (w.heap.size + 1) 42 (cC d) := by rw [hW0]; simpa using Blk.new (w.alloc (Obj.cells (cC c) 42)) 42 (cC d)
  have k3 : Below w.heap.size w W0 := by rw [hW0]; exact ((Below.refl _ _).alloc (Nat.le_refl _) _).alloc (by simp) _
  have K1 := Lib.hid k1; have K2 := Lib.hid k2; have K3 := Lib.hid k3; have HW0 := Lib.hid hW0
  clear k1 k2 k3 hW0
  simp only [cC] at HW0
  change Calls Try.prog 10 #[.agg #[Value.int IntKind.i8 c.kind, Value.int IntKind.i64 c.node, Value.int IntKind.i64 c.serial, Value.int IntKind.i64 c.dead, Value.int IntKind.i64 c.was, Value.int IntKind.i64 c.lo, Value.int IntKind.i64 c.hi, Value.int IntKind.i8 c.mode], .agg #[Value.int IntKind.i8 d.kind, Value.int IntKind.i64 d.node, Value.int IntKind.i64 d.serial, Value.int IntKind.i64 d.dead, Value.int IntKind.i64 d.was, Value.int IntKind.i64 d.lo, Value.int IntKind.i64 d.hi, Value.int IntKind.i8 d.mode], .int .i64 n] w _
  clear hS hT
  clear h1 h2 hc hd
  have m1 := fun W => mayc_any ⟨c.kind, c.node, c.serial, n, c.was, c.lo, c.hi, c.mode⟩ W
  rw [hm1] at m1
  have m2 := fun W => mayc_any ⟨6, c.node, c.serial, c.dead, c.was, c.lo, c.hi, c.mode⟩ W
  rw [hm2] at m2
  have M1 := Lib.hid m1; have M2 := Lib.hid m2
  clear m1 m2 hm1 hm2
  go_enter Try.func10, Try.ntmps10
  go_wp2_with fail
  rw [← HW0.out]
  refine (C1.out _).mono ?_
  rintro e w1 ⟨rfl, b1⟩
  have K11 := Lib.hid (K1.out.below b1 K1.out.lt); have K21 := Lib.hid (K2.out.below b1 K2.out.lt); have K31 := Lib.hid (K3.out.trans (b1.mono K3.out.size))
  clear b1 K1 K2 K3 HW0 C1
  have p0 : w1.cell? ⟨w.heap.size + 1, 0, none⟩ = some (.int .i8 d.kind) := by rw [K21.out.cell 0]; rfl
  have p1 : w1.cell? ⟨w.heap.size + 1, 1, none⟩ = some (.int .i64 d.node) := by rw [K21.out.cell 1]; rfl
  have p2 : w1.cell? ⟨w.heap.size + 1, 2, none⟩ = some (.int .i64 d.serial) := by rw [K21.out.cell 2]; rfl
  have p3 : w1.cell? ⟨w.heap.size + 1, 3, none⟩ = some (.int .i64 d.dead) := by rw [K21.out.cell 3]; rfl
  have p4 : w1.cell? ⟨w.heap.size + 1, 4, none⟩ = some (.int .i64 d.was) := by rw [K21.out.cell 4]; rfl
  have p5 : w1.cell? ⟨w.heap.size + 1, 5, none⟩ = some (.int .i64 d.lo) := by rw [K21.out.cell 5]; rfl
  have p6 : w1.cell? ⟨w.heap.size + 1, 6, none⟩ = some (.int .i64 d.hi) := by rw [K21.out.cell 6]; rfl
  have p7 : w1.cell? ⟨w.heap.size + 1, 7, none⟩ = some (.int .i8 d.mode) := by rw [K21.out.cell 7]; rfl
  go_wp2_with fail
  refine (C2.out _).mono ?_
  rintro e w2 ⟨rfl, b2⟩
  have K12 := Lib.hid (K11.out.below b2 K11.out.lt); have K22 := Lib.hid (K21.out.below b2 K21.out.lt); have K32 := Lib.hid (K31.out.trans (b2.mono K31.out.size))
  clear b2 K11 K21 K31 p0 p1 p2 p3 p4 p5 p6 p7 C2
  have p0 : w2.cell? ⟨w.heap.size + 1, 0, none⟩ = some (.int .i8 d.kind) := by rw [K22.out.cell 0]; rfl
  have p1 : w2.cell? ⟨w.heap.size + 1, 1, none⟩ = some (.int .i64 d.node) := by rw [K22.out.cell 1]; rfl
  have p2 : w2.cell? ⟨w.heap.size + 1, 2, none⟩ = some (.int .i64 d.serial) := by rw [K22.out.cell 2]; rfl
  have p3 : w2.cell? ⟨w.heap.size + 1, 3, none⟩ = some (.int .i64 d.dead) := by rw [K22.out.cell 3]; rfl
  have p4 : w2.cell? ⟨w.heap.size + 1, 4, none⟩ = some (.int .i64 d.was) := by rw [K22.out.cell 4]; rfl
  have p5 : w2.cell? ⟨w.heap.size + 1, 5, none⟩ = some (.int .i64 d.lo) := by rw [K22.out.cell 5]; rfl
  have p6 : w2.cell? ⟨w.heap.size + 1, 6, none⟩ = some (.int .i64 d.hi) := by rw [K22.out.cell 6]; rfl
  have p7 : w2.cell? ⟨w.heap.size + 1, 7, none⟩ = some (.int .i8 d.mode) := by rw [K22.out.cell 7]; rfl
  have q0 : w2.cell? ⟨w.heap.size, 0, none⟩ = some (.int .i8 c.kind) := by rw [K12.out.cell 0]; rfl
  have q1 : w2.cell? ⟨w.heap.size, 1, none⟩ = some (.int .i64 c.node) := by rw [K12.out.cell 1]; rfl
  have q2 : w2.cell? ⟨w.heap.size, 2, none⟩ = some (.int .i64 c.serial) := by rw [K12.out.cell 2]; rfl
  have q3 : w2.cell? ⟨w.heap.size, 3, none⟩ = some (.int .i64 c.dead) := by rw [K12.out.cell 3]; rfl
  have q4 : w2.cell? ⟨w.heap.size, 4, none⟩ = some (.int .i64 c.was) := by rw [K12.out.cell 4]; rfl
  have q5 : w2.cell? ⟨w.heap.size, 5, none⟩ = some (.int .i64 c.lo) := by rw [K12.out.cell 5]; rfl
  have q6 : w2.cell? ⟨w.heap.size, 6, none⟩ = some (.int .i64 c.hi) := by rw [K12.out.cell 6]; rfl
  have q7 : w2.cell? ⟨w.heap.size, 7, none⟩ = some (.int .i8 c.mode) := by rw [K12.out.cell 7]; rfl
  have hlt := K12.out.lt
  go_upto_region 11 with fail
  clear p0 p1 p2 p3 p4 p5 p6 p7
  go_wp2_with fail
  have k4 := (Blk.new (w2.alloc (Obj.cells (cC ⟨c.kind, c.node, c.serial, n, c.was, c.lo, c.hi, c.mode⟩) 42)) 42 (cC ⟨6, c.node, c.serial, c.dead, c.was, c.lo, c.hi, c.mode⟩))
  rw [World.size_alloc] at k4
  obtain ⟨W3, hW3⟩ : ∃ W, W = ((w2.alloc (Obj.cells (cC ⟨c.kind, c.node, c.serial, n, c.was, c.lo, c.hi, c.mode⟩) 42)).alloc (Obj.cells (cC ⟨6, c.node, c.serial, c.dead, c.was, c.lo, c.hi, c.mode⟩) 42)) := ⟨_, rfl⟩
  rw [← hW3] at k4
  have k5 : Below w.heap.size w W3 := by rw [hW3]; exact (K32.out.alloc K32.out.size _).alloc (by rw [World.size_alloc]; have := K32.out.size; omega) _
  have K4 := Lib.hid k4; have K5 := Lib.hid k5
  refine (M1.out _).mono ?_
  rintro e w3 ⟨rfl, b3⟩
  have b3' : Below W3.heap.size W3 w3 := by rw [hW3]; exact b3
  have K6 : Hid (Blk w3 (w2.heap.size + 1) 42 (cC ⟨6, c.node, c.serial, c.dead, c.was, c.lo, c.hi, c.mode⟩)) := Lib.hid (K4.out.below b3' K4.out.lt)
  have K7 : Hid (Below w.heap.size w w3) := Lib.hid (K5.out.trans (b3'.mono K5.out.size))
  clear b3 b3' hW3 k4 k5 K4 K5 M1 q0 q1 q2 q3 q4 q5 q6 q7
  have p0 : w3.cell? ⟨w2.heap.size + 1, 0, none⟩ = some (.int .i8 6) := by rw [K6.out.cell 0]; rfl
  have p1 : w3.cell? ⟨w2.heap.size + 1, 1, none⟩ = some (.int .i64 c.node) := by rw [K6.out.cell 1]; rfl
  have p2 : w3.cell? ⟨w2.heap.size + 1, 2, none⟩ = some (.int .i64 c.serial) := by rw [K6.out.cell 2]; rfl
  have p3 : w3.cell? ⟨w2.heap.size + 1, 3, none⟩ = some (.int .i64 c.dead) := by rw [K6.out.cell 3]; rfl
  have p4 : w3.cell? ⟨w2.heap.size + 1, 4, none⟩ = some (.int .i64 c.was) := by rw [K6.out.cell 4]; rfl
  have p5 : w3.cell? ⟨w2.heap.size + 1, 5, none⟩ = some (.int .i64 c.lo) := by rw [K6.out.cell 5]; rfl
  have p6 : w3.cell? ⟨w2.heap.size + 1, 6, none⟩ = some (.int .i64 c.hi) := by rw [K6.out.cell 6]; rfl
  have p7 : w3.cell? ⟨w2.heap.size + 1, 7, none⟩ = some (.int .i8 c.mode) := by rw [K6.out.cell 7]; rfl
  go_wp2_with fail
  refine (M2.out _).mono ?_
  rintro e w4 ⟨rfl, b4⟩
  have K8 : Hid (Below w.heap.size w w4) := Lib.hid (K7.out.trans (b4.mono K7.out.size))
  clear b4 K7 K6
  go_wp2_with fail
  refine (wakes_cmd w4).mono ?_
  rintro e w9 ⟨rfl, b9⟩
  go_wp2
  go_ret
  exact ⟨rfl, K8.out.trans (b9.mono K8.out.size)⟩

set_option maxHeartbeats 1000000 in
theorem co_B0 (c d : Cm) (n : Int) (w : World) (hc : Wf c) (hd : Wf d) (h1 : bytesE c = 0) (h2 : bytesE d = 2) (n0 : (n == 0) = false) (k2 : (c.kind == 2) = false) (k3 : (c.kind == 3) = false) (k0 : (c.kind == 0) = true) (hm1 : mayC ⟨c.kind, c.node, c.serial, n, c.was, c.lo, c.hi, c.mode⟩ = false) (hm2 : mayC ⟨6, c.node, c.serial, c.dead, c.was, c.lo, c.hi, c.mode⟩ = false) :
    Calls Try.prog 10 #[.agg (cC c), .agg (cC d), .int .i64 n] w fun e w' => e = .returned (.bool true) ∧ Below w.heap.size w w' := by
  have c1 := fun W => bytes_any c W hc
  have c2 := fun W => bytes_any d W hd
  simp only [cC] at c1 c2
  obtain ⟨S, hS⟩ : ∃ S, bytesS c = S := ⟨_, rfl⟩
  obtain ⟨T, hT⟩ : ∃ T, bytesS d = T := ⟨_, rfl⟩
  rw [hS, h1] at c1
  rw [hT, h2] at c2
  have C1 := Lib.hid c1; have C2 := Lib.hid c2
  clear c1 c2
  obtain ⟨W0, hW0⟩ : ∃ W0, W0 = (w.alloc (Obj.cells (cC c) 42)).alloc (Obj.cells (cC d) 42) := ⟨_, rfl⟩
  have k1 : Blk W0 w.heap.size 42 (cC c) := by rw [hW0]; exact (Blk.new w 42 (cC c)).alloc _
  have k2 : Blk W0 (w.heap.size + 1) 42 (cC d) := by rw [hW0]; simpa using Blk.new (w.alloc (Obj.cells (cC c) 42)) 42 (cC d)
  have k3 : Below w.heap.size w W0 := by rw [hW0]; exact ((Below.refl _ _).alloc (Nat.le_refl _) _).alloc (by simp) _
  have K1 := Lib.hid k1; have K2 := Lib.hid k2; have K3 := Lib.hid k3; have HW0 := Lib.hid hW0
  clear k1 k2 k3 hW0
  simp only [cC] at HW0
  change Calls Try.prog 10 #[.agg #[Value.int IntKind.i8 c.kind, Value.int IntKind.i64 c.node, Value.int IntKind.i64 c.serial, Value.int IntKind.i64 c.dead, Value.int IntKind.i64 c.was, Value.int IntKind.i64 c.lo, Value.int IntKind.i64 c.hi, Value.int IntKind.i8 c.mode], .agg #[Value.int IntKind.i8 d.kind, Value.int IntKind.i64 d.node, Value.int IntKind.i64 d.serial, Value.int IntKind.i64 d.dead, Value.int IntKind.i64 d.was, Value.int IntKind.i64 d.lo, Value.int IntKind.i64 d.hi, Value.int IntKind.i8 d.mode], .int .i64 n] w _
  clear hS hT
  clear h1 h2 hc hd
  have m1 := fun W => mayc_any ⟨c.kind, c.node, c.serial, n, c.was, c.lo, c.hi, c.mode⟩ W
  rw [hm1] at m1
  have m2 := fun W => mayc_any ⟨6, c.node, c.serial, c.dead, c.was, c.lo, c.hi, c.mode⟩ W
  rw [hm2] at m2
  have M1 := Lib.hid m1; have M2 := Lib.hid m2
  clear m1 m2 hm1 hm2
  go_enter Try.func10, Try.ntmps10
  go_wp2_with fail
  rw [← HW0.out]
  refine (C1.out _).mono ?_
  rintro e w1 ⟨rfl, b1⟩
  have K11 := Lib.hid (K1.out.below b1 K1.out.lt); have K21 := Lib.hid (K2.out.below b1 K2.out.lt); have K31 := Lib.hid (K3.out.trans (b1.mono K3.out.size))
  clear b1 K1 K2 K3 HW0 C1
  have p0 : w1.cell? ⟨w.heap.size + 1, 0, none⟩ = some (.int .i8 d.kind) := by rw [K21.out.cell 0]; rfl
  have p1 : w1.cell? ⟨w.heap.size + 1, 1, none⟩ = some (.int .i64 d.node) := by rw [K21.out.cell 1]; rfl
  have p2 : w1.cell? ⟨w.heap.size + 1, 2, none⟩ = some (.int .i64 d.serial) := by rw [K21.out.cell 2]; rfl
  have p3 : w1.cell? ⟨w.heap.size + 1, 3, none⟩ = some (.int .i64 d.dead) := by rw [K21.out.cell 3]; rfl
  have p4 : w1.cell? ⟨w.heap.size + 1, 4, none⟩ = some (.int .i64 d.was) := by rw [K21.out.cell 4]; rfl
  have p5 : w1.cell? ⟨w.heap.size + 1, 5, none⟩ = some (.int .i64 d.lo) := by rw [K21.out.cell 5]; rfl
  have p6 : w1.cell? ⟨w.heap.size + 1, 6, none⟩ = some (.int .i64 d.hi) := by rw [K21.out.cell 6]; rfl
  have p7 : w1.cell? ⟨w.heap.size + 1, 7, none⟩ = some (.int .i8 d.mode) := by rw [K21.out.cell 7]; rfl
  go_wp2_with fail
  refine (C2.out _).mono ?_
  rintro e w2 ⟨rfl, b2⟩
  have K12 := Lib.hid (K11.out.below b2 K11.out.lt); have K22 := Lib.hid (K21.out.below b2 K21.out.lt); have K32 := Lib.hid (K31.out.trans (b2.mono K31.out.size))
  clear b2 K11 K21 K31 p0 p1 p2 p3 p4 p5 p6 p7 C2
  have p0 : w2.cell? ⟨w.heap.size + 1, 0, none⟩ = some (.int .i8 d.kind) := by rw [K22.out.cell 0]; rfl
  have p1 : w2.cell? ⟨w.heap.size + 1, 1, none⟩ = some (.int .i64 d.node) := by rw [K22.out.cell 1]; rfl
  have p2 : w2.cell? ⟨w.heap.size + 1, 2, none⟩ = some (.int .i64 d.serial) := by rw [K22.out.cell 2]; rfl
  have p3 : w2.cell? ⟨w.heap.size + 1, 3, none⟩ = some (.int .i64 d.dead) := by rw [K22.out.cell 3]; rfl
  have p4 : w2.cell? ⟨w.heap.size + 1, 4, none⟩ = some (.int .i64 d.was) := by rw [K22.out.cell 4]; rfl
  have p5 : w2.cell? ⟨w.heap.size + 1, 5, none⟩ = some (.int .i64 d.lo) := by rw [K22.out.cell 5]; rfl
  have p6 : w2.cell? ⟨w.heap.size + 1, 6, none⟩ = some (.int .i64 d.hi) := by rw [K22.out.cell 6]; rfl
  have p7 : w2.cell? ⟨w.heap.size + 1, 7, none⟩ = some (.int .i8 d.mode) := by rw [K22.out.cell 7]; rfl
  have q0 : w2.cell? ⟨w.heap.size, 0, none⟩ = some (.int .i8 c.kind) := by rw [K12.out.cell 0]; rfl
  have q1 : w2.cell? ⟨w.heap.size, 1, none⟩ = some (.int .i64 c.node) := by rw [K12.out.cell 1]; rfl
  have q2 : w2.cell? ⟨w.heap.size, 2, none⟩ = some (.int .i64 c.serial) := by rw [K12.out.cell 2]; rfl
  have q3 : w2.cell? ⟨w.heap.size, 3, none⟩ = some (.int .i64 c.dead) := by rw [K12.out.cell 3]; rfl
  have q4 : w2.cell? ⟨w.heap.size, 4, none⟩ = some (.int .i64 c.was) := by rw [K12.out.cell 4]; rfl
  have q5 : w2.cell? ⟨w.heap.size, 5, none⟩ = some (.int .i64 c.lo) := by rw [K12.out.cell 5]; rfl
  have q6 : w2.cell? ⟨w.heap.size, 6, none⟩ = some (.int .i64 c.hi) := by rw [K12.out.cell 6]; rfl
  have q7 : w2.cell? ⟨w.heap.size, 7, none⟩ = some (.int .i8 c.mode) := by rw [K12.out.cell 7]; rfl
  have hlt := K12.out.lt
  go_upto_region 11 with fail
  clear p0 p1 p2 p3 p4 p5 p6 p7
  go_wp2_with fail
  have k4 := (Blk.new (w2.alloc (Obj.cells (cC ⟨c.kind, c.node, c.serial, n, c.was, c.lo, c.hi, c.mode⟩) 42)) 42 (cC ⟨6, c.node, c.serial, c.dead, c.was, c.lo, c.hi, c.mode⟩))
  rw [World.size_alloc] at k4
  obtain ⟨W3, hW3⟩ : ∃ W, W = ((w2.alloc (Obj.cells (cC ⟨c.kind, c.node, c.serial, n, c.was, c.lo, c.hi, c.mode⟩) 42)).alloc (Obj.cells (cC ⟨6, c.node, c.serial, c.dead, c.was, c.lo, c.hi, c.mode⟩) 42)) := ⟨_, rfl⟩
  rw [← hW3] at k4
  have k5 : Below w.heap.size w W3 := by rw [hW3]; exact (K32.out.alloc K32.out.size _).alloc (by rw [World.size_alloc]; have := K32.out.size; omega) _
  have K4 := Lib.hid k4; have K5 := Lib.hid k5
  refine (M1.out _).mono ?_
  rintro e w3 ⟨rfl, b3⟩
  have b3' : Below W3.heap.size W3 w3 := by rw [hW3]; exact b3
  have K6 : Hid (Blk w3 (w2.heap.size + 1) 42 (cC ⟨6, c.node, c.serial, c.dead, c.was, c.lo, c.hi, c.mode⟩)) := Lib.hid (K4.out.below b3' K4.out.lt)
  have K7 : Hid (Below w.heap.size w w3) := Lib.hid (K5.out.trans (b3'.mono K5.out.size))
  clear b3 b3' hW3 k4 k5 K4 K5 M1 q0 q1 q2 q3 q4 q5 q6 q7
  have p0 : w3.cell? ⟨w2.heap.size + 1, 0, none⟩ = some (.int .i8 6) := by rw [K6.out.cell 0]; rfl
  have p1 : w3.cell? ⟨w2.heap.size + 1, 1, none⟩ = some (.int .i64 c.node) := by rw [K6.out.cell 1]; rfl
  have p2 : w3.cell? ⟨w2.heap.size + 1, 2, none⟩ = some (.int .i64 c.serial) := by rw [K6.out.cell 2]; rfl
  have p3 : w3.cell? ⟨w2.heap.size + 1, 3, none⟩ = some (.int .i64 c.dead) := by rw [K6.out.cell 3]; rfl
  have p4 : w3.cell? ⟨w2.heap.size + 1, 4, none⟩ = some (.int .i64 c.was) := by rw [K6.out.cell 4]; rfl
  have p5 : w3.cell? ⟨w2.heap.size + 1, 5, none⟩ = some (.int .i64 c.lo) := by rw [K6.out.cell 5]; rfl
  have p6 : w3.cell? ⟨w2.heap.size + 1, 6, none⟩ = some (.int .i64 c.hi) := by rw [K6.out.cell 6]; rfl
  have p7 : w3.cell? ⟨w2.heap.size + 1, 7, none⟩ = some (.int .i8 c.mode) := by rw [K6.out.cell 7]; rfl
  go_wp2_with fail
  refine (M2.out _).mono ?_
  rintro e w4 ⟨rfl, b4⟩
  have K8 : Hid (Below w.heap.size w w4) := Lib.hid (K7.out.trans (b4.mono K7.out.size))
  clear b4 K7 K6
  go_wp2_with fail
  refine (wakes_cmd w4).mono ?_
  rintro e w9 ⟨rfl, b9⟩
  go_wp2
  go_ret
  exact ⟨rfl, K8.out.trans (b9.mono K8.out.size)⟩

set_option maxHeartbeats 1000000 in
theorem co_B1 (c d : Cm) (n : Int) (w : World) (hc : Wf c) (hd : Wf d) (h1 : bytesE c = 0) (h2 : bytesE d = 2) (n0 : (n == 0) = false) (k2 : (c.kind == 2) = false) (k3 : (c.kind == 3) = false) (k0 : (c.kind == 0) = false) (k1 : (c.kind == 1) = true) (hm1 : mayC ⟨c.kind, c.node, c.serial, n, c.was, c.lo, c.hi, c.mode⟩ = false) (hm2 : mayC ⟨6, c.node, c.serial, c.dead, c.was, c.lo, c.hi, c.mode⟩ = false) :
    Calls Try.prog 10 #[.agg (cC c), .agg (cC d), .int .i64 n] w fun e w' => e = .returned (.bool true) ∧ Below w.heap.size w w' := by
  have c1 := fun W => bytes_any c W hc
  have c2 := fun W => bytes_any d W hd
  simp only [cC] at c1 c2
  obtain ⟨S, hS⟩ : ∃ S, bytesS c = S := ⟨_, rfl⟩
  obtain ⟨T, hT⟩ : ∃ T, bytesS d = T := ⟨_, rfl⟩
  rw [hS, h1] at c1
  rw [hT, h2] at c2
  have C1 := Lib.hid c1; have C2 := Lib.hid c2
  clear c1 c2
  obtain ⟨W0, hW0⟩ : ∃ W0, W0 = (w.alloc (Obj.cells (cC c) 42)).alloc (Obj.cells (cC d) 42) := ⟨_, rfl⟩
  have k1 : Blk W0 w.heap.size 42 (cC c) := by rw [hW0]; exact (Blk.new w 42 (cC c)).alloc _
  have k2 : Blk W0 (w.heap.size + 1) 42 (cC d) := by rw [hW0]; simpa using Blk.new (w.alloc (Obj.cells (cC c) 42)) 42 (cC d)
  have k3 : Below w.heap.size w W0 := by rw [hW0]; exact ((Below.refl _ _).alloc (Nat.le_refl _) _).alloc (by simp) _
  have K1 := Lib.hid k1; have K2 := Lib.hid k2; have K3 := Lib.hid k3; have HW0 := Lib.hid hW0
  clear k1 k2 k3 hW0
  simp only [cC] at HW0
  change Calls Try.prog 10 #[.agg #[Value.int IntKind.i8 c.kind, Value.int IntKind.i64 c.node, Value.int IntKind.i64 c.serial, Value.int IntKind.i64 c.dead, Value.int IntKind.i64 c.was, Value.int IntKind.i64 c.lo, Value.int IntKind.i64 c.hi, Value.int IntKind.i8 c.mode], .agg #[Value.int IntKind.i8 d.kind, Value.int IntKind.i64 d.node, Value.int IntKind.i64 d.serial, Value.int IntKind.i64 d.dead, Value.int IntKind.i64 d.was, Value.int IntKind.i64 d.lo, Value.int IntKind.i64 d.hi, Value.int IntKind.i8 d.mode], .int .i64 n] w _
  clear hS hT
  clear h1 h2 hc hd
  have m1 := fun W => mayc_any ⟨c.kind, c.node, c.serial, n, c.was, c.lo, c.hi, c.mode⟩ W
  rw [hm1] at m1
  have m2 := fun W => mayc_any ⟨6, c.node, c.serial, c.dead, c.was, c.lo, c.hi, c.mode⟩ W
  rw [hm2] at m2
  have M1 := Lib.hid m1; have M2 := Lib.hid m2
  clear m1 m2 hm1 hm2
  go_enter Try.func10, Try.ntmps10
  go_wp2_with fail
  rw [← HW0.out]
  refine (C1.out _).mono ?_
  rintro e w1 ⟨rfl, b1⟩
  have K11 := Lib.hid (K1.out.below b1 K1.out.lt); have K21 := Lib.hid (K2.out.below b1 K2.out.lt); have K31 := Lib.hid (K3.out.trans (b1.mono K3.out.size))
  clear b1 K1 K2 K3 HW0 C1
  have p0 : w1.cell? ⟨w.heap.size + 1, 0, none⟩ = some (.int .i8 d.kind) := by rw [K21.out.cell 0]; rfl
  have p1 : w1.cell? ⟨w.heap.size + 1, 1, none⟩ = some (.int .i64 d.node) := by rw [K21.out.cell 1]; rfl
  have p2 : w1.cell? ⟨w.heap.size + 1, 2, none⟩ = some (.int .i64 d.serial) := by rw [K21.out.cell 2]; rfl
  have p3 : w1.cell? ⟨w.heap.size + 1, 3, none⟩ = some (.int .i64 d.dead) := by rw [K21.out.cell 3]; rfl
  have p4 : w1.cell? ⟨w.heap.size + 1, 4, none⟩ = some (.int .i64 d.was) := by rw [K21.out.cell 4]; rfl
  have p5 : w1.cell? ⟨w.heap.size + 1, 5, none⟩ = some (.int .i64 d.lo) := by rw [K21.out.cell 5]; rfl
  have p6 : w1.cell? ⟨w.heap.size + 1, 6, none⟩ = some (.int .i64 d.hi) := by rw [K21.out.cell 6]; rfl
  have p7 : w1.cell? ⟨w.heap.size + 1, 7, none⟩ = some (.int .i8 d.mode) := by rw [K21.out.cell 7]; rfl
  go_wp2_with fail
  refine (C2.out _).mono ?_
  rintro e w2 ⟨rfl, b2⟩
  have K12 := Lib.hid (K11.out.below b2 K11.out.lt); have K22 := Lib.hid (K21.out.below b2 K21.out.lt); have K32 := Lib.hid (K31.out.trans (b2.mono K31.out.size))
  clear b2 K11 K21 K31 p0 p1 p2 p3 p4 p5 p6 p7 C2
  have p0 : w2.cell? ⟨w.heap.size + 1, 0, none⟩ = some (.int .i8 d.kind) := by rw [K22.out.cell 0]; rfl
  have p1 : w2.cell? ⟨w.heap.size + 1, 1, none⟩ = some (.int .i64 d.node) := by rw [K22.out.cell 1]; rfl
  have p2 : w2.cell? ⟨w.heap.size + 1, 2, none⟩ = some (.int .i64 d.serial) := by rw [K22.out.cell 2]; rfl
  have p3 : w2.cell? ⟨w.heap.size + 1, 3, none⟩ = some (.int .i64 d.dead) := by rw [K22.out.cell 3]; rfl
  have p4 : w2.cell? ⟨w.heap.size + 1, 4, none⟩ = some (.int .i64 d.was) := by rw [K22.out.cell 4]; rfl
  have p5 : w2.cell? ⟨w.heap.size + 1, 5, none⟩ = some (.int .i64 d.lo) := by rw [K22.out.cell 5]; rfl
  have p6 : w2.cell? ⟨w.heap.size + 1, 6, none⟩ = some (.int .i64 d.hi) := by rw [K22.out.cell 6]; rfl
  have p7 : w2.cell? ⟨w.heap.size + 1, 7, none⟩ = some (.int .i8 d.mode) := by rw [K22.out.cell 7]; rfl
  have q0 : w2.cell? ⟨w.heap.size, 0, none⟩ = some (.int .i8 c.kind) := by rw [K12.out.cell 0]; rfl
  have q1 : w2.cell? ⟨w.heap.size, 1, none⟩ = some (.int .i64 c.node) := by rw [K12.out.cell 1]; rfl
  have q2 : w2.cell? ⟨w.heap.size, 2, none⟩ = some (.int .i64 c.serial) := by rw [K12.out.cell 2]; rfl
  have q3 : w2.cell? ⟨w.heap.size, 3, none⟩ = some (.int .i64 c.dead) := by rw [K12.out.cell 3]; rfl
  have q4 : w2.cell? ⟨w.heap.size, 4, none⟩ = some (.int .i64 c.was) := by rw [K12.out.cell 4]; rfl
  have q5 : w2.cell? ⟨w.heap.size, 5, none⟩ = some (.int .i64 c.lo) := by rw [K12.out.cell 5]; rfl
  have q6 : w2.cell? ⟨w.heap.size, 6, none⟩ = some (.int .i64 c.hi) := by rw [K12.out.cell 6]; rfl
  have q7 : w2.cell? ⟨w.heap.size, 7, none⟩ = some (.int .i8 c.mode) := by rw [K12.out.cell 7]; rfl
  have hlt := K12.out.lt
  go_upto_region 11 with fail
  clear p0 p1 p2 p3 p4 p5 p6 p7
  go_wp2_with fail
  have k4 := (Blk.new (w2.alloc (Obj.cells (cC ⟨c.kind, c.node, c.serial, n, c.was, c.lo, c.hi, c.mode⟩) 42)) 42 (cC ⟨6, c.node, c.serial, c.dead, c.was, c.lo, c.hi, c.mode⟩))
  rw [World.size_alloc] at k4
  obtain ⟨W3, hW3⟩ : ∃ W, W = ((w2.alloc (Obj.cells (cC ⟨c.kind, c.node, c.serial, n, c.was, c.lo, c.hi, c.mode⟩) 42)).alloc (Obj.cells (cC ⟨6, c.node, c.serial, c.dead, c.was, c.lo, c.hi, c.mode⟩) 42)) := ⟨_, rfl⟩
  rw [← hW3] at k4
  have k5 : Below w.heap.size w W3 := by rw [hW3]; exact (K32.out.alloc K32.out.size _).alloc (by rw [World.size_alloc]; have := K32.out.size; omega) _
  have K4 := Lib.hid k4; have K5 := Lib.hid k5
  refine (M1.out _).mono ?_
  rintro e w3 ⟨rfl, b3⟩
  have b3' : Below W3.heap.size W3 w3 := by rw [hW3]; exact b3
  have K6 : Hid (Blk w3 (w2.heap.size + 1) 42 (cC ⟨6, c.node, c.serial, c.dead, c.was, c.lo, c.hi, c.mode⟩)) := Lib.hid (K4.out.below b3' K4.out.lt)
  have K7 : Hid (Below w.heap.size w w3) := Lib.hid (K5.out.trans (b3'.mono K5.out.size))
  clear b3 b3' hW3 k4 k5 K4 K5 M1 q0 q1 q2 q3 q4 q5 q6 q7
  have p0 : w3.cell? ⟨w2.heap.size + 1, 0, none⟩ = some (.int .i8 6) := by rw [K6.out.cell 0]; rfl
  have p1 : w3.cell? ⟨w2.heap.size + 1, 1, none⟩ = some (.int .i64 c.node) := by rw [K6.out.cell 1]; rfl
  have p2 : w3.cell? ⟨w2.heap.size + 1, 2, none⟩ = some (.int .i64 c.serial) := by rw [K6.out.cell 2]; rfl
  have p3 : w3.cell? ⟨w2.heap.size + 1, 3, none⟩ = some (.int .i64 c.dead) := by rw [K6.out.cell 3]; rfl
  have p4 : w3.cell? ⟨w2.heap.size + 1, 4, none⟩ = some (.int .i64 c.was) := by rw [K6.out.cell 4]; rfl
  have p5 : w3.cell? ⟨w2.heap.size + 1, 5, none⟩ = some (.int .i64 c.lo) := by rw [K6.out.cell 5]; rfl
  have p6 : w3.cell? ⟨w2.heap.size + 1, 6, none⟩ = some (.int .i64 c.hi) := by rw [K6.out.cell 6]; rfl
  have p7 : w3.cell? ⟨w2.heap.size + 1, 7, none⟩ = some (.int .i8 c.mode) := by rw [K6.out.cell 7]; rfl
  go_wp2_with fail
  refine (M2.out _).mono ?_
  rintro e w4 ⟨rfl, b4⟩
  have K8 : Hid (Below w.heap.size w w4) := Lib.hid (K7.out.trans (b4.mono K7.out.size))
  clear b4 K7 K6
  go_wp2_with fail
  refine (wakes_cmd w4).mono ?_
  rintro e w9 ⟨rfl, b9⟩
  go_wp2
  go_ret
  exact ⟨rfl, K8.out.trans (b9.mono K8.out.size)⟩

set_option maxHeartbeats 1000000 in
theorem co_B45 (c d : Cm) (n : Int) (w : World) (hc : Wf c) (hd : Wf d) (h1 : bytesE c = 0) (h2 : bytesE d = 2) (n0 : (n == 0) = false) (k2 : (c.kind == 2) = false) (k3 : (c.kind == 3) = false) (k0 : (c.kind == 0) = false) (k1 : (c.kind == 1) = false) (hm1 : mayC ⟨c.kind, c.node, c.serial, c.dead, c.was, c.lo, n, c.mode⟩ = false) (hm2 : mayC ⟨6, c.node, c.serial, c.dead, c.was, c.lo, c.hi, c.mode⟩ = false) :
    Calls Try.prog 10 #[.agg (cC c), .agg (cC d), .int .i64 n] w fun e w' => e = .returned (.bool true) ∧ Below w.heap.size w w' := by
  have c1 := fun W => bytes_any c W hc
  have c2 := fun W => bytes_any d W hd
  simp only [cC] at c1 c2
  obtain ⟨S, hS⟩ : ∃ S, bytesS c = S := ⟨_, rfl⟩
  obtain ⟨T, hT⟩ : ∃ T, bytesS d = T := ⟨_, rfl⟩
  rw [hS, h1] at c1
  rw [hT, h2] at c2
  have C1 := Lib.hid c1; have C2 := Lib.hid c2
  clear c1 c2
  obtain ⟨W0, hW0⟩ : ∃ W0, W0 = (w.alloc (Obj.cells (cC c) 42)).alloc (Obj.cells (cC d) 42) := ⟨_, rfl⟩
  have k1 : Blk W0 w.heap.size 42 (cC c) := by rw [hW0]; exact (Blk.new w 42 (cC c)).alloc _
  have k2 : Blk W0 (w.heap.size + 1) 42 (cC d) := by rw [hW0]; simpa using Blk.new (w.alloc (Obj.cells (cC c) 42)) 42 (cC d)
  have k3 : Below w.heap.size w W0 := by rw [hW0]; exact ((Below.refl _ _).alloc (Nat.le_refl _) _).alloc (by simp) _
  have K1 := Lib.hid k1; have K2 := Lib.hid k2; have K3 := Lib.hid k3; have HW0 := Lib.hid hW0
  clear k1 k2 k3 hW0
  simp only [cC] at HW0
  change Calls Try.prog 10 #[.agg #[Value.int IntKind.i8 c.kind, Value.int IntKind.i64 c.node, Value.int IntKind.i64 c.serial, Value.int IntKind.i64 c.dead, Value.int IntKind.i64 c.was, Value.int IntKind.i64 c.lo, Value.int IntKind.i64 c.hi, Value.int IntKind.i8 c.mode], .agg #[Value.int IntKind.i8 d.kind, Value.int IntKind.i64 d.node, Value.int IntKind.i64 d.serial, Value.int IntKind.i64 d.dead, Value.int IntKind.i64 d.was, Value.int IntKind.i64 d.lo, Value.int IntKind.i64 d.hi, Value.int IntKind.i8 d.mode], .int .i64 n] w _
  clear hS hT
  clear h1 h2 hc hd
  have m1 := fun W => mayc_any ⟨c.kind, c.node, c.serial, c.dead, c.was, c.lo, n, c.mode⟩ W
  rw [hm1] at m1
  have m2 := fun W => mayc_any ⟨6, c.node, c.serial, c.dead, c.was, c.lo, c.hi, c.mode⟩ W
  rw [hm2] at m2
  have M1 := Lib.hid m1; have M2 := Lib.hid m2
  clear m1 m2 hm1 hm2
  go_enter Try.func10, Try.ntmps10
  go_wp2_with fail
  rw [← HW0.out]
  refine (C1.out _).mono ?_
  rintro e w1 ⟨rfl, b1⟩
  have K11 := Lib.hid (K1.out.below b1 K1.out.lt); have K21 := Lib.hid (K2.out.below b1 K2.out.lt); have K31 := Lib.hid (K3.out.trans (b1.mono K3.out.size))
  clear b1 K1 K2 K3 HW0 C1
  have p0 : w1.cell? ⟨w.heap.size + 1, 0, none⟩ = some (.int .i8 d.kind) := by rw [K21.out.cell 0]; rfl
  have p1 : w1.cell? ⟨w.heap.size + 1, 1, none⟩ = some (.int .i64 d.node) := by rw [K21.out.cell 1]; rfl
  have p2 : w1.cell? ⟨w.heap.size + 1, 2, none⟩ = some (.int .i64 d.serial) := by rw [K21.out.cell 2]; rfl
  have p3 : w1.cell? ⟨w.heap.size + 1, 3, none⟩ = some (.int .i64 d.dead) := by rw [K21.out.cell 3]; rfl
  have p4 : w1.cell? ⟨w.heap.size + 1, 4, none⟩ = some (.int .i64 d.was) := by rw [K21.out.cell 4]; rfl
  have p5 : w1.cell? ⟨w.heap.size + 1, 5, none⟩ = some (.int .i64 d.lo) := by rw [K21.out.cell 5]; rfl
  have p6 : w1.cell? ⟨w.heap.size + 1, 6, none⟩ = some (.int .i64 d.hi) := by rw [K21.out.cell 6]; rfl
  have p7 : w1.cell? ⟨w.heap.size + 1, 7, none⟩ = some (.int .i8 d.mode) := by rw [K21.out.cell 7]; rfl
  go_wp2_with fail
  refine (C2.out _).mono ?_
  rintro e w2 ⟨rfl, b2⟩
  have K12 := Lib.hid (K11.out.below b2 K11.out.lt); have K22 := Lib.hid (K21.out.below b2 K21.out.lt); have K32 := Lib.hid (K31.out.trans (b2.mono K31.out.size))
  clear b2 K11 K21 K31 p0 p1 p2 p3 p4 p5 p6 p7 C2
  have p0 : w2.cell? ⟨w.heap.size + 1, 0, none⟩ = some (.int .i8 d.kind) := by rw [K22.out.cell 0]; rfl
  have p1 : w2.cell? ⟨w.heap.size + 1, 1, none⟩ = some (.int .i64 d.node) := by rw [K22.out.cell 1]; rfl
  have p2 : w2.cell? ⟨w.heap.size + 1, 2, none⟩ = some (.int .i64 d.serial) := by rw [K22.out.cell 2]; rfl
  have p3 : w2.cell? ⟨w.heap.size + 1, 3, none⟩ = some (.int .i64 d.dead) := by rw [K22.out.cell 3]; rfl
  have p4 : w2.cell? ⟨w.heap.size + 1, 4, none⟩ = some (.int .i64 d.was) := by rw [K22.out.cell 4]; rfl
  have p5 : w2.cell? ⟨w.heap.size + 1, 5, none⟩ = some (.int .i64 d.lo) := by rw [K22.out.cell 5]; rfl
  have p6 : w2.cell? ⟨w.heap.size + 1, 6, none⟩ = some (.int .i64 d.hi) := by rw [K22.out.cell 6]; rfl
  have p7 : w2.cell? ⟨w.heap.size + 1, 7, none⟩ = some (.int .i8 d.mode) := by rw [K22.out.cell 7]; rfl
  have q0 : w2.cell? ⟨w.heap.size, 0, none⟩ = some (.int .i8 c.kind) := by rw [K12.out.cell 0]; rfl
  have q1 : w2.cell? ⟨w.heap.size, 1, none⟩ = some (.int .i64 c.node) := by rw [K12.out.cell 1]; rfl
  have q2 : w2.cell? ⟨w.heap.size, 2, none⟩ = some (.int .i64 c.serial) := by rw [K12.out.cell 2]; rfl
  have q3 : w2.cell? ⟨w.heap.size, 3, none⟩ = some (.int .i64 c.dead) := by rw [K12.out.cell 3]; rfl
  have q4 : w2.cell? ⟨w.heap.size, 4, none⟩ = some (.int .i64 c.was) := by rw [K12.out.cell 4]; rfl
  have q5 : w2.cell? ⟨w.heap.size, 5, none⟩ = some (.int .i64 c.lo) := by rw [K12.out.cell 5]; rfl
  have q6 : w2.cell? ⟨w.heap.size, 6, none⟩ = some (.int .i64 c.hi) := by rw [K12.out.cell 6]; rfl
  have q7 : w2.cell? ⟨w.heap.size, 7, none⟩ = some (.int .i8 c.mode) := by rw [K12.out.cell 7]; rfl
  have hlt := K12.out.lt
  go_upto_region 11 with fail
  clear p0 p1 p2 p3 p4 p5 p6 p7
  go_wp2_with fail
  have k4 := (Blk.new (w2.alloc (Obj.cells (cC ⟨c.kind, c.node, c.serial, c.dead, c.was, c.lo, n, c.mode⟩) 42)) 42 (cC ⟨6, c.node, c.serial, c.dead, c.was, c.lo, c.hi, c.mode⟩))
  rw [World.size_alloc] at k4
  obtain ⟨W3, hW3⟩ : ∃ W, W = ((w2.alloc (Obj.cells (cC ⟨c.kind, c.node, c.serial, c.dead, c.was, c.lo, n, c.mode⟩) 42)).alloc (Obj.cells (cC ⟨6, c.node, c.serial, c.dead, c.was, c.lo, c.hi, c.mode⟩) 42)) := ⟨_, rfl⟩
  rw [← hW3] at k4
  have k5 : Below w.heap.size w W3 := by rw [hW3]; exact (K32.out.alloc K32.out.size _).alloc (by rw [World.size_alloc]; have := K32.out.size; omega) _
  have K4 := Lib.hid k4; have K5 := Lib.hid k5
  refine (M1.out _).mono ?_
  rintro e w3 ⟨rfl, b3⟩
  have b3' : Below W3.heap.size W3 w3 := by rw [hW3]; exact b3
  have K6 : Hid (Blk w3 (w2.heap.size + 1) 42 (cC ⟨6, c.node, c.serial, c.dead, c.was, c.lo, c.hi, c.mode⟩)) := Lib.hid (K4.out.below b3' K4.out.lt)
  have K7 : Hid (Below w.heap.size w w3) := Lib.hid (K5.out.trans (b3'.mono K5.out.size))
  clear b3 b3' hW3 k4 k5 K4 K5 M1 q0 q1 q2 q3 q4 q5 q6 q7
  have p0 : w3.cell? ⟨w2.heap.size + 1, 0, none⟩ = some (.int .i8 6) := by rw [K6.out.cell 0]; rfl
  have p1 : w3.cell? ⟨w2.heap.size + 1, 1, none⟩ = some (.int .i64 c.node) := by rw [K6.out.cell 1]; rfl
  have p2 : w3.cell? ⟨w2.heap.size + 1, 2, none⟩ = some (.int .i64 c.serial) := by rw [K6.out.cell 2]; rfl
  have p3 : w3.cell? ⟨w2.heap.size + 1, 3, none⟩ = some (.int .i64 c.dead) := by rw [K6.out.cell 3]; rfl
  have p4 : w3.cell? ⟨w2.heap.size + 1, 4, none⟩ = some (.int .i64 c.was) := by rw [K6.out.cell 4]; rfl
  have p5 : w3.cell? ⟨w2.heap.size + 1, 5, none⟩ = some (.int .i64 c.lo) := by rw [K6.out.cell 5]; rfl
  have p6 : w3.cell? ⟨w2.heap.size + 1, 6, none⟩ = some (.int .i64 c.hi) := by rw [K6.out.cell 6]; rfl
  have p7 : w3.cell? ⟨w2.heap.size + 1, 7, none⟩ = some (.int .i8 c.mode) := by rw [K6.out.cell 7]; rfl
  go_wp2_with fail
  refine (M2.out _).mono ?_
  rintro e w4 ⟨rfl, b4⟩
  have K8 : Hid (Below w.heap.size w w4) := Lib.hid (K7.out.trans (b4.mono K7.out.size))
  clear b4 K7 K6
  go_wp2_with fail
  refine (wakes_cmd w4).mono ?_
  rintro e w9 ⟨rfl, b9⟩
  go_wp2
  go_ret
  exact ⟨rfl, K8.out.trans (b9.mono K8.out.size)⟩

set_option maxHeartbeats 1000000 in
theorem co_E2 (c : Cm) (n : Int) (w : World) (hc : Wf c) (hd : Wf c) (h1 : bytesE c = 0) (h2 : bytesE c = 0) (n0 : (n == 0) = false) (k2 : (c.kind == 2) = true) (hm1 : mayC ⟨c.kind, c.node, c.serial, n, c.was, c.lo, c.hi, c.mode⟩ = false) (hm2 : mayC ⟨6, c.node, c.serial, c.dead, c.was, c.lo, c.hi, c.mode⟩ = false) :
    Calls Try.prog 10 #[.agg (cC c), .agg (cC c), .int .i64 n] w fun e w' => e = .returned (.bool true) ∧ Below w.heap.size w w' := by
  have c1 := fun W => bytes_any c W hc
  have c2 := fun W => bytes_any c W hd
  simp only [cC] at c1 c2
  obtain ⟨S, hS⟩ : ∃ S, bytesS c = S := ⟨_, rfl⟩
  obtain ⟨T, hT⟩ : ∃ T, bytesS c = T := ⟨_, rfl⟩
  rw [hS, h1] at c1
  rw [hT, h2] at c2
  have C1 := Lib.hid c1; have C2 := Lib.hid c2
  clear c1 c2
  obtain ⟨W0, hW0⟩ : ∃ W0, W0 = (w.alloc (Obj.cells (cC c) 42)).alloc (Obj.cells (cC c) 42) := ⟨_, rfl⟩
  have k1 : Blk W0 w.heap.size 42 (cC c) := by rw [hW0]; exact (Blk.new w 42 (cC c)).alloc _
  have k2 : Blk W0 (w.heap.size + 1) 42 (cC c) := by rw [hW0]; simpa using Blk.new (w.alloc (Obj.cells (cC c) 42)) 42 (cC c)
  have k3 : Below w.heap.size w W0 := by rw [hW0]; exact ((Below.refl _ _).alloc (Nat.le_refl _) _).alloc (by simp) _
  have K1 := Lib.hid k1; have K2 := Lib.hid k2; have K3 := Lib.hid k3; have HW0 := Lib.hid hW0
  clear k1 k2 k3 hW0
  simp only [cC] at HW0
  change Calls Try.prog 10 #[.agg #[Value.int IntKind.i8 c.kind, Value.int IntKind.i64 c.node, Value.int IntKind.i64 c.serial, Value.int IntKind.i64 c.dead, Value.int IntKind.i64 c.was, Value.int IntKind.i64 c.lo, Value.int IntKind.i64 c.hi, Value.int IntKind.i8 c.mode], .agg #[Value.int IntKind.i8 c.kind, Value.int IntKind.i64 c.node, Value.int IntKind.i64 c.serial, Value.int IntKind.i64 c.dead, Value.int IntKind.i64 c.was, Value.int IntKind.i64 c.lo, Value.int IntKind.i64 c.hi, Value.int IntKind.i8 c.mode], .int .i64 n] w _
  obtain rfl : S = T := hS.symm.trans hT
  clear hS hT
  clear h1 h2 hc hd
  have m1 := fun W => mayc_any ⟨c.kind, c.node, c.serial, n, c.was, c.lo, c.hi, c.mode⟩ W
  rw [hm1] at m1
  have m2 := fun W => mayc_any ⟨6, c.node, c.serial, c.dead, c.was, c.lo, c.hi, c.mode⟩ W
  rw [hm2] at m2
  have M1 := Lib.hid m1; have M2 := Lib.hid m2
  clear m1 m2 hm1 hm2
  go_enter Try.func10, Try.ntmps10
  go_wp2_with fail
  rw [← HW0.out]
  refine (C1.out _).mono ?_
  rintro e w1 ⟨rfl, b1⟩
  have K11 := Lib.hid (K1.out.below b1 K1.out.lt); have K21 := Lib.hid (K2.out.below b1 K2.out.lt); have K31 := Lib.hid (K3.out.trans (b1.mono K3.out.size))
  clear b1 K1 K2 K3 HW0 C1
  have p0 : w1.cell? ⟨w.heap.size + 1, 0, none⟩ = some (.int .i8 c.kind) := by rw [K21.out.cell 0]; rfl
  have p1 : w1.cell? ⟨w.heap.size + 1, 1, none⟩ = some (.int .i64 c.node) := by rw [K21.out.cell 1]; rfl
  have p2 : w1.cell? ⟨w.heap.size + 1, 2, none⟩ = some (.int .i64 c.serial) := by rw [K21.out.cell 2]; rfl
  have p3 : w1.cell? ⟨w.heap.size + 1, 3, none⟩ = some (.int .i64 c.dead) := by rw [K21.out.cell 3]; rfl
  have p4 : w1.cell? ⟨w.heap.size + 1, 4, none⟩ = some (.int .i64 c.was) := by rw [K21.out.cell 4]; rfl
  have p5 : w1.cell? ⟨w.heap.size + 1, 5, none⟩ = some (.int .i64 c.lo) := by rw [K21.out.cell 5]; rfl
  have p6 : w1.cell? ⟨w.heap.size + 1, 6, none⟩ = some (.int .i64 c.hi) := by rw [K21.out.cell 6]; rfl
  have p7 : w1.cell? ⟨w.heap.size + 1, 7, none⟩ = some (.int .i8 c.mode) := by rw [K21.out.cell 7]; rfl
  go_wp2_with fail
  refine (C2.out _).mono ?_
  rintro e w2 ⟨rfl, b2⟩
  have K12 := Lib.hid (K11.out.below b2 K11.out.lt); have K22 := Lib.hid (K21.out.below b2 K21.out.lt); have K32 := Lib.hid (K31.out.trans (b2.mono K31.out.size))
  clear b2 K11 K21 K31 p0 p1 p2 p3 p4 p5 p6 p7 C2
  have p0 : w2.cell? ⟨w.heap.size + 1, 0, none⟩ = some (.int .i8 c.kind) := by rw [K22.out.cell 0]; rfl
  have p1 : w2.cell? ⟨w.heap.size + 1, 1, none⟩ = some (.int .i64 c.node) := by rw [K22.out.cell 1]; rfl
  have p2 : w2.cell? ⟨w.heap.size + 1, 2, none⟩ = some (.int .i64 c.serial) := by rw [K22.out.cell 2]; rfl
  have p3 : w2.cell? ⟨w.heap.size + 1, 3, none⟩ = some (.int .i64 c.dead) := by rw [K22.out.cell 3]; rfl
  have p4 : w2.cell? ⟨w.heap.size + 1, 4, none⟩ = some (.int .i64 c.was) := by rw [K22.out.cell 4]; rfl
  have p5 : w2.cell? ⟨w.heap.size + 1, 5, none⟩ = some (.int .i64 c.lo) := by rw [K22.out.cell 5]; rfl
  have p6 : w2.cell? ⟨w.heap.size + 1, 6, none⟩ = some (.int .i64 c.hi) := by rw [K22.out.cell 6]; rfl
  have p7 : w2.cell? ⟨w.heap.size + 1, 7, none⟩ = some (.int .i8 c.mode) := by rw [K22.out.cell 7]; rfl
  have q0 : w2.cell? ⟨w.heap.size, 0, none⟩ = some (.int .i8 c.kind) := by rw [K12.out.cell 0]; rfl
  have q1 : w2.cell? ⟨w.heap.size, 1, none⟩ = some (.int .i64 c.node) := by rw [K12.out.cell 1]; rfl
  have q2 : w2.cell? ⟨w.heap.size, 2, none⟩ = some (.int .i64 c.serial) := by rw [K12.out.cell 2]; rfl
  have q3 : w2.cell? ⟨w.heap.size, 3, none⟩ = some (.int .i64 c.dead) := by rw [K12.out.cell 3]; rfl
  have q4 : w2.cell? ⟨w.heap.size, 4, none⟩ = some (.int .i64 c.was) := by rw [K12.out.cell 4]; rfl
  have q5 : w2.cell? ⟨w.heap.size, 5, none⟩ = some (.int .i64 c.lo) := by rw [K12.out.cell 5]; rfl
  have q6 : w2.cell? ⟨w.heap.size, 6, none⟩ = some (.int .i64 c.hi) := by rw [K12.out.cell 6]; rfl
  have q7 : w2.cell? ⟨w.heap.size, 7, none⟩ = some (.int .i8 c.mode) := by rw [K12.out.cell 7]; rfl
  have hlt := K12.out.lt
  go_upto_region 11 with fail
  clear p0 p1 p2 p3 p4 p5 p6 p7
  go_wp2_with fail
  have k4 := (Blk.new (w2.alloc (Obj.cells (cC ⟨c.kind, c.node, c.serial, n, c.was, c.lo, c.hi, c.mode⟩) 42)) 42 (cC ⟨6, c.node, c.serial, c.dead, c.was, c.lo, c.hi, c.mode⟩))
  rw [World.size_alloc] at k4
  obtain ⟨W3, hW3⟩ : ∃ W, W = ((w2.alloc (Obj.cells (cC ⟨c.kind, c.node, c.serial, n, c.was, c.lo, c.hi, c.mode⟩) 42)).alloc (Obj.cells (cC ⟨6, c.node, c.serial, c.dead, c.was, c.lo, c.hi, c.mode⟩) 42)) := ⟨_, rfl⟩
  rw [← hW3] at k4
  have k5 : Below w.heap.size w W3 := by rw [hW3]; exact (K32.out.alloc K32.out.size _).alloc (by rw [World.size_alloc]; have := K32.out.size; omega) _
  have K4 := Lib.hid k4; have K5 := Lib.hid k5
  refine (M1.out _).mono ?_
  rintro e w3 ⟨rfl, b3⟩
  have b3' : Below W3.heap.size W3 w3 := by rw [hW3]; exact b3
  have K6 : Hid (Blk w3 (w2.heap.size + 1) 42 (cC ⟨6, c.node, c.serial, c.dead, c.was, c.lo, c.hi, c.mode⟩)) := Lib.hid (K4.out.below b3' K4.out.lt)
  have K7 : Hid (Below w.heap.size w w3) := Lib.hid (K5.out.trans (b3'.mono K5.out.size))
  clear b3 b3' hW3 k4 k5 K4 K5 M1 q0 q1 q2 q3 q4 q5 q6 q7
  have p0 : w3.cell? ⟨w2.heap.size + 1, 0, none⟩ = some (.int .i8 6) := by rw [K6.out.cell 0]; rfl
  have p1 : w3.cell? ⟨w2.heap.size + 1, 1, none⟩ = some (.int .i64 c.node) := by rw [K6.out.cell 1]; rfl
  have p2 : w3.cell? ⟨w2.heap.size + 1, 2, none⟩ = some (.int .i64 c.serial) := by rw [K6.out.cell 2]; rfl
  have p3 : w3.cell? ⟨w2.heap.size + 1, 3, none⟩ = some (.int .i64 c.dead) := by rw [K6.out.cell 3]; rfl
  have p4 : w3.cell? ⟨w2.heap.size + 1, 4, none⟩ = some (.int .i64 c.was) := by rw [K6.out.cell 4]; rfl
  have p5 : w3.cell? ⟨w2.heap.size + 1, 5, none⟩ = some (.int .i64 c.lo) := by rw [K6.out.cell 5]; rfl
  have p6 : w3.cell? ⟨w2.heap.size + 1, 6, none⟩ = some (.int .i64 c.hi) := by rw [K6.out.cell 6]; rfl
  have p7 : w3.cell? ⟨w2.heap.size + 1, 7, none⟩ = some (.int .i8 c.mode) := by rw [K6.out.cell 7]; rfl
  go_wp2_with fail
  refine (M2.out _).mono ?_
  rintro e w4 ⟨rfl, b4⟩
  have K8 : Hid (Below w.heap.size w w4) := Lib.hid (K7.out.trans (b4.mono K7.out.size))
  clear b4 K7 K6
  go_wp2_with fail
  refine (wakes_cmd w4).mono ?_
  rintro e w9 ⟨rfl, b9⟩
  go_wp2
  go_ret
  exact ⟨rfl, K8.out.trans (b9.mono K8.out.size)⟩

set_option maxHeartbeats 1000000 in
theorem co_E3 (c : Cm) (n : Int) (w : World) (hc : Wf c) (hd : Wf c) (h1 : bytesE c = 0) (h2 : bytesE c = 0) (n0 : (n == 0) = false) (k2 : (c.kind == 2) = false) (k3 : (c.kind == 3) = true) (hm1 : mayC ⟨c.kind, c.node, c.serial, n, c.was, c.lo, c.hi, c.mode⟩ = false) (hm2 : mayC ⟨6, c.node, c.serial, c.dead, c.was, c.lo, c.hi, c.mode⟩ = false) :
    Calls Try.prog 10 #[.agg (cC c), .agg (cC c), .int .i64 n] w fun e w' => e = .returned (.bool true) ∧ Below w.heap.size w w' := by
  have c1 := fun W => bytes_any c W hc
  have c2 := fun W => bytes_any c W hd
  simp only [cC] at c1 c2
  obtain ⟨S, hS⟩ : ∃ S, bytesS c = S := ⟨_, rfl⟩
  obtain ⟨T, hT⟩ : ∃ T, bytesS c = T := ⟨_, rfl⟩
  rw [hS, h1] at c1
  rw [hT, h2] at c2
  have C1 := Lib.hid c1; have C2 := Lib.hid c2
  clear c1 c2
  obtain ⟨W0, hW0⟩ : ∃ W0, W0 = (w.alloc (Obj.cells (cC c) 42)).alloc (Obj.cells (cC c) 42) := ⟨_, rfl⟩
  have k1 : Blk W0 w.heap.size 42 (cC c) := by rw [hW0]; exact (Blk.new w 42 (cC c)).alloc _
  have k2 : Blk W0 (w.heap.size + 1) 42 (cC c) := by rw [hW0]; simpa using Blk.new (w.alloc (Obj.cells (cC c) 42)) 42 (cC c)
  have k3 : Below w.heap.size w W0 := by rw [hW0]; exact ((Below.refl _ _).alloc (Nat.le_refl _) _).alloc (by simp) _
  have K1 := Lib.hid k1; have K2 := Lib.hid k2; have K3 := Lib.hid k3; have HW0 := Lib.hid hW0
  clear k1 k2 k3 hW0
  simp only [cC] at HW0
  change Calls Try.prog 10 #[.agg #[Value.int IntKind.i8 c.kind, Value.int IntKind.i64 c.node, Value.int IntKind.i64 c.serial, Value.int IntKind.i64 c.dead, Value.int IntKind.i64 c.was, Value.int IntKind.i64 c.lo, Value.int IntKind.i64 c.hi, Value.int IntKind.i8 c.mode], .agg #[Value.int IntKind.i8 c.kind, Value.int IntKind.i64 c.node, Value.int IntKind.i64 c.serial, Value.int IntKind.i64 c.dead, Value.int IntKind.i64 c.was, Value.int IntKind.i64 c.lo, Value.int IntKind.i64 c.hi, Value.int IntKind.i8 c.mode], .int .i64 n] w _
  obtain rfl : S = T := hS.symm.trans hT
  clear hS hT
  clear h1 h2 hc hd
  have m1 := fun W => mayc_any ⟨c.kind, c.node, c.serial, n, c.was, c.lo, c.hi, c.mode⟩ W
  rw [hm1] at m1
  have m2 := fun W => mayc_any ⟨6, c.node, c.serial, c.dead, c.was, c.lo, c.hi, c.mode⟩ W
  rw [hm2] at m2
  have M1 := Lib.hid m1; have M2 := Lib.hid m2
  clear m1 m2 hm1 hm2
  go_enter Try.func10, Try.ntmps10
  go_wp2_with fail
  rw [← HW0.out]
  refine (C1.out _).mono ?_
  rintro e w1 ⟨rfl, b1⟩
  have K11 := Lib.hid (K1.out.below b1 K1.out.lt); have K21 := Lib.hid (K2.out.below b1 K2.out.lt); have K31 := Lib.hid (K3.out.trans (b1.mono K3.out.size))
  clear b1 K1 K2 K3 HW0 C1
  have p0 : w1.cell? ⟨w.heap.size + 1, 0, none⟩ = some (.int .i8 c.kind) := by rw [K21.out.cell 0]; rfl
  have p1 : w1.cell? ⟨w.heap.size + 1, 1, none⟩ = some (.int .i64 c.node) := by rw [K21.out.cell 1]; rfl
  have p2 : w1.cell? ⟨w.heap.size + 1, 2, none⟩ = some (.int .i64 c.serial) := by rw [K21.out.cell 2]; rfl
  have p3 : w1.cell? ⟨w.heap.size + 1, 3, none⟩ = some (.int .i64 c.dead) := by rw [K21.out.cell 3]; rfl
  have p4 : w1.cell? ⟨w.heap.size + 1, 4, none⟩ = some (.int .i64 c.was) := by rw [K21.out.cell 4]; rfl
  have p5 : w1.cell? ⟨w.heap.size + 1, 5, none⟩ = some (.int .i64 c.lo) := by rw [K21.out.cell 5]; rfl
  have p6 : w1.cell? ⟨w.heap.size + 1, 6, none⟩ = some (.int .i64 c.hi) := by rw [K21.out.cell 6]; rfl
  have p7 : w1.cell? ⟨w.heap.size + 1, 7, none⟩ = some (.int .i8 c.mode) := by rw [K21.out.cell 7]; rfl
  go_wp2_with fail
  refine (C2.out _).mono ?_
  rintro e w2 ⟨rfl, b2⟩
  have K12 := Lib.hid (K11.out.below b2 K11.out.lt); have K22 := Lib.hid (K21.out.below b2 K21.out.lt); have K32 := Lib.hid (K31.out.trans (b2.mono K31.out.size))
  clear b2 K11 K21 K31 p0 p1 p2 p3 p4 p5 p6 p7 C2
  have p0 : w2.cell? ⟨w.heap.size + 1, 0, none⟩ = some (.int .i8 c.kind) := by rw [K22.out.cell 0]; rfl
  have p1 : w2.cell? ⟨w.heap.size + 1, 1, none⟩ = some (.int .i64 c.node) := by rw [K22.out.cell 1]; rfl
  have p2 : w2.cell? ⟨w.heap.size + 1, 2, none⟩ = some (.int .i64 c.serial) := by rw [K22.out.cell 2]; rfl
  have p3 : w2.cell? ⟨w.heap.size + 1, 3, none⟩ = some (.int .i64 c.dead) := by rw [K22.out.cell 3]; rfl
  have p4 : w2.cell? ⟨w.heap.size + 1, 4, none⟩ = some (.int .i64 c.was) := by rw [K22.out.cell 4]; rfl
  have p5 : w2.cell? ⟨w.heap.size + 1, 5, none⟩ = some (.int .i64 c.lo) := by rw [K22.out.cell 5]; rfl
  have p6 : w2.cell? ⟨w.heap.size + 1, 6, none⟩ = some (.int .i64 c.hi) := by rw [K22.out.cell 6]; rfl
  have p7 : w2.cell? ⟨w.heap.size + 1, 7, none⟩ = some (.int .i8 c.mode) := by rw [K22.out.cell 7]; rfl
  have q0 : w2.cell? ⟨w.heap.size, 0, none⟩ = some (.int .i8 c.kind) := by rw [K12.out.cell 0]; rfl
  have q1 : w2.cell? ⟨w.heap.size, 1, none⟩ = some (.int .i64 c.node) := by rw [K12.out.cell 1]; rfl
  have q2 : w2.cell? ⟨w.heap.size, 2, none⟩ = some (.int .i64 c.serial) := by rw [K12.out.cell 2]; rfl
  have q3 : w2.cell? ⟨w.heap.size, 3, none⟩ = some (.int .i64 c.dead) := by rw [K12.out.cell 3]; rfl
  have q4 : w2.cell? ⟨w.heap.size, 4, none⟩ = some (.int .i64 c.was) := by rw [K12.out.cell 4]; rfl
  have q5 : w2.cell? ⟨w.heap.size, 5, none⟩ = some (.int .i64 c.lo) := by rw [K12.out.cell 5]; rfl
  have q6 : w2.cell? ⟨w.heap.size, 6, none⟩ = some (.int .i64 c.hi) := by rw [K12.out.cell 6]; rfl
  have q7 : w2.cell? ⟨w.heap.size, 7, none⟩ = some (.int .i8 c.mode) := by rw [K12.out.cell 7]; rfl
  have hlt := K12.out.lt
  go_upto_region 11 with fail
  clear p0 p1 p2 p3 p4 p5 p6 p7
  go_wp2_with fail
  have k4 := (Blk.new (w2.alloc (Obj.cells (cC ⟨c.kind, c.node, c.serial, n, c.was, c.lo, c.hi, c.mode⟩) 42)) 42 (cC ⟨6, c.node, c.serial, c.dead, c.was, c.lo, c.hi, c.mode⟩))
  rw [World.size_alloc] at k4
  obtain ⟨W3, hW3⟩ : ∃ W, W = ((w2.alloc (Obj.cells (cC ⟨c.kind, c.node, c.serial, n, c.was, c.lo, c.hi, c.mode⟩) 42)).alloc (Obj.cells (cC ⟨6, c.node, c.serial, c.dead, c.was, c.lo, c.hi, c.mode⟩) 42)) := ⟨_, rfl⟩
  rw [← hW3] at k4
  have k5 : Below w.heap.size w W3 := by rw [hW3]; exact (K32.out.alloc K32.out.size _).alloc (by rw [World.size_alloc]; have := K32.out.size; omega) _
  have K4 := Lib.hid k4; have K5 := Lib.hid k5
  refine (M1.out _).mono ?_
  rintro e w3 ⟨rfl, b3⟩
  have b3' : Below W3.heap.size W3 w3 := by rw [hW3]; exact b3
  have K6 : Hid (Blk w3 (w2.heap.size + 1) 42 (cC ⟨6, c.node, c.serial, c.dead, c.was, c.lo, c.hi, c.mode⟩)) := Lib.hid (K4.out.below b3' K4.out.lt)
  have K7 : Hid (Below w.heap.size w w3) := Lib.hid (K5.out.trans (b3'.mono K5.out.size))
  clear b3 b3' hW3 k4 k5 K4 K5 M1 q0 q1 q2 q3 q4 q5 q6 q7
  have p0 : w3.cell? ⟨w2.heap.size + 1, 0, none⟩ = some (.int .i8 6) := by rw [K6.out.cell 0]; rfl
  have p1 : w3.cell? ⟨w2.heap.size + 1, 1, none⟩ = some (.int .i64 c.node) := by rw [K6.out.cell 1]; rfl
  have p2 : w3.cell? ⟨w2.heap.size + 1, 2, none⟩ = some (.int .i64 c.serial) := by rw [K6.out.cell 2]; rfl
  have p3 : w3.cell? ⟨w2.heap.size + 1, 3, none⟩ = some (.int .i64 c.dead) := by rw [K6.out.cell 3]; rfl
  have p4 : w3.cell? ⟨w2.heap.size + 1, 4, none⟩ = some (.int .i64 c.was) := by rw [K6.out.cell 4]; rfl
  have p5 : w3.cell? ⟨w2.heap.size + 1, 5, none⟩ = some (.int .i64 c.lo) := by rw [K6.out.cell 5]; rfl
  have p6 : w3.cell? ⟨w2.heap.size + 1, 6, none⟩ = some (.int .i64 c.hi) := by rw [K6.out.cell 6]; rfl
  have p7 : w3.cell? ⟨w2.heap.size + 1, 7, none⟩ = some (.int .i8 c.mode) := by rw [K6.out.cell 7]; rfl
  go_wp2_with fail
  refine (M2.out _).mono ?_
  rintro e w4 ⟨rfl, b4⟩
  have K8 : Hid (Below w.heap.size w w4) := Lib.hid (K7.out.trans (b4.mono K7.out.size))
  clear b4 K7 K6
  go_wp2_with fail
  refine (wakes_cmd w4).mono ?_
  rintro e w9 ⟨rfl, b9⟩
  go_wp2
  go_ret
  exact ⟨rfl, K8.out.trans (b9.mono K8.out.size)⟩

set_option maxHeartbeats 1000000 in
theorem co_E0 (c : Cm) (n : Int) (w : World) (hc : Wf c) (hd : Wf c) (h1 : bytesE c = 0) (h2 : bytesE c = 0) (n0 : (n == 0) = false) (k2 : (c.kind == 2) = false) (k3 : (c.kind == 3) = false) (k0 : (c.kind == 0) = true) (hm1 : mayC ⟨c.kind, c.node, c.serial, n, c.was, c.lo, c.hi, c.mode⟩ = false) (hm2 : mayC ⟨6, c.node, c.serial, c.dead, c.was, c.lo, c.hi, c.mode⟩ = false) :
    Calls Try.prog 10 #[.agg (cC c), .agg (cC c), .int .i64 n] w fun e w' => e = .returned (.bool true) ∧ Below w.heap.size w w' := by
  have c1 := fun W => bytes_any c W hc
  have c2 := fun W => bytes_any c W hd
  simp only [cC] at c1 c2
  obtain ⟨S, hS⟩ : ∃ S, bytesS c = S := ⟨_, rfl⟩
  obtain ⟨T, hT⟩ : ∃ T, bytesS c = T := ⟨_, rfl⟩
  rw [hS, h1] at c1
  rw [hT, h2] at c2
  have C1 := Lib.hid c1; have C2 := Lib.hid c2
  clear c1 c2
  obtain ⟨W0, hW0⟩ : ∃ W0, W0 = (w.alloc (Obj.cells (cC c) 42)).alloc (Obj.cells (cC c) 42) := ⟨_, rfl⟩
  have k1 : Blk W0 w.heap.size 42 (cC c) := by rw [hW0]; exact (Blk.new w 42 (cC c)).alloc _
  have k2 : Blk W0 (w.heap.size + 1) 42 (cC c) := by rw [hW0]; simpa using Blk.new (w.alloc (Obj.cells (cC c) 42)) 42 (cC c)
  have k3 : Below w.heap.size w W0 := by rw [hW0]; exact ((Below.refl _ _).alloc (Nat.le_refl _) _).alloc (by simp) _
  have K1 := Lib.hid k1; have K2 := Lib.hid k2; have K3 := Lib.hid k3; have HW0 := Lib.hid hW0
  clear k1 k2 k3 hW0
  simp only [cC] at HW0
  change Calls Try.prog 10 #[.agg #[Value.int IntKind.i8 c.kind, Value.int IntKind.i64 c.node, Value.int IntKind.i64 c.serial, Value.int IntKind.i64 c.dead, Value.int IntKind.i64 c.was, Value.int IntKind.i64 c.lo, Value.int IntKind.i64 c.hi, Value.int IntKind.i8 c.mode], .agg #[Value.int IntKind.i8 c.kind, Value.int IntKind.i64 c.node, Value.int IntKind.i64 c.serial, Value.int IntKind.i64 c.dead, Value.int IntKind.i64 c.was, Value.int IntKind.i64 c.lo, Value.int IntKind.i64 c.hi, Value.int IntKind.i8 c.mode], .int .i64 n] w _
  obtain rfl : S = T := hS.symm.trans hT
  clear hS hT
  clear h1 h2 hc hd
  have m1 := fun W => mayc_any ⟨c.kind, c.node, c.serial, n, c.was, c.lo, c.hi, c.mode⟩ W
  rw [hm1] at m1
  have m2 := fun W => mayc_any ⟨6, c.node, c.serial, c.dead, c.was, c.lo, c.hi, c.mode⟩ W
  rw [hm2] at m2
  have M1 := Lib.hid m1; have M2 := Lib.hid m2
  clear m1 m2 hm1 hm2
  go_enter Try.func10, Try.ntmps10
  go_wp2_with fail
  rw [← HW0.out]
  refine (C1.out _).mono ?_
  rintro e w1 ⟨rfl, b1⟩
  have K11 := Lib.hid (K1.out.below b1 K1.out.lt); have K21 := Lib.hid (K2.out.below b1 K2.out.lt); have K31 := Lib.hid (K3.out.trans (b1.mono K3.out.size))
  clear b1 K1 K2 K3 HW0 C1
  have p0 : w1.cell? ⟨w.heap.size + 1, 0, none⟩ = some (.int .i8 c.kind) := by rw [K21.out.cell 0]; rfl
  have p1 : w1.cell? ⟨w.heap.size + 1, 1, none⟩ = some (.int .i64 c.node) := by rw [K21.out.cell 1]; rfl
  have p2 : w1.cell? ⟨w.heap.size + 1, 2, none⟩ = some (.int .i64 c.serial) := by rw [K21.out.cell 2]; rfl
  have p3 : w1.cell? ⟨w.heap.size + 1, 3, none⟩ = some (.int .i64 c.dead) := by rw [K21.out.cell 3]; rfl
  have p4 : w1.cell? ⟨w.heap.size + 1, 4, none⟩ = some (.int .i64 c.was) := by rw [K21.out.cell 4]; rfl
  have p5 : w1.cell? ⟨w.heap.size + 1, 5, none⟩ = some (.int .i64 c.lo) := by rw [K21.out.cell 5]; rfl
  have p6 : w1.cell? ⟨w.heap.size + 1, 6, none⟩ = some (.int .i64 c.hi) := by rw [K21.out.cell 6]; rfl
  have p7 : w1.cell? ⟨w.heap.size + 1, 7, none⟩ = some (.int .i8 c.mode) := by rw [K21.out.cell 7]; rfl
  go_wp2_with fail
  refine (C2.out _).mono ?_
  rintro e w2 ⟨rfl, b2⟩
  have K12 := Lib.hid (K11.out.below b2 K11.out.lt); have K22 := Lib.hid (K21.out.below b2 K21.out.lt); have K32 := Lib.hid (K31.out.trans (b2.mono K31.out.size))
  clear b2 K11 K21 K31 p0 p1 p2 p3 p4 p5 p6 p7 C2
  have p0 : w2.cell? ⟨w.heap.size + 1, 0, none⟩ = some (.int .i8 c.kind) := by rw [K22.out.cell 0]; rfl
  have p1 : w2.cell? ⟨w.heap.size + 1, 1, none⟩ = some (.int .i64 c.node) := by rw [K22.out.cell 1]; rfl
  have p2 : w2.cell? ⟨w.heap.size + 1, 2, none⟩ = some (.int .i64 c.serial) := by rw [K22.out.cell 2]; rfl
  have p3 : w2.cell? ⟨w.heap.size + 1, 3, none⟩ = some (.int .i64 c.dead) := by rw [K22.out.cell 3]; rfl
  have p4 : w2.cell? ⟨w.heap.size + 1, 4, none⟩ = some (.int .i64 c.was) := by rw [K22.out.cell 4]; rfl
  have p5 : w2.cell? ⟨w.heap.size + 1, 5, none⟩ = some (.int .i64 c.lo) := by rw [K22.out.cell 5]; rfl
  have p6 : w2.cell? ⟨w.heap.size + 1, 6, none⟩ = some (.int .i64 c.hi) := by rw [K22.out.cell 6]; rfl
  have p7 : w2.cell? ⟨w.heap.size + 1, 7, none⟩ = some (.int .i8 c.mode) := by rw [K22.out.cell 7]; rfl
  have q0 : w2.cell? ⟨w.heap.size, 0, none⟩ = some (.int .i8 c.kind) := by rw [K12.out.cell 0]; rfl
  have q1 : w2.cell? ⟨w.heap.size, 1, none⟩ = some (.int .i64 c.node) := by rw [K12.out.cell 1]; rfl
  have q2 : w2.cell? ⟨w.heap.size, 2, none⟩ = some (.int .i64 c.serial) := by rw [K12.out.cell 2]; rfl
  have q3 : w2.cell? ⟨w.heap.size, 3, none⟩ = some (.int .i64 c.dead) := by rw [K12.out.cell 3]; rfl
  have q4 : w2.cell? ⟨w.heap.size, 4, none⟩ = some (.int .i64 c.was) := by rw [K12.out.cell 4]; rfl
  have q5 : w2.cell? ⟨w.heap.size, 5, none⟩ = some (.int .i64 c.lo) := by rw [K12.out.cell 5]; rfl
  have q6 : w2.cell? ⟨w.heap.size, 6, none⟩ = some (.int .i64 c.hi) := by rw [K12.out.cell 6]; rfl
  have q7 : w2.cell? ⟨w.heap.size, 7, none⟩ = some (.int .i8 c.mode) := by rw [K12.out.cell 7]; rfl
  have hlt := K12.out.lt
  go_upto_region 11 with fail
  clear p0 p1 p2 p3 p4 p5 p6 p7
  go_wp2_with fail
  have k4 := (Blk.new (w2.alloc (Obj.cells (cC ⟨c.kind, c.node, c.serial, n, c.was, c.lo, c.hi, c.mode⟩) 42)) 42 (cC ⟨6, c.node, c.serial, c.dead, c.was, c.lo, c.hi, c.mode⟩))
  rw [World.size_alloc] at k4
  obtain ⟨W3, hW3⟩ : ∃ W, W = ((w2.alloc (Obj.cells (cC ⟨c.kind, c.node, c.serial, n, c.was, c.lo, c.hi, c.mode⟩) 42)).alloc (Obj.cells (cC ⟨6, c.node, c.serial, c.dead, c.was, c.lo, c.hi, c.mode⟩) 42)) := ⟨_, rfl⟩
  rw [← hW3] at k4
  have k5 : Below w.heap.size w W3 := by rw [hW3]; exact (K32.out.alloc K32.out.size _).alloc (by rw [World.size_alloc]; have := K32.out.size; omega) _
  have K4 := Lib.hid k4; have K5 := Lib.hid k5
  refine (M1.out _).mono ?_
  rintro e w3 ⟨rfl, b3⟩
  have b3' : Below W3.heap.size W3 w3 := by rw [hW3]; exact b3
  have K6 : Hid (Blk w3 (w2.heap.size + 1) 42 (cC ⟨6, c.node, c.serial, c.dead, c.was, c.lo, c.hi, c.mode⟩)) := Lib.hid (K4.out.below b3' K4.out.lt)
  have K7 : Hid (Below w.heap.size w w3) := Lib.hid (K5.out.trans (b3'.mono K5.out.size))
  clear b3 b3' hW3 k4 k5 K4 K5 M1 q0 q1 q2 q3 q4 q5 q6 q7
  have p0 : w3.cell? ⟨w2.heap.size + 1, 0, none⟩ = some (.int .i8 6) := by rw [K6.out.cell 0]; rfl
  have p1 : w3.cell? ⟨w2.heap.size + 1, 1, none⟩ = some (.int .i64 c.node) := by rw [K6.out.cell 1]; rfl
  have p2 : w3.cell? ⟨w2.heap.size + 1, 2, none⟩ = some (.int .i64 c.serial) := by rw [K6.out.cell 2]; rfl
  have p3 : w3.cell? ⟨w2.heap.size + 1, 3, none⟩ = some (.int .i64 c.dead) := by rw [K6.out.cell 3]; rfl
  have p4 : w3.cell? ⟨w2.heap.size + 1, 4, none⟩ = some (.int .i64 c.was) := by rw [K6.out.cell 4]; rfl
  have p5 : w3.cell? ⟨w2.heap.size + 1, 5, none⟩ = some (.int .i64 c.lo) := by rw [K6.out.cell 5]; rfl
  have p6 : w3.cell? ⟨w2.heap.size + 1, 6, none⟩ = some (.int .i64 c.hi) := by rw [K6.out.cell 6]; rfl
  have p7 : w3.cell? ⟨w2.heap.size + 1, 7, none⟩ = some (.int .i8 c.mode) := by rw [K6.out.cell 7]; rfl
  go_wp2_with fail
  refine (M2.out _).mono ?_
  rintro e w4 ⟨rfl, b4⟩
  have K8 : Hid (Below w.heap.size w w4) := Lib.hid (K7.out.trans (b4.mono K7.out.size))
  clear b4 K7 K6
  go_wp2_with fail
  refine (wakes_cmd w4).mono ?_
  rintro e w9 ⟨rfl, b9⟩
  go_wp2
  go_ret
  exact ⟨rfl, K8.out.trans (b9.mono K8.out.size)⟩

set_option maxHeartbeats 1000000 in
theorem co_E1 (c : Cm) (n : Int) (w : World) (hc : Wf c) (hd : Wf c) (h1 : bytesE c = 0) (h2 : bytesE c = 0) (n0 : (n == 0) = false) (k2 : (c.kind == 2) = false) (k3 : (c.kind == 3) = false) (k0 : (c.kind == 0) = false) (k1 : (c.kind == 1) = true) (hm1 : mayC ⟨c.kind, c.node, c.serial, n, c.was, c.lo, c.hi, c.mode⟩ = false) (hm2 : mayC ⟨6, c.node, c.serial, c.dead, c.was, c.lo, c.hi, c.mode⟩ = false) :
    Calls Try.prog 10 #[.agg (cC c), .agg (cC c), .int .i64 n] w fun e w' => e = .returned (.bool true) ∧ Below w.heap.size w w' := by
  have c1 := fun W => bytes_any c W hc
  have c2 := fun W => bytes_any c W hd
  simp only [cC] at c1 c2
  obtain ⟨S, hS⟩ : ∃ S, bytesS c = S := ⟨_, rfl⟩
  obtain ⟨T, hT⟩ : ∃ T, bytesS c = T := ⟨_, rfl⟩
  rw [hS, h1] at c1
  rw [hT, h2] at c2
  have C1 := Lib.hid c1; have C2 := Lib.hid c2
  clear c1 c2
  obtain ⟨W0, hW0⟩ : ∃ W0, W0 = (w.alloc (Obj.cells (cC c) 42)).alloc (Obj.cells (cC c) 42) := ⟨_, rfl⟩
  have k1 : Blk W0 w.heap.size 42 (cC c) := by rw [hW0]; exact (Blk.new w 42 (cC c)).alloc _
  have k2 : Blk W0 (w.heap.size + 1) 42 (cC c) := by rw [hW0]; simpa using Blk.new (w.alloc (Obj.cells (cC c) 42)) 42 (cC c)
  have k3 : Below w.heap.size w W0 := by rw [hW0]; exact ((Below.refl _ _).alloc (Nat.le_refl _) _).alloc (by simp) _
  have K1 := Lib.hid k1; have K2 := Lib.hid k2; have K3 := Lib.hid k3; have HW0 := Lib.hid hW0
  clear k1 k2 k3 hW0
  simp only [cC] at HW0
  change Calls Try.prog 10 #[.agg #[Value.int IntKind.i8 c.kind, Value.int IntKind.i64 c.node, Value.int IntKind.i64 c.serial, Value.int IntKind.i64 c.dead, Value.int IntKind.i64 c.was, Value.int IntKind.i64 c.lo, Value.int IntKind.i64 c.hi, Value.int IntKind.i8 c.mode], .agg #[Value.int IntKind.i8 c.kind, Value.int IntKind.i64 c.node, Value.int IntKind.i64 c.serial, Value.int IntKind.i64 c.dead, Value.int IntKind.i64 c.was, Value.int IntKind.i64 c.lo, Value.int IntKind.i64 c.hi, Value.int IntKind.i8 c.mode], .int .i64 n] w _
  obtain rfl : S = T := hS.symm.trans hT
  clear hS hT
  clear h1 h2 hc hd
  have m1 := fun W => mayc_any ⟨c.kind, c.node, c.serial, n, c.was, c.lo, c.hi, c.mode⟩ W
  rw [hm1] at m1
  have m2 := fun W => mayc_any ⟨6, c.node, c.serial, c.dead, c.was, c.lo, c.hi, c.mode⟩ W
  rw [hm2] at m2
  have M1 := Lib.hid m1; have M2 := Lib.hid m2
  clear m1 m2 hm1 hm2
  go_enter Try.func10, Try.ntmps10
  go_wp2_with fail
  rw [← HW0.out]
  refine (C1.out _).mono ?_
  rintro e w1 ⟨rfl, b1⟩
  have K11 := Lib.hid (K1.out.below b1 K1.out.lt); have K21 := Lib.hid (K2.out.below b1 K2.out.lt); have K31 := Lib.hid (K3.out.trans (b1.mono K3.out.size))
  clear b1 K1 K2 K3 HW0 C1
  have p0 : w1.cell? ⟨w.heap.size + 1, 0, none⟩ = some (.int .i8 c.kind) := by rw [K21.out.cell 0]; rfl
  have p1 : w1.cell? ⟨w.heap.size + 1, 1, none⟩ = some (.int .i64 c.node) := by rw [K21.out.cell 1]; rfl
  have p2 : w1.cell? ⟨w.heap.size + 1, 2, none⟩ = some (.int .i64 c.serial) := by rw [K21.out.cell 2]; rfl
  have p3 : w1.cell? ⟨w.heap.size + 1, 3, none⟩ = some (.int .i64 c.dead) := by rw [K21.out.cell 3]; rfl
  have p4 : w1.cell? ⟨w.heap.size + 1, 4, none⟩ = some (.int .i64 c.was) := by rw [K21.out.cell 4]; rfl
  have p5 : w1.cell? ⟨w.heap.size + 1, 5, none⟩ = some (.int .i64 c.lo) := by rw [K21.out.cell 5]; rfl
  have p6 : w1.cell? ⟨w.heap.size + 1, 6, none⟩ = some (.int .i64 c.hi) := by rw [K21.out.cell 6]; rfl
  have p7 : w1.cell? ⟨w.heap.size + 1, 7, none⟩ = some (.int .i8 c.mode) := by rw [K21.out.cell 7]; rfl
  go_wp2_with fail
  refine (C2.out _).mono ?_
  rintro e w2 ⟨rfl, b2⟩
  have K12 := Lib.hid (K11.out.below b2 K11.out.lt); have K22 := Lib.hid (K21.out.below b2 K21.out.lt); have K32 := Lib.hid (K31.out.trans (b2.mono K31.out.size))
  clear b2 K11 K21 K31 p0 p1 p2 p3 p4 p5 p6 p7 C2
  have p0 : w2.cell? ⟨w.heap.size + 1, 0, none⟩ = some (.int .i8 c.kind) := by rw [K22.out.cell 0]; rfl
  have p1 : w2.cell? ⟨w.heap.size + 1, 1, none⟩ = some (.int .i64 c.node) := by rw [K22.out.cell 1]; rfl
  have p2 : w2.cell? ⟨w.heap.size + 1, 2, none⟩ = some (.int .i64 c.serial) := by rw [K22.out.cell 2]; rfl
  have p3 : w2.cell? ⟨w.heap.size + 1, 3, none⟩ = some (.int .i64 c.dead) := by rw [K22.out.cell 3]; rfl
  have p4 : w2.cell? ⟨w.heap.size + 1, 4, none⟩ = some (.int .i64 c.was) := by rw [K22.out.cell 4]; rfl
  have p5 : w2.cell? ⟨w.heap.size + 1, 5, none⟩ = some (.int .i64 c.lo) := by rw [K22.out.cell 5]; rfl
  have p6 : w2.cell? ⟨w.heap.size + 1, 6, none⟩ = some (.int .i64 c.hi) := by rw [K22.out.cell 6]; rfl
  have p7 : w2.cell? ⟨w.heap.size + 1, 7, none⟩ = some (.int .i8 c.mode) := by rw [K22.out.cell 7]; rfl
  have q0 : w2.cell? ⟨w.heap.size, 0, none⟩ = some (.int .i8 c.kind) := by rw [K12.out.cell 0]; rfl
  have q1 : w2.cell? ⟨w.heap.size, 1, none⟩ = some (.int .i64 c.node) := by rw [K12.out.cell 1]; rfl
  have q2 : w2.cell? ⟨w.heap.size, 2, none⟩ = some (.int .i64 c.serial) := by rw [K12.out.cell 2]; rfl
  have q3 : w2.cell? ⟨w.heap.size, 3, none⟩ = some (.int .i64 c.dead) := by rw [K12.out.cell 3]; rfl
  have q4 : w2.cell? ⟨w.heap.size, 4, none⟩ = some (.int .i64 c.was) := by rw [K12.out.cell 4]; rfl
  have q5 : w2.cell? ⟨w.heap.size, 5, none⟩ = some (.int .i64 c.lo) := by rw [K12.out.cell 5]; rfl
  have q6 : w2.cell? ⟨w.heap.size, 6, none⟩ = some (.int .i64 c.hi) := by rw [K12.out.cell 6]; rfl
  have q7 : w2.cell? ⟨w.heap.size, 7, none⟩ = some (.int .i8 c.mode) := by rw [K12.out.cell 7]; rfl
  have hlt := K12.out.lt
  go_upto_region 11 with fail
  clear p0 p1 p2 p3 p4 p5 p6 p7
  go_wp2_with fail
  have k4 := (Blk.new (w2.alloc (Obj.cells (cC ⟨c.kind, c.node, c.serial, n, c.was, c.lo, c.hi, c.mode⟩) 42)) 42 (cC ⟨6, c.node, c.serial, c.dead, c.was, c.lo, c.hi, c.mode⟩))
  rw [World.size_alloc] at k4
  obtain ⟨W3, hW3⟩ : ∃ W, W = ((w2.alloc (Obj.cells (cC ⟨c.kind, c.node, c.serial, n, c.was, c.lo, c.hi, c.mode⟩) 42)).alloc (Obj.cells (cC ⟨6, c.node, c.serial, c.dead, c.was, c.lo, c.hi, c.mode⟩) 42)) := ⟨_, rfl⟩
  rw [← hW3] at k4
  have k5 : Below w.heap.size w W3 := by rw [hW3]; exact (K32.out.alloc K32.out.size _).alloc (by rw [World.size_alloc]; have := K32.out.size; omega) _
  have K4 := Lib.hid k4; have K5 := Lib.hid k5
  refine (M1.out _).mono ?_
  rintro e w3 ⟨rfl, b3⟩
  have b3' : Below W3.heap.size W3 w3 := by rw [hW3]; exact b3
  have K6 : Hid (Blk w3 (w2.heap.size + 1) 42 (cC ⟨6, c.node, c.serial, c.dead, c.was, c.lo, c.hi, c.mode⟩)) := Lib.hid (K4.out.below b3' K4.out.lt)
  have K7 : Hid (Below w.heap.size w w3) := Lib.hid (K5.out.trans (b3'.mono K5.out.size))
  clear b3 b3' hW3 k4 k5 K4 K5 M1 q0 q1 q2 q3 q4 q5 q6 q7
  have p0 : w3.cell? ⟨w2.heap.size + 1, 0, none⟩ = some (.int .i8 6) := by rw [K6.out.cell 0]; rfl
  have p1 : w3.cell? ⟨w2.heap.size + 1, 1, none⟩ = some (.int .i64 c.node) := by rw [K6.out.cell 1]; rfl
  have p2 : w3.cell? ⟨w2.heap.size + 1, 2, none⟩ = some (.int .i64 c.serial) := by rw [K6.out.cell 2]; rfl
  have p3 : w3.cell? ⟨w2.heap.size + 1, 3, none⟩ = some (.int .i64 c.dead) := by rw [K6.out.cell 3]; rfl
  have p4 : w3.cell? ⟨w2.heap.size + 1, 4, none⟩ = some (.int .i64 c.was) := by rw [K6.out.cell 4]; rfl
  have p5 : w3.cell? ⟨w2.heap.size + 1, 5, none⟩ = some (.int .i64 c.lo) := by rw [K6.out.cell 5]; rfl
  have p6 : w3.cell? ⟨w2.heap.size + 1, 6, none⟩ = some (.int .i64 c.hi) := by rw [K6.out.cell 6]; rfl
  have p7 : w3.cell? ⟨w2.heap.size + 1, 7, none⟩ = some (.int .i8 c.mode) := by rw [K6.out.cell 7]; rfl
  go_wp2_with fail
  refine (M2.out _).mono ?_
  rintro e w4 ⟨rfl, b4⟩
  have K8 : Hid (Below w.heap.size w w4) := Lib.hid (K7.out.trans (b4.mono K7.out.size))
  clear b4 K7 K6
  go_wp2_with fail
  refine (wakes_cmd w4).mono ?_
  rintro e w9 ⟨rfl, b9⟩
  go_wp2
  go_ret
  exact ⟨rfl, K8.out.trans (b9.mono K8.out.size)⟩

set_option maxHeartbeats 1000000 in
theorem co_E45 (c : Cm) (n : Int) (w : World) (hc : Wf c) (hd : Wf c) (h1 : bytesE c = 0) (h2 : bytesE c = 0) (n0 : (n == 0) = false) (k2 : (c.kind == 2) = false) (k3 : (c.kind == 3) = false) (k0 : (c.kind == 0) = false) (k1 : (c.kind == 1) = false) (hm1 : mayC ⟨c.kind, c.node, c.serial, c.dead, c.was, c.lo, n, c.mode⟩ = false) (hm2 : mayC ⟨6, c.node, c.serial, c.dead, c.was, c.lo, c.hi, c.mode⟩ = false) :
    Calls Try.prog 10 #[.agg (cC c), .agg (cC c), .int .i64 n] w fun e w' => e = .returned (.bool true) ∧ Below w.heap.size w w' := by
  have c1 := fun W => bytes_any c W hc
  have c2 := fun W => bytes_any c W hd
  simp only [cC] at c1 c2
  obtain ⟨S, hS⟩ : ∃ S, bytesS c = S := ⟨_, rfl⟩
  obtain ⟨T, hT⟩ : ∃ T, bytesS c = T := ⟨_, rfl⟩
  rw [hS, h1] at c1
  rw [hT, h2] at c2
  have C1 := Lib.hid c1; have C2 := Lib.hid c2
  clear c1 c2
  obtain ⟨W0, hW0⟩ : ∃ W0, W0 = (w.alloc (Obj.cells (cC c) 42)).alloc (Obj.cells (cC c) 42) := ⟨_, rfl⟩
  have k1 : Blk W0 w.heap.size 42 (cC c) := by rw [hW0]; exact (Blk.new w 42 (cC c)).alloc _
  have k2 : Blk W0 (w.heap.size + 1) 42 (cC c) := by rw [hW0]; simpa using Blk.new (w.alloc (Obj.cells (cC c) 42)) 42 (cC c)
  have k3 : Below w.heap.size w W0 := by rw [hW0]; exact ((Below.refl _ _).alloc (Nat.le_refl _) _).alloc (by simp) _
  have K1 := Lib.hid k1; have K2 := Lib.hid k2; have K3 := Lib.hid k3; have HW0 := Lib.hid hW0
  clear k1 k2 k3 hW0
  simp only [cC] at HW0
  change Calls Try.prog 10 #[.agg #[Value.int IntKind.i8 c.kind, Value.int IntKind.i64 c.node, Value.int IntKind.i64 c.serial, Value.int IntKind.i64 c.dead, Value.int IntKind.i64 c.was, Value.int IntKind.i64 c.lo, Value.int IntKind.i64 c.hi, Value.int IntKind.i8 c.mode], .agg #[Value.int IntKind.i8 c.kind, Value.int IntKind.i64 c.node, Value.int IntKind.i64 c.serial, Value.int IntKind.i64 c.dead, Value.int IntKind.i64 c.was, Value.int IntKind.i64 c.lo, Value.int IntKind.i64 c.hi, Value.int IntKind.i8 c.mode], .int .i64 n] w _
  obtain rfl : S = T := hS.symm.trans hT
  clear hS hT
  clear h1 h2 hc hd
  have m1 := fun W => mayc_any ⟨c.kind, c.node, c.serial, c.dead, c.was, c.lo, n, c.mode⟩ W
  rw [hm1] at m1
  have m2 := fun W => mayc_any ⟨6, c.node, c.serial, c.dead, c.was, c.lo, c.hi, c.mode⟩ W
  rw [hm2] at m2
  have M1 := Lib.hid m1; have M2 := Lib.hid m2
  clear m1 m2 hm1 hm2
  go_enter Try.func10, Try.ntmps10
  go_wp2_with fail
  rw [← HW0.out]
  refine (C1.out _).mono ?_
  rintro e w1 ⟨rfl, b1⟩
  have K11 := Lib.hid (K1.out.below b1 K1.out.lt); have K21 := Lib.hid (K2.out.below b1 K2.out.lt); have K31 := Lib.hid (K3.out.trans (b1.mono K3.out.size))
  clear b1 K1 K2 K3 HW0 C1
  have p0 : w1.cell? ⟨w.heap.size + 1, 0, none⟩ = some (.int .i8 c.kind) := by rw [K21.out.cell 0]; rfl
  have p1 : w1.cell? ⟨w.heap.size + 1, 1, none⟩ = some (.int .i64 c.node) := by rw [K21.out.cell 1]; rfl
  have p2 : w1.cell? ⟨w.heap.size + 1, 2, none⟩ = some (.int .i64 c.serial) := by rw [K21.out.cell 2]; rfl
  have p3 : w1.cell? ⟨w.heap.size + 1, 3, none⟩ = some (.int .i64 c.dead) := by rw [K21.out.cell 3]; rfl
  have p4 : w1.cell? ⟨w.heap.size + 1, 4, none⟩ = some (.int .i64 c.was) := by rw [K21.out.cell 4]; rfl
  have p5 : w1.cell? ⟨w.heap.size + 1, 5, none⟩ = some (.int .i64 c.lo) := by rw [K21.out.cell 5]; rfl
  have p6 : w1.cell? ⟨w.heap.size + 1, 6, none⟩ = some (.int .i64 c.hi) := by rw [K21.out.cell 6]; rfl
  have p7 : w1.cell? ⟨w.heap.size + 1, 7, none⟩ = some (.int .i8 c.mode) := by rw [K21.out.cell 7]; rfl
  go_wp2_with fail
  refine (C2.out _).mono ?_
  rintro e w2 ⟨rfl, b2⟩
  have K12 := Lib.hid (K11.out.below b2 K11.out.lt); have K22 := Lib.hid (K21.out.below b2 K21.out.lt); have K32 := Lib.hid (K31.out.trans (b2.mono K31.out.size))
  clear b2 K11 K21 K31 p0 p1 p2 p3 p4 p5 p6 p7 C2
  have p0 : w2.cell? ⟨w.heap.size + 1, 0, none⟩ = some (.int .i8 c.kind) := by rw [K22.out.cell 0]; rfl
  have p1 : w2.cell? ⟨w.heap.size + 1, 1, none⟩ = some (.int .i64 c.node) := by rw [K22.out.cell 1]; rfl
  have p2 : w2.cell? ⟨w.heap.size + 1, 2, none⟩ = some (.int .i64 c.serial) := by rw [K22.out.cell 2]; rfl
  have p3 : w2.cell? ⟨w.heap.size + 1, 3, none⟩ = some (.int .i64 c.dead) := by rw [K22.out.cell 3]; rfl
  have p4 : w2.cell? ⟨w.heap.size + 1, 4, none⟩ = some (.int .i64 c.was) := by rw [K22.out.cell 4]; rfl
  have p5 : w2.cell? ⟨w.heap.size + 1, 5, none⟩ = some (.int .i64 c.lo) := by rw [K22.out.cell 5]; rfl
  have p6 : w2.cell? ⟨w.heap.size + 1, 6, none⟩ = some (.int .i64 c.hi) := by rw [K22.out.cell 6]; rfl
  have p7 : w2.cell? ⟨w.heap.size + 1, 7, none⟩ = some (.int .i8 c.mode) := by rw [K22.out.cell 7]; rfl
  have q0 : w2.cell? ⟨w.heap.size, 0, none⟩ = some (.int .i8 c.kind) := by rw [K12.out.cell 0]; rfl
  have q1 : w2.cell? ⟨w.heap.size, 1, none⟩ = some (.int .i64 c.node) := by rw [K12.out.cell 1]; rfl
  have q2 : w2.cell? ⟨w.heap.size, 2, none⟩ = some (.int .i64 c.serial) := by rw [K12.out.cell 2]; rfl
  have q3 : w2.cell? ⟨w.heap.size, 3, none⟩ = some (.int .i64 c.dead) := by rw [K12.out.cell 3]; rfl
  have q4 : w2.cell? ⟨w.heap.size, 4, none⟩ = some (.int .i64 c.was) := by rw [K12.out.cell 4]; rfl
  have q5 : w2.cell? ⟨w.heap.size, 5, none⟩ = some (.int .i64 c.lo) := by rw [K12.out.cell 5]; rfl
  have q6 : w2.cell? ⟨w.heap.size, 6, none⟩ = some (.int .i64 c.hi) := by rw [K12.out.cell 6]; rfl
  have q7 : w2.cell? ⟨w.heap.size, 7, none⟩ = some (.int .i8 c.mode) := by rw [K12.out.cell 7]; rfl
  have hlt := K12.out.lt
  go_upto_region 11 with fail
  clear p0 p1 p2 p3 p4 p5 p6 p7
  go_wp2_with fail
  have k4 := (Blk.new (w2.alloc (Obj.cells (cC ⟨c.kind, c.node, c.serial, c.dead, c.was, c.lo, n, c.mode⟩) 42)) 42 (cC ⟨6, c.node, c.serial, c.dead, c.was, c.lo, c.hi, c.mode⟩))
  rw [World.size_alloc] at k4
  obtain ⟨W3, hW3⟩ : ∃ W, W = ((w2.alloc (Obj.cells (cC ⟨c.kind, c.node, c.serial, c.dead, c.was, c.lo, n, c.mode⟩) 42)).alloc (Obj.cells (cC ⟨6, c.node, c.serial, c.dead, c.was, c.lo, c.hi, c.mode⟩) 42)) := ⟨_, rfl⟩
  rw [← hW3] at k4
  have k5 : Below w.heap.size w W3 := by rw [hW3]; exact (K32.out.alloc K32.out.size _).alloc (by rw [World.size_alloc]; have := K32.out.size; omega) _
  have K4 := Lib.hid k4; have K5 := Lib.hid k5
  refine (M1.out _).mono ?_
  rintro e w3 ⟨rfl, b3⟩
  have b3' : Below W3.heap.size W3 w3 := by rw [hW3]; exact b3
  have K6 : Hid (Blk w3 (w2.heap.size + 1) 42 (cC ⟨6, c.node, c.serial, c.dead, c.was, c.lo, c.hi, c.mode⟩)) := Lib.hid (K4.out.below b3' K4.out.lt)
  have K7 : Hid (Below w.heap.size w w3) := Lib.hid (K5.out.trans (b3'.mono K5.out.size))
  clear b3 b3' hW3 k4 k5 K4 K5 M1 q0 q1 q2 q3 q4 q5 q6 q7
  have p0 : w3.cell? ⟨w2.heap.size + 1, 0, none⟩ = some (.int .i8 6) := by rw [K6.out.cell 0]; rfl
  have p1 : w3.cell? ⟨w2.heap.size + 1, 1, none⟩ = some (.int .i64 c.node) := by rw [K6.out.cell 1]; rfl
  have p2 : w3.cell? ⟨w2.heap.size + 1, 2, none⟩ = some (.int .i64 c.serial) := by rw [K6.out.cell 2]; rfl
  have p3 : w3.cell? ⟨w2.heap.size + 1, 3, none⟩ = some (.int .i64 c.dead) := by rw [K6.out.cell 3]; rfl
  have p4 : w3.cell? ⟨w2.heap.size + 1, 4, none⟩ = some (.int .i64 c.was) := by rw [K6.out.cell 4]; rfl
  have p5 : w3.cell? ⟨w2.heap.size + 1, 5, none⟩ = some (.int .i64 c.lo) := by rw [K6.out.cell 5]; rfl
  have p6 : w3.cell? ⟨w2.heap.size + 1, 6, none⟩ = some (.int .i64 c.hi) := by rw [K6.out.cell 6]; rfl
  have p7 : w3.cell? ⟨w2.heap.size + 1, 7, none⟩ = some (.int .i8 c.mode) := by rw [K6.out.cell 7]; rfl
  go_wp2_with fail
  refine (M2.out _).mono ?_
  rintro e w4 ⟨rfl, b4⟩
  have K8 : Hid (Below w.heap.size w w4) := Lib.hid (K7.out.trans (b4.mono K7.out.size))
  clear b4 K7 K6
  go_wp2_with fail
  refine (wakes_cmd w4).mono ?_
  rintro e w9 ⟨rfl, b9⟩
  go_wp2
  go_ret
  exact ⟨rfl, K8.out.trans (b9.mono K8.out.size)⟩

set_option maxHeartbeats 1000000 in
theorem co_N2 (c d : Cm) (n : Int) (w : World) (hc : Wf c) (hd : Wf d) (h1 : bytesE c = 0) (h2 : bytesE d = 0) (hne : eqC c d = false) (hst : bytesS c ≠ bytesS d) (n0 : (n == 0) = false) (k2 : (c.kind == 2) = true) (hm1 : mayC ⟨c.kind, c.node, c.serial, n, c.was, c.lo, c.hi, c.mode⟩ = false) (hm2 : mayC ⟨6, c.node, c.serial, c.dead, c.was, c.lo, c.hi, c.mode⟩ = false) :
    Calls Try.prog 10 #[.agg (cC c), .agg (cC d), .int .i64 n] w fun e w' => e = .returned (.bool true) ∧ Below w.heap.size w w' := by
  have c1 := fun W => bytes_any c W hc
  have c2 := fun W => bytes_any d W hd
  simp only [cC] at c1 c2
  obtain ⟨S, hS⟩ : ∃ S, bytesS c = S := ⟨_, rfl⟩
  obtain ⟨T, hT⟩ : ∃ T, bytesS d = T := ⟨_, rfl⟩
  rw [hS, h1] at c1
  rw [hT, h2] at c2
  have C1 := Lib.hid c1; have C2 := Lib.hid c2
  clear c1 c2
  obtain ⟨W0, hW0⟩ : ∃ W0, W0 = (w.alloc (Obj.cells (cC c) 42)).alloc (Obj.cells (cC d) 42) := ⟨_, rfl⟩
  have k1 : Blk W0 w.heap.size 42 (cC c) := by rw [hW0]; exact (Blk.new w 42 (cC c)).alloc _
  have k2 : Blk W0 (w.heap.size + 1) 42 (cC d) := by rw [hW0]; simpa using Blk.new (w.alloc (Obj.cells (cC c) 42)) 42 (cC d)
  have k3 : Below w.heap.size w W0 := by rw [hW0]; exact ((Below.refl _ _).alloc (Nat.le_refl _) _).alloc (by simp) _
  have K1 := Lib.hid k1; have K2 := Lib.hid k2; have K3 := Lib.hid k3; have HW0 := Lib.hid hW0
  clear k1 k2 k3 hW0
  simp only [cC] at HW0
  change Calls Try.prog 10 #[.agg #[Value.int IntKind.i8 c.kind, Value.int IntKind.i64 c.node, Value.int IntKind.i64 c.serial, Value.int IntKind.i64 c.dead, Value.int IntKind.i64 c.was, Value.int IntKind.i64 c.lo, Value.int IntKind.i64 c.hi, Value.int IntKind.i8 c.mode], .agg #[Value.int IntKind.i8 d.kind, Value.int IntKind.i64 d.node, Value.int IntKind.i64 d.serial, Value.int IntKind.i64 d.dead, Value.int IntKind.i64 d.was, Value.int IntKind.i64 d.lo, Value.int IntKind.i64 d.hi, Value.int IntKind.i8 d.mode], .int .i64 n] w _
  have hl : (S.toList == T.toList) = false := by
    cases hq : (S.toList == T.toList) with
    | false => rfl
    | true =>
      have := eq_of_beq hq
      rw [str_toList, str_toList] at this
      exact absurd (by rw [hS, hT, ← str_of S, this]; rfl) hst
  have heq : ∀ W, Sem.run Try.prog (binOp BinOp.eql 42 (.agg #[Value.int IntKind.i8 c.kind, Value.int IntKind.i64 c.node, Value.int IntKind.i64 c.serial, Value.int IntKind.i64 c.dead, Value.int IntKind.i64 c.was, Value.int IntKind.i64 c.lo, Value.int IntKind.i64 c.hi, Value.int IntKind.i8 c.mode]) (.agg #[Value.int IntKind.i8 d.kind, Value.int IntKind.i64 d.node, Value.int IntKind.i64 d.serial, Value.int IntKind.i64 d.dead, Value.int IntKind.i64 d.was, Value.int IntKind.i64 d.lo, Value.int IntKind.i64 d.hi, Value.int IntKind.i8 d.mode])) W = Result.ok (.bool false) W := by
    intro W
    rw [← hne]
    exact run_eqC c d W
  clear hst hne
  clear hS hT
  clear h1 h2 hc hd
  have m1 := fun W => mayc_any ⟨c.kind, c.node, c.serial, n, c.was, c.lo, c.hi, c.mode⟩ W
  rw [hm1] at m1
  have m2 := fun W => mayc_any ⟨6, c.node, c.serial, c.dead, c.was, c.lo, c.hi, c.mode⟩ W
  rw [hm2] at m2
  have M1 := Lib.hid m1; have M2 := Lib.hid m2
  clear m1 m2 hm1 hm2
  go_enter Try.func10, Try.ntmps10
  go_wp2_with fail
  rw [← HW0.out]
  refine (C1.out _).mono ?_
  rintro e w1 ⟨rfl, b1⟩
  have K11 := Lib.hid (K1.out.below b1 K1.out.lt); have K21 := Lib.hid (K2.out.below b1 K2.out.lt); have K31 := Lib.hid (K3.out.trans (b1.mono K3.out.size))
  clear b1 K1 K2 K3 HW0 C1
  have p0 : w1.cell? ⟨w.heap.size + 1, 0, none⟩ = some (.int .i8 d.kind) := by rw [K21.out.cell 0]; rfl
  have p1 : w1.cell? ⟨w.heap.size + 1, 1, none⟩ = some (.int .i64 d.node) := by rw [K21.out.cell 1]; rfl
  have p2 : w1.cell? ⟨w.heap.size + 1, 2, none⟩ = some (.int .i64 d.serial) := by rw [K21.out.cell 2]; rfl
  have p3 : w1.cell? ⟨w.heap.size + 1, 3, none⟩ = some (.int .i64 d.dead) := by rw [K21.out.cell 3]; rfl
  have p4 : w1.cell? ⟨w.heap.size + 1, 4, none⟩ = some (.int .i64 d.was) := by rw [K21.out.cell 4]; rfl
  have p5 : w1.cell? ⟨w.heap.size + 1, 5, none⟩ = some (.int .i64 d.lo) := by rw [K21.out.cell 5]; rfl
  have p6 : w1.cell? ⟨w.heap.size + 1, 6, none⟩ = some (.int .i64 d.hi) := by rw [K21.out.cell 6]; rfl
  have p7 : w1.cell? ⟨w.heap.size + 1, 7, none⟩ = some (.int .i8 d.mode) := by rw [K21.out.cell 7]; rfl
  go_wp2_with fail
  refine (C2.out _).mono ?_
  rintro e w2 ⟨rfl, b2⟩
  have K12 := Lib.hid (K11.out.below b2 K11.out.lt); have K22 := Lib.hid (K21.out.below b2 K21.out.lt); have K32 := Lib.hid (K31.out.trans (b2.mono K31.out.size))
  clear b2 K11 K21 K31 p0 p1 p2 p3 p4 p5 p6 p7 C2
  have p0 : w2.cell? ⟨w.heap.size + 1, 0, none⟩ = some (.int .i8 d.kind) := by rw [K22.out.cell 0]; rfl
  have p1 : w2.cell? ⟨w.heap.size + 1, 1, none⟩ = some (.int .i64 d.node) := by rw [K22.out.cell 1]; rfl
  have p2 : w2.cell? ⟨w.heap.size + 1, 2, none⟩ = some (.int .i64 d.serial) := by rw [K22.out.cell 2]; rfl
  have p3 : w2.cell? ⟨w.heap.size + 1, 3, none⟩ = some (.int .i64 d.dead) := by rw [K22.out.cell 3]; rfl
  have p4 : w2.cell? ⟨w.heap.size + 1, 4, none⟩ = some (.int .i64 d.was) := by rw [K22.out.cell 4]; rfl
  have p5 : w2.cell? ⟨w.heap.size + 1, 5, none⟩ = some (.int .i64 d.lo) := by rw [K22.out.cell 5]; rfl
  have p6 : w2.cell? ⟨w.heap.size + 1, 6, none⟩ = some (.int .i64 d.hi) := by rw [K22.out.cell 6]; rfl
  have p7 : w2.cell? ⟨w.heap.size + 1, 7, none⟩ = some (.int .i8 d.mode) := by rw [K22.out.cell 7]; rfl
  have q0 : w2.cell? ⟨w.heap.size, 0, none⟩ = some (.int .i8 c.kind) := by rw [K12.out.cell 0]; rfl
  have q1 : w2.cell? ⟨w.heap.size, 1, none⟩ = some (.int .i64 c.node) := by rw [K12.out.cell 1]; rfl
  have q2 : w2.cell? ⟨w.heap.size, 2, none⟩ = some (.int .i64 c.serial) := by rw [K12.out.cell 2]; rfl
  have q3 : w2.cell? ⟨w.heap.size, 3, none⟩ = some (.int .i64 c.dead) := by rw [K12.out.cell 3]; rfl
  have q4 : w2.cell? ⟨w.heap.size, 4, none⟩ = some (.int .i64 c.was) := by rw [K12.out.cell 4]; rfl
  have q5 : w2.cell? ⟨w.heap.size, 5, none⟩ = some (.int .i64 c.lo) := by rw [K12.out.cell 5]; rfl
  have q6 : w2.cell? ⟨w.heap.size, 6, none⟩ = some (.int .i64 c.hi) := by rw [K12.out.cell 6]; rfl
  have q7 : w2.cell? ⟨w.heap.size, 7, none⟩ = some (.int .i8 c.mode) := by rw [K12.out.cell 7]; rfl
  have hlt := K12.out.lt
  go_upto_region 11 with fail
  clear p0 p1 p2 p3 p4 p5 p6 p7
  go_wp2_with fail
  have k4 := (Blk.new (w2.alloc (Obj.cells (cC ⟨c.kind, c.node, c.serial, n, c.was, c.lo, c.hi, c.mode⟩) 42)) 42 (cC ⟨6, c.node, c.serial, c.dead, c.was, c.lo, c.hi, c.mode⟩))
  rw [World.size_alloc] at k4
  obtain ⟨W3, hW3⟩ : ∃ W, W = ((w2.alloc (Obj.cells (cC ⟨c.kind, c.node, c.serial, n, c.was, c.lo, c.hi, c.mode⟩) 42)).alloc (Obj.cells (cC ⟨6, c.node, c.serial, c.dead, c.was, c.lo, c.hi, c.mode⟩) 42)) := ⟨_, rfl⟩
  rw [← hW3] at k4
  have k5 : Below w.heap.size w W3 := by rw [hW3]; exact (K32.out.alloc K32.out.size _).alloc (by rw [World.size_alloc]; have := K32.out.size; omega) _
  have K4 := Lib.hid k4; have K5 := Lib.hid k5
  refine (M1.out _).mono ?_
  rintro e w3 ⟨rfl, b3⟩
  have b3' : Below W3.heap.size W3 w3 := by rw [hW3]; exact b3
  have K6 : Hid (Blk w3 (w2.heap.size + 1) 42 (cC ⟨6, c.node, c.serial, c.dead, c.was, c.lo, c.hi, c.mode⟩)) := Lib.hid (K4.out.below b3' K4.out.lt)
  have K7 : Hid (Below w.heap.size w w3) := Lib.hid (K5.out.trans (b3'.mono K5.out.size))
  clear b3 b3' hW3 k4 k5 K4 K5 M1 q0 q1 q2 q3 q4 q5 q6 q7
  have p0 : w3.cell? ⟨w2.heap.size + 1, 0, none⟩ = some (.int .i8 6) := by rw [K6.out.cell 0]; rfl
  have p1 : w3.cell? ⟨w2.heap.size + 1, 1, none⟩ = some (.int .i64 c.node) := by rw [K6.out.cell 1]; rfl
  have p2 : w3.cell? ⟨w2.heap.size + 1, 2, none⟩ = some (.int .i64 c.serial) := by rw [K6.out.cell 2]; rfl
  have p3 : w3.cell? ⟨w2.heap.size + 1, 3, none⟩ = some (.int .i64 c.dead) := by rw [K6.out.cell 3]; rfl
  have p4 : w3.cell? ⟨w2.heap.size + 1, 4, none⟩ = some (.int .i64 c.was) := by rw [K6.out.cell 4]; rfl
  have p5 : w3.cell? ⟨w2.heap.size + 1, 5, none⟩ = some (.int .i64 c.lo) := by rw [K6.out.cell 5]; rfl
  have p6 : w3.cell? ⟨w2.heap.size + 1, 6, none⟩ = some (.int .i64 c.hi) := by rw [K6.out.cell 6]; rfl
  have p7 : w3.cell? ⟨w2.heap.size + 1, 7, none⟩ = some (.int .i8 c.mode) := by rw [K6.out.cell 7]; rfl
  go_wp2_with fail
  refine (M2.out _).mono ?_
  rintro e w4 ⟨rfl, b4⟩
  have K8 : Hid (Below w.heap.size w w4) := Lib.hid (K7.out.trans (b4.mono K7.out.size))
  clear b4 K7 K6
  go_wp2_with fail
  refine (wakes_cmd w4).mono ?_
  rintro e w9 ⟨rfl, b9⟩
  go_wp2
  go_ret
  exact ⟨rfl, K8.out.trans (b9.mono K8.out.size)⟩

set_option maxHeartbeats 1000000 in
theorem co_N3 (c d : Cm) (n : Int) (w : World) (hc : Wf c) (hd : Wf d) (h1 : bytesE c = 0) (h2 : bytesE d = 0) (hne : eqC c d = false) (hst : bytesS c ≠ bytesS d) (n0 : (n == 0) = false) (k2 : (c.kind == 2) = false) (k3 : (c.kind == 3) = true) (hm1 : mayC ⟨c.kind, c.node, c.serial, n, c.was, c.lo, c.hi, c.mode⟩ = false) (hm2 : mayC ⟨6, c.node, c.serial, c.dead, c.was, c.lo, c.hi, c.mode⟩ = false) :
    Calls Try.prog 10 #[.agg (cC c), .agg (cC d), .int .i64 n] w fun e w' => e = .returned (.bool true) ∧ Below w.heap.size w w' := by
  have c1 := fun W => bytes_any c W hc
  have c2 := fun W => bytes_any d W hd
  simp only [cC] at c1 c2
  obtain ⟨S, hS⟩ : ∃ S, bytesS c = S := ⟨_, rfl⟩
  obtain ⟨T, hT⟩ : ∃ T, bytesS d = T := ⟨_, rfl⟩
  rw [hS, h1] at c1
  rw [hT, h2] at c2
  have C1 := Lib.hid c1; have C2 := Lib.hid c2
  clear c1 c2
  obtain ⟨W0, hW0⟩ : ∃ W0, W0 = (w.alloc (Obj.cells (cC c) 42)).alloc (Obj.cells (cC d) 42) := ⟨_, rfl⟩
  have k1 : Blk W0 w.heap.size 42 (cC c) := by rw [hW0]; exact (Blk.new w 42 (cC c)).alloc _
  have k2 : Blk W0 (w.heap.size + 1) 42 (cC d) := by rw [hW0]; simpa using Blk.new (w.alloc (Obj.cells (cC c) 42)) 42 (cC d)
  have k3 : Below w.heap.size w W0 := by rw [hW0]; exact ((Below.refl _ _).alloc (Nat.le_refl _) _).alloc (by simp) _
  have K1 := Lib.hid k1; have K2 := Lib.hid k2; have K3 := Lib.hid k3; have HW0 := Lib.hid hW0
  clear k1 k2 k3 hW0
  simp only [cC] at HW0
  change Calls Try.prog 10 #[.agg #[Value.int IntKind.i8 c.kind, Value.int IntKind.i64 c.node, Value.int IntKind.i64 c.serial, Value.int IntKind.i64 c.dead, Value.int IntKind.i64 c.was, Value.int IntKind.i64 c.lo, Value.int IntKind.i64 c.hi, Value.int IntKind.i8 c.mode], .agg #[Value.int IntKind.i8 d.kind, Value.int IntKind.i64 d.node, Value.int IntKind.i64 d.serial, Value.int IntKind.i64 d.dead, Value.int IntKind.i64 d.was, Value.int IntKind.i64 d.lo, Value.int IntKind.i64 d.hi, Value.int IntKind.i8 d.mode], .int .i64 n] w _
  have hl : (S.toList == T.toList) = false := by
    cases hq : (S.toList == T.toList) with
    | false => rfl
    | true =>
      have := eq_of_beq hq
      rw [str_toList, str_toList] at this
      exact absurd (by rw [hS, hT, ← str_of S, this]; rfl) hst
  have heq : ∀ W, Sem.run Try.prog (binOp BinOp.eql 42 (.agg #[Value.int IntKind.i8 c.kind, Value.int IntKind.i64 c.node, Value.int IntKind.i64 c.serial, Value.int IntKind.i64 c.dead, Value.int IntKind.i64 c.was, Value.int IntKind.i64 c.lo, Value.int IntKind.i64 c.hi, Value.int IntKind.i8 c.mode]) (.agg #[Value.int IntKind.i8 d.kind, Value.int IntKind.i64 d.node, Value.int IntKind.i64 d.serial, Value.int IntKind.i64 d.dead, Value.int IntKind.i64 d.was, Value.int IntKind.i64 d.lo, Value.int IntKind.i64 d.hi, Value.int IntKind.i8 d.mode])) W = Result.ok (.bool false) W := by
    intro W
    rw [← hne]
    exact run_eqC c d W
  clear hst hne
  clear hS hT
  clear h1 h2 hc hd
  have m1 := fun W => mayc_any ⟨c.kind, c.node, c.serial, n, c.was, c.lo, c.hi, c.mode⟩ W
  rw [hm1] at m1
  have m2 := fun W => mayc_any ⟨6, c.node, c.serial, c.dead, c.was, c.lo, c.hi, c.mode⟩ W
  rw [hm2] at m2
  have M1 := Lib.hid m1; have M2 := Lib.hid m2
  clear m1 m2 hm1 hm2
  go_enter Try.func10, Try.ntmps10
  go_wp2_with fail
  rw [← HW0.out]
  refine (C1.out _).mono ?_
  rintro e w1 ⟨rfl, b1⟩
  have K11 := Lib.hid (K1.out.below b1 K1.out.lt); have K21 := Lib.hid (K2.out.below b1 K2.out.lt); have K31 := Lib.hid (K3.out.trans (b1.mono K3.out.size))
  clear b1 K1 K2 K3 HW0 C1
  have p0 : w1.cell? ⟨w.heap.size + 1, 0, none⟩ = some (.int .i8 d.kind) := by rw [K21.out.cell 0]; rfl
  have p1 : w1.cell? ⟨w.heap.size + 1, 1, none⟩ = some (.int .i64 d.node) := by rw [K21.out.cell 1]; rfl
  have p2 : w1.cell? ⟨w.heap.size + 1, 2, none⟩ = some (.int .i64 d.serial) := by rw [K21.out.cell 2]; rfl
  have p3 : w1.cell? ⟨w.heap.size + 1, 3, none⟩ = some (.int .i64 d.dead) := by rw [K21.out.cell 3]; rfl
  have p4 : w1.cell? ⟨w.heap.size + 1, 4, none⟩ = some (.int .i64 d.was) := by rw [K21.out.cell 4]; rfl
  have p5 : w1.cell? ⟨w.heap.size + 1, 5, none⟩ = some (.int .i64 d.lo) := by rw [K21.out.cell 5]; rfl
  have p6 : w1.cell? ⟨w.heap.size + 1, 6, none⟩ = some (.int .i64 d.hi) := by rw [K21.out.cell 6]; rfl
  have p7 : w1.cell? ⟨w.heap.size + 1, 7, none⟩ = some (.int .i8 d.mode) := by rw [K21.out.cell 7]; rfl
  go_wp2_with fail
  refine (C2.out _).mono ?_
  rintro e w2 ⟨rfl, b2⟩
  have K12 := Lib.hid (K11.out.below b2 K11.out.lt); have K22 := Lib.hid (K21.out.below b2 K21.out.lt); have K32 := Lib.hid (K31.out.trans (b2.mono K31.out.size))
  clear b2 K11 K21 K31 p0 p1 p2 p3 p4 p5 p6 p7 C2
  have p0 : w2.cell? ⟨w.heap.size + 1, 0, none⟩ = some (.int .i8 d.kind) := by rw [K22.out.cell 0]; rfl
  have p1 : w2.cell? ⟨w.heap.size + 1, 1, none⟩ = some (.int .i64 d.node) := by rw [K22.out.cell 1]; rfl
  have p2 : w2.cell? ⟨w.heap.size + 1, 2, none⟩ = some (.int .i64 d.serial) := by rw [K22.out.cell 2]; rfl
  have p3 : w2.cell? ⟨w.heap.size + 1, 3, none⟩ = some (.int .i64 d.dead) := by rw [K22.out.cell 3]; rfl
  have p4 : w2.cell? ⟨w.heap.size + 1, 4, none⟩ = some (.int .i64 d.was) := by rw [K22.out.cell 4]; rfl
  have p5 : w2.cell? ⟨w.heap.size + 1, 5, none⟩ = some (.int .i64 d.lo) := by rw [K22.out.cell 5]; rfl
  have p6 : w2.cell? ⟨w.heap.size + 1, 6, none⟩ = some (.int .i64 d.hi) := by rw [K22.out.cell 6]; rfl
  have p7 : w2.cell? ⟨w.heap.size + 1, 7, none⟩ = some (.int .i8 d.mode) := by rw [K22.out.cell 7]; rfl
  have q0 : w2.cell? ⟨w.heap.size, 0, none⟩ = some (.int .i8 c.kind) := by rw [K12.out.cell 0]; rfl
  have q1 : w2.cell? ⟨w.heap.size, 1, none⟩ = some (.int .i64 c.node) := by rw [K12.out.cell 1]; rfl
  have q2 : w2.cell? ⟨w.heap.size, 2, none⟩ = some (.int .i64 c.serial) := by rw [K12.out.cell 2]; rfl
  have q3 : w2.cell? ⟨w.heap.size, 3, none⟩ = some (.int .i64 c.dead) := by rw [K12.out.cell 3]; rfl
  have q4 : w2.cell? ⟨w.heap.size, 4, none⟩ = some (.int .i64 c.was) := by rw [K12.out.cell 4]; rfl
  have q5 : w2.cell? ⟨w.heap.size, 5, none⟩ = some (.int .i64 c.lo) := by rw [K12.out.cell 5]; rfl
  have q6 : w2.cell? ⟨w.heap.size, 6, none⟩ = some (.int .i64 c.hi) := by rw [K12.out.cell 6]; rfl
  have q7 : w2.cell? ⟨w.heap.size, 7, none⟩ = some (.int .i8 c.mode) := by rw [K12.out.cell 7]; rfl
  have hlt := K12.out.lt
  go_upto_region 11 with fail
  clear p0 p1 p2 p3 p4 p5 p6 p7
  go_wp2_with fail
  have k4 := (Blk.new (w2.alloc (Obj.cells (cC ⟨c.kind, c.node, c.serial, n, c.was, c.lo, c.hi, c.mode⟩) 42)) 42 (cC ⟨6, c.node, c.serial, c.dead, c.was, c.lo, c.hi, c.mode⟩))
  rw [World.size_alloc] at k4
  obtain ⟨W3, hW3⟩ : ∃ W, W = ((w2.alloc (Obj.cells (cC ⟨c.kind, c.node, c.serial, n, c.was, c.lo, c.hi, c.mode⟩) 42)).alloc (Obj.cells (cC ⟨6, c.node, c.serial, c.dead, c.was, c.lo, c.hi, c.mode⟩) 42)) := ⟨_, rfl⟩
  rw [← hW3] at k4
  have k5 : Below w.heap.size w W3 := by rw [hW3]; exact (K32.out.alloc K32.out.size _).alloc (by rw [World.size_alloc]; have := K32.out.size; omega) _
  have K4 := Lib.hid k4; have K5 := Lib.hid k5
  refine (M1.out _).mono ?_
  rintro e w3 ⟨rfl, b3⟩
  have b3' : Below W3.heap.size W3 w3 := by rw [hW3]; exact b3
  have K6 : Hid (Blk w3 (w2.heap.size + 1) 42 (cC ⟨6, c.node, c.serial, c.dead, c.was, c.lo, c.hi, c.mode⟩)) := Lib.hid (K4.out.below b3' K4.out.lt)
  have K7 : Hid (Below w.heap.size w w3) := Lib.hid (K5.out.trans (b3'.mono K5.out.size))
  clear b3 b3' hW3 k4 k5 K4 K5 M1 q0 q1 q2 q3 q4 q5 q6 q7
  have p0 : w3.cell? ⟨w2.heap.size + 1, 0, none⟩ = some (.int .i8 6) := by rw [K6.out.cell 0]; rfl
  have p1 : w3.cell? ⟨w2.heap.size + 1, 1, none⟩ = some (.int .i64 c.node) := by rw [K6.out.cell 1]; rfl
  have p2 : w3.cell? ⟨w2.heap.size + 1, 2, none⟩ = some (.int .i64 c.serial) := by rw [K6.out.cell 2]; rfl
  have p3 : w3.cell? ⟨w2.heap.size + 1, 3, none⟩ = some (.int .i64 c.dead) := by rw [K6.out.cell 3]; rfl
  have p4 : w3.cell? ⟨w2.heap.size + 1, 4, none⟩ = some (.int .i64 c.was) := by rw [K6.out.cell 4]; rfl
  have p5 : w3.cell? ⟨w2.heap.size + 1, 5, none⟩ = some (.int .i64 c.lo) := by rw [K6.out.cell 5]; rfl
  have p6 : w3.cell? ⟨w2.heap.size + 1, 6, none⟩ = some (.int .i64 c.hi) := by rw [K6.out.cell 6]; rfl
  have p7 : w3.cell? ⟨w2.heap.size + 1, 7, none⟩ = some (.int .i8 c.mode) := by rw [K6.out.cell 7]; rfl
  go_wp2_with fail
  refine (M2.out _).mono ?_
  rintro e w4 ⟨rfl, b4⟩
  have K8 : Hid (Below w.heap.size w w4) := Lib.hid (K7.out.trans (b4.mono K7.out.size))
  clear b4 K7 K6
  go_wp2_with fail
  refine (wakes_cmd w4).mono ?_
  rintro e w9 ⟨rfl, b9⟩
  go_wp2
  go_ret
  exact ⟨rfl, K8.out.trans (b9.mono K8.out.size)⟩

set_option maxHeartbeats 1000000 in
theorem co_N0 (c d : Cm) (n : Int) (w : World) (hc : Wf c) (hd : Wf d) (h1 : bytesE c = 0) (h2 : bytesE d = 0) (hne : eqC c d = false) (hst : bytesS c ≠ bytesS d) (n0 : (n == 0) = false) (k2 : (c.kind == 2) = false) (k3 : (c.kind == 3) = false) (k0 : (c.kind == 0) = true) (hm1 : mayC ⟨c.kind, c.node, c.serial, n, c.was, c.lo, c.hi, c.mode⟩ = false) (hm2 : mayC ⟨6, c.node, c.serial, c.dead, c.was, c.lo, c.hi, c.mode⟩ = false) :
    Calls Try.prog 10 #[.agg (cC c), .agg (cC d), .int .i64 n] w fun e w' => e = .returned (.bool true) ∧ Below w.heap.size w w' := by
  have c1 := fun W => bytes_any c W hc
  have c2 := fun W => bytes_any d W hd
  simp only [cC] at c1 c2
  obtain ⟨S, hS⟩ : ∃ S, bytesS c = S := ⟨_, rfl⟩
  obtain ⟨T, hT⟩ : ∃ T, bytesS d = T := ⟨_, rfl⟩
  rw [hS, h1] at c1
  rw [hT, h2] at c2
  have C1 := Lib.hid c1; have C2 := Lib.hid c2
  clear c1 c2
  obtain ⟨W0, hW0⟩ : ∃ W0, W0 = (w.alloc (Obj.cells (cC c) 42)).alloc (Obj.cells (cC d) 42) := ⟨_, rfl⟩
  have k1 : Blk W0 w.heap.size 42 (cC c) := by rw [hW0]; exact (Blk.new w 42 (cC c)).alloc _
  have k2 : Blk W0 (w.heap.size + 1) 42 (cC d) := by rw [hW0]; simpa using Blk.new (w.alloc (Obj.cells (cC c) 42)) 42 (cC d)
  have k3 : Below w.heap.size w W0 := by rw [hW0]; exact ((Below.refl _ _).alloc (Nat.le_refl _) _).alloc (by simp) _
  have K1 := Lib.hid k1; have K2 := Lib.hid k2; have K3 := Lib.hid k3; have HW0 := Lib.hid hW0
  clear k1 k2 k3 hW0
  simp only [cC] at HW0
  change Calls Try.prog 10 #[.agg #[Value.int IntKind.i8 c.kind, Value.int IntKind.i64 c.node, Value.int IntKind.i64 c.serial, Value.int IntKind.i64 c.dead, Value.int IntKind.i64 c.was, Value.int IntKind.i64 c.lo, Value.int IntKind.i64 c.hi, Value.int IntKind.i8 c.mode], .agg #[Value.int IntKind.i8 d.kind, Value.int IntKind.i64 d.node, Value.int IntKind.i64 d.serial, Value.int IntKind.i64 d.dead, Value.int IntKind.i64 d.was, Value.int IntKind.i64 d.lo, Value.int IntKind.i64 d.hi, Value.int IntKind.i8 d.mode], .int .i64 n] w _
  have hl : (S.toList == T.toList) = false := by
    cases hq : (S.toList == T.toList) with
    | false => rfl
    | true =>
      have := eq_of_beq hq
      rw [str_toList, str_toList] at this
      exact absurd (by rw [hS, hT, ← str_of S, this]; rfl) hst
  have heq : ∀ W, Sem.run Try.prog (binOp BinOp.eql 42 (.agg #[Value.int IntKind.i8 c.kind, Value.int IntKind.i64 c.node, Value.int IntKind.i64 c.serial, Value.int IntKind.i64 c.dead, Value.int IntKind.i64 c.was, Value.int IntKind.i64 c.lo, Value.int IntKind.i64 c.hi, Value.int IntKind.i8 c.mode]) (.agg #[Value.int IntKind.i8 d.kind, Value.int IntKind.i64 d.node, Value.int IntKind.i64 d.serial, Value.int IntKind.i64 d.dead, Value.int IntKind.i64 d.was, Value.int IntKind.i64 d.lo, Value.int IntKind.i64 d.hi, Value.int IntKind.i8 d.mode])) W = Result.ok (.bool false) W := by
    intro W
    rw [← hne]
    exact run_eqC c d W
  clear hst hne
  clear hS hT
  clear h1 h2 hc hd
  have m1 := fun W => mayc_any ⟨c.kind, c.node, c.serial, n, c.was, c.lo, c.hi, c.mode⟩ W
  rw [hm1] at m1
  have m2 := fun W => mayc_any ⟨6, c.node, c.serial, c.dead, c.was, c.lo, c.hi, c.mode⟩ W
  rw [hm2] at m2
  have M1 := Lib.hid m1; have M2 := Lib.hid m2
  clear m1 m2 hm1 hm2
  go_enter Try.func10, Try.ntmps10
  go_wp2_with fail
  rw [← HW0.out]
  refine (C1.out _).mono ?_
  rintro e w1 ⟨rfl, b1⟩
  have K11 := Lib.hid (K1.out.below b1 K1.out.lt); have K21 := Lib.hid (K2.out.below b1 K2.out.lt); have K31 := Lib.hid (K3.out.trans (b1.mono K3.out.size))
  clear b1 K1 K2 K3 HW0 C1
  have p0 : w1.cell? ⟨w.heap.size + 1, 0, none⟩ = some (.int .i8 d.kind) := by rw [K21.out.cell 0]; rfl
  have p1 : w1.cell? ⟨w.heap.size + 1, 1, none⟩ = some (.int .i64 d.node) := by rw [K21.out.cell 1]; rfl
  have p2 : w1.cell? ⟨w.heap.size + 1, 2, none⟩ = some (.int .i64 d.serial) := by rw [K21.out.cell 2]; rfl
  have p3 : w1.cell? ⟨w.heap.size + 1, 3, none⟩ = some (.int .i64 d.dead) := by rw [K21.out.cell 3]; rfl
  have p4 : w1.cell? ⟨w.heap.size + 1, 4, none⟩ = some (.int .i64 d.was) := by rw [K21.out.cell 4]; rfl
  have p5 : w1.cell? ⟨w.heap.size + 1, 5, none⟩ = some (.int .i64 d.lo) := by rw [K21.out.cell 5]; rfl
  have p6 : w1.cell? ⟨w.heap.size + 1, 6, none⟩ = some (.int .i64 d.hi) := by rw [K21.out.cell 6]; rfl
  have p7 : w1.cell? ⟨w.heap.size + 1, 7, none⟩ = some (.int .i8 d.mode) := by rw [K21.out.cell 7]; rfl
  go_wp2_with fail
  refine (C2.out _).mono ?_
  rintro e w2 ⟨rfl, b2⟩
  have K12 := Lib.hid (K11.out.below b2 K11.out.lt); have K22 := Lib.hid (K21.out.below b2 K21.out.lt); have K32 := Lib.hid (K31.out.trans (b2.mono K31.out.size))
  clear b2 K11 K21 K31 p0 p1 p2 p3 p4 p5 p6 p7 C2
  have p0 : w2.cell? ⟨w.heap.size + 1, 0, none⟩ = some (.int .i8 d.kind) := by rw [K22.out.cell 0]; rfl
  have p1 : w2.cell? ⟨w.heap.size + 1, 1, none⟩ = some (.int .i64 d.node) := by rw [K22.out.cell 1]; rfl
  have p2 : w2.cell? ⟨w.heap.size + 1, 2, none⟩ = some (.int .i64 d.serial) := by rw [K22.out.cell 2]; rfl
  have p3 : w2.cell? ⟨w.heap.size + 1, 3, none⟩ = some (.int .i64 d.dead) := by rw [K22.out.cell 3]; rfl
  have p4 : w2.cell? ⟨w.heap.size + 1, 4, none⟩ = some (.int .i64 d.was) := by rw [K22.out.cell 4]; rfl
  have p5 : w2.cell? ⟨w.heap.size + 1, 5, none⟩ = some (.int .i64 d.lo) := by rw [K22.out.cell 5]; rfl
  have p6 : w2.cell? ⟨w.heap.size + 1, 6, none⟩ = some (.int .i64 d.hi) := by rw [K22.out.cell 6]; rfl
  have p7 : w2.cell? ⟨w.heap.size + 1, 7, none⟩ = some (.int .i8 d.mode) := by rw [K22.out.cell 7]; rfl
  have q0 : w2.cell? ⟨w.heap.size, 0, none⟩ = some (.int .i8 c.kind) := by rw [K12.out.cell 0]; rfl
  have q1 : w2.cell? ⟨w.heap.size, 1, none⟩ = some (.int .i64 c.node) := by rw [K12.out.cell 1]; rfl
  have q2 : w2.cell? ⟨w.heap.size, 2, none⟩ = some (.int .i64 c.serial) := by rw [K12.out.cell 2]; rfl
  have q3 : w2.cell? ⟨w.heap.size, 3, none⟩ = some (.int .i64 c.dead) := by rw [K12.out.cell 3]; rfl
  have q4 : w2.cell? ⟨w.heap.size, 4, none⟩ = some (.int .i64 c.was) := by rw [K12.out.cell 4]; rfl
  have q5 : w2.cell? ⟨w.heap.size, 5, none⟩ = some (.int .i64 c.lo) := by rw [K12.out.cell 5]; rfl
  have q6 : w2.cell? ⟨w.heap.size, 6, none⟩ = some (.int .i64 c.hi) := by rw [K12.out.cell 6]; rfl
  have q7 : w2.cell? ⟨w.heap.size, 7, none⟩ = some (.int .i8 c.mode) := by rw [K12.out.cell 7]; rfl
  have hlt := K12.out.lt
  go_upto_region 11 with fail
  clear p0 p1 p2 p3 p4 p5 p6 p7
  go_wp2_with fail
  have k4 := (Blk.new (w2.alloc (Obj.cells (cC ⟨c.kind, c.node, c.serial, n, c.was, c.lo, c.hi, c.mode⟩) 42)) 42 (cC ⟨6, c.node, c.serial, c.dead, c.was, c.lo, c.hi, c.mode⟩))
  rw [World.size_alloc] at k4
  obtain ⟨W3, hW3⟩ : ∃ W, W = ((w2.alloc (Obj.cells (cC ⟨c.kind, c.node, c.serial, n, c.was, c.lo, c.hi, c.mode⟩) 42)).alloc (Obj.cells (cC ⟨6, c.node, c.serial, c.dead, c.was, c.lo, c.hi, c.mode⟩) 42)) := ⟨_, rfl⟩
  rw [← hW3] at k4
  have k5 : Below w.heap.size w W3 := by rw [hW3]; exact (K32.out.alloc K32.out.size _).alloc (by rw [World.size_alloc]; have := K32.out.size; omega) _
  have K4 := Lib.hid k4; have K5 := Lib.hid k5
  refine (M1.out _).mono ?_
  rintro e w3 ⟨rfl, b3⟩
  have b3' : Below W3.heap.size W3 w3 := by rw [hW3]; exact b3
  have K6 : Hid (Blk w3 (w2.heap.size + 1) 42 (cC ⟨6, c.node, c.serial, c.dead, c.was, c.lo, c.hi, c.mode⟩)) := Lib.hid (K4.out.below b3' K4.out.lt)
  have K7 : Hid (Below w.heap.size w w3) := Lib.hid (K5.out.trans (b3'.mono K5.out.size))
  clear b3 b3' hW3 k4 k5 K4 K5 M1 q0 q1 q2 q3 q4 q5 q6 q7
  have p0 : w3.cell? ⟨w2.heap.size + 1, 0, none⟩ = some (.int .i8 6) := by rw [K6.out.cell 0]; rfl
  have p1 : w3.cell? ⟨w2.heap.size + 1, 1, none⟩ = some (.int .i64 c.node) := by rw [K6.out.cell 1]; rfl
  have p2 : w3.cell? ⟨w2.heap.size + 1, 2, none⟩ = some (.int .i64 c.serial) := by rw [K6.out.cell 2]; rfl
  have p3 : w3.cell? ⟨w2.heap.size + 1, 3, none⟩ = some (.int .i64 c.dead) := by rw [K6.out.cell 3]; rfl
  have p4 : w3.cell? ⟨w2.heap.size + 1, 4, none⟩ = some (.int .i64 c.was) := by rw [K6.out.cell 4]; rfl
  have p5 : w3.cell? ⟨w2.heap.size + 1, 5, none⟩ = some (.int .i64 c.lo) := by rw [K6.out.cell 5]; rfl
  have p6 : w3.cell? ⟨w2.heap.size + 1, 6, none⟩ = some (.int .i64 c.hi) := by rw [K6.out.cell 6]; rfl
  have p7 : w3.cell? ⟨w2.heap.size + 1, 7, none⟩ = some (.int .i8 c.mode) := by rw [K6.out.cell 7]; rfl
  go_wp2_with fail
  refine (M2.out _).mono ?_
  rintro e w4 ⟨rfl, b4⟩
  have K8 : Hid (Below w.heap.size w w4) := Lib.hid (K7.out.trans (b4.mono K7.out.size))
  clear b4 K7 K6
  go_wp2_with fail
  refine (wakes_cmd w4).mono ?_
  rintro e w9 ⟨rfl, b9⟩
  go_wp2
  go_ret
  exact ⟨rfl, K8.out.trans (b9.mono K8.out.size)⟩

set_option maxHeartbeats 1000000 in
theorem co_N1 (c d : Cm) (n : Int) (w : World) (hc : Wf c) (hd : Wf d) (h1 : bytesE c = 0) (h2 : bytesE d = 0) (hne : eqC c d = false) (hst : bytesS c ≠ bytesS d) (n0 : (n == 0) = false) (k2 : (c.kind == 2) = false) (k3 : (c.kind == 3) = false) (k0 : (c.kind == 0) = false) (k1 : (c.kind == 1) = true) (hm1 : mayC ⟨c.kind, c.node, c.serial, n, c.was, c.lo, c.hi, c.mode⟩ = false) (hm2 : mayC ⟨6, c.node, c.serial, c.dead, c.was, c.lo, c.hi, c.mode⟩ = false) :
    Calls Try.prog 10 #[.agg (cC c), .agg (cC d), .int .i64 n] w fun e w' => e = .returned (.bool true) ∧ Below w.heap.size w w' := by
  have c1 := fun W => bytes_any c W hc
  have c2 := fun W => bytes_any d W hd
  simp only [cC] at c1 c2
  obtain ⟨S, hS⟩ : ∃ S, bytesS c = S := ⟨_, rfl⟩
  obtain ⟨T, hT⟩ : ∃ T, bytesS d = T := ⟨_, rfl⟩
  rw [hS, h1] at c1
  rw [hT, h2] at c2
  have C1 := Lib.hid c1; have C2 := Lib.hid c2
  clear c1 c2
  obtain ⟨W0, hW0⟩ : ∃ W0, W0 = (w.alloc (Obj.cells (cC c) 42)).alloc (Obj.cells (cC d) 42) := ⟨_, rfl⟩
  have k1 : Blk W0 w.heap.size 42 (cC c) := by rw [hW0]; exact (Blk.new w 42 (cC c)).alloc _
  have k2 : Blk W0 (w.heap.size + 1) 42 (cC d) := by rw [hW0]; simpa using Blk.new (w.alloc (Obj.cells (cC c) 42)) 42 (cC d)
  have k3 : Below w.heap.size w W0 := by rw [hW0]; exact ((Below.refl _ _).alloc (Nat.le_refl _) _).alloc (by simp) _
  have K1 := Lib.hid k1; have K2 := Lib.hid k2; have K3 := Lib.hid k3; have HW0 := Lib.hid hW0
  clear k1 k2 k3 hW0
  simp only [cC] at HW0
  change Calls Try.prog 10 #[.agg #[Value.int IntKind.i8 c.kind, Value.int IntKind.i64 c.node, Value.int IntKind.i64 c.serial, Value.int IntKind.i64 c.dead, Value.int IntKind.i64 c.was, Value.int IntKind.i64 c.lo, Value.int IntKind.i64 c.hi, Value.int IntKind.i8 c.mode], .agg #[Value.int IntKind.i8 d.kind, Value.int IntKind.i64 d.node, Value.int IntKind.i64 d.serial, Value.int IntKind.i64 d.dead, Value.int IntKind.i64 d.was, Value.int IntKind.i64 d.lo, Value.int IntKind.i64 d.hi, Value.int IntKind.i8 d.mode], .int .i64 n] w _
  have hl : (S.toList == T.toList) = false := by
    cases hq : (S.toList == T.toList) with
    | false => rfl
    | true =>
      have := eq_of_beq hq
      rw [str_toList, str_toList] at this
      exact absurd (by rw [hS, hT, ← str_of S, this]; rfl) hst
  have heq : ∀ W, Sem.run Try.prog (binOp BinOp.eql 42 (.agg #[Value.int IntKind.i8 c.kind, Value.int IntKind.i64 c.node, Value.int IntKind.i64 c.serial, Value.int IntKind.i64 c.dead, Value.int IntKind.i64 c.was, Value.int IntKind.i64 c.lo, Value.int IntKind.i64 c.hi, Value.int IntKind.i8 c.mode]) (.agg #[Value.int IntKind.i8 d.kind, Value.int IntKind.i64 d.node, Value.int IntKind.i64 d.serial, Value.int IntKind.i64 d.dead, Value.int IntKind.i64 d.was, Value.int IntKind.i64 d.lo, Value.int IntKind.i64 d.hi, Value.int IntKind.i8 d.mode])) W = Result.ok (.bool false) W := by
    intro W
    rw [← hne]
    exact run_eqC c d W
  clear hst hne
  clear hS hT
  clear h1 h2 hc hd
  have m1 := fun W => mayc_any ⟨c.kind, c.node, c.serial, n, c.was, c.lo, c.hi, c.mode⟩ W
  rw [hm1] at m1
  have m2 := fun W => mayc_any ⟨6, c.node, c.serial, c.dead, c.was, c.lo, c.hi, c.mode⟩ W
  rw [hm2] at m2
  have M1 := Lib.hid m1; have M2 := Lib.hid m2
  clear m1 m2 hm1 hm2
  go_enter Try.func10, Try.ntmps10
  go_wp2_with fail
  rw [← HW0.out]
  refine (C1.out _).mono ?_
  rintro e w1 ⟨rfl, b1⟩
  have K11 := Lib.hid (K1.out.below b1 K1.out.lt); have K21 := Lib.hid (K2.out.below b1 K2.out.lt); have K31 := Lib.hid (K3.out.trans (b1.mono K3.out.size))
  clear b1 K1 K2 K3 HW0 C1
  have p0 : w1.cell? ⟨w.heap.size + 1, 0, none⟩ = some (.int .i8 d.kind) := by rw [K21.out.cell 0]; rfl
  have p1 : w1.cell? ⟨w.heap.size + 1, 1, none⟩ = some (.int .i64 d.node) := by rw [K21.out.cell 1]; rfl
  have p2 : w1.cell? ⟨w.heap.size + 1, 2, none⟩ = some (.int .i64 d.serial) := by rw [K21.out.cell 2]; rfl
  have p3 : w1.cell? ⟨w.heap.size + 1, 3, none⟩ = some (.int .i64 d.dead) := by rw [K21.out.cell 3]; rfl
  have p4 : w1.cell? ⟨w.heap.size + 1, 4, none⟩ = some (.int .i64 d.was) := by rw [K21.out.cell 4]; rfl
  have p5 : w1.cell? ⟨w.heap.size + 1, 5, none⟩ = some (.int .i64 d.lo) := by rw [K21.out.cell 5]; rfl
  have p6 : w1.cell? ⟨w.heap.size + 1, 6, none⟩ = some (.int .i64 d.hi) := by rw [K21.out.cell 6]; rfl
  have p7 : w1.cell? ⟨w.heap.size + 1, 7, none⟩ = some (.int .i8 d.mode) := by rw [K21.out.cell 7]; rfl
  go_wp2_with fail
  refine (C2.out _).mono ?_
  rintro e w2 ⟨rfl, b2⟩
  have K12 := Lib.hid (K11.out.below b2 K11.out.lt); have K22 := Lib.hid (K21.out.below b2 K21.out.lt); have K32 := Lib.hid (K31.out.trans (b2.mono K31.out.size))
  clear b2 K11 K21 K31 p0 p1 p2 p3 p4 p5 p6 p7 C2
  have p0 : w2.cell? ⟨w.heap.size + 1, 0, none⟩ = some (.int .i8 d.kind) := by rw [K22.out.cell 0]; rfl
  have p1 : w2.cell? ⟨w.heap.size + 1, 1, none⟩ = some (.int .i64 d.node) := by rw [K22.out.cell 1]; rfl
  have p2 : w2.cell? ⟨w.heap.size + 1, 2, none⟩ = some (.int .i64 d.serial) := by rw [K22.out.cell 2]; rfl
  have p3 : w2.cell? ⟨w.heap.size + 1, 3, none⟩ = some (.int .i64 d.dead) := by rw [K22.out.cell 3]; rfl
  have p4 : w2.cell? ⟨w.heap.size + 1, 4, none⟩ = some (.int .i64 d.was) := by rw [K22.out.cell 4]; rfl
  have p5 : w2.cell? ⟨w.heap.size + 1, 5, none⟩ = some (.int .i64 d.lo) := by rw [K22.out.cell 5]; rfl
  have p6 : w2.cell? ⟨w.heap.size + 1, 6, none⟩ = some (.int .i64 d.hi) := by rw [K22.out.cell 6]; rfl
  have p7 : w2.cell? ⟨w.heap.size + 1, 7, none⟩ = some (.int .i8 d.mode) := by rw [K22.out.cell 7]; rfl
  have q0 : w2.cell? ⟨w.heap.size, 0, none⟩ = some (.int .i8 c.kind) := by rw [K12.out.cell 0]; rfl
  have q1 : w2.cell? ⟨w.heap.size, 1, none⟩ = some (.int .i64 c.node) := by rw [K12.out.cell 1]; rfl
  have q2 : w2.cell? ⟨w.heap.size, 2, none⟩ = some (.int .i64 c.serial) := by rw [K12.out.cell 2]; rfl
  have q3 : w2.cell? ⟨w.heap.size, 3, none⟩ = some (.int .i64 c.dead) := by rw [K12.out.cell 3]; rfl
  have q4 : w2.cell? ⟨w.heap.size, 4, none⟩ = some (.int .i64 c.was) := by rw [K12.out.cell 4]; rfl
  have q5 : w2.cell? ⟨w.heap.size, 5, none⟩ = some (.int .i64 c.lo) := by rw [K12.out.cell 5]; rfl
  have q6 : w2.cell? ⟨w.heap.size, 6, none⟩ = some (.int .i64 c.hi) := by rw [K12.out.cell 6]; rfl
  have q7 : w2.cell? ⟨w.heap.size, 7, none⟩ = some (.int .i8 c.mode) := by rw [K12.out.cell 7]; rfl
  have hlt := K12.out.lt
  go_upto_region 11 with fail
  clear p0 p1 p2 p3 p4 p5 p6 p7
  go_wp2_with fail
  have k4 := (Blk.new (w2.alloc (Obj.cells (cC ⟨c.kind, c.node, c.serial, n, c.was, c.lo, c.hi, c.mode⟩) 42)) 42 (cC ⟨6, c.node, c.serial, c.dead, c.was, c.lo, c.hi, c.mode⟩))
  rw [World.size_alloc] at k4
  obtain ⟨W3, hW3⟩ : ∃ W, W = ((w2.alloc (Obj.cells (cC ⟨c.kind, c.node, c.serial, n, c.was, c.lo, c.hi, c.mode⟩) 42)).alloc (Obj.cells (cC ⟨6, c.node, c.serial, c.dead, c.was, c.lo, c.hi, c.mode⟩) 42)) := ⟨_, rfl⟩
  rw [← hW3] at k4
  have k5 : Below w.heap.size w W3 := by rw [hW3]; exact (K32.out.alloc K32.out.size _).alloc (by rw [World.size_alloc]; have := K32.out.size; omega) _
  have K4 := Lib.hid k4; have K5 := Lib.hid k5
  refine (M1.out _).mono ?_
  rintro e w3 ⟨rfl, b3⟩
  have b3' : Below W3.heap.size W3 w3 := by rw [hW3]; exact b3
  have K6 : Hid (Blk w3 (w2.heap.size + 1) 42 (cC ⟨6, c.node, c.serial, c.dead, c.was, c.lo, c.hi, c.mode⟩)) := Lib.hid (K4.out.below b3' K4.out.lt)
  have K7 : Hid (Below w.heap.size w w3) := Lib.hid (K5.out.trans (b3'.mono K5.out.size))
  clear b3 b3' hW3 k4 k5 K4 K5 M1 q0 q1 q2 q3 q4 q5 q6 q7
  have p0 : w3.cell? ⟨w2.heap.size + 1, 0, none⟩ = some (.int .i8 6) := by rw [K6.out.cell 0]; rfl
  have p1 : w3.cell? ⟨w2.heap.size + 1, 1, none⟩ = some (.int .i64 c.node) := by rw [K6.out.cell 1]; rfl
  have p2 : w3.cell? ⟨w2.heap.size + 1, 2, none⟩ = some (.int .i64 c.serial) := by rw [K6.out.cell 2]; rfl
  have p3 : w3.cell? ⟨w2.heap.size + 1, 3, none⟩ = some (.int .i64 c.dead) := by rw [K6.out.cell 3]; rfl
  have p4 : w3.cell? ⟨w2.heap.size + 1, 4, none⟩ = some (.int .i64 c.was) := by rw [K6.out.cell 4]; rfl
  have p5 : w3.cell? ⟨w2.heap.size + 1, 5, none⟩ = some (.int .i64 c.lo) := by rw [K6.out.cell 5]; rfl
  have p6 : w3.cell? ⟨w2.heap.size + 1, 6, none⟩ = some (.int .i64 c.hi) := by rw [K6.out.cell 6]; rfl
  have p7 : w3.cell? ⟨w2.heap.size + 1, 7, none⟩ = some (.int .i8 c.mode) := by rw [K6.out.cell 7]; rfl
  go_wp2_with fail
  refine (M2.out _).mono ?_
  rintro e w4 ⟨rfl, b4⟩
  have K8 : Hid (Below w.heap.size w w4) := Lib.hid (K7.out.trans (b4.mono K7.out.size))
  clear b4 K7 K6
  go_wp2_with fail
  refine (wakes_cmd w4).mono ?_
  rintro e w9 ⟨rfl, b9⟩
  go_wp2
  go_ret
  exact ⟨rfl, K8.out.trans (b9.mono K8.out.size)⟩

set_option maxHeartbeats 1000000 in
theorem co_N45 (c d : Cm) (n : Int) (w : World) (hc : Wf c) (hd : Wf d) (h1 : bytesE c = 0) (h2 : bytesE d = 0) (hne : eqC c d = false) (hst : bytesS c ≠ bytesS d) (n0 : (n == 0) = false) (k2 : (c.kind == 2) = false) (k3 : (c.kind == 3) = false) (k0 : (c.kind == 0) = false) (k1 : (c.kind == 1) = false) (hm1 : mayC ⟨c.kind, c.node, c.serial, c.dead, c.was, c.lo, n, c.mode⟩ = false) (hm2 : mayC ⟨6, c.node, c.serial, c.dead, c.was, c.lo, c.hi, c.mode⟩ = false) :
    Calls Try.prog 10 #[.agg (cC c), .agg (cC d), .int .i64 n] w fun e w' => e = .returned (.bool true) ∧ Below w.heap.size w w' := by
  have c1 := fun W => bytes_any c W hc
  have c2 := fun W => bytes_any d W hd
  simp only [cC] at c1 c2
  obtain ⟨S, hS⟩ : ∃ S, bytesS c = S := ⟨_, rfl⟩
  obtain ⟨T, hT⟩ : ∃ T, bytesS d = T := ⟨_, rfl⟩
  rw [hS, h1] at c1
  rw [hT, h2] at c2
  have C1 := Lib.hid c1; have C2 := Lib.hid c2
  clear c1 c2
  obtain ⟨W0, hW0⟩ : ∃ W0, W0 = (w.alloc (Obj.cells (cC c) 42)).alloc (Obj.cells (cC d) 42) := ⟨_, rfl⟩
  have k1 : Blk W0 w.heap.size 42 (cC c) := by rw [hW0]; exact (Blk.new w 42 (cC c)).alloc _
  have k2 : Blk W0 (w.heap.size + 1) 42 (cC d) := by rw [hW0]; simpa using Blk.new (w.alloc (Obj.cells (cC c) 42)) 42 (cC d)
  have k3 : Below w.heap.size w W0 := by rw [hW0]; exact ((Below.refl _ _).alloc (Nat.le_refl _) _).alloc (by simp) _
  have K1 := Lib.hid k1; have K2 := Lib.hid k2; have K3 := Lib.hid k3; have HW0 := Lib.hid hW0
  clear k1 k2 k3 hW0
  simp only [cC] at HW0
  change Calls Try.prog 10 #[.agg #[Value.int IntKind.i8 c.kind, Value.int IntKind.i64 c.node, Value.int IntKind.i64 c.serial, Value.int IntKind.i64 c.dead, Value.int IntKind.i64 c.was, Value.int IntKind.i64 c.lo, Value.int IntKind.i64 c.hi, Value.int IntKind.i8 c.mode], .agg #[Value.int IntKind.i8 d.kind, Value.int IntKind.i64 d.node, Value.int IntKind.i64 d.serial, Value.int IntKind.i64 d.dead, Value.int IntKind.i64 d.was, Value.int IntKind.i64 d.lo, Value.int IntKind.i64 d.hi, Value.int IntKind.i8 d.mode], .int .i64 n] w _
  have hl : (S.toList == T.toList) = false := by
    cases hq : (S.toList == T.toList) with
    | false => rfl
    | true =>
      have := eq_of_beq hq
      rw [str_toList, str_toList] at this
      exact absurd (by rw [hS, hT, ← str_of S, this]; rfl) hst
  have heq : ∀ W, Sem.run Try.prog (binOp BinOp.eql 42 (.agg #[Value.int IntKind.i8 c.kind, Value.int IntKind.i64 c.node, Value.int IntKind.i64 c.serial, Value.int IntKind.i64 c.dead, Value.int IntKind.i64 c.was, Value.int IntKind.i64 c.lo, Value.int IntKind.i64 c.hi, Value.int IntKind.i8 c.mode]) (.agg #[Value.int IntKind.i8 d.kind, Value.int IntKind.i64 d.node, Value.int IntKind.i64 d.serial, Value.int IntKind.i64 d.dead, Value.int IntKind.i64 d.was, Value.int IntKind.i64 d.lo, Value.int IntKind.i64 d.hi, Value.int IntKind.i8 d.mode])) W = Result.ok (.bool false) W := by
    intro W
    rw [← hne]
    exact run_eqC c d W
  clear hst hne
  clear hS hT
  clear h1 h2 hc hd
  have m1 := fun W => mayc_any ⟨c.kind, c.node, c.serial, c.dead, c.was, c.lo, n, c.mode⟩ W
  rw [hm1] at m1
  have m2 := fun W => mayc_any ⟨6, c.node, c.serial, c.dead, c.was, c.lo, c.hi, c.mode⟩ W
  rw [hm2] at m2
  have M1 := Lib.hid m1; have M2 := Lib.hid m2
  clear m1 m2 hm1 hm2
  go_enter Try.func10, Try.ntmps10
  go_wp2_with fail
  rw [← HW0.out]
  refine (C1.out _).mono ?_
  rintro e w1 ⟨rfl, b1⟩
  have K11 := Lib.hid (K1.out.below b1 K1.out.lt); have K21 := Lib.hid (K2.out.below b1 K2.out.lt); have K31 := Lib.hid (K3.out.trans (b1.mono K3.out.size))
  clear b1 K1 K2 K3 HW0 C1
  have p0 : w1.cell? ⟨w.heap.size + 1, 0, none⟩ = some (.int .i8 d.kind) := by rw [K21.out.cell 0]; rfl
  have p1 : w1.cell? ⟨w.heap.size + 1, 1, none⟩ = some (.int .i64 d.node) := by rw [K21.out.cell 1]; rfl
  have p2 : w1.cell? ⟨w.heap.size + 1, 2, none⟩ = some (.int .i64 d.serial) := by rw [K21.out.cell 2]; rfl
  have p3 : w1.cell? ⟨w.heap.size + 1, 3, none⟩ = some (.int .i64 d.dead) := by rw [K21.out.cell 3]; rfl
  have p4 : w1.cell? ⟨w.heap.size + 1, 4, none⟩ = some (.int .i64 d.was) := by rw [K21.out.cell 4]; rfl
  have p5 : w1.cell? ⟨w.heap.size + 1, 5, none⟩ = some (.int .i64 d.lo) := by rw [K21.out.cell 5]; rfl
  have p6 : w1.cell? ⟨w.heap.size + 1, 6, none⟩ = some (.int .i64 d.hi) := by rw [K21.out.cell 6]; rfl
  have p7 : w1.cell? ⟨w.heap.size + 1, 7, none⟩ = some (.int .i8 d.mode) := by rw [K21.out.cell 7]; rfl
  go_wp2_with fail
  refine (C2.out _).mono ?_
  rintro e w2 ⟨rfl, b2⟩
  have K12 := Lib.hid (K11.out.below b2 K11.out.lt); have K22 := Lib.hid (K21.out.below b2 K21.out.lt); have K32 := Lib.hid (K31.out.trans (b2.mono K31.out.size))
  clear b2 K11 K21 K31 p0 p1 p2 p3 p4 p5 p6 p7 C2
  have p0 : w2.cell? ⟨w.heap.size + 1, 0, none⟩ = some (.int .i8 d.kind) := by rw [K22.out.cell 0]; rfl
  have p1 : w2.cell? ⟨w.heap.size + 1, 1, none⟩ = some (.int .i64 d.node) := by rw [K22.out.cell 1]; rfl
  have p2 : w2.cell? ⟨w.heap.size + 1, 2, none⟩ = some (.int .i64 d.serial) := by rw [K22.out.cell 2]; rfl
  have p3 : w2.cell? ⟨w.heap.size + 1, 3, none⟩ = some (.int .i64 d.dead) := by rw [K22.out.cell 3]; rfl
  have p4 : w2.cell? ⟨w.heap.size + 1, 4, none⟩ = some (.int .i64 d.was) := by rw [K22.out.cell 4]; rfl
  have p5 : w2.cell? ⟨w.heap.size + 1, 5, none⟩ = some (.int .i64 d.lo) := by rw [K22.out.cell 5]; rfl
  have p6 : w2.cell? ⟨w.heap.size + 1, 6, none⟩ = some (.int .i64 d.hi) := by rw [K22.out.cell 6]; rfl
  have p7 : w2.cell? ⟨w.heap.size + 1, 7, none⟩ = some (.int .i8 d.mode) := by rw [K22.out.cell 7]; rfl
  have q0 : w2.cell? ⟨w.heap.size, 0, none⟩ = some (.int .i8 c.kind) := by rw [K12.out.cell 0]; rfl
  have q1 : w2.cell? ⟨w.heap.size, 1, none⟩ = some (.int .i64 c.node) := by rw [K12.out.cell 1]; rfl
  have q2 : w2.cell? ⟨w.heap.size, 2, none⟩ = some (.int .i64 c.serial) := by rw [K12.out.cell 2]; rfl
  have q3 : w2.cell? ⟨w.heap.size, 3, none⟩ = some (.int .i64 c.dead) := by rw [K12.out.cell 3]; rfl
  have q4 : w2.cell? ⟨w.heap.size, 4, none⟩ = some (.int .i64 c.was) := by rw [K12.out.cell 4]; rfl
  have q5 : w2.cell? ⟨w.heap.size, 5, none⟩ = some (.int .i64 c.lo) := by rw [K12.out.cell 5]; rfl
  have q6 : w2.cell? ⟨w.heap.size, 6, none⟩ = some (.int .i64 c.hi) := by rw [K12.out.cell 6]; rfl
  have q7 : w2.cell? ⟨w.heap.size, 7, none⟩ = some (.int .i8 c.mode) := by rw [K12.out.cell 7]; rfl
  have hlt := K12.out.lt
  go_upto_region 11 with fail
  clear p0 p1 p2 p3 p4 p5 p6 p7
  go_wp2_with fail
  have k4 := (Blk.new (w2.alloc (Obj.cells (cC ⟨c.kind, c.node, c.serial, c.dead, c.was, c.lo, n, c.mode⟩) 42)) 42 (cC ⟨6, c.node, c.serial, c.dead, c.was, c.lo, c.hi, c.mode⟩))
  rw [World.size_alloc] at k4
  obtain ⟨W3, hW3⟩ : ∃ W, W = ((w2.alloc (Obj.cells (cC ⟨c.kind, c.node, c.serial, c.dead, c.was, c.lo, n, c.mode⟩) 42)).alloc (Obj.cells (cC ⟨6, c.node, c.serial, c.dead, c.was, c.lo, c.hi, c.mode⟩) 42)) := ⟨_, rfl⟩
  rw [← hW3] at k4
  have k5 : Below w.heap.size w W3 := by rw [hW3]; exact (K32.out.alloc K32.out.size _).alloc (by rw [World.size_alloc]; have := K32.out.size; omega) _
  have K4 := Lib.hid k4; have K5 := Lib.hid k5
  refine (M1.out _).mono ?_
  rintro e w3 ⟨rfl, b3⟩
  have b3' : Below W3.heap.size W3 w3 := by rw [hW3]; exact b3
  have K6 : Hid (Blk w3 (w2.heap.size + 1) 42 (cC ⟨6, c.node, c.serial, c.dead, c.was, c.lo, c.hi, c.mode⟩)) := Lib.hid (K4.out.below b3' K4.out.lt)
  have K7 : Hid (Below w.heap.size w w3) := Lib.hid (K5.out.trans (b3'.mono K5.out.size))
  clear b3 b3' hW3 k4 k5 K4 K5 M1 q0 q1 q2 q3 q4 q5 q6 q7
  have p0 : w3.cell? ⟨w2.heap.size + 1, 0, none⟩ = some (.int .i8 6) := by rw [K6.out.cell 0]; rfl
  have p1 : w3.cell? ⟨w2.heap.size + 1, 1, none⟩ = some (.int .i64 c.node) := by rw [K6.out.cell 1]; rfl
  have p2 : w3.cell? ⟨w2.heap.size + 1, 2, none⟩ = some (.int .i64 c.serial) := by rw [K6.out.cell 2]; rfl
  have p3 : w3.cell? ⟨w2.heap.size + 1, 3, none⟩ = some (.int .i64 c.dead) := by rw [K6.out.cell 3]; rfl
  have p4 : w3.cell? ⟨w2.heap.size + 1, 4, none⟩ = some (.int .i64 c.was) := by rw [K6.out.cell 4]; rfl
  have p5 : w3.cell? ⟨w2.heap.size + 1, 5, none⟩ = some (.int .i64 c.lo) := by rw [K6.out.cell 5]; rfl
  have p6 : w3.cell? ⟨w2.heap.size + 1, 6, none⟩ = some (.int .i64 c.hi) := by rw [K6.out.cell 6]; rfl
  have p7 : w3.cell? ⟨w2.heap.size + 1, 7, none⟩ = some (.int .i8 c.mode) := by rw [K6.out.cell 7]; rfl
  go_wp2_with fail
  refine (M2.out _).mono ?_
  rintro e w4 ⟨rfl, b4⟩
  have K8 : Hid (Below w.heap.size w w4) := Lib.hid (K7.out.trans (b4.mono K7.out.size))
  clear b4 K7 K6
  go_wp2_with fail
  refine (wakes_cmd w4).mono ?_
  rintro e w9 ⟨rfl, b9⟩
  go_wp2
  go_ret
  exact ⟨rfl, K8.out.trans (b9.mono K8.out.size)⟩

end Go.Proofs.Ytnoojlgefpekiaa
