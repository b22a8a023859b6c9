/-
  The walk of breakwaterlaw10.CommandBack. (Printed by cmd_back.py.)
-/
import Derived.Test.YtnoojlgefpekiaaCmdR
import Derived.Deep.Cut
namespace Go.Proofs.Ytnoojlgefpekiaa
open Go.RowKit

theorem str_take (l : List UInt8) (m : Nat) : (strB l).extract 0 m = strB (l.take m) := by
  have h : ((strB l).extract 0 m).data.toList = l.take m := by
    rw [ByteArray.data_extract, Array.toList_extract, List.extract_eq_take_drop, List.drop_zero, Nat.sub_zero]
    rfl
  rw [← h, str_of]

set_option maxHeartbeats 1000000 in
theorem cb_L (c : Cm) (s : ByteArray) (n : Int) (w : World) (hs : 200 < s.size) :
    Calls Try.prog 9 #[.agg (cC c), .string s, .int .i64 n] w fun e w' => e = .returned (.bool true) ∧ Below w.heap.size w w' := by
  obtain ⟨W0, hW0⟩ : ∃ W0, W0 = w.alloc (Obj.cells (cC c) 42) := ⟨_, rfl⟩
  have k1 : Blk W0 w.heap.size 42 (cC c) := by rw [hW0]; exact Blk.new w 42 (cC c)
  have k3 : Below w.heap.size w W0 := by rw [hW0]; exact (Below.refl _ _).alloc (Nat.le_refl _) _
  have K1 := Lib.hid k1; have K3 := Lib.hid k3; have HW0 := Lib.hid hW0
  clear k1 k3 hW0
  simp only [cC] at HW0
  change Calls Try.prog 9 #[.agg #[Value.int IntKind.i8 c.kind, Value.int IntKind.i64 c.node, Value.int IntKind.i64 c.serial, Value.int IntKind.i64 c.dead, Value.int IntKind.i64 c.was, Value.int IntKind.i64 c.lo, Value.int IntKind.i64 c.hi, Value.int IntKind.i8 c.mode], .string s, .int .i64 n] w _
  clear K1
  go_enter Try.func9, Try.ntmps9
  go_wp2_with fail
  rw [← HW0.out]
  refine (wakes_cmd W0).mono ?_
  rintro e w9 ⟨rfl, b9⟩
  go_wp2
  go_ret
  exact ⟨rfl, K3.out.trans (b9.mono K3.out.size)⟩

set_option maxHeartbeats 1000000 in
theorem cb_A (c : Cm) (s : ByteArray) (n : Int) (w : World) (hs : s.size ≤ 200) (hm : mayC c = false) :
    Calls Try.prog 9 #[.agg (cC c), .string s, .int .i64 n] w fun e w' => e = .returned (.bool true) ∧ Below w.heap.size w w' := by
  have c1 := bytes_no c (w.alloc (Obj.cells (cC c) 42)) hm
  have c2 := fun W => mayc_any c W
  rw [hm] at c2
  obtain ⟨W0, hW0⟩ : ∃ W0, W0 = w.alloc (Obj.cells (cC c) 42) := ⟨_, rfl⟩
  have k1 : Blk W0 w.heap.size 42 (cC c) := by rw [hW0]; exact Blk.new w 42 (cC c)
  have k3 : Below w.heap.size w W0 := by rw [hW0]; exact (Below.refl _ _).alloc (Nat.le_refl _) _
  have K1 := Lib.hid k1; have K3 := Lib.hid k3; have HW0 := Lib.hid hW0
  clear k1 k3 hW0
  simp only [cC] at HW0
  have C1 : Hid (Calls Try.prog 24 #[.agg (cC c)] W0 fun e w' => e = .returned (.tuple #[.string ⟨#[]⟩, .int .i64 2]) ∧ Below W0.heap.size W0 w') := Lib.hid (by have := HW0.out; simp only [cC] at c1; rw [this]; exact c1)
  have C2 := Lib.hid c2
  clear c1 c2 hm
  change Calls Try.prog 9 #[.agg #[Value.int IntKind.i8 c.kind, Value.int IntKind.i64 c.node, Value.int IntKind.i64 c.serial, Value.int IntKind.i64 c.dead, Value.int IntKind.i64 c.was, Value.int IntKind.i64 c.lo, Value.int IntKind.i64 c.hi, Value.int IntKind.i8 c.mode], .string s, .int .i64 n] w _
  go_enter Try.func9, Try.ntmps9
  go_wp2_with fail
  rw [← HW0.out]
  refine C1.out.mono ?_
  rintro e w1 ⟨rfl, b1⟩
  have K11 := Lib.hid (K1.out.below b1 K1.out.lt); have K31 := Lib.hid (K3.out.trans (b1.mono K3.out.size))
  clear b1 K1 K3 HW0 C1
  have p0 : w1.cell? ⟨w.heap.size, 0, none⟩ = some (.int .i8 c.kind) := by rw [K11.out.cell 0]; rfl
  have p1 : w1.cell? ⟨w.heap.size, 1, none⟩ = some (.int .i64 c.node) := by rw [K11.out.cell 1]; rfl
  have p2 : w1.cell? ⟨w.heap.size, 2, none⟩ = some (.int .i64 c.serial) := by rw [K11.out.cell 2]; rfl
  have p3 : w1.cell? ⟨w.heap.size, 3, none⟩ = some (.int .i64 c.dead) := by rw [K11.out.cell 3]; rfl
  have p4 : w1.cell? ⟨w.heap.size, 4, none⟩ = some (.int .i64 c.was) := by rw [K11.out.cell 4]; rfl
  have p5 : w1.cell? ⟨w.heap.size, 5, none⟩ = some (.int .i64 c.lo) := by rw [K11.out.cell 5]; rfl
  have p6 : w1.cell? ⟨w.heap.size, 6, none⟩ = some (.int .i64 c.hi) := by rw [K11.out.cell 6]; rfl
  have p7 : w1.cell? ⟨w.heap.size, 7, none⟩ = some (.int .i8 c.mode) := by rw [K11.out.cell 7]; rfl
  go_wp2_with fail
  refine (C2.out _).mono ?_
  rintro e w2 ⟨rfl, b2⟩
  have K32 := Lib.hid (K31.out.trans (b2.mono K31.out.size))
  clear b2 K31 C2
  go_wp2_with fail
  refine (wakes_cmd w2).mono ?_
  rintro e w9 ⟨rfl, b9⟩
  go_wp2
  go_ret
  exact ⟨rfl, K32.out.trans (b9.mono K32.out.size)⟩

set_option maxHeartbeats 1000000 in
theorem cb_Y (c : Cm) (s : ByteArray) (n : Int) (w : World) (hs : s.size ≤ 200) (hm : mayC c = true) (hc : Wf c) (y : Cm) (hy : Wf y) (hr : readC s = (y, 0)) (hb : bytesS y = s) (he : bytesE y = 0) :
    Calls Try.prog 9 #[.agg (cC c), .string s, .int .i64 n] w fun e w' => e = .returned (.bool true) ∧ Below w.heap.size w w' := by
  obtain ⟨S, hS⟩ : ∃ S, S = strB (bytesC c) := ⟨_, rfl⟩
  have c1 := fun W => bytes_any c W hc
  rw [show bytesE c = 0 by unfold bytesE; rw [if_pos hm], show bytesS c = S by unfold bytesS; rw [if_pos hm, hS]] at c1
  have hl := len_bytes c
  rw [← str_size (bytesC c), ← hS] at hl
  have c2 := fun W => read_any S W (by omega)
  have e2 : readC S = (c, 0) := by rw [hS]; exact read_bytes c hm
  rw [e2] at c2
  have c4 := fun W => read_any s W (by omega)
  rw [hr] at c4
  have c5 := fun W => bytes_any y W hy
  rw [hb, he] at c5
  have m0 : 0 ≤ (n.tmod (S.size : Int) + (S.size : Int)).tmod (S.size : Int) := Int.tmod_nonneg _ (by have := Int.lt_tmod_of_pos n (show (0 : Int) < (S.size : Int) by omega); omega)
  have m1 : (n.tmod (S.size : Int) + (S.size : Int)).tmod (S.size : Int) < (S.size : Int) := Int.tmod_lt_of_pos _ (by omega)
  have m2 : -(S.size : Int) < n.tmod (S.size : Int) := Int.lt_tmod_of_pos n (by omega)
  have m3 : n.tmod (S.size : Int) < (S.size : Int) := Int.tmod_lt_of_pos n (by omega)
  obtain ⟨m, hm0⟩ := Int.eq_ofNat_of_zero_le m0
  have e3 : readC (S.extract 0 m) = (cZ, 100) := by
    have := read_part c hm m (by rw [hm0] at m1; rw [← str_size (bytesC c), ← hS]; omega)
    rw [← this, hS, str_take]
  have c3 := fun W => read_any (S.extract 0 m) W (by rw [ByteArray.size_extract]; omega)
  rw [e3] at c3
  simp only [cC] at c1 c2 c4 c5
  simp only [cC, cZ] at c3
  have l1 : 11 ≤ S.size := hl.1
  have l2 : S.size ≤ 23 := hl.2
  have z1 : ((S.size : Int) == 0) = false := beq_eq_false_iff_ne.2 (by omega)
  have z2 : ¬ ((64 : Int) < (S.size : Int)) := by omega
  have hemp : ¬ S = ByteArray.empty := fun h => by rw [h] at l1; exact absurd l1 (by decide)
  clear hl
  have C1 := Lib.hid c1; have C2 := Lib.hid c2; have C3 := Lib.hid c3; have C4 := Lib.hid c4; have C5 := Lib.hid c5
  clear c1 c2 c3 c4 c5 e2 e3 hS hm hc hr hb he hy
  obtain ⟨W0, hW0⟩ : ∃ W0, W0 = w.alloc (Obj.cells (cC c) 42) := ⟨_, rfl⟩
  have k1 : Blk W0 w.heap.size 42 (cC c) := by rw [hW0]; exact Blk.new w 42 (cC c)
  have k3 : Below w.heap.size w W0 := by rw [hW0]; exact (Below.refl _ _).alloc (Nat.le_refl _) _
  have K1 := Lib.hid k1; have K3 := Lib.hid k3; have HW0 := Lib.hid hW0
  clear k1 k3 hW0
  simp only [cC] at HW0
  change Calls Try.prog 9 #[.agg #[Value.int IntKind.i8 c.kind, Value.int IntKind.i64 c.node, Value.int IntKind.i64 c.serial, Value.int IntKind.i64 c.dead, Value.int IntKind.i64 c.was, Value.int IntKind.i64 c.lo, Value.int IntKind.i64 c.hi, Value.int IntKind.i8 c.mode], .string s, .int .i64 n] w _
  go_enter Try.func9, Try.ntmps9
  go_wp2_with fail
  rw [← HW0.out]
  refine (C1.out _).mono ?_
  rintro e w1 ⟨rfl, b1⟩
  have K11 := Lib.hid (K1.out.below b1 K1.out.lt); have K31 := Lib.hid (K3.out.trans (b1.mono K3.out.size))
  clear b1 K1 K3 HW0 C1
  go_wp2_with fail
  refine (C2.out _).mono ?_
  rintro e w2 ⟨rfl, b2⟩
  have K12 := Lib.hid (K11.out.below b2 K11.out.lt); have K32 := Lib.hid (K31.out.trans (b2.mono K31.out.size))
  clear b2 K11 K31 C2
  have hlt := K12.out.lt
  have p0 : w2.cell? ⟨w.heap.size, 0, none⟩ = some (.int .i8 c.kind) := by rw [K12.out.cell 0]; rfl
  have p1 : w2.cell? ⟨w.heap.size, 1, none⟩ = some (.int .i64 c.node) := by rw [K12.out.cell 1]; rfl
  have p2 : w2.cell? ⟨w.heap.size, 2, none⟩ = some (.int .i64 c.serial) := by rw [K12.out.cell 2]; rfl
  have p3 : w2.cell? ⟨w.heap.size, 3, none⟩ = some (.int .i64 c.dead) := by rw [K12.out.cell 3]; rfl
  have p4 : w2.cell? ⟨w.heap.size, 4, none⟩ = some (.int .i64 c.was) := by rw [K12.out.cell 4]; rfl
  have p5 : w2.cell? ⟨w.heap.size, 5, none⟩ = some (.int .i64 c.lo) := by rw [K12.out.cell 5]; rfl
  have p6 : w2.cell? ⟨w.heap.size, 6, none⟩ = some (.int .i64 c.hi) := by rw [K12.out.cell 6]; rfl
  have p7 : w2.cell? ⟨w.heap.size, 7, none⟩ = some (.int .i8 c.mode) := by rw [K12.out.cell 7]; rfl
  go_upto_region 9 with fail
  clear p0 p1 p2 p3 p4 p5 p6 p7
  go_wp2_with fail
  refine (C3.out _).mono ?_
  rintro e w3 ⟨rfl, b3⟩
  have K33 : Hid (Below w.heap.size w w3) := Lib.hid (by
    have k := K32.out.alloc K32.out.size (Obj.cells (cC c) 42)
    exact k.trans (b3.mono k.size))
  clear b3 K12 K32 C3 hlt m0 m1 m2 m3 hm0
  go_wp2_with fail
  refine (C4.out _).mono ?_
  rintro e w4 ⟨rfl, b4⟩
  have K34 : Hid (Below w.heap.size w w4) := Lib.hid (K33.out.trans (b4.mono K33.out.size))
  clear b4 K33 C4
  go_wp2_with fail
  refine (C5.out _).mono ?_
  rintro e w5 ⟨rfl, b5⟩
  have K5 : Hid (Blk w5 w4.heap.size 42 (cC y)) := Lib.hid ((Blk.new w4 42 (cC y)).below b5 (Blk.new w4 42 (cC y)).lt)
  have K35 : Hid (Below w.heap.size w w5) := Lib.hid (by
    have k := K34.out.alloc K34.out.size (Obj.cells (cC y) 42)
    exact k.trans (b5.mono k.size))
  clear b5 K34 C5
  have p0 : w5.cell? ⟨w4.heap.size, 0, none⟩ = some (.int .i8 y.kind) := by rw [K5.out.cell 0]; rfl
  have p1 : w5.cell? ⟨w4.heap.size, 1, none⟩ = some (.int .i64 y.node) := by rw [K5.out.cell 1]; rfl
  have p2 : w5.cell? ⟨w4.heap.size, 2, none⟩ = some (.int .i64 y.serial) := by rw [K5.out.cell 2]; rfl
  have p3 : w5.cell? ⟨w4.heap.size, 3, none⟩ = some (.int .i64 y.dead) := by rw [K5.out.cell 3]; rfl
  have p4 : w5.cell? ⟨w4.heap.size, 4, none⟩ = some (.int .i64 y.was) := by rw [K5.out.cell 4]; rfl
  have p5 : w5.cell? ⟨w4.heap.size, 5, none⟩ = some (.int .i64 y.lo) := by rw [K5.out.cell 5]; rfl
  have p6 : w5.cell? ⟨w4.heap.size, 6, none⟩ = some (.int .i64 y.hi) := by rw [K5.out.cell 6]; rfl
  have p7 : w5.cell? ⟨w4.heap.size, 7, none⟩ = some (.int .i8 y.mode) := by rw [K5.out.cell 7]; rfl
  go_wp2_with fail
  refine (wakes_cmd w5).mono ?_
  rintro e w9 ⟨rfl, b9⟩
  go_wp2
  go_ret
  exact ⟨rfl, K35.out.trans (b9.mono K35.out.size)⟩

set_option maxHeartbeats 1000000 in
theorem cb_N (c : Cm) (s : ByteArray) (n : Int) (w : World) (hs : s.size ≤ 200) (hm : mayC c = true) (hc : Wf c) (hr : readC s = (cZ, 100)) :
    Calls Try.prog 9 #[.agg (cC c), .string s, .int .i64 n] w fun e w' => e = .returned (.bool true) ∧ Below w.heap.size w w' := by
  obtain ⟨S, hS⟩ : ∃ S, S = strB (bytesC c) := ⟨_, rfl⟩
  have c1 := fun W => bytes_any c W hc
  rw [show bytesE c = 0 by unfold bytesE; rw [if_pos hm], show bytesS c = S by unfold bytesS; rw [if_pos hm, hS]] at c1
  have hl := len_bytes c
  rw [← str_size (bytesC c), ← hS] at hl
  have c2 := fun W => read_any S W (by omega)
  have e2 : readC S = (c, 0) := by rw [hS]; exact read_bytes c hm
  rw [e2] at c2
  have c4 := fun W => read_any s W (by omega)
  rw [hr] at c4
  have c5 := fun W => bytes_any cZ W (show Wf cZ from by unfold Wf; decide)
  rw [show bytesE cZ = 2 by decide, show bytesS cZ = ⟨#[]⟩ by rfl] at c5
  have m0 : 0 ≤ (n.tmod (S.size : Int) + (S.size : Int)).tmod (S.size : Int) := Int.tmod_nonneg _ (by have := Int.lt_tmod_of_pos n (show (0 : Int) < (S.size : Int) by omega); omega)
  have m1 : (n.tmod (S.size : Int) + (S.size : Int)).tmod (S.size : Int) < (S.size : Int) := Int.tmod_lt_of_pos _ (by omega)
  have m2 : -(S.size : Int) < n.tmod (S.size : Int) := Int.lt_tmod_of_pos n (by omega)
  have m3 : n.tmod (S.size : Int) < (S.size : Int) := Int.tmod_lt_of_pos n (by omega)
  obtain ⟨m, hm0⟩ := Int.eq_ofNat_of_zero_le m0
  have e3 : readC (S.extract 0 m) = (cZ, 100) := by
    have := read_part c hm m (by rw [hm0] at m1; rw [← str_size (bytesC c), ← hS]; omega)
    rw [← this, hS, str_take]
  have c3 := fun W => read_any (S.extract 0 m) W (by rw [ByteArray.size_extract]; omega)
  rw [e3] at c3
  simp only [cC, cZ] at c1 c2 c4 c5
  simp only [cC, cZ] at c3
  have l1 : 11 ≤ S.size := hl.1
  have l2 : S.size ≤ 23 := hl.2
  have z1 : ((S.size : Int) == 0) = false := beq_eq_false_iff_ne.2 (by omega)
  have z2 : ¬ ((64 : Int) < (S.size : Int)) := by omega
  have hemp : ¬ S = ByteArray.empty := fun h => by rw [h] at l1; exact absurd l1 (by decide)
  clear hl
  have C1 := Lib.hid c1; have C2 := Lib.hid c2; have C3 := Lib.hid c3; have C4 := Lib.hid c4; have C5 := Lib.hid c5
  clear c1 c2 c3 c4 c5 e2 e3 hS hm hc hr
  obtain ⟨W0, hW0⟩ : ∃ W0, W0 = w.alloc (Obj.cells (cC c) 42) := ⟨_, rfl⟩
  have k1 : Blk W0 w.heap.size 42 (cC c) := by rw [hW0]; exact Blk.new w 42 (cC c)
  have k3 : Below w.heap.size w W0 := by rw [hW0]; exact (Below.refl _ _).alloc (Nat.le_refl _) _
  have K1 := Lib.hid k1; have K3 := Lib.hid k3; have HW0 := Lib.hid hW0
  clear k1 k3 hW0
  simp only [cC] at HW0
  change Calls Try.prog 9 #[.agg #[Value.int IntKind.i8 c.kind, Value.int IntKind.i64 c.node, Value.int IntKind.i64 c.serial, Value.int IntKind.i64 c.dead, Value.int IntKind.i64 c.was, Value.int IntKind.i64 c.lo, Value.int IntKind.i64 c.hi, Value.int IntKind.i8 c.mode], .string s, .int .i64 n] w _
  go_enter Try.func9, Try.ntmps9
  go_wp2_with fail
  rw [← HW0.out]
  refine (C1.out _).mono ?_
  rintro e w1 ⟨rfl, b1⟩
  have K11 := Lib.hid (K1.out.below b1 K1.out.lt); have K31 := Lib.hid (K3.out.trans (b1.mono K3.out.size))
  clear b1 K1 K3 HW0 C1
  go_wp2_with fail
  refine (C2.out _).mono ?_
  rintro e w2 ⟨rfl, b2⟩
  have K12 := Lib.hid (K11.out.below b2 K11.out.lt); have K32 := Lib.hid (K31.out.trans (b2.mono K31.out.size))
  clear b2 K11 K31 C2
  have hlt := K12.out.lt
  have p0 : w2.cell? ⟨w.heap.size, 0, none⟩ = some (.int .i8 c.kind) := by rw [K12.out.cell 0]; rfl
  have p1 : w2.cell? ⟨w.heap.size, 1, none⟩ = some (.int .i64 c.node) := by rw [K12.out.cell 1]; rfl
  have p2 : w2.cell? ⟨w.heap.size, 2, none⟩ = some (.int .i64 c.serial) := by rw [K12.out.cell 2]; rfl
  have p3 : w2.cell? ⟨w.heap.size, 3, none⟩ = some (.int .i64 c.dead) := by rw [K12.out.cell 3]; rfl
  have p4 : w2.cell? ⟨w.heap.size, 4, none⟩ = some (.int .i64 c.was) := by rw [K12.out.cell 4]; rfl
  have p5 : w2.cell? ⟨w.heap.size, 5, none⟩ = some (.int .i64 c.lo) := by rw [K12.out.cell 5]; rfl
  have p6 : w2.cell? ⟨w.heap.size, 6, none⟩ = some (.int .i64 c.hi) := by rw [K12.out.cell 6]; rfl
  have p7 : w2.cell? ⟨w.heap.size, 7, none⟩ = some (.int .i8 c.mode) := by rw [K12.out.cell 7]; rfl
  go_upto_region 9 with fail
  clear p0 p1 p2 p3 p4 p5 p6 p7
  go_wp2_with fail
  refine (C3.out _).mono ?_
  rintro e w3 ⟨rfl, b3⟩
  have K33 : Hid (Below w.heap.size w w3) := Lib.hid (by
    have k := K32.out.alloc K32.out.size (Obj.cells (cC c) 42)
    exact k.trans (b3.mono k.size))
  clear b3 K12 K32 C3 hlt m0 m1 m2 m3 hm0
  go_wp2_with fail
  refine (C4.out _).mono ?_
  rintro e w4 ⟨rfl, b4⟩
  have K34 : Hid (Below w.heap.size w w4) := Lib.hid (K33.out.trans (b4.mono K33.out.size))
  clear b4 K33 C4
  go_wp2_with fail
  refine (C5.out _).mono ?_
  rintro e w5 ⟨rfl, b5⟩
  have K5 : Hid (Blk w5 w4.heap.size 42 (cC cZ)) := Lib.hid ((Blk.new w4 42 (cC cZ)).below b5 (Blk.new w4 42 (cC cZ)).lt)
  have K35 : Hid (Below w.heap.size w w5) := Lib.hid (by
    have k := K34.out.alloc K34.out.size (Obj.cells (cC cZ) 42)
    exact k.trans (b5.mono k.size))
  clear b5 K34 C5
  have p0 : w5.cell? ⟨w4.heap.size, 0, none⟩ = some (.int .i8 0) := by rw [K5.out.cell 0]; rfl
  have p1 : w5.cell? ⟨w4.heap.size, 1, none⟩ = some (.int .i64 0) := by rw [K5.out.cell 1]; rfl
  have p2 : w5.cell? ⟨w4.heap.size, 2, none⟩ = some (.int .i64 0) := by rw [K5.out.cell 2]; rfl
  have p3 : w5.cell? ⟨w4.heap.size, 3, none⟩ = some (.int .i64 0) := by rw [K5.out.cell 3]; rfl
  have p4 : w5.cell? ⟨w4.heap.size, 4, none⟩ = some (.int .i64 0) := by rw [K5.out.cell 4]; rfl
  have p5 : w5.cell? ⟨w4.heap.size, 5, none⟩ = some (.int .i64 0) := by rw [K5.out.cell 5]; rfl
  have p6 : w5.cell? ⟨w4.heap.size, 6, none⟩ = some (.int .i64 0) := by rw [K5.out.cell 6]; rfl
  have p7 : w5.cell? ⟨w4.heap.size, 7, none⟩ = some (.int .i8 0) := by rw [K5.out.cell 7]; rfl
  go_wp2_with fail
  refine (wakes_cmd w5).mono ?_
  rintro e w9 ⟨rfl, b9⟩
  go_wp2
  go_ret
  exact ⟨rfl, K35.out.trans (b9.mono K35.out.size)⟩

theorem wf_may (c : Cm) (hm : mayC c = true) : Wf c := by
  obtain ⟨_, _, h⟩ := may_has c hm
  unfold Wf
  rcases h with ⟨h, ho⟩ | ⟨h, ho⟩ | ⟨h, ho⟩ | ⟨h, ho⟩ | ⟨h, ho⟩
  all_goals
    have hmode := ((only_iff _ _ _ _ _).1 ho).2.1
    simp only [if_true, Bool.false_eq_true, if_false] at hmode
    omega

/-- CommandBack -/
theorem cb_any (c : Cm) (s : ByteArray) (n : Int) (w : World) (hc : Wf c) :
    Calls Try.prog 9 #[.agg (cC c), .string s, .int .i64 n] w fun e w' => e = .returned (.bool true) ∧ Below w.heap.size w w' := by
  by_cases hs : 200 < s.size
  · exact cb_L c s n w hs
  · have hs' : s.size ≤ 200 := by omega
    cases hm : mayC c with
    | false => exact cb_A c s n w hs' hm
    | true =>
      rcases readC_or s with hr | hr
      · obtain ⟨m1, m2⟩ := read_back s hr
        refine cb_Y c s n w hs' hm hc (readC s).1 (wf_may _ m1) (by rw [← hr]) ?_ ?_
        · unfold bytesS; rw [if_pos m1]; exact m2
        · unfold bytesE; rw [if_pos m1]
      · exact cb_N c s n w hs' hm hc hr

end Go.Proofs.Ytnoojlgefpekiaa
