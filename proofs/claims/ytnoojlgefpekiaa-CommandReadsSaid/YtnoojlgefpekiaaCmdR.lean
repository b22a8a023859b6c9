/-
  Contracts of commands: the laws' wakes.
-/
import Derived.Test.YtnoojlgefpekiaaCmdO
import Derived.Test.YtnoojlgefpekiaaCmdQ
namespace Go.Proofs.Ytnoojlgefpekiaa
open Go.RowKit

/-- more than a command's bytes is no command -/
theorem read_over (c : Cm) (hm : mayC c = true) (l : List UInt8) (hl : l ≠ []) : readC (strB (bytesC c ++ l)) = (cZ, 100) := by
  rcases readC_or (strB (bytesC c ++ l)) with h | h
  · exfalso
    obtain ⟨m1, m2⟩ := read_back _ h
    obtain ⟨d, hd⟩ : ∃ d, d = (readC (strB (bytesC c ++ l))).1 := ⟨_, rfl⟩
    rw [← hd] at m1 m2
    have e := str_inj m2
    obtain ⟨_, _, hk⟩ := may_has _ m1
    obtain ⟨_, _, hk'⟩ := may_has _ hm
    obtain ⟨r, hr⟩ := head_kind d
    obtain ⟨r', hr'⟩ := head_kind c
    have hlen := congrArg List.length e
    rw [List.length_append] at hlen
    have h0 : 0 < l.length := List.length_pos_iff.2 hl
    rw [hr, hr', List.cons_append] at e
    injection e with e _
    have e2 := congrArg UInt8.toNat e
    simp only [UInt8.toNat_ofNat'] at e2
    have := len_kind d c (by omega)
    omega
  · exact h

def cW : Cm := ⟨3, 17, 1, 0, 0, 2, 3, 0⟩
theorem cW_may : mayC cW = true := by decide
theorem cW_bytes : bytesC cW = [3, 17, 0, 0, 0, 0, 0, 1, 0, 0, 0, 2, 3] := by decide

set_option maxHeartbeats 1000000 in
theorem wakes_cmd (w : World) : Calls Try.prog 21 #[] w fun e w' => e = .returned (.bool true) ∧ Below w.heap.size w w' := by
  obtain ⟨S, hS⟩ : ∃ S : ByteArray, S = ⟨(bytesC cW).toArray⟩ := ⟨_, rfl⟩
  have c1 := bytes_yes cW w cW_may (wrap_small _ (by decide) (by decide)) (wrap_small _ (by decide) (by decide))
  rw [← hS] at c1
  have z1 : S.size ≤ 1000 := by rw [hS, cW_bytes]; decide
  have c2 := fun W => read_any S W z1
  have e2 : readC S = (cW, 0) := by rw [hS]; exact read_bytes cW cW_may
  simp only [e2, cC, cW] at c2
  have z2 : (S ++ ⟨#[120]⟩).size ≤ 1000 := by rw [ByteArray.size_append, hS, cW_bytes]; decide
  have c3 := fun W => read_any (S ++ ⟨#[120]⟩) W z2
  have e3 : readC (S ++ ⟨#[120]⟩) = (cZ, 100) := by
    rw [← read_over cW cW_may [120] (by decide), hS]
    rfl
  simp only [e3, cC, cZ] at c3
  have hl : S.toList = [3, 17, 0, 0, 0, 0, 0, 1, 0, 0, 0, 2, 3] := by rw [str_toList, hS, cW_bytes]
  have hz : S.size = 13 := by rw [hS, cW_bytes]; rfl
  have c4 := fun W => mine_any cW 17 1 W
  rw [show mineB cW 17 1 = true by decide] at c4
  have c5 := fun W => of_any 17 W
  rw [show ofI 17 = 1 by decide] at c5
  have c6 := fun W => of_any 15 W
  rw [show ofI 15 = -1 by decide] at c6
  have C1 := Lib.hid c1; have C2 := Lib.hid c2; have C3 := Lib.hid c3; have C4 := Lib.hid c4; have C5 := Lib.hid c5; have C6 := Lib.hid c6
  clear c1 c2 c3 c4 c5 c6 z1 z2 e2 e3 hS
  go_enter Try.func21, Try.ntmps21
  go_wp2_with fail
  refine C1.out.mono ?_
  rintro e w1 ⟨rfl, b1⟩
  have B1 := Lib.hid b1; clear b1
  go_wp2_with fail
  refine (C2.out _).mono ?_
  rintro e w2 ⟨rfl, b2⟩
  have B2 := Lib.hid b2; clear b2
  go_wp2_with fail
  refine (C3.out _).mono ?_
  rintro e w3 ⟨rfl, b3⟩
  have b3' : Below w.heap.size w w3 := by
    have k1 := B1.out.trans (B2.out.mono B1.out.size)
    have k2 := k1.alloc k1.size (Obj.cells #[Value.int IntKind.i8 3, Value.int IntKind.i64 17, Value.int IntKind.i64 1, Value.int IntKind.i64 0, Value.int IntKind.i64 0, Value.int IntKind.i64 2, Value.int IntKind.i64 3, Value.int IntKind.i8 0] 42)
    exact k2.trans (b3.mono k2.size)
  have p3 := (Blk.new w2 42 (cC cW)).below b3 (Blk.new w2 42 (cC cW)).lt
  have B3 := Lib.hid b3'
  have r0 : w3.cell? ⟨w2.heap.size, 0, none⟩ = some (.int .i8 3) := by rw [p3.cell 0]; rfl
  have r1 : w3.cell? ⟨w2.heap.size, 1, none⟩ = some (.int .i64 17) := by rw [p3.cell 1]; rfl
  have r2 : w3.cell? ⟨w2.heap.size, 2, none⟩ = some (.int .i64 1) := by rw [p3.cell 2]; rfl
  have r3 : w3.cell? ⟨w2.heap.size, 3, none⟩ = some (.int .i64 0) := by rw [p3.cell 3]; rfl
  have r4 : w3.cell? ⟨w2.heap.size, 4, none⟩ = some (.int .i64 0) := by rw [p3.cell 4]; rfl
  have r5 : w3.cell? ⟨w2.heap.size, 5, none⟩ = some (.int .i64 2) := by rw [p3.cell 5]; rfl
  have r6 : w3.cell? ⟨w2.heap.size, 6, none⟩ = some (.int .i64 3) := by rw [p3.cell 6]; rfl
  have r7 : w3.cell? ⟨w2.heap.size, 7, none⟩ = some (.int .i8 0) := by rw [p3.cell 7]; rfl
  have hlt : w2.heap.size < w3.heap.size := p3.lt
  clear b3 b3' p3 B1 B2 C1 C2 C3
  go_wp2_with fail
  refine (C4.out _).mono ?_
  rintro e w4 ⟨rfl, b4⟩
  have B4 := Lib.hid b4
  clear b4
  go_wp2_with fail
  refine (C5.out _).mono ?_
  rintro e w5 ⟨rfl, rfl⟩
  go_wp2_with fail
  refine (C6.out _).mono ?_
  rintro e w5 ⟨rfl, rfl⟩
  go_wp2_with fail
  go_ret
  have k3 := B3.out.alloc B3.out.size (Obj.cells #[Value.int IntKind.i8 0, Value.int IntKind.i64 0, Value.int IntKind.i64 0, Value.int IntKind.i64 0, Value.int IntKind.i64 0, Value.int IntKind.i64 0, Value.int IntKind.i64 0, Value.int IntKind.i8 0] 42)
  exact ⟨rfl, k3.trans (B4.out.mono k3.size)⟩

end Go.Proofs.Ytnoojlgefpekiaa
