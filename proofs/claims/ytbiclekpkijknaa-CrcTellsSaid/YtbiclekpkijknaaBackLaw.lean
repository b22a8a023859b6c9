/-
  The walk of breakwaterlaw02.CrcBack.
-/
import Derived.Test.YtbiclekpkijknaaWakes
namespace Go.Proofs.Ytbiclekpkijknaa
open Go.RowKit

/-- a number's rest by 2^32, as the walk spells it -/
theorem mask_i64 (x : Int) : bits BinOp.and IntKind.i64 x 4294967295 = ((BitVec.ofInt 32 x).toNat : Int) := by
  show IntKind.i64.wrap ((BitVec.ofInt 64 x &&& BitVec.ofInt 64 4294967295).toNat : Int) = _
  rw [BitVec.toNat_and]
  have e : (BitVec.ofInt 64 4294967295).toNat = 2 ^ 32 - 1 := by decide
  rw [e, Nat.and_two_pow_sub_one_eq_mod, BitVec.toNat_ofInt, BitVec.toNat_ofInt, IntKind.wrap_i64]
  omega

theorem move_lit (x n V : Int) (w : World) (hn2 : -9223372036854775808 ≤ n) (hn3 : n ≤ 9223372036854775807) (hV : ((steps (8 * n.toNat) (BitVec.ofInt 32 x)).toNat : Int) = V) :
    Calls Try.prog 13 #[.int .i64 x, .int .i64 n] w fun e w' => e = .returned (.int .i64 V) ∧ Below w.heap.size w w' := by
  have h := cmove_any x n w hn2 hn3
  rw [hV] at h
  exact h
theorem back_lit (x n V : Int) (w : World) (hn2 : -9223372036854775808 ≤ n) (hn3 : n ≤ 9223372036854775807) (hV : ((bsteps (8 * n.toNat) (BitVec.ofInt 32 x)).toNat : Int) = V) :
    Calls Try.prog 14 #[.int .i64 x, .int .i64 n] w fun e w' => e = .returned (.int .i64 V) ∧ Below w.heap.size w w' := by
  have h := cback_any x n w hn2 hn3
  rw [hV] at h
  exact h

theorem tmod_300 (n : Int) : -300 < n.tmod 300 ∧ n.tmod 300 < 300 := by
  rcases Int.le_total 0 n with h | h
  · have h1 := Int.tmod_nonneg 300 h
    have h2 := Int.tmod_lt_of_pos n (show (0 : Int) < 300 by decide)
    omega
  · have h1 := Int.tmod_nonneg 300 (show 0 ≤ -n by omega)
    have h2 := Int.tmod_lt_of_pos (-n) (show (0 : Int) < 300 by decide)
    rw [Int.neg_tmod] at h1 h2
    omega

set_option maxHeartbeats 800000 in
theorem ck_any (x n m : Int) (w : World) :
    Calls Try.prog 6 #[.int .i64 x, .int .i64 n, .int .i64 m] w fun e w' => e = .returned (.bool true) ∧ Below w.heap.size w w' := by
  obtain ⟨n1, n2⟩ := tmod_300 n
  obtain ⟨m1, m2⟩ := tmod_300 m
  obtain ⟨N, hN⟩ : ∃ N : Nat, (n.tmod 300 + 300) % 300 = (N : Int) := ⟨((n.tmod 300 + 300) % 300).toNat, by omega⟩
  obtain ⟨M, hM⟩ : ∃ M : Nat, (m.tmod 300 + 300) % 300 = (M : Int) := ⟨((m.tmod 300 + 300) % 300).toNat, by omega⟩
  have bN : N < 300 := by omega
  have bM : M < 300 := by omega
  obtain ⟨X, hX⟩ : ∃ X, X = BitVec.ofInt 32 x := ⟨_, rfl⟩
  obtain ⟨V, hV⟩ : ∃ V, V = X.toNat := ⟨_, rfl⟩
  obtain ⟨Y, hY⟩ : ∃ Y, Y = (steps (8 * N) X).toNat := ⟨_, rfl⟩
  obtain ⟨Z, hZ⟩ : ∃ Z, Z = (steps (8 * (N + M)) X).toNat := ⟨_, rfl⟩
  obtain ⟨Q, hQ⟩ : ∃ Q, Q = (bsteps (8 * M) X).toNat := ⟨_, rfl⟩
  have hmask : bits BinOp.and IntKind.i64 x 4294967295 = (V : Int) := by rw [mask_i64, hV, hX]
  have c1 := fun W => move_lit x N (Y : Int) W (by omega) (by omega) (by rw [hY, hX, Int.toNat_natCast])
  have c2 := fun W => back_lit (Y : Int) N (V : Int) W (by omega) (by omega) (by rw [hY, ofInt_u32, Int.toNat_natCast, back_steps, hV])
  have c3 := fun W => move_lit (Y : Int) M (Z : Int) W (by omega) (by omega) (by rw [hY, ofInt_u32, Int.toNat_natCast, ← steps_add, ← Nat.mul_add, hZ])
  have c4 := fun W => move_lit x ((N : Int) + (M : Int)) (Z : Int) W (by omega) (by omega) (by
    rw [hZ, hX]
    have e : ((N : Int) + (M : Int)).toNat = N + M := by omega
    rw [e])
  have c5 := fun W => back_lit x M (Q : Int) W (by omega) (by omega) (by rw [hQ, hX, Int.toNat_natCast])
  have c6 := fun W => move_lit (Q : Int) M (V : Int) W (by omega) (by omega) (by rw [hQ, ofInt_u32, Int.toNat_natCast, steps_back, hV])
  have c7 := fun W => move_lit x (-(N : Int)) (V : Int) W (by omega) (by omega) (by
    have e : (-(N : Int)).toNat = 0 := by omega
    rw [e, hV, hX]; rfl)
  have C1 := Lib.hid c1; have C2 := Lib.hid c2; have C3 := Lib.hid c3; have C4 := Lib.hid c4; have C5 := Lib.hid c5; have C6 := Lib.hid c6; have C7 := Lib.hid c7
  clear c1 c2 c3 c4 c5 c6 c7 hX hV hY hZ hQ
  go_enter Try.func6, Try.ntmps6
  go_wp2_with fail
  refine (C1.out _).mono ?_
  rintro e w1 ⟨rfl, hb1⟩
  go_wp2_with fail
  refine (C2.out _).mono ?_
  rintro e w2 ⟨rfl, hb2⟩
  have k2 := hb1.trans (hb2.mono hb1.size)
  go_wp2_with fail
  refine (C3.out _).mono ?_
  rintro e w3 ⟨rfl, hb3⟩
  have k3 := k2.trans (hb3.mono k2.size)
  go_wp2_with fail
  refine (C4.out _).mono ?_
  rintro e w4 ⟨rfl, hb4⟩
  have k4 := k3.trans (hb4.mono k3.size)
  go_wp2_with fail
  refine (C5.out _).mono ?_
  rintro e w5 ⟨rfl, hb5⟩
  have k5 := k4.trans (hb5.mono k4.size)
  go_wp2_with fail
  refine (C6.out _).mono ?_
  rintro e w6 ⟨rfl, hb6⟩
  have k6 := k5.trans (hb6.mono k5.size)
  go_wp2_with fail
  refine (C7.out _).mono ?_
  rintro e w7 ⟨rfl, hb7⟩
  have k7 := k6.trans (hb7.mono k6.size)
  go_wp2_with fail
  refine (wakes_any _).mono ?_
  rintro e w8 ⟨rfl, hb8⟩
  go_wp2
  go_ret
  exact ⟨rfl, k7.trans (hb8.mono k7.size)⟩

end Go.Proofs.Ytbiclekpkijknaa
