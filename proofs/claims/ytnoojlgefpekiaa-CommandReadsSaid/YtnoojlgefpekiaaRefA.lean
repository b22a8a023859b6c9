/-
  Contracts of the reference's small functions on numbers: the greatest number of a width, whether a number fits.
-/
import Derived.Test.YtnoojlgefpekiaaNumA
import Derived.Test.YtnoojlgefpekiaaMem
namespace Go.Proofs.Ytnoojlgefpekiaa
open Go.RowKit

theorem rmost_no (x : Int) (w : World) (h : x < 1 ∨ 6 < x) :
    Calls Try.prog 28 #[.int .i64 x] w fun e w' => e = .returned (.int .i64 (-1)) ∧ w = w' := by
  rcases h with h | h
  · go_enter Try.func28, Try.ntmps28
    go_wp2
    go_ret
    exact ⟨rfl, rfl⟩
  · have : ¬ x < 1 := by omega
    go_enter Try.func28, Try.ntmps28
    go_wp2
    go_ret
    exact ⟨rfl, rfl⟩

theorem mostN_min (wd : Nat) (h1 : 1 ≤ wd) (h6 : wd ≤ 6) : (mostN wd : Int) = if (1099511627776 : Int) < ((256 ^ wd : Nat) : Int) - 1 then 1099511627776 else ((256 ^ wd : Nat) : Int) - 1 := by
  rcases (show wd = 1 ∨ wd = 2 ∨ wd = 3 ∨ wd = 4 ∨ wd = 5 ∨ wd = 6 from by omega) with rfl | rfl | rfl | rfl | rfl | rfl <;> decide

theorem pow256_le (k : Nat) (h : k ≤ 6) : 256 ^ k ≤ 281474976710656 := by
  have := Nat.pow_le_pow_right (n := 256) (by omega) h
  omega

theorem rmost_yes (x : Int) (w : World) (h1 : 1 ≤ x) (h6 : x ≤ 6) :
    Calls Try.prog 28 #[.int .i64 x] w fun e w' => e = .returned (.int .i64 (mostN x.toNat : Nat)) ∧ w = w' := by
  obtain ⟨wd, rfl⟩ := Int.eq_ofNat_of_zero_le (show 0 ≤ x by omega)
  have h1' : 1 ≤ wd := by omega
  have h6' : wd ≤ 6 := by omega
  have hm := mostN_min wd h1' h6'
  have HM := Lib.hid hm; clear hm
  have d1 : ¬ ((wd : Int) < 1) := by omega
  have d2 : ¬ ((6 : Int) < (wd : Int)) := by omega
  go_enter Try.func28, Try.ntmps28
  go_wp2
  go_loop [3, 4] (fun n i => ∃ (k v : Nat), k ≤ wd ∧ i = .int .i64 k ∧ n = .int .i64 v ∧ Hid (v = 256 ^ k)) (fun _ i => wd - (intOf i).toNat)
  case atStart => exact ⟨0, 1, Nat.zero_le _, rfl, rfl, rfl⟩
  case round =>
    obtain ⟨k, v, hk, rfl, rfl, HV⟩ := hrel
    have hv : v ≤ 281474976710656 := by rw [HV.out]; exact pow256_le k (by omega)
    have hv1 : 1 ≤ v := by rw [HV.out]; exact Nat.pos_of_ne_zero (by simp)
    by_cases hkw : k < wd
    · go_wp2
      go_round
      case rel => exact ⟨k + 1, v * 256, by omega, by go_num, by go_num, by rw [HV.out, Nat.pow_succ]; rfl⟩
      case measure => simp [intOf]; omega
    · have hkw' : k = wd := by omega
      have HK := Lib.hid hkw'; clear hkw'
      have hv2 : v = 256 ^ wd := by rw [HV.out, HK.out]
      have HV2 := Lib.hid hv2; clear hv2
      by_cases hb : (1099511627776 : Int) < (v : Int) - 1
      · go_wp2
        go_ret
        refine ⟨?_, rfl⟩
        rw [HM.out, ← HV2.out, if_pos (by omega)]
        rfl
      · go_wp2
        go_ret
        refine ⟨?_, rfl⟩
        rw [HM.out, ← HV2.out, if_neg (by omega)]
        rfl

/-- does a number fit a width, if there is such a width? -/
def fitsR (n x : Int) : Bool := decide (1 ≤ x ∧ x ≤ 6 ∧ 0 ≤ n ∧ n ≤ (mostN x.toNat : Nat))

theorem fits_gen (n x : Int) (w : World) : Calls Try.prog 14 #[.int .i64 n, .int .i64 x] w fun e w' => e = .returned (.bool (fitsR n x)) ∧ w = w' := by
  by_cases h : 1 ≤ x ∧ x ≤ 6 ∧ 0 ≤ n ∧ n ≤ (mostN x.toNat : Nat)
  · have e : fitsR n x = true := decide_eq_true h
    rw [e]
    exact fits_yes n x w h.1 h.2.1 h.2.2.1 h.2.2.2
  · have e : fitsR n x = false := decide_eq_false h
    rw [e]
    exact fits_no n x w (by omega)

theorem rfits_gen (n x : Int) (w : World) : Calls Try.prog 20 #[.int .i64 n, .int .i64 x] w fun e w' => e = .returned (.bool (fitsR n x)) ∧ w = w' := by
  by_cases hn : 0 ≤ n
  · by_cases hx : x < 1 ∨ 6 < x
    · have e : fitsR n x = false := decide_eq_false (by omega)
      rw [e]
      have hn1 : ¬ n ≤ -1 := by omega
      have HX := Lib.hid hx; clear hx
      go_enter Try.func20, Try.ntmps20
      go_wp2_with (first | (go_at_call 28; refine (rmost_no _ _ HX.out).mono ?_; rintro e w' ⟨rfl, rfl⟩))
      go_ret
      exact ⟨congrArg (fun b => Ending.returned (.bool b)) (decide_eq_false (by omega)), rfl⟩
    · have h1 : 1 ≤ x := by omega
      have h6 : x ≤ 6 := by omega
      have e : fitsR n x = decide (n ≤ (mostN x.toNat : Nat)) := by
        unfold fitsR
        by_cases hm : n ≤ (mostN x.toNat : Nat)
        · rw [decide_eq_true hm]; exact decide_eq_true ⟨h1, h6, hn, hm⟩
        · rw [decide_eq_false hm]; exact decide_eq_false (fun h => hm h.2.2.2)
      rw [e]
      clear hx e
      go_enter Try.func20, Try.ntmps20
      go_wp2_with (first | (go_at_call 28; refine (rmost_yes _ _ h1 h6).mono ?_; rintro e w' ⟨rfl, rfl⟩))
      go_ret
      exact ⟨rfl, rfl⟩
  · have e : fitsR n x = false := decide_eq_false (by omega)
    rw [e]
    go_enter Try.func20, Try.ntmps20
    go_wp2
    go_ret
    exact ⟨rfl, rfl⟩

end Go.Proofs.Ytnoojlgefpekiaa
