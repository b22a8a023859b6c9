/-
  Contracts of commands: Key, Of.
-/
import Derived.Test.YtnoojlgefpekiaaMem
import Derived.Test.YtnoojlgefpekiaaCmdPlain
import Derived.Deep.QuietTactic
import Derived.BigQuiet
namespace Go.Proofs.Ytnoojlgefpekiaa
open Go.RowKit

theorem key_any (k : Int) (w : World) : Calls Try.prog 35 #[.int .i64 k] w fun e w' => e = .returned (.bool (keyB k)) ∧ w = w' := by
  by_cases h1 : 16 ≤ k
  · by_cases h2 : k ≤ 1099511627776
    · have e : keyB k = true := by simp [keyB, h1, h2]
      rw [e]; clear e
      go_enter Try.func35, Try.ntmps35
      go_wp2
      go_ret
      exact ⟨rfl, rfl⟩
    · have e : keyB k = false := by simp [keyB, h2]
      rw [e]; clear e
      go_enter Try.func35, Try.ntmps35
      go_wp2
      go_ret
      exact ⟨rfl, rfl⟩
  · have e : keyB k = false := by simp [keyB, h1]
    rw [e]; clear e
    go_enter Try.func35, Try.ntmps35
    go_wp2
    go_ret
    exact ⟨rfl, rfl⟩

theorem rkey_any (k : Int) (w : World) : Calls Try.prog 38 #[.int .i64 k] w fun e w' => e = .returned (.bool (keyB k)) ∧ w = w' := by
  by_cases h1 : 16 ≤ k
  · by_cases h2 : k ≤ 1099511627776
    · have e : keyB k = true := by simp [keyB, h1, h2]
      rw [e]; clear e
      go_enter Try.func38, Try.ntmps38
      go_wp2
      go_ret
      exact ⟨rfl, rfl⟩
    · have e : keyB k = false := by simp [keyB, h2]
      rw [e]; clear e
      go_enter Try.func38, Try.ntmps38
      go_wp2
      go_ret
      exact ⟨rfl, rfl⟩
  · have e : keyB k = false := by simp [keyB, h1]
    rw [e]; clear e
    go_enter Try.func38, Try.ntmps38
    go_wp2
    go_ret
    exact ⟨rfl, rfl⟩

theorem of_any (k : Int) (w : World) : Calls Try.prog 30 #[.int .i64 k] w fun e w' => e = .returned (.int .i64 (ofI k)) ∧ w = w' := by
  cases hk : keyB k with
  | true =>
    have e : ofI k = k % 16 := by simp [ofI, hk]
    have h0 : 0 ≤ k := by simp [keyB] at hk; omega
    have HC := Lib.hid (key_any k w)
    rw [hk] at HC
    rw [e]; clear e hk
    go_enter Try.func30, Try.ntmps30
    go_wp2_with fail
    refine HC.out.mono ?_
    rintro e w1 ⟨rfl, rfl⟩
    go_wp2
    go_ret
    exact ⟨rfl, rfl⟩
  | false =>
    have e : ofI k = -1 := by simp [ofI, hk]
    have HC := Lib.hid (key_any k w)
    rw [hk] at HC
    rw [e]; clear e hk
    go_enter Try.func30, Try.ntmps30
    go_wp2_with fail
    refine HC.out.mono ?_
    rintro e w1 ⟨rfl, rfl⟩
    go_wp2
    go_ret
    exact ⟨rfl, rfl⟩

end Go.Proofs.Ytnoojlgefpekiaa
