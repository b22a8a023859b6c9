/-
  The contract of breakwaterlaw01.ints at two rows of the same numbers.
-/
import Derived.Test.YtnoojlgefpekiaaMem
import Derived.Deep.QuietTactic
import Derived.BigQuiet
namespace Go.Proofs.Ytnoojlgefpekiaa
open Go.RowKit

set_option maxHeartbeats 400000 in
theorem ints_eq (A B : Option Addr) (n c d : Nat) (zs : List Int) (w : World) (ha : Rd w w.heap.size A n (cI zs)) (hb : Rd w w.heap.size B n (cI zs)) (hn : n ≤ 1000000) :
    Calls Try.prog 19 #[.slice A n c, .slice B n d] w fun e w' => e = .returned (.bool true) ∧ Below w.heap.size w w' := by
  go_enter Try.func19, Try.ntmps19
  go_wp2
  go_loopw [5] (fun i wr => ∃ k : Nat, k ≤ n ∧ i = .int .i64 k ∧ Below w.heap.size w wr) (fun i _ => n - (intOf i).toNat)
  case atStart => exact ⟨0, Nat.zero_le _, rfl, Below.refl _ _⟩
  case round =>
    obtain ⟨k, hk, rfl, hnx⟩ := hrel
    by_cases hkn : k < n
    · obtain ⟨ad, z, rfl, had, hz, hc⟩ := (ha.below hnx).int hkn
      obtain ⟨bd, z', rfl, hbd, hz', hc'⟩ := (hb.below hnx).int hkn
      obtain rfl : z = z' := by rw [hz] at hz'; exact Option.some.inj hz'
      clear hz hz' ha hb
      have hk1 : (0 : Int) ≤ (k : Int) := by omega
      have hk2 : (k : Int) < (n : Int) := by omega
      go_wp2_with fail
      go_quiet (fail)
      go_wp2
      go_roundw
      case rel => exact ⟨k + 1, by omega, by go_num, below_drewN hnx _⟩
      case measure => simp [intOf]; omega
    · clear ha hb
      go_wp2
      go_ret
      exact ⟨rfl, hnx⟩

end Go.Proofs.Ytnoojlgefpekiaa
