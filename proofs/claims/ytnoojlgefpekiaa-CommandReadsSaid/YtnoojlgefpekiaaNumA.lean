/-
  Contracts of the small functions of package num: a width that may be, its greatest number, whether a number fits.
-/
import Derived.Test.YtnoojlgefpekiaaRows
import Derived.WalkKit
import Derived.WalkSpells
import Derived.WalkLawsBesides
import Derived.Lib.Hide
import Derived.Test.YtnoojlgefpekiaaPlain
namespace Go.Proofs.Ytnoojlgefpekiaa
open Go.RowKit

theorem may_yes (x : Int) (w : World) (h1 : 1 ≤ x) (h2 : x ≤ 6) :
    Calls Try.prog 26 #[.int .i64 x] w fun e w' => e = .returned (.bool true) ∧ w = w' := by
  go_enter Try.func26, Try.ntmps26
  go_wp2
  go_ret
  exact ⟨rfl, rfl⟩

theorem may_no (x : Int) (w : World) (h : x < 1 ∨ 6 < x) :
    Calls Try.prog 26 #[.int .i64 x] w fun e w' => e = .returned (.bool false) ∧ w = w' := by
  rcases h with h | h
  · have : ¬ 1 ≤ x := by omega
    go_enter Try.func26, Try.ntmps26
    go_wp2
    go_ret
    exact ⟨rfl, rfl⟩
  · have : 1 ≤ x := by omega
    have : ¬ x ≤ 6 := by omega
    go_enter Try.func26, Try.ntmps26
    go_wp2
    go_ret
    exact ⟨rfl, rfl⟩

theorem most_any (x : Int) (w : World) (h1 : 1 ≤ x) (h2 : x ≤ 6) :
    Calls Try.prog 27 #[.int .i64 x] w fun e w' => e = .returned (.int .i64 (mostN x.toNat : Nat)) ∧ w = w' := by
  have hu : IntKind.u64.signed = false := rfl
  have b1 : bits BinOp.xor IntKind.u64 IntKind.u64.max (IntKind.u64.wrap 4722366482869645213440) = 255 := by decide +kernel
  have c1 : wrap64 255 = 255 := by decide +kernel
  have b2 : bits BinOp.xor IntKind.u64 IntKind.u64.max (IntKind.u64.wrap 1208925819614629174640640) = 65535 := by decide +kernel
  have c2 : wrap64 65535 = 65535 := by decide +kernel
  have b3 : bits BinOp.xor IntKind.u64 IntKind.u64.max (IntKind.u64.wrap 309485009821345068708003840) = 16777215 := by decide +kernel
  have c3 : wrap64 16777215 = 16777215 := by decide +kernel
  have b4 : bits BinOp.xor IntKind.u64 IntKind.u64.max (IntKind.u64.wrap 79228162514264337589248983040) = 4294967295 := by decide +kernel
  have c4 : wrap64 4294967295 = 4294967295 := by decide +kernel
  have b5 : bits BinOp.xor IntKind.u64 IntKind.u64.max (IntKind.u64.wrap 20282409603651670422847739658240) = 1099511627775 := by decide +kernel
  have c5 : wrap64 1099511627775 = 1099511627775 := by decide +kernel
  have b6 : bits BinOp.xor IntKind.u64 IntKind.u64.max (IntKind.u64.wrap 5192296858534827628249021352509440) = 281474976710655 := by decide +kernel
  have c6 : wrap64 281474976710655 = 281474976710655 := by decide +kernel
  rcases (show x = 1 ∨ x = 2 ∨ x = 3 ∨ x = 4 ∨ x = 5 ∨ x = 6 from by omega) with rfl | rfl | rfl | rfl | rfl | rfl
  all_goals
    go_enter Try.func27, Try.ntmps27
    go_wp2
    go_ret
    exact ⟨rfl, rfl⟩

theorem fits_yes (n x : Int) (w : World) (h1 : 1 ≤ x) (h2 : x ≤ 6) (hn : 0 ≤ n) (hm : n ≤ (mostN x.toNat : Nat)) :
    Calls Try.prog 14 #[.int .i64 n, .int .i64 x] w fun e w' => e = .returned (.bool true) ∧ w = w' := by
  go_enter Try.func14, Try.ntmps14
  go_wp2_with (first
    | (go_at_call 26; refine (may_yes _ _ h1 h2).mono ?_; rintro e w' ⟨rfl, rfl⟩)
    | (go_at_call 27; refine (most_any _ _ h1 h2).mono ?_; rintro e w' ⟨rfl, rfl⟩))
  go_ret
  exact ⟨rfl, rfl⟩

theorem fits_no (n x : Int) (w : World) (h : x < 1 ∨ 6 < x ∨ n < 0 ∨ (mostN x.toNat : Nat) < n) :
    Calls Try.prog 14 #[.int .i64 n, .int .i64 x] w fun e w' => e = .returned (.bool false) ∧ w = w' := by
  by_cases hx : 1 ≤ x ∧ x ≤ 6
  · obtain ⟨h1, h2⟩ := hx
    have h' : n < 0 ∨ (mostN x.toNat : Nat) < n := by omega
    clear h
    by_cases hn : 0 ≤ n
    · have hm : ¬ n ≤ (mostN x.toNat : Nat) := by omega
      clear h'
      go_enter Try.func14, Try.ntmps14
      go_wp2_with (first
        | (go_at_call 26; refine (may_yes _ _ h1 h2).mono ?_; rintro e w' ⟨rfl, rfl⟩)
        | (go_at_call 27; refine (most_any _ _ h1 h2).mono ?_; rintro e w' ⟨rfl, rfl⟩))
      go_ret
      exact ⟨congrArg (fun b => Ending.returned (.bool b)) (decide_eq_false (by omega)), rfl⟩
    · clear h'
      go_enter Try.func14, Try.ntmps14
      go_wp2_with (first
        | (go_at_call 26; refine (may_yes _ _ h1 h2).mono ?_; rintro e w' ⟨rfl, rfl⟩))
      go_ret
      exact ⟨rfl, rfl⟩
  · have hx' : x < 1 ∨ 6 < x := by omega
    clear h
    go_enter Try.func14, Try.ntmps14
    go_wp2_with (first
      | (go_at_call 26; refine (may_no _ _ hx').mono ?_; rintro e w' ⟨rfl, rfl⟩))
    go_ret
    exact ⟨rfl, rfl⟩

end Go.Proofs.Ytnoojlgefpekiaa
