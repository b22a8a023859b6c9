/-
  The contract of num.Get: the number of the bytes at a place; or what is wrong.
-/
import Derived.Test.YtnoojlgefpekiaaNumA
import Derived.Test.YtnoojlgefpekiaaMem
namespace Go.Proofs.Ytnoojlgefpekiaa
open Go.RowKit

/-- the bytes at a place -/
def win (s : ByteArray) (p wd : Nat) : List UInt8 := (s.data.toList.drop p).take wd

theorem get_width (s : Value) (p : Int) (x : Int) (w : World) (h : x < 1 ∨ 6 < x) :
    Calls Try.prog 13 #[s, .int .i64 p, .int .i64 x] w fun e w' => e = .returned (.tuple #[.int .i64 0, .int .i64 2]) ∧ w = w' := by
  go_enter Try.func13, Try.ntmps13
  go_wp2_with (first
    | (go_at_call 26; refine (may_no _ _ h).mono ?_; rintro e w' ⟨rfl, rfl⟩))
  go_ret2
  exact ⟨rfl, rfl⟩

theorem get_short (s : ByteArray) (p : Int) (x : Int) (w : World) (h1 : 1 ≤ x) (h6 : x ≤ 6) (h : p < 0 ∨ s.size < p + x) :
    Calls Try.prog 13 #[.string s, .int .i64 p, .int .i64 x] w fun e w' => e = .returned (.tuple #[.int .i64 0, .int .i64 10]) ∧ w = w' := by
  by_cases hp0 : p < 0
  · clear h
    go_enter Try.func13, Try.ntmps13
    go_wp2_with (first
      | (go_at_call 26; refine (may_yes _ _ h1 h6).mono ?_; rintro e w' ⟨rfl, rfl⟩))
    go_ret2
    exact ⟨rfl, rfl⟩
  · by_cases hp1 : s.size < p
    · clear h
      go_enter Try.func13, Try.ntmps13
      go_wp2_with (first
        | (go_at_call 26; refine (may_yes _ _ h1 h6).mono ?_; rintro e w' ⟨rfl, rfl⟩))
      go_ret2
      exact ⟨rfl, rfl⟩
    · have h2 : (s.size : Int) - p < x := by omega
      clear h
      go_enter Try.func13, Try.ntmps13
      go_wp2_with (first
        | (go_at_call 26; refine (may_yes _ _ h1 h6).mono ?_; rintro e w' ⟨rfl, rfl⟩))
      go_ret2
      exact ⟨rfl, rfl⟩

theorem win_len (s : ByteArray) (p wd : Nat) (h : p + wd ≤ s.size) : (win s p wd).length = wd := by
  simp [win]; omega
theorem win_get (s : ByteArray) (p wd k : Nat) (h : p + wd ≤ s.size) (hk : k < wd) : (win s p wd)[k]? = some (s[p + k]'(by omega)) := by
  simp [win, hk, List.getElem?_drop]
  rw [Array.getElem?_eq_getElem (by simp; omega)]
  rfl
theorem win_step (s : ByteArray) (p wd k : Nat) (h : p + wd ≤ s.size) (hk : k < wd) :
    leval ((win s p wd).take (k + 1)) = leval ((win s p wd).take k) + 256 ^ k * (s[p + k]'(by omega)).toNat := by
  rw [List.take_add_one, win_get s p wd k h hk]
  have hl : ((win s p wd).take k).length = k := by rw [List.length_take, win_len s p wd h]; omega
  simp only [Option.toList_some]
  rw [leval_append, hl]
  simp [leval]

/-- a byte laid over a number, as the walk spells it -/
theorem or_walk (s : ByteArray) (p wd k : Nat) (h6 : wd ≤ 6) (h : p + wd ≤ s.size) (hk : k < wd) (hi : p + k < s.size) :
    bits BinOp.or IntKind.i64 ((leval ((win s p wd).take k) : Nat) : Int) (wrap64 (wrap64 ((s[p + k]'hi).toNat : Int) * 2 ^ (8 * k))) = ((leval ((win s p wd).take (k + 1)) : Nat) : Int) := by
  rw [win_step s p wd k h hk]
  have ha := leval_lt ((win s p wd).take k)
  have hl : ((win s p wd).take k).length = k := by rw [List.length_take, win_len s p wd h]; omega
  rw [hl] at ha
  exact or_num _ _ k ha (UInt8.toNat_lt _) (by omega)

/-- what Get comes to where there are bytes enough -/
def GetPost (w : World) (v : Nat) (e : Ending) (w' : World) : Prop :=
  e = .returned (.tuple #[.int .i64 (if v ≤ 1099511627776 then (v : Int) else 0), .int .i64 (if v ≤ 1099511627776 then 0 else 10)]) ∧ w = w'

set_option maxHeartbeats 400000 in
theorem get_any (s : ByteArray) (p wd : Nat) (w : World) (h1 : 1 ≤ wd) (h6 : wd ≤ 6) (hs : s.size ≤ maxLen) (h : p + wd ≤ s.size) :
    Calls Try.prog 13 #[.string s, .int .i64 (p : Int), .int .i64 (wd : Int)] w (GetPost w (leval (win s p wd))) := by
  unfold maxLen at hs
  have g1 : (1 : Int) ≤ (wd : Int) := by omega
  have g6 : (wd : Int) ≤ 6 := by omega
  have d1 : ¬ ((p : Int) < 0) := by omega
  have d2 : ¬ (s.size < p) := by omega
  have d3 : ¬ ((s.size : Int) - (p : Int) < (wd : Int)) := by omega
  go_enter Try.func13, Try.ntmps13
  go_wp2_with (first
    | (go_at_call 26; refine (may_yes _ _ g1 g6).mono ?_; rintro e w' ⟨rfl, rfl⟩))
  go_loop [6, 31] (fun n i => ∃ k : Nat, k ≤ wd ∧ i = .int .i64 k ∧ n = .int .i64 ((leval ((win s p wd).take k) : Nat) : Int)) (fun _ i => wd - (intOf i).toNat)
  case atStart => exact ⟨0, Nat.zero_le _, rfl, by simp [leval]⟩
  case round =>
    obtain ⟨k, hk, rfl, rfl⟩ := hrel
    by_cases hkw : k < wd
    · have hv := or_walk s p wd k h6 h hkw (by omega)
      go_wp2
      go_round
      case rel => exact ⟨k + 1, by omega, by go_num, rfl⟩
      case measure => simp [intOf]; omega
    · have hke : k = wd := by omega
      have e : (win s p wd).take k = win s p wd := List.take_of_length_le (by rw [win_len s p wd h]; omega)
      have E := Lib.hid e; clear e hke
      have hv : leval ((win s p wd).take k) ≤ 281474976710655 := by
        have h1 := leval_lt ((win s p wd).take k)
        have h2 : ((win s p wd).take k).length ≤ 6 := by rw [List.length_take, win_len s p wd h]; omega
        have h3 : 256 ^ ((win s p wd).take k).length ≤ 256 ^ 6 := Nat.pow_le_pow_right (by omega) h2
        omega
      by_cases hb : leval ((win s p wd).take k) ≤ 1099511627776
      · go_wp2
        go_ret2
        rw [show leval (win s p wd) = leval ((win s p wd).take k) from by rw [E.out]]
        exact ⟨by rw [if_pos hb, if_pos hb]; rfl, rfl⟩
      · go_wp2
        go_ret2
        rw [show leval (win s p wd) = leval ((win s p wd).take k) from by rw [E.out]]
        exact ⟨by rw [if_neg hb, if_neg hb]; rfl, rfl⟩

end Go.Proofs.Ytnoojlgefpekiaa
