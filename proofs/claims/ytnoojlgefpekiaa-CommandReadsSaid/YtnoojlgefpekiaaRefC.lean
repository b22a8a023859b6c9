/-
  The contract of the reference's Get; one word for both Gets.
-/
import Derived.Test.YtnoojlgefpekiaaRefA
import Derived.Test.YtnoojlgefpekiaaNumC
namespace Go.Proofs.Ytnoojlgefpekiaa
open Go.RowKit

theorem rget_width (s : Value) (p : Int) (x : Int) (w : World) (h : x < 1 ∨ 6 < x) :
    Calls Try.prog 16 #[s, .int .i64 p, .int .i64 x] w fun e w' => e = .returned (.tuple #[.int .i64 0, .int .i64 2]) ∧ w = w' := by
  go_enter Try.func16, Try.ntmps16
  go_wp2_with (first
    | (go_at_call 28; refine (rmost_no _ _ h).mono ?_; rintro e w' ⟨rfl, rfl⟩))
  go_ret2
  exact ⟨rfl, rfl⟩

theorem rget_short (s : ByteArray) (p : Int) (x : Int) (w : World) (h1 : 1 ≤ x) (h6 : x ≤ 6) (h : p < 0 ∨ s.size < p + x) :
    Calls Try.prog 16 #[.string s, .int .i64 p, .int .i64 x] w fun e w' => e = .returned (.tuple #[.int .i64 0, .int .i64 10]) ∧ w = w' := by
  have gm : (0 : Int) ≤ ((mostN x.toNat : Nat) : Int) := by omega
  by_cases hp0 : p < 0
  · clear h
    go_enter Try.func16, Try.ntmps16
    go_wp2_with (first
      | (go_at_call 28; refine (rmost_yes _ _ h1 h6).mono ?_; rintro e w' ⟨rfl, rfl⟩))
    go_ret2
    exact ⟨rfl, rfl⟩
  · by_cases hp1 : s.size < p
    · clear h
      go_enter Try.func16, Try.ntmps16
      go_wp2_with (first
        | (go_at_call 28; refine (rmost_yes _ _ h1 h6).mono ?_; rintro e w' ⟨rfl, rfl⟩))
      go_ret2
      exact ⟨rfl, rfl⟩
    · have h2 : (s.size : Int) - p < x := by omega
      clear h
      go_enter Try.func16, Try.ntmps16
      go_wp2_with (first
        | (go_at_call 28; refine (rmost_yes _ _ h1 h6).mono ?_; rintro e w' ⟨rfl, rfl⟩))
      go_ret2
      exact ⟨rfl, rfl⟩

theorem win_drop (s : ByteArray) (p wd k : Nat) (h : p + wd ≤ s.size) (hk : k < wd) :
    leval ((win s p wd).drop k) = leval ((win s p wd).drop (k + 1)) * 256 + (s[p + k]'(by omega)).toNat := by
  have hl := win_len s p wd h
  have hg := win_get s p wd k h hk
  have e : (win s p wd).drop k = (s[p + k]'(by omega)) :: (win s p wd).drop (k + 1) := by
    rw [List.drop_eq_getElem_cons (by omega)]
    congr 1
    rw [List.getElem?_eq_getElem (by omega)] at hg
    exact Option.some.inj hg
  rw [e]
  simp only [leval]
  omega

theorem leval_win_le (s : ByteArray) (p wd j : Nat) (h6 : wd ≤ 6) : leval ((win s p wd).drop j) ≤ 281474976710655 := by
  have h1 := leval_lt ((win s p wd).drop j)
  have h2 : ((win s p wd).drop j).length ≤ 6 := by simp [win]; omega
  have h3 : 256 ^ ((win s p wd).drop j).length ≤ 256 ^ 6 := Nat.pow_le_pow_right (by omega) h2
  omega

set_option maxHeartbeats 400000 in
theorem rget_any (s : ByteArray) (p wd : Nat) (w : World) (h1 : 1 ≤ wd) (h6 : wd ≤ 6) (hs : s.size ≤ maxLen) (h : p + wd ≤ s.size) :
    Calls Try.prog 16 #[.string s, .int .i64 (p : Int), .int .i64 (wd : Int)] w (GetPost w (leval (win s p wd))) := by
  unfold maxLen at hs
  have g1 : (1 : Int) ≤ (wd : Int) := by omega
  have g6 : (wd : Int) ≤ 6 := by omega
  have gm : (0 : Int) ≤ ((mostN (wd : Int).toNat : Nat) : Int) := by omega
  have d1 : ¬ ((p : Int) < 0) := by omega
  have d2 : ¬ (s.size < p) := by omega
  have d3 : ¬ ((s.size : Int) - (p : Int) < (wd : Int)) := by omega
  go_enter Try.func16, Try.ntmps16
  go_wp2_with (first
    | (go_at_call 28; refine (rmost_yes _ _ g1 g6).mono ?_; rintro e w' ⟨rfl, rfl⟩))
  go_loop [8, 9] (fun n i => ∃ (j v : Nat) (t : Int), j ≤ wd ∧ i = .int .i64 t ∧ Hid (t = (j : Int) - 1) ∧ -1 ≤ t ∧ t < (wd : Int) ∧ n = .int .i64 v ∧ Hid (v = leval ((win s p wd).drop j)) ∧ v ≤ 281474976710655) (fun _ i => (intOf i + 1).toNat)
  case atStart => exact ⟨wd, 0, (wd : Int) - 1, Nat.le_refl _, rfl, rfl, by omega, by omega, rfl, by
    show 0 = _
    rw [List.drop_of_length_le (by rw [win_len s p wd h]; exact Nat.le_refl _)]; rfl, by omega⟩
  case round =>
    obtain ⟨j, v, t, hj, rfl, HT, ht1, ht2, rfl, HV, hv⟩ := hrel
    by_cases ht : 0 ≤ t
    · obtain ⟨k, rfl⟩ := Int.eq_ofNat_of_zero_le ht
      have hjk : j = k + 1 := by have := HT.out; omega
      have HJ := Lib.hid hjk; clear hjk
      have hkw : k < wd := by omega
      go_wp2
      go_round
      case rel =>
        have hpk : p + k < s.size := by omega
        have hd := win_drop s p wd k h hkw
        have hle := leval_win_le s p wd k h6
        obtain ⟨b, hb⟩ : ∃ b, b = (s[p + k]'hpk).toNat := ⟨_, rfl⟩
        have hlt : b < 256 := by rw [hb]; exact UInt8.toNat_lt _
        rw [← hb] at hd
        have hv2 : v * 256 + b = leval ((win s p wd).drop k) := by rw [hd, HV.out, HJ.out]
        refine ⟨k, v * 256 + b, (k : Int) - 1, by omega, by go_num, rfl, by omega, by omega, ?_, hv2, by omega⟩
        show Value.int .i64 (wrap64 ((v : Int) * 256 + wrap64 ((s[p + k]'hpk).toNat : Int))) = _
        rw [← hb, IntWalk.wrap64_in (b : Int) ⟨by omega, by omega⟩, IntWalk.wrap64_in _ ⟨by omega, by omega⟩]
        rfl
      case measure => simp [intOf] <;> omega
    · have hj0 : j = 0 := by have := HT.out; omega
      have e : v = leval (win s p wd) := by rw [HV.out, hj0, List.drop_zero]
      have E := Lib.hid e; clear e hj0
      by_cases hb : v ≤ 1099511627776
      · go_wp2
        go_ret2
        rw [← E.out]
        exact ⟨by rw [if_pos hb, if_pos hb]; rfl, rfl⟩
      · go_wp2
        go_ret2
        rw [← E.out]
        exact ⟨by rw [if_neg hb, if_neg hb]; rfl, rfl⟩

/-- what Get comes to, whatever it is given -/
def getR (s : ByteArray) (p x : Int) : Int × Int :=
  if x < 1 ∨ 6 < x then (0, 2) else if p < 0 ∨ s.size < p + x then (0, 10)
  else if leval (win s p.toNat x.toNat) ≤ 1099511627776 then ((leval (win s p.toNat x.toNat) : Nat), 0) else (0, 10)

theorem gen_get (s : ByteArray) (p wd : Nat) (w w' : World) (e : Ending) (h1 : 1 ≤ wd) (h6 : wd ≤ 6) (h : p + wd ≤ s.size) (hh : GetPost w (leval (win s p wd)) e w') :
    e = .returned (.tuple #[.int .i64 (getR s p wd).1, .int .i64 (getR s p wd).2]) ∧ w = w' := by
  obtain ⟨rfl, rfl⟩ := hh
  have e0 : getR s p wd = if leval (win s p wd) ≤ 1099511627776 then (((leval (win s p wd) : Nat) : Int), (0 : Int)) else (0, 10) := by
    have a1 : ¬ ((wd : Int) < 1 ∨ 6 < (wd : Int)) := by omega
    have a2 : ¬ ((p : Int) < 0 ∨ (s.size : Int) < (p : Int) + (wd : Int)) := by omega
    unfold getR
    rw [if_neg a1, if_neg a2]
    simp only [Int.toNat_natCast]
  refine ⟨?_, rfl⟩
  rw [e0]
  by_cases hb : leval (win s p wd) ≤ 1099511627776
  · simp only [if_pos hb]
  · simp only [if_neg hb]

theorem get_gen (s : ByteArray) (p x : Int) (w : World) (hs : s.size ≤ maxLen) :
    Calls Try.prog 13 #[.string s, .int .i64 p, .int .i64 x] w fun e w' => e = .returned (.tuple #[.int .i64 (getR s p x).1, .int .i64 (getR s p x).2]) ∧ w = w' := by
  by_cases hx : x < 1 ∨ 6 < x
  · have e : getR s p x = (0, 2) := by unfold getR; rw [if_pos hx]
    rw [e]; exact get_width _ _ _ _ hx
  · by_cases hp : p < 0 ∨ s.size < p + x
    · have e : getR s p x = (0, 10) := by unfold getR; rw [if_neg hx, if_pos hp]
      rw [e]; exact get_short _ _ _ _ (by omega) (by omega) hp
    · obtain ⟨wd, rfl⟩ := Int.eq_ofNat_of_zero_le (show 0 ≤ x by omega)
      obtain ⟨q, rfl⟩ := Int.eq_ofNat_of_zero_le (show 0 ≤ p by omega)
      exact (get_any s q wd w (by omega) (by omega) hs (by omega)).mono fun e w' h => gen_get s q wd w w' e (by omega) (by omega) (by omega) h

theorem rget_gen (s : ByteArray) (p x : Int) (w : World) (hs : s.size ≤ maxLen) :
    Calls Try.prog 16 #[.string s, .int .i64 p, .int .i64 x] w fun e w' => e = .returned (.tuple #[.int .i64 (getR s p x).1, .int .i64 (getR s p x).2]) ∧ w = w' := by
  by_cases hx : x < 1 ∨ 6 < x
  · have e : getR s p x = (0, 2) := by unfold getR; rw [if_pos hx]
    rw [e]; exact rget_width _ _ _ _ hx
  · by_cases hp : p < 0 ∨ s.size < p + x
    · have e : getR s p x = (0, 10) := by unfold getR; rw [if_neg hx, if_pos hp]
      rw [e]; exact rget_short _ _ _ _ (by omega) (by omega) hp
    · obtain ⟨wd, rfl⟩ := Int.eq_ofNat_of_zero_le (show 0 ≤ x by omega)
      obtain ⟨q, rfl⟩ := Int.eq_ofNat_of_zero_le (show 0 ≤ p by omega)
      exact (rget_any s q wd w (by omega) (by omega) hs (by omega)).mono fun e w' h => gen_get s q wd w w' e (by omega) (by omega) (by omega) h

end Go.Proofs.Ytnoojlgefpekiaa
