/-
  The contract of num.Row: the numbers that stand one behind the other, in new memory; or what is wrong.
-/
import Derived.Test.YtnoojlgefpekiaaNumC
import Derived.Test.YtnoojlgefpekiaaApp
import Derived.Test.YtnoojlgefpekiaaPlain2
namespace Go.Proofs.Ytnoojlgefpekiaa
open Go.RowKit

theorem get_ok (s : ByteArray) (p : Int) (wd : Nat) (w : World) (h1 : 1 ≤ wd) (h6 : wd ≤ 6) (hs : s.size ≤ maxLen) (h0 : 0 ≤ p) (h : p.toNat + wd ≤ s.size) (hle : leval (win s p.toNat wd) ≤ 1099511627776) :
    Calls Try.prog 13 #[.string s, .int .i64 p, .int .i64 (wd : Int)] w fun e w' => e = .returned (.tuple #[.int .i64 ((leval (win s p.toNat wd) : Nat) : Int), .int .i64 0]) ∧ w = w' := by
  obtain ⟨q, rfl⟩ := Int.eq_ofNat_of_zero_le h0
  refine (get_any s q wd w h1 h6 hs (by simpa using h)).mono fun e w' ⟨he, hw⟩ => ⟨?_, hw⟩
  rw [he]
  simp only [Int.toNat_natCast] at hle ⊢
  rw [if_pos hle, if_pos hle]

theorem get_big (s : ByteArray) (p : Int) (wd : Nat) (w : World) (h1 : 1 ≤ wd) (h6 : wd ≤ 6) (hs : s.size ≤ maxLen) (h0 : 0 ≤ p) (h : p.toNat + wd ≤ s.size) (hle : ¬ leval (win s p.toNat wd) ≤ 1099511627776) :
    Calls Try.prog 13 #[.string s, .int .i64 p, .int .i64 (wd : Int)] w fun e w' => e = .returned (.tuple #[.int .i64 0, .int .i64 10]) ∧ w = w' := by
  obtain ⟨q, rfl⟩ := Int.eq_ofNat_of_zero_le h0
  refine (get_any s q wd w h1 h6 hs (by simpa using h)).mono fun e w' ⟨he, hw⟩ => ⟨?_, hw⟩
  rw [he]
  simp only [Int.toNat_natCast] at hle ⊢
  rw [if_neg hle, if_neg hle]

/-- what Row comes to -/
def RowPost (w : World) (l : List UInt8) (wd : Nat) (e : Ending) (w' : World) : Prop :=
  (RowOk l wd ∧ ∃ A n c, e = .returned (.tuple #[.slice A n c, .int .i64 0]) ∧ n ≤ c ∧ Rd w' w'.heap.size A n (cI (rowN l wd (l.length / wd))) ∧ Below w.heap.size w w') ∨
  (¬ RowOk l wd ∧ e = .returned (.tuple #[.slice none 0 0, .int .i64 10]) ∧ Below w.heap.size w w')

theorem row_width (s : Value) (x : Int) (w : World) (h : x < 1 ∨ 6 < x) :
    Calls Try.prog 17 #[s, .int .i64 x] w fun e w' => e = .returned (.tuple #[.slice none 0 0, .int .i64 2]) ∧ w = w' := by
  go_enter Try.func17, Try.ntmps17
  go_wp2_with (first
    | (go_at_call 26; refine (may_no _ _ h).mono ?_; rintro e w' ⟨rfl, rfl⟩))
  go_ret2
  exact ⟨rfl, rfl⟩

set_option maxHeartbeats 800000 in
theorem row_any (s : ByteArray) (wd : Nat) (w : World) (h1 : 1 ≤ wd) (h6 : wd ≤ 6) (hs : s.size ≤ 100000) :
    Calls Try.prog 17 #[.string s, .int .i64 (wd : Int)] w (RowPost w s.data.toList wd) := by
  have hsm : s.size ≤ maxLen := by unfold maxLen; omega
  have hl : s.data.toList.length = s.size := by simp
  have g1 : (1 : Int) ≤ (wd : Int) := by omega
  have g6 : (wd : Int) ≤ 6 := by omega
  have HSM := Lib.hid hsm; have HL := Lib.hid hl; clear hsm hl
  obtain ⟨i0, hi, hz0, hz1, hz2⟩ := info_parts Try.info3
  by_cases hmod : s.size % wd = 0
  · have hm : ((s.size : Int) % (wd : Int) != 0) = false := by
      rw [bne_eq_false_iff_eq]; omega
    have hq : s.size / wd * wd = s.size := Nat.div_mul_cancel (Nat.dvd_of_mod_eq_zero hmod)
    obtain ⟨q, hqd⟩ : ∃ q, q = s.size / wd := ⟨_, rfl⟩
    rw [← hqd] at hq
    have HM := Lib.hid hmod; have HQ := Lib.hid hq; have HQD := Lib.hid hqd; clear hmod hq hqd
    go_enter Try.func17, Try.ntmps17
    go_wp2_with (first
      | (go_at_call 26; refine (may_yes _ _ g1 g6).mono ?_; rintro e w' ⟨rfl, rfl⟩))
    go_loopw [4, 6] (fun out i wr => ∃ (k a : Nat) (A : Option Addr) (c : Nat), k ≤ q ∧ a ≤ s.size ∧ i = .int .i64 a ∧ Hid (a = k * wd) ∧ out = .slice A k c ∧ k ≤ c ∧
        wr.ownsRow w.heap.size 3 1 (.slice A k c) k (cI (rowN s.data.toList wd k)) ∧ Below w.heap.size w wr ∧ Hid (∀ i, i < k → leval (chunk s.data.toList wd i) ≤ 1099511627776))
      (fun _ i _ => s.size - (intOf i).toNat)
    case atStart => exact ⟨0, 0, none, 0, Nat.zero_le _, Nat.zero_le _, rfl, by simp [Hid], rfl, Nat.le_refl _, World.ownsRow_nil _ _ _ _, Below.refl _ _, by simp [Hid]⟩
    case round =>
      obtain ⟨k, a, A, c, hk, ha, rfl, HA, rfl, hkc, hown, hnx, hall⟩ := hrel
      by_cases hkq : k < q
      · have hroom : a + wd ≤ s.size := by
          have := HQ.out; have := HA.out
          have h2 : (k + 1) * wd ≤ q * wd := Nat.mul_le_mul hkq (Nat.le_refl _)
          rw [Nat.succ_mul] at h2; omega
        have hwin : win s a wd = chunk s.data.toList wd k := by rw [HA.out]; rfl
        by_cases hle : leval (chunk s.data.toList wd k) ≤ 1099511627776
        · have hg := get_ok s (a : Int) wd wr h1 h6 HSM.out (by omega) (by simpa using hroom) (by simpa [hwin] using hle)
          simp only [Int.toNat_natCast, hwin] at hg
          obtain ⟨v, hv⟩ : ∃ v, v = leval (chunk s.data.toList wd k) := ⟨_, rfl⟩
          rw [← hv] at hg
          have HG := Lib.hid hg; have HV := Lib.hid hv; have HLE := Lib.hid hle; clear hg hv hle hwin
          have hkb : k ≤ 100000 := by
            have := HA.out
            have h2 : k * 1 ≤ k * wd := Nat.mul_le_mul (Nat.le_refl _) h1
            omega
          have hnew := Rd.new wr 3 (cI [(v : Int)])
          go_wp2_with (first
            | (go_at_call 13; refine HG.out.mono ?_; rintro e w' ⟨rfl, rfl⟩)
            | (at_builtin
               refine wpList_app_rd _ rfl (.tmp 36) (.tmp 38) 22 rfl w.heap.size 3 i0 _ 8 Try.underlying22 hi hz0 hz1 hz2 rfl _ k (cI (rowN s.data.toList wd k)) rfl (hown.alloc _) _ _ 1 1 (cI [(v : Int)]) rfl hnew (one_cI _) (by unfold maxLen; omega) (by omega) (by have := hnx.size; simp; omega) w (hnx.alloc hnx.size _) ?_
               intro A2 c2 w2 hc2 hown2 hb2))
          clear hnew hown hnx
          go_roundw
          case rel =>
            refine ⟨k + 1, a + wd, A2, c2, by omega, hroom, by go_num, ?_, rfl, hc2, ?_, hb2, ?_⟩
            · have := HA.out
              simp only [Hid, Nat.succ_mul]; omega
            · rw [rowN_succ, ← HV.out]
              simpa [cI] using hown2
            · intro j hj
              by_cases hjk : j < k
              · exact hall.out j hjk
              · obtain rfl : j = k := by omega
                exact HLE.out
          case measure => simp [intOf]; omega
        · have hg := get_big s (a : Int) wd wr h1 h6 HSM.out (by omega) (by simpa using hroom) (by simpa [hwin] using hle)
          have HG := Lib.hid hg; have HLE := Lib.hid hle; clear hg hle hwin hown
          go_wp2_with (first
            | (go_at_call 13; refine HG.out.mono ?_; rintro e w' ⟨rfl, rfl⟩))
          go_ret2
          refine .inr ⟨fun hr => HLE.out (hr.2 k ?_), rfl, hnx⟩
          rw [HL.out, ← HQD.out]
          exact hkq
      · have hkq' : k = q := by omega
        have hae : a = s.size := by rw [HA.out, hkq', HQ.out]
        have HK := Lib.hid hkq'; clear hkq'
        have hage : ¬ a < s.size := by omega
        clear hae
        go_wp2
        go_ret2
        have e : s.data.toList.length / wd = k := by rw [HL.out, HK.out, HQD.out]
        refine .inl ⟨⟨by rw [HL.out]; exact HM.out, fun i hi => hall.out i (by omega)⟩, A, k, c, rfl, hkc, ?_, hnx⟩
        rw [e]
        exact Rd.of_own hown
  · have hm : ((s.size : Int) % (wd : Int) != 0) = true := by
      rw [bne_iff_ne]; omega
    have HM := Lib.hid hmod; clear hmod
    go_enter Try.func17, Try.ntmps17
    go_wp2_with (first
      | (go_at_call 26; refine (may_yes _ _ g1 g6).mono ?_; rintro e w' ⟨rfl, rfl⟩))
    go_ret2
    exact .inr ⟨fun hr => HM.out (by rw [← HL.out]; exact hr.1), rfl, Below.refl _ _⟩

theorem row_ok (s : ByteArray) (wd : Nat) (w : World) (h1 : 1 ≤ wd) (h6 : wd ≤ 6) (hs : s.size ≤ 100000) (h : RowOk s.data.toList wd) :
    Calls Try.prog 17 #[.string s, .int .i64 (wd : Int)] w fun e w' =>
      ∃ A n c, e = .returned (.tuple #[.slice A n c, .int .i64 0]) ∧ n ≤ c ∧ Rd w' w'.heap.size A n (cI (rowN s.data.toList wd (s.data.toList.length / wd))) ∧ Below w.heap.size w w' :=
  (row_any s wd w h1 h6 hs).mono fun e w' hh => by
    rcases hh with ⟨_, hh⟩ | ⟨hh, _⟩
    · exact hh
    · exact absurd h hh

theorem row_bad (s : ByteArray) (wd : Nat) (w : World) (h1 : 1 ≤ wd) (h6 : wd ≤ 6) (hs : s.size ≤ 100000) (h : ¬ RowOk s.data.toList wd) :
    Calls Try.prog 17 #[.string s, .int .i64 (wd : Int)] w fun e w' => e = .returned (.tuple #[.slice none 0 0, .int .i64 10]) ∧ Below w.heap.size w w' :=
  (row_any s wd w h1 h6 hs).mono fun e w' hh => by
    rcases hh with ⟨hh, _⟩ | ⟨_, hh⟩
    · exact absurd hh h
    · exact hh

end Go.Proofs.Ytnoojlgefpekiaa
