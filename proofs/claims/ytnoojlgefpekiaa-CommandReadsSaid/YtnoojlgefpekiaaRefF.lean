/-
  The contract of the reference's Row once more: what it gives is its own.
-/
import Derived.Test.YtnoojlgefpekiaaRefD
namespace Go.Proofs.Ytnoojlgefpekiaa
open Go.RowKit

/-- as RowPost, and the slice is its own -/
def RowOwn (w : World) (l : List UInt8) (wd : Nat) (e : Ending) (w' : World) : Prop :=
  (RowOk l wd ∧ ∃ A n c, e = .returned (.tuple #[.slice A n c, .int .i64 0]) ∧ n ≤ c ∧ w'.ownsRow w.heap.size 3 1 (.slice A n c) n (cI (rowN l wd (l.length / wd))) ∧ Below w.heap.size w w') ∨
  (¬ RowOk l wd ∧ e = .returned (.tuple #[.slice none 0 0, .int .i64 10]) ∧ Below w.heap.size w w')

set_option maxHeartbeats 800000 in
theorem rrow_own (s : ByteArray) (wd : Nat) (w : World) (h1 : 1 ≤ wd) (h6 : wd ≤ 6) (hs : s.size ≤ 100000) :
    Calls Try.prog 18 #[.string s, .int .i64 (wd : Int)] w (RowOwn w s.data.toList wd) := by
  have hsm : s.size ≤ maxLen := by unfold maxLen; omega
  have hl : s.data.toList.length = s.size := by simp
  have g1 : (1 : Int) ≤ (wd : Int) := by omega
  have g6 : (wd : Int) ≤ 6 := by omega
  have gm : (0 : Int) ≤ ((mostN (wd : Int).toNat : Nat) : Int) := by omega
  have HSM := Lib.hid hsm; have HL := Lib.hid hl; clear hsm hl
  obtain ⟨i0, hi, hz0, hz1, hz2⟩ := info_parts Try.info3
  go_enter Try.func18, Try.ntmps18
  go_wp2_with (first
    | (go_at_call 28; refine (rmost_yes _ _ g1 g6).mono ?_; rintro e w' ⟨rfl, rfl⟩))
  go_loopw [6, 7] (fun out i wr => ∃ (k a : Nat) (A : Option Addr) (c : Nat), a ≤ s.size ∧ i = .int .i64 a ∧ Hid (a = k * wd) ∧ out = .slice A k c ∧ k ≤ c ∧
      wr.ownsRow w.heap.size 3 1 (.slice A k c) k (cI (rowN s.data.toList wd k)) ∧ Below w.heap.size w wr ∧ Hid (∀ i, i < k → leval (chunk s.data.toList wd i) ≤ 1099511627776))
    (fun _ i _ => s.size - (intOf i).toNat)
  case atStart => exact ⟨0, 0, none, 0, Nat.zero_le _, rfl, by simp [Hid], rfl, Nat.le_refl _, World.ownsRow_nil _ _ _ _, Below.refl _ _, by simp [Hid]⟩
  case round =>
    obtain ⟨k, a, A, c, ha, rfl, HA, rfl, hkc, hown, hnx, hall⟩ := hrel
    have hwin : win s a wd = chunk s.data.toList wd k := by rw [HA.out]; rfl
    have hdv : a + wd ≤ s.size → k < s.data.toList.length / wd := fun h => by
      rw [HL.out]
      have := HA.out
      exact (Nat.le_div_iff_mul_le (by omega)).2 (by rw [Nat.succ_mul]; omega)
    have HDV := Lib.hid hdv; clear hdv
    by_cases has : a < s.size
    · by_cases hroom : a + wd ≤ s.size
      · by_cases hle : leval (chunk s.data.toList wd k) ≤ 1099511627776
        · have hg := rget_gen s (a : Int) (wd : Int) wr HSM.out
          rw [getR_ok s a wd h1 h6 hroom (by rw [hwin]; exact hle), hwin] at hg
          obtain ⟨v, hv⟩ : ∃ v, v = leval (chunk s.data.toList wd k) := ⟨_, rfl⟩
          rw [← hv] at hg
          have HG := Lib.hid hg; have HV := Lib.hid hv; have HLE := Lib.hid hle; clear hg hv hle hwin
          have hkb : k ≤ 100000 := by
            have := HA.out
            have h2 : k * 1 ≤ k * wd := Nat.mul_le_mul (Nat.le_refl _) h1
            omega
          have hnew := Rd.new wr 3 (cI [(v : Int)])
          go_wp2_with (first
            | (go_at_call 16; refine HG.out.mono ?_; rintro e w' ⟨rfl, rfl⟩)
            | (at_builtin
               refine wpList_app_rd _ rfl (.tmp 30) (.tmp 32) 22 rfl w.heap.size 3 i0 _ 8 Try.underlying22 hi hz0 hz1 hz2 rfl _ k (cI (rowN s.data.toList wd k)) rfl (hown.alloc _) _ _ 1 1 (cI [(v : Int)]) rfl hnew (one_cI _) (by unfold maxLen; omega) (by omega) (by have := hnx.size; simp; omega) w (hnx.alloc hnx.size _) ?_
               intro A2 c2 w2 hc2 hown2 hb2))
          clear hnew hown hnx
          go_roundw
          case rel =>
            refine ⟨k + 1, a + wd, A2, c2, hroom, by go_num, ?_, rfl, hc2, ?_, hb2, ?_⟩
            · have := HA.out
              simp only [Hid, Nat.succ_mul]; omega
            · rw [rowN_succ, ← HV.out]
              simpa [cI] using hown2
            · intro j hj
              by_cases hjk : j < k
              · exact hall.out j hjk
              · obtain rfl : j = k := by omega
                exact HLE.out
          case measure => simp [intOf]; omega
        · have hg := rget_gen s (a : Int) (wd : Int) wr HSM.out
          rw [getR_big s a wd h1 h6 hroom (by rw [hwin]; exact hle)] at hg
          have HG := Lib.hid hg; have HLE := Lib.hid hle; clear hg hle hwin hown
          go_wp2_with (first
            | (go_at_call 16; refine HG.out.mono ?_; rintro e w' ⟨rfl, rfl⟩))
          go_ret2
          exact .inr ⟨fun hr => HLE.out (hr.2 k (HDV.out hroom)), rfl, hnx⟩
      · have hg := rget_gen s (a : Int) (wd : Int) wr HSM.out
        rw [getR_short s a wd h1 h6 (by omega)] at hg
        have HG := Lib.hid hg; clear hg hwin hown
        go_wp2_with (first
          | (go_at_call 16; refine HG.out.mono ?_; rintro e w' ⟨rfl, rfl⟩))
        go_ret2
        refine .inr ⟨fun hr => ?_, rfl, hnx⟩
        have h3 := hr.1
        rw [HL.out] at h3
        obtain ⟨q, hq⟩ := Nat.dvd_of_mod_eq_zero h3
        have h4 := HA.out
        rw [Nat.mul_comm] at h4
        have h5 : k < q := by
          rcases Nat.lt_or_ge k q with h | h
          · exact h
          · have := Nat.mul_le_mul (Nat.le_refl wd) h
            omega
        have h6 := Nat.mul_le_mul (Nat.le_refl wd) h5
        rw [Nat.mul_succ] at h6
        omega
    · have hae : a = s.size := by omega
      have hmk : s.size = k * wd := by rw [← hae]; exact HA.out
      have HMK := Lib.hid hmk; clear hmk hae
      go_wp2
      go_ret2
      have e : s.data.toList.length / wd = k := by rw [HL.out, HMK.out, Nat.mul_div_cancel _ (by omega)]
      refine .inl ⟨⟨by rw [HL.out, HMK.out, Nat.mul_mod_left], fun i hi => hall.out i (by omega)⟩, A, k, c, rfl, hkc, ?_, hnx⟩
      rw [e]
      exact hown


end Go.Proofs.Ytnoojlgefpekiaa
