/-
  The walk of breakwaterlaw02.CrcClose.
-/
import Derived.Test.YtbiclekpkijknaaBackLaw
import Derived.Test.YtbiclekpkijknaaApp
import Derived.Test.YtbiclekpkijknaaPlain3
namespace Go.Proofs.Ytbiclekpkijknaa
open Go.RowKit

theorem byte_u8 (a b : UInt8) : bits BinOp.xor IntKind.u8 (a.toNat : Int) (b.toNat : Int) = ((a ^^^ b).toNat : Int) := by
  have h : ∀ c : UInt8, BitVec.ofInt 8 (c.toNat : Int) = c.toBitVec := by
    intro c
    rw [BitVec.ofInt_natCast]
    apply BitVec.eq_of_toNat_eq
    rw [BitVec.toNat_ofNat]
    exact Nat.mod_eq_of_lt c.toNat_lt
  show IntKind.u8.wrap ((BitVec.ofInt 8 (a.toNat : Int) ^^^ BitVec.ofInt 8 (b.toNat : Int)).toNat : Int) = _
  rw [h, h]
  have e : (a.toBitVec ^^^ b.toBitVec).toNat = (a ^^^ b).toNat := rfl
  rw [e]
  have := (a ^^^ b).toNat_lt
  show (((a ^^^ b).toNat : Int) % 2 ^ 8) = _
  omega

/-- a byte of a number, as the walk spells it -/
theorem shift_byte (x : Int) (k : Nat) (hk : k < 4) : ∃ b : UInt8, (bytesOf (BitVec.ofInt 32 x).toNat)[k]? = some b ∧ x / 2 ^ (8 * k) % 256 = (b.toNat : Int) := by
  obtain ⟨n, hn⟩ : ∃ n, n = (BitVec.ofInt 32 x).toNat := ⟨_, rfl⟩
  have h : x % 4294967296 = (n : Int) := by rw [hn, ofInt_mod]
  rw [← hn]
  rcases (show k = 0 ∨ k = 1 ∨ k = 2 ∨ k = 3 from by omega) with rfl | rfl | rfl | rfl
  · exact ⟨_, rfl, by simp only [UInt8.toNat_ofNat']; omega⟩
  · exact ⟨_, rfl, by simp only [UInt8.toNat_ofNat']; omega⟩
  · exact ⟨_, rfl, by simp only [UInt8.toNat_ofNat']; omega⟩
  · exact ⟨_, rfl, by simp only [UInt8.toNat_ofNat']; omega⟩

theorem cc_many (A : Option Addr) (n c : Nat) (s h : Int) (w : World) (hn : 2000 < n) :
    Calls Try.prog 5 #[.slice A n c, .int .i64 s, .int .i64 h] w fun e w' => e = .returned (.bool true) ∧ Below w.heap.size w w' := by
  go_enter Try.func5, Try.ntmps5
  go_wp2_with (first | (go_at_call 8; refine (wakes_any _).mono ?_; rintro e w6 ⟨rfl, hb7⟩))
  go_ret
  exact ⟨rfl, hb7⟩

set_option maxRecDepth 100000 in
set_option maxHeartbeats 1000000 in
theorem cc_all (A : Option Addr) (n c : Nat) (l : List UInt8) (s ch : Int) (w : World) (ha : Rd w w.heap.size A n (cB l)) (hn : n ≤ 2000) :
    Calls Try.prog 5 #[.slice A n c, .int .i64 s, .int .i64 ch] w fun e w' => e = .returned (.bool true) ∧ Below w.heap.size w w' := by
  obtain ⟨i0, hi, hz0, hz1, hz2⟩ := info_parts Try.info5
  obtain ⟨S, hS⟩ : ∃ S, S = BitVec.ofInt 32 s := ⟨_, rfl⟩
  obtain ⟨H, hH⟩ : ∃ H, H = BitVec.ofInt 32 ch := ⟨_, rfl⟩
  obtain ⟨X, hX⟩ : ∃ X, X = closeB l S := ⟨_, rfl⟩
  obtain ⟨V, hV⟩ : ∃ V, V = S.toNat := ⟨_, rfl⟩
  have m1 : bits BinOp.and IntKind.i64 s 4294967295 = (V : Int) := by rw [mask_i64, hV, hS]
  have hsum1 : sumB (l ++ bytesOf X.toNat) = S := by rw [hX]; exact close_exact l S
  have hsum2 : sumB (l ++ bytesOf (X ^^^ H).toNat) = S ^^^ steps 32 H := by rw [hX]; exact close_sum l S H
  have hclose := close_any A n c w.heap.size l s w ha (Nat.le_refl _) (by omega)
  rw [← hS, ← hX] at hclose
  have hX4 : bytes4 X = bytesOf X.toNat := rfl
  rw [hX4] at hclose
  have HC := Lib.hid hclose
  have HS1 := Lib.hid hsum1; have HS2 := Lib.hid hsum2; have HV := Lib.hid hV; have HH := Lib.hid hH
  clear hclose hS hH hX hV hsum1 hsum2 hX4
  go_enter Try.func5, Try.ntmps5
  go_wp2_with fail
  refine HC.out.mono ?_
  rintro e w1 ⟨A1, rfl, hr1, hb1⟩
  have ha1 := ha.below hb1
  have hb3 : Below w1.heap.size w1 (w1.alloc (.cells #[] 5)) := (Below.refl _ _).alloc (Nat.le_refl _) _
  go_wp2_with (first
    | (at_builtin
       refine wpList_app_rd_g _ rfl (.tmp 21) (.tmp 22) 22 rfl w1.heap.size 5 i0 _ 1 Try.underlying22 hi hz0 hz1 hz2 rfl _ 0 [] rfl (own_empty w1 5) w.heap.size A n c (cB l) rfl (ha1.below (hb3.mono hb1.size)) (one_cB _) (by unfold maxLen; omega) (by omega) hb3.size w1 hb3 ?_
       intro A3 c3 w3 hc3 hown3 hb4
       simp only [Nat.zero_add, List.nil_append] at hown3 hc3)
    | (at_builtin
       refine wpList_app_rd_g _ rfl (.tmp 23) (.tmp 24) 22 rfl w1.heap.size 5 i0 _ 1 Try.underlying22 hi hz0 hz1 hz2 rfl _ n (cB l) rfl hown3 w1.heap.size A1 4 4 (cB (bytesOf X.toNat)) rfl (hr1.below hb4) (one_cB _) (by unfold maxLen; omega) (by omega) hb4.size w1 hb4 ?_
       intro A4 c4 w4 hc4 hown4 hb5))
  have hs4 : Rd w4 w4.heap.size A4 (n + 4) (cB (l ++ bytesOf X.toNat)) := by
    have := Rd.of_own hown4
    simpa [cB] using this
  refine (sum_lit A4 (n + 4) c4 _ _ (V : Int) w4 (by rw [HS1.out, HV.out]) hs4 (Nat.le_refl _) (by omega)).mono ?_
  rintro e w5 ⟨rfl, hb6⟩
  have k5 : Below w1.heap.size w1 w5 := hb5.trans (hb6.mono hb5.size)
  have hz1' : w.heap.size ≤ w1.heap.size := hb1.size
  clear hown3 hown4 hs4 hb4 hb3 ha hc3 hc4 hb5 hb6
  have ha5 := ha1.below (k5.mono hz1')
  have hr5 := hr1.below k5
  have k6 : Below w1.heap.size w1 (w5.alloc (.cells #[] 5)) := k5.alloc k5.size _
  have hown5 : (w5.alloc (.cells #[] 5)).ownsRow w1.heap.size 5 1 (.slice (some ⟨w5.heap.size, 0, none⟩) 0 0) 0 [] := World.ownsRow_made w5 #[] 0 k5.size (Nat.zero_le _) rfl
  have ha6 := ha1.below (k6.mono hz1')
  have HR := Lib.hid hr1
  clear ha1 hr1 ha5 hr5
  go_wp2_with (at_builtin
               refine wpList_app_rd _ rfl (.tmp 31) (.tmp 32) 22 rfl w1.heap.size 5 i0 _ 1 Try.underlying22 hi hz0 hz1 hz2 rfl _ 0 [] rfl hown5 w.heap.size A n c (cB l) rfl ha6 (one_cB _) (by unfold maxLen; omega) (by omega) k6.size w1 k6 ?_
               intro A7 c7 w7 hc7 hown7 k7
               simp only [Nat.zero_add, List.nil_append] at hown7 hc7)
  clear ha6 hown5 hn
  have hnn : n ≤ 2000 := by omega
  go_loopw [8, 9] (fun out i wr => ∃ (k : Nat) (A' : Option Addr) (c' : Nat), k ≤ 4 ∧ i = .int .i64 k ∧ out = .slice A' (n + k) c' ∧ wr.ownsRow w1.heap.size 5 1 (.slice A' (n + k) c') (n + k) (cB (l ++ (bytesOf (X ^^^ H).toNat).take k)) ∧ Below w1.heap.size w1 wr) (fun _ i _ => 4 - (intOf i).toNat)
  case atStart => exact ⟨0, A7, c7, by omega, rfl, rfl, by simpa using hown7, k7⟩
  case round =>
    obtain ⟨k, A', c', hk, rfl, rfl, hown, hnx⟩ := hrel
    clear hown7 k7
    by_cases hk4 : k < 4
    · have hr8 := HR.out.below hnx
      obtain ⟨ad, u, rfl, had, hu, hc⟩ := hr8.at_ hk4
      simp only [cB, List.getElem?_map] at hu
      obtain ⟨b, hb, rfl⟩ := Option.map_eq_some_iff.1 hu
      obtain ⟨h, hh1, hh2⟩ := shift_byte ch k hk4
      obtain ⟨bn, hbn⟩ : ∃ bn, bn = b.toNat := ⟨_, rfl⟩
      obtain ⟨hn, hhn⟩ : ∃ hn, hn = h.toNat := ⟨_, rfl⟩
      obtain ⟨dn, hdn⟩ : ∃ dn, dn = (b ^^^ h).toNat := ⟨_, rfl⟩
      have g1 : bn < 256 := by rw [hbn]; exact b.toNat_lt
      have g2 : hn < 256 := by rw [hhn]; exact h.toNat_lt
      have g3 : dn < 256 := by rw [hdn]; exact (b ^^^ h).toNat_lt
      have e1 : ch / 2 ^ (8 * k) % 256 = (hn : Int) := by rw [hh2, hhn]
      have e2 : bits BinOp.xor IntKind.u8 (bn : Int) (hn : Int) = (dn : Int) := by rw [hbn, hhn, hdn]; exact byte_u8 b h
      rw [← hbn] at hc
      have hx : (bytesOf (X ^^^ H).toNat)[k]? = some (b ^^^ h) := by
        rw [← xor_bytes, List.getElem?_zipWith, hb, HH.out, hh1]
      have HX := Lib.hid hx; have HD := Lib.hid hdn
      have hnew := Rd.new wr 5 [Value.int .u8 (dn : Int)]
      have HNW := Lib.hid hnew
      clear hr8 hb hh1 hh2 hbn hhn hdn hx hnew hu
      go_wp2_with (at_builtin
                   refine wpList_app_rd _ rfl (.tmp 38) (.tmp 50) 22 rfl w1.heap.size 5 i0 _ 1 Try.underlying22 hi hz0 hz1 hz2 rfl _ (n + k) _ rfl (hown.alloc _) _ _ 1 1 [Value.int .u8 (dn : Int)] rfl HNW.out (by intro u hu; simp at hu; subst hu; rfl) (by unfold maxLen; omega) (by omega) (by have := hnx.size; simp; omega) w1 (hnx.alloc hnx.size _) ?_
                   intro A9 c9 w9 hc9 hown9 hb9)
      clear hown hnx
      go_roundw
      case rel =>
        refine ⟨k + 1, A9, c9, by omega, by go_num, rfl, ?_, hb9⟩
        rw [List.take_add_one, HX.out]
        rw [HD.out] at hown9
        simpa [cB, Nat.add_assoc] using hown9
      case measure => simp [intOf]; omega
    · have hk4' : k = 4 := by omega
      have hle : (bytesOf (X ^^^ H).toNat).length = 4 := rfl
      have et : (bytesOf (X ^^^ H).toNat).take k = bytesOf (X ^^^ H).toNat := List.take_of_length_le (by omega)
      rw [et] at hown
      have hrd := Rd.of_own hown
      obtain ⟨Z, hZ⟩ : ∃ Z, Z = (S ^^^ steps 32 H).toNat := ⟨_, rfl⟩
      obtain ⟨Hn, hHn⟩ : ∃ Hn, Hn = H.toNat := ⟨_, rfl⟩
      have hs := sum_lit A' (n + k) c' _ _ (Z : Int) wr (by rw [HS2.out, hZ]) hrd (Nat.le_refl _) (by omega)
      have m2 : bits BinOp.and IntKind.i64 ch 4294967295 = (Hn : Int) := by rw [mask_i64, hHn, HH.out]
      have hiff : (Z = V ∧ Hn = 0) ∨ (Z ≠ V ∧ 0 < Hn) := by
        by_cases h0 : H = 0#32
        · left
          refine ⟨?_, by rw [hHn, h0]; rfl⟩
          rw [hZ, HV.out, h0, steps_zero, BitVec.xor_zero]
        · right
          refine ⟨fun e => ?_, ?_⟩
          · rw [hZ, HV.out] at e
            exact xor_ne S (steps 32 H) (steps_ne 32 H h0) (BitVec.eq_of_toNat_eq e)
          · rw [hHn]
            rcases Nat.eq_zero_or_pos H.toNat with e | e
            · exact absurd (BitVec.eq_of_toNat_eq (by rw [e]; rfl)) h0
            · exact e
      have HSS := Lib.hid hs
      clear hs hrd hown et hZ hHn hle hk4'
      rcases hiff with ⟨rfl, rfl⟩ | ⟨hne, hpos⟩
      · go_wp2_with fail
        refine HSS.out.mono ?_
        rintro e w10 ⟨rfl, hb10⟩
        go_wp2_with fail
        refine (wakes_any _).mono ?_
        rintro e w11 ⟨rfl, hb11⟩
        go_wp2
        go_ret
        have k10 := hnx.trans (hb10.mono hnx.size)
        have k11 := k10.trans (hb11.mono k10.size)
        exact ⟨rfl, hb1.trans (k11.mono hb1.size)⟩
      · have t1 : ((Z : Int) == (V : Int)) = false := by rw [beq_eq_false_iff_ne]; omega
        have t2 : ((Hn : Int) == 0) = false := by rw [beq_eq_false_iff_ne]; omega
        go_wp2_with fail
        refine HSS.out.mono ?_
        rintro e w10 ⟨rfl, hb10⟩
        go_wp2_with fail
        refine (wakes_any _).mono ?_
        rintro e w11 ⟨rfl, hb11⟩
        go_wp2
        go_ret
        have k10 := hnx.trans (hb10.mono hnx.size)
        have k11 := k10.trans (hb11.mono k10.size)
        exact ⟨rfl, hb1.trans (k11.mono hb1.size)⟩

theorem cc_any (A : Option Addr) (n c : Nat) (l : List UInt8) (s ch : Int) (w : World) (ha : Rd w w.heap.size A n (cB l)) :
    Calls Try.prog 5 #[.slice A n c, .int .i64 s, .int .i64 ch] w fun e w' => e = .returned (.bool true) ∧ Below w.heap.size w w' := by
  by_cases h : n ≤ 2000
  · exact cc_all A n c l s ch w ha h
  · exact cc_many A n c s ch w (by omega)

end Go.Proofs.Ytbiclekpkijknaa
