/-
  The contract of the reference's Put once more: what it gives is its own.
-/
import Derived.Test.YtnoojlgefpekiaaRefB
namespace Go.Proofs.Ytnoojlgefpekiaa
open Go.RowKit

/-- as PutPost, and the slice is its own -/
def PutOwn (w : World) (bs : List UInt8) (wd : Nat) (zs : List Int) (e : Ending) (w' : World) : Prop :=
  (zs.all (fitsB · wd) = true ∧ ∃ A n c, e = .returned (.tuple #[.slice A n c, .int .i64 0]) ∧ n ≤ c ∧ w'.ownsRow w.heap.size 5 1 (.slice A n c) n (cB (bs ++ putL wd zs)) ∧ Below w.heap.size w w') ∨
  (zs.all (fitsB · wd) = false ∧ e = .returned (.tuple #[.slice none 0 0, .int .i64 2]) ∧ Below w.heap.size w w')

set_option maxHeartbeats 1000000 in
theorem rput_own (Ab Al : Option Addr) (nb cb m cl wd : Nat) (bs : List UInt8) (zs : List Int) (w : World) (h1 : 1 ≤ wd) (h6 : wd ≤ 6) (hnb : nb ≤ 10000) (hm : m ≤ 10000)
    (hb : Rd w w.heap.size Ab nb (cB bs)) (hl : Rd w w.heap.size Al m (cI zs)) :
    Calls Try.prog 15 #[.slice Ab nb cb, .int .i64 (wd : Int), .slice Al m cl] w (PutOwn w bs wd zs) := by
  obtain ⟨i0, hi, hz0, hz1, hz2⟩ := info_parts Try.info5
  have hp : wd * m ≤ 60000 := Nat.le_trans (Nat.mul_le_mul h6 hm) (by omega)
  have g1 : (1 : Int) ≤ (wd : Int) := by omega
  have g6 : (wd : Int) ≤ 6 := by omega
  have gm : (0 : Int) ≤ ((mostN (wd : Int).toNat : Nat) : Int) := by omega
  go_enter Try.func15, Try.ntmps15
  go_wp2_with (first
    | (go_at_call 28; refine (rmost_yes _ _ g1 g6).mono ?_; rintro e w' ⟨rfl, rfl⟩)
    | (at_builtin
       refine wpList_app_rd _ rfl (.tmp 15) (.tmp 16) 24 rfl w.heap.size 5 i0 _ 1 Try.underlying24 hi hz0 hz1 hz2 rfl (.slice none 0 0) 0 [] rfl (World.ownsRow_nil _ _ _ _) w.heap.size Ab nb cb (cB bs) rfl hb (one_cB _) (by unfold maxLen; omega) (by omega) (Nat.le_refl _) w (Below.refl _ _) ?_
       intro A1 c1 w1 hc1 hown1 hb1
       simp only [Nat.zero_add, List.nil_append] at hown1 hc1))
  clear hb
  go_loopw [8, 9] (fun out i wr => ∃ (k n : Nat) (A : Option Addr) (c : Nat), k ≤ m ∧ i = .int .i64 k ∧ out = .slice A n c ∧ n ≤ c ∧ Hid (n = nb + wd * k) ∧
      wr.ownsRow w.heap.size 5 1 (.slice A n c) n (cB (bs ++ putL wd (zs.take k))) ∧ Below w.heap.size w wr ∧ Hid ((zs.take k).all (fitsB · wd) = true))
    (fun _ i _ => m - (intOf i).toNat)
  case atStart => exact ⟨0, nb, A1, c1, Nat.zero_le _, rfl, rfl, hc1, by simp [Hid], by simpa [putL] using hown1, hb1, by simp [Hid]⟩
  case round =>
    obtain ⟨k, n, A, c, hk, rfl, rfl, hnc, HN, hown, hnx, hall⟩ := hrel
    clear hown1 hb1
    have hlr := hl.below hnx
    by_cases hkm : k < m
    · obtain ⟨ad, z, rfl, had, hz, hc⟩ := hlr.int hkm
      have HZk := Lib.hid hz; clear hz
      by_cases hf : fitsB z wd = true
      · have hf' : 0 ≤ z ∧ z ≤ (mostN wd : Nat) := by simpa [fitsB] using hf
        obtain ⟨z0, z1⟩ := hf'
        have hfr : fitsR z (wd : Int) = true := decide_eq_true ⟨g1, g6, z0, by simpa using z1⟩
        obtain ⟨zn, rfl⟩ := Int.eq_ofNat_of_zero_le z0
        have z2 : zn ≤ 1099511627776 := by have := mostN_le wd h1 h6; omega
        have HF := Lib.hid hf; clear hf
        clear hlr hl
        have hft := fun W => rfits_gen (zn : Int) (wd : Int) W
        rw [hfr] at hft
        have HFT := Lib.hid hft; clear hft hfr
        go_wp2_with (first
          | (go_at_call 20; refine (HFT.out _).mono ?_; rintro e w' ⟨rfl, rfl⟩))
        obtain ⟨wo, rfl⟩ : ∃ wo : World, wo = wr := ⟨_, rfl⟩
        go_loopw [8, 10, 11] (fun out x j wr => ∃ (q n2 v : Nat) (A2 : Option Addr) (c2 : Nat), q ≤ wd ∧ j = .int .i64 q ∧ x = .int .i64 v ∧ Hid (v = zn / 256 ^ q) ∧ v ≤ 1099511627776 ∧ out = .slice A2 n2 c2 ∧ n2 ≤ c2 ∧ Hid (n2 = n + q) ∧
            wr.ownsRow w.heap.size 5 1 (.slice A2 n2 c2) n2 (cB (bs ++ putL wd (zs.take k) ++ (List.range q).map (byteN zn))) ∧ Below w.heap.size w wr)
          (fun _ _ j _ => wd - (intOf j).toNat)
        case atStart => exact ⟨0, n, zn, A, c, Nat.zero_le _, rfl, rfl, by simp [Hid], z2, rfl, hnc, by simp [Hid], by simpa using hown, hnx⟩
        case round =>
          obtain ⟨q, n2, v, A2, c2, hq, rfl, rfl, HV, hv, rfl, hnc2, HN2, hown2, hnx2⟩ := hrel
          clear hown hnx hc
          have hn2 : n2 ≤ 100000 := by
            have a1 := HN2.out; have a2 := HN.out
            have a4 : wd * k ≤ wd * m := Nat.mul_le_mul (Nat.le_refl _) hk
            omega
          by_cases hqw : q < wd
          · have hB : (v : Int) % 256 = ((byteN zn q).toNat : Int) := by rw [byteN_mod, HV.out]
            have HB := Lib.hid hB; clear hB
            have hnew := Rd.new wr 5 [Value.int .u8 ((v : Int) % 256)]
            have HNW := Lib.hid hnew; clear hnew
            go_wp2_with (at_builtin
                         refine wpList_app_rd _ rfl (.tmp 40) (.tmp 44) 24 rfl w.heap.size 5 i0 _ 1 Try.underlying24 hi hz0 hz1 hz2 rfl _ n2 _ rfl (hown2.alloc _) _ _ 1 1 [Value.int .u8 ((v : Int) % 256)] rfl HNW.out (by intro u hu; simp at hu; subst hu; rfl) (by unfold maxLen; omega) (by omega) (by have := hnx2.size; simp; omega) w (hnx2.alloc hnx2.size _) ?_
                         intro A3 c3 w3 hc3 hown3 hb3)
            clear hown2 hnx2
            go_roundw
            case rel =>
              refine ⟨q + 1, n2 + 1, v / 256, A3, c3, by omega, by go_num, by go_num, ?_, by omega, rfl, hc3, ?_, ?_, hb3⟩
              · have := HV.out
                simp only [Hid]
                rw [this, Nat.div_div_eq_div_mul, Nat.pow_succ]
              · have := HN2.out; simp only [Hid]; omega
              · rw [HB.out] at hown3
                simpa [cB, List.range_succ] using hown3
            case measure => simp [intOf]; omega
          · have hqe : q = wd := by omega
            have HE := Lib.hid hqe; clear hqe
            go_wp2
            go_roundw
            case rel =>
              refine ⟨k + 1, n2, A2, c2, by omega, by go_num, rfl, hnc2, ?_, ?_, hnx2, ?_⟩
              · have a1 := HN2.out; have a2 := HN.out; have a3 := HE.out
                simp only [Hid, Nat.mul_succ]; omega
              · have e : zs.take (k + 1) = zs.take k ++ [(zn : Int)] := by rw [List.take_add_one, HZk.out]; rfl
                have e2 : bytesN wd ((zn : Int)).toNat = (List.range q).map (byteN zn) := by rw [HE.out]; rfl
                rw [e, putL_snoc, e2, ← List.append_assoc]
                exact hown2
              · have e : zs.take (k + 1) = zs.take k ++ [(zn : Int)] := by rw [List.take_add_one, HZk.out]; rfl
                show (List.all (zs.take (k + 1)) _) = true
                rw [e, List.all_append, hall.out]
                simpa using HF.out
            case measure => simp [intOf]; omega
      · have hfr : fitsR z (wd : Int) = false := decide_eq_false (fun h => hf (by simpa [fitsB] using h.2.2))
        have hft := fun W => rfits_gen z (wd : Int) W
        rw [hfr] at hft
        have HFT := Lib.hid hft; clear hft hfr
        have HF := Lib.hid hf; clear hf
        have hnx' := hnx
        clear hlr hl hnx hown
        go_wp2_with (first
          | (go_at_call 20; refine (HFT.out _).mono ?_; rintro e w' ⟨rfl, rfl⟩))
        go_ret2
        refine .inr ⟨?_, rfl, hnx'⟩
        rw [List.all_eq_false]
        exact ⟨z, List.mem_of_getElem? HZk.out, HF.out⟩
    · have hke : k = m := by omega
      have HE := Lib.hid hke; clear hke
      have hlen : zs.length = m := by simpa [cI] using hl.1
      have HL := Lib.hid hlen; clear hlen
      clear hlr hl
      go_wp2
      go_ret2
      have e : zs.take k = zs := List.take_of_length_le (by rw [HE.out, HL.out]; exact Nat.le_refl _)
      refine .inl ⟨by rw [← e]; exact hall.out, _, _, _, rfl, hnc, ?_, hnx⟩
      rw [e] at hown
      exact hown

end Go.Proofs.Ytnoojlgefpekiaa
