/-
  The contract of the reference's Put.
-/
import Derived.Test.YtnoojlgefpekiaaRefA
import Derived.Test.YtnoojlgefpekiaaNumB
import Derived.Test.YtnoojlgefpekiaaApp
namespace Go.Proofs.Ytnoojlgefpekiaa
open Go.RowKit

theorem byteN_mod (zn q : Nat) : ((byteN zn q).toNat : Int) = ((zn / 256 ^ q : Nat) : Int) % 256 := by
  simp only [byteN, UInt8.toNat_ofNat']
  omega

set_option maxHeartbeats 1000000 in
theorem rput_any (Ab Al : Option Addr) (nb cb m cl wd : Nat) (bs : List UInt8) (zs : List Int) (w : World) (h1 : 1 ≤ wd) (h6 : wd ≤ 6) (hnb : nb ≤ 10000) (hm : m ≤ 10000)
    (hb : Rd w w.heap.size Ab nb (cB bs)) (hl : Rd w w.heap.size Al m (cI zs)) :
    Calls Try.prog 15 #[.slice Ab nb cb, .int .i64 (wd : Int), .slice Al m cl] w (PutPost w bs wd zs) := by
  obtain ⟨i0, hi, hz0, hz1, hz2⟩ := info_parts Try.info5
  have hp : wd * m ≤ 60000 := Nat.le_trans (Nat.mul_le_mul h6 hm) (by omega)
  have g1 : (1 : Int) ≤ (wd : Int) := by omega
  have g6 : (wd : Int) ≤ 6 := by omega
  have gm : (0 : Int) ≤ ((mostN (wd : Int).toNat : Nat) : Int) := by omega
  go_enter Try.func15, Try.ntmps15
  go_wp2_with (first
    | (go_at_call 28; refine (rmost_yes _ _ g1 g6).mono ?_; rintro e w' ⟨rfl, rfl⟩)
    | (at_builtin
       refine wpList_app_rd _ rfl (.tmp 15) (.tmp 16) 24 rfl w.heap.size 5 i0 _ 1 Try.underlying24 hi hz0 hz1 hz2 rfl (.slice none 0 0) 0 [] rfl (World.ownsRow_nil _ _ _ _) w.heap.size Ab nb cb (cB bs) rfl hb (one_cB _) (by unfold maxLen; omega) (by omega) (Nat.le_refl _) w (Below.refl _ _) ?_
       intro A1 c1 w1 hc1 hown1 hb1
       simp only [Nat.zero_add, List.nil_append] at hown1 hc1))
  clear hb
  go_loopw [8, 9] (fun out i wr => ∃ (k n : Nat) (A : Option Addr) (c : Nat), k ≤ m ∧ i = .int .i64 k ∧ out = .slice A n c ∧ n ≤ c ∧ Hid (n = nb + wd * k) ∧
      wr.ownsRow w.heap.size 5 1 (.slice A n c) n (cB (bs ++ putL wd (zs.take k))) ∧ Below w.heap.size w wr ∧ Hid ((zs.take k).all (fitsB · wd) = true))
    (fun _ i _ => m - (intOf i).toNat)
  case atStart => exact ⟨0, nb, A1, c1, Nat.zero_le _, rfl, rfl, hc1, by simp [Hid], by simpa [putL] using hown1, hb1, by simp [Hid]⟩
  case round =>
    obtain ⟨k, n, A, c, hk, rfl, rfl, hnc, HN, hown, hnx, hall⟩ := hrel
    clear hown1 hb1
    have hlr := hl.below hnx
    by_cases hkm : k < m
    · obtain ⟨ad, z, rfl, had, hz, hc⟩ := hlr.int hkm
      have HZk := Lib.hid hz; clear hz
      by_cases hf : fitsB z wd = true
      · have hf' : 0 ≤ z ∧ z ≤ (mostN wd : Nat) := by simpa [fitsB] using hf
        obtain ⟨z0, z1⟩ := hf'
        have hfr : fitsR z (wd : Int) = true := decide_eq_true ⟨g1, g6, z0, by simpa using z1⟩
        obtain ⟨zn, rfl⟩ := Int.eq_ofNat_of_zero_le z0
        have z2 : zn ≤ 1099511627776 := by have := mostN_le wd h1 h6; omega
        have HF := Lib.hid hf; clear hf
        clear hlr hl
        have hft := fun W => rfits_gen (zn : Int) (wd : Int) W
        rw [hfr] at hft
        have HFT := Lib.hid hft; clear hft hfr
        go_wp2_with (first
          | (go_at_call 20; refine (HFT.out _).mono ?_; rintro e w' ⟨rfl, rfl⟩))
        obtain ⟨wo, rfl⟩ : ∃ wo : World, wo = wr := ⟨_, rfl⟩
        go_loopw [8, 10, 11] (fun out x j wr => ∃ (q n2 v : Nat) (A2 : Option Addr) (c2 : Nat), q ≤ wd ∧ j = .int .i64 q ∧ x = .int .i64 v ∧ Hid (v = zn / 256 ^ q) ∧ v ≤ 1099511627776 ∧ out = .slice A2 n2 c2 ∧ n2 ≤ c2 ∧ Hid (n2 = n + q) ∧
            wr.ownsRow w.heap.size 5 1 (.slice A2 n2 c2) n2 (cB (bs ++ putL wd (zs.take k) ++ (List.range q).map (byteN zn))) ∧ Below w.heap.size w wr)
          (fun _ _ j _ => wd - (intOf j).toNat)
        case atStart => exact ⟨0, n, zn, A, c, Nat.zero_le _, rfl, rfl, by simp [Hid], z2, rfl, hnc, by simp [Hid], by simpa using hown, hnx⟩
        case round =>
          obtain ⟨q, n2, v, A2, c2, hq, rfl, rfl, HV, hv, rfl, hnc2, HN2, hown2, hnx2⟩ := hrel
          clear hown hnx hc
          have hn2 : n2 ≤ 100000 := by
            have a1 := HN2.out; have a2 := HN.out
            have a4 : wd * k ≤ wd * m := Nat.mul_le_mul (Nat.le_refl _) hk
            omega
          by_cases hqw : q < wd
          · have hB : (v : Int) % 256 = ((byteN zn q).toNat : Int) := by rw [byteN_mod, HV.out]
            have HB := Lib.hid hB; clear hB
            have hnew := Rd.new wr 5 [Value.int .u8 ((v : Int) % 256)]
            have HNW := Lib.hid hnew; clear hnew
            go_wp2_with (at_builtin
                         refine wpList_app_rd _ rfl (.tmp 40) (.tmp 44) 24 rfl w.heap.size 5 i0 _ 1 Try.underlying24 hi hz0 hz1 hz2 rfl _ n2 _ rfl (hown2.alloc _) _ _ 1 1 [Value.int .u8 ((v : Int) % 256)] rfl HNW.out (by intro u hu; simp at hu; subst hu; rfl) (by unfold maxLen; omega) (by omega) (by have := hnx2.size; simp; omega) w (hnx2.alloc hnx2.size _) ?_
                         intro A3 c3 w3 hc3 hown3 hb3)
            clear hown2 hnx2
            go_roundw
            case rel =>
              refine ⟨q + 1, n2 + 1, v / 256, A3, c3, by omega, by go_num, by go_num, ?_, by omega, rfl, hc3, ?_, ?_, hb3⟩
              · have := HV.out
                simp only [Hid]
                rw [this, Nat.div_div_eq_div_mul, Nat.pow_succ]
              · have := HN2.out; simp only [Hid]; omega
              · rw [HB.out] at hown3
                simpa [cB, List.range_succ] using hown3
            case measure => simp [intOf]; omega
          · have hqe : q = wd := by omega
            have HE := Lib.hid hqe; clear hqe
            go_wp2
            go_roundw
            case rel =>
              refine ⟨k + 1, n2, A2, c2, by omega, by go_num, rfl, hnc2, ?_, ?_, hnx2, ?_⟩
              · have a1 := HN2.out; have a2 := HN.out; have a3 := HE.out
                simp only [Hid, Nat.mul_succ]; omega
              · have e : zs.take (k + 1) = zs.take k ++ [(zn : Int)] := by rw [List.take_add_one, HZk.out]; rfl
                have e2 : bytesN wd ((zn : Int)).toNat = (List.range q).map (byteN zn) := by rw [HE.out]; rfl
                rw [e, putL_snoc, e2, ← List.append_assoc]
                exact hown2
              · have e : zs.take (k + 1) = zs.take k ++ [(zn : Int)] := by rw [List.take_add_one, HZk.out]; rfl
                show (List.all (zs.take (k + 1)) _) = true
                rw [e, List.all_append, hall.out]
                simpa using HF.out
            case measure => simp [intOf]; omega
      · have hfr : fitsR z (wd : Int) = false := decide_eq_false (fun h => hf (by simpa [fitsB] using h.2.2))
        have hft := fun W => rfits_gen z (wd : Int) W
        rw [hfr] at hft
        have HFT := Lib.hid hft; clear hft hfr
        have HF := Lib.hid hf; clear hf
        have hnx' := hnx
        clear hlr hl hnx hown
        go_wp2_with (first
          | (go_at_call 20; refine (HFT.out _).mono ?_; rintro e w' ⟨rfl, rfl⟩))
        go_ret2
        refine .inr ⟨?_, rfl, hnx'⟩
        rw [List.all_eq_false]
        exact ⟨z, List.mem_of_getElem? HZk.out, HF.out⟩
    · have hke : k = m := by omega
      have HE := Lib.hid hke; clear hke
      have hlen : zs.length = m := by simpa [cI] using hl.1
      have HL := Lib.hid hlen; clear hlen
      clear hlr hl
      go_wp2
      go_ret2
      have e : zs.take k = zs := List.take_of_length_le (by rw [HE.out, HL.out]; exact Nat.le_refl _)
      refine .inl ⟨by rw [← e]; exact hall.out, _, _, _, rfl, hnc, ?_, hnx⟩
      rw [e] at hown
      exact Rd.of_own hown

theorem rput_width (b l : Value) (x : Int) (w : World) (h : x < 1 ∨ 6 < x) :
    Calls Try.prog 15 #[b, .int .i64 x, l] w fun e w' => e = .returned (.tuple #[.slice none 0 0, .int .i64 2]) ∧ w = w' := by
  go_enter Try.func15, Try.ntmps15
  go_wp2_with (first
    | (go_at_call 28; refine (rmost_no _ _ h).mono ?_; rintro e w' ⟨rfl, rfl⟩))
  go_ret2
  exact ⟨rfl, rfl⟩

/-- what putting comes to: the bytes and the error -/
def putR (bs : List UInt8) (x : Int) (zs : List Int) : List UInt8 × Int :=
  if 1 ≤ x ∧ x ≤ 6 ∧ zs.all (fitsB · x.toNat) = true then (bs ++ putL x.toNat zs, 0) else ([], 2)

/-- the one contract for both Puts -/
def PutGen (bs : List UInt8) (x : Int) (zs : List Int) (w : World) (e : Ending) (w' : World) : Prop :=
  ∃ A n c, e = .returned (.tuple #[.slice A n c, .int .i64 (putR bs x zs).2]) ∧ n ≤ c ∧ Rd w' w'.heap.size A n (cB (putR bs x zs).1) ∧ Below w.heap.size w w'

theorem gen_of_post (bs : List UInt8) (wd : Nat) (zs : List Int) (h1 : 1 ≤ wd) (h6 : wd ≤ 6) (w w' : World) (e : Ending) (h : PutPost w bs wd zs e w') : PutGen bs (wd : Int) zs w e w' := by
  rcases h with ⟨hf, A, n, c, rfl, hnc, hr, hb⟩ | ⟨hf, rfl, hb⟩
  · have e1 : putR bs (wd : Int) zs = (bs ++ putL wd zs, 0) := by
      unfold putR; rw [if_pos ⟨by omega, by omega, by simpa using hf⟩]; simp
    refine ⟨A, n, c, ?_, hnc, ?_, hb⟩ <;> rw [e1]
    exact hr
  · have e1 : putR bs (wd : Int) zs = ([], 2) := by
      unfold putR; rw [if_neg (fun hh => by have := hh.2.2; rw [Int.toNat_natCast, hf] at this; cases this)]
    refine ⟨none, 0, 0, ?_, Nat.le_refl _, ?_, hb⟩ <;> rw [e1]
    exact Rd.nil

theorem gen_width (bs : List UInt8) (x : Int) (zs : List Int) (h : x < 1 ∨ 6 < x) (w w' : World) (e : Ending) (hh : e = .returned (.tuple #[.slice none 0 0, .int .i64 2]) ∧ w = w') : PutGen bs x zs w e w' := by
  obtain ⟨rfl, rfl⟩ := hh
  have e1 : putR bs x zs = ([], 2) := by unfold putR; rw [if_neg (by omega)]
  refine ⟨none, 0, 0, ?_, Nat.le_refl _, ?_, Below.refl _ _⟩ <;> rw [e1]
  exact Rd.nil

theorem put_gen (Ab Al : Option Addr) (nb cb m cl : Nat) (x : Int) (bs : List UInt8) (zs : List Int) (w : World) (hnb : nb ≤ 10000) (hm : m ≤ 10000)
    (hb : Rd w w.heap.size Ab nb (cB bs)) (hl : Rd w w.heap.size Al m (cI zs)) :
    Calls Try.prog 12 #[.slice Ab nb cb, .int .i64 x, .slice Al m cl] w (PutGen bs x zs w) := by
  by_cases hx : x < 1 ∨ 6 < x
  · exact (put_width _ _ x _ hx).mono fun e w' h => gen_width bs x zs hx w w' e h
  · obtain ⟨wd, rfl⟩ := Int.eq_ofNat_of_zero_le (show 0 ≤ x by omega)
    exact (put_any _ _ _ _ _ _ wd bs zs w (by omega) (by omega) hnb hm hb hl).mono fun e w' h => gen_of_post bs wd zs (by omega) (by omega) w w' e h

theorem rput_gen (Ab Al : Option Addr) (nb cb m cl : Nat) (x : Int) (bs : List UInt8) (zs : List Int) (w : World) (hnb : nb ≤ 10000) (hm : m ≤ 10000)
    (hb : Rd w w.heap.size Ab nb (cB bs)) (hl : Rd w w.heap.size Al m (cI zs)) :
    Calls Try.prog 15 #[.slice Ab nb cb, .int .i64 x, .slice Al m cl] w (PutGen bs x zs w) := by
  by_cases hx : x < 1 ∨ 6 < x
  · exact (rput_width _ _ x _ hx).mono fun e w' h => gen_width bs x zs hx w w' e h
  · obtain ⟨wd, rfl⟩ := Int.eq_ofNat_of_zero_le (show 0 ≤ x by omega)
    exact (rput_any _ _ _ _ _ _ wd bs zs w (by omega) (by omega) hnb hm hb hl).mono fun e w' h => gen_of_post bs wd zs (by omega) (by omega) w w' e h

end Go.Proofs.Ytnoojlgefpekiaa
