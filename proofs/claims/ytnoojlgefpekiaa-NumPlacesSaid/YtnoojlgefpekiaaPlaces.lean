/-
  The walk of breakwaterlaw01.NumPlaces.
-/
import Derived.Test.YtnoojlgefpekiaaNumD
import Derived.Test.YtnoojlgefpekiaaApp
import Derived.Test.YtnoojlgefpekiaaJoins
namespace Go.Proofs.Ytnoojlgefpekiaa
open Go.RowKit

/-- []byte(s) reads as the bytes of s -/
theorem Rd.str (w : World) (s : ByteArray) (cap m : Nat) :
    Rd (w.alloc (.cells (bytesRow s cap) 5 (m, m + 1))).drew (w.heap.size + 1) (some ⟨w.heap.size, 0, none⟩) s.size (cB s.data.toList) := by
  refine ⟨by simp [cB], fun _ => ⟨_, rfl, by simp, fun j u hu => ?_⟩⟩
  have e : (⟨w.heap.size, 0, none⟩ : Addr).add j = ⟨w.heap.size, j, none⟩ := by unfold Addr.add; split <;> simp_all
  have hj : j < s.data.size := by
    have := (List.getElem?_eq_some_iff.1 hu).1
    simpa [cB] using this
  have hh : (w.alloc (.cells (bytesRow s cap) 5 (m, m + 1))).drew.heap[w.heap.size]? = some (.cells (bytesRow s cap) 5 (m, m + 1)) := heap_alloc_new w _
  rw [e, cell_of_row _ _ _ _ _ _ hh]
  simp [cB] at hu
  rw [bytesRow, Array.getElem?_append_left (by simpa using hj)]
  simp [hu]

/-- the bytes of the number i in what was put -/
theorem put_win (a b : List UInt8) (zs : List Int) (wd i : Nat) (z : Int) (h : zs[i]? = some z) :
    ((a ++ putL wd zs ++ b).drop (a.length + i * wd)).take wd = bytesN wd z.toNat := by
  have hi : i < zs.length := (List.getElem?_eq_some_iff.1 h).1
  have e : zs = zs.take i ++ z :: zs.drop (i + 1) := by
    have hz : zs[i] = z := (List.getElem?_eq_some_iff.1 h).2
    rw [← hz, ← List.drop_eq_getElem_cons hi, List.take_append_drop]
  have e1 : putL wd zs = putL wd (zs.take i) ++ (bytesN wd z.toNat ++ putL wd (zs.drop (i + 1))) := by
    conv => lhs; rw [e]
    simp [putL]
  have hl : (a ++ putL wd (zs.take i)).length = a.length + i * wd := by
    rw [List.length_append, length_putL, List.length_take, Nat.min_eq_left (by omega), Nat.mul_comm]
  have e2 : a ++ putL wd zs ++ b = (a ++ putL wd (zs.take i)) ++ (bytesN wd z.toNat ++ (putL wd (zs.drop (i + 1)) ++ b)) := by
    rw [e1]; simp only [List.append_assoc]
  rw [e2, ← hl, List.drop_left]
  have hb := length_bytesN wd z.toNat
  exact List.take_left' hb

/-- a number that fits is the number of its bytes -/
theorem leval_fits (wd : Nat) (z : Int) (h1 : 1 ≤ wd) (h6 : wd ≤ 6) (h : fitsB z wd = true) : leval (bytesN wd z.toNat) = z.toNat ∧ z.toNat ≤ 1099511627776 ∧ 0 ≤ z := by
  have hf : 0 ≤ z ∧ z ≤ (mostN wd : Nat) := by simpa [fitsB] using h
  have a1 := mostN_lt wd h1 h6
  have a2 := mostN_le wd h1 h6
  refine ⟨?_, by omega, hf.1⟩
  rw [leval_bytesN, Nat.mod_eq_of_lt (by omega)]

/-- Get where the number is known -/
theorem get_val (s : ByteArray) (p : Int) (wd v : Nat) (w : World) (h1 : 1 ≤ wd) (h6 : wd ≤ 6) (hs : s.size ≤ maxLen) (h0 : 0 ≤ p) (h : p.toNat + wd ≤ s.size) (hv : leval (win s p.toNat wd) = v) (hle : v ≤ 1099511627776) :
    Calls Try.prog 13 #[.string s, .int .i64 p, .int .i64 (wd : Int)] w fun e w' => e = .returned (.tuple #[.int .i64 (v : Int), .int .i64 0]) ∧ w = w' := by
  obtain ⟨q, rfl⟩ := Int.eq_ofNat_of_zero_le h0
  subst hv
  refine (get_any s q wd w h1 h6 hs (by simpa using h)).mono fun e w' ⟨he, hw⟩ => ⟨?_, hw⟩
  rw [he]
  simp only [Int.toNat_natCast] at hle ⊢
  rw [if_pos hle, if_pos hle]

set_option maxRecDepth 100000 in
set_option maxHeartbeats 800000 in
theorem np_ok (s t : ByteArray) (A : Option Addr) (l cl wd : Nat) (zs : List Int) (w : World) (hl : Rd w w.heap.size A l (cI zs)) (h1 : 1 ≤ wd) (h6 : wd ≤ 6) (hs : s.size ≤ 200) (ht : t.size ≤ 200) (hl2 : l ≤ 200)
    (fl : zs.all (fitsB · wd) = true) :
    Calls Try.prog 3 #[.string s, .string t, .int .i64 (wd : Int), .slice A l cl] w fun e w' => e = .returned (.bool true) ∧ Below w.heap.size w w' := by
  have FL := Lib.hid fl; clear fl
  have hcv := fun W => run_bytes_of_string (P := Try.prog) W 9 24 5 s Try.underlying9 Try.underlying24 Try.underlying5
  go_enter Try.func3, Try.ntmps3
  go_wp2_with fail
  have hb0 : Below w.heap.size w (w.alloc (Obj.cells (bytesRow s (grownCap w s.size 0 5)) 5 ((bytesRow s (grownCap w s.size 0 5)).size, (bytesRow s (grownCap w s.size 0 5)).size + 1))).drew :=
    ((Below.refl _ _).alloc (Nat.le_refl _) _).drew
  refine (put_ok _ _ _ _ _ _ _ s.data.toList zs _ h1 h6 (by omega) (by omega) ((Rd.str w s _ _).more (by simp)) ((hl.below hb0).more (by simp)) FL.out).mono ?_
  rintro e w1 ⟨A1, n1, c1, rfl, hnc, hr, hb1⟩
  have hb : Below w.heap.size w w1 := hb0.trans (hb1.mono (by simp))
  have hlr := hl.below hb
  clear hb0 hb1 hcv
  have hst := run_str c1 hr
  have hn1 : n1 = s.size + wd * l := by
    rw [← hr.1, ← hl.1]; simp [cB, cI, length_putL]
  have hll : zs.length = l := by simpa [cI] using hl.1
  obtain ⟨X, hX⟩ : ∃ X : ByteArray, X = ⟨(s.data.toList ++ putL wd zs).toArray⟩ := ⟨_, rfl⟩
  rw [← hX] at hst
  have hXs : X.size = n1 := by
    rw [hX, ← hr.1]
    show (s.data.toList ++ putL wd zs).toArray.size = _
    simp [cB]
  have hwl : wd * l ≤ 1200 := Nat.le_trans (Nat.mul_le_mul h6 hl2) (by omega)
  have HX := Lib.hid hX; have HXS := Lib.hid hXs; have HN := Lib.hid hn1; have HL := Lib.hid hll
  have b1 : X.size ≤ 1400 := by omega
  have b2 : n1 ≤ 1400 := by omega
  clear hX hXs hn1 hll hr hl
  have hYs : (X ++ t).size = X.size + t.size := ByteArray.size_append
  have hYm : (X ++ t).size ≤ maxLen := by unfold maxLen; omega
  have HYS := Lib.hid hYs; have HYM := Lib.hid hYm; clear hYs hYm
  have hYd : ∀ i z, zs[i]? = some z → win (X ++ t) (s.size + i * wd) wd = bytesN wd z.toNat := by
    intro i z hz
    have e : (X ++ t).data.toList = s.data.toList ++ putL wd zs ++ t.data.toList := by rw [ByteArray.data_append, HX.out]; simp
    have := put_win s.data.toList t.data.toList zs wd i z hz
    unfold win
    rw [e]
    have e2 : s.data.toList.length = s.size := by simp
    rw [e2] at this
    exact this
  have HYD := Lib.hid hYd; clear hYd
  go_wp2_with fail
  go_loop [12] (fun i => ∃ k : Nat, k ≤ l ∧ i = .int .i64 k) (fun i => l - (intOf i).toNat)
  case atStart => exact ⟨0, Nat.zero_le _, rfl⟩
  case round =>
    obtain ⟨k, hk, rfl⟩ := hrel
    by_cases hkl : k < l
    · obtain ⟨ad, z, rfl, had, hz, hc⟩ := hlr.int hkl
      have hfz : fitsB z wd = true := by
        have := List.all_eq_true.1 FL.out z (List.mem_of_getElem? hz)
        simpa using this
      obtain ⟨lv1, lv2, lv3⟩ := leval_fits wd z h1 h6 hfz
      obtain ⟨zn, rfl⟩ := Int.eq_ofNat_of_zero_le lv3
      simp only [Int.toNat_natCast] at lv1 lv2
      have hw1 := HYD.out k _ hz
      simp only [Int.toNat_natCast] at hw1
      have hkw : k * wd + wd ≤ wd * l := by
        have : wd * (k + 1) ≤ wd * l := Nat.mul_le_mul (Nat.le_refl _) hkl
        rw [Nat.mul_succ, Nat.mul_comm wd k] at this; exact this
      have q0 : 0 ≤ (k : Int) * (wd : Int) := by rw [← Int.natCast_mul]; omega
      have q1 : (k : Int) * (wd : Int) ≤ 1200 := by rw [← Int.natCast_mul]; omega
      have e1 : ((s.size : Int) + (k : Int) * (wd : Int)).toNat = s.size + k * wd := by rw [← Int.natCast_mul]; omega
      have hget := fun W => get_val (X ++ t) ((s.size : Int) + (k : Int) * (wd : Int)) wd zn W h1 h6 HYM.out (by omega) (by rw [e1, HYS.out, HXS.out, HN.out]; omega) (by rw [e1, hw1, lv1]) lv2
      have HG := Lib.hid hget
      clear hget e1 hkw hw1 lv1 hz hfz
      go_wp2_with (first | (go_at_call 13; refine (HG.out _).mono ?_; rintro e w' ⟨rfl, rfl⟩))
      go_round
      case rel => exact ⟨k + 1, by omega, by go_num⟩
      case measure => simp [intOf]; omega
    · clear hlr
      have hsh : (n1 : Int) - (wd : Int) + 1 < 0 ∨ (X.size : Int) < (n1 : Int) - (wd : Int) + 1 + (wd : Int) := by have := HXS.out; omega
      have HSH := Lib.hid hsh; clear hsh
      have g1 : (1 : Int) ≤ (wd : Int) := by omega
      have g6 : (wd : Int) ≤ 6 := by omega
      have q0 : 0 ≤ (wd : Int) * (l : Int) := by rw [← Int.natCast_mul]; omega
      have q1 : (wd : Int) * (l : Int) ≤ 1200 := by rw [← Int.natCast_mul]; omega
      have q2 : ((n1 : Int) == (s.size : Int) + (wd : Int) * (l : Int)) = true := by rw [beq_iff_eq, ← Int.natCast_mul, HN.out]; omega
      have b3 : s.size ≤ X.size := by have := HXS.out; have := HN.out; omega
      have hex := (show ((X ++ t).extract 0 s.size).toList = s.toList by
        have e : (X ++ t).extract 0 s.size = s := by
          apply ByteArray.ext
          apply Array.toList_inj.1
          rw [Lib.extract_data, ByteArray.data_append, HX.out]
          simp only [List.drop_zero, Nat.sub_zero, Array.toList_append, List.append_assoc]
          exact List.take_left' (by simp)
        rw [e])
      go_wp2_with (first
        | (go_at_call 13; refine (get_short _ _ _ _ g1 g6 HSH.out).mono ?_; rintro e w' ⟨rfl, rfl⟩)
        | (go_at_call 11; refine (wakes_any _).mono ?_; rintro e w6 ⟨rfl, hb7⟩))
      go_ret
      exact ⟨rfl, hb.trans (hb7.mono hb.size)⟩

set_option maxRecDepth 100000 in
set_option maxHeartbeats 400000 in
theorem np_bad (s t : ByteArray) (A : Option Addr) (l cl : Nat) (x : Int) (zs : List Int) (w : World) (hl : Rd w w.heap.size A l (cI zs)) (hs : s.size ≤ 200) (ht : t.size ≤ 200) (hl2 : l ≤ 200)
    (h : x < 1 ∨ 6 < x ∨ zs.all (fitsB · x.toNat) = false) :
    Calls Try.prog 3 #[.string s, .string t, .int .i64 x, .slice A l cl] w fun e w' => e = .returned (.bool true) ∧ Below w.heap.size w w' := by
  have H := Lib.hid h; clear h
  have hcv := fun W => run_bytes_of_string (P := Try.prog) W 9 24 5 s Try.underlying9 Try.underlying24 Try.underlying5
  go_enter Try.func3, Try.ntmps3
  go_wp2_with fail
  have hb0 : Below w.heap.size w (w.alloc (Obj.cells (bytesRow s (grownCap w s.size 0 5)) 5 ((bytesRow s (grownCap w s.size 0 5)).size, (bytesRow s (grownCap w s.size 0 5)).size + 1))).drew :=
    ((Below.refl _ _).alloc (Nat.le_refl _) _).drew
  refine (put_fails _ _ _ _ _ _ _ s.data.toList zs _ (by omega) (by omega) ((Rd.str w s _ _).more (by simp)) ((hl.below hb0).more (by simp)) H.out).mono ?_
  rintro e w1 ⟨rfl, hb1⟩
  have hb : Below w.heap.size w w1 := hb0.trans (hb1.mono (by simp))
  clear hb0 hb1 hcv hl
  go_wp2_with (first
    | (go_at_call 11; refine (wakes_any _).mono ?_; rintro e w6 ⟨rfl, hb7⟩))
  go_ret
  exact ⟨rfl, hb.trans (hb7.mono hb.size)⟩

set_option maxRecDepth 100000 in
theorem np_many (s t : ByteArray) (A : Option Addr) (l cl : Nat) (x : Int) (w : World) (h : 200 < l ∨ 200 < s.size ∨ 200 < t.size) :
    Calls Try.prog 3 #[.string s, .string t, .int .i64 x, .slice A l cl] w fun e w' => e = .returned (.bool true) ∧ Below w.heap.size w w' := by
  by_cases hl : 200 < l
  · clear h
    go_enter Try.func3, Try.ntmps3
    go_wp2_with (first | (go_at_call 11; refine (wakes_any _).mono ?_; rintro e w6 ⟨rfl, hb7⟩))
    go_ret
    exact ⟨rfl, hb7⟩
  · by_cases hs : 200 < s.size
    · clear h
      go_enter Try.func3, Try.ntmps3
      go_wp2_with (first | (go_at_call 11; refine (wakes_any _).mono ?_; rintro e w6 ⟨rfl, hb7⟩))
      go_ret
      exact ⟨rfl, hb7⟩
    · have ht : 200 < t.size := by omega
      clear h
      go_enter Try.func3, Try.ntmps3
      go_wp2_with (first | (go_at_call 11; refine (wakes_any _).mono ?_; rintro e w6 ⟨rfl, hb7⟩))
      go_ret
      exact ⟨rfl, hb7⟩

theorem np_any (s t : ByteArray) (A : Option Addr) (l cl : Nat) (x : Int) (zs : List Int) (w : World) (hl : Rd w w.heap.size A l (cI zs)) :
    Calls Try.prog 3 #[.string s, .string t, .int .i64 x, .slice A l cl] w fun e w' => e = .returned (.bool true) ∧ Below w.heap.size w w' := by
  by_cases hq : l ≤ 200 ∧ s.size ≤ 200 ∧ t.size ≤ 200
  · by_cases h : x < 1 ∨ 6 < x ∨ zs.all (fitsB · x.toNat) = false
    · exact np_bad _ _ _ _ _ x zs w hl hq.2.1 hq.2.2 hq.1 h
    · obtain ⟨wd, rfl⟩ := Int.eq_ofNat_of_zero_le (show 0 ≤ x by omega)
      have hf : zs.all (fitsB · wd) = true := by
        have : ¬ zs.all (fitsB · wd) = false := fun hh => h (.inr (.inr (by simpa using hh)))
        simpa using this
      exact np_ok _ _ _ _ _ wd zs w hl (by omega) (by omega) hq.2.1 hq.2.2 hq.1 hf
  · exact np_many _ _ _ _ _ x w (by omega)

end Go.Proofs.Ytnoojlgefpekiaa
