/-
  The walk of breakwaterlaw01.NumBack.
-/
import Derived.Test.YtnoojlgefpekiaaNumD
import Derived.Test.YtnoojlgefpekiaaNumE
import Derived.Test.YtnoojlgefpekiaaInts
import Derived.Test.YtnoojlgefpekiaaJoins
namespace Go.Proofs.Ytnoojlgefpekiaa
open Go.RowKit

/-- too much: the document's calls alone -/
theorem nb_many (s : ByteArray) (A : Option Addr) (l cl : Nat) (x : Int) (w : World) (h : 400 < l ∨ 2000 < s.size) :
    Calls Try.prog 7 #[.int .i64 x, .slice A l cl, .string s] w fun e w' => e = .returned (.bool true) ∧ Below w.heap.size w w' := by
  by_cases hl : 400 < l
  · clear h
    go_enter Try.func7, Try.ntmps7
    go_wp2_with (first | (go_at_call 11; refine (wakes_any _).mono ?_; rintro e w6 ⟨rfl, hb7⟩))
    go_ret
    exact ⟨rfl, hb7⟩
  · have hm : 2000 < s.size := by omega
    clear h
    go_enter Try.func7, Try.ntmps7
    go_wp2_with (first | (go_at_call 11; refine (wakes_any _).mono ?_; rintro e w6 ⟨rfl, hb7⟩))
    go_ret
    exact ⟨rfl, hb7⟩

theorem nb_width (s : ByteArray) (A : Option Addr) (l cl : Nat) (x : Int) (w : World) (hl : l ≤ 400) (hs : s.size ≤ 2000) (h : x < 1 ∨ 6 < x) :
    Calls Try.prog 7 #[.int .i64 x, .slice A l cl, .string s] w fun e w' => e = .returned (.bool true) ∧ Below w.heap.size w w' := by
  have H := Lib.hid h; clear h
  go_enter Try.func7, Try.ntmps7
  go_wp2_with (first
    | (go_at_call 12; refine (put_width _ _ _ _ H.out).mono ?_; rintro e w' ⟨rfl, rfl⟩)
    | (go_at_call 17; refine (row_width _ _ _ H.out).mono ?_; rintro e w' ⟨rfl, rfl⟩)
    | (go_at_call 11; refine (wakes_any _).mono ?_; rintro e w6 ⟨rfl, hb7⟩))
  go_ret
  exact ⟨rfl, hb7⟩

/-- the end of both: the text is no row of numbers -/
theorem nb_bad_bad (s : ByteArray) (A : Option Addr) (l cl wd : Nat) (zs : List Int) (w : World) (ha : Rd w w.heap.size A l (cI zs)) (h1 : 1 ≤ wd) (h6 : wd ≤ 6) (hl : l ≤ 400) (hs : s.size ≤ 2000)
    (hf : zs.all (fitsB · wd) = false) (hr : ¬ RowOk s.data.toList wd) :
    Calls Try.prog 7 #[.int .i64 (wd : Int), .slice A l cl, .string s] w fun e w' => e = .returned (.bool true) ∧ Below w.heap.size w w' := by
  have HF := Lib.hid hf; have HR := Lib.hid hr; clear hf hr
  go_enter Try.func7, Try.ntmps7
  go_wp2_with fail
  refine (put_bad none _ 0 0 _ _ _ [] zs _ h1 h6 (by decide) (by omega) Rd.nil ha HF.out).mono ?_
  rintro e w1 ⟨rfl, hb1⟩
  clear ha
  go_wp2_with (first
    | (go_at_call 17; refine (row_bad _ _ _ h1 h6 (by omega) HR.out).mono ?_; rintro e w2 ⟨rfl, hb2⟩)
    | (go_at_call 11; refine (wakes_any _).mono ?_; rintro e w6 ⟨rfl, hb7⟩))
  go_ret
  exact ⟨rfl, (hb1.trans (hb2.mono hb1.size)).trans (hb7.mono (Nat.le_trans hb1.size hb2.size))⟩

theorem nb_bad_ok (s : ByteArray) (A : Option Addr) (l cl wd : Nat) (zs : List Int) (w : World) (ha : Rd w w.heap.size A l (cI zs)) (h1 : 1 ≤ wd) (h6 : wd ≤ 6) (hl : l ≤ 400) (hs : s.size ≤ 2000)
    (hf : zs.all (fitsB · wd) = false) (hr : RowOk s.data.toList wd) :
    Calls Try.prog 7 #[.int .i64 (wd : Int), .slice A l cl, .string s] w fun e w' => e = .returned (.bool true) ∧ Below w.heap.size w w' := by
  have HF := Lib.hid hf; have HR := Lib.hid hr; clear hf hr
  go_enter Try.func7, Try.ntmps7
  go_wp2_with fail
  refine (put_bad none _ 0 0 _ _ _ [] zs _ h1 h6 (by decide) (by omega) Rd.nil ha HF.out).mono ?_
  rintro e w1 ⟨rfl, hb1⟩
  clear ha
  go_wp2_with fail
  refine (row_ok _ _ _ h1 h6 (by omega) HR.out).mono ?_
  rintro e w2 ⟨A2, n2, c2, rfl, hc2, hr2, hb2⟩
  have hn2 : n2 ≤ 2000 := by
    have := hr2.1
    simp [cI, length_rowN] at this
    have := Nat.div_le_self s.size wd
    omega
  go_wp2_with fail
  refine (put_ok none _ 0 0 _ _ _ [] _ _ h1 h6 (by decide) (by omega) Rd.nil hr2 (fits_rowN _ _ h1 h6 HR.out)).mono ?_
  rintro e w3 ⟨A3, n3, c3, rfl, hc3, hr3, hb3⟩
  have hs3 := run_str c3 hr3
  rw [List.nil_append, put_rowN_all _ _ HR.out] at hs3
  have e3 : (⟨s.data.toList.toArray⟩ : ByteArray) = s := by simp
  rw [e3] at hs3
  clear hr2 hr3 e3
  go_wp2_with (first
    | (go_at_call 11; refine (wakes_any _).mono ?_; rintro e w6 ⟨rfl, hb7⟩))
  go_ret
  exact ⟨rfl, ((hb1.trans (hb2.mono hb1.size)).trans (hb3.mono (Nat.le_trans hb1.size hb2.size))).trans (hb7.mono (Nat.le_trans (Nat.le_trans hb1.size hb2.size) hb3.size))⟩

set_option maxHeartbeats 400000 in
theorem nb_ok_bad (s : ByteArray) (A : Option Addr) (l cl wd : Nat) (zs : List Int) (w : World) (ha : Rd w w.heap.size A l (cI zs)) (h1 : 1 ≤ wd) (h6 : wd ≤ 6) (hl : l ≤ 400) (hs : s.size ≤ 2000)
    (hf : zs.all (fitsB · wd) = true) (hr : ¬ RowOk s.data.toList wd) :
    Calls Try.prog 7 #[.int .i64 (wd : Int), .slice A l cl, .string s] w fun e w' => e = .returned (.bool true) ∧ Below w.heap.size w w' := by
  have HF := Lib.hid hf; have HR := Lib.hid hr; clear hf hr
  go_enter Try.func7, Try.ntmps7
  go_wp2_with fail
  refine (put_ok none _ 0 0 _ _ _ [] zs _ h1 h6 (by decide) (by omega) Rd.nil ha HF.out).mono ?_
  rintro e w1 ⟨A1, n1, c1, rfl, hc1, hr1, hb1⟩
  have hst := run_str c1 hr1
  have hn1 : n1 = wd * l := by rw [← hr1.1, ← ha.1]; simp [cB, cI, length_putL]
  have hwl : wd * l ≤ 2400 := Nat.le_trans (Nat.mul_le_mul h6 hl) (by omega)
  rw [List.nil_append] at hst
  obtain ⟨X, hX⟩ : ∃ X : ByteArray, X = ⟨(putL wd zs).toArray⟩ := ⟨_, rfl⟩
  rw [← hX] at hst
  have hXd : X.data.toList = putL wd zs := by rw [hX]
  have hXs : X.size ≤ 2400 := by
    have : X.size = X.data.toList.length := by simp
    rw [this, hXd, length_putL]
    have : zs.length = l := by simpa [cI] using ha.1
    rw [this]; exact hwl
  obtain ⟨hX1, hX2⟩ := row_put zs wd h1 h6 HF.out
  rw [← hXd] at hX1 hX2
  have q0 : 0 ≤ (wd : Int) * (l : Int) := by rw [← Int.natCast_mul]; omega
  have q1 : (wd : Int) * (l : Int) ≤ 2400 := by rw [← Int.natCast_mul]; omega
  have q2 : ((n1 : Int) != (wd : Int) * (l : Int)) = false := by rw [bne_eq_false_iff_eq, ← Int.natCast_mul, hn1]
  have HN := Lib.hid hn1; have HX1 := Lib.hid hX1; have HX2 := Lib.hid hX2
  clear hX hXd hX1 hX2 hr1 hn1
  have b1 : n1 ≤ 2400 := by have := HN.out; omega
  go_wp2_with fail
  refine (row_ok _ _ _ h1 h6 (by omega) HX1.out).mono ?_
  rintro e w2 ⟨A2, n2, c2, rfl, hc2, hr2, hb2⟩
  rw [HX2.out] at hr2
  have hw2 : Below w.heap.size w w2 := hb1.trans (hb2.mono hb1.size)
  have ha2 := (ha.below hw2).more (hw2.size)
  have hn2 : n2 = l := by rw [← hr2.1, ← ha.1]
  subst hn2
  clear ha
  go_wp2_with fail
  refine (ints_eq _ _ _ _ _ zs _ ha2 hr2 (by omega)).mono ?_
  rintro e w3 ⟨rfl, hb3⟩
  have hw3 : Below w.heap.size w w3 := hw2.trans (hb3.mono hw2.size)
  clear ha2 hr2
  go_wp2_with (first
    | (go_at_call 17; refine (row_bad _ _ _ h1 h6 (by omega) HR.out).mono ?_; rintro e w4 ⟨rfl, hb4⟩)
    | (go_at_call 11; refine (wakes_any _).mono ?_; rintro e w6 ⟨rfl, hb7⟩))
  go_ret
  exact ⟨rfl, (hw3.trans (hb4.mono hw3.size)).trans (hb7.mono (Nat.le_trans hw3.size hb4.size))⟩

set_option maxHeartbeats 400000 in
theorem nb_ok_ok (s : ByteArray) (A : Option Addr) (l cl wd : Nat) (zs : List Int) (w : World) (ha : Rd w w.heap.size A l (cI zs)) (h1 : 1 ≤ wd) (h6 : wd ≤ 6) (hl : l ≤ 400) (hs : s.size ≤ 2000)
    (hf : zs.all (fitsB · wd) = true) (hr : RowOk s.data.toList wd) :
    Calls Try.prog 7 #[.int .i64 (wd : Int), .slice A l cl, .string s] w fun e w' => e = .returned (.bool true) ∧ Below w.heap.size w w' := by
  have HF := Lib.hid hf; have HR := Lib.hid hr; clear hf hr
  go_enter Try.func7, Try.ntmps7
  go_wp2_with fail
  refine (put_ok none _ 0 0 _ _ _ [] zs _ h1 h6 (by decide) (by omega) Rd.nil ha HF.out).mono ?_
  rintro e w1 ⟨A1, n1, c1, rfl, hc1, hr1, hb1⟩
  have hst := run_str c1 hr1
  have hn1 : n1 = wd * l := by rw [← hr1.1, ← ha.1]; simp [cB, cI, length_putL]
  have hwl : wd * l ≤ 2400 := Nat.le_trans (Nat.mul_le_mul h6 hl) (by omega)
  rw [List.nil_append] at hst
  obtain ⟨X, hX⟩ : ∃ X : ByteArray, X = ⟨(putL wd zs).toArray⟩ := ⟨_, rfl⟩
  rw [← hX] at hst
  have hXd : X.data.toList = putL wd zs := by rw [hX]
  have hXs : X.size ≤ 2400 := by
    have : X.size = X.data.toList.length := by simp
    rw [this, hXd, length_putL]
    have : zs.length = l := by simpa [cI] using ha.1
    rw [this]; exact hwl
  obtain ⟨hX1, hX2⟩ := row_put zs wd h1 h6 HF.out
  rw [← hXd] at hX1 hX2
  have q0 : 0 ≤ (wd : Int) * (l : Int) := by rw [← Int.natCast_mul]; omega
  have q1 : (wd : Int) * (l : Int) ≤ 2400 := by rw [← Int.natCast_mul]; omega
  have q2 : ((n1 : Int) != (wd : Int) * (l : Int)) = false := by rw [bne_eq_false_iff_eq, ← Int.natCast_mul, hn1]
  have HN := Lib.hid hn1; have HX1 := Lib.hid hX1; have HX2 := Lib.hid hX2
  clear hX hXd hX1 hX2 hr1 hn1
  have b1 : n1 ≤ 2400 := by have := HN.out; omega
  go_wp2_with fail
  refine (row_ok _ _ _ h1 h6 (by omega) HX1.out).mono ?_
  rintro e w2 ⟨A2, n2, c2, rfl, hc2, hr2, hb2⟩
  rw [HX2.out] at hr2
  have hw2 : Below w.heap.size w w2 := hb1.trans (hb2.mono hb1.size)
  have ha2 := (ha.below hw2).more (hw2.size)
  have hn2 : n2 = l := by rw [← hr2.1, ← ha.1]
  subst hn2
  clear ha
  go_wp2_with fail
  refine (ints_eq _ _ _ _ _ zs _ ha2 hr2 (by omega)).mono ?_
  rintro e w3 ⟨rfl, hb3⟩
  have hw3 : Below w.heap.size w w3 := hw2.trans (hb3.mono hw2.size)
  clear ha2 hr2
  go_wp2_with fail
  refine (row_ok _ _ _ h1 h6 (by omega) HR.out).mono ?_
  rintro e w4 ⟨A4, n4, c4, rfl, hc4, hr4, hb4⟩
  have hn4 : n4 ≤ 2000 := by
    have := hr4.1
    simp [cI, length_rowN] at this
    have := Nat.div_le_self s.size wd
    omega
  go_wp2_with fail
  refine (put_ok none _ 0 0 _ _ _ [] _ _ h1 h6 (by decide) (by omega) Rd.nil hr4 (fits_rowN _ _ h1 h6 HR.out)).mono ?_
  rintro e w5 ⟨A5, n5, c5, rfl, hc5, hr5, hb5⟩
  have hs5 := run_str c5 hr5
  rw [List.nil_append, put_rowN_all _ _ HR.out] at hs5
  have e5 : (⟨s.data.toList.toArray⟩ : ByteArray) = s := by simp
  rw [e5] at hs5
  have hw5 : Below w.heap.size w w5 := (hw3.trans (hb4.mono hw3.size)).trans (hb5.mono (Nat.le_trans hw3.size hb4.size))
  clear hr4 hr5 e5
  go_wp2_with (first
    | (go_at_call 11; refine (wakes_any _).mono ?_; rintro e w6 ⟨rfl, hb7⟩))
  go_ret
  exact ⟨rfl, hw5.trans (hb7.mono hw5.size)⟩

theorem nb_any (s : ByteArray) (A : Option Addr) (l cl : Nat) (x : Int) (zs : List Int) (w : World) (ha : Rd w w.heap.size A l (cI zs)) :
    Calls Try.prog 7 #[.int .i64 x, .slice A l cl, .string s] w fun e w' => e = .returned (.bool true) ∧ Below w.heap.size w w' := by
  by_cases hq : l ≤ 400 ∧ s.size ≤ 2000
  · by_cases h : x < 1 ∨ 6 < x
    · exact nb_width s A l cl x w hq.1 hq.2 h
    · obtain ⟨wd, rfl⟩ := Int.eq_ofNat_of_zero_le (show 0 ≤ x by omega)
      by_cases hr : RowOk s.data.toList wd
      · cases hf : zs.all (fitsB · wd)
        · exact nb_bad_ok s A l cl wd zs w ha (by omega) (by omega) hq.1 hq.2 hf hr
        · exact nb_ok_ok s A l cl wd zs w ha (by omega) (by omega) hq.1 hq.2 hf hr
      · cases hf : zs.all (fitsB · wd)
        · exact nb_bad_bad s A l cl wd zs w ha (by omega) (by omega) hq.1 hq.2 hf hr
        · exact nb_ok_bad s A l cl wd zs w ha (by omega) (by omega) hq.1 hq.2 hf hr
  · exact nb_many s A l cl x w (by omega)

end Go.Proofs.Ytnoojlgefpekiaa
