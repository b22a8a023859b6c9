/-
  The walk of breakwaterlaw01.NumFits: it returns true, whatever the number and the width, and nothing that was there before the call is changed.
-/
import Derived.Test.YtnoojlgefpekiaaNumD
namespace Go.Proofs.Ytnoojlgefpekiaa
open Go.RowKit

theorem put1_ok (n x : Int) (w : World) (h1 : 1 ≤ x) (h6 : x ≤ 6) (hf : fitsB n x.toNat = true) :
    Calls Try.prog 12 #[.slice none 0 0, .int .i64 x, .slice (some ⟨w.heap.size, 0, none⟩) 1 1] (w.alloc (.cells #[.int .i64 n] 3)) fun e w' =>
    ∃ A m c, e = .returned (.tuple #[.slice A m c, .int .i64 0]) ∧ Below w.heap.size w w' := by
  obtain ⟨wd, rfl⟩ := Int.eq_ofNat_of_zero_le (show 0 ≤ x by omega)
  have hr : Rd (w.alloc (.cells #[.int .i64 n] 3)) (w.alloc (.cells #[.int .i64 n] 3)).heap.size (some ⟨w.heap.size, 0, none⟩) 1 (cI [n]) := by
    have := Rd.new w 3 (cI [n])
    simpa [cI] using this
  refine (put_ok none _ 0 0 1 1 wd [] [n] _ (by omega) (by omega) (by decide) (by decide) Rd.nil hr (by simpa using hf)).mono ?_
  rintro e w1 ⟨A, m, c, rfl, _, _, hb⟩
  exact ⟨A, m, c, rfl, ((Below.refl _ _).alloc (Nat.le_refl _) _).trans (hb.mono (by simp))⟩

theorem put1_bad (n x : Int) (w : World) (h : x < 1 ∨ 6 < x ∨ fitsB n x.toNat = false) :
    Calls Try.prog 12 #[.slice none 0 0, .int .i64 x, .slice (some ⟨w.heap.size, 0, none⟩) 1 1] (w.alloc (.cells #[.int .i64 n] 3)) fun e w' =>
    e = .returned (.tuple #[.slice none 0 0, .int .i64 2]) ∧ Below w.heap.size w w' := by
  by_cases hx : x < 1 ∨ 6 < x
  · exact (put_width _ _ x _ hx).mono fun e w' ⟨h1, h2⟩ => ⟨h1, h2 ▸ (Below.refl _ _).alloc (Nat.le_refl _) _⟩
  · obtain ⟨wd, rfl⟩ := Int.eq_ofNat_of_zero_le (show 0 ≤ x by omega)
    have hf : fitsB n wd = false := by rcases h with h | h | h <;> first | omega | simpa using h
    have hr : Rd (w.alloc (.cells #[.int .i64 n] 3)) (w.alloc (.cells #[.int .i64 n] 3)).heap.size (some ⟨w.heap.size, 0, none⟩) 1 (cI [n]) := by
      have := Rd.new w 3 (cI [n])
      simpa [cI] using this
    refine (put_bad none _ 0 0 1 1 wd [] [n] _ (by omega) (by omega) (by decide) (by decide) Rd.nil hr (by simpa using hf)).mono ?_
    rintro e w1 ⟨rfl, hb⟩
    exact ⟨rfl, ((Below.refl _ _).alloc (Nat.le_refl _) _).trans (hb.mono (by simp))⟩

/-- a width, a number that fits -/
theorem nf_yes (n x : Int) (w : World) (h1 : 1 ≤ x) (h6 : x ≤ 6) (h0 : 0 ≤ n) (hm : n ≤ (mostN x.toNat : Nat)) :
    Calls Try.prog 4 #[.int .i64 n, .int .i64 x] w fun e w' => e = .returned (.bool true) ∧ Below w.heap.size w w' := by
  have hf : fitsB n x.toNat = true := by simp [fitsB]; omega
  have HF := Lib.hid hf; clear hf
  rcases (show x = 1 ∨ x = 2 ∨ x = 3 ∨ x = 4 ∨ x = 5 ∨ x = 6 from by omega) with rfl | rfl | rfl | rfl | rfl | rfl
  all_goals
    have c1 := put1_ok n _ w h1 h6 HF.out
    have c2 := fun W => fits_yes n _ W h1 h6 h0 hm
    have C1 := Lib.hid c1; have C2 := Lib.hid c2; clear c1 c2
    simp [mostN] at hm
    go_enter Try.func4, Try.ntmps4
    go_wp2_with fail
    refine C1.out.mono ?_
    rintro e w1 ⟨A, m, c, rfl, hb⟩
    go_wp2_with fail
    refine (C2.out _).mono ?_
    rintro e w2 ⟨rfl, rfl⟩
    go_wp2_with fail
    refine (wakes_any _).mono ?_
    rintro e w2 ⟨rfl, hb2⟩
    go_wp2
    go_ret
    exact ⟨rfl, hb.trans (hb2.mono hb.size)⟩

set_option maxHeartbeats 1000000 in
/-- a width but 5, a number that does not fit -/
theorem nf_no (n x : Int) (w : World) (h1 : 1 ≤ x) (h6 : x ≤ 6) (h5 : x ≠ 5) (h : n < 0 ∨ (mostN x.toNat : Nat) < n) :
    Calls Try.prog 4 #[.int .i64 n, .int .i64 x] w fun e w' => e = .returned (.bool true) ∧ Below w.heap.size w w' := by
  have hf : fitsB n x.toNat = false := by simp [fitsB]; omega
  have HF := Lib.hid hf; clear hf
  rcases (show x = 1 ∨ x = 2 ∨ x = 3 ∨ x = 4 ∨ x = 6 from by omega) with rfl | rfl | rfl | rfl | rfl
  all_goals
    have c1 := put1_bad n _ w (.inr (.inr HF.out))
    have c2 := fun W => fits_no n _ W (.inr (.inr h))
    have C1 := Lib.hid c1; have C2 := Lib.hid c2; clear c1 c2
    simp [mostN] at h
    rcases h with h | h
    all_goals
      go_enter Try.func4, Try.ntmps4
      go_wp2_with fail
      refine C1.out.mono ?_
      rintro e w1 ⟨rfl, hb⟩
      go_wp2_with fail
      refine (C2.out _).mono ?_
      rintro e w2 ⟨rfl, rfl⟩
      go_wp2_with fail
      refine (wakes_any _).mono ?_
      rintro e w2 ⟨rfl, hb2⟩
      go_wp2
      go_ret
      exact ⟨rfl, hb.trans (hb2.mono hb.size)⟩

set_option maxHeartbeats 1000000 in
/-- the width 5, a number that does not fit -/
theorem nf_no5 (n : Int) (w : World) (h : n < 0 ∨ (mostN (5 : Int).toNat : Nat) < n) :
    Calls Try.prog 4 #[.int .i64 n, .int .i64 5] w fun e w' => e = .returned (.bool true) ∧ Below w.heap.size w w' := by
  have hf : fitsB n (5 : Int).toNat = false := decide_eq_false (by omega)
  have c1 := put1_bad n 5 w (.inr (.inr hf))
  have c2 := fun W => fits_no n 5 W (.inr (.inr h))
  have C1 := Lib.hid c1; have C2 := Lib.hid c2; clear c1 c2 hf
  simp [mostN] at h
  rcases (show n < 0 ∨ n = 1099511627776 ∨ 1099511627776 < n from by omega) with h' | h' | h'
  · clear h
    go_enter Try.func4, Try.ntmps4
    go_wp2_with fail
    refine C1.out.mono ?_
    rintro e w1 ⟨rfl, hb⟩
    go_wp2_with fail
    refine (C2.out _).mono ?_
    rintro e w2 ⟨rfl, rfl⟩
    go_wp2_with fail
    refine (wakes_any _).mono ?_
    rintro e w2 ⟨rfl, hb2⟩
    go_wp2
    go_ret
    exact ⟨rfl, hb.trans (hb2.mono hb.size)⟩
  · subst h'
    clear h
    go_enter Try.func4, Try.ntmps4
    go_wp2_with fail
    refine C1.out.mono ?_
    rintro e w1 ⟨rfl, hb⟩
    go_wp2_with fail
    refine (C2.out _).mono ?_
    rintro e w2 ⟨rfl, rfl⟩
    go_wp2_with fail
    refine (wakes_any _).mono ?_
    rintro e w2 ⟨rfl, hb2⟩
    go_wp2
    go_ret
    exact ⟨rfl, hb.trans (hb2.mono hb.size)⟩
  · clear h
    go_enter Try.func4, Try.ntmps4
    go_wp2_with fail
    refine C1.out.mono ?_
    rintro e w1 ⟨rfl, hb⟩
    go_wp2_with fail
    refine (C2.out _).mono ?_
    rintro e w2 ⟨rfl, rfl⟩
    go_wp2_with fail
    refine (wakes_any _).mono ?_
    rintro e w2 ⟨rfl, hb2⟩
    go_wp2
    go_ret
    exact ⟨rfl, hb.trans (hb2.mono hb.size)⟩

set_option maxHeartbeats 400000 in
/-- no width -/
theorem nf_width (n x : Int) (w : World) (h : x < 1 ∨ 6 < x) :
    Calls Try.prog 4 #[.int .i64 n, .int .i64 x] w fun e w' => e = .returned (.bool true) ∧ Below w.heap.size w w' := by
  rcases h with h | h
  all_goals
    have c1 := put1_bad n _ w (by first | exact .inl h | exact .inr (.inl h))
    have c2 := fun W => fits_no n _ W (by first | exact .inl h | exact .inr (.inl h))
    have C1 := Lib.hid c1; have C2 := Lib.hid c2; clear c1 c2
    go_enter Try.func4, Try.ntmps4
    go_wp2_with fail
    refine C1.out.mono ?_
    rintro e w1 ⟨rfl, hb⟩
    go_wp2_with fail
    refine (C2.out _).mono ?_
    rintro e w2 ⟨rfl, rfl⟩
    go_wp2_with fail
    refine (wakes_any _).mono ?_
    rintro e w2 ⟨rfl, hb2⟩
    go_wp2
    go_ret
    exact ⟨rfl, hb.trans (hb2.mono hb.size)⟩

theorem nf_any (n x : Int) (w : World) : Calls Try.prog 4 #[.int .i64 n, .int .i64 x] w fun e w' => e = .returned (.bool true) ∧ Below w.heap.size w w' := by
  by_cases hx : 1 ≤ x ∧ x ≤ 6
  · by_cases hn : 0 ≤ n ∧ n ≤ (mostN x.toNat : Nat)
    · exact nf_yes n x w hx.1 hx.2 hn.1 hn.2
    · by_cases h5 : x = 5
      · subst h5
        exact nf_no5 n w (by omega)
      · exact nf_no n x w hx.1 hx.2 h5 (by omega)
  · exact nf_width n x w (by omega)

end Go.Proofs.Ytnoojlgefpekiaa
