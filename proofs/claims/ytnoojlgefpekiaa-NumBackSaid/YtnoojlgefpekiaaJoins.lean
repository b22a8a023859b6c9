/-
  The walk of breakwaterlaw01.NumJoins.
-/
import Derived.Test.YtnoojlgefpekiaaNumD
import Derived.Test.YtnoojlgefpekiaaApp
namespace Go.Proofs.Ytnoojlgefpekiaa
open Go.RowKit

theorem put_fails (Ab Al : Option Addr) (nb cb m cl : Nat) (x : Int) (bs : List UInt8) (zs : List Int) (w : World) (hnb : nb ≤ 10000) (hm : m ≤ 10000)
    (hb : Rd w w.heap.size Ab nb (cB bs)) (hl : Rd w w.heap.size Al m (cI zs)) (h : x < 1 ∨ 6 < x ∨ zs.all (fitsB · x.toNat) = false) :
    Calls Try.prog 12 #[.slice Ab nb cb, .int .i64 x, .slice Al m cl] w fun e w' =>
      e = .returned (.tuple #[.slice none 0 0, .int .i64 2]) ∧ Below w.heap.size w w' := by
  by_cases hx : x < 1 ∨ 6 < x
  · exact (put_width _ _ x _ hx).mono fun e w' ⟨h1, h2⟩ => ⟨h1, h2 ▸ Below.refl _ _⟩
  · obtain ⟨wd, rfl⟩ := Int.eq_ofNat_of_zero_le (show 0 ≤ x by omega)
    have hf : zs.all (fitsB · wd) = false := by rcases h with h | h | h <;> first | omega | simpa using h
    exact put_bad _ _ _ _ _ _ _ bs zs w (by omega) (by omega) hnb hm hb hl hf

theorem put_some (Ab Al : Option Addr) (nb cb m cl : Nat) (x : Int) (bs : List UInt8) (zs : List Int) (w : World) (hnb : nb ≤ 10000) (hm : m ≤ 10000)
    (hb : Rd w w.heap.size Ab nb (cB bs)) (hl : Rd w w.heap.size Al m (cI zs)) :
    Calls Try.prog 12 #[.slice Ab nb cb, .int .i64 x, .slice Al m cl] w fun e w' =>
      ∃ A n c f, e = .returned (.tuple #[.slice A n c, .int .i64 f]) ∧ Below w.heap.size w w' := by
  by_cases h : x < 1 ∨ 6 < x ∨ zs.all (fitsB · x.toNat) = false
  · exact (put_fails _ _ _ _ _ _ x bs zs w hnb hm hb hl h).mono fun e w' ⟨h1, h2⟩ => ⟨_, _, _, _, h1, h2⟩
  · obtain ⟨wd, rfl⟩ := Int.eq_ofNat_of_zero_le (show 0 ≤ x by omega)
    have hf : zs.all (fitsB · wd) = true := by
      have : ¬ zs.all (fitsB · wd) = false := fun hh => h (.inr (.inr (by simpa using hh)))
      simpa using this
    exact (put_ok _ _ _ _ _ _ _ bs zs w (by omega) (by omega) hnb hm hb hl hf).mono fun e w' ⟨A, n, c, h1, _, _, h2⟩ => ⟨A, n, c, _, h1, h2⟩

set_option maxHeartbeats 400000 in
theorem nj_ok (Al Am : Option Addr) (l cl m cm wd : Nat) (zs ys : List Int) (w : World) (hl : Rd w w.heap.size Al l (cI zs)) (hm : Rd w w.heap.size Am m (cI ys)) (h1 : 1 ≤ wd) (h6 : wd ≤ 6) (hl2 : l ≤ 200) (hm2 : m ≤ 200)
    (fl : zs.all (fitsB · wd) = true) (fm : ys.all (fitsB · wd) = true) :
    Calls Try.prog 5 #[.int .i64 (wd : Int), .slice Al l cl, .slice Am m cm] w fun e w' => e = .returned (.bool true) ∧ Below w.heap.size w w' := by
  obtain ⟨i0, hi, hz0, hz1, hz2⟩ := info_parts Try.info3
  have FL := Lib.hid fl; have FM := Lib.hid fm; clear fl fm
  go_enter Try.func5, Try.ntmps5
  go_wp2_with fail
  refine (put_ok none _ 0 0 _ _ _ [] zs _ h1 h6 (by decide) (by omega) Rd.nil hl FL.out).mono ?_
  rintro e w1 ⟨A, n, c, rfl, hnc, hr, hb⟩
  have hml := hm.below hb
  go_wp2_with fail
  have hn := hr.1
  have hn1 : n = wd * l := by rw [← hr.1, ← hl.1]; simp [cB, cI, length_putL]
  have hn2 : n ≤ 1200 := by rw [hn1]; exact Nat.le_trans (Nat.mul_le_mul h6 hl2) (by omega)
  have HN := Lib.hid hn1; clear hn1
  refine (put_ok _ _ _ _ _ _ _ _ ys _ h1 h6 (by omega) (by omega) hr (hml.more hb.size) FM.out).mono ?_
  rintro e w2 ⟨A2, n2, c2, rfl, hnc2, hr2, hb2⟩
  have hl2' := ((hl.below hb).below (hb2.mono hb.size)).alloc (Nat.le_trans hb.size hb2.size) (.cells #[] 3)
  have hm2' := ((hm.below hb).below (hb2.mono hb.size)).alloc (Nat.le_trans hb.size hb2.size) (.cells #[] 3)
  have hb3 : Below w2.heap.size w2 (w2.alloc (.cells #[] 3)) := (Below.refl _ _).alloc (Nat.le_refl _) _
  have hsz : w.heap.size ≤ w2.heap.size := Nat.le_trans hb.size hb2.size
  go_wp2_with (first
    | (at_builtin
       refine wpList_app_rd _ rfl (.tmp 37) (.tmp 38) 22 rfl w2.heap.size 3 i0 _ 8 Try.underlying22 hi hz0 hz1 hz2 rfl _ 0 [] rfl (own_empty w2 3) w.heap.size Al l cl (cI zs) rfl hl2' (one_cI _) (by unfold maxLen; omega) (by omega) hb3.size w2 hb3 ?_
       intro A3 c3 w3 hc3 hown3 hb4
       simp only [Nat.zero_add, List.nil_append] at hown3 hc3)
    | (at_builtin
       refine wpList_app_rd _ rfl (.tmp 39) (.tmp 40) 22 rfl w2.heap.size 3 i0 _ 8 Try.underlying22 hi hz0 hz1 hz2 rfl _ l (cI zs) rfl hown3 w.heap.size Am m cm (cI ys) rfl (((hm.below hb).below (hb2.mono hb.size)).below (hb4.mono hsz)) (one_cI _) (by unfold maxLen; omega) (by omega) hb4.size w2 hb4 ?_
       intro A4 c4 w4 hc4 hown4 hb5))
  have hr4 : Rd w4 w4.heap.size A4 (l + m) (cI (zs ++ ys)) := by
    have := Rd.of_own hown4
    simpa [cI] using this
  refine (put_ok none _ 0 0 _ _ _ [] (zs ++ ys) _ h1 h6 (by decide) (by omega) Rd.nil hr4 (by rw [List.all_append, FL.out, FM.out]; rfl)).mono ?_
  rintro e w5 ⟨A5, n5, c5, rfl, hnc5, hr5, hb6⟩
  have hz5 : w2.heap.size ≤ w5.heap.size := Nat.le_trans hb5.size hb6.size
  have s2 := run_str c2 ((hr2.below hb5).below (hb6.mono hb5.size))
  have s5 := run_str c5 hr5
  simp only [List.nil_append, putL_append] at s2 s5
  have q0 : 0 ≤ (wd : Int) * (l : Int) := by rw [← Int.natCast_mul]; omega
  have q1 : (wd : Int) * (l : Int) ≤ 1200 := by rw [← Int.natCast_mul, ← HN.out]; omega
  have q2 : ((n : Int) == (wd : Int) * (l : Int)) = true := by rw [beq_iff_eq, ← Int.natCast_mul, HN.out]
  clear hr hr2 hr4 hr5 hown3 hown4 hl hm hl2' hm2' hml hn
  go_wp2_with (first | (go_at_call 11; refine (wakes_any _).mono ?_; rintro e w6 ⟨rfl, hb7⟩))
  go_ret
  exact ⟨rfl, (((hb.trans (hb2.mono hb.size)).trans (hb5.mono hsz)).trans (hb6.mono (Nat.le_trans hsz hb5.size))).trans (hb7.mono (Nat.le_trans hsz hz5))⟩

set_option maxHeartbeats 400000 in
theorem nj_bad1 (Al Am : Option Addr) (l cl m cm : Nat) (x : Int) (zs ys : List Int) (w : World) (hl : Rd w w.heap.size Al l (cI zs)) (hm : Rd w w.heap.size Am m (cI ys)) (hl2 : l ≤ 200) (hm2 : m ≤ 200)
    (h : x < 1 ∨ 6 < x ∨ zs.all (fitsB · x.toNat) = false) :
    Calls Try.prog 5 #[.int .i64 x, .slice Al l cl, .slice Am m cm] w fun e w' => e = .returned (.bool true) ∧ Below w.heap.size w w' := by
  obtain ⟨i0, hi, hz0, hz1, hz2⟩ := info_parts Try.info3
  have H := Lib.hid h; clear h
  go_enter Try.func5, Try.ntmps5
  go_wp2_with fail
  refine (put_fails none _ 0 0 _ _ _ [] zs _ (by decide) (by omega) Rd.nil hl H.out).mono ?_
  rintro e w1 ⟨rfl, hb⟩
  have hml := hm.below hb
  go_wp2_with fail
  refine (put_some _ _ _ _ _ _ _ [] ys _ (by decide) (by omega) Rd.nil (hml.more hb.size)).mono ?_
  rintro e w2 ⟨A2, n2, c2, f2, rfl, hb2⟩
  have hl2' := ((hl.below hb).below (hb2.mono hb.size)).alloc (Nat.le_trans hb.size hb2.size) (.cells #[] 3)
  have hb3 : Below w2.heap.size w2 (w2.alloc (.cells #[] 3)) := (Below.refl _ _).alloc (Nat.le_refl _) _
  have hsz : w.heap.size ≤ w2.heap.size := Nat.le_trans hb.size hb2.size
  go_wp2_with (first
    | (at_builtin
       refine wpList_app_rd _ rfl (.tmp 37) (.tmp 38) 22 rfl w2.heap.size 3 i0 _ 8 Try.underlying22 hi hz0 hz1 hz2 rfl _ 0 [] rfl (own_empty w2 3) w.heap.size Al l cl (cI zs) rfl hl2' (one_cI _) (by unfold maxLen; omega) (by omega) hb3.size w2 hb3 ?_
       intro A3 c3 w3 hc3 hown3 hb4
       simp only [Nat.zero_add, List.nil_append] at hown3 hc3)
    | (at_builtin
       refine wpList_app_rd _ rfl (.tmp 39) (.tmp 40) 22 rfl w2.heap.size 3 i0 _ 8 Try.underlying22 hi hz0 hz1 hz2 rfl _ l (cI zs) rfl hown3 w.heap.size Am m cm (cI ys) rfl (((hm.below hb).below (hb2.mono hb.size)).below (hb4.mono hsz)) (one_cI _) (by unfold maxLen; omega) (by omega) hb4.size w2 hb4 ?_
       intro A4 c4 w4 hc4 hown4 hb5))
  have hr4 : Rd w4 w4.heap.size A4 (l + m) (cI (zs ++ ys)) := by
    have := Rd.of_own hown4
    simpa [cI] using this
  refine (put_fails none _ 0 0 _ _ _ [] (zs ++ ys) _ (by decide) (by omega) Rd.nil hr4 (by rw [List.all_append]; rcases H.out with h | h | h; exact .inl h; exact .inr (.inl h); exact .inr (.inr (by rw [h]; rfl)))).mono ?_
  rintro e w5 ⟨rfl, hb6⟩
  have hz5 : w2.heap.size ≤ w5.heap.size := Nat.le_trans hb5.size hb6.size
  clear hr4 hown3 hown4 hl hm hl2' hml
  go_wp2_with (first | (go_at_call 11; refine (wakes_any _).mono ?_; rintro e w6 ⟨rfl, hb7⟩))
  go_ret
  exact ⟨rfl, (((hb.trans (hb2.mono hb.size)).trans (hb5.mono hsz)).trans (hb6.mono (Nat.le_trans hsz hb5.size))).trans (hb7.mono (Nat.le_trans hsz hz5))⟩

set_option maxHeartbeats 400000 in
theorem nj_bad2 (Al Am : Option Addr) (l cl m cm wd : Nat) (zs ys : List Int) (w : World) (hl : Rd w w.heap.size Al l (cI zs)) (hm : Rd w w.heap.size Am m (cI ys)) (h1 : 1 ≤ wd) (h6 : wd ≤ 6) (hl2 : l ≤ 200) (hm2 : m ≤ 200)
    (fl : zs.all (fitsB · wd) = true) (fm : ys.all (fitsB · wd) = false) :
    Calls Try.prog 5 #[.int .i64 (wd : Int), .slice Al l cl, .slice Am m cm] w fun e w' => e = .returned (.bool true) ∧ Below w.heap.size w w' := by
  obtain ⟨i0, hi, hz0, hz1, hz2⟩ := info_parts Try.info3
  have FL := Lib.hid fl; have FM := Lib.hid fm; clear fl fm
  go_enter Try.func5, Try.ntmps5
  go_wp2_with fail
  refine (put_ok none _ 0 0 _ _ _ [] zs _ h1 h6 (by decide) (by omega) Rd.nil hl FL.out).mono ?_
  rintro e w1 ⟨A, n, c, rfl, hnc, hr, hb⟩
  have hml := hm.below hb
  go_wp2_with fail
  have hn1 : n = wd * l := by rw [← hr.1, ← hl.1]; simp [cB, cI, length_putL]
  have hn2 : n ≤ 1200 := by rw [hn1]; exact Nat.le_trans (Nat.mul_le_mul h6 hl2) (by omega)
  clear hn1
  refine (put_bad _ _ _ _ _ _ _ _ ys _ h1 h6 (by omega) (by omega) hr (hml.more hb.size) FM.out).mono ?_
  rintro e w2 ⟨rfl, hb2⟩
  have hl2' := ((hl.below hb).below (hb2.mono hb.size)).alloc (Nat.le_trans hb.size hb2.size) (.cells #[] 3)
  have hb3 : Below w2.heap.size w2 (w2.alloc (.cells #[] 3)) := (Below.refl _ _).alloc (Nat.le_refl _) _
  have hsz : w.heap.size ≤ w2.heap.size := Nat.le_trans hb.size hb2.size
  go_wp2_with (first
    | (at_builtin
       refine wpList_app_rd _ rfl (.tmp 37) (.tmp 38) 22 rfl w2.heap.size 3 i0 _ 8 Try.underlying22 hi hz0 hz1 hz2 rfl _ 0 [] rfl (own_empty w2 3) w.heap.size Al l cl (cI zs) rfl hl2' (one_cI _) (by unfold maxLen; omega) (by omega) hb3.size w2 hb3 ?_
       intro A3 c3 w3 hc3 hown3 hb4
       simp only [Nat.zero_add, List.nil_append] at hown3 hc3)
    | (at_builtin
       refine wpList_app_rd _ rfl (.tmp 39) (.tmp 40) 22 rfl w2.heap.size 3 i0 _ 8 Try.underlying22 hi hz0 hz1 hz2 rfl _ l (cI zs) rfl hown3 w.heap.size Am m cm (cI ys) rfl (((hm.below hb).below (hb2.mono hb.size)).below (hb4.mono hsz)) (one_cI _) (by unfold maxLen; omega) (by omega) hb4.size w2 hb4 ?_
       intro A4 c4 w4 hc4 hown4 hb5))
  have hr4 : Rd w4 w4.heap.size A4 (l + m) (cI (zs ++ ys)) := by
    have := Rd.of_own hown4
    simpa [cI] using this
  refine (put_bad none _ 0 0 _ _ _ [] (zs ++ ys) _ h1 h6 (by decide) (by omega) Rd.nil hr4 (by rw [List.all_append, FL.out, FM.out]; rfl)).mono ?_
  rintro e w5 ⟨rfl, hb6⟩
  have hz5 : w2.heap.size ≤ w5.heap.size := Nat.le_trans hb5.size hb6.size
  clear hr hr4 hown3 hown4 hl hm hl2' hml
  go_wp2_with (first | (go_at_call 11; refine (wakes_any _).mono ?_; rintro e w6 ⟨rfl, hb7⟩))
  go_ret
  exact ⟨rfl, (((hb.trans (hb2.mono hb.size)).trans (hb5.mono hsz)).trans (hb6.mono (Nat.le_trans hsz hb5.size))).trans (hb7.mono (Nat.le_trans hsz hz5))⟩

/-- too many numbers: the document's calls alone -/
theorem nj_many (Al Am : Option Addr) (l cl m cm : Nat) (x : Int) (w : World) (h : 200 < l ∨ 200 < m) :
    Calls Try.prog 5 #[.int .i64 x, .slice Al l cl, .slice Am m cm] w fun e w' => e = .returned (.bool true) ∧ Below w.heap.size w w' := by
  by_cases hl : 200 < l
  · clear h
    go_enter Try.func5, Try.ntmps5
    go_wp2_with (first | (go_at_call 11; refine (wakes_any _).mono ?_; rintro e w6 ⟨rfl, hb7⟩))
    go_ret
    exact ⟨rfl, hb7⟩
  · have hm : 200 < m := by omega
    clear h
    go_enter Try.func5, Try.ntmps5
    go_wp2_with (first | (go_at_call 11; refine (wakes_any _).mono ?_; rintro e w6 ⟨rfl, hb7⟩))
    go_ret
    exact ⟨rfl, hb7⟩

theorem nj_any (Al Am : Option Addr) (l cl m cm : Nat) (x : Int) (zs ys : List Int) (w : World) (hl : Rd w w.heap.size Al l (cI zs)) (hm : Rd w w.heap.size Am m (cI ys)) :
    Calls Try.prog 5 #[.int .i64 x, .slice Al l cl, .slice Am m cm] w fun e w' => e = .returned (.bool true) ∧ Below w.heap.size w w' := by
  by_cases hq : l ≤ 200 ∧ m ≤ 200
  · by_cases h : x < 1 ∨ 6 < x ∨ zs.all (fitsB · x.toNat) = false
    · exact nj_bad1 _ _ _ _ _ _ x zs ys w hl hm hq.1 hq.2 h
    · obtain ⟨wd, rfl⟩ := Int.eq_ofNat_of_zero_le (show 0 ≤ x by omega)
      have hf : zs.all (fitsB · wd) = true := by
        have : ¬ zs.all (fitsB · wd) = false := fun hh => h (.inr (.inr (by simpa using hh)))
        simpa using this
      cases hf2 : ys.all (fitsB · wd)
      · exact nj_bad2 _ _ _ _ _ _ wd zs ys w hl hm (by omega) (by omega) hq.1 hq.2 hf hf2
      · exact nj_ok _ _ _ _ _ _ wd zs ys w hl hm (by omega) (by omega) hq.1 hq.2 hf hf2
  · exact nj_many _ _ _ _ _ _ x w (by omega)

end Go.Proofs.Ytnoojlgefpekiaa
