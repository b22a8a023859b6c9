/-
  The walk of breakwaterlaw01.NumTells.
-/
import Derived.Test.YtnoojlgefpekiaaNumD
import Derived.Test.YtnoojlgefpekiaaInts
import Derived.Test.YtnoojlgefpekiaaRefB
import Derived.Test.YtnoojlgefpekiaaRefD
namespace Go.Proofs.Ytnoojlgefpekiaa
open Go.RowKit

set_option maxRecDepth 100000 in
theorem nt_many (A : Option Addr) (nb cb : Nat) (s : ByteArray) (p x : Int) (L : Option Addr) (m cm : Nat) (w : World) (h : 2000 < nb ∨ 2000 < s.size ∨ 400 < m) :
    Calls Try.prog 6 #[.slice A nb cb, .string s, .int .i64 p, .int .i64 x, .slice L m cm] w fun e w' => e = .returned (.bool true) ∧ Below w.heap.size w w' := by
  by_cases hl : 2000 < nb
  · clear h
    go_enter Try.func6, Try.ntmps6
    go_wp2_with (first | (go_at_call 11; refine (wakes_any _).mono ?_; rintro e w6 ⟨rfl, hb7⟩))
    go_ret
    exact ⟨rfl, hb7⟩
  · by_cases hs : 2000 < s.size
    · clear h
      go_enter Try.func6, Try.ntmps6
      go_wp2_with (first | (go_at_call 11; refine (wakes_any _).mono ?_; rintro e w6 ⟨rfl, hb7⟩))
      go_ret
      exact ⟨rfl, hb7⟩
    · have ht : 400 < m := by omega
      clear h
      go_enter Try.func6, Try.ntmps6
      go_wp2_with (first | (go_at_call 11; refine (wakes_any _).mono ?_; rintro e w6 ⟨rfl, hb7⟩))
      go_ret
      exact ⟨rfl, hb7⟩

set_option maxRecDepth 100000 in
set_option maxHeartbeats 800000 in
theorem nt_all (A : Option Addr) (nb cb : Nat) (s : ByteArray) (p x : Int) (L : Option Addr) (m cm : Nat) (bs : List UInt8) (zs : List Int) (w : World)
    (hb : Rd w w.heap.size A nb (cB bs)) (hl : Rd w w.heap.size L m (cI zs)) (h1 : nb ≤ 2000) (h2 : s.size ≤ 2000) (h3 : m ≤ 400) :
    Calls Try.prog 6 #[.slice A nb cb, .string s, .int .i64 p, .int .i64 x, .slice L m cm] w fun e w' => e = .returned (.bool true) ∧ Below w.heap.size w w' := by
  have hsm : s.size ≤ maxLen := by unfold maxLen; omega
  have HSM := Lib.hid hsm; clear hsm
  go_enter Try.func6, Try.ntmps6
  go_wp2_with fail
  refine (put_gen _ _ _ _ _ _ x bs zs _ (by omega) (by omega) hb hl).mono ?_
  rintro e w1 ⟨A1, n1, c1, rfl, hc1, hr1, hb1⟩
  have hbA := (hb.below hb1).more hb1.size
  have hlA := (hl.below hb1).more hb1.size
  clear hb hl
  go_wp2_with fail
  refine (rput_gen _ _ _ _ _ _ x bs zs _ (by omega) (by omega) hbA hlA).mono ?_
  rintro e w2 ⟨A2, n2, c2, rfl, hc2, hr2, hb2⟩
  clear hbA hlA
  have hw2 : Below w.heap.size w w2 := hb1.trans (hb2.mono hb1.size)
  go_wp2_with fail
  refine (get_gen s p x _ HSM.out).mono ?_
  rintro e w' ⟨rfl, rfl⟩
  go_wp2_with fail
  refine (rget_gen s p x _ HSM.out).mono ?_
  rintro e w' ⟨rfl, rfl⟩
  go_wp2_with fail
  refine (row_gen s x _ (by omega)).mono ?_
  rintro e w3 ⟨A3, n3, c3, rfl, hc3, hr3, hb3⟩
  go_wp2_with fail
  refine (rrow_gen s x _ (by omega)).mono ?_
  rintro e w4 ⟨A4, n4, c4, rfl, hc4, hr4, hb4⟩
  have hw3 : Below w.heap.size w w3 := hw2.trans (hb3.mono hw2.size)
  have hw4 : Below w.heap.size w w4 := hw3.trans (hb4.mono hw3.size)
  have hs1 := run_str c1 (((hr1.below hb2).below (hb3.mono hb2.size)).below (hb4.mono (Nat.le_trans hb2.size hb3.size)))
  have hs2 := run_str c2 ((hr2.below hb3).below (hb4.mono hb3.size))
  have hr3' := (hr3.below hb4).more hb4.size
  have hn : n4 = n3 := by rw [← hr4.1, ← hr3.1]
  subst hn
  have hn4 : n4 ≤ 2000 := by
    rw [← hr4.1]
    simp only [cI, List.length_map]
    unfold rowR
    split
    · simp
    · split
      · rw [length_rowN]
        have := Nat.div_le_self s.data.toList.length x.toNat
        have e : s.data.toList.length = s.size := by simp
        omega
      · simp
  have hin := ints_eq A3 A4 n4 c3 c4 _ w4 hr3' hr4 (by omega)
  clear hr1 hr2 hr3 hr4 hr3'
  have HIN := Lib.hid hin; clear hin
  go_wp2_with (first
    | (go_at_call 19; refine HIN.out.mono ?_; rintro e w5 ⟨rfl, hb5⟩)
    | (go_at_call 14; refine (fits_gen _ _ _).mono ?_; rintro e w' ⟨rfl, rfl⟩)
    | (go_at_call 20; refine (rfits_gen _ _ _).mono ?_; rintro e w' ⟨rfl, rfl⟩)
    | (go_at_call 11; refine (wakes_any _).mono ?_; rintro e w6 ⟨rfl, hb6⟩))
  go_ret
  exact ⟨rfl, (hw4.trans (hb5.mono hw4.size)).trans (hb6.mono (Nat.le_trans hw4.size hb5.size))⟩

theorem nt_any (A : Option Addr) (nb cb : Nat) (s : ByteArray) (p x : Int) (L : Option Addr) (m cm : Nat) (bs : List UInt8) (zs : List Int) (w : World)
    (hb : Rd w w.heap.size A nb (cB bs)) (hl : Rd w w.heap.size L m (cI zs)) :
    Calls Try.prog 6 #[.slice A nb cb, .string s, .int .i64 p, .int .i64 x, .slice L m cm] w fun e w' => e = .returned (.bool true) ∧ Below w.heap.size w w' := by
  by_cases h : nb ≤ 2000 ∧ s.size ≤ 2000 ∧ m ≤ 400
  · exact nt_all A nb cb s p x L m cm bs zs w hb hl h.1 h.2.1 h.2.2
  · exact nt_many A nb cb s p x L m cm w (by omega)

end Go.Proofs.Ytnoojlgefpekiaa
