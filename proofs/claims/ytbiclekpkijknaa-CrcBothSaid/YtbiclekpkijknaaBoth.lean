/-
  The walk of breakwaterlaw02.CrcBoth.
-/
import Derived.Test.YtbiclekpkijknaaWakes
import Derived.Test.YtbiclekpkijknaaApp
import Derived.Test.YtbiclekpkijknaaPlain2
namespace Go.Proofs.Ytbiclekpkijknaa
open Go.RowKit

theorem ofInt_nat (x : BitVec 32) : BitVec.ofInt 32 (x.toNat : Int) = x := ofInt_u32 x

set_option maxHeartbeats 800000 in
set_option maxRecDepth 100000 in
theorem cb_all (A D : Option Addr) (n c m d : Nat) (a b : List UInt8) (w : World) (ha : Rd w w.heap.size A n (cB a)) (hb : Rd w w.heap.size D m (cB b)) (hn : n ≤ 2000) (hm : m ≤ 2000) :
    Calls Try.prog 4 #[.slice A n c, .slice D m d] w fun e w' => e = .returned (.bool true) ∧ Below w.heap.size w w' := by
  obtain ⟨i0, hi, hz0, hz1, hz2⟩ := info_parts Try.info5
  have hm1 : b.length = m := by have := hb.1; simpa [cB] using this
  obtain ⟨V, hV⟩ : ∃ V, V = (sumB (a ++ b)).toNat := ⟨_, rfl⟩
  obtain ⟨Va, hVa⟩ : ∃ Va, Va = (sumB a).toNat := ⟨_, rfl⟩
  obtain ⟨Vb, hVb⟩ : ∃ Vb, Vb = (sumB b).toNat := ⟨_, rfl⟩
  have bV : V < 4294967296 := by rw [hV]; exact BitVec.isLt _
  have sumA := fun W (h : Below w.heap.size w W) => sum_lit A n c w.heap.size a (Va : Int) W (by rw [hVa]) (ha.below h) h.size (by omega)
  have sumBb := fun W (h : Below w.heap.size w W) => sum_lit D m d w.heap.size b (Vb : Int) W (by rw [hVb]) (hb.below h) h.size (by omega)
  have bothV : ∀ W, Calls Try.prog 10 #[.int .i64 (Va : Int), .int .i64 (Vb : Int), .int .i64 (m : Int)] W fun e w' => e = .returned (.int .i64 (V : Int)) ∧ Below W.heap.size W w' := by
    intro W
    have h := both_any (Va : Int) (Vb : Int) (m : Int) W (by omega) (by omega)
    rw [hVa, hVb, ofInt_nat, ofInt_nat, Int.toNat_natCast, ← hm1, both_sum, ← hV, ← hVa, ← hVb, hm1] at h
    exact h
  have addV := fun W (h : Below w.heap.size w W) => add_lit D m d w.heap.size b (Va : Int) (V : Int) W (by rw [hVa, ofInt_nat, hV]; unfold addB; rw [sum_add]) (hb.below h) h.size (by omega)
  have hsum := fun (A' : Option Addr) (c' : Nat) (W : World) (h : Rd W W.heap.size A' (n + m) (cB a ++ cB b)) => sum_lit A' (n + m) c' W.heap.size (a ++ b) (V : Int) W (by rw [hV]) (by simpa [cB] using h) (Nat.le_refl _) (by omega)
  have S1 := Lib.hid sumA; have S2 := Lib.hid sumBb; have S3 := Lib.hid bothV; have S4 := Lib.hid addV; have S5 := Lib.hid hsum
  clear sumA sumBb bothV addV hsum hV hVa hVb hm1
  have hb3 : Below w.heap.size w (w.alloc (.cells #[] 5)) := (Below.refl _ _).alloc (Nat.le_refl _) _
  have hA3 := ha.below hb3
  go_enter Try.func4, Try.ntmps4
  go_wp2_with (first
    | (at_builtin
       refine wpList_app_rd _ rfl (.tmp 15) (.tmp 16) 22 rfl w.heap.size 5 i0 _ 1 Try.underlying22 hi hz0 hz1 hz2 rfl _ 0 [] rfl (own_empty w 5) w.heap.size A n c (cB a) rfl hA3 (one_cB _) (by unfold maxLen; omega) (by omega) hb3.size w hb3 ?_
       intro A3 c3 w3 hc3 hown3 hb4
       simp only [Nat.zero_add, List.nil_append] at hown3 hc3)
    | (at_builtin
       refine wpList_app_rd _ rfl (.tmp 17) (.tmp 18) 22 rfl w.heap.size 5 i0 _ 1 Try.underlying22 hi hz0 hz1 hz2 rfl _ n (cB a) rfl hown3 w.heap.size D m d (cB b) rfl (hb.below hb4) (one_cB _) (by unfold maxLen; omega) (by omega) hb4.size w hb4 ?_
       intro A4 c4 w4 hc4 hown4 hb5))
  refine (S5.out A4 c4 w4 (Rd.of_own hown4)).mono ?_
  rintro e w5 ⟨rfl, hb6⟩
  have k5 : Below w.heap.size w w5 := hb5.trans (hb6.mono hb5.size)
  clear hown3 hown4 ha hb hA3
  go_wp2_with fail
  refine (S1.out w5 k5).mono ?_
  rintro e w6 ⟨rfl, hb7⟩
  have k6 : Below w.heap.size w w6 := k5.trans (hb7.mono k5.size)
  go_wp2_with fail
  refine (S2.out w6 k6).mono ?_
  rintro e w7 ⟨rfl, hb8⟩
  have k7 : Below w.heap.size w w7 := k6.trans (hb8.mono k6.size)
  go_wp2_with fail
  refine (S3.out w7).mono ?_
  rintro e w8 ⟨rfl, hb9⟩
  have k8 : Below w.heap.size w w8 := k7.trans (hb9.mono k7.size)
  go_wp2_with fail
  refine (S1.out w8 k8).mono ?_
  rintro e w9 ⟨rfl, hb10⟩
  have k9 : Below w.heap.size w w9 := k8.trans (hb10.mono k8.size)
  go_wp2_with fail
  refine (S4.out w9 k9).mono ?_
  rintro e w10 ⟨rfl, hb11⟩
  have k10 : Below w.heap.size w w10 := k9.trans (hb11.mono k9.size)
  have t1 : (V : Int) < 4294967296 := by omega
  have t0 : (0 : Int) ≤ (V : Int) := by omega
  clear bV
  go_wp2_with fail
  refine (wakes_any _).mono ?_
  rintro e w11 ⟨rfl, hb12⟩
  go_wp2
  go_ret
  exact ⟨rfl, k10.trans (hb12.mono k10.size)⟩

theorem cb_many (A D : Option Addr) (n c m d : Nat) (w : World) (h : 2000 < n ∨ 2000 < m) :
    Calls Try.prog 4 #[.slice A n c, .slice D m d] w fun e w' => e = .returned (.bool true) ∧ Below w.heap.size w w' := by
  by_cases hl : 2000 < n
  · clear h
    go_enter Try.func4, Try.ntmps4
    go_wp2_with (first | (go_at_call 8; refine (wakes_any _).mono ?_; rintro e w6 ⟨rfl, hb7⟩))
    go_ret
    exact ⟨rfl, hb7⟩
  · have ht : 2000 < m := by omega
    clear h
    go_enter Try.func4, Try.ntmps4
    go_wp2_with (first | (go_at_call 8; refine (wakes_any _).mono ?_; rintro e w6 ⟨rfl, hb7⟩))
    go_ret
    exact ⟨rfl, hb7⟩

theorem cb_any (A D : Option Addr) (n c m d : Nat) (a b : List UInt8) (w : World) (ha : Rd w w.heap.size A n (cB a)) (hb : Rd w w.heap.size D m (cB b)) :
    Calls Try.prog 4 #[.slice A n c, .slice D m d] w fun e w' => e = .returned (.bool true) ∧ Below w.heap.size w w' := by
  by_cases h : n ≤ 2000 ∧ m ≤ 2000
  · exact cb_all A D n c m d a b w ha hb h.1 h.2
  · exact cb_many A D n c m d w (by omega)

end Go.Proofs.Ytbiclekpkijknaa
