/-
  The walk of breakwaterlaw13.ChooseOthers.
-/
import Derived.Test.YtilpcoebpinmfaaWakes
namespace Go.Proofs.Ytilpcoebpinmfaa
open Go.RowKit

theorem oth_le (n k i : Int) (hn : 0 ≤ n) : 0 ≤ oth n k i ∧ oth n k i ≤ n := by unfold oth mx; (repeat' split) <;> omega
theorem oth_ge (n k i : Int) (hi : i ≤ n) : i ≤ oth n k i := by unfold oth mx; (repeat' split) <;> omega
theorem oth_hit (n k v : Int) (hv : 0 ≤ v) (h : oth n k v < n) : (v = k → oth n k v = v + 1) ∧ (v ≠ k → oth n k v = v) := by
  unfold oth mx at *
  refine ⟨fun e => ?_, fun e => ?_⟩ <;> (repeat' split at h) <;> (repeat' split) <;> omega
theorem oth_end (n k v : Int) (hv : 0 ≤ v) (h : ¬ oth n k v < n) : (v = k → n ≤ v + 1) ∧ (v ≠ k → n ≤ v) := by
  unfold oth mx at *
  refine ⟨fun e => ?_, fun e => ?_⟩ <;> (repeat' split at h) <;> omega
theorem oth_all (n k : Int) (hn : 0 ≤ n) : oth n k n = n := by unfold oth mx; (repeat' split) <;> omega

/-- the geometry's cells -/
def geo (n : Int) : Array Value := #[.int .i64 n, .int .i64 0, .int .i64 0, .int .i64 0, .int .i64 0, .int .i64 0, .int .i64 0, .int .i64 0]

theorem others_c (n k i v : Int) (hn : n < 9223372036854775808) (hv : v = oth n k i) (w : World) :
    Calls Try.prog 18 #[.agg #[.int .i64 n, .int .i64 0, .int .i64 0, .int .i64 0, .int .i64 0, .int .i64 0, .int .i64 0, .int .i64 0], .int .i64 k, .int .i64 i] w
      fun x w' => x = .returned (.int .i64 v) ∧ Below w.heap.size w w' := by
  rw [hv]; exact others_any n k i 0 0 0 0 0 0 0 hn w

set_option maxHeartbeats 2000000 in
theorem co_any (n k : Int) (w : World) : Calls Try.prog 6 #[.int .i64 n, .int .i64 k] w fun e w' => e = .returned (.bool true) ∧ Below w.heap.size w w' := by
  by_cases h0 : n < 0
  · have HC := Lib.hid (wakes_any w)
    go_enter Try.func6, Try.ntmps6
    go_wp2_with fail
    refine HC.out.mono ?_
    rintro e w1 ⟨rfl, hb⟩
    go_wp2
    go_ret
    exact ⟨rfl, hb⟩
  by_cases h1 : 100 < n
  · have HC := Lib.hid (wakes_any w)
    go_enter Try.func6, Try.ntmps6
    go_wp2_with fail
    refine HC.out.mono ?_
    rintro e w1 ⟨rfl, hb⟩
    go_wp2
    go_ret
    exact ⟨rfl, hb⟩
  have g0 : 0 ≤ n := by omega
  have g1 : n ≤ 100 := by omega
  obtain ⟨N0, hN0⟩ : ∃ N, N = oth n k 0 := ⟨_, rfl⟩
  have b0 := oth_le n k 0 g0
  rw [← hN0] at b0
  have HN0 := Lib.hid hN0
  clear hN0
  go_enter Try.func6, Try.ntmps6
  go_wp2_with fail
  refine (others_c n k 0 N0 (by omega) HN0.out _).mono ?_
  rintro e w1 ⟨rfl, hb1⟩
  have kb0 : Blk (w.alloc (Obj.cells (geo n) 26)) w.heap.size 26 (geo n) := Blk.new w 26 _
  have kb : Blk w1 w.heap.size 26 (geo n) := kb0.below hb1 kb0.lt
  have kw : Below w.heap.size w w1 := ((Below.refl _ _).alloc (Nat.le_refl _) _).trans (hb1.mono (by simp))
  clear kb0 hb1
  go_wp2
  go_loopw [6, 7] (fun t7 t8 wr => ∃ v N : Int, 0 ≤ v ∧ v ≤ 100 ∧ 0 ≤ N ∧ N ≤ n ∧ Hid (N = oth n k v) ∧ t7 = .int .i64 v ∧ t8 = .int .i64 N ∧ Blk wr w.heap.size 26 (geo n) ∧ Below w.heap.size w wr) (fun _ t8 _ => (n - intOf t8).toNat)
  case atStart => exact ⟨0, N0, by omega, by omega, b0.1, b0.2, HN0, rfl, rfl, kb, kw⟩
  case round =>
    obtain ⟨v, N, hv0, hv1, hN0, hN1, HN, rfl, rfl, hbk, hwk⟩ := hrel
    clear kb kw HN0
    have r0 : wr.cell? ⟨w.heap.size, 0, none⟩ = some (.int .i64 n) := by rw [hbk.cell 0]; rfl
    have r1 : wr.cell? ⟨w.heap.size, 1, none⟩ = some (.int .i64 0) := by rw [hbk.cell 1]; rfl
    have r2 : wr.cell? ⟨w.heap.size, 2, none⟩ = some (.int .i64 0) := by rw [hbk.cell 2]; rfl
    have r3 : wr.cell? ⟨w.heap.size, 3, none⟩ = some (.int .i64 0) := by rw [hbk.cell 3]; rfl
    have r4 : wr.cell? ⟨w.heap.size, 4, none⟩ = some (.int .i64 0) := by rw [hbk.cell 4]; rfl
    have r5 : wr.cell? ⟨w.heap.size, 5, none⟩ = some (.int .i64 0) := by rw [hbk.cell 5]; rfl
    have r6 : wr.cell? ⟨w.heap.size, 6, none⟩ = some (.int .i64 0) := by rw [hbk.cell 6]; rfl
    have r7 : wr.cell? ⟨w.heap.size, 7, none⟩ = some (.int .i64 0) := by rw [hbk.cell 7]; rfl
    have KB := Lib.hid hbk; have KW := Lib.hid hwk
    clear hbk hwk
    by_cases hlt : N < n
    · have hh := oth_hit n k v hv0 (by rw [← HN.out]; exact hlt)
      rw [← HN.out] at hh
      obtain ⟨M, hM⟩ : ∃ M, M = oth n k (N + 1) := ⟨_, rfl⟩
      have bM := oth_le n k (N + 1) g0
      have gM := oth_ge n k (N + 1) (by omega)
      rw [← hM] at bM gM
      obtain ⟨bM1, bM2⟩ := bM
      have HM := Lib.hid hM
      clear hM
      by_cases hvk : v = k
      · have e1 : N = v + 1 := hh.1 hvk
        clear hh
        subst e1
        have HK := Lib.hid (show M = oth n k (k + 1 + 1) by have h := HM.out; rw [hvk] at h; exact h)
        go_wp2_with fail
        refine (others_c n k (k + 1 + 1) M (by omega) HK.out _).mono ?_
        rintro e w1 ⟨rfl, hb1⟩
        go_wp2
        go_roundw
        case rel => exact ⟨k + 1 + 1, M, by omega, by omega, bM1, bM2, HK, rfl, rfl, KB.out.below hb1 KB.out.lt, KW.out.trans (hb1.mono KW.out.size)⟩
        case measure => simp [intOf]; omega
      · have e1 : N = v := hh.2 hvk
        clear hh
        subst e1
        go_wp2_with fail
        refine (others_c n k (N + 1) M (by omega) HM.out _).mono ?_
        rintro e w1 ⟨rfl, hb1⟩
        go_wp2
        go_roundw
        case rel => exact ⟨N + 1, M, by omega, by omega, bM1, bM2, HM, rfl, rfl, KB.out.below hb1 KB.out.lt, KW.out.trans (hb1.mono KW.out.size)⟩
        case measure => simp [intOf]; omega
    · have hh := oth_end n k v hv0 (by rw [← HN.out]; exact hlt)
      have hA := Lib.hid (oth_all n k g0).symm
      by_cases hvk : v = k
      · have e1 := hh.1 hvk
        clear hh
        go_wp2_with fail
        refine (others_c n k n n (by omega) hA.out _).mono ?_
        rintro e w1 ⟨rfl, hb1⟩
        have HC := Lib.hid (wakes_any w1)
        have HB := Lib.hid hb1
        clear hb1
        go_wp2_with fail
        refine HC.out.mono ?_
        rintro e w2 ⟨rfl, hb2⟩
        go_wp2
        go_ret
        exact ⟨rfl, (KW.out.trans (HB.out.mono KW.out.size)).trans (hb2.mono (Nat.le_trans KW.out.size HB.out.size))⟩
      · have e1 := hh.2 hvk
        clear hh
        go_wp2_with fail
        refine (others_c n k n n (by omega) hA.out _).mono ?_
        rintro e w1 ⟨rfl, hb1⟩
        have HC := Lib.hid (wakes_any w1)
        have HB := Lib.hid hb1
        clear hb1
        go_wp2_with fail
        refine HC.out.mono ?_
        rintro e w2 ⟨rfl, hb2⟩
        go_wp2
        go_ret
        exact ⟨rfl, (KW.out.trans (HB.out.mono KW.out.size)).trans (hb2.mono (Nat.le_trans KW.out.size HB.out.size))⟩

end Go.Proofs.Ytilpcoebpinmfaa
