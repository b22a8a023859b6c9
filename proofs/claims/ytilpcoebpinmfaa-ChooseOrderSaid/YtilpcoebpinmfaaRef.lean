/-
  Contracts of the reference's Stops, Value, Others.
-/
import Derived.Test.YtilpcoebpinmfaaOthers
import Derived.Test.YtilpcoebpinmfaaSmall
namespace Go.Proofs.Ytilpcoebpinmfaa
open Go.RowKit

set_option maxHeartbeats 400000 in
/-- the reference's Stops -/
theorem rstops_any (a b c s : Int) (v : ByteArray) (x y : Bool) (w : World) :
    Calls Try.prog 15 #[.agg #[.int .i64 a, .int .i64 b, .int .i64 c, .string v, .int .i64 s, .bool x, .bool y]] w fun e w' => e = .returned (.bool (x || y)) ∧ Below w.heap.size w w' := by
  cases x <;> cases y
  all_goals
    go_enter Try.func15, Try.ntmps15
    go_wp2
    refine bodyPost_ret (by simp [results, Try.results15, go_sem]) rfl ⟨rfl, (Below.refl _ _).alloc (Nat.le_refl _) _⟩

set_option maxHeartbeats 400000 in
/-- the reference's Value -/
theorem rvalue_any (a b c s : Int) (v z : ByteArray) (x y : Bool) (w : World) :
    Calls Try.prog 17 #[.agg #[.int .i64 a, .int .i64 b, .int .i64 c, .string v, .int .i64 s, .bool x, .bool y], .string z] w fun e w' => e = .returned (.string (if 0 < c then v else z)) ∧ Below w.heap.size w w' := by
  by_cases hc : 0 < c
  · rw [if_pos hc]
    go_enter Try.func17, Try.ntmps17
    go_wp2
    refine bodyPost_ret (v := .string v) (by simp [results, Try.results17, go_sem]) rfl ⟨rfl, (Below.refl _ _).alloc (Nat.le_refl _) _⟩
  · rw [if_neg hc]
    go_enter Try.func17, Try.ntmps17
    go_wp2
    refine bodyPost_ret (v := .string z) (by simp [results, Try.results17, go_sem]) rfl ⟨rfl, (Below.refl _ _).alloc (Nat.le_refl _) _⟩

set_option maxHeartbeats 1000000 in
/-- the reference's Others -/
theorem rothers_any (n k i a b c d e f g : Int) (hn : i ≤ 1125899906842624) (w : World) :
    Calls Try.prog 19 #[.agg #[.int .i64 n, .int .i64 a, .int .i64 b, .int .i64 c, .int .i64 d, .int .i64 e, .int .i64 f, .int .i64 g], .int .i64 k, .int .i64 i] w
      fun x w' => x = .returned (.int .i64 (oth n k i)) ∧ Below w.heap.size w w' := by
  by_cases hi : i < 0
  · by_cases h2 : 0 = k
    · subst h2
      by_cases h3 : (1 : Int) ≥ n
      · have e1 : oth n 0 i = n := by unfold oth mx; (repeat' split) <;> omega
        have HE := Lib.hid e1; clear e1
        go_enter Try.func19, Try.ntmps19
        go_wp2
        refine bodyPost_ret (v := .int .i64 n) (by simp [results, Try.results19, go_sem]) rfl ⟨by rw [HE.out], (Below.refl _ _).alloc (Nat.le_refl _) _⟩
      · have e1 : oth n 0 i = 1 := by unfold oth mx; (repeat' split) <;> omega
        have HE := Lib.hid e1; clear e1
        go_enter Try.func19, Try.ntmps19
        go_wp2
        refine bodyPost_ret (v := .int .i64 1) (by simp [results, Try.results19, go_sem]) rfl ⟨by rw [HE.out], (Below.refl _ _).alloc (Nat.le_refl _) _⟩
    · by_cases h3 : (0 : Int) ≥ n
      · have e1 : oth n k i = n := by unfold oth mx; (repeat' split) <;> omega
        have HE := Lib.hid e1; clear e1
        go_enter Try.func19, Try.ntmps19
        go_wp2
        refine bodyPost_ret (v := .int .i64 n) (by simp [results, Try.results19, go_sem]) rfl ⟨by rw [HE.out], (Below.refl _ _).alloc (Nat.le_refl _) _⟩
      · have e1 : oth n k i = 0 := by unfold oth mx; (repeat' split) <;> omega
        have HE := Lib.hid e1; clear e1
        go_enter Try.func19, Try.ntmps19
        go_wp2
        refine bodyPost_ret (v := .int .i64 0) (by simp [results, Try.results19, go_sem]) rfl ⟨by rw [HE.out], (Below.refl _ _).alloc (Nat.le_refl _) _⟩
  · by_cases h2 : i = k
    · subst h2
      by_cases h3 : ((i + 1) : Int) ≥ n
      · have e1 : oth n i i = n := by unfold oth mx; (repeat' split) <;> omega
        have HE := Lib.hid e1; clear e1
        go_enter Try.func19, Try.ntmps19
        go_wp2
        refine bodyPost_ret (v := .int .i64 n) (by simp [results, Try.results19, go_sem]) rfl ⟨by rw [HE.out], (Below.refl _ _).alloc (Nat.le_refl _) _⟩
      · have e1 : oth n i i = (i + 1) := by unfold oth mx; (repeat' split) <;> omega
        have HE := Lib.hid e1; clear e1
        go_enter Try.func19, Try.ntmps19
        go_wp2
        refine bodyPost_ret (v := .int .i64 (i + 1)) (by simp [results, Try.results19, go_sem]) rfl ⟨by rw [HE.out], (Below.refl _ _).alloc (Nat.le_refl _) _⟩
    · by_cases h3 : (i : Int) ≥ n
      · have e1 : oth n k i = n := by unfold oth mx; (repeat' split) <;> omega
        have HE := Lib.hid e1; clear e1
        go_enter Try.func19, Try.ntmps19
        go_wp2
        refine bodyPost_ret (v := .int .i64 n) (by simp [results, Try.results19, go_sem]) rfl ⟨by rw [HE.out], (Below.refl _ _).alloc (Nat.le_refl _) _⟩
      · have e1 : oth n k i = i := by unfold oth mx; (repeat' split) <;> omega
        have HE := Lib.hid e1; clear e1
        go_enter Try.func19, Try.ntmps19
        go_wp2
        refine bodyPost_ret (v := .int .i64 i) (by simp [results, Try.results19, go_sem]) rfl ⟨by rw [HE.out], (Below.refl _ _).alloc (Nat.le_refl _) _⟩

end Go.Proofs.Ytilpcoebpinmfaa
