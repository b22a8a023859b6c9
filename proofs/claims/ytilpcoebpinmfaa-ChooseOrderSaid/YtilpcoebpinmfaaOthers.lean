/-
  Contract of choose's Others.
-/
import Derived.Test.YtilpcoebpinmfaaTally
namespace Go.Proofs.Ytilpcoebpinmfaa
open Go.RowKit

/-- the next other node -/
def oth (n k i : Int) : Int := if mx i 0 < n then (if mx i 0 = k then (if k + 1 < n then k + 1 else n) else mx i 0) else n

set_option maxHeartbeats 1000000 in
/-- Others -/
theorem others_any (n k i a b c d e f g : Int) (hn : n < 9223372036854775808) (w : World) :
    Calls Try.prog 18 #[.agg #[.int .i64 n, .int .i64 a, .int .i64 b, .int .i64 c, .int .i64 d, .int .i64 e, .int .i64 f, .int .i64 g], .int .i64 k, .int .i64 i] w
      fun x w' => x = .returned (.int .i64 (oth n k i)) ∧ Below w.heap.size w w' := by
  unfold oth mx
  by_cases hi : i < 0
  · simp only [if_pos hi]
    by_cases h1 : 0 < n
    · rw [if_pos h1]
      by_cases h2 : 0 = k
      · rw [if_pos h2]
        subst h2
        by_cases h3 : (0 : Int) + 1 < n
        · rw [if_pos h3]
          have h3' : (1 : Int) < n := by omega
          go_enter Try.func18, Try.ntmps18
          go_wp2
          refine wp_loop_rounds 2 ?_
          rw [rounds_succ]
          go_wp2
          rw [rounds_succ]
          go_wp2
          refine bodyPost_ret (v := .int .i64 1) (by simp [results, Try.results18, go_sem]) rfl ⟨rfl, (Below.refl _ _).alloc (Nat.le_refl _) _⟩
        · rw [if_neg h3]
          have h3' : ¬ (1 : Int) < n := by omega
          go_enter Try.func18, Try.ntmps18
          go_wp2
          refine wp_loop_rounds 2 ?_
          rw [rounds_succ]
          go_wp2
          rw [rounds_succ]
          go_wp2
          refine bodyPost_ret (v := .int .i64 n) (by simp [results, Try.results18, go_sem]) rfl ⟨rfl, (Below.refl _ _).alloc (Nat.le_refl _) _⟩
      · rw [if_neg h2]
        go_enter Try.func18, Try.ntmps18
        go_wp2
        refine wp_loop_rounds 1 ?_
        rw [rounds_succ]
        go_wp2
        refine bodyPost_ret (v := .int .i64 0) (by simp [results, Try.results18, go_sem]) rfl ⟨rfl, (Below.refl _ _).alloc (Nat.le_refl _) _⟩
    · rw [if_neg h1]
      go_enter Try.func18, Try.ntmps18
      go_wp2
      refine wp_loop_rounds 1 ?_
      rw [rounds_succ]
      go_wp2
      refine bodyPost_ret (v := .int .i64 n) (by simp [results, Try.results18, go_sem]) rfl ⟨rfl, (Below.refl _ _).alloc (Nat.le_refl _) _⟩
  · simp only [if_neg hi]
    by_cases h1 : i < n
    · rw [if_pos h1]
      by_cases h2 : i = k
      · rw [if_pos h2]
        subst h2
        by_cases h3 : i + 1 < n
        · rw [if_pos h3]
          go_enter Try.func18, Try.ntmps18
          go_wp2
          refine wp_loop_rounds 2 ?_
          rw [rounds_succ]
          go_wp2
          rw [rounds_succ]
          go_wp2
          refine bodyPost_ret (v := .int .i64 (i + 1)) (by simp [results, Try.results18, go_sem]) rfl ⟨rfl, (Below.refl _ _).alloc (Nat.le_refl _) _⟩
        · rw [if_neg h3]
          go_enter Try.func18, Try.ntmps18
          go_wp2
          refine wp_loop_rounds 2 ?_
          rw [rounds_succ]
          go_wp2
          rw [rounds_succ]
          go_wp2
          refine bodyPost_ret (v := .int .i64 n) (by simp [results, Try.results18, go_sem]) rfl ⟨rfl, (Below.refl _ _).alloc (Nat.le_refl _) _⟩
      · rw [if_neg h2]
        go_enter Try.func18, Try.ntmps18
        go_wp2
        refine wp_loop_rounds 1 ?_
        rw [rounds_succ]
        go_wp2
        refine bodyPost_ret (v := .int .i64 i) (by simp [results, Try.results18, go_sem]) rfl ⟨rfl, (Below.refl _ _).alloc (Nat.le_refl _) _⟩
    · rw [if_neg h1]
      go_enter Try.func18, Try.ntmps18
      go_wp2
      refine wp_loop_rounds 1 ?_
      rw [rounds_succ]
      go_wp2
      refine bodyPost_ret (v := .int .i64 n) (by simp [results, Try.results18, go_sem]) rfl ⟨rfl, (Below.refl _ _).alloc (Nat.le_refl _) _⟩

end Go.Proofs.Ytilpcoebpinmfaa
