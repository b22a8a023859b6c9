/-
  What each statement of package num asks besides: the document's two calls come to what it says.
-/
import Derived.Test.YtnoojlgefpekiaaNumB
import Derived.Test.YtnoojlgefpekiaaNumC
namespace Go.Proofs.Ytnoojlgefpekiaa
open Go.RowKit

theorem wakes_get (w : World) : Calls Try.prog 13 #[.string ⟨#[1, 2]⟩, .int .i64 0, .int .i64 2] w fun e w' => e = .returned (.tuple #[.int .i64 513, .int .i64 0]) ∧ w = w' := by
  have h := get_any ⟨#[1, 2]⟩ 0 2 w (by decide) (by decide) (by unfold maxLen; decide) (by decide)
  have e : leval (win ⟨#[1, 2]⟩ 0 2) = 513 := by decide +kernel
  rw [e] at h
  exact h.mono fun e w' h => h

theorem wakes_put (w : World) : Calls Try.prog 12 #[.slice none 0 0, .int .i64 2, .slice (some ⟨w.heap.size, 0, none⟩) 2 2] (w.alloc (.cells #[.int .i64 1, .int .i64 256] 3)) fun e w' =>
    ∃ A n c, e = .returned (.tuple #[.slice A n c, .int .i64 0]) ∧ (convert 24 9 (.slice A n c)).run Try.prog w' = .ok (.string ⟨#[1, 0, 0, 1]⟩) w' ∧ Below w.heap.size w w' := by
  have hr : Rd (w.alloc (.cells #[.int .i64 1, .int .i64 256] 3)) (w.alloc (.cells #[.int .i64 1, .int .i64 256] 3)).heap.size (some ⟨w.heap.size, 0, none⟩) 2 (cI [1, 256]) := by
    have := Rd.new w 3 (cI [1, 256])
    simpa [cI] using this
  refine (put_ok none _ 0 0 2 2 2 [] [1, 256] _ (by decide) (by decide) (by decide) (by decide) Rd.nil hr (by decide +kernel)).mono ?_
  rintro e w1 ⟨A, n, c, rfl, hnc, hrd, hb⟩
  refine ⟨A, n, c, rfl, ?_, ((Below.refl _ _).alloc (Nat.le_refl _) _).trans (hb.mono (by simp))⟩
  have e2 : [] ++ putL 2 [1, 256] = [1, 0, 0, 1] := by decide +kernel
  have := run_str c hrd
  rw [e2] at this
  exact this

set_option maxHeartbeats 400000 in
theorem wakes_any (w : World) : Calls Try.prog 11 #[] w fun e w' => e = .returned (.bool true) ∧ Below w.heap.size w w' := by
  go_enter Try.func11, Try.ntmps11
  go_wp2_with fail
  refine (wakes_put w).mono ?_
  rintro e w1 ⟨A, n, c, rfl, hs, hb⟩
  go_wp2_with fail
  refine (wakes_get _).mono ?_
  rintro e w2 ⟨rfl, rfl⟩
  go_wp2
  go_ret
  exact ⟨rfl, hb⟩

end Go.Proofs.Ytnoojlgefpekiaa
