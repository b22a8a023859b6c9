/-
  Contracts of the reference's Begin and one.
-/
import Derived.Test.YtilpcoebpinmfaaCount
namespace Go.Proofs.Ytilpcoebpinmfaa
open Go.RowKit

set_option maxHeartbeats 400000 in
/-- the reference's Begin -/
theorem rbegin_any (i m b s : Int) (v : ByteArray) (w : World) :
    Calls Try.prog 11 #[.agg #[.int .i64 i, .int .i64 m, .int .i64 b, .string v], .int .i64 s] w fun e w' =>
      e = .returned (.agg #[.int .i64 i, .int .i64 m, .int .i64 b, .string v, .int .i64 (mx s m), .bool false, .bool false]) ∧ Below w.heap.size w w' := by
  by_cases hs : s < m
  · have e1 : mx s m = m := if_pos hs
    rw [e1]; clear e1
    go_enter Try.func11, Try.ntmps11
    go_wp2
    refine bodyPost_ret (v := .agg #[.int .i64 i, .int .i64 m, .int .i64 b, .string v, .int .i64 m, .bool false, .bool false]) (by simp [results, Try.results11, go_sem]) rfl ⟨rfl, ?_⟩
    exact ((Below.refl _ _).alloc (Nat.le_refl _) _).alloc (by simp) _
  · have e1 : mx s m = s := if_neg hs
    rw [e1]; clear e1
    go_enter Try.func11, Try.ntmps11
    go_wp2
    refine bodyPost_ret (v := .agg #[.int .i64 i, .int .i64 m, .int .i64 b, .string v, .int .i64 s, .bool false, .bool false]) (by simp [results, Try.results11, go_sem]) rfl ⟨rfl, ?_⟩
    exact ((Below.refl _ _).alloc (Nat.le_refl _) _).alloc (by simp) _

set_option maxHeartbeats 4000000 in
/-- the reference's one -/
theorem rone_any (a b c s i m l : Int) (v z : ByteArray) (x y : Bool) (w : World) :
    Calls Try.prog 22 #[.agg #[.int .i64 a, .int .i64 b, .int .i64 c, .string v, .int .i64 s, .bool x, .bool y], .agg #[.int .i64 i, .int .i64 m, .int .i64 l, .string z]] w fun e w' =>
      e = .returned (.agg (tc (oneT ⟨a, b, c, v, s, x, y⟩ ⟨i, m, l, z⟩))) ∧ Below w.heap.size w w' := by
  by_cases hs : s < m
  · skip
    by_cases ha : a < i
    · skip
      have hne : ¬ i = a := by omega
      have e1 : oneT ⟨a, b, c, v, s, x, y⟩ ⟨i, m, l, z⟩ = ⟨a, b, c, v, m, true, y⟩ := by simp [oneT, mx, hs, ha]
      rw [e1]; clear e1
      go_enter Try.func22, Try.ntmps22
      go_wp2
      refine bodyPost_ret (v := .agg #[.int .i64 a, .int .i64 b, .int .i64 c, .string v, .int .i64 m, .bool true, .bool y]) (by simp [results, Try.results22, go_sem]) rfl ⟨rfl, ?_⟩
      exact (((Below.refl _ _).alloc (Nat.le_refl _) _).alloc (by simp) _).alloc (by simp; omega) _
    · skip
      by_cases he : i = a
      · skip
        have he := he.symm
        subst he
        by_cases hb : b < m
        · skip
          by_cases hc : c < l
          · skip
            have e1 : oneT ⟨a, b, c, v, s, x, y⟩ ⟨a, m, l, z⟩ = ⟨a, b, l, z, m, x, true⟩ := by simp [oneT, hereT, mx, hs, hb, hc]
            rw [e1]; clear e1
            go_enter Try.func22, Try.ntmps22
            go_wp2
            refine bodyPost_ret (v := .agg #[.int .i64 a, .int .i64 b, .int .i64 l, .string z, .int .i64 m, .bool x, .bool true]) (by simp [results, Try.results22, go_sem]) rfl ⟨rfl, ?_⟩
            exact (((Below.refl _ _).alloc (Nat.le_refl _) _).alloc (by simp) _).alloc (by simp; omega) _
          · skip
            have e1 : oneT ⟨a, b, c, v, s, x, y⟩ ⟨a, m, l, z⟩ = ⟨a, b, c, v, m, x, true⟩ := by simp [oneT, hereT, mx, hs, hb, hc]
            rw [e1]; clear e1
            go_enter Try.func22, Try.ntmps22
            go_wp2
            refine bodyPost_ret (v := .agg #[.int .i64 a, .int .i64 b, .int .i64 c, .string v, .int .i64 m, .bool x, .bool true]) (by simp [results, Try.results22, go_sem]) rfl ⟨rfl, ?_⟩
            exact (((Below.refl _ _).alloc (Nat.le_refl _) _).alloc (by simp) _).alloc (by simp; omega) _
        · skip
          by_cases hc : c < l
          · skip
            have e1 : oneT ⟨a, b, c, v, s, x, y⟩ ⟨a, m, l, z⟩ = ⟨a, b, l, z, m, x, y⟩ := by simp [oneT, hereT, mx, hs, hb, hc]
            rw [e1]; clear e1
            go_enter Try.func22, Try.ntmps22
            go_wp2
            refine bodyPost_ret (v := .agg #[.int .i64 a, .int .i64 b, .int .i64 l, .string z, .int .i64 m, .bool x, .bool y]) (by simp [results, Try.results22, go_sem]) rfl ⟨rfl, ?_⟩
            exact (((Below.refl _ _).alloc (Nat.le_refl _) _).alloc (by simp) _).alloc (by simp; omega) _
          · skip
            have e1 : oneT ⟨a, b, c, v, s, x, y⟩ ⟨a, m, l, z⟩ = ⟨a, b, c, v, m, x, y⟩ := by simp [oneT, hereT, mx, hs, hb, hc]
            rw [e1]; clear e1
            go_enter Try.func22, Try.ntmps22
            go_wp2
            refine bodyPost_ret (v := .agg #[.int .i64 a, .int .i64 b, .int .i64 c, .string v, .int .i64 m, .bool x, .bool y]) (by simp [results, Try.results22, go_sem]) rfl ⟨rfl, ?_⟩
            exact (((Below.refl _ _).alloc (Nat.le_refl _) _).alloc (by simp) _).alloc (by simp; omega) _
      · skip
        have e1 : oneT ⟨a, b, c, v, s, x, y⟩ ⟨i, m, l, z⟩ = ⟨a, b, c, v, m, x, y⟩ := by simp [oneT, mx, hs, ha, he]
        rw [e1]; clear e1
        go_enter Try.func22, Try.ntmps22
        go_wp2
        refine bodyPost_ret (v := .agg #[.int .i64 a, .int .i64 b, .int .i64 c, .string v, .int .i64 m, .bool x, .bool y]) (by simp [results, Try.results22, go_sem]) rfl ⟨rfl, ?_⟩
        exact (((Below.refl _ _).alloc (Nat.le_refl _) _).alloc (by simp) _).alloc (by simp; omega) _
  · skip
    by_cases ha : a < i
    · skip
      have hne : ¬ i = a := by omega
      have e1 : oneT ⟨a, b, c, v, s, x, y⟩ ⟨i, m, l, z⟩ = ⟨a, b, c, v, s, true, y⟩ := by simp [oneT, mx, hs, ha]
      rw [e1]; clear e1
      go_enter Try.func22, Try.ntmps22
      go_wp2
      refine bodyPost_ret (v := .agg #[.int .i64 a, .int .i64 b, .int .i64 c, .string v, .int .i64 s, .bool true, .bool y]) (by simp [results, Try.results22, go_sem]) rfl ⟨rfl, ?_⟩
      exact (((Below.refl _ _).alloc (Nat.le_refl _) _).alloc (by simp) _).alloc (by simp; omega) _
    · skip
      by_cases he : i = a
      · skip
        have he := he.symm
        subst he
        by_cases hb : b < m
        · skip
          by_cases hc : c < l
          · skip
            have e1 : oneT ⟨a, b, c, v, s, x, y⟩ ⟨a, m, l, z⟩ = ⟨a, b, l, z, s, x, true⟩ := by simp [oneT, hereT, mx, hs, hb, hc]
            rw [e1]; clear e1
            go_enter Try.func22, Try.ntmps22
            go_wp2
            refine bodyPost_ret (v := .agg #[.int .i64 a, .int .i64 b, .int .i64 l, .string z, .int .i64 s, .bool x, .bool true]) (by simp [results, Try.results22, go_sem]) rfl ⟨rfl, ?_⟩
            exact (((Below.refl _ _).alloc (Nat.le_refl _) _).alloc (by simp) _).alloc (by simp; omega) _
          · skip
            have e1 : oneT ⟨a, b, c, v, s, x, y⟩ ⟨a, m, l, z⟩ = ⟨a, b, c, v, s, x, true⟩ := by simp [oneT, hereT, mx, hs, hb, hc]
            rw [e1]; clear e1
            go_enter Try.func22, Try.ntmps22
            go_wp2
            refine bodyPost_ret (v := .agg #[.int .i64 a, .int .i64 b, .int .i64 c, .string v, .int .i64 s, .bool x, .bool true]) (by simp [results, Try.results22, go_sem]) rfl ⟨rfl, ?_⟩
            exact (((Below.refl _ _).alloc (Nat.le_refl _) _).alloc (by simp) _).alloc (by simp; omega) _
        · skip
          by_cases hc : c < l
          · skip
            have e1 : oneT ⟨a, b, c, v, s, x, y⟩ ⟨a, m, l, z⟩ = ⟨a, b, l, z, s, x, y⟩ := by simp [oneT, hereT, mx, hs, hb, hc]
            rw [e1]; clear e1
            go_enter Try.func22, Try.ntmps22
            go_wp2
            refine bodyPost_ret (v := .agg #[.int .i64 a, .int .i64 b, .int .i64 l, .string z, .int .i64 s, .bool x, .bool y]) (by simp [results, Try.results22, go_sem]) rfl ⟨rfl, ?_⟩
            exact (((Below.refl _ _).alloc (Nat.le_refl _) _).alloc (by simp) _).alloc (by simp; omega) _
          · skip
            have e1 : oneT ⟨a, b, c, v, s, x, y⟩ ⟨a, m, l, z⟩ = ⟨a, b, c, v, s, x, y⟩ := by simp [oneT, hereT, mx, hs, hb, hc]
            rw [e1]; clear e1
            go_enter Try.func22, Try.ntmps22
            go_wp2
            refine bodyPost_ret (v := .agg #[.int .i64 a, .int .i64 b, .int .i64 c, .string v, .int .i64 s, .bool x, .bool y]) (by simp [results, Try.results22, go_sem]) rfl ⟨rfl, ?_⟩
            exact (((Below.refl _ _).alloc (Nat.le_refl _) _).alloc (by simp) _).alloc (by simp; omega) _
      · skip
        have e1 : oneT ⟨a, b, c, v, s, x, y⟩ ⟨i, m, l, z⟩ = ⟨a, b, c, v, s, x, y⟩ := by simp [oneT, mx, hs, ha, he]
        rw [e1]; clear e1
        go_enter Try.func22, Try.ntmps22
        go_wp2
        refine bodyPost_ret (v := .agg #[.int .i64 a, .int .i64 b, .int .i64 c, .string v, .int .i64 s, .bool x, .bool y]) (by simp [results, Try.results22, go_sem]) rfl ⟨rfl, ?_⟩
        exact (((Below.refl _ _).alloc (Nat.le_refl _) _).alloc (by simp) _).alloc (by simp; omega) _

end Go.Proofs.Ytilpcoebpinmfaa
