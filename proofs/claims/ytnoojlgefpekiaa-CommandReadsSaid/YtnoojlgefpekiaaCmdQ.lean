/-
  Contracts of commands: Read of any text.
-/
import Derived.Test.YtnoojlgefpekiaaCmdP
namespace Go.Proofs.Ytnoojlgefpekiaa
open Go.RowKit

theorem takeTo (G x : Nat) (t : ByteArray × Bool) (h : t.1.size ≤ 1000) : TakeTo G x t (takeV t.1 x) (takeT t.1 t.2 x) :=
  fun W hb => take_any G 57 t.1 t.2 x W hb h
theorem takeTo' (G x : Nat) (t : ByteArray × Bool) (v : Int) (t' : ByteArray × Bool) (h : t.1.size ≤ 1000) (hv : takeV t.1 x = v) (ht : takeT t.1 t.2 x = t') : TakeTo G x t v t' := by
  rw [← hv, ← ht]; exact takeTo G x t h
theorem takeV_pos (s : ByteArray) (x : Nat) : 0 ≤ takeV s x := by
  unfold takeV getR
  repeat' split
  all_goals simp
theorem takeT_size (s : ByteArray) (bad : Bool) (x : Nat) : (takeT s bad x).1.size ≤ s.size := by
  unfold takeT
  split
  · show (s.extract x s.size).size ≤ _
    rw [ByteArray.size_extract]; omega
  · exact Nat.le_refl _

/-- Read -/
theorem read_any (s : ByteArray) (w : World) (hs : s.size ≤ 1000) :
    Calls Try.prog 22 #[.string s] w fun e w' => e = .returned (.tuple #[.agg (cC (readC s).1), .int .i64 (readC s).2]) ∧ Below w.heap.size w w' := by
  obtain ⟨t1, ht1⟩ : ∃ t, takeT s false 1 = t := ⟨_, rfl⟩
  obtain ⟨t2, ht2⟩ : ∃ t, takeT t1.1 t1.2 6 = t := ⟨_, rfl⟩
  obtain ⟨t3, ht3⟩ : ∃ t, takeT t2.1 t2.2 4 = t := ⟨_, rfl⟩
  have s1 : t1.1.size ≤ 1000 := by rw [← ht1]; exact Nat.le_trans (takeT_size _ _ _) hs
  have s2 : t2.1.size ≤ 1000 := by rw [← ht2]; exact Nat.le_trans (takeT_size _ _ _) s1
  have s3 : t3.1.size ≤ 1000 := by rw [← ht3]; exact Nat.le_trans (takeT_size _ _ _) s2
  have sz : ∀ (t : ByteArray × Bool) (x : Nat), t.1.size ≤ 1000 → (takeT t.1 t.2 x).1.size ≤ 1000 := fun t x h => Nat.le_trans (takeT_size _ _ _) h
  have hR : readC s = readB t3 (min (takeV s 1) 127) (takeV t1.1 6) (takeV t2.1 4) := by unfold readC; simp only [ht1, ht2, ht3]
  have v0 := takeV_pos s 1
  have c1 : TakeTo (w.heap.size + 1) 1 (s, false) (takeV s 1) t1 := takeTo' _ _ _ _ _ hs rfl ht1
  have c2 : TakeTo (w.heap.size + 1) 6 t1 (takeV t1.1 6) t2 := takeTo' _ _ _ _ _ s1 rfl ht2
  have c3 : TakeTo (w.heap.size + 1) 4 t2 (takeV t2.1 4) t3 := takeTo' _ _ _ _ _ s2 rfl ht3
  rw [hR]
  generalize takeV s 1 = v1 at *
  by_cases h : 127 < v1
  · have e : min v1 127 = 127 := by omega
    rw [e]
    exact rd_b s w v1 _ _ t1 t2 t3 h c1 c2 c3
  · have e : min v1 127 = v1 := by omega
    rw [e]
    unfold readB
    by_cases k2 : v1 = 2
    · subst k2
      rw [if_pos rfl]
      have c4 := takeTo (w.heap.size + 1) 1 t3 s3
      have c5 := takeTo (w.heap.size + 1) 1 _ (sz t3 1 s3)
      have c6 := takeTo (w.heap.size + 1) 1 _ (sz _ 1 (sz t3 1 s3))
      have m0 := takeV_pos (takeT (takeT t3.1 t3.2 1).1 (takeT t3.1 t3.2 1).2 1).1 1
      by_cases m : 127 < takeV (takeT (takeT t3.1 t3.2 1).1 (takeT t3.1 t3.2 1).2 1).1 1
      · rw [show min (takeV (takeT (takeT t3.1 t3.2 1).1 (takeT t3.1 t3.2 1).2 1).1 1) 127 = 127 by omega]
        exact rd_2b s w _ _ _ _ _ t1 t2 t3 _ _ _ m c1 c2 c3 c4 c5 c6
      · rw [show min (takeV (takeT (takeT t3.1 t3.2 1).1 (takeT t3.1 t3.2 1).2 1).1 1) 127 = takeV (takeT (takeT t3.1 t3.2 1).1 (takeT t3.1 t3.2 1).2 1).1 1 by omega]
        exact rd_2 s w _ _ _ _ _ t1 t2 t3 _ _ _ m0 (by omega) c1 c2 c3 c4 c5 c6
    · rw [if_neg k2]
      by_cases k3 : v1 = 3
      · subst k3
        rw [if_pos rfl]
        exact rd_3 s w _ _ _ _ t1 t2 t3 _ _ c1 c2 c3 (takeTo _ 1 t3 s3) (takeTo _ 1 _ (sz t3 1 s3))
      · rw [if_neg k3]
        by_cases k4 : v1 = 4
        · subst k4
          rw [if_pos rfl]
          exact rd_4 s w _ _ _ _ t1 t2 t3 _ _ c1 c2 c3 (takeTo _ 6 t3 s3) (takeTo _ 6 _ (sz t3 6 s3))
        · rw [if_neg k4]
          by_cases k5 : v1 = 5
          · subst k5
            rw [if_pos rfl]
            exact rd_5 s w _ _ _ t1 t2 t3 _ c1 c2 c3 (takeTo _ 6 t3 s3)
          · rw [if_neg k5]
            exact rd_n s w v1 _ _ t1 t2 t3 v0 (by omega) (by simp [k2]) (by simp [k3]) (by simp [k4]) (by simp [k5]) c1 c2 c3

end Go.Proofs.Ytnoojlgefpekiaa
