/-
  The reference's Read, for any text; the walk of breakwaterlaw10.CommandReads.
-/
import Derived.Test.YtnoojlgefpekiaaCmdRC
import Derived.Test.YtnoojlgefpekiaaCmdR
namespace Go.Proofs.Ytnoojlgefpekiaa
open Go.RowKit

theorem rread_any (s : ByteArray) (w : World) (hs : s.size ≤ 200) :
    Calls Try.prog 23 #[.string s] w fun e w' => e = .returned (.tuple #[.agg (cC (readC s).1), .int .i64 (readC s).2]) ∧ Below w.heap.size w w' := by
  by_cases h11 : 11 ≤ s.size
  · obtain ⟨v1, e1, g1⟩ : ∃ v1 e1, getR s 1 6 = (v1, e1) := ⟨_, _, rfl⟩
    obtain ⟨v2, e2, g2⟩ : ∃ v2 e2, getR s 7 4 = (v2, e2) := ⟨_, _, rfl⟩
    obtain ⟨b, hb⟩ : ∃ b, (s[0]'(by omega)).toNat = b := ⟨_, rfl⟩
    obtain ⟨R, hR⟩ : ∃ R, s.extract 11 s.size = R := ⟨_, rfl⟩
    have hRs : R.size ≤ 1000 := by rw [← hR, ByteArray.size_extract]; omega
    have lk : Known s v1 e1 v2 e2 b R := by
      intro d hm hd
      obtain ⟨_, x1, x2, x3, x4⟩ := like d hm s hd
      rw [g1] at x1
      rw [g2] at x2
      injection x1 with x1 y1
      injection x2 with x2 y2
      refine ⟨y1, x1, y2, x2, ?_, ?_⟩
      · rw [← hb]; exact x3 (by omega)
      · rw [← hR]; exact x4
    by_cases q1 : e1 = 0
    · subst q1
      by_cases q2 : e2 = 0
      · subst q2
        by_cases hb2 : 127 < b
        · exact rr_b s w v1 v2 b R hs h11 g1 g2 hb lk hb2
        · have hb3 : b ≤ 127 := by omega
          have t : ∀ k : Int, (b : Int) = k → ((b : Int) == k) = true := fun k h => by simp [h]
          have f : ∀ k : Int, ¬ (b : Int) = k → ((b : Int) == k) = false := fun k h => beq_eq_false_iff_ne.2 h
          by_cases k2 : (b : Int) = 2
          · exact rr_2 s w v1 v2 b R hs h11 g1 g2 hb hR lk hb3 (t _ k2)
          · by_cases k3 : (b : Int) = 3
            · exact rr_3 s w v1 v2 b R hs h11 g1 g2 hb hR lk hb3 (f _ k2) (t _ k3)
            · by_cases k4 : (b : Int) = 4
              · exact rr_4 s w v1 v2 b R hs h11 g1 g2 hb hR hRs lk hb3 (f _ k2) (f _ k3) (t _ k4)
              · by_cases k5 : (b : Int) = 5
                · exact rr_5 s w v1 v2 b R hs h11 g1 g2 hb hR hRs lk hb3 (f _ k2) (f _ k3) (f _ k4) (t _ k5)
                · exact rr_0 s w v1 v2 b R hs h11 g1 g2 hb hR lk hb3 (f _ k2) (f _ k3) (f _ k4) (f _ k5)
      · exact rr_e2 s w v1 v2 e2 b R hs h11 g1 g2 lk (beq_eq_false_iff_ne.2 q2)
    · exact rr_e1 s w v1 v2 e1 e2 b R hs h11 g1 g2 lk (beq_eq_false_iff_ne.2 q1)
  · exact rr_short s w (by omega)

set_option maxHeartbeats 1000000 in
theorem cr_long (s : ByteArray) (w : World) (hs : 200 < s.size) : Calls Try.prog 8 #[.string s] w fun e w' => e = .returned (.bool true) ∧ Below w.heap.size w w' := by
  go_enter Try.func8, Try.ntmps8
  go_wp2_with fail
  refine (wakes_cmd _).mono ?_
  rintro e w9 ⟨rfl, b9⟩
  go_wp2
  go_ret
  exact ⟨rfl, b9⟩

set_option maxHeartbeats 1000000 in
theorem cr_main (s : ByteArray) (w : World) (hs : s.size ≤ 200) : Calls Try.prog 8 #[.string s] w fun e w' => e = .returned (.bool true) ∧ Below w.heap.size w w' := by
  obtain ⟨c, f, hr⟩ : ∃ c f, readC s = (c, f) := ⟨_, _, rfl⟩
  have c1 := fun W => read_any s W (by omega)
  have c2 := fun W => rread_any s W hs
  rw [hr] at c1 c2
  simp only [cC] at c1 c2
  have C1 := Lib.hid c1; have C2 := Lib.hid c2
  clear c1 c2 hr
  go_enter Try.func8, Try.ntmps8
  go_wp2_with fail
  refine (C1.out _).mono ?_
  rintro e w1 ⟨rfl, b1⟩
  have B1 := Lib.hid b1
  clear b1
  go_wp2_with fail
  refine (C2.out _).mono ?_
  rintro e w2 ⟨rfl, b2⟩
  have kp := (Blk.new w1 42 (cC c)).below b2 (Blk.new w1 42 (cC c)).lt
  have KP : Hid (Blk w2 w1.heap.size 42 (cC c)) := Lib.hid kp
  have B2 : Hid (Below w.heap.size w w2) := Lib.hid (by
    have k := B1.out.alloc B1.out.size (Obj.cells (cC c) 42)
    exact k.trans (b2.mono k.size))
  have hlt := kp.lt
  clear b2 B1 C1 C2 kp
  have r0 : w2.cell? ⟨w1.heap.size, 0, none⟩ = some (.int .i8 c.kind) := by rw [KP.out.cell 0]; rfl
  have r1 : w2.cell? ⟨w1.heap.size, 1, none⟩ = some (.int .i64 c.node) := by rw [KP.out.cell 1]; rfl
  have r2 : w2.cell? ⟨w1.heap.size, 2, none⟩ = some (.int .i64 c.serial) := by rw [KP.out.cell 2]; rfl
  have r3 : w2.cell? ⟨w1.heap.size, 3, none⟩ = some (.int .i64 c.dead) := by rw [KP.out.cell 3]; rfl
  have r4 : w2.cell? ⟨w1.heap.size, 4, none⟩ = some (.int .i64 c.was) := by rw [KP.out.cell 4]; rfl
  have r5 : w2.cell? ⟨w1.heap.size, 5, none⟩ = some (.int .i64 c.lo) := by rw [KP.out.cell 5]; rfl
  have r6 : w2.cell? ⟨w1.heap.size, 6, none⟩ = some (.int .i64 c.hi) := by rw [KP.out.cell 6]; rfl
  have r7 : w2.cell? ⟨w1.heap.size, 7, none⟩ = some (.int .i8 c.mode) := by rw [KP.out.cell 7]; rfl
  have k4 := B2.out.alloc B2.out.size (Obj.cells (cC c) 42)
  have K4 := Lib.hid k4
  clear k4 KP
  simp only [cC] at K4
  go_wp2_with fail
  refine (wakes_cmd _).mono ?_
  rintro e w9 ⟨rfl, b9⟩
  go_wp2
  go_ret
  exact ⟨rfl, K4.out.trans (b9.mono K4.out.size)⟩

theorem cr_any (s : ByteArray) (w : World) : Calls Try.prog 8 #[.string s] w fun e w' => e = .returned (.bool true) ∧ Below w.heap.size w w' := by
  by_cases h : 200 < s.size
  · exact cr_long s w h
  · exact cr_main s w (by omega)

end Go.Proofs.Ytnoojlgefpekiaa
