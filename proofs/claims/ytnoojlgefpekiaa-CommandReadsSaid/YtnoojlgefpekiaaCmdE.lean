/-
  Contracts of commands: may, May. (Printed by cmd_may2.py.)
-/
import Derived.Test.YtnoojlgefpekiaaCmdC
namespace Go.Proofs.Ytnoojlgefpekiaa
open Go.RowKit

set_option maxRecDepth 100000 in
set_option maxHeartbeats 4000000 in
theorem may_key (g : Nat) (T : TypeId) (c : Cm) (b : Value) (w : World) (hb : Blk w g T (cO c b)) (hK : keyB c.node = false) :
    Calls Try.prog 33 #[.pointer (some ⟨g, 0, none⟩)] w fun e w' => e = .returned (.bool (mayC c)) ∧ Below w.heap.size w w' := by
  have e : mayC c = false := by simp [mayC, hK]
  rw [e]; clear e
  have HB := Lib.hid hb; clear hb
  have kd := fun W => key_below c.node W
  rw [hK] at kd
  have KD := Lib.hid kd; clear kd hK
  go_enter Try.func33, Try.ntmps33
  go_upto_region 1 with fail
  refine wp_region_grows 23 ((fun q_ _ _ => q_ = .pointer (some ⟨g, 0, none⟩)) :: (fun q_ _ _ => q_ = .pointer (some ⟨g, 0, none⟩)) :: (fun q_ _ _ => q_ = .pointer (some ⟨g, 0, none⟩)) :: (fun q_ _ _ => q_ = .pointer (some ⟨g, 1, none⟩)) :: (fun q_ _ _ => q_ = .int .i64 c.node) :: (fun q_ _ _ => q_ = .bool false) :: (fun q_ _ _ => q_ = .bool true) :: (fun q_ _ _ => q_ = .bool true) :: (fun q_ _ _ => q_ = undef) :: (fun q_ _ _ => q_ = undef) :: (fun q_ _ _ => q_ = undef) :: (fun q_ _ _ => q_ = undef) :: (fun q_ _ _ => q_ = undef) :: (fun q_ _ _ => q_ = undef) :: (fun q_ _ _ => q_ = .bool true) :: (fun q_ _ _ => q_ = .bool true) :: (fun q_ _ _ => q_ = undef) :: (fun q_ _ _ => q_ = undef) :: (fun q_ _ _ => q_ = undef) :: (fun q_ _ _ => q_ = undef) :: (fun q_ _ _ => q_ = undef) :: (fun q_ _ _ => q_ = undef) :: (fun q_ _ _ => q_ = .bool true) :: []) (fun _ => false) (w.heap.size) w (by kernel_rfl) (by kernel_rfl) (by kernel_rfl) (Below.refl _ _) (Nat.le_refl _) ?zStab (fun _ h => by cases h) ?zOps ?zFin
  case zStab => exact ⟨st_is _, st_is _, st_is _, st_is _, st_is _, st_is _, st_is _, st_is _, st_is _, st_is _, st_is _, st_is _, st_is _, st_is _, st_is _, st_is _, st_is _, st_is _, st_is _, st_is _, st_is _, st_is _, st_is _, trivial⟩
  case zOps =>
    intro Q
    refine ⟨?_, ?_, ?_, ?_, ?_, ?_, ?_, ?_, ?_, ?_, ?_, ?_, ?_, ?_, ?_, ?_, ?_, ?_, ?_, ?_, ?_, ?_, ?_, trivial⟩
    · intro ho a W hW hd hx
      have h0 : a.eval (.tmp 0) = .pointer (some ⟨g, 0, none⟩) := (hx 0 (dst_not (by kernel_rfl))).trans rfl
      exact op_v ho (.pointer (some ⟨g, 0, none⟩)) rfl (by intro ρ hρ kc kf; rw [← hρ] at h0; clear hρ; simp [execOp, go_sem, h0]) rfl rfl
    · intro ho a W hW hd hx
      have h3 : a.eval (.tmp 3) = .pointer (some ⟨g, 0, none⟩) := hd 0 (by kernel_rfl)
      exact op_v ho (.pointer (some ⟨g, 0, none⟩)) rfl (by intro ρ hρ kc kf; rw [← hρ] at h3; clear hρ; simp [execOp, go_sem, h3]) rfl rfl
    · intro ho a W hW hd hx
      have h4 : a.eval (.tmp 4) = .pointer (some ⟨g, 0, none⟩) := hd 1 (by kernel_rfl)
      exact op_v ho (.pointer (some ⟨g, 0, none⟩)) rfl (by intro ρ hρ kc kf; rw [← hρ] at h4; clear hρ; simp [execOp, go_sem, h4]) rfl rfl
    · intro ho a W hW hd hx
      have h5 : a.eval (.tmp 5) = .pointer (some ⟨g, 0, none⟩) := hd 2 (by kernel_rfl)
      exact op_v ho (.pointer (some ⟨g, 1, none⟩)) rfl (by intro ρ hρ kc kf; rw [← hρ] at h5; clear hρ; simp [execOp, go_sem, h5]) rfl rfl
    · intro ho a W hW hd hx
      have h6 : a.eval (.tmp 6) = .pointer (some ⟨g, 1, none⟩) := hd 3 (by kernel_rfl)
      have hcell : W.cell? ⟨g, 1, none⟩ = some (.int .i64 c.node) := by rw [(HB.out.below hW HB.out.lt).cell 1]; rfl
      exact op_v ho (.int .i64 c.node) rfl (by intro ρ hρ kc kf; rw [← hρ] at h6; clear hρ; simp [execOp, go_sem, h6, hcell]) rfl rfl
    · intro ho a W hW hd hx
      have h7 : a.eval (.tmp 7) = .int .i64 c.node := hd 4 (by kernel_rfl)
      refine op_call ho (want_none rfl) (by intro ρ hρ kc kf; rw [← hρ] at h7; clear hρ; simp [execOp, go_sem, kf, h7]) (KD.out W) ?_
      rintro e W2 ⟨rfl, k2⟩
      exact ⟨_, rfl, _, rfl, (fun h => by cases h), rfl, k2, (fun h => absurd h (by decide))⟩
    · intro ho a W hW hd hx
      have h8 : a.eval (.tmp 8) = .bool false := hd 5 (by kernel_rfl)
      exact op_v ho (.bool true) rfl (by intro ρ hρ kc kf; rw [← hρ] at h8; clear hρ; simp [execOp, go_sem, h8]) rfl rfl
    · intro ho a W hW hd hx
      have h9 : a.eval (.tmp 9) = .bool true := hd 6 (by kernel_rfl)
      exact op_v ho (.bool true) rfl (by intro ρ hρ kc kf; rw [← hρ] at h9; clear hρ; simp [execOp, go_sem, h9]) rfl rfl
    · intro ho a W hW hd hx
      have h10 : a.eval (.tmp 10) = .bool true := hd 7 (by kernel_rfl)
      exact op_off ho rfl h10 (by decide) rfl
    · intro ho a W hW hd hx
      have h10 : a.eval (.tmp 10) = .bool true := hd 7 (by kernel_rfl)
      exact op_off ho rfl h10 (by decide) rfl
    · intro ho a W hW hd hx
      have h10 : a.eval (.tmp 10) = .bool true := hd 7 (by kernel_rfl)
      exact op_off ho rfl h10 (by decide) rfl
    · intro ho a W hW hd hx
      have h10 : a.eval (.tmp 10) = .bool true := hd 7 (by kernel_rfl)
      exact op_off ho rfl h10 (by decide) rfl
    · intro ho a W hW hd hx
      have h10 : a.eval (.tmp 10) = .bool true := hd 7 (by kernel_rfl)
      exact op_off ho rfl h10 (by decide) rfl
    · intro ho a W hW hd hx
      have h10 : a.eval (.tmp 10) = .bool true := hd 7 (by kernel_rfl)
      exact op_off ho rfl h10 (by decide) rfl
    · intro ho a W hW hd hx
      have h10 : a.eval (.tmp 10) = .bool true := hd 7 (by kernel_rfl)
      have h16 : a.eval (.tmp 16) = undef := hd 13 (by kernel_rfl)
      exact op_v ho (.bool true) rfl (by intro ρ hρ kc kf; rw [← hρ] at h10; clear hρ; simp [execOp, go_sem, kc, h10]) rfl rfl
    · intro ho a W hW hd hx
      have h17 : a.eval (.tmp 17) = .bool true := hd 14 (by kernel_rfl)
      exact op_v ho (.bool true) rfl (by intro ρ hρ kc kf; rw [← hρ] at h17; clear hρ; simp [execOp, go_sem, h17]) rfl rfl
    · intro ho a W hW hd hx
      have h18 : a.eval (.tmp 18) = .bool true := hd 15 (by kernel_rfl)
      exact op_off ho rfl h18 (by decide) rfl
    · intro ho a W hW hd hx
      have h18 : a.eval (.tmp 18) = .bool true := hd 15 (by kernel_rfl)
      exact op_off ho rfl h18 (by decide) rfl
    · intro ho a W hW hd hx
      have h18 : a.eval (.tmp 18) = .bool true := hd 15 (by kernel_rfl)
      exact op_off ho rfl h18 (by decide) rfl
    · intro ho a W hW hd hx
      have h18 : a.eval (.tmp 18) = .bool true := hd 15 (by kernel_rfl)
      exact op_off ho rfl h18 (by decide) rfl
    · intro ho a W hW hd hx
      have h18 : a.eval (.tmp 18) = .bool true := hd 15 (by kernel_rfl)
      exact op_off ho rfl h18 (by decide) rfl
    · intro ho a W hW hd hx
      have h18 : a.eval (.tmp 18) = .bool true := hd 15 (by kernel_rfl)
      exact op_off ho rfl h18 (by decide) rfl
    · intro ho a W hW hd hx
      have h18 : a.eval (.tmp 18) = .bool true := hd 15 (by kernel_rfl)
      have h24 : a.eval (.tmp 24) = undef := hd 21 (by kernel_rfl)
      exact op_v ho (.bool true) rfl (by intro ρ hρ kc kf; rw [← hρ] at h18; clear hρ; simp [execOp, go_sem, kc, h18]) rfl rfl
  intro v W hW hv _
  have hlast : v 22 = .bool true := hv 22 (by decide)
  simp only [List.take_succ_cons, List.take_zero, List.drop_succ_cons, List.drop_zero, fillL, wpTail, Act.put, List.setIfInBounds_toArray, List.set_cons_zero, List.set_cons_succ, Nat.reduceAdd]
  rw [hlast]
  go_wp2
  go_ret
  exact ⟨rfl, hW⟩

set_option maxRecDepth 100000 in
set_option maxHeartbeats 4000000 in
theorem may_s1 (g : Nat) (T : TypeId) (c : Cm) (b : Value) (w : World) (hb : Blk w g T (cO c b)) (hK : keyB c.node = true) (h1 : ¬ 1 ≤ c.serial) :
    Calls Try.prog 33 #[.pointer (some ⟨g, 0, none⟩)] w fun e w' => e = .returned (.bool (mayC c)) ∧ Below w.heap.size w w' := by
  have e : mayC c = false := by simp [mayC, hK, h1]
  rw [e]; clear e
  have HB := Lib.hid hb; clear hb
  have kd := fun W => key_below c.node W
  rw [hK] at kd
  have KD := Lib.hid kd; clear kd hK
  have H1 : Hid (decide (c.serial < 1) = true) := Lib.hid (by simp; omega)
  clear h1
  go_enter Try.func33, Try.ntmps33
  go_upto_region 1 with fail
  refine wp_region_grows 23 ((fun q_ _ _ => q_ = .pointer (some ⟨g, 0, none⟩)) :: (fun q_ _ _ => q_ = .pointer (some ⟨g, 0, none⟩)) :: (fun q_ _ _ => q_ = .pointer (some ⟨g, 0, none⟩)) :: (fun q_ _ _ => q_ = .pointer (some ⟨g, 1, none⟩)) :: (fun q_ _ _ => q_ = .int .i64 c.node) :: (fun q_ _ _ => q_ = .bool true) :: (fun q_ _ _ => q_ = .bool false) :: (fun q_ _ _ => q_ = .bool false) :: (fun q_ _ _ => q_ = .pointer (some ⟨g, 0, none⟩)) :: (fun q_ _ _ => q_ = .pointer (some ⟨g, 0, none⟩)) :: (fun q_ _ _ => q_ = .pointer (some ⟨g, 0, none⟩)) :: (fun q_ _ _ => q_ = .pointer (some ⟨g, 2, none⟩)) :: (fun q_ _ _ => q_ = .int .i64 c.serial) :: (fun q_ _ _ => q_ = .bool true) :: (fun q_ _ _ => q_ = .bool true) :: (fun q_ _ _ => q_ = .bool true) :: (fun q_ _ _ => q_ = undef) :: (fun q_ _ _ => q_ = undef) :: (fun q_ _ _ => q_ = undef) :: (fun q_ _ _ => q_ = undef) :: (fun q_ _ _ => q_ = undef) :: (fun q_ _ _ => q_ = undef) :: (fun q_ _ _ => q_ = .bool true) :: []) (fun _ => false) (w.heap.size) w (by kernel_rfl) (by kernel_rfl) (by kernel_rfl) (Below.refl _ _) (Nat.le_refl _) ?zStab (fun _ h => by cases h) ?zOps ?zFin
  case zStab => exact ⟨st_is _, st_is _, st_is _, st_is _, st_is _, st_is _, st_is _, st_is _, st_is _, st_is _, st_is _, st_is _, st_is _, st_is _, st_is _, st_is _, st_is _, st_is _, st_is _, st_is _, st_is _, st_is _, st_is _, trivial⟩
  case zOps =>
    intro Q
    refine ⟨?_, ?_, ?_, ?_, ?_, ?_, ?_, ?_, ?_, ?_, ?_, ?_, ?_, ?_, ?_, ?_, ?_, ?_, ?_, ?_, ?_, ?_, ?_, trivial⟩
    · intro ho a W hW hd hx
      have h0 : a.eval (.tmp 0) = .pointer (some ⟨g, 0, none⟩) := (hx 0 (dst_not (by kernel_rfl))).trans rfl
      exact op_v ho (.pointer (some ⟨g, 0, none⟩)) rfl (by intro ρ hρ kc kf; rw [← hρ] at h0; clear hρ; simp [execOp, go_sem, h0]) rfl rfl
    · intro ho a W hW hd hx
      have h3 : a.eval (.tmp 3) = .pointer (some ⟨g, 0, none⟩) := hd 0 (by kernel_rfl)
      exact op_v ho (.pointer (some ⟨g, 0, none⟩)) rfl (by intro ρ hρ kc kf; rw [← hρ] at h3; clear hρ; simp [execOp, go_sem, h3]) rfl rfl
    · intro ho a W hW hd hx
      have h4 : a.eval (.tmp 4) = .pointer (some ⟨g, 0, none⟩) := hd 1 (by kernel_rfl)
      exact op_v ho (.pointer (some ⟨g, 0, none⟩)) rfl (by intro ρ hρ kc kf; rw [← hρ] at h4; clear hρ; simp [execOp, go_sem, h4]) rfl rfl
    · intro ho a W hW hd hx
      have h5 : a.eval (.tmp 5) = .pointer (some ⟨g, 0, none⟩) := hd 2 (by kernel_rfl)
      exact op_v ho (.pointer (some ⟨g, 1, none⟩)) rfl (by intro ρ hρ kc kf; rw [← hρ] at h5; clear hρ; simp [execOp, go_sem, h5]) rfl rfl
    · intro ho a W hW hd hx
      have h6 : a.eval (.tmp 6) = .pointer (some ⟨g, 1, none⟩) := hd 3 (by kernel_rfl)
      have hcell : W.cell? ⟨g, 1, none⟩ = some (.int .i64 c.node) := by rw [(HB.out.below hW HB.out.lt).cell 1]; rfl
      exact op_v ho (.int .i64 c.node) rfl (by intro ρ hρ kc kf; rw [← hρ] at h6; clear hρ; simp [execOp, go_sem, h6, hcell]) rfl rfl
    · intro ho a W hW hd hx
      have h7 : a.eval (.tmp 7) = .int .i64 c.node := hd 4 (by kernel_rfl)
      refine op_call ho (want_none rfl) (by intro ρ hρ kc kf; rw [← hρ] at h7; clear hρ; simp [execOp, go_sem, kf, h7]) (KD.out W) ?_
      rintro e W2 ⟨rfl, k2⟩
      exact ⟨_, rfl, _, rfl, (fun h => by cases h), rfl, k2, (fun h => absurd h (by decide))⟩
    · intro ho a W hW hd hx
      have h8 : a.eval (.tmp 8) = .bool true := hd 5 (by kernel_rfl)
      exact op_v ho (.bool false) rfl (by intro ρ hρ kc kf; rw [← hρ] at h8; clear hρ; simp [execOp, go_sem, h8]) rfl rfl
    · intro ho a W hW hd hx
      have h9 : a.eval (.tmp 9) = .bool false := hd 6 (by kernel_rfl)
      exact op_v ho (.bool false) rfl (by intro ρ hρ kc kf; rw [← hρ] at h9; clear hρ; simp [execOp, go_sem, h9]) rfl rfl
    · intro ho a W hW hd hx
      have h10 : a.eval (.tmp 10) = .bool false := hd 7 (by kernel_rfl)
      have h0 : a.eval (.tmp 0) = .pointer (some ⟨g, 0, none⟩) := (hx 0 (dst_not (by kernel_rfl))).trans rfl
      exact op_vg ho (.pointer (some ⟨g, 0, none⟩)) rfl h10 (by intro ρ hρ kc kf; rw [← hρ] at h0; clear hρ; simp [execOp, go_sem, h0]) rfl rfl
    · intro ho a W hW hd hx
      have h10 : a.eval (.tmp 10) = .bool false := hd 7 (by kernel_rfl)
      have h11 : a.eval (.tmp 11) = .pointer (some ⟨g, 0, none⟩) := hd 8 (by kernel_rfl)
      exact op_vg ho (.pointer (some ⟨g, 0, none⟩)) rfl h10 (by intro ρ hρ kc kf; rw [← hρ] at h11; clear hρ; simp [execOp, go_sem, h11]) rfl rfl
    · intro ho a W hW hd hx
      have h10 : a.eval (.tmp 10) = .bool false := hd 7 (by kernel_rfl)
      have h12 : a.eval (.tmp 12) = .pointer (some ⟨g, 0, none⟩) := hd 9 (by kernel_rfl)
      exact op_vg ho (.pointer (some ⟨g, 0, none⟩)) rfl h10 (by intro ρ hρ kc kf; rw [← hρ] at h12; clear hρ; simp [execOp, go_sem, h12]) rfl rfl
    · intro ho a W hW hd hx
      have h10 : a.eval (.tmp 10) = .bool false := hd 7 (by kernel_rfl)
      have h13 : a.eval (.tmp 13) = .pointer (some ⟨g, 0, none⟩) := hd 10 (by kernel_rfl)
      exact op_vg ho (.pointer (some ⟨g, 2, none⟩)) rfl h10 (by intro ρ hρ kc kf; rw [← hρ] at h13; clear hρ; simp [execOp, go_sem, h13]) rfl rfl
    · intro ho a W hW hd hx
      have h10 : a.eval (.tmp 10) = .bool false := hd 7 (by kernel_rfl)
      have h14 : a.eval (.tmp 14) = .pointer (some ⟨g, 2, none⟩) := hd 11 (by kernel_rfl)
      have hcell : W.cell? ⟨g, 2, none⟩ = some (.int .i64 c.serial) := by rw [(HB.out.below hW HB.out.lt).cell 2]; rfl
      exact op_vg ho (.int .i64 c.serial) rfl h10 (by intro ρ hρ kc kf; rw [← hρ] at h14; clear hρ; simp [execOp, go_sem, h14, hcell]) rfl rfl
    · intro ho a W hW hd hx
      have h10 : a.eval (.tmp 10) = .bool false := hd 7 (by kernel_rfl)
      have h15 : a.eval (.tmp 15) = .int .i64 c.serial := hd 12 (by kernel_rfl)
      exact op_vg ho (.bool true) rfl h10 (by intro ρ hρ kc kf; rw [← hρ] at h15; clear hρ; simp [execOp, go_sem, kc, h15, H1.out]) rfl rfl
    · intro ho a W hW hd hx
      have h10 : a.eval (.tmp 10) = .bool false := hd 7 (by kernel_rfl)
      have h16 : a.eval (.tmp 16) = .bool true := hd 13 (by kernel_rfl)
      exact op_v ho (.bool true) rfl (by intro ρ hρ kc kf; rw [← hρ] at h10 h16; clear hρ; simp [execOp, go_sem, h10, h16]) rfl rfl
    · intro ho a W hW hd hx
      have h17 : a.eval (.tmp 17) = .bool true := hd 14 (by kernel_rfl)
      exact op_v ho (.bool true) rfl (by intro ρ hρ kc kf; rw [← hρ] at h17; clear hρ; simp [execOp, go_sem, h17]) rfl rfl
    · intro ho a W hW hd hx
      have h18 : a.eval (.tmp 18) = .bool true := hd 15 (by kernel_rfl)
      exact op_off ho rfl h18 (by decide) rfl
    · intro ho a W hW hd hx
      have h18 : a.eval (.tmp 18) = .bool true := hd 15 (by kernel_rfl)
      exact op_off ho rfl h18 (by decide) rfl
    · intro ho a W hW hd hx
      have h18 : a.eval (.tmp 18) = .bool true := hd 15 (by kernel_rfl)
      exact op_off ho rfl h18 (by decide) rfl
    · intro ho a W hW hd hx
      have h18 : a.eval (.tmp 18) = .bool true := hd 15 (by kernel_rfl)
      exact op_off ho rfl h18 (by decide) rfl
    · intro ho a W hW hd hx
      have h18 : a.eval (.tmp 18) = .bool true := hd 15 (by kernel_rfl)
      exact op_off ho rfl h18 (by decide) rfl
    · intro ho a W hW hd hx
      have h18 : a.eval (.tmp 18) = .bool true := hd 15 (by kernel_rfl)
      exact op_off ho rfl h18 (by decide) rfl
    · intro ho a W hW hd hx
      have h18 : a.eval (.tmp 18) = .bool true := hd 15 (by kernel_rfl)
      have h24 : a.eval (.tmp 24) = undef := hd 21 (by kernel_rfl)
      exact op_v ho (.bool true) rfl (by intro ρ hρ kc kf; rw [← hρ] at h18; clear hρ; simp [execOp, go_sem, kc, h18]) rfl rfl
  intro v W hW hv _
  have hlast : v 22 = .bool true := hv 22 (by decide)
  simp only [List.take_succ_cons, List.take_zero, List.drop_succ_cons, List.drop_zero, fillL, wpTail, Act.put, List.setIfInBounds_toArray, List.set_cons_zero, List.set_cons_succ, Nat.reduceAdd]
  rw [hlast]
  go_wp2
  go_ret
  exact ⟨rfl, hW⟩

set_option maxRecDepth 100000 in
set_option maxHeartbeats 4000000 in
theorem may_s2 (g : Nat) (T : TypeId) (c : Cm) (b : Value) (w : World) (hb : Blk w g T (cO c b)) (hK : keyB c.node = true) (h1 : 1 ≤ c.serial) (h2 : ¬ c.serial ≤ 2147483648) :
    Calls Try.prog 33 #[.pointer (some ⟨g, 0, none⟩)] w fun e w' => e = .returned (.bool (mayC c)) ∧ Below w.heap.size w w' := by
  have e : mayC c = false := by simp [mayC, hK, h1, h2]
  rw [e]; clear e
  have HB := Lib.hid hb; clear hb
  have kd := fun W => key_below c.node W
  rw [hK] at kd
  have KD := Lib.hid kd; clear kd hK
  have H1 : Hid (decide (c.serial < 1) = false) := Lib.hid (by simp; omega)
  clear h1
  have H2 : Hid (decide (2147483648 < c.serial) = true) := Lib.hid (by simp; omega)
  clear h2
  go_enter Try.func33, Try.ntmps33
  go_upto_region 1 with fail
  refine wp_region_grows 23 ((fun q_ _ _ => q_ = .pointer (some ⟨g, 0, none⟩)) :: (fun q_ _ _ => q_ = .pointer (some ⟨g, 0, none⟩)) :: (fun q_ _ _ => q_ = .pointer (some ⟨g, 0, none⟩)) :: (fun q_ _ _ => q_ = .pointer (some ⟨g, 1, none⟩)) :: (fun q_ _ _ => q_ = .int .i64 c.node) :: (fun q_ _ _ => q_ = .bool true) :: (fun q_ _ _ => q_ = .bool false) :: (fun q_ _ _ => q_ = .bool false) :: (fun q_ _ _ => q_ = .pointer (some ⟨g, 0, none⟩)) :: (fun q_ _ _ => q_ = .pointer (some ⟨g, 0, none⟩)) :: (fun q_ _ _ => q_ = .pointer (some ⟨g, 0, none⟩)) :: (fun q_ _ _ => q_ = .pointer (some ⟨g, 2, none⟩)) :: (fun q_ _ _ => q_ = .int .i64 c.serial) :: (fun q_ _ _ => q_ = .bool false) :: (fun q_ _ _ => q_ = .bool false) :: (fun q_ _ _ => q_ = .bool false) :: (fun q_ _ _ => q_ = .pointer (some ⟨g, 0, none⟩)) :: (fun q_ _ _ => q_ = .pointer (some ⟨g, 0, none⟩)) :: (fun q_ _ _ => q_ = .pointer (some ⟨g, 0, none⟩)) :: (fun q_ _ _ => q_ = .pointer (some ⟨g, 2, none⟩)) :: (fun q_ _ _ => q_ = .int .i64 c.serial) :: (fun q_ _ _ => q_ = .bool true) :: (fun q_ _ _ => q_ = .bool true) :: []) (fun _ => false) (w.heap.size) w (by kernel_rfl) (by kernel_rfl) (by kernel_rfl) (Below.refl _ _) (Nat.le_refl _) ?zStab (fun _ h => by cases h) ?zOps ?zFin
  case zStab => exact ⟨st_is _, st_is _, st_is _, st_is _, st_is _, st_is _, st_is _, st_is _, st_is _, st_is _, st_is _, st_is _, st_is _, st_is _, st_is _, st_is _, st_is _, st_is _, st_is _, st_is _, st_is _, st_is _, st_is _, trivial⟩
  case zOps =>
    intro Q
    refine ⟨?_, ?_, ?_, ?_, ?_, ?_, ?_, ?_, ?_, ?_, ?_, ?_, ?_, ?_, ?_, ?_, ?_, ?_, ?_, ?_, ?_, ?_, ?_, trivial⟩
    · intro ho a W hW hd hx
      have h0 : a.eval (.tmp 0) = .pointer (some ⟨g, 0, none⟩) := (hx 0 (dst_not (by kernel_rfl))).trans rfl
      exact op_v ho (.pointer (some ⟨g, 0, none⟩)) rfl (by intro ρ hρ kc kf; rw [← hρ] at h0; clear hρ; simp [execOp, go_sem, h0]) rfl rfl
    · intro ho a W hW hd hx
      have h3 : a.eval (.tmp 3) = .pointer (some ⟨g, 0, none⟩) := hd 0 (by kernel_rfl)
      exact op_v ho (.pointer (some ⟨g, 0, none⟩)) rfl (by intro ρ hρ kc kf; rw [← hρ] at h3; clear hρ; simp [execOp, go_sem, h3]) rfl rfl
    · intro ho a W hW hd hx
      have h4 : a.eval (.tmp 4) = .pointer (some ⟨g, 0, none⟩) := hd 1 (by kernel_rfl)
      exact op_v ho (.pointer (some ⟨g, 0, none⟩)) rfl (by intro ρ hρ kc kf; rw [← hρ] at h4; clear hρ; simp [execOp, go_sem, h4]) rfl rfl
    · intro ho a W hW hd hx
      have h5 : a.eval (.tmp 5) = .pointer (some ⟨g, 0, none⟩) := hd 2 (by kernel_rfl)
      exact op_v ho (.pointer (some ⟨g, 1, none⟩)) rfl (by intro ρ hρ kc kf; rw [← hρ] at h5; clear hρ; simp [execOp, go_sem, h5]) rfl rfl
    · intro ho a W hW hd hx
      have h6 : a.eval (.tmp 6) = .pointer (some ⟨g, 1, none⟩) := hd 3 (by kernel_rfl)
      have hcell : W.cell? ⟨g, 1, none⟩ = some (.int .i64 c.node) := by rw [(HB.out.below hW HB.out.lt).cell 1]; rfl
      exact op_v ho (.int .i64 c.node) rfl (by intro ρ hρ kc kf; rw [← hρ] at h6; clear hρ; simp [execOp, go_sem, h6, hcell]) rfl rfl
    · intro ho a W hW hd hx
      have h7 : a.eval (.tmp 7) = .int .i64 c.node := hd 4 (by kernel_rfl)
      refine op_call ho (want_none rfl) (by intro ρ hρ kc kf; rw [← hρ] at h7; clear hρ; simp [execOp, go_sem, kf, h7]) (KD.out W) ?_
      rintro e W2 ⟨rfl, k2⟩
      exact ⟨_, rfl, _, rfl, (fun h => by cases h), rfl, k2, (fun h => absurd h (by decide))⟩
    · intro ho a W hW hd hx
      have h8 : a.eval (.tmp 8) = .bool true := hd 5 (by kernel_rfl)
      exact op_v ho (.bool false) rfl (by intro ρ hρ kc kf; rw [← hρ] at h8; clear hρ; simp [execOp, go_sem, h8]) rfl rfl
    · intro ho a W hW hd hx
      have h9 : a.eval (.tmp 9) = .bool false := hd 6 (by kernel_rfl)
      exact op_v ho (.bool false) rfl (by intro ρ hρ kc kf; rw [← hρ] at h9; clear hρ; simp [execOp, go_sem, h9]) rfl rfl
    · intro ho a W hW hd hx
      have h10 : a.eval (.tmp 10) = .bool false := hd 7 (by kernel_rfl)
      have h0 : a.eval (.tmp 0) = .pointer (some ⟨g, 0, none⟩) := (hx 0 (dst_not (by kernel_rfl))).trans rfl
      exact op_vg ho (.pointer (some ⟨g, 0, none⟩)) rfl h10 (by intro ρ hρ kc kf; rw [← hρ] at h0; clear hρ; simp [execOp, go_sem, h0]) rfl rfl
    · intro ho a W hW hd hx
      have h10 : a.eval (.tmp 10) = .bool false := hd 7 (by kernel_rfl)
      have h11 : a.eval (.tmp 11) = .pointer (some ⟨g, 0, none⟩) := hd 8 (by kernel_rfl)
      exact op_vg ho (.pointer (some ⟨g, 0, none⟩)) rfl h10 (by intro ρ hρ kc kf; rw [← hρ] at h11; clear hρ; simp [execOp, go_sem, h11]) rfl rfl
    · intro ho a W hW hd hx
      have h10 : a.eval (.tmp 10) = .bool false := hd 7 (by kernel_rfl)
      have h12 : a.eval (.tmp 12) = .pointer (some ⟨g, 0, none⟩) := hd 9 (by kernel_rfl)
      exact op_vg ho (.pointer (some ⟨g, 0, none⟩)) rfl h10 (by intro ρ hρ kc kf; rw [← hρ] at h12; clear hρ; simp [execOp, go_sem, h12]) rfl rfl
    · intro ho a W hW hd hx
      have h10 : a.eval (.tmp 10) = .bool false := hd 7 (by kernel_rfl)
      have h13 : a.eval (.tmp 13) = .pointer (some ⟨g, 0, none⟩) := hd 10 (by kernel_rfl)
      exact op_vg ho (.pointer (some ⟨g, 2, none⟩)) rfl h10 (by intro ρ hρ kc kf; rw [← hρ] at h13; clear hρ; simp [execOp, go_sem, h13]) rfl rfl
    · intro ho a W hW hd hx
      have h10 : a.eval (.tmp 10) = .bool false := hd 7 (by kernel_rfl)
      have h14 : a.eval (.tmp 14) = .pointer (some ⟨g, 2, none⟩) := hd 11 (by kernel_rfl)
      have hcell : W.cell? ⟨g, 2, none⟩ = some (.int .i64 c.serial) := by rw [(HB.out.below hW HB.out.lt).cell 2]; rfl
      exact op_vg ho (.int .i64 c.serial) rfl h10 (by intro ρ hρ kc kf; rw [← hρ] at h14; clear hρ; simp [execOp, go_sem, h14, hcell]) rfl rfl
    · intro ho a W hW hd hx
      have h10 : a.eval (.tmp 10) = .bool false := hd 7 (by kernel_rfl)
      have h15 : a.eval (.tmp 15) = .int .i64 c.serial := hd 12 (by kernel_rfl)
      exact op_vg ho (.bool false) rfl h10 (by intro ρ hρ kc kf; rw [← hρ] at h15; clear hρ; simp [execOp, go_sem, kc, h15, H1.out]) rfl rfl
    · intro ho a W hW hd hx
      have h10 : a.eval (.tmp 10) = .bool false := hd 7 (by kernel_rfl)
      have h16 : a.eval (.tmp 16) = .bool false := hd 13 (by kernel_rfl)
      exact op_v ho (.bool false) rfl (by intro ρ hρ kc kf; rw [← hρ] at h10 h16; clear hρ; simp [execOp, go_sem, h10, h16]) rfl rfl
    · intro ho a W hW hd hx
      have h17 : a.eval (.tmp 17) = .bool false := hd 14 (by kernel_rfl)
      exact op_v ho (.bool false) rfl (by intro ρ hρ kc kf; rw [← hρ] at h17; clear hρ; simp [execOp, go_sem, h17]) rfl rfl
    · intro ho a W hW hd hx
      have h18 : a.eval (.tmp 18) = .bool false := hd 15 (by kernel_rfl)
      have h0 : a.eval (.tmp 0) = .pointer (some ⟨g, 0, none⟩) := (hx 0 (dst_not (by kernel_rfl))).trans rfl
      exact op_vg ho (.pointer (some ⟨g, 0, none⟩)) rfl h18 (by intro ρ hρ kc kf; rw [← hρ] at h0; clear hρ; simp [execOp, go_sem, h0]) rfl rfl
    · intro ho a W hW hd hx
      have h18 : a.eval (.tmp 18) = .bool false := hd 15 (by kernel_rfl)
      have h19 : a.eval (.tmp 19) = .pointer (some ⟨g, 0, none⟩) := hd 16 (by kernel_rfl)
      exact op_vg ho (.pointer (some ⟨g, 0, none⟩)) rfl h18 (by intro ρ hρ kc kf; rw [← hρ] at h19; clear hρ; simp [execOp, go_sem, h19]) rfl rfl
    · intro ho a W hW hd hx
      have h18 : a.eval (.tmp 18) = .bool false := hd 15 (by kernel_rfl)
      have h20 : a.eval (.tmp 20) = .pointer (some ⟨g, 0, none⟩) := hd 17 (by kernel_rfl)
      exact op_vg ho (.pointer (some ⟨g, 0, none⟩)) rfl h18 (by intro ρ hρ kc kf; rw [← hρ] at h20; clear hρ; simp [execOp, go_sem, h20]) rfl rfl
    · intro ho a W hW hd hx
      have h18 : a.eval (.tmp 18) = .bool false := hd 15 (by kernel_rfl)
      have h21 : a.eval (.tmp 21) = .pointer (some ⟨g, 0, none⟩) := hd 18 (by kernel_rfl)
      exact op_vg ho (.pointer (some ⟨g, 2, none⟩)) rfl h18 (by intro ρ hρ kc kf; rw [← hρ] at h21; clear hρ; simp [execOp, go_sem, h21]) rfl rfl
    · intro ho a W hW hd hx
      have h18 : a.eval (.tmp 18) = .bool false := hd 15 (by kernel_rfl)
      have h22 : a.eval (.tmp 22) = .pointer (some ⟨g, 2, none⟩) := hd 19 (by kernel_rfl)
      have hcell : W.cell? ⟨g, 2, none⟩ = some (.int .i64 c.serial) := by rw [(HB.out.below hW HB.out.lt).cell 2]; rfl
      exact op_vg ho (.int .i64 c.serial) rfl h18 (by intro ρ hρ kc kf; rw [← hρ] at h22; clear hρ; simp [execOp, go_sem, h22, hcell]) rfl rfl
    · intro ho a W hW hd hx
      have h18 : a.eval (.tmp 18) = .bool false := hd 15 (by kernel_rfl)
      have h23 : a.eval (.tmp 23) = .int .i64 c.serial := hd 20 (by kernel_rfl)
      exact op_vg ho (.bool true) rfl h18 (by intro ρ hρ kc kf; rw [← hρ] at h23; clear hρ; simp [execOp, go_sem, kc, h23, H2.out]) rfl rfl
    · intro ho a W hW hd hx
      have h18 : a.eval (.tmp 18) = .bool false := hd 15 (by kernel_rfl)
      have h24 : a.eval (.tmp 24) = .bool true := hd 21 (by kernel_rfl)
      exact op_v ho (.bool true) rfl (by intro ρ hρ kc kf; rw [← hρ] at h18 h24; clear hρ; simp [execOp, go_sem, h18, h24]) rfl rfl
  intro v W hW hv _
  have hlast : v 22 = .bool true := hv 22 (by decide)
  simp only [List.take_succ_cons, List.take_zero, List.drop_succ_cons, List.drop_zero, fillL, wpTail, Act.put, List.setIfInBounds_toArray, List.set_cons_zero, List.set_cons_succ, Nat.reduceAdd]
  rw [hlast]
  go_wp2
  go_ret
  exact ⟨rfl, hW⟩

set_option maxRecDepth 100000 in
set_option maxHeartbeats 4000000 in
theorem may_go (g : Nat) (T : TypeId) (c : Cm) (b : Value) (w : World) (hb : Blk w g T (cO c b)) (hK : keyB c.node = true) (h1 : 1 ≤ c.serial) (h2 : c.serial ≤ 2147483648) :
    Calls Try.prog 33 #[.pointer (some ⟨g, 0, none⟩)] w fun e w' => e = .returned (.bool (mayC c)) ∧ Below w.heap.size w w' := by
  have e : mayC c = (if c.kind = 0 ∨ c.kind = 1 then onlyB c false false false false else if c.kind = 2 then onlyB c true true false false else if c.kind = 3 then onlyB c true false false false else if c.kind = 4 then onlyB c false false true true else if c.kind = 5 then onlyB c false false true false else false) := by simp [mayC, hK, h1, h2]
  have HM0 := Lib.hid e; clear e
  have HB := Lib.hid hb; clear hb
  have kd := fun W => key_below c.node W
  rw [hK] at kd
  have KD := Lib.hid kd; clear kd hK
  have H1 : Hid (decide (c.serial < 1) = false) := Lib.hid (by simp; omega)
  clear h1
  have H2 : Hid (decide (2147483648 < c.serial) = false) := Lib.hid (by simp; omega)
  clear h2
  go_enter Try.func33, Try.ntmps33
  go_upto_region 1 with fail
  refine wp_region_grows 23 ((fun q_ _ _ => q_ = .pointer (some ⟨g, 0, none⟩)) :: (fun q_ _ _ => q_ = .pointer (some ⟨g, 0, none⟩)) :: (fun q_ _ _ => q_ = .pointer (some ⟨g, 0, none⟩)) :: (fun q_ _ _ => q_ = .pointer (some ⟨g, 1, none⟩)) :: (fun q_ _ _ => q_ = .int .i64 c.node) :: (fun q_ _ _ => q_ = .bool true) :: (fun q_ _ _ => q_ = .bool false) :: (fun q_ _ _ => q_ = .bool false) :: (fun q_ _ _ => q_ = .pointer (some ⟨g, 0, none⟩)) :: (fun q_ _ _ => q_ = .pointer (some ⟨g, 0, none⟩)) :: (fun q_ _ _ => q_ = .pointer (some ⟨g, 0, none⟩)) :: (fun q_ _ _ => q_ = .pointer (some ⟨g, 2, none⟩)) :: (fun q_ _ _ => q_ = .int .i64 c.serial) :: (fun q_ _ _ => q_ = .bool false) :: (fun q_ _ _ => q_ = .bool false) :: (fun q_ _ _ => q_ = .bool false) :: (fun q_ _ _ => q_ = .pointer (some ⟨g, 0, none⟩)) :: (fun q_ _ _ => q_ = .pointer (some ⟨g, 0, none⟩)) :: (fun q_ _ _ => q_ = .pointer (some ⟨g, 0, none⟩)) :: (fun q_ _ _ => q_ = .pointer (some ⟨g, 2, none⟩)) :: (fun q_ _ _ => q_ = .int .i64 c.serial) :: (fun q_ _ _ => q_ = .bool false) :: (fun q_ _ _ => q_ = .bool false) :: []) (fun _ => false) (w.heap.size) w (by kernel_rfl) (by kernel_rfl) (by kernel_rfl) (Below.refl _ _) (Nat.le_refl _) ?zStab (fun _ h => by cases h) ?zOps ?zFin
  case zStab => exact ⟨st_is _, st_is _, st_is _, st_is _, st_is _, st_is _, st_is _, st_is _, st_is _, st_is _, st_is _, st_is _, st_is _, st_is _, st_is _, st_is _, st_is _, st_is _, st_is _, st_is _, st_is _, st_is _, st_is _, trivial⟩
  case zOps =>
    intro Q
    refine ⟨?_, ?_, ?_, ?_, ?_, ?_, ?_, ?_, ?_, ?_, ?_, ?_, ?_, ?_, ?_, ?_, ?_, ?_, ?_, ?_, ?_, ?_, ?_, trivial⟩
    · intro ho a W hW hd hx
      have h0 : a.eval (.tmp 0) = .pointer (some ⟨g, 0, none⟩) := (hx 0 (dst_not (by kernel_rfl))).trans rfl
      exact op_v ho (.pointer (some ⟨g, 0, none⟩)) rfl (by intro ρ hρ kc kf; rw [← hρ] at h0; clear hρ; simp [execOp, go_sem, h0]) rfl rfl
    · intro ho a W hW hd hx
      have h3 : a.eval (.tmp 3) = .pointer (some ⟨g, 0, none⟩) := hd 0 (by kernel_rfl)
      exact op_v ho (.pointer (some ⟨g, 0, none⟩)) rfl (by intro ρ hρ kc kf; rw [← hρ] at h3; clear hρ; simp [execOp, go_sem, h3]) rfl rfl
    · intro ho a W hW hd hx
      have h4 : a.eval (.tmp 4) = .pointer (some ⟨g, 0, none⟩) := hd 1 (by kernel_rfl)
      exact op_v ho (.pointer (some ⟨g, 0, none⟩)) rfl (by intro ρ hρ kc kf; rw [← hρ] at h4; clear hρ; simp [execOp, go_sem, h4]) rfl rfl
    · intro ho a W hW hd hx
      have h5 : a.eval (.tmp 5) = .pointer (some ⟨g, 0, none⟩) := hd 2 (by kernel_rfl)
      exact op_v ho (.pointer (some ⟨g, 1, none⟩)) rfl (by intro ρ hρ kc kf; rw [← hρ] at h5; clear hρ; simp [execOp, go_sem, h5]) rfl rfl
    · intro ho a W hW hd hx
      have h6 : a.eval (.tmp 6) = .pointer (some ⟨g, 1, none⟩) := hd 3 (by kernel_rfl)
      have hcell : W.cell? ⟨g, 1, none⟩ = some (.int .i64 c.node) := by rw [(HB.out.below hW HB.out.lt).cell 1]; rfl
      exact op_v ho (.int .i64 c.node) rfl (by intro ρ hρ kc kf; rw [← hρ] at h6; clear hρ; simp [execOp, go_sem, h6, hcell]) rfl rfl
    · intro ho a W hW hd hx
      have h7 : a.eval (.tmp 7) = .int .i64 c.node := hd 4 (by kernel_rfl)
      refine op_call ho (want_none rfl) (by intro ρ hρ kc kf; rw [← hρ] at h7; clear hρ; simp [execOp, go_sem, kf, h7]) (KD.out W) ?_
      rintro e W2 ⟨rfl, k2⟩
      exact ⟨_, rfl, _, rfl, (fun h => by cases h), rfl, k2, (fun h => absurd h (by decide))⟩
    · intro ho a W hW hd hx
      have h8 : a.eval (.tmp 8) = .bool true := hd 5 (by kernel_rfl)
      exact op_v ho (.bool false) rfl (by intro ρ hρ kc kf; rw [← hρ] at h8; clear hρ; simp [execOp, go_sem, h8]) rfl rfl
    · intro ho a W hW hd hx
      have h9 : a.eval (.tmp 9) = .bool false := hd 6 (by kernel_rfl)
      exact op_v ho (.bool false) rfl (by intro ρ hρ kc kf; rw [← hρ] at h9; clear hρ; simp [execOp, go_sem, h9]) rfl rfl
    · intro ho a W hW hd hx
      have h10 : a.eval (.tmp 10) = .bool false := hd 7 (by kernel_rfl)
      have h0 : a.eval (.tmp 0) = .pointer (some ⟨g, 0, none⟩) := (hx 0 (dst_not (by kernel_rfl))).trans rfl
      exact op_vg ho (.pointer (some ⟨g, 0, none⟩)) rfl h10 (by intro ρ hρ kc kf; rw [← hρ] at h0; clear hρ; simp [execOp, go_sem, h0]) rfl rfl
    · intro ho a W hW hd hx
      have h10 : a.eval (.tmp 10) = .bool false := hd 7 (by kernel_rfl)
      have h11 : a.eval (.tmp 11) = .pointer (some ⟨g, 0, none⟩) := hd 8 (by kernel_rfl)
      exact op_vg ho (.pointer (some ⟨g, 0, none⟩)) rfl h10 (by intro ρ hρ kc kf; rw [← hρ] at h11; clear hρ; simp [execOp, go_sem, h11]) rfl rfl
    · intro ho a W hW hd hx
      have h10 : a.eval (.tmp 10) = .bool false := hd 7 (by kernel_rfl)
      have h12 : a.eval (.tmp 12) = .pointer (some ⟨g, 0, none⟩) := hd 9 (by kernel_rfl)
      exact op_vg ho (.pointer (some ⟨g, 0, none⟩)) rfl h10 (by intro ρ hρ kc kf; rw [← hρ] at h12; clear hρ; simp [execOp, go_sem, h12]) rfl rfl
    · intro ho a W hW hd hx
      have h10 : a.eval (.tmp 10) = .bool false := hd 7 (by kernel_rfl)
      have h13 : a.eval (.tmp 13) = .pointer (some ⟨g, 0, none⟩) := hd 10 (by kernel_rfl)
      exact op_vg ho (.pointer (some ⟨g, 2, none⟩)) rfl h10 (by intro ρ hρ kc kf; rw [← hρ] at h13; clear hρ; simp [execOp, go_sem, h13]) rfl rfl
    · intro ho a W hW hd hx
      have h10 : a.eval (.tmp 10) = .bool false := hd 7 (by kernel_rfl)
      have h14 : a.eval (.tmp 14) = .pointer (some ⟨g, 2, none⟩) := hd 11 (by kernel_rfl)
      have hcell : W.cell? ⟨g, 2, none⟩ = some (.int .i64 c.serial) := by rw [(HB.out.below hW HB.out.lt).cell 2]; rfl
      exact op_vg ho (.int .i64 c.serial) rfl h10 (by intro ρ hρ kc kf; rw [← hρ] at h14; clear hρ; simp [execOp, go_sem, h14, hcell]) rfl rfl
    · intro ho a W hW hd hx
      have h10 : a.eval (.tmp 10) = .bool false := hd 7 (by kernel_rfl)
      have h15 : a.eval (.tmp 15) = .int .i64 c.serial := hd 12 (by kernel_rfl)
      exact op_vg ho (.bool false) rfl h10 (by intro ρ hρ kc kf; rw [← hρ] at h15; clear hρ; simp [execOp, go_sem, kc, h15, H1.out]) rfl rfl
    · intro ho a W hW hd hx
      have h10 : a.eval (.tmp 10) = .bool false := hd 7 (by kernel_rfl)
      have h16 : a.eval (.tmp 16) = .bool false := hd 13 (by kernel_rfl)
      exact op_v ho (.bool false) rfl (by intro ρ hρ kc kf; rw [← hρ] at h10 h16; clear hρ; simp [execOp, go_sem, h10, h16]) rfl rfl
    · intro ho a W hW hd hx
      have h17 : a.eval (.tmp 17) = .bool false := hd 14 (by kernel_rfl)
      exact op_v ho (.bool false) rfl (by intro ρ hρ kc kf; rw [← hρ] at h17; clear hρ; simp [execOp, go_sem, h17]) rfl rfl
    · intro ho a W hW hd hx
      have h18 : a.eval (.tmp 18) = .bool false := hd 15 (by kernel_rfl)
      have h0 : a.eval (.tmp 0) = .pointer (some ⟨g, 0, none⟩) := (hx 0 (dst_not (by kernel_rfl))).trans rfl
      exact op_vg ho (.pointer (some ⟨g, 0, none⟩)) rfl h18 (by intro ρ hρ kc kf; rw [← hρ] at h0; clear hρ; simp [execOp, go_sem, h0]) rfl rfl
    · intro ho a W hW hd hx
      have h18 : a.eval (.tmp 18) = .bool false := hd 15 (by kernel_rfl)
      have h19 : a.eval (.tmp 19) = .pointer (some ⟨g, 0, none⟩) := hd 16 (by kernel_rfl)
      exact op_vg ho (.pointer (some ⟨g, 0, none⟩)) rfl h18 (by intro ρ hρ kc kf; rw [← hρ] at h19; clear hρ; simp [execOp, go_sem, h19]) rfl rfl
    · intro ho a W hW hd hx
      have h18 : a.eval (.tmp 18) = .bool false := hd 15 (by kernel_rfl)
      have h20 : a.eval (.tmp 20) = .pointer (some ⟨g, 0, none⟩) := hd 17 (by kernel_rfl)
      exact op_vg ho (.pointer (some ⟨g, 0, none⟩)) rfl h18 (by intro ρ hρ kc kf; rw [← hρ] at h20; clear hρ; simp [execOp, go_sem, h20]) rfl rfl
    · intro ho a W hW hd hx
      have h18 : a.eval (.tmp 18) = .bool false := hd 15 (by kernel_rfl)
      have h21 : a.eval (.tmp 21) = .pointer (some ⟨g, 0, none⟩) := hd 18 (by kernel_rfl)
      exact op_vg ho (.pointer (some ⟨g, 2, none⟩)) rfl h18 (by intro ρ hρ kc kf; rw [← hρ] at h21; clear hρ; simp [execOp, go_sem, h21]) rfl rfl
    · intro ho a W hW hd hx
      have h18 : a.eval (.tmp 18) = .bool false := hd 15 (by kernel_rfl)
      have h22 : a.eval (.tmp 22) = .pointer (some ⟨g, 2, none⟩) := hd 19 (by kernel_rfl)
      have hcell : W.cell? ⟨g, 2, none⟩ = some (.int .i64 c.serial) := by rw [(HB.out.below hW HB.out.lt).cell 2]; rfl
      exact op_vg ho (.int .i64 c.serial) rfl h18 (by intro ρ hρ kc kf; rw [← hρ] at h22; clear hρ; simp [execOp, go_sem, h22, hcell]) rfl rfl
    · intro ho a W hW hd hx
      have h18 : a.eval (.tmp 18) = .bool false := hd 15 (by kernel_rfl)
      have h23 : a.eval (.tmp 23) = .int .i64 c.serial := hd 20 (by kernel_rfl)
      exact op_vg ho (.bool false) rfl h18 (by intro ρ hρ kc kf; rw [← hρ] at h23; clear hρ; simp [execOp, go_sem, kc, h23, H2.out]) rfl rfl
    · intro ho a W hW hd hx
      have h18 : a.eval (.tmp 18) = .bool false := hd 15 (by kernel_rfl)
      have h24 : a.eval (.tmp 24) = .bool false := hd 21 (by kernel_rfl)
      exact op_v ho (.bool false) rfl (by intro ρ hρ kc kf; rw [← hρ] at h18 h24; clear hρ; simp [execOp, go_sem, h18, h24]) rfl rfl
  intro v W hW hv _
  have hlast : v 22 = .bool false := hv 22 (by decide)
  simp only [List.take_succ_cons, List.take_zero, List.drop_succ_cons, List.drop_zero, fillL, wpTail, Act.put, List.setIfInBounds_toArray, List.set_cons_zero, List.set_cons_succ, Nat.reduceAdd]
  rw [hlast]
  have hb := HB.out.below hW HB.out.lt
  have c0 : W.cell? ⟨g, 0, none⟩ = some (.int .i8 c.kind) := by rw [hb.cell 0]; rfl
  have HB2 := Lib.hid hb
  have HW2 := Lib.hid hW
  clear hb hv hlast hW
  by_cases k0 : c.kind = 0
  · have e : (if c.kind = 0 ∨ c.kind = 1 then onlyB c false false false false else if c.kind = 2 then onlyB c true true false false else if c.kind = 3 then onlyB c true false false false else if c.kind = 4 then onlyB c false false true true else if c.kind = 5 then onlyB c false false true false else false) = onlyB c false false false false := by simp [k0]
    have HE := Lib.hid (HM0.out.trans e); clear e
    have O := Lib.hid (only_any g T c b W false false false false HB2.out)
    rw [k0] at c0
    have HK := Lib.hid k0; clear k0
    go_wp2_with fail
    refine O.out.mono ?_
    rintro e w2 ⟨rfl, hb2⟩
    go_wp2
    go_ret
    exact ⟨congrArg (fun x => Ending.returned (Value.bool x)) HE.out.symm, HW2.out.trans (hb2.mono HW2.out.size)⟩
  have x0 : (c.kind == 0) = false := by simp [k0]
  by_cases k1 : c.kind = 1
  · have e : (if c.kind = 0 ∨ c.kind = 1 then onlyB c false false false false else if c.kind = 2 then onlyB c true true false false else if c.kind = 3 then onlyB c true false false false else if c.kind = 4 then onlyB c false false true true else if c.kind = 5 then onlyB c false false true false else false) = onlyB c false false false false := by simp [k1]
    have HE := Lib.hid (HM0.out.trans e); clear e
    have O := Lib.hid (only_any g T c b W false false false false HB2.out)
    rw [k1] at c0
    have HK := Lib.hid k1; clear k1
    go_wp2_with fail
    refine O.out.mono ?_
    rintro e w2 ⟨rfl, hb2⟩
    go_wp2
    go_ret
    exact ⟨congrArg (fun x => Ending.returned (Value.bool x)) HE.out.symm, HW2.out.trans (hb2.mono HW2.out.size)⟩
  have x1 : (c.kind == 1) = false := by simp [k1]
  by_cases k2 : c.kind = 2
  · have e : (if c.kind = 0 ∨ c.kind = 1 then onlyB c false false false false else if c.kind = 2 then onlyB c true true false false else if c.kind = 3 then onlyB c true false false false else if c.kind = 4 then onlyB c false false true true else if c.kind = 5 then onlyB c false false true false else false) = onlyB c true true false false := by simp [k2]
    have HE := Lib.hid (HM0.out.trans e); clear e
    have O := Lib.hid (only_any g T c b W true true false false HB2.out)
    rw [k2] at c0
    have HK := Lib.hid k2; clear k2
    go_wp2_with fail
    refine O.out.mono ?_
    rintro e w2 ⟨rfl, hb2⟩
    go_wp2
    go_ret
    exact ⟨congrArg (fun x => Ending.returned (Value.bool x)) HE.out.symm, HW2.out.trans (hb2.mono HW2.out.size)⟩
  have x2 : (c.kind == 2) = false := by simp [k2]
  by_cases k3 : c.kind = 3
  · have e : (if c.kind = 0 ∨ c.kind = 1 then onlyB c false false false false else if c.kind = 2 then onlyB c true true false false else if c.kind = 3 then onlyB c true false false false else if c.kind = 4 then onlyB c false false true true else if c.kind = 5 then onlyB c false false true false else false) = onlyB c true false false false := by simp [k3]
    have HE := Lib.hid (HM0.out.trans e); clear e
    have O := Lib.hid (only_any g T c b W true false false false HB2.out)
    rw [k3] at c0
    have HK := Lib.hid k3; clear k3
    go_wp2_with fail
    refine O.out.mono ?_
    rintro e w2 ⟨rfl, hb2⟩
    go_wp2
    go_ret
    exact ⟨congrArg (fun x => Ending.returned (Value.bool x)) HE.out.symm, HW2.out.trans (hb2.mono HW2.out.size)⟩
  have x3 : (c.kind == 3) = false := by simp [k3]
  by_cases k4 : c.kind = 4
  · have e : (if c.kind = 0 ∨ c.kind = 1 then onlyB c false false false false else if c.kind = 2 then onlyB c true true false false else if c.kind = 3 then onlyB c true false false false else if c.kind = 4 then onlyB c false false true true else if c.kind = 5 then onlyB c false false true false else false) = onlyB c false false true true := by simp [k4]
    have HE := Lib.hid (HM0.out.trans e); clear e
    have O := Lib.hid (only_any g T c b W false false true true HB2.out)
    rw [k4] at c0
    have HK := Lib.hid k4; clear k4
    go_wp2_with fail
    refine O.out.mono ?_
    rintro e w2 ⟨rfl, hb2⟩
    go_wp2
    go_ret
    exact ⟨congrArg (fun x => Ending.returned (Value.bool x)) HE.out.symm, HW2.out.trans (hb2.mono HW2.out.size)⟩
  have x4 : (c.kind == 4) = false := by simp [k4]
  by_cases k5 : c.kind = 5
  · have e : (if c.kind = 0 ∨ c.kind = 1 then onlyB c false false false false else if c.kind = 2 then onlyB c true true false false else if c.kind = 3 then onlyB c true false false false else if c.kind = 4 then onlyB c false false true true else if c.kind = 5 then onlyB c false false true false else false) = onlyB c false false true false := by simp [k5]
    have HE := Lib.hid (HM0.out.trans e); clear e
    have O := Lib.hid (only_any g T c b W false false true false HB2.out)
    rw [k5] at c0
    have HK := Lib.hid k5; clear k5
    go_wp2_with fail
    refine O.out.mono ?_
    rintro e w2 ⟨rfl, hb2⟩
    go_wp2
    go_ret
    exact ⟨congrArg (fun x => Ending.returned (Value.bool x)) HE.out.symm, HW2.out.trans (hb2.mono HW2.out.size)⟩
  have x5 : (c.kind == 5) = false := by simp [k5]
  have e : (if c.kind = 0 ∨ c.kind = 1 then onlyB c false false false false else if c.kind = 2 then onlyB c true true false false else if c.kind = 3 then onlyB c true false false false else if c.kind = 4 then onlyB c false false true true else if c.kind = 5 then onlyB c false false true false else false) = false := by simp [k0, k1, k2, k3, k4, k5]
  have HE := Lib.hid (HM0.out.trans e); clear e
  go_wp2
  go_ret
  exact ⟨congrArg (fun x => Ending.returned (Value.bool x)) HE.out.symm, HW2.out⟩

theorem may_any (g : Nat) (T : TypeId) (c : Cm) (b : Value) (w : World) (hb : Blk w g T (cO c b)) :
    Calls Try.prog 33 #[.pointer (some ⟨g, 0, none⟩)] w fun e w' => e = .returned (.bool (mayC c)) ∧ Below w.heap.size w w' := by
  cases hK : keyB c.node with
  | false => exact may_key g T c b w hb hK
  | true =>
    by_cases h1 : 1 ≤ c.serial
    · by_cases h2 : c.serial ≤ 2147483648
      · exact may_go g T c b w hb hK h1 h2
      · exact may_s2 g T c b w hb hK h1 h2
    · exact may_s1 g T c b w hb hK h1

end Go.Proofs.Ytnoojlgefpekiaa
