/-
  Contracts of commands: only, called in one of its five ways. (Printed by cmd_only.py.)
-/
import Derived.Test.YtnoojlgefpekiaaCmdB
import Derived.Deep.Cut
namespace Go.Proofs.Ytnoojlgefpekiaa
open Go.RowKit

set_option maxRecDepth 100000 in
set_option maxHeartbeats 4000000 in
theorem on_fftt_f (g : Nat) (T : TypeId) (c : Cm) (b : Value) (w : World) (hb : Blk w g T (cO c b)) (hL : ¬ c.lo = 0) :
    Calls Try.prog 37 #[.pointer (some ⟨g, 0, none⟩), .bool false, .bool false, .bool true, .bool true] w fun e w' => e = .returned (.bool (onlyB c false false true true)) ∧ Below w.heap.size w w' := by
  have e : onlyB c false false true true = false := by simp [onlyB, hL]
  rw [e]; clear e
  have HB := Lib.hid hb; clear hb
  have HL := Lib.hid hL; clear hL
  go_enter Try.func37, Try.ntmps37
  go_upto_region 1 with fail
  refine wp_region_grows 92 ((fun q_ _ _ => q_ = .bool false) :: (fun q_ _ _ => q_ = .bool false) :: (fun q_ _ _ => q_ = undef) :: (fun q_ _ _ => q_ = undef) :: (fun q_ _ _ => q_ = .bool false) :: (fun q_ _ _ => q_ = .bool false) :: (fun q_ _ _ => q_ = .bool false) :: (fun q_ _ _ => q_ = .bool true) :: (fun q_ _ _ => q_ = .bool true) :: (fun q_ _ _ => q_ = .pointer (some ⟨g, 0, none⟩)) :: (fun q_ _ _ => q_ = .pointer (some ⟨g, 0, none⟩)) :: (fun q_ _ _ => q_ = .pointer (some ⟨g, 0, none⟩)) :: (fun q_ _ _ => q_ = .pointer (some ⟨g, 5, none⟩)) :: (fun q_ _ _ => q_ = .agg #[.int .i64 c.lo, .int .i64 c.hi]) :: (fun q_ _ _ => q_ = .agg #[.int .i64 0, .int .i64 0]) :: (fun q_ _ _ => q_ = .bool false) :: (fun q_ _ _ => q_ = .bool false) :: (fun q_ _ _ => q_ = .bool false) :: (fun q_ _ _ => q_ = .bool false) :: (fun q_ _ _ => q_ = undef) :: (fun q_ _ _ => q_ = undef) :: (fun q_ _ _ => q_ = undef) :: (fun q_ _ _ => q_ = undef) :: (fun q_ _ _ => q_ = undef) :: (fun q_ _ _ => q_ = undef) :: (fun q_ _ _ => q_ = undef) :: (fun q_ _ _ => q_ = undef) :: (fun q_ _ _ => q_ = undef) :: (fun q_ _ _ => q_ = undef) :: (fun q_ _ _ => q_ = undef) :: (fun q_ _ _ => q_ = undef) :: (fun q_ _ _ => q_ = undef) :: (fun q_ _ _ => q_ = undef) :: (fun q_ _ _ => q_ = undef) :: (fun q_ _ _ => q_ = undef) :: (fun q_ _ _ => q_ = undef) :: (fun q_ _ _ => q_ = undef) :: (fun q_ _ _ => q_ = undef) :: (fun q_ _ _ => q_ = undef) :: (fun q_ _ _ => q_ = undef) :: (fun q_ _ _ => q_ = undef) :: (fun q_ _ _ => q_ = undef) :: (fun q_ _ _ => q_ = undef) :: (fun q_ _ _ => q_ = undef) :: (fun q_ _ _ => q_ = undef) :: (fun q_ _ _ => q_ = undef) :: (fun q_ _ _ => q_ = undef) :: (fun q_ _ _ => q_ = undef) :: (fun q_ _ _ => q_ = .bool false) :: (fun q_ _ _ => q_ = .bool false) :: (fun q_ _ _ => q_ = undef) :: (fun q_ _ _ => q_ = undef) :: (fun q_ _ _ => q_ = undef) :: (fun q_ _ _ => q_ = undef) :: (fun q_ _ _ => q_ = undef) :: (fun q_ _ _ => q_ = undef) :: (fun q_ _ _ => q_ = undef) :: (fun q_ _ _ => q_ = undef) :: (fun q_ _ _ => q_ = undef) :: (fun q_ _ _ => q_ = undef) :: (fun q_ _ _ => q_ = undef) :: (fun q_ _ _ => q_ = undef) :: (fun q_ _ _ => q_ = undef) :: (fun q_ _ _ => q_ = undef) :: (fun q_ _ _ => q_ = undef) :: (fun q_ _ _ => q_ = undef) :: (fun q_ _ _ => q_ = undef) :: (fun q_ _ _ => q_ = undef) :: (fun q_ _ _ => q_ = undef) :: (fun q_ _ _ => q_ = undef) :: (fun q_ _ _ => q_ = undef) :: (fun q_ _ _ => q_ = .bool false) :: (fun q_ _ _ => q_ = .bool false) :: (fun q_ _ _ => q_ = undef) :: (fun q_ _ _ => q_ = undef) :: (fun q_ _ _ => q_ = undef) :: (fun q_ _ _ => q_ = undef) :: (fun q_ _ _ => q_ = undef) :: (fun q_ _ _ => q_ = undef) :: (fun q_ _ _ => q_ = undef) :: (fun q_ _ _ => q_ = undef) :: (fun q_ _ _ => q_ = undef) :: (fun q_ _ _ => q_ = undef) :: (fun q_ _ _ => q_ = undef) :: (fun q_ _ _ => q_ = undef) :: (fun q_ _ _ => q_ = undef) :: (fun q_ _ _ => q_ = undef) :: (fun q_ _ _ => q_ = undef) :: (fun q_ _ _ => q_ = undef) :: (fun q_ _ _ => q_ = undef) :: (fun q_ _ _ => q_ = .bool false) :: (fun q_ _ _ => q_ = .bool false) :: []) (fun _ => false) (w.heap.size) w (by kernel_rfl) (by kernel_rfl) (by kernel_rfl) (Below.refl _ _) (Nat.le_refl _) ?zStab (fun _ h => by cases h) ?zOps ?zFin
  case zStab => exact ⟨st_is _, st_is _, st_is _, st_is _, st_is _, st_is _, st_is _, st_is _, st_is _, st_is _, st_is _, st_is _, st_is _, st_is _, st_is _, st_is _, st_is _, st_is _, st_is _, st_is _, st_is _, st_is _, st_is _, st_is _, st_is _, st_is _, st_is _, st_is _, st_is _, st_is _, st_is _, st_is _, st_is _, st_is _, st_is _, st_is _, st_is _, st_is _, st_is _, st_is _, st_is _, st_is _, st_is _, st_is _, st_is _, st_is _, st_is _, st_is _, st_is _, st_is _, st_is _, st_is _, st_is _, st_is _, st_is _, st_is _, st_is _, st_is _, st_is _, st_is _, st_is _, st_is _, st_is _, st_is _, st_is _, st_is _, st_is _, st_is _, st_is _, st_is _, st_is _, st_is _, st_is _, st_is _, st_is _, st_is _, st_is _, st_is _, st_is _, st_is _, st_is _, st_is _, st_is _, st_is _, st_is _, st_is _, st_is _, st_is _, st_is _, st_is _, st_is _, st_is _, trivial⟩
  case zOps =>
    intro Q
    refine ⟨?_, ?_, ?_, ?_, ?_, ?_, ?_, ?_, ?_, ?_, ?_, ?_, ?_, ?_, ?_, ?_, ?_, ?_, ?_, ?_, ?_, ?_, ?_, ?_, ?_, ?_, ?_, ?_, ?_, ?_, ?_, ?_, ?_, ?_, ?_, ?_, ?_, ?_, ?_, ?_, ?_, ?_, ?_, ?_, ?_, ?_, ?_, ?_, ?_, ?_, ?_, ?_, ?_, ?_, ?_, ?_, ?_, ?_, ?_, ?_, ?_, ?_, ?_, ?_, ?_, ?_, ?_, ?_, ?_, ?_, ?_, ?_, ?_, ?_, ?_, ?_, ?_, ?_, ?_, ?_, ?_, ?_, ?_, ?_, ?_, ?_, ?_, ?_, ?_, ?_, ?_, ?_, trivial⟩
    · intro ho a W hW hd hx
      have h1 : a.eval (.tmp 1) = .bool false := (hx 1 (dst_not (by kernel_rfl))).trans rfl
      exact op_v ho (.bool false) rfl (by intro ρ hρ kc kf; rw [← hρ] at h1; clear hρ; simp [execOp, go_sem, h1]) rfl rfl
    · intro ho a W hW hd hx
      have h11 : a.eval (.tmp 11) = .bool false := hd 0 (by kernel_rfl)
      exact op_v ho (.bool false) rfl (by intro ρ hρ kc kf; rw [← hρ] at h11; clear hρ; simp [execOp, go_sem, h11]) rfl rfl
    · intro ho a W hW hd hx
      have h12 : a.eval (.tmp 12) = .bool false := hd 1 (by kernel_rfl)
      exact op_off ho rfl h12 (by decide) rfl
    · intro ho a W hW hd hx
      have h12 : a.eval (.tmp 12) = .bool false := hd 1 (by kernel_rfl)
      exact op_off ho rfl h12 (by decide) rfl
    · intro ho a W hW hd hx
      have h12 : a.eval (.tmp 12) = .bool false := hd 1 (by kernel_rfl)
      have h14 : a.eval (.tmp 14) = undef := hd 3 (by kernel_rfl)
      exact op_v ho (.bool false) rfl (by intro ρ hρ kc kf; rw [← hρ] at h12; clear hρ; simp [execOp, go_sem, kc, h12]) rfl rfl
    · intro ho a W hW hd hx
      have h15 : a.eval (.tmp 15) = .bool false := hd 4 (by kernel_rfl)
      exact op_v ho (.bool false) rfl (by intro ρ hρ kc kf; rw [← hρ] at h15; clear hρ; simp [execOp, go_sem, h15]) rfl rfl
    · intro ho a W hW hd hx
      have h16 : a.eval (.tmp 16) = .bool false := hd 5 (by kernel_rfl)
      have h1 : a.eval (.tmp 1) = .bool false := (hx 1 (dst_not (by kernel_rfl))).trans rfl
      exact op_vg ho (.bool false) rfl h16 (by intro ρ hρ kc kf; rw [← hρ] at h1; clear hρ; simp [execOp, go_sem, h1]) rfl rfl
    · intro ho a W hW hd hx
      have h16 : a.eval (.tmp 16) = .bool false := hd 5 (by kernel_rfl)
      have h17 : a.eval (.tmp 17) = .bool false := hd 6 (by kernel_rfl)
      exact op_vg ho (.bool true) rfl h16 (by intro ρ hρ kc kf; rw [← hρ] at h17; clear hρ; simp [execOp, go_sem, h17]) rfl rfl
    · intro ho a W hW hd hx
      have h16 : a.eval (.tmp 16) = .bool false := hd 5 (by kernel_rfl)
      have h18 : a.eval (.tmp 18) = .bool true := hd 7 (by kernel_rfl)
      exact op_vg ho (.bool true) rfl h16 (by intro ρ hρ kc kf; rw [← hρ] at h18; clear hρ; simp [execOp, go_sem, h18]) rfl rfl
    · intro ho a W hW hd hx
      have h19 : a.eval (.tmp 19) = .bool true := hd 8 (by kernel_rfl)
      have h0 : a.eval (.tmp 0) = .pointer (some ⟨g, 0, none⟩) := (hx 0 (dst_not (by kernel_rfl))).trans rfl
      exact op_vg ho (.pointer (some ⟨g, 0, none⟩)) rfl h19 (by intro ρ hρ kc kf; rw [← hρ] at h0; clear hρ; simp [execOp, go_sem, h0]) rfl rfl
    · intro ho a W hW hd hx
      have h19 : a.eval (.tmp 19) = .bool true := hd 8 (by kernel_rfl)
      have h20 : a.eval (.tmp 20) = .pointer (some ⟨g, 0, none⟩) := hd 9 (by kernel_rfl)
      exact op_vg ho (.pointer (some ⟨g, 0, none⟩)) rfl h19 (by intro ρ hρ kc kf; rw [← hρ] at h20; clear hρ; simp [execOp, go_sem, h20]) rfl rfl
    · intro ho a W hW hd hx
      have h19 : a.eval (.tmp 19) = .bool true := hd 8 (by kernel_rfl)
      have h21 : a.eval (.tmp 21) = .pointer (some ⟨g, 0, none⟩) := hd 10 (by kernel_rfl)
      exact op_vg ho (.pointer (some ⟨g, 0, none⟩)) rfl h19 (by intro ρ hρ kc kf; rw [← hρ] at h21; clear hρ; simp [execOp, go_sem, h21]) rfl rfl
    · intro ho a W hW hd hx
      have h19 : a.eval (.tmp 19) = .bool true := hd 8 (by kernel_rfl)
      have h22 : a.eval (.tmp 22) = .pointer (some ⟨g, 0, none⟩) := hd 11 (by kernel_rfl)
      exact op_vg ho (.pointer (some ⟨g, 5, none⟩)) rfl h19 (by intro ρ hρ kc kf; rw [← hρ] at h22; clear hρ; simp [execOp, go_sem, h22]) rfl rfl
    · intro ho a W hW hd hx
      have h19 : a.eval (.tmp 19) = .bool true := hd 8 (by kernel_rfl)
      have h23 : a.eval (.tmp 23) = .pointer (some ⟨g, 5, none⟩) := hd 12 (by kernel_rfl)
      have hc1 : W.cell? ⟨g, 5, none⟩ = some (.int .i64 c.lo) := by rw [(HB.out.below hW HB.out.lt).cell 5]; rfl
      have hc2 : W.cell? ⟨g, 6, none⟩ = some (.int .i64 c.hi) := by rw [(HB.out.below hW HB.out.lt).cell 6]; rfl
      exact op_vg ho (.agg #[.int .i64 c.lo, .int .i64 c.hi]) rfl h19 (by intro ρ hρ kc kf; rw [← hρ] at h23; clear hρ; simp [execOp, go_sem, h23, hc1, hc2]) rfl rfl
    · intro ho a W hW hd hx
      have h19 : a.eval (.tmp 19) = .bool true := hd 8 (by kernel_rfl)
      exact op_vg ho (.agg #[.int .i64 0, .int .i64 0]) rfl h19 (by intro ρ hρ kc kf; clear hρ; simp [execOp, go_sem]) rfl rfl
    · intro ho a W hW hd hx
      have h19 : a.eval (.tmp 19) = .bool true := hd 8 (by kernel_rfl)
      have h24 : a.eval (.tmp 24) = .agg #[.int .i64 c.lo, .int .i64 c.hi] := hd 13 (by kernel_rfl)
      have h25 : a.eval (.tmp 25) = .agg #[.int .i64 0, .int .i64 0] := hd 14 (by kernel_rfl)
      exact op_vg ho (.bool false) rfl h19 (by intro ρ hρ kc kf; rw [← hρ] at h24 h25; clear hρ; simp [execOp, go_sem, h24, h25, HL.out]) rfl rfl
    · intro ho a W hW hd hx
      have h16 : a.eval (.tmp 16) = .bool false := hd 5 (by kernel_rfl)
      have h19 : a.eval (.tmp 19) = .bool true := hd 8 (by kernel_rfl)
      have h26 : a.eval (.tmp 26) = .bool false := hd 15 (by kernel_rfl)
      exact op_vg ho (.bool false) rfl h16 (by intro ρ hρ kc kf; rw [← hρ] at h19 h26; clear hρ; simp [execOp, go_sem, h19, h26]) rfl rfl
    · intro ho a W hW hd hx
      have h16 : a.eval (.tmp 16) = .bool false := hd 5 (by kernel_rfl)
      have h27 : a.eval (.tmp 27) = .bool false := hd 16 (by kernel_rfl)
      exact op_v ho (.bool false) rfl (by intro ρ hρ kc kf; rw [← hρ] at h16 h27; clear hρ; simp [execOp, go_sem, h16, h27]) rfl rfl
    · intro ho a W hW hd hx
      have h28 : a.eval (.tmp 28) = .bool false := hd 17 (by kernel_rfl)
      exact op_v ho (.bool false) rfl (by intro ρ hρ kc kf; rw [← hρ] at h28; clear hρ; simp [execOp, go_sem, h28]) rfl rfl
    · intro ho a W hW hd hx
      have h29 : a.eval (.tmp 29) = .bool false := hd 18 (by kernel_rfl)
      exact op_off ho rfl h29 (by decide) rfl
    · intro ho a W hW hd hx
      have h29 : a.eval (.tmp 29) = .bool false := hd 18 (by kernel_rfl)
      exact op_off ho rfl h29 (by decide) rfl
    · intro ho a W hW hd hx
      have h31 : a.eval (.tmp 31) = undef := hd 20 (by kernel_rfl)
      exact op_un ho rfl h31 rfl
    · intro ho a W hW hd hx
      have h31 : a.eval (.tmp 31) = undef := hd 20 (by kernel_rfl)
      exact op_un ho rfl h31 rfl
    · intro ho a W hW hd hx
      have h31 : a.eval (.tmp 31) = undef := hd 20 (by kernel_rfl)
      exact op_un ho rfl h31 rfl
    · intro ho a W hW hd hx
      have h31 : a.eval (.tmp 31) = undef := hd 20 (by kernel_rfl)
      exact op_un ho rfl h31 rfl
    · intro ho a W hW hd hx
      have h31 : a.eval (.tmp 31) = undef := hd 20 (by kernel_rfl)
      exact op_un ho rfl h31 rfl
    · intro ho a W hW hd hx
      have h31 : a.eval (.tmp 31) = undef := hd 20 (by kernel_rfl)
      exact op_un ho rfl h31 rfl
    · intro ho a W hW hd hx
      have h31 : a.eval (.tmp 31) = undef := hd 20 (by kernel_rfl)
      exact op_un ho rfl h31 rfl
    · intro ho a W hW hd hx
      have h38 : a.eval (.tmp 38) = undef := hd 27 (by kernel_rfl)
      exact op_un ho rfl h38 rfl
    · intro ho a W hW hd hx
      have h38 : a.eval (.tmp 38) = undef := hd 27 (by kernel_rfl)
      exact op_un ho rfl h38 rfl
    · intro ho a W hW hd hx
      have h38 : a.eval (.tmp 38) = undef := hd 27 (by kernel_rfl)
      exact op_un ho rfl h38 rfl
    · intro ho a W hW hd hx
      have h38 : a.eval (.tmp 38) = undef := hd 27 (by kernel_rfl)
      exact op_un ho rfl h38 rfl
    · intro ho a W hW hd hx
      have h38 : a.eval (.tmp 38) = undef := hd 27 (by kernel_rfl)
      exact op_un ho rfl h38 rfl
    · intro ho a W hW hd hx
      have h38 : a.eval (.tmp 38) = undef := hd 27 (by kernel_rfl)
      exact op_un ho rfl h38 rfl
    · intro ho a W hW hd hx
      have h31 : a.eval (.tmp 31) = undef := hd 20 (by kernel_rfl)
      exact op_un ho rfl h31 rfl
    · intro ho a W hW hd hx
      have h29 : a.eval (.tmp 29) = .bool false := hd 18 (by kernel_rfl)
      exact op_off ho rfl h29 (by decide) rfl
    · intro ho a W hW hd hx
      have h29 : a.eval (.tmp 29) = .bool false := hd 18 (by kernel_rfl)
      exact op_off ho rfl h29 (by decide) rfl
    · intro ho a W hW hd hx
      have h47 : a.eval (.tmp 47) = undef := hd 36 (by kernel_rfl)
      exact op_un ho rfl h47 rfl
    · intro ho a W hW hd hx
      have h47 : a.eval (.tmp 47) = undef := hd 36 (by kernel_rfl)
      exact op_un ho rfl h47 rfl
    · intro ho a W hW hd hx
      have h47 : a.eval (.tmp 47) = undef := hd 36 (by kernel_rfl)
      exact op_un ho rfl h47 rfl
    · intro ho a W hW hd hx
      have h50 : a.eval (.tmp 50) = undef := hd 39 (by kernel_rfl)
      exact op_un ho rfl h50 rfl
    · intro ho a W hW hd hx
      have h50 : a.eval (.tmp 50) = undef := hd 39 (by kernel_rfl)
      exact op_un ho rfl h50 rfl
    · intro ho a W hW hd hx
      have h50 : a.eval (.tmp 50) = undef := hd 39 (by kernel_rfl)
      exact op_un ho rfl h50 rfl
    · intro ho a W hW hd hx
      have h50 : a.eval (.tmp 50) = undef := hd 39 (by kernel_rfl)
      exact op_un ho rfl h50 rfl
    · intro ho a W hW hd hx
      have h50 : a.eval (.tmp 50) = undef := hd 39 (by kernel_rfl)
      exact op_un ho rfl h50 rfl
    · intro ho a W hW hd hx
      have h50 : a.eval (.tmp 50) = undef := hd 39 (by kernel_rfl)
      exact op_un ho rfl h50 rfl
    · intro ho a W hW hd hx
      have h47 : a.eval (.tmp 47) = undef := hd 36 (by kernel_rfl)
      exact op_un ho rfl h47 rfl
    · intro ho a W hW hd hx
      have h29 : a.eval (.tmp 29) = .bool false := hd 18 (by kernel_rfl)
      exact op_off ho rfl h29 (by decide) rfl
    · intro ho a W hW hd hx
      have h29 : a.eval (.tmp 29) = .bool false := hd 18 (by kernel_rfl)
      have h58 : a.eval (.tmp 58) = undef := hd 47 (by kernel_rfl)
      exact op_v ho (.bool false) rfl (by intro ρ hρ kc kf; rw [← hρ] at h29; clear hρ; simp [execOp, go_sem, kc, h29]) rfl rfl
    · intro ho a W hW hd hx
      have h59 : a.eval (.tmp 59) = .bool false := hd 48 (by kernel_rfl)
      exact op_v ho (.bool false) rfl (by intro ρ hρ kc kf; rw [← hρ] at h59; clear hρ; simp [execOp, go_sem, h59]) rfl rfl
    · intro ho a W hW hd hx
      have h60 : a.eval (.tmp 60) = .bool false := hd 49 (by kernel_rfl)
      exact op_off ho rfl h60 (by decide) rfl
    · intro ho a W hW hd hx
      have h60 : a.eval (.tmp 60) = .bool false := hd 49 (by kernel_rfl)
      exact op_off ho rfl h60 (by decide) rfl
    · intro ho a W hW hd hx
      have h62 : a.eval (.tmp 62) = undef := hd 51 (by kernel_rfl)
      exact op_un ho rfl h62 rfl
    · intro ho a W hW hd hx
      have h62 : a.eval (.tmp 62) = undef := hd 51 (by kernel_rfl)
      exact op_un ho rfl h62 rfl
    · intro ho a W hW hd hx
      have h62 : a.eval (.tmp 62) = undef := hd 51 (by kernel_rfl)
      exact op_un ho rfl h62 rfl
    · intro ho a W hW hd hx
      have h62 : a.eval (.tmp 62) = undef := hd 51 (by kernel_rfl)
      exact op_un ho rfl h62 rfl
    · intro ho a W hW hd hx
      have h62 : a.eval (.tmp 62) = undef := hd 51 (by kernel_rfl)
      exact op_un ho rfl h62 rfl
    · intro ho a W hW hd hx
      have h62 : a.eval (.tmp 62) = undef := hd 51 (by kernel_rfl)
      exact op_un ho rfl h62 rfl
    · intro ho a W hW hd hx
      have h60 : a.eval (.tmp 60) = .bool false := hd 49 (by kernel_rfl)
      exact op_off ho rfl h60 (by decide) rfl
    · intro ho a W hW hd hx
      have h60 : a.eval (.tmp 60) = .bool false := hd 49 (by kernel_rfl)
      exact op_off ho rfl h60 (by decide) rfl
    · intro ho a W hW hd hx
      have h70 : a.eval (.tmp 70) = undef := hd 59 (by kernel_rfl)
      exact op_un ho rfl h70 rfl
    · intro ho a W hW hd hx
      have h70 : a.eval (.tmp 70) = undef := hd 59 (by kernel_rfl)
      exact op_un ho rfl h70 rfl
    · intro ho a W hW hd hx
      have h70 : a.eval (.tmp 70) = undef := hd 59 (by kernel_rfl)
      exact op_un ho rfl h70 rfl
    · intro ho a W hW hd hx
      have h73 : a.eval (.tmp 73) = undef := hd 62 (by kernel_rfl)
      exact op_un ho rfl h73 rfl
    · intro ho a W hW hd hx
      have h73 : a.eval (.tmp 73) = undef := hd 62 (by kernel_rfl)
      exact op_un ho rfl h73 rfl
    · intro ho a W hW hd hx
      have h73 : a.eval (.tmp 73) = undef := hd 62 (by kernel_rfl)
      exact op_un ho rfl h73 rfl
    · intro ho a W hW hd hx
      have h73 : a.eval (.tmp 73) = undef := hd 62 (by kernel_rfl)
      exact op_un ho rfl h73 rfl
    · intro ho a W hW hd hx
      have h73 : a.eval (.tmp 73) = undef := hd 62 (by kernel_rfl)
      exact op_un ho rfl h73 rfl
    · intro ho a W hW hd hx
      have h73 : a.eval (.tmp 73) = undef := hd 62 (by kernel_rfl)
      exact op_un ho rfl h73 rfl
    · intro ho a W hW hd hx
      have h70 : a.eval (.tmp 70) = undef := hd 59 (by kernel_rfl)
      exact op_un ho rfl h70 rfl
    · intro ho a W hW hd hx
      have h60 : a.eval (.tmp 60) = .bool false := hd 49 (by kernel_rfl)
      exact op_off ho rfl h60 (by decide) rfl
    · intro ho a W hW hd hx
      have h60 : a.eval (.tmp 60) = .bool false := hd 49 (by kernel_rfl)
      have h81 : a.eval (.tmp 81) = undef := hd 70 (by kernel_rfl)
      exact op_v ho (.bool false) rfl (by intro ρ hρ kc kf; rw [← hρ] at h60; clear hρ; simp [execOp, go_sem, kc, h60]) rfl rfl
    · intro ho a W hW hd hx
      have h82 : a.eval (.tmp 82) = .bool false := hd 71 (by kernel_rfl)
      exact op_v ho (.bool false) rfl (by intro ρ hρ kc kf; rw [← hρ] at h82; clear hρ; simp [execOp, go_sem, h82]) rfl rfl
    · intro ho a W hW hd hx
      have h83 : a.eval (.tmp 83) = .bool false := hd 72 (by kernel_rfl)
      exact op_off ho rfl h83 (by decide) rfl
    · intro ho a W hW hd hx
      have h83 : a.eval (.tmp 83) = .bool false := hd 72 (by kernel_rfl)
      exact op_off ho rfl h83 (by decide) rfl
    · intro ho a W hW hd hx
      have h83 : a.eval (.tmp 83) = .bool false := hd 72 (by kernel_rfl)
      exact op_off ho rfl h83 (by decide) rfl
    · intro ho a W hW hd hx
      have h83 : a.eval (.tmp 83) = .bool false := hd 72 (by kernel_rfl)
      exact op_off ho rfl h83 (by decide) rfl
    · intro ho a W hW hd hx
      have h83 : a.eval (.tmp 83) = .bool false := hd 72 (by kernel_rfl)
      exact op_off ho rfl h83 (by decide) rfl
    · intro ho a W hW hd hx
      have h83 : a.eval (.tmp 83) = .bool false := hd 72 (by kernel_rfl)
      exact op_off ho rfl h83 (by decide) rfl
    · intro ho a W hW hd hx
      have h83 : a.eval (.tmp 83) = .bool false := hd 72 (by kernel_rfl)
      exact op_off ho rfl h83 (by decide) rfl
    · intro ho a W hW hd hx
      have h90 : a.eval (.tmp 90) = undef := hd 79 (by kernel_rfl)
      exact op_un ho rfl h90 rfl
    · intro ho a W hW hd hx
      have h90 : a.eval (.tmp 90) = undef := hd 79 (by kernel_rfl)
      exact op_un ho rfl h90 rfl
    · intro ho a W hW hd hx
      have h92 : a.eval (.tmp 92) = undef := hd 81 (by kernel_rfl)
      exact op_un ho rfl h92 rfl
    · intro ho a W hW hd hx
      have h92 : a.eval (.tmp 92) = undef := hd 81 (by kernel_rfl)
      exact op_un ho rfl h92 rfl
    · intro ho a W hW hd hx
      have h92 : a.eval (.tmp 92) = undef := hd 81 (by kernel_rfl)
      exact op_un ho rfl h92 rfl
    · intro ho a W hW hd hx
      have h92 : a.eval (.tmp 92) = undef := hd 81 (by kernel_rfl)
      exact op_un ho rfl h92 rfl
    · intro ho a W hW hd hx
      have h92 : a.eval (.tmp 92) = undef := hd 81 (by kernel_rfl)
      exact op_un ho rfl h92 rfl
    · intro ho a W hW hd hx
      have h92 : a.eval (.tmp 92) = undef := hd 81 (by kernel_rfl)
      exact op_un ho rfl h92 rfl
    · intro ho a W hW hd hx
      have h90 : a.eval (.tmp 90) = undef := hd 79 (by kernel_rfl)
      exact op_un ho rfl h90 rfl
    · intro ho a W hW hd hx
      have h83 : a.eval (.tmp 83) = .bool false := hd 72 (by kernel_rfl)
      exact op_off ho rfl h83 (by decide) rfl
    · intro ho a W hW hd hx
      have h83 : a.eval (.tmp 83) = .bool false := hd 72 (by kernel_rfl)
      have h100 : a.eval (.tmp 100) = undef := hd 89 (by kernel_rfl)
      exact op_v ho (.bool false) rfl (by intro ρ hρ kc kf; rw [← hρ] at h83; clear hρ; simp [execOp, go_sem, kc, h83]) rfl rfl
    · intro ho a W hW hd hx
      have h101 : a.eval (.tmp 101) = .bool false := hd 90 (by kernel_rfl)
      exact op_v ho (.bool false) rfl (by intro ρ hρ kc kf; rw [← hρ] at h101; clear hρ; simp [execOp, go_sem, h101]) rfl rfl
  intro v W hW hv _
  have hlast : v 91 = .bool false := hv 91 (by decide)
  simp only [List.append_eq, List.cons_append, List.nil_append, List.take_succ_cons, List.take_zero, List.drop_succ_cons, List.drop_zero, fillL, wpTail, Act.put, List.setIfInBounds_toArray, List.set_cons_zero, List.set_cons_succ, Nat.reduceAdd]
  rw [hlast]
  go_wp2
  go_ret
  exact ⟨rfl, hW⟩

set_option maxRecDepth 100000 in
set_option maxHeartbeats 4000000 in
theorem on_fftt_tf (g : Nat) (T : TypeId) (c : Cm) (b : Value) (w : World) (hb : Blk w g T (cO c b)) (hL : c.lo = 0) (hH : ¬ c.hi = 0) :
    Calls Try.prog 37 #[.pointer (some ⟨g, 0, none⟩), .bool false, .bool false, .bool true, .bool true] w fun e w' => e = .returned (.bool (onlyB c false false true true)) ∧ Below w.heap.size w w' := by
  have e : onlyB c false false true true = false := by simp [onlyB, hL, hH]
  rw [e]; clear e
  have HB := Lib.hid hb; clear hb
  have HL := Lib.hid hL; clear hL
  have HH := Lib.hid hH; clear hH
  go_enter Try.func37, Try.ntmps37
  go_upto_region 1 with fail
  refine wp_region_grows 92 ((fun q_ _ _ => q_ = .bool false) :: (fun q_ _ _ => q_ = .bool false) :: (fun q_ _ _ => q_ = undef) :: (fun q_ _ _ => q_ = undef) :: (fun q_ _ _ => q_ = .bool false) :: (fun q_ _ _ => q_ = .bool false) :: (fun q_ _ _ => q_ = .bool false) :: (fun q_ _ _ => q_ = .bool true) :: (fun q_ _ _ => q_ = .bool true) :: (fun q_ _ _ => q_ = .pointer (some ⟨g, 0, none⟩)) :: (fun q_ _ _ => q_ = .pointer (some ⟨g, 0, none⟩)) :: (fun q_ _ _ => q_ = .pointer (some ⟨g, 0, none⟩)) :: (fun q_ _ _ => q_ = .pointer (some ⟨g, 5, none⟩)) :: (fun q_ _ _ => q_ = .agg #[.int .i64 c.lo, .int .i64 c.hi]) :: (fun q_ _ _ => q_ = .agg #[.int .i64 0, .int .i64 0]) :: (fun q_ _ _ => q_ = .bool false) :: (fun q_ _ _ => q_ = .bool false) :: (fun q_ _ _ => q_ = .bool false) :: (fun q_ _ _ => q_ = .bool false) :: (fun q_ _ _ => q_ = undef) :: (fun q_ _ _ => q_ = undef) :: (fun q_ _ _ => q_ = undef) :: (fun q_ _ _ => q_ = undef) :: (fun q_ _ _ => q_ = undef) :: (fun q_ _ _ => q_ = undef) :: (fun q_ _ _ => q_ = undef) :: (fun q_ _ _ => q_ = undef) :: (fun q_ _ _ => q_ = undef) :: (fun q_ _ _ => q_ = undef) :: (fun q_ _ _ => q_ = undef) :: (fun q_ _ _ => q_ = undef) :: (fun q_ _ _ => q_ = undef) :: (fun q_ _ _ => q_ = undef) :: (fun q_ _ _ => q_ = undef) :: (fun q_ _ _ => q_ = undef) :: (fun q_ _ _ => q_ = undef) :: (fun q_ _ _ => q_ = undef) :: (fun q_ _ _ => q_ = undef) :: (fun q_ _ _ => q_ = undef) :: (fun q_ _ _ => q_ = undef) :: (fun q_ _ _ => q_ = undef) :: (fun q_ _ _ => q_ = undef) :: (fun q_ _ _ => q_ = undef) :: (fun q_ _ _ => q_ = undef) :: (fun q_ _ _ => q_ = undef) :: (fun q_ _ _ => q_ = undef) :: (fun q_ _ _ => q_ = undef) :: (fun q_ _ _ => q_ = undef) :: (fun q_ _ _ => q_ = .bool false) :: (fun q_ _ _ => q_ = .bool false) :: (fun q_ _ _ => q_ = undef) :: (fun q_ _ _ => q_ = undef) :: (fun q_ _ _ => q_ = undef) :: (fun q_ _ _ => q_ = undef) :: (fun q_ _ _ => q_ = undef) :: (fun q_ _ _ => q_ = undef) :: (fun q_ _ _ => q_ = undef) :: (fun q_ _ _ => q_ = undef) :: (fun q_ _ _ => q_ = undef) :: (fun q_ _ _ => q_ = undef) :: (fun q_ _ _ => q_ = undef) :: (fun q_ _ _ => q_ = undef) :: (fun q_ _ _ => q_ = undef) :: (fun q_ _ _ => q_ = undef) :: (fun q_ _ _ => q_ = undef) :: (fun q_ _ _ => q_ = undef) :: (fun q_ _ _ => q_ = undef) :: (fun q_ _ _ => q_ = undef) :: (fun q_ _ _ => q_ = undef) :: (fun q_ _ _ => q_ = undef) :: (fun q_ _ _ => q_ = undef) :: (fun q_ _ _ => q_ = .bool false) :: (fun q_ _ _ => q_ = .bool false) :: (fun q_ _ _ => q_ = undef) :: (fun q_ _ _ => q_ = undef) :: (fun q_ _ _ => q_ = undef) :: (fun q_ _ _ => q_ = undef) :: (fun q_ _ _ => q_ = undef) :: (fun q_ _ _ => q_ = undef) :: (fun q_ _ _ => q_ = undef) :: (fun q_ _ _ => q_ = undef) :: (fun q_ _ _ => q_ = undef) :: (fun q_ _ _ => q_ = undef) :: (fun q_ _ _ => q_ = undef) :: (fun q_ _ _ => q_ = undef) :: (fun q_ _ _ => q_ = undef) :: (fun q_ _ _ => q_ = undef) :: (fun q_ _ _ => q_ = undef) :: (fun q_ _ _ => q_ = undef) :: (fun q_ _ _ => q_ = undef) :: (fun q_ _ _ => q_ = .bool false) :: (fun q_ _ _ => q_ = .bool false) :: []) (fun _ => false) (w.heap.size) w (by kernel_rfl) (by kernel_rfl) (by kernel_rfl) (Below.refl _ _) (Nat.le_refl _) ?zStab (fun _ h => by cases h) ?zOps ?zFin
  case zStab => exact ⟨st_is _, st_is _, st_is _, st_is _, st_is _, st_is _, st_is _, st_is _, st_is _, st_is _, st_is _, st_is _, st_is _, st_is _, st_is _, st_is _, st_is _, st_is _, st_is _, st_is _, st_is _, st_is _, st_is _, st_is _, st_is _, st_is _, st_is _, st_is _, st_is _, st_is _, st_is _, st_is _, st_is _, st_is _, st_is _, st_is _, st_is _, st_is _, st_is _, st_is _, st_is _, st_is _, st_is _, st_is _, st_is _, st_is _, st_is _, st_is _, st_is _, st_is _, st_is _, st_is _, st_is _, st_is _, st_is _, st_is _, st_is _, st_is _, st_is _, st_is _, st_is _, st_is _, st_is _, st_is _, st_is _, st_is _, st_is _, st_is _, st_is _, st_is _, st_is _, st_is _, st_is _, st_is _, st_is _, st_is _, st_is _, st_is _, st_is _, st_is _, st_is _, st_is _, st_is _, st_is _, st_is _, st_is _, st_is _, st_is _, st_is _, st_is _, st_is _, st_is _, trivial⟩
  case zOps =>
    intro Q
    refine ⟨?_, ?_, ?_, ?_, ?_, ?_, ?_, ?_, ?_, ?_, ?_, ?_, ?_, ?_, ?_, ?_, ?_, ?_, ?_, ?_, ?_, ?_, ?_, ?_, ?_, ?_, ?_, ?_, ?_, ?_, ?_, ?_, ?_, ?_, ?_, ?_, ?_, ?_, ?_, ?_, ?_, ?_, ?_, ?_, ?_, ?_, ?_, ?_, ?_, ?_, ?_, ?_, ?_, ?_, ?_, ?_, ?_, ?_, ?_, ?_, ?_, ?_, ?_, ?_, ?_, ?_, ?_, ?_, ?_, ?_, ?_, ?_, ?_, ?_, ?_, ?_, ?_, ?_, ?_, ?_, ?_, ?_, ?_, ?_, ?_, ?_, ?_, ?_, ?_, ?_, ?_, ?_, trivial⟩
    · intro ho a W hW hd hx
      have h1 : a.eval (.tmp 1) = .bool false := (hx 1 (dst_not (by kernel_rfl))).trans rfl
      exact op_v ho (.bool false) rfl (by intro ρ hρ kc kf; rw [← hρ] at h1; clear hρ; simp [execOp, go_sem, h1]) rfl rfl
    · intro ho a W hW hd hx
      have h11 : a.eval (.tmp 11) = .bool false := hd 0 (by kernel_rfl)
      exact op_v ho (.bool false) rfl (by intro ρ hρ kc kf; rw [← hρ] at h11; clear hρ; simp [execOp, go_sem, h11]) rfl rfl
    · intro ho a W hW hd hx
      have h12 : a.eval (.tmp 12) = .bool false := hd 1 (by kernel_rfl)
      exact op_off ho rfl h12 (by decide) rfl
    · intro ho a W hW hd hx
      have h12 : a.eval (.tmp 12) = .bool false := hd 1 (by kernel_rfl)
      exact op_off ho rfl h12 (by decide) rfl
    · intro ho a W hW hd hx
      have h12 : a.eval (.tmp 12) = .bool false := hd 1 (by kernel_rfl)
      have h14 : a.eval (.tmp 14) = undef := hd 3 (by kernel_rfl)
      exact op_v ho (.bool false) rfl (by intro ρ hρ kc kf; rw [← hρ] at h12; clear hρ; simp [execOp, go_sem, kc, h12]) rfl rfl
    · intro ho a W hW hd hx
      have h15 : a.eval (.tmp 15) = .bool false := hd 4 (by kernel_rfl)
      exact op_v ho (.bool false) rfl (by intro ρ hρ kc kf; rw [← hρ] at h15; clear hρ; simp [execOp, go_sem, h15]) rfl rfl
    · intro ho a W hW hd hx
      have h16 : a.eval (.tmp 16) = .bool false := hd 5 (by kernel_rfl)
      have h1 : a.eval (.tmp 1) = .bool false := (hx 1 (dst_not (by kernel_rfl))).trans rfl
      exact op_vg ho (.bool false) rfl h16 (by intro ρ hρ kc kf; rw [← hρ] at h1; clear hρ; simp [execOp, go_sem, h1]) rfl rfl
    · intro ho a W hW hd hx
      have h16 : a.eval (.tmp 16) = .bool false := hd 5 (by kernel_rfl)
      have h17 : a.eval (.tmp 17) = .bool false := hd 6 (by kernel_rfl)
      exact op_vg ho (.bool true) rfl h16 (by intro ρ hρ kc kf; rw [← hρ] at h17; clear hρ; simp [execOp, go_sem, h17]) rfl rfl
    · intro ho a W hW hd hx
      have h16 : a.eval (.tmp 16) = .bool false := hd 5 (by kernel_rfl)
      have h18 : a.eval (.tmp 18) = .bool true := hd 7 (by kernel_rfl)
      exact op_vg ho (.bool true) rfl h16 (by intro ρ hρ kc kf; rw [← hρ] at h18; clear hρ; simp [execOp, go_sem, h18]) rfl rfl
    · intro ho a W hW hd hx
      have h19 : a.eval (.tmp 19) = .bool true := hd 8 (by kernel_rfl)
      have h0 : a.eval (.tmp 0) = .pointer (some ⟨g, 0, none⟩) := (hx 0 (dst_not (by kernel_rfl))).trans rfl
      exact op_vg ho (.pointer (some ⟨g, 0, none⟩)) rfl h19 (by intro ρ hρ kc kf; rw [← hρ] at h0; clear hρ; simp [execOp, go_sem, h0]) rfl rfl
    · intro ho a W hW hd hx
      have h19 : a.eval (.tmp 19) = .bool true := hd 8 (by kernel_rfl)
      have h20 : a.eval (.tmp 20) = .pointer (some ⟨g, 0, none⟩) := hd 9 (by kernel_rfl)
      exact op_vg ho (.pointer (some ⟨g, 0, none⟩)) rfl h19 (by intro ρ hρ kc kf; rw [← hρ] at h20; clear hρ; simp [execOp, go_sem, h20]) rfl rfl
    · intro ho a W hW hd hx
      have h19 : a.eval (.tmp 19) = .bool true := hd 8 (by kernel_rfl)
      have h21 : a.eval (.tmp 21) = .pointer (some ⟨g, 0, none⟩) := hd 10 (by kernel_rfl)
      exact op_vg ho (.pointer (some ⟨g, 0, none⟩)) rfl h19 (by intro ρ hρ kc kf; rw [← hρ] at h21; clear hρ; simp [execOp, go_sem, h21]) rfl rfl
    · intro ho a W hW hd hx
      have h19 : a.eval (.tmp 19) = .bool true := hd 8 (by kernel_rfl)
      have h22 : a.eval (.tmp 22) = .pointer (some ⟨g, 0, none⟩) := hd 11 (by kernel_rfl)
      exact op_vg ho (.pointer (some ⟨g, 5, none⟩)) rfl h19 (by intro ρ hρ kc kf; rw [← hρ] at h22; clear hρ; simp [execOp, go_sem, h22]) rfl rfl
    · intro ho a W hW hd hx
      have h19 : a.eval (.tmp 19) = .bool true := hd 8 (by kernel_rfl)
      have h23 : a.eval (.tmp 23) = .pointer (some ⟨g, 5, none⟩) := hd 12 (by kernel_rfl)
      have hc1 : W.cell? ⟨g, 5, none⟩ = some (.int .i64 c.lo) := by rw [(HB.out.below hW HB.out.lt).cell 5]; rfl
      have hc2 : W.cell? ⟨g, 6, none⟩ = some (.int .i64 c.hi) := by rw [(HB.out.below hW HB.out.lt).cell 6]; rfl
      exact op_vg ho (.agg #[.int .i64 c.lo, .int .i64 c.hi]) rfl h19 (by intro ρ hρ kc kf; rw [← hρ] at h23; clear hρ; simp [execOp, go_sem, h23, hc1, hc2]) rfl rfl
    · intro ho a W hW hd hx
      have h19 : a.eval (.tmp 19) = .bool true := hd 8 (by kernel_rfl)
      exact op_vg ho (.agg #[.int .i64 0, .int .i64 0]) rfl h19 (by intro ρ hρ kc kf; clear hρ; simp [execOp, go_sem]) rfl rfl
    · intro ho a W hW hd hx
      have h19 : a.eval (.tmp 19) = .bool true := hd 8 (by kernel_rfl)
      have h24 : a.eval (.tmp 24) = .agg #[.int .i64 c.lo, .int .i64 c.hi] := hd 13 (by kernel_rfl)
      have h25 : a.eval (.tmp 25) = .agg #[.int .i64 0, .int .i64 0] := hd 14 (by kernel_rfl)
      exact op_vg ho (.bool false) rfl h19 (by intro ρ hρ kc kf; rw [← hρ] at h24 h25; clear hρ; simp [execOp, go_sem, h24, h25, HL.out, HH.out]) rfl rfl
    · intro ho a W hW hd hx
      have h16 : a.eval (.tmp 16) = .bool false := hd 5 (by kernel_rfl)
      have h19 : a.eval (.tmp 19) = .bool true := hd 8 (by kernel_rfl)
      have h26 : a.eval (.tmp 26) = .bool false := hd 15 (by kernel_rfl)
      exact op_vg ho (.bool false) rfl h16 (by intro ρ hρ kc kf; rw [← hρ] at h19 h26; clear hρ; simp [execOp, go_sem, h19, h26]) rfl rfl
    · intro ho a W hW hd hx
      have h16 : a.eval (.tmp 16) = .bool false := hd 5 (by kernel_rfl)
      have h27 : a.eval (.tmp 27) = .bool false := hd 16 (by kernel_rfl)
      exact op_v ho (.bool false) rfl (by intro ρ hρ kc kf; rw [← hρ] at h16 h27; clear hρ; simp [execOp, go_sem, h16, h27]) rfl rfl
    · intro ho a W hW hd hx
      have h28 : a.eval (.tmp 28) = .bool false := hd 17 (by kernel_rfl)
      exact op_v ho (.bool false) rfl (by intro ρ hρ kc kf; rw [← hρ] at h28; clear hρ; simp [execOp, go_sem, h28]) rfl rfl
    · intro ho a W hW hd hx
      have h29 : a.eval (.tmp 29) = .bool false := hd 18 (by kernel_rfl)
      exact op_off ho rfl h29 (by decide) rfl
    · intro ho a W hW hd hx
      have h29 : a.eval (.tmp 29) = .bool false := hd 18 (by kernel_rfl)
      exact op_off ho rfl h29 (by decide) rfl
    · intro ho a W hW hd hx
      have h31 : a.eval (.tmp 31) = undef := hd 20 (by kernel_rfl)
      exact op_un ho rfl h31 rfl
    · intro ho a W hW hd hx
      have h31 : a.eval (.tmp 31) = undef := hd 20 (by kernel_rfl)
      exact op_un ho rfl h31 rfl
    · intro ho a W hW hd hx
      have h31 : a.eval (.tmp 31) = undef := hd 20 (by kernel_rfl)
      exact op_un ho rfl h31 rfl
    · intro ho a W hW hd hx
      have h31 : a.eval (.tmp 31) = undef := hd 20 (by kernel_rfl)
      exact op_un ho rfl h31 rfl
    · intro ho a W hW hd hx
      have h31 : a.eval (.tmp 31) = undef := hd 20 (by kernel_rfl)
      exact op_un ho rfl h31 rfl
    · intro ho a W hW hd hx
      have h31 : a.eval (.tmp 31) = undef := hd 20 (by kernel_rfl)
      exact op_un ho rfl h31 rfl
    · intro ho a W hW hd hx
      have h31 : a.eval (.tmp 31) = undef := hd 20 (by kernel_rfl)
      exact op_un ho rfl h31 rfl
    · intro ho a W hW hd hx
      have h38 : a.eval (.tmp 38) = undef := hd 27 (by kernel_rfl)
      exact op_un ho rfl h38 rfl
    · intro ho a W hW hd hx
      have h38 : a.eval (.tmp 38) = undef := hd 27 (by kernel_rfl)
      exact op_un ho rfl h38 rfl
    · intro ho a W hW hd hx
      have h38 : a.eval (.tmp 38) = undef := hd 27 (by kernel_rfl)
      exact op_un ho rfl h38 rfl
    · intro ho a W hW hd hx
      have h38 : a.eval (.tmp 38) = undef := hd 27 (by kernel_rfl)
      exact op_un ho rfl h38 rfl
    · intro ho a W hW hd hx
      have h38 : a.eval (.tmp 38) = undef := hd 27 (by kernel_rfl)
      exact op_un ho rfl h38 rfl
    · intro ho a W hW hd hx
      have h38 : a.eval (.tmp 38) = undef := hd 27 (by kernel_rfl)
      exact op_un ho rfl h38 rfl
    · intro ho a W hW hd hx
      have h31 : a.eval (.tmp 31) = undef := hd 20 (by kernel_rfl)
      exact op_un ho rfl h31 rfl
    · intro ho a W hW hd hx
      have h29 : a.eval (.tmp 29) = .bool false := hd 18 (by kernel_rfl)
      exact op_off ho rfl h29 (by decide) rfl
    · intro ho a W hW hd hx
      have h29 : a.eval (.tmp 29) = .bool false := hd 18 (by kernel_rfl)
      exact op_off ho rfl h29 (by decide) rfl
    · intro ho a W hW hd hx
      have h47 : a.eval (.tmp 47) = undef := hd 36 (by kernel_rfl)
      exact op_un ho rfl h47 rfl
    · intro ho a W hW hd hx
      have h47 : a.eval (.tmp 47) = undef := hd 36 (by kernel_rfl)
      exact op_un ho rfl h47 rfl
    · intro ho a W hW hd hx
      have h47 : a.eval (.tmp 47) = undef := hd 36 (by kernel_rfl)
      exact op_un ho rfl h47 rfl
    · intro ho a W hW hd hx
      have h50 : a.eval (.tmp 50) = undef := hd 39 (by kernel_rfl)
      exact op_un ho rfl h50 rfl
    · intro ho a W hW hd hx
      have h50 : a.eval (.tmp 50) = undef := hd 39 (by kernel_rfl)
      exact op_un ho rfl h50 rfl
    · intro ho a W hW hd hx
      have h50 : a.eval (.tmp 50) = undef := hd 39 (by kernel_rfl)
      exact op_un ho rfl h50 rfl
    · intro ho a W hW hd hx
      have h50 : a.eval (.tmp 50) = undef := hd 39 (by kernel_rfl)
      exact op_un ho rfl h50 rfl
    · intro ho a W hW hd hx
      have h50 : a.eval (.tmp 50) = undef := hd 39 (by kernel_rfl)
      exact op_un ho rfl h50 rfl
    · intro ho a W hW hd hx
      have h50 : a.eval (.tmp 50) = undef := hd 39 (by kernel_rfl)
      exact op_un ho rfl h50 rfl
    · intro ho a W hW hd hx
      have h47 : a.eval (.tmp 47) = undef := hd 36 (by kernel_rfl)
      exact op_un ho rfl h47 rfl
    · intro ho a W hW hd hx
      have h29 : a.eval (.tmp 29) = .bool false := hd 18 (by kernel_rfl)
      exact op_off ho rfl h29 (by decide) rfl
    · intro ho a W hW hd hx
      have h29 : a.eval (.tmp 29) = .bool false := hd 18 (by kernel_rfl)
      have h58 : a.eval (.tmp 58) = undef := hd 47 (by kernel_rfl)
      exact op_v ho (.bool false) rfl (by intro ρ hρ kc kf; rw [← hρ] at h29; clear hρ; simp [execOp, go_sem, kc, h29]) rfl rfl
    · intro ho a W hW hd hx
      have h59 : a.eval (.tmp 59) = .bool false := hd 48 (by kernel_rfl)
      exact op_v ho (.bool false) rfl (by intro ρ hρ kc kf; rw [← hρ] at h59; clear hρ; simp [execOp, go_sem, h59]) rfl rfl
    · intro ho a W hW hd hx
      have h60 : a.eval (.tmp 60) = .bool false := hd 49 (by kernel_rfl)
      exact op_off ho rfl h60 (by decide) rfl
    · intro ho a W hW hd hx
      have h60 : a.eval (.tmp 60) = .bool false := hd 49 (by kernel_rfl)
      exact op_off ho rfl h60 (by decide) rfl
    · intro ho a W hW hd hx
      have h62 : a.eval (.tmp 62) = undef := hd 51 (by kernel_rfl)
      exact op_un ho rfl h62 rfl
    · intro ho a W hW hd hx
      have h62 : a.eval (.tmp 62) = undef := hd 51 (by kernel_rfl)
      exact op_un ho rfl h62 rfl
    · intro ho a W hW hd hx
      have h62 : a.eval (.tmp 62) = undef := hd 51 (by kernel_rfl)
      exact op_un ho rfl h62 rfl
    · intro ho a W hW hd hx
      have h62 : a.eval (.tmp 62) = undef := hd 51 (by kernel_rfl)
      exact op_un ho rfl h62 rfl
    · intro ho a W hW hd hx
      have h62 : a.eval (.tmp 62) = undef := hd 51 (by kernel_rfl)
      exact op_un ho rfl h62 rfl
    · intro ho a W hW hd hx
      have h62 : a.eval (.tmp 62) = undef := hd 51 (by kernel_rfl)
      exact op_un ho rfl h62 rfl
    · intro ho a W hW hd hx
      have h60 : a.eval (.tmp 60) = .bool false := hd 49 (by kernel_rfl)
      exact op_off ho rfl h60 (by decide) rfl
    · intro ho a W hW hd hx
      have h60 : a.eval (.tmp 60) = .bool false := hd 49 (by kernel_rfl)
      exact op_off ho rfl h60 (by decide) rfl
    · intro ho a W hW hd hx
      have h70 : a.eval (.tmp 70) = undef := hd 59 (by kernel_rfl)
      exact op_un ho rfl h70 rfl
    · intro ho a W hW hd hx
      have h70 : a.eval (.tmp 70) = undef := hd 59 (by kernel_rfl)
      exact op_un ho rfl h70 rfl
    · intro ho a W hW hd hx
      have h70 : a.eval (.tmp 70) = undef := hd 59 (by kernel_rfl)
      exact op_un ho rfl h70 rfl
    · intro ho a W hW hd hx
      have h73 : a.eval (.tmp 73) = undef := hd 62 (by kernel_rfl)
      exact op_un ho rfl h73 rfl
    · intro ho a W hW hd hx
      have h73 : a.eval (.tmp 73) = undef := hd 62 (by kernel_rfl)
      exact op_un ho rfl h73 rfl
    · intro ho a W hW hd hx
      have h73 : a.eval (.tmp 73) = undef := hd 62 (by kernel_rfl)
      exact op_un ho rfl h73 rfl
    · intro ho a W hW hd hx
      have h73 : a.eval (.tmp 73) = undef := hd 62 (by kernel_rfl)
      exact op_un ho rfl h73 rfl
    · intro ho a W hW hd hx
      have h73 : a.eval (.tmp 73) = undef := hd 62 (by kernel_rfl)
      exact op_un ho rfl h73 rfl
    · intro ho a W hW hd hx
      have h73 : a.eval (.tmp 73) = undef := hd 62 (by kernel_rfl)
      exact op_un ho rfl h73 rfl
    · intro ho a W hW hd hx
      have h70 : a.eval (.tmp 70) = undef := hd 59 (by kernel_rfl)
      exact op_un ho rfl h70 rfl
    · intro ho a W hW hd hx
      have h60 : a.eval (.tmp 60) = .bool false := hd 49 (by kernel_rfl)
      exact op_off ho rfl h60 (by decide) rfl
    · intro ho a W hW hd hx
      have h60 : a.eval (.tmp 60) = .bool false := hd 49 (by kernel_rfl)
      have h81 : a.eval (.tmp 81) = undef := hd 70 (by kernel_rfl)
      exact op_v ho (.bool false) rfl (by intro ρ hρ kc kf; rw [← hρ] at h60; clear hρ; simp [execOp, go_sem, kc, h60]) rfl rfl
    · intro ho a W hW hd hx
      have h82 : a.eval (.tmp 82) = .bool false := hd 71 (by kernel_rfl)
      exact op_v ho (.bool false) rfl (by intro ρ hρ kc kf; rw [← hρ] at h82; clear hρ; simp [execOp, go_sem, h82]) rfl rfl
    · intro ho a W hW hd hx
      have h83 : a.eval (.tmp 83) = .bool false := hd 72 (by kernel_rfl)
      exact op_off ho rfl h83 (by decide) rfl
    · intro ho a W hW hd hx
      have h83 : a.eval (.tmp 83) = .bool false := hd 72 (by kernel_rfl)
      exact op_off ho rfl h83 (by decide) rfl
    · intro ho a W hW hd hx
      have h83 : a.eval (.tmp 83) = .bool false := hd 72 (by kernel_rfl)
      exact op_off ho rfl h83 (by decide) rfl
    · intro ho a W hW hd hx
      have h83 : a.eval (.tmp 83) = .bool false := hd 72 (by kernel_rfl)
      exact op_off ho rfl h83 (by decide) rfl
    · intro ho a W hW hd hx
      have h83 : a.eval (.tmp 83) = .bool false := hd 72 (by kernel_rfl)
      exact op_off ho rfl h83 (by decide) rfl
    · intro ho a W hW hd hx
      have h83 : a.eval (.tmp 83) = .bool false := hd 72 (by kernel_rfl)
      exact op_off ho rfl h83 (by decide) rfl
    · intro ho a W hW hd hx
      have h83 : a.eval (.tmp 83) = .bool false := hd 72 (by kernel_rfl)
      exact op_off ho rfl h83 (by decide) rfl
    · intro ho a W hW hd hx
      have h90 : a.eval (.tmp 90) = undef := hd 79 (by kernel_rfl)
      exact op_un ho rfl h90 rfl
    · intro ho a W hW hd hx
      have h90 : a.eval (.tmp 90) = undef := hd 79 (by kernel_rfl)
      exact op_un ho rfl h90 rfl
    · intro ho a W hW hd hx
      have h92 : a.eval (.tmp 92) = undef := hd 81 (by kernel_rfl)
      exact op_un ho rfl h92 rfl
    · intro ho a W hW hd hx
      have h92 : a.eval (.tmp 92) = undef := hd 81 (by kernel_rfl)
      exact op_un ho rfl h92 rfl
    · intro ho a W hW hd hx
      have h92 : a.eval (.tmp 92) = undef := hd 81 (by kernel_rfl)
      exact op_un ho rfl h92 rfl
    · intro ho a W hW hd hx
      have h92 : a.eval (.tmp 92) = undef := hd 81 (by kernel_rfl)
      exact op_un ho rfl h92 rfl
    · intro ho a W hW hd hx
      have h92 : a.eval (.tmp 92) = undef := hd 81 (by kernel_rfl)
      exact op_un ho rfl h92 rfl
    · intro ho a W hW hd hx
      have h92 : a.eval (.tmp 92) = undef := hd 81 (by kernel_rfl)
      exact op_un ho rfl h92 rfl
    · intro ho a W hW hd hx
      have h90 : a.eval (.tmp 90) = undef := hd 79 (by kernel_rfl)
      exact op_un ho rfl h90 rfl
    · intro ho a W hW hd hx
      have h83 : a.eval (.tmp 83) = .bool false := hd 72 (by kernel_rfl)
      exact op_off ho rfl h83 (by decide) rfl
    · intro ho a W hW hd hx
      have h83 : a.eval (.tmp 83) = .bool false := hd 72 (by kernel_rfl)
      have h100 : a.eval (.tmp 100) = undef := hd 89 (by kernel_rfl)
      exact op_v ho (.bool false) rfl (by intro ρ hρ kc kf; rw [← hρ] at h83; clear hρ; simp [execOp, go_sem, kc, h83]) rfl rfl
    · intro ho a W hW hd hx
      have h101 : a.eval (.tmp 101) = .bool false := hd 90 (by kernel_rfl)
      exact op_v ho (.bool false) rfl (by intro ρ hρ kc kf; rw [← hρ] at h101; clear hρ; simp [execOp, go_sem, h101]) rfl rfl
  intro v W hW hv _
  have hlast : v 91 = .bool false := hv 91 (by decide)
  simp only [List.append_eq, List.cons_append, List.nil_append, List.take_succ_cons, List.take_zero, List.drop_succ_cons, List.drop_zero, fillL, wpTail, Act.put, List.setIfInBounds_toArray, List.set_cons_zero, List.set_cons_succ, Nat.reduceAdd]
  rw [hlast]
  go_wp2
  go_ret
  exact ⟨rfl, hW⟩

set_option maxRecDepth 100000 in
set_option maxHeartbeats 4000000 in
theorem on_fftt_ttf (g : Nat) (T : TypeId) (c : Cm) (b : Value) (w : World) (hb : Blk w g T (cO c b)) (hL : c.lo = 0) (hH : c.hi = 0) (hM : ¬ c.mode = 0) :
    Calls Try.prog 37 #[.pointer (some ⟨g, 0, none⟩), .bool false, .bool false, .bool true, .bool true] w fun e w' => e = .returned (.bool (onlyB c false false true true)) ∧ Below w.heap.size w w' := by
  have e : onlyB c false false true true = false := by simp [onlyB, hL, hH, hM]
  rw [e]; clear e
  have HB := Lib.hid hb; clear hb
  have HL := Lib.hid hL; clear hL
  have HH := Lib.hid hH; clear hH
  have HM := Lib.hid hM; clear hM
  go_enter Try.func37, Try.ntmps37
  go_upto_region 1 with fail
  refine wp_region_grows 92 ((fun q_ _ _ => q_ = .bool false) :: (fun q_ _ _ => q_ = .bool false) :: (fun q_ _ _ => q_ = undef) :: (fun q_ _ _ => q_ = undef) :: (fun q_ _ _ => q_ = .bool false) :: (fun q_ _ _ => q_ = .bool false) :: (fun q_ _ _ => q_ = .bool false) :: (fun q_ _ _ => q_ = .bool true) :: (fun q_ _ _ => q_ = .bool true) :: (fun q_ _ _ => q_ = .pointer (some ⟨g, 0, none⟩)) :: (fun q_ _ _ => q_ = .pointer (some ⟨g, 0, none⟩)) :: (fun q_ _ _ => q_ = .pointer (some ⟨g, 0, none⟩)) :: (fun q_ _ _ => q_ = .pointer (some ⟨g, 5, none⟩)) :: (fun q_ _ _ => q_ = .agg #[.int .i64 c.lo, .int .i64 c.hi]) :: (fun q_ _ _ => q_ = .agg #[.int .i64 0, .int .i64 0]) :: (fun q_ _ _ => q_ = .bool true) :: (fun q_ _ _ => q_ = .bool true) :: (fun q_ _ _ => q_ = .bool true) :: (fun q_ _ _ => q_ = .bool true) :: (fun q_ _ _ => q_ = .bool false) :: (fun q_ _ _ => q_ = .bool false) :: (fun q_ _ _ => q_ = undef) :: (fun q_ _ _ => q_ = undef) :: (fun q_ _ _ => q_ = undef) :: (fun q_ _ _ => q_ = undef) :: (fun q_ _ _ => q_ = undef) :: (fun q_ _ _ => q_ = undef) :: (fun q_ _ _ => q_ = undef) :: (fun q_ _ _ => q_ = undef) :: (fun q_ _ _ => q_ = undef) :: (fun q_ _ _ => q_ = undef) :: (fun q_ _ _ => q_ = undef) :: (fun q_ _ _ => q_ = undef) :: (fun q_ _ _ => q_ = undef) :: (fun q_ _ _ => q_ = undef) :: (fun q_ _ _ => q_ = .bool false) :: (fun q_ _ _ => q_ = .bool false) :: (fun q_ _ _ => q_ = .bool false) :: (fun q_ _ _ => q_ = .bool true) :: (fun q_ _ _ => q_ = .bool true) :: (fun q_ _ _ => q_ = .pointer (some ⟨g, 0, none⟩)) :: (fun q_ _ _ => q_ = .pointer (some ⟨g, 0, none⟩)) :: (fun q_ _ _ => q_ = .pointer (some ⟨g, 0, none⟩)) :: (fun q_ _ _ => q_ = .pointer (some ⟨g, 7, none⟩)) :: (fun q_ _ _ => q_ = .int .i8 c.mode) :: (fun q_ _ _ => q_ = .bool false) :: (fun q_ _ _ => q_ = .bool false) :: (fun q_ _ _ => q_ = .bool false) :: (fun q_ _ _ => q_ = .bool false) :: (fun q_ _ _ => q_ = .bool false) :: (fun q_ _ _ => q_ = undef) :: (fun q_ _ _ => q_ = undef) :: (fun q_ _ _ => q_ = undef) :: (fun q_ _ _ => q_ = undef) :: (fun q_ _ _ => q_ = undef) :: (fun q_ _ _ => q_ = undef) :: (fun q_ _ _ => q_ = undef) :: (fun q_ _ _ => q_ = undef) :: (fun q_ _ _ => q_ = undef) :: (fun q_ _ _ => q_ = undef) :: (fun q_ _ _ => q_ = undef) :: (fun q_ _ _ => q_ = undef) :: (fun q_ _ _ => q_ = undef) :: (fun q_ _ _ => q_ = undef) :: (fun q_ _ _ => q_ = undef) :: (fun q_ _ _ => q_ = undef) :: (fun q_ _ _ => q_ = undef) :: (fun q_ _ _ => q_ = undef) :: (fun q_ _ _ => q_ = undef) :: (fun q_ _ _ => q_ = undef) :: (fun q_ _ _ => q_ = undef) :: (fun q_ _ _ => q_ = .bool false) :: (fun q_ _ _ => q_ = .bool false) :: (fun q_ _ _ => q_ = undef) :: (fun q_ _ _ => q_ = undef) :: (fun q_ _ _ => q_ = undef) :: (fun q_ _ _ => q_ = undef) :: (fun q_ _ _ => q_ = undef) :: (fun q_ _ _ => q_ = undef) :: (fun q_ _ _ => q_ = undef) :: (fun q_ _ _ => q_ = undef) :: (fun q_ _ _ => q_ = undef) :: (fun q_ _ _ => q_ = undef) :: (fun q_ _ _ => q_ = undef) :: (fun q_ _ _ => q_ = undef) :: (fun q_ _ _ => q_ = undef) :: (fun q_ _ _ => q_ = undef) :: (fun q_ _ _ => q_ = undef) :: (fun q_ _ _ => q_ = undef) :: (fun q_ _ _ => q_ = undef) :: (fun q_ _ _ => q_ = .bool false) :: (fun q_ _ _ => q_ = .bool false) :: []) (fun _ => false) (w.heap.size) w (by kernel_rfl) (by kernel_rfl) (by kernel_rfl) (Below.refl _ _) (Nat.le_refl _) ?zStab (fun _ h => by cases h) ?zOps ?zFin
  case zStab => exact ⟨st_is _, st_is _, st_is _, st_is _, st_is _, st_is _, st_is _, st_is _, st_is _, st_is _, st_is _, st_is _, st_is _, st_is _, st_is _, st_is _, st_is _, st_is _, st_is _, st_is _, st_is _, st_is _, st_is _, st_is _, st_is _, st_is _, st_is _, st_is _, st_is _, st_is _, st_is _, st_is _, st_is _, st_is _, st_is _, st_is _, st_is _, st_is _, st_is _, st_is _, st_is _, st_is _, st_is _, st_is _, st_is _, st_is _, st_is _, st_is _, st_is _, st_is _, st_is _, st_is _, st_is _, st_is _, st_is _, st_is _, st_is _, st_is _, st_is _, st_is _, st_is _, st_is _, st_is _, st_is _, st_is _, st_is _, st_is _, st_is _, st_is _, st_is _, st_is _, st_is _, st_is _, st_is _, st_is _, st_is _, st_is _, st_is _, st_is _, st_is _, st_is _, st_is _, st_is _, st_is _, st_is _, st_is _, st_is _, st_is _, st_is _, st_is _, st_is _, st_is _, trivial⟩
  case zOps =>
    intro Q
    refine ⟨?_, ?_, ?_, ?_, ?_, ?_, ?_, ?_, ?_, ?_, ?_, ?_, ?_, ?_, ?_, ?_, ?_, ?_, ?_, ?_, ?_, ?_, ?_, ?_, ?_, ?_, ?_, ?_, ?_, ?_, ?_, ?_, ?_, ?_, ?_, ?_, ?_, ?_, ?_, ?_, ?_, ?_, ?_, ?_, ?_, ?_, ?_, ?_, ?_, ?_, ?_, ?_, ?_, ?_, ?_, ?_, ?_, ?_, ?_, ?_, ?_, ?_, ?_, ?_, ?_, ?_, ?_, ?_, ?_, ?_, ?_, ?_, ?_, ?_, ?_, ?_, ?_, ?_, ?_, ?_, ?_, ?_, ?_, ?_, ?_, ?_, ?_, ?_, ?_, ?_, ?_, ?_, trivial⟩
    · intro ho a W hW hd hx
      have h1 : a.eval (.tmp 1) = .bool false := (hx 1 (dst_not (by kernel_rfl))).trans rfl
      exact op_v ho (.bool false) rfl (by intro ρ hρ kc kf; rw [← hρ] at h1; clear hρ; simp [execOp, go_sem, h1]) rfl rfl
    · intro ho a W hW hd hx
      have h11 : a.eval (.tmp 11) = .bool false := hd 0 (by kernel_rfl)
      exact op_v ho (.bool false) rfl (by intro ρ hρ kc kf; rw [← hρ] at h11; clear hρ; simp [execOp, go_sem, h11]) rfl rfl
    · intro ho a W hW hd hx
      have h12 : a.eval (.tmp 12) = .bool false := hd 1 (by kernel_rfl)
      exact op_off ho rfl h12 (by decide) rfl
    · intro ho a W hW hd hx
      have h12 : a.eval (.tmp 12) = .bool false := hd 1 (by kernel_rfl)
      exact op_off ho rfl h12 (by decide) rfl
    · intro ho a W hW hd hx
      have h12 : a.eval (.tmp 12) = .bool false := hd 1 (by kernel_rfl)
      have h14 : a.eval (.tmp 14) = undef := hd 3 (by kernel_rfl)
      exact op_v ho (.bool false) rfl (by intro ρ hρ kc kf; rw [← hρ] at h12; clear hρ; simp [execOp, go_sem, kc, h12]) rfl rfl
    · intro ho a W hW hd hx
      have h15 : a.eval (.tmp 15) = .bool false := hd 4 (by kernel_rfl)
      exact op_v ho (.bool false) rfl (by intro ρ hρ kc kf; rw [← hρ] at h15; clear hρ; simp [execOp, go_sem, h15]) rfl rfl
    · intro ho a W hW hd hx
      have h16 : a.eval (.tmp 16) = .bool false := hd 5 (by kernel_rfl)
      have h1 : a.eval (.tmp 1) = .bool false := (hx 1 (dst_not (by kernel_rfl))).trans rfl
      exact op_vg ho (.bool false) rfl h16 (by intro ρ hρ kc kf; rw [← hρ] at h1; clear hρ; simp [execOp, go_sem, h1]) rfl rfl
    · intro ho a W hW hd hx
      have h16 : a.eval (.tmp 16) = .bool false := hd 5 (by kernel_rfl)
      have h17 : a.eval (.tmp 17) = .bool false := hd 6 (by kernel_rfl)
      exact op_vg ho (.bool true) rfl h16 (by intro ρ hρ kc kf; rw [← hρ] at h17; clear hρ; simp [execOp, go_sem, h17]) rfl rfl
    · intro ho a W hW hd hx
      have h16 : a.eval (.tmp 16) = .bool false := hd 5 (by kernel_rfl)
      have h18 : a.eval (.tmp 18) = .bool true := hd 7 (by kernel_rfl)
      exact op_vg ho (.bool true) rfl h16 (by intro ρ hρ kc kf; rw [← hρ] at h18; clear hρ; simp [execOp, go_sem, h18]) rfl rfl
    · intro ho a W hW hd hx
      have h19 : a.eval (.tmp 19) = .bool true := hd 8 (by kernel_rfl)
      have h0 : a.eval (.tmp 0) = .pointer (some ⟨g, 0, none⟩) := (hx 0 (dst_not (by kernel_rfl))).trans rfl
      exact op_vg ho (.pointer (some ⟨g, 0, none⟩)) rfl h19 (by intro ρ hρ kc kf; rw [← hρ] at h0; clear hρ; simp [execOp, go_sem, h0]) rfl rfl
    · intro ho a W hW hd hx
      have h19 : a.eval (.tmp 19) = .bool true := hd 8 (by kernel_rfl)
      have h20 : a.eval (.tmp 20) = .pointer (some ⟨g, 0, none⟩) := hd 9 (by kernel_rfl)
      exact op_vg ho (.pointer (some ⟨g, 0, none⟩)) rfl h19 (by intro ρ hρ kc kf; rw [← hρ] at h20; clear hρ; simp [execOp, go_sem, h20]) rfl rfl
    · intro ho a W hW hd hx
      have h19 : a.eval (.tmp 19) = .bool true := hd 8 (by kernel_rfl)
      have h21 : a.eval (.tmp 21) = .pointer (some ⟨g, 0, none⟩) := hd 10 (by kernel_rfl)
      exact op_vg ho (.pointer (some ⟨g, 0, none⟩)) rfl h19 (by intro ρ hρ kc kf; rw [← hρ] at h21; clear hρ; simp [execOp, go_sem, h21]) rfl rfl
    · intro ho a W hW hd hx
      have h19 : a.eval (.tmp 19) = .bool true := hd 8 (by kernel_rfl)
      have h22 : a.eval (.tmp 22) = .pointer (some ⟨g, 0, none⟩) := hd 11 (by kernel_rfl)
      exact op_vg ho (.pointer (some ⟨g, 5, none⟩)) rfl h19 (by intro ρ hρ kc kf; rw [← hρ] at h22; clear hρ; simp [execOp, go_sem, h22]) rfl rfl
    · intro ho a W hW hd hx
      have h19 : a.eval (.tmp 19) = .bool true := hd 8 (by kernel_rfl)
      have h23 : a.eval (.tmp 23) = .pointer (some ⟨g, 5, none⟩) := hd 12 (by kernel_rfl)
      have hc1 : W.cell? ⟨g, 5, none⟩ = some (.int .i64 c.lo) := by rw [(HB.out.below hW HB.out.lt).cell 5]; rfl
      have hc2 : W.cell? ⟨g, 6, none⟩ = some (.int .i64 c.hi) := by rw [(HB.out.below hW HB.out.lt).cell 6]; rfl
      exact op_vg ho (.agg #[.int .i64 c.lo, .int .i64 c.hi]) rfl h19 (by intro ρ hρ kc kf; rw [← hρ] at h23; clear hρ; simp [execOp, go_sem, h23, hc1, hc2]) rfl rfl
    · intro ho a W hW hd hx
      have h19 : a.eval (.tmp 19) = .bool true := hd 8 (by kernel_rfl)
      exact op_vg ho (.agg #[.int .i64 0, .int .i64 0]) rfl h19 (by intro ρ hρ kc kf; clear hρ; simp [execOp, go_sem]) rfl rfl
    · intro ho a W hW hd hx
      have h19 : a.eval (.tmp 19) = .bool true := hd 8 (by kernel_rfl)
      have h24 : a.eval (.tmp 24) = .agg #[.int .i64 c.lo, .int .i64 c.hi] := hd 13 (by kernel_rfl)
      have h25 : a.eval (.tmp 25) = .agg #[.int .i64 0, .int .i64 0] := hd 14 (by kernel_rfl)
      exact op_vg ho (.bool true) rfl h19 (by intro ρ hρ kc kf; rw [← hρ] at h24 h25; clear hρ; simp [execOp, go_sem, h24, h25, HL.out, HH.out]) rfl rfl
    · intro ho a W hW hd hx
      have h16 : a.eval (.tmp 16) = .bool false := hd 5 (by kernel_rfl)
      have h19 : a.eval (.tmp 19) = .bool true := hd 8 (by kernel_rfl)
      have h26 : a.eval (.tmp 26) = .bool true := hd 15 (by kernel_rfl)
      exact op_vg ho (.bool true) rfl h16 (by intro ρ hρ kc kf; rw [← hρ] at h19 h26; clear hρ; simp [execOp, go_sem, h19, h26]) rfl rfl
    · intro ho a W hW hd hx
      have h16 : a.eval (.tmp 16) = .bool false := hd 5 (by kernel_rfl)
      have h27 : a.eval (.tmp 27) = .bool true := hd 16 (by kernel_rfl)
      exact op_v ho (.bool true) rfl (by intro ρ hρ kc kf; rw [← hρ] at h16 h27; clear hρ; simp [execOp, go_sem, h16, h27]) rfl rfl
    · intro ho a W hW hd hx
      have h28 : a.eval (.tmp 28) = .bool true := hd 17 (by kernel_rfl)
      exact op_v ho (.bool true) rfl (by intro ρ hρ kc kf; rw [← hρ] at h28; clear hρ; simp [execOp, go_sem, h28]) rfl rfl
    · intro ho a W hW hd hx
      have h29 : a.eval (.tmp 29) = .bool true := hd 18 (by kernel_rfl)
      have h2 : a.eval (.tmp 2) = .bool false := (hx 2 (dst_not (by kernel_rfl))).trans rfl
      exact op_vg ho (.bool false) rfl h29 (by intro ρ hρ kc kf; rw [← hρ] at h2; clear hρ; simp [execOp, go_sem, h2]) rfl rfl
    · intro ho a W hW hd hx
      have h29 : a.eval (.tmp 29) = .bool true := hd 18 (by kernel_rfl)
      have h30 : a.eval (.tmp 30) = .bool false := hd 19 (by kernel_rfl)
      exact op_vg ho (.bool false) rfl h29 (by intro ρ hρ kc kf; rw [← hρ] at h30; clear hρ; simp [execOp, go_sem, h30]) rfl rfl
    · intro ho a W hW hd hx
      have h31 : a.eval (.tmp 31) = .bool false := hd 20 (by kernel_rfl)
      exact op_off ho rfl h31 (by decide) rfl
    · intro ho a W hW hd hx
      have h31 : a.eval (.tmp 31) = .bool false := hd 20 (by kernel_rfl)
      exact op_off ho rfl h31 (by decide) rfl
    · intro ho a W hW hd hx
      have h31 : a.eval (.tmp 31) = .bool false := hd 20 (by kernel_rfl)
      exact op_off ho rfl h31 (by decide) rfl
    · intro ho a W hW hd hx
      have h31 : a.eval (.tmp 31) = .bool false := hd 20 (by kernel_rfl)
      exact op_off ho rfl h31 (by decide) rfl
    · intro ho a W hW hd hx
      have h31 : a.eval (.tmp 31) = .bool false := hd 20 (by kernel_rfl)
      exact op_off ho rfl h31 (by decide) rfl
    · intro ho a W hW hd hx
      have h31 : a.eval (.tmp 31) = .bool false := hd 20 (by kernel_rfl)
      exact op_off ho rfl h31 (by decide) rfl
    · intro ho a W hW hd hx
      have h31 : a.eval (.tmp 31) = .bool false := hd 20 (by kernel_rfl)
      exact op_off ho rfl h31 (by decide) rfl
    · intro ho a W hW hd hx
      have h38 : a.eval (.tmp 38) = undef := hd 27 (by kernel_rfl)
      exact op_un ho rfl h38 rfl
    · intro ho a W hW hd hx
      have h38 : a.eval (.tmp 38) = undef := hd 27 (by kernel_rfl)
      exact op_un ho rfl h38 rfl
    · intro ho a W hW hd hx
      have h38 : a.eval (.tmp 38) = undef := hd 27 (by kernel_rfl)
      exact op_un ho rfl h38 rfl
    · intro ho a W hW hd hx
      have h38 : a.eval (.tmp 38) = undef := hd 27 (by kernel_rfl)
      exact op_un ho rfl h38 rfl
    · intro ho a W hW hd hx
      have h38 : a.eval (.tmp 38) = undef := hd 27 (by kernel_rfl)
      exact op_un ho rfl h38 rfl
    · intro ho a W hW hd hx
      have h38 : a.eval (.tmp 38) = undef := hd 27 (by kernel_rfl)
      exact op_un ho rfl h38 rfl
    · intro ho a W hW hd hx
      have h31 : a.eval (.tmp 31) = .bool false := hd 20 (by kernel_rfl)
      exact op_off ho rfl h31 (by decide) rfl
    · intro ho a W hW hd hx
      have h29 : a.eval (.tmp 29) = .bool true := hd 18 (by kernel_rfl)
      have h31 : a.eval (.tmp 31) = .bool false := hd 20 (by kernel_rfl)
      have h45 : a.eval (.tmp 45) = undef := hd 34 (by kernel_rfl)
      exact op_vg ho (.bool false) rfl h29 (by intro ρ hρ kc kf; rw [← hρ] at h31; clear hρ; simp [execOp, go_sem, kc, h31]) rfl rfl
    · intro ho a W hW hd hx
      have h29 : a.eval (.tmp 29) = .bool true := hd 18 (by kernel_rfl)
      have h46 : a.eval (.tmp 46) = .bool false := hd 35 (by kernel_rfl)
      exact op_vg ho (.bool false) rfl h29 (by intro ρ hρ kc kf; rw [← hρ] at h46; clear hρ; simp [execOp, go_sem, h46]) rfl rfl
    · intro ho a W hW hd hx
      have h47 : a.eval (.tmp 47) = .bool false := hd 36 (by kernel_rfl)
      have h2 : a.eval (.tmp 2) = .bool false := (hx 2 (dst_not (by kernel_rfl))).trans rfl
      exact op_vg ho (.bool false) rfl h47 (by intro ρ hρ kc kf; rw [← hρ] at h2; clear hρ; simp [execOp, go_sem, h2]) rfl rfl
    · intro ho a W hW hd hx
      have h47 : a.eval (.tmp 47) = .bool false := hd 36 (by kernel_rfl)
      have h48 : a.eval (.tmp 48) = .bool false := hd 37 (by kernel_rfl)
      exact op_vg ho (.bool true) rfl h47 (by intro ρ hρ kc kf; rw [← hρ] at h48; clear hρ; simp [execOp, go_sem, h48]) rfl rfl
    · intro ho a W hW hd hx
      have h47 : a.eval (.tmp 47) = .bool false := hd 36 (by kernel_rfl)
      have h49 : a.eval (.tmp 49) = .bool true := hd 38 (by kernel_rfl)
      exact op_vg ho (.bool true) rfl h47 (by intro ρ hρ kc kf; rw [← hρ] at h49; clear hρ; simp [execOp, go_sem, h49]) rfl rfl
    · intro ho a W hW hd hx
      have h50 : a.eval (.tmp 50) = .bool true := hd 39 (by kernel_rfl)
      have h0 : a.eval (.tmp 0) = .pointer (some ⟨g, 0, none⟩) := (hx 0 (dst_not (by kernel_rfl))).trans rfl
      exact op_vg ho (.pointer (some ⟨g, 0, none⟩)) rfl h50 (by intro ρ hρ kc kf; rw [← hρ] at h0; clear hρ; simp [execOp, go_sem, h0]) rfl rfl
    · intro ho a W hW hd hx
      have h50 : a.eval (.tmp 50) = .bool true := hd 39 (by kernel_rfl)
      have h51 : a.eval (.tmp 51) = .pointer (some ⟨g, 0, none⟩) := hd 40 (by kernel_rfl)
      exact op_vg ho (.pointer (some ⟨g, 0, none⟩)) rfl h50 (by intro ρ hρ kc kf; rw [← hρ] at h51; clear hρ; simp [execOp, go_sem, h51]) rfl rfl
    · intro ho a W hW hd hx
      have h50 : a.eval (.tmp 50) = .bool true := hd 39 (by kernel_rfl)
      have h52 : a.eval (.tmp 52) = .pointer (some ⟨g, 0, none⟩) := hd 41 (by kernel_rfl)
      exact op_vg ho (.pointer (some ⟨g, 0, none⟩)) rfl h50 (by intro ρ hρ kc kf; rw [← hρ] at h52; clear hρ; simp [execOp, go_sem, h52]) rfl rfl
    · intro ho a W hW hd hx
      have h50 : a.eval (.tmp 50) = .bool true := hd 39 (by kernel_rfl)
      have h53 : a.eval (.tmp 53) = .pointer (some ⟨g, 0, none⟩) := hd 42 (by kernel_rfl)
      exact op_vg ho (.pointer (some ⟨g, 7, none⟩)) rfl h50 (by intro ρ hρ kc kf; rw [← hρ] at h53; clear hρ; simp [execOp, go_sem, h53]) rfl rfl
    · intro ho a W hW hd hx
      have h50 : a.eval (.tmp 50) = .bool true := hd 39 (by kernel_rfl)
      have h54 : a.eval (.tmp 54) = .pointer (some ⟨g, 7, none⟩) := hd 43 (by kernel_rfl)
      have hcell : W.cell? ⟨g, 7, none⟩ = some (.int .i8 c.mode) := by rw [(HB.out.below hW HB.out.lt).cell 7]; rfl
      exact op_vg ho (.int .i8 c.mode) rfl h50 (by intro ρ hρ kc kf; rw [← hρ] at h54; clear hρ; simp [execOp, go_sem, h54, hcell]) rfl rfl
    · intro ho a W hW hd hx
      have h50 : a.eval (.tmp 50) = .bool true := hd 39 (by kernel_rfl)
      have h55 : a.eval (.tmp 55) = .int .i8 c.mode := hd 44 (by kernel_rfl)
      exact op_vg ho (.bool false) rfl h50 (by intro ρ hρ kc kf; rw [← hρ] at h55; clear hρ; simp [execOp, go_sem, kc, h55, HM.out]) rfl rfl
    · intro ho a W hW hd hx
      have h47 : a.eval (.tmp 47) = .bool false := hd 36 (by kernel_rfl)
      have h50 : a.eval (.tmp 50) = .bool true := hd 39 (by kernel_rfl)
      have h56 : a.eval (.tmp 56) = .bool false := hd 45 (by kernel_rfl)
      exact op_vg ho (.bool false) rfl h47 (by intro ρ hρ kc kf; rw [← hρ] at h50 h56; clear hρ; simp [execOp, go_sem, h50, h56]) rfl rfl
    · intro ho a W hW hd hx
      have h29 : a.eval (.tmp 29) = .bool true := hd 18 (by kernel_rfl)
      have h47 : a.eval (.tmp 47) = .bool false := hd 36 (by kernel_rfl)
      have h57 : a.eval (.tmp 57) = .bool false := hd 46 (by kernel_rfl)
      exact op_vg ho (.bool false) rfl h29 (by intro ρ hρ kc kf; rw [← hρ] at h47 h57; clear hρ; simp [execOp, go_sem, h47, h57]) rfl rfl
    · intro ho a W hW hd hx
      have h29 : a.eval (.tmp 29) = .bool true := hd 18 (by kernel_rfl)
      have h58 : a.eval (.tmp 58) = .bool false := hd 47 (by kernel_rfl)
      exact op_v ho (.bool false) rfl (by intro ρ hρ kc kf; rw [← hρ] at h29 h58; clear hρ; simp [execOp, go_sem, h29, h58]) rfl rfl
    · intro ho a W hW hd hx
      have h59 : a.eval (.tmp 59) = .bool false := hd 48 (by kernel_rfl)
      exact op_v ho (.bool false) rfl (by intro ρ hρ kc kf; rw [← hρ] at h59; clear hρ; simp [execOp, go_sem, h59]) rfl rfl
    · intro ho a W hW hd hx
      have h60 : a.eval (.tmp 60) = .bool false := hd 49 (by kernel_rfl)
      exact op_off ho rfl h60 (by decide) rfl
    · intro ho a W hW hd hx
      have h60 : a.eval (.tmp 60) = .bool false := hd 49 (by kernel_rfl)
      exact op_off ho rfl h60 (by decide) rfl
    · intro ho a W hW hd hx
      have h62 : a.eval (.tmp 62) = undef := hd 51 (by kernel_rfl)
      exact op_un ho rfl h62 rfl
    · intro ho a W hW hd hx
      have h62 : a.eval (.tmp 62) = undef := hd 51 (by kernel_rfl)
      exact op_un ho rfl h62 rfl
    · intro ho a W hW hd hx
      have h62 : a.eval (.tmp 62) = undef := hd 51 (by kernel_rfl)
      exact op_un ho rfl h62 rfl
    · intro ho a W hW hd hx
      have h62 : a.eval (.tmp 62) = undef := hd 51 (by kernel_rfl)
      exact op_un ho rfl h62 rfl
    · intro ho a W hW hd hx
      have h62 : a.eval (.tmp 62) = undef := hd 51 (by kernel_rfl)
      exact op_un ho rfl h62 rfl
    · intro ho a W hW hd hx
      have h62 : a.eval (.tmp 62) = undef := hd 51 (by kernel_rfl)
      exact op_un ho rfl h62 rfl
    · intro ho a W hW hd hx
      have h60 : a.eval (.tmp 60) = .bool false := hd 49 (by kernel_rfl)
      exact op_off ho rfl h60 (by decide) rfl
    · intro ho a W hW hd hx
      have h60 : a.eval (.tmp 60) = .bool false := hd 49 (by kernel_rfl)
      exact op_off ho rfl h60 (by decide) rfl
    · intro ho a W hW hd hx
      have h70 : a.eval (.tmp 70) = undef := hd 59 (by kernel_rfl)
      exact op_un ho rfl h70 rfl
    · intro ho a W hW hd hx
      have h70 : a.eval (.tmp 70) = undef := hd 59 (by kernel_rfl)
      exact op_un ho rfl h70 rfl
    · intro ho a W hW hd hx
      have h70 : a.eval (.tmp 70) = undef := hd 59 (by kernel_rfl)
      exact op_un ho rfl h70 rfl
    · intro ho a W hW hd hx
      have h73 : a.eval (.tmp 73) = undef := hd 62 (by kernel_rfl)
      exact op_un ho rfl h73 rfl
    · intro ho a W hW hd hx
      have h73 : a.eval (.tmp 73) = undef := hd 62 (by kernel_rfl)
      exact op_un ho rfl h73 rfl
    · intro ho a W hW hd hx
      have h73 : a.eval (.tmp 73) = undef := hd 62 (by kernel_rfl)
      exact op_un ho rfl h73 rfl
    · intro ho a W hW hd hx
      have h73 : a.eval (.tmp 73) = undef := hd 62 (by kernel_rfl)
      exact op_un ho rfl h73 rfl
    · intro ho a W hW hd hx
      have h73 : a.eval (.tmp 73) = undef := hd 62 (by kernel_rfl)
      exact op_un ho rfl h73 rfl
    · intro ho a W hW hd hx
      have h73 : a.eval (.tmp 73) = undef := hd 62 (by kernel_rfl)
      exact op_un ho rfl h73 rfl
    · intro ho a W hW hd hx
      have h70 : a.eval (.tmp 70) = undef := hd 59 (by kernel_rfl)
      exact op_un ho rfl h70 rfl
    · intro ho a W hW hd hx
      have h60 : a.eval (.tmp 60) = .bool false := hd 49 (by kernel_rfl)
      exact op_off ho rfl h60 (by decide) rfl
    · intro ho a W hW hd hx
      have h60 : a.eval (.tmp 60) = .bool false := hd 49 (by kernel_rfl)
      have h81 : a.eval (.tmp 81) = undef := hd 70 (by kernel_rfl)
      exact op_v ho (.bool false) rfl (by intro ρ hρ kc kf; rw [← hρ] at h60; clear hρ; simp [execOp, go_sem, kc, h60]) rfl rfl
    · intro ho a W hW hd hx
      have h82 : a.eval (.tmp 82) = .bool false := hd 71 (by kernel_rfl)
      exact op_v ho (.bool false) rfl (by intro ρ hρ kc kf; rw [← hρ] at h82; clear hρ; simp [execOp, go_sem, h82]) rfl rfl
    · intro ho a W hW hd hx
      have h83 : a.eval (.tmp 83) = .bool false := hd 72 (by kernel_rfl)
      exact op_off ho rfl h83 (by decide) rfl
    · intro ho a W hW hd hx
      have h83 : a.eval (.tmp 83) = .bool false := hd 72 (by kernel_rfl)
      exact op_off ho rfl h83 (by decide) rfl
    · intro ho a W hW hd hx
      have h83 : a.eval (.tmp 83) = .bool false := hd 72 (by kernel_rfl)
      exact op_off ho rfl h83 (by decide) rfl
    · intro ho a W hW hd hx
      have h83 : a.eval (.tmp 83) = .bool false := hd 72 (by kernel_rfl)
      exact op_off ho rfl h83 (by decide) rfl
    · intro ho a W hW hd hx
      have h83 : a.eval (.tmp 83) = .bool false := hd 72 (by kernel_rfl)
      exact op_off ho rfl h83 (by decide) rfl
    · intro ho a W hW hd hx
      have h83 : a.eval (.tmp 83) = .bool false := hd 72 (by kernel_rfl)
      exact op_off ho rfl h83 (by decide) rfl
    · intro ho a W hW hd hx
      have h83 : a.eval (.tmp 83) = .bool false := hd 72 (by kernel_rfl)
      exact op_off ho rfl h83 (by decide) rfl
    · intro ho a W hW hd hx
      have h90 : a.eval (.tmp 90) = undef := hd 79 (by kernel_rfl)
      exact op_un ho rfl h90 rfl
    · intro ho a W hW hd hx
      have h90 : a.eval (.tmp 90) = undef := hd 79 (by kernel_rfl)
      exact op_un ho rfl h90 rfl
    · intro ho a W hW hd hx
      have h92 : a.eval (.tmp 92) = undef := hd 81 (by kernel_rfl)
      exact op_un ho rfl h92 rfl
    · intro ho a W hW hd hx
      have h92 : a.eval (.tmp 92) = undef := hd 81 (by kernel_rfl)
      exact op_un ho rfl h92 rfl
    · intro ho a W hW hd hx
      have h92 : a.eval (.tmp 92) = undef := hd 81 (by kernel_rfl)
      exact op_un ho rfl h92 rfl
    · intro ho a W hW hd hx
      have h92 : a.eval (.tmp 92) = undef := hd 81 (by kernel_rfl)
      exact op_un ho rfl h92 rfl
    · intro ho a W hW hd hx
      have h92 : a.eval (.tmp 92) = undef := hd 81 (by kernel_rfl)
      exact op_un ho rfl h92 rfl
    · intro ho a W hW hd hx
      have h92 : a.eval (.tmp 92) = undef := hd 81 (by kernel_rfl)
      exact op_un ho rfl h92 rfl
    · intro ho a W hW hd hx
      have h90 : a.eval (.tmp 90) = undef := hd 79 (by kernel_rfl)
      exact op_un ho rfl h90 rfl
    · intro ho a W hW hd hx
      have h83 : a.eval (.tmp 83) = .bool false := hd 72 (by kernel_rfl)
      exact op_off ho rfl h83 (by decide) rfl
    · intro ho a W hW hd hx
      have h83 : a.eval (.tmp 83) = .bool false := hd 72 (by kernel_rfl)
      have h100 : a.eval (.tmp 100) = undef := hd 89 (by kernel_rfl)
      exact op_v ho (.bool false) rfl (by intro ρ hρ kc kf; rw [← hρ] at h83; clear hρ; simp [execOp, go_sem, kc, h83]) rfl rfl
    · intro ho a W hW hd hx
      have h101 : a.eval (.tmp 101) = .bool false := hd 90 (by kernel_rfl)
      exact op_v ho (.bool false) rfl (by intro ρ hρ kc kf; rw [← hρ] at h101; clear hρ; simp [execOp, go_sem, h101]) rfl rfl
  intro v W hW hv _
  have hlast : v 91 = .bool false := hv 91 (by decide)
  simp only [List.append_eq, List.cons_append, List.nil_append, List.take_succ_cons, List.take_zero, List.drop_succ_cons, List.drop_zero, fillL, wpTail, Act.put, List.setIfInBounds_toArray, List.set_cons_zero, List.set_cons_succ, Nat.reduceAdd]
  rw [hlast]
  go_wp2
  go_ret
  exact ⟨rfl, hW⟩

set_option maxRecDepth 100000 in
set_option maxHeartbeats 4000000 in
theorem on_fftt_tttf (g : Nat) (T : TypeId) (c : Cm) (b : Value) (w : World) (hb : Blk w g T (cO c b)) (hL : c.lo = 0) (hH : c.hi = 0) (hM : c.mode = 0) (hD : keyB c.dead = false) :
    Calls Try.prog 37 #[.pointer (some ⟨g, 0, none⟩), .bool false, .bool false, .bool true, .bool true] w fun e w' => e = .returned (.bool (onlyB c false false true true)) ∧ Below w.heap.size w w' := by
  have e : onlyB c false false true true = false := by simp [onlyB, hL, hH, hM, hD]
  rw [e]; clear e
  have HB := Lib.hid hb; clear hb
  have HL := Lib.hid hL; clear hL
  have HH := Lib.hid hH; clear hH
  have HM := Lib.hid hM; clear hM
  have kd := fun W => key_below c.dead W
  rw [hD] at kd
  have KD := Lib.hid kd; clear kd hD
  go_enter Try.func37, Try.ntmps37
  go_upto_region 1 with fail
  refine wp_region_grows 92 ((fun q_ _ _ => q_ = .bool false) :: (fun q_ _ _ => q_ = .bool false) :: (fun q_ _ _ => q_ = undef) :: (fun q_ _ _ => q_ = undef) :: (fun q_ _ _ => q_ = .bool false) :: (fun q_ _ _ => q_ = .bool false) :: (fun q_ _ _ => q_ = .bool false) :: (fun q_ _ _ => q_ = .bool true) :: (fun q_ _ _ => q_ = .bool true) :: (fun q_ _ _ => q_ = .pointer (some ⟨g, 0, none⟩)) :: (fun q_ _ _ => q_ = .pointer (some ⟨g, 0, none⟩)) :: (fun q_ _ _ => q_ = .pointer (some ⟨g, 0, none⟩)) :: (fun q_ _ _ => q_ = .pointer (some ⟨g, 5, none⟩)) :: (fun q_ _ _ => q_ = .agg #[.int .i64 c.lo, .int .i64 c.hi]) :: (fun q_ _ _ => q_ = .agg #[.int .i64 0, .int .i64 0]) :: (fun q_ _ _ => q_ = .bool true) :: (fun q_ _ _ => q_ = .bool true) :: (fun q_ _ _ => q_ = .bool true) :: (fun q_ _ _ => q_ = .bool true) :: (fun q_ _ _ => q_ = .bool false) :: (fun q_ _ _ => q_ = .bool false) :: (fun q_ _ _ => q_ = undef) :: (fun q_ _ _ => q_ = undef) :: (fun q_ _ _ => q_ = undef) :: (fun q_ _ _ => q_ = undef) :: (fun q_ _ _ => q_ = undef) :: (fun q_ _ _ => q_ = undef) :: (fun q_ _ _ => q_ = undef) :: (fun q_ _ _ => q_ = undef) :: (fun q_ _ _ => q_ = undef) :: (fun q_ _ _ => q_ = undef) :: (fun q_ _ _ => q_ = undef) :: (fun q_ _ _ => q_ = undef) :: (fun q_ _ _ => q_ = undef) :: (fun q_ _ _ => q_ = undef) :: (fun q_ _ _ => q_ = .bool false) :: (fun q_ _ _ => q_ = .bool false) :: (fun q_ _ _ => q_ = .bool false) :: (fun q_ _ _ => q_ = .bool true) :: (fun q_ _ _ => q_ = .bool true) :: (fun q_ _ _ => q_ = .pointer (some ⟨g, 0, none⟩)) :: (fun q_ _ _ => q_ = .pointer (some ⟨g, 0, none⟩)) :: (fun q_ _ _ => q_ = .pointer (some ⟨g, 0, none⟩)) :: (fun q_ _ _ => q_ = .pointer (some ⟨g, 7, none⟩)) :: (fun q_ _ _ => q_ = .int .i8 c.mode) :: (fun q_ _ _ => q_ = .bool true) :: (fun q_ _ _ => q_ = .bool true) :: (fun q_ _ _ => q_ = .bool true) :: (fun q_ _ _ => q_ = .bool true) :: (fun q_ _ _ => q_ = .bool true) :: (fun q_ _ _ => q_ = .bool true) :: (fun q_ _ _ => q_ = .bool true) :: (fun q_ _ _ => q_ = .pointer (some ⟨g, 0, none⟩)) :: (fun q_ _ _ => q_ = .pointer (some ⟨g, 0, none⟩)) :: (fun q_ _ _ => q_ = .pointer (some ⟨g, 0, none⟩)) :: (fun q_ _ _ => q_ = .pointer (some ⟨g, 3, none⟩)) :: (fun q_ _ _ => q_ = .int .i64 c.dead) :: (fun q_ _ _ => q_ = .bool false) :: (fun q_ _ _ => q_ = .bool false) :: (fun q_ _ _ => q_ = .bool false) :: (fun q_ _ _ => q_ = .bool true) :: (fun q_ _ _ => q_ = .bool false) :: (fun q_ _ _ => q_ = .bool false) :: (fun q_ _ _ => q_ = undef) :: (fun q_ _ _ => q_ = undef) :: (fun q_ _ _ => q_ = undef) :: (fun q_ _ _ => q_ = undef) :: (fun q_ _ _ => q_ = undef) :: (fun q_ _ _ => q_ = undef) :: (fun q_ _ _ => q_ = .bool false) :: (fun q_ _ _ => q_ = .bool false) :: (fun q_ _ _ => q_ = .bool false) :: (fun q_ _ _ => q_ = .bool false) :: (fun q_ _ _ => q_ = undef) :: (fun q_ _ _ => q_ = undef) :: (fun q_ _ _ => q_ = undef) :: (fun q_ _ _ => q_ = undef) :: (fun q_ _ _ => q_ = undef) :: (fun q_ _ _ => q_ = undef) :: (fun q_ _ _ => q_ = undef) :: (fun q_ _ _ => q_ = undef) :: (fun q_ _ _ => q_ = undef) :: (fun q_ _ _ => q_ = undef) :: (fun q_ _ _ => q_ = undef) :: (fun q_ _ _ => q_ = undef) :: (fun q_ _ _ => q_ = undef) :: (fun q_ _ _ => q_ = undef) :: (fun q_ _ _ => q_ = undef) :: (fun q_ _ _ => q_ = undef) :: (fun q_ _ _ => q_ = undef) :: (fun q_ _ _ => q_ = .bool false) :: (fun q_ _ _ => q_ = .bool false) :: []) (fun _ => false) (w.heap.size) w (by kernel_rfl) (by kernel_rfl) (by kernel_rfl) (Below.refl _ _) (Nat.le_refl _) ?zStab (fun _ h => by cases h) ?zOps ?zFin
  case zStab => exact ⟨st_is _, st_is _, st_is _, st_is _, st_is _, st_is _, st_is _, st_is _, st_is _, st_is _, st_is _, st_is _, st_is _, st_is _, st_is _, st_is _, st_is _, st_is _, st_is _, st_is _, st_is _, st_is _, st_is _, st_is _, st_is _, st_is _, st_is _, st_is _, st_is _, st_is _, st_is _, st_is _, st_is _, st_is _, st_is _, st_is _, st_is _, st_is _, st_is _, st_is _, st_is _, st_is _, st_is _, st_is _, st_is _, st_is _, st_is _, st_is _, st_is _, st_is _, st_is _, st_is _, st_is _, st_is _, st_is _, st_is _, st_is _, st_is _, st_is _, st_is _, st_is _, st_is _, st_is _, st_is _, st_is _, st_is _, st_is _, st_is _, st_is _, st_is _, st_is _, st_is _, st_is _, st_is _, st_is _, st_is _, st_is _, st_is _, st_is _, st_is _, st_is _, st_is _, st_is _, st_is _, st_is _, st_is _, st_is _, st_is _, st_is _, st_is _, st_is _, st_is _, trivial⟩
  case zOps =>
    intro Q
    refine ⟨?_, ?_, ?_, ?_, ?_, ?_, ?_, ?_, ?_, ?_, ?_, ?_, ?_, ?_, ?_, ?_, ?_, ?_, ?_, ?_, ?_, ?_, ?_, ?_, ?_, ?_, ?_, ?_, ?_, ?_, ?_, ?_, ?_, ?_, ?_, ?_, ?_, ?_, ?_, ?_, ?_, ?_, ?_, ?_, ?_, ?_, ?_, ?_, ?_, ?_, ?_, ?_, ?_, ?_, ?_, ?_, ?_, ?_, ?_, ?_, ?_, ?_, ?_, ?_, ?_, ?_, ?_, ?_, ?_, ?_, ?_, ?_, ?_, ?_, ?_, ?_, ?_, ?_, ?_, ?_, ?_, ?_, ?_, ?_, ?_, ?_, ?_, ?_, ?_, ?_, ?_, ?_, trivial⟩
    · intro ho a W hW hd hx
      have h1 : a.eval (.tmp 1) = .bool false := (hx 1 (dst_not (by kernel_rfl))).trans rfl
      exact op_v ho (.bool false) rfl (by intro ρ hρ kc kf; rw [← hρ] at h1; clear hρ; simp [execOp, go_sem, h1]) rfl rfl
    · intro ho a W hW hd hx
      have h11 : a.eval (.tmp 11) = .bool false := hd 0 (by kernel_rfl)
      exact op_v ho (.bool false) rfl (by intro ρ hρ kc kf; rw [← hρ] at h11; clear hρ; simp [execOp, go_sem, h11]) rfl rfl
    · intro ho a W hW hd hx
      have h12 : a.eval (.tmp 12) = .bool false := hd 1 (by kernel_rfl)
      exact op_off ho rfl h12 (by decide) rfl
    · intro ho a W hW hd hx
      have h12 : a.eval (.tmp 12) = .bool false := hd 1 (by kernel_rfl)
      exact op_off ho rfl h12 (by decide) rfl
    · intro ho a W hW hd hx
      have h12 : a.eval (.tmp 12) = .bool false := hd 1 (by kernel_rfl)
      have h14 : a.eval (.tmp 14) = undef := hd 3 (by kernel_rfl)
      exact op_v ho (.bool false) rfl (by intro ρ hρ kc kf; rw [← hρ] at h12; clear hρ; simp [execOp, go_sem, kc, h12]) rfl rfl
    · intro ho a W hW hd hx
      have h15 : a.eval (.tmp 15) = .bool false := hd 4 (by kernel_rfl)
      exact op_v ho (.bool false) rfl (by intro ρ hρ kc kf; rw [← hρ] at h15; clear hρ; simp [execOp, go_sem, h15]) rfl rfl
    · intro ho a W hW hd hx
      have h16 : a.eval (.tmp 16) = .bool false := hd 5 (by kernel_rfl)
      have h1 : a.eval (.tmp 1) = .bool false := (hx 1 (dst_not (by kernel_rfl))).trans rfl
      exact op_vg ho (.bool false) rfl h16 (by intro ρ hρ kc kf; rw [← hρ] at h1; clear hρ; simp [execOp, go_sem, h1]) rfl rfl
    · intro ho a W hW hd hx
      have h16 : a.eval (.tmp 16) = .bool false := hd 5 (by kernel_rfl)
      have h17 : a.eval (.tmp 17) = .bool false := hd 6 (by kernel_rfl)
      exact op_vg ho (.bool true) rfl h16 (by intro ρ hρ kc kf; rw [← hρ] at h17; clear hρ; simp [execOp, go_sem, h17]) rfl rfl
    · intro ho a W hW hd hx
      have h16 : a.eval (.tmp 16) = .bool false := hd 5 (by kernel_rfl)
      have h18 : a.eval (.tmp 18) = .bool true := hd 7 (by kernel_rfl)
      exact op_vg ho (.bool true) rfl h16 (by intro ρ hρ kc kf; rw [← hρ] at h18; clear hρ; simp [execOp, go_sem, h18]) rfl rfl
    · intro ho a W hW hd hx
      have h19 : a.eval (.tmp 19) = .bool true := hd 8 (by kernel_rfl)
      have h0 : a.eval (.tmp 0) = .pointer (some ⟨g, 0, none⟩) := (hx 0 (dst_not (by kernel_rfl))).trans rfl
      exact op_vg ho (.pointer (some ⟨g, 0, none⟩)) rfl h19 (by intro ρ hρ kc kf; rw [← hρ] at h0; clear hρ; simp [execOp, go_sem, h0]) rfl rfl
    · intro ho a W hW hd hx
      have h19 : a.eval (.tmp 19) = .bool true := hd 8 (by kernel_rfl)
      have h20 : a.eval (.tmp 20) = .pointer (some ⟨g, 0, none⟩) := hd 9 (by kernel_rfl)
      exact op_vg ho (.pointer (some ⟨g, 0, none⟩)) rfl h19 (by intro ρ hρ kc kf; rw [← hρ] at h20; clear hρ; simp [execOp, go_sem, h20]) rfl rfl
    · intro ho a W hW hd hx
      have h19 : a.eval (.tmp 19) = .bool true := hd 8 (by kernel_rfl)
      have h21 : a.eval (.tmp 21) = .pointer (some ⟨g, 0, none⟩) := hd 10 (by kernel_rfl)
      exact op_vg ho (.pointer (some ⟨g, 0, none⟩)) rfl h19 (by intro ρ hρ kc kf; rw [← hρ] at h21; clear hρ; simp [execOp, go_sem, h21]) rfl rfl
    · intro ho a W hW hd hx
      have h19 : a.eval (.tmp 19) = .bool true := hd 8 (by kernel_rfl)
      have h22 : a.eval (.tmp 22) = .pointer (some ⟨g, 0, none⟩) := hd 11 (by kernel_rfl)
      exact op_vg ho (.pointer (some ⟨g, 5, none⟩)) rfl h19 (by intro ρ hρ kc kf; rw [← hρ] at h22; clear hρ; simp [execOp, go_sem, h22]) rfl rfl
    · intro ho a W hW hd hx
      have h19 : a.eval (.tmp 19) = .bool true := hd 8 (by kernel_rfl)
      have h23 : a.eval (.tmp 23) = .pointer (some ⟨g, 5, none⟩) := hd 12 (by kernel_rfl)
      have hc1 : W.cell? ⟨g, 5, none⟩ = some (.int .i64 c.lo) := by rw [(HB.out.below hW HB.out.lt).cell 5]; rfl
      have hc2 : W.cell? ⟨g, 6, none⟩ = some (.int .i64 c.hi) := by rw [(HB.out.below hW HB.out.lt).cell 6]; rfl
      exact op_vg ho (.agg #[.int .i64 c.lo, .int .i64 c.hi]) rfl h19 (by intro ρ hρ kc kf; rw [← hρ] at h23; clear hρ; simp [execOp, go_sem, h23, hc1, hc2]) rfl rfl
    · intro ho a W hW hd hx
      have h19 : a.eval (.tmp 19) = .bool true := hd 8 (by kernel_rfl)
      exact op_vg ho (.agg #[.int .i64 0, .int .i64 0]) rfl h19 (by intro ρ hρ kc kf; clear hρ; simp [execOp, go_sem]) rfl rfl
    · intro ho a W hW hd hx
      have h19 : a.eval (.tmp 19) = .bool true := hd 8 (by kernel_rfl)
      have h24 : a.eval (.tmp 24) = .agg #[.int .i64 c.lo, .int .i64 c.hi] := hd 13 (by kernel_rfl)
      have h25 : a.eval (.tmp 25) = .agg #[.int .i64 0, .int .i64 0] := hd 14 (by kernel_rfl)
      exact op_vg ho (.bool true) rfl h19 (by intro ρ hρ kc kf; rw [← hρ] at h24 h25; clear hρ; simp [execOp, go_sem, h24, h25, HL.out, HH.out]) rfl rfl
    · intro ho a W hW hd hx
      have h16 : a.eval (.tmp 16) = .bool false := hd 5 (by kernel_rfl)
      have h19 : a.eval (.tmp 19) = .bool true := hd 8 (by kernel_rfl)
      have h26 : a.eval (.tmp 26) = .bool true := hd 15 (by kernel_rfl)
      exact op_vg ho (.bool true) rfl h16 (by intro ρ hρ kc kf; rw [← hρ] at h19 h26; clear hρ; simp [execOp, go_sem, h19, h26]) rfl rfl
    · intro ho a W hW hd hx
      have h16 : a.eval (.tmp 16) = .bool false := hd 5 (by kernel_rfl)
      have h27 : a.eval (.tmp 27) = .bool true := hd 16 (by kernel_rfl)
      exact op_v ho (.bool true) rfl (by intro ρ hρ kc kf; rw [← hρ] at h16 h27; clear hρ; simp [execOp, go_sem, h16, h27]) rfl rfl
    · intro ho a W hW hd hx
      have h28 : a.eval (.tmp 28) = .bool true := hd 17 (by kernel_rfl)
      exact op_v ho (.bool true) rfl (by intro ρ hρ kc kf; rw [← hρ] at h28; clear hρ; simp [execOp, go_sem, h28]) rfl rfl
    · intro ho a W hW hd hx
      have h29 : a.eval (.tmp 29) = .bool true := hd 18 (by kernel_rfl)
      have h2 : a.eval (.tmp 2) = .bool false := (hx 2 (dst_not (by kernel_rfl))).trans rfl
      exact op_vg ho (.bool false) rfl h29 (by intro ρ hρ kc kf; rw [← hρ] at h2; clear hρ; simp [execOp, go_sem, h2]) rfl rfl
    · intro ho a W hW hd hx
      have h29 : a.eval (.tmp 29) = .bool true := hd 18 (by kernel_rfl)
      have h30 : a.eval (.tmp 30) = .bool false := hd 19 (by kernel_rfl)
      exact op_vg ho (.bool false) rfl h29 (by intro ρ hρ kc kf; rw [← hρ] at h30; clear hρ; simp [execOp, go_sem, h30]) rfl rfl
    · intro ho a W hW hd hx
      have h31 : a.eval (.tmp 31) = .bool false := hd 20 (by kernel_rfl)
      exact op_off ho rfl h31 (by decide) rfl
    · intro ho a W hW hd hx
      have h31 : a.eval (.tmp 31) = .bool false := hd 20 (by kernel_rfl)
      exact op_off ho rfl h31 (by decide) rfl
    · intro ho a W hW hd hx
      have h31 : a.eval (.tmp 31) = .bool false := hd 20 (by kernel_rfl)
      exact op_off ho rfl h31 (by decide) rfl
    · intro ho a W hW hd hx
      have h31 : a.eval (.tmp 31) = .bool false := hd 20 (by kernel_rfl)
      exact op_off ho rfl h31 (by decide) rfl
    · intro ho a W hW hd hx
      have h31 : a.eval (.tmp 31) = .bool false := hd 20 (by kernel_rfl)
      exact op_off ho rfl h31 (by decide) rfl
    · intro ho a W hW hd hx
      have h31 : a.eval (.tmp 31) = .bool false := hd 20 (by kernel_rfl)
      exact op_off ho rfl h31 (by decide) rfl
    · intro ho a W hW hd hx
      have h31 : a.eval (.tmp 31) = .bool false := hd 20 (by kernel_rfl)
      exact op_off ho rfl h31 (by decide) rfl
    · intro ho a W hW hd hx
      have h38 : a.eval (.tmp 38) = undef := hd 27 (by kernel_rfl)
      exact op_un ho rfl h38 rfl
    · intro ho a W hW hd hx
      have h38 : a.eval (.tmp 38) = undef := hd 27 (by kernel_rfl)
      exact op_un ho rfl h38 rfl
    · intro ho a W hW hd hx
      have h38 : a.eval (.tmp 38) = undef := hd 27 (by kernel_rfl)
      exact op_un ho rfl h38 rfl
    · intro ho a W hW hd hx
      have h38 : a.eval (.tmp 38) = undef := hd 27 (by kernel_rfl)
      exact op_un ho rfl h38 rfl
    · intro ho a W hW hd hx
      have h38 : a.eval (.tmp 38) = undef := hd 27 (by kernel_rfl)
      exact op_un ho rfl h38 rfl
    · intro ho a W hW hd hx
      have h38 : a.eval (.tmp 38) = undef := hd 27 (by kernel_rfl)
      exact op_un ho rfl h38 rfl
    · intro ho a W hW hd hx
      have h31 : a.eval (.tmp 31) = .bool false := hd 20 (by kernel_rfl)
      exact op_off ho rfl h31 (by decide) rfl
    · intro ho a W hW hd hx
      have h29 : a.eval (.tmp 29) = .bool true := hd 18 (by kernel_rfl)
      have h31 : a.eval (.tmp 31) = .bool false := hd 20 (by kernel_rfl)
      have h45 : a.eval (.tmp 45) = undef := hd 34 (by kernel_rfl)
      exact op_vg ho (.bool false) rfl h29 (by intro ρ hρ kc kf; rw [← hρ] at h31; clear hρ; simp [execOp, go_sem, kc, h31]) rfl rfl
    · intro ho a W hW hd hx
      have h29 : a.eval (.tmp 29) = .bool true := hd 18 (by kernel_rfl)
      have h46 : a.eval (.tmp 46) = .bool false := hd 35 (by kernel_rfl)
      exact op_vg ho (.bool false) rfl h29 (by intro ρ hρ kc kf; rw [← hρ] at h46; clear hρ; simp [execOp, go_sem, h46]) rfl rfl
    · intro ho a W hW hd hx
      have h47 : a.eval (.tmp 47) = .bool false := hd 36 (by kernel_rfl)
      have h2 : a.eval (.tmp 2) = .bool false := (hx 2 (dst_not (by kernel_rfl))).trans rfl
      exact op_vg ho (.bool false) rfl h47 (by intro ρ hρ kc kf; rw [← hρ] at h2; clear hρ; simp [execOp, go_sem, h2]) rfl rfl
    · intro ho a W hW hd hx
      have h47 : a.eval (.tmp 47) = .bool false := hd 36 (by kernel_rfl)
      have h48 : a.eval (.tmp 48) = .bool false := hd 37 (by kernel_rfl)
      exact op_vg ho (.bool true) rfl h47 (by intro ρ hρ kc kf; rw [← hρ] at h48; clear hρ; simp [execOp, go_sem, h48]) rfl rfl
    · intro ho a W hW hd hx
      have h47 : a.eval (.tmp 47) = .bool false := hd 36 (by kernel_rfl)
      have h49 : a.eval (.tmp 49) = .bool true := hd 38 (by kernel_rfl)
      exact op_vg ho (.bool true) rfl h47 (by intro ρ hρ kc kf; rw [← hρ] at h49; clear hρ; simp [execOp, go_sem, h49]) rfl rfl
    · intro ho a W hW hd hx
      have h50 : a.eval (.tmp 50) = .bool true := hd 39 (by kernel_rfl)
      have h0 : a.eval (.tmp 0) = .pointer (some ⟨g, 0, none⟩) := (hx 0 (dst_not (by kernel_rfl))).trans rfl
      exact op_vg ho (.pointer (some ⟨g, 0, none⟩)) rfl h50 (by intro ρ hρ kc kf; rw [← hρ] at h0; clear hρ; simp [execOp, go_sem, h0]) rfl rfl
    · intro ho a W hW hd hx
      have h50 : a.eval (.tmp 50) = .bool true := hd 39 (by kernel_rfl)
      have h51 : a.eval (.tmp 51) = .pointer (some ⟨g, 0, none⟩) := hd 40 (by kernel_rfl)
      exact op_vg ho (.pointer (some ⟨g, 0, none⟩)) rfl h50 (by intro ρ hρ kc kf; rw [← hρ] at h51; clear hρ; simp [execOp, go_sem, h51]) rfl rfl
    · intro ho a W hW hd hx
      have h50 : a.eval (.tmp 50) = .bool true := hd 39 (by kernel_rfl)
      have h52 : a.eval (.tmp 52) = .pointer (some ⟨g, 0, none⟩) := hd 41 (by kernel_rfl)
      exact op_vg ho (.pointer (some ⟨g, 0, none⟩)) rfl h50 (by intro ρ hρ kc kf; rw [← hρ] at h52; clear hρ; simp [execOp, go_sem, h52]) rfl rfl
    · intro ho a W hW hd hx
      have h50 : a.eval (.tmp 50) = .bool true := hd 39 (by kernel_rfl)
      have h53 : a.eval (.tmp 53) = .pointer (some ⟨g, 0, none⟩) := hd 42 (by kernel_rfl)
      exact op_vg ho (.pointer (some ⟨g, 7, none⟩)) rfl h50 (by intro ρ hρ kc kf; rw [← hρ] at h53; clear hρ; simp [execOp, go_sem, h53]) rfl rfl
    · intro ho a W hW hd hx
      have h50 : a.eval (.tmp 50) = .bool true := hd 39 (by kernel_rfl)
      have h54 : a.eval (.tmp 54) = .pointer (some ⟨g, 7, none⟩) := hd 43 (by kernel_rfl)
      have hcell : W.cell? ⟨g, 7, none⟩ = some (.int .i8 c.mode) := by rw [(HB.out.below hW HB.out.lt).cell 7]; rfl
      exact op_vg ho (.int .i8 c.mode) rfl h50 (by intro ρ hρ kc kf; rw [← hρ] at h54; clear hρ; simp [execOp, go_sem, h54, hcell]) rfl rfl
    · intro ho a W hW hd hx
      have h50 : a.eval (.tmp 50) = .bool true := hd 39 (by kernel_rfl)
      have h55 : a.eval (.tmp 55) = .int .i8 c.mode := hd 44 (by kernel_rfl)
      exact op_vg ho (.bool true) rfl h50 (by intro ρ hρ kc kf; rw [← hρ] at h55; clear hρ; simp [execOp, go_sem, kc, h55, HM.out]) rfl rfl
    · intro ho a W hW hd hx
      have h47 : a.eval (.tmp 47) = .bool false := hd 36 (by kernel_rfl)
      have h50 : a.eval (.tmp 50) = .bool true := hd 39 (by kernel_rfl)
      have h56 : a.eval (.tmp 56) = .bool true := hd 45 (by kernel_rfl)
      exact op_vg ho (.bool true) rfl h47 (by intro ρ hρ kc kf; rw [← hρ] at h50 h56; clear hρ; simp [execOp, go_sem, h50, h56]) rfl rfl
    · intro ho a W hW hd hx
      have h29 : a.eval (.tmp 29) = .bool true := hd 18 (by kernel_rfl)
      have h47 : a.eval (.tmp 47) = .bool false := hd 36 (by kernel_rfl)
      have h57 : a.eval (.tmp 57) = .bool true := hd 46 (by kernel_rfl)
      exact op_vg ho (.bool true) rfl h29 (by intro ρ hρ kc kf; rw [← hρ] at h47 h57; clear hρ; simp [execOp, go_sem, h47, h57]) rfl rfl
    · intro ho a W hW hd hx
      have h29 : a.eval (.tmp 29) = .bool true := hd 18 (by kernel_rfl)
      have h58 : a.eval (.tmp 58) = .bool true := hd 47 (by kernel_rfl)
      exact op_v ho (.bool true) rfl (by intro ρ hρ kc kf; rw [← hρ] at h29 h58; clear hρ; simp [execOp, go_sem, h29, h58]) rfl rfl
    · intro ho a W hW hd hx
      have h59 : a.eval (.tmp 59) = .bool true := hd 48 (by kernel_rfl)
      exact op_v ho (.bool true) rfl (by intro ρ hρ kc kf; rw [← hρ] at h59; clear hρ; simp [execOp, go_sem, h59]) rfl rfl
    · intro ho a W hW hd hx
      have h60 : a.eval (.tmp 60) = .bool true := hd 49 (by kernel_rfl)
      have h3 : a.eval (.tmp 3) = .bool true := (hx 3 (dst_not (by kernel_rfl))).trans rfl
      exact op_vg ho (.bool true) rfl h60 (by intro ρ hρ kc kf; rw [← hρ] at h3; clear hρ; simp [execOp, go_sem, h3]) rfl rfl
    · intro ho a W hW hd hx
      have h60 : a.eval (.tmp 60) = .bool true := hd 49 (by kernel_rfl)
      have h61 : a.eval (.tmp 61) = .bool true := hd 50 (by kernel_rfl)
      exact op_vg ho (.bool true) rfl h60 (by intro ρ hρ kc kf; rw [← hρ] at h61; clear hρ; simp [execOp, go_sem, h61]) rfl rfl
    · intro ho a W hW hd hx
      have h62 : a.eval (.tmp 62) = .bool true := hd 51 (by kernel_rfl)
      have h0 : a.eval (.tmp 0) = .pointer (some ⟨g, 0, none⟩) := (hx 0 (dst_not (by kernel_rfl))).trans rfl
      exact op_vg ho (.pointer (some ⟨g, 0, none⟩)) rfl h62 (by intro ρ hρ kc kf; rw [← hρ] at h0; clear hρ; simp [execOp, go_sem, h0]) rfl rfl
    · intro ho a W hW hd hx
      have h62 : a.eval (.tmp 62) = .bool true := hd 51 (by kernel_rfl)
      have h63 : a.eval (.tmp 63) = .pointer (some ⟨g, 0, none⟩) := hd 52 (by kernel_rfl)
      exact op_vg ho (.pointer (some ⟨g, 0, none⟩)) rfl h62 (by intro ρ hρ kc kf; rw [← hρ] at h63; clear hρ; simp [execOp, go_sem, h63]) rfl rfl
    · intro ho a W hW hd hx
      have h62 : a.eval (.tmp 62) = .bool true := hd 51 (by kernel_rfl)
      have h64 : a.eval (.tmp 64) = .pointer (some ⟨g, 0, none⟩) := hd 53 (by kernel_rfl)
      exact op_vg ho (.pointer (some ⟨g, 0, none⟩)) rfl h62 (by intro ρ hρ kc kf; rw [← hρ] at h64; clear hρ; simp [execOp, go_sem, h64]) rfl rfl
    · intro ho a W hW hd hx
      have h62 : a.eval (.tmp 62) = .bool true := hd 51 (by kernel_rfl)
      have h65 : a.eval (.tmp 65) = .pointer (some ⟨g, 0, none⟩) := hd 54 (by kernel_rfl)
      exact op_vg ho (.pointer (some ⟨g, 3, none⟩)) rfl h62 (by intro ρ hρ kc kf; rw [← hρ] at h65; clear hρ; simp [execOp, go_sem, h65]) rfl rfl
    · intro ho a W hW hd hx
      have h62 : a.eval (.tmp 62) = .bool true := hd 51 (by kernel_rfl)
      have h66 : a.eval (.tmp 66) = .pointer (some ⟨g, 3, none⟩) := hd 55 (by kernel_rfl)
      have hcell : W.cell? ⟨g, 3, none⟩ = some (.int .i64 c.dead) := by rw [(HB.out.below hW HB.out.lt).cell 3]; rfl
      exact op_vg ho (.int .i64 c.dead) rfl h62 (by intro ρ hρ kc kf; rw [← hρ] at h66; clear hρ; simp [execOp, go_sem, h66, hcell]) rfl rfl
    · intro ho a W hW hd hx
      have h62 : a.eval (.tmp 62) = .bool true := hd 51 (by kernel_rfl)
      have h67 : a.eval (.tmp 67) = .int .i64 c.dead := hd 56 (by kernel_rfl)
      refine op_call ho (want_yes rfl (show valAt _ a 51 = _ from h62)) (by intro ρ hρ kc kf; rw [← hρ] at h67; clear hρ; simp [execOp, go_sem, kf, h67]) (KD.out W) ?_
      rintro e W2 ⟨rfl, k2⟩
      exact ⟨_, rfl, _, rfl, (fun h => by cases h), rfl, k2, (fun h => absurd h (by decide))⟩
    · intro ho a W hW hd hx
      have h60 : a.eval (.tmp 60) = .bool true := hd 49 (by kernel_rfl)
      have h62 : a.eval (.tmp 62) = .bool true := hd 51 (by kernel_rfl)
      have h68 : a.eval (.tmp 68) = .bool false := hd 57 (by kernel_rfl)
      exact op_vg ho (.bool false) rfl h60 (by intro ρ hρ kc kf; rw [← hρ] at h62 h68; clear hρ; simp [execOp, go_sem, h62, h68]) rfl rfl
    · intro ho a W hW hd hx
      have h60 : a.eval (.tmp 60) = .bool true := hd 49 (by kernel_rfl)
      have h69 : a.eval (.tmp 69) = .bool false := hd 58 (by kernel_rfl)
      exact op_vg ho (.bool false) rfl h60 (by intro ρ hρ kc kf; rw [← hρ] at h69; clear hρ; simp [execOp, go_sem, h69]) rfl rfl
    · intro ho a W hW hd hx
      have h70 : a.eval (.tmp 70) = .bool false := hd 59 (by kernel_rfl)
      have h3 : a.eval (.tmp 3) = .bool true := (hx 3 (dst_not (by kernel_rfl))).trans rfl
      exact op_vg ho (.bool true) rfl h70 (by intro ρ hρ kc kf; rw [← hρ] at h3; clear hρ; simp [execOp, go_sem, h3]) rfl rfl
    · intro ho a W hW hd hx
      have h70 : a.eval (.tmp 70) = .bool false := hd 59 (by kernel_rfl)
      have h71 : a.eval (.tmp 71) = .bool true := hd 60 (by kernel_rfl)
      exact op_vg ho (.bool false) rfl h70 (by intro ρ hρ kc kf; rw [← hρ] at h71; clear hρ; simp [execOp, go_sem, h71]) rfl rfl
    · intro ho a W hW hd hx
      have h70 : a.eval (.tmp 70) = .bool false := hd 59 (by kernel_rfl)
      have h72 : a.eval (.tmp 72) = .bool false := hd 61 (by kernel_rfl)
      exact op_vg ho (.bool false) rfl h70 (by intro ρ hρ kc kf; rw [← hρ] at h72; clear hρ; simp [execOp, go_sem, h72]) rfl rfl
    · intro ho a W hW hd hx
      have h73 : a.eval (.tmp 73) = .bool false := hd 62 (by kernel_rfl)
      exact op_off ho rfl h73 (by decide) rfl
    · intro ho a W hW hd hx
      have h73 : a.eval (.tmp 73) = .bool false := hd 62 (by kernel_rfl)
      exact op_off ho rfl h73 (by decide) rfl
    · intro ho a W hW hd hx
      have h73 : a.eval (.tmp 73) = .bool false := hd 62 (by kernel_rfl)
      exact op_off ho rfl h73 (by decide) rfl
    · intro ho a W hW hd hx
      have h73 : a.eval (.tmp 73) = .bool false := hd 62 (by kernel_rfl)
      exact op_off ho rfl h73 (by decide) rfl
    · intro ho a W hW hd hx
      have h73 : a.eval (.tmp 73) = .bool false := hd 62 (by kernel_rfl)
      exact op_off ho rfl h73 (by decide) rfl
    · intro ho a W hW hd hx
      have h73 : a.eval (.tmp 73) = .bool false := hd 62 (by kernel_rfl)
      exact op_off ho rfl h73 (by decide) rfl
    · intro ho a W hW hd hx
      have h70 : a.eval (.tmp 70) = .bool false := hd 59 (by kernel_rfl)
      have h73 : a.eval (.tmp 73) = .bool false := hd 62 (by kernel_rfl)
      have h79 : a.eval (.tmp 79) = undef := hd 68 (by kernel_rfl)
      exact op_vg ho (.bool false) rfl h70 (by intro ρ hρ kc kf; rw [← hρ] at h73; clear hρ; simp [execOp, go_sem, kc, h73]) rfl rfl
    · intro ho a W hW hd hx
      have h60 : a.eval (.tmp 60) = .bool true := hd 49 (by kernel_rfl)
      have h70 : a.eval (.tmp 70) = .bool false := hd 59 (by kernel_rfl)
      have h80 : a.eval (.tmp 80) = .bool false := hd 69 (by kernel_rfl)
      exact op_vg ho (.bool false) rfl h60 (by intro ρ hρ kc kf; rw [← hρ] at h70 h80; clear hρ; simp [execOp, go_sem, h70, h80]) rfl rfl
    · intro ho a W hW hd hx
      have h60 : a.eval (.tmp 60) = .bool true := hd 49 (by kernel_rfl)
      have h81 : a.eval (.tmp 81) = .bool false := hd 70 (by kernel_rfl)
      exact op_v ho (.bool false) rfl (by intro ρ hρ kc kf; rw [← hρ] at h60 h81; clear hρ; simp [execOp, go_sem, h60, h81]) rfl rfl
    · intro ho a W hW hd hx
      have h82 : a.eval (.tmp 82) = .bool false := hd 71 (by kernel_rfl)
      exact op_v ho (.bool false) rfl (by intro ρ hρ kc kf; rw [← hρ] at h82; clear hρ; simp [execOp, go_sem, h82]) rfl rfl
    · intro ho a W hW hd hx
      have h83 : a.eval (.tmp 83) = .bool false := hd 72 (by kernel_rfl)
      exact op_off ho rfl h83 (by decide) rfl
    · intro ho a W hW hd hx
      have h83 : a.eval (.tmp 83) = .bool false := hd 72 (by kernel_rfl)
      exact op_off ho rfl h83 (by decide) rfl
    · intro ho a W hW hd hx
      have h83 : a.eval (.tmp 83) = .bool false := hd 72 (by kernel_rfl)
      exact op_off ho rfl h83 (by decide) rfl
    · intro ho a W hW hd hx
      have h83 : a.eval (.tmp 83) = .bool false := hd 72 (by kernel_rfl)
      exact op_off ho rfl h83 (by decide) rfl
    · intro ho a W hW hd hx
      have h83 : a.eval (.tmp 83) = .bool false := hd 72 (by kernel_rfl)
      exact op_off ho rfl h83 (by decide) rfl
    · intro ho a W hW hd hx
      have h83 : a.eval (.tmp 83) = .bool false := hd 72 (by kernel_rfl)
      exact op_off ho rfl h83 (by decide) rfl
    · intro ho a W hW hd hx
      have h83 : a.eval (.tmp 83) = .bool false := hd 72 (by kernel_rfl)
      exact op_off ho rfl h83 (by decide) rfl
    · intro ho a W hW hd hx
      have h90 : a.eval (.tmp 90) = undef := hd 79 (by kernel_rfl)
      exact op_un ho rfl h90 rfl
    · intro ho a W hW hd hx
      have h90 : a.eval (.tmp 90) = undef := hd 79 (by kernel_rfl)
      exact op_un ho rfl h90 rfl
    · intro ho a W hW hd hx
      have h92 : a.eval (.tmp 92) = undef := hd 81 (by kernel_rfl)
      exact op_un ho rfl h92 rfl
    · intro ho a W hW hd hx
      have h92 : a.eval (.tmp 92) = undef := hd 81 (by kernel_rfl)
      exact op_un ho rfl h92 rfl
    · intro ho a W hW hd hx
      have h92 : a.eval (.tmp 92) = undef := hd 81 (by kernel_rfl)
      exact op_un ho rfl h92 rfl
    · intro ho a W hW hd hx
      have h92 : a.eval (.tmp 92) = undef := hd 81 (by kernel_rfl)
      exact op_un ho rfl h92 rfl
    · intro ho a W hW hd hx
      have h92 : a.eval (.tmp 92) = undef := hd 81 (by kernel_rfl)
      exact op_un ho rfl h92 rfl
    · intro ho a W hW hd hx
      have h92 : a.eval (.tmp 92) = undef := hd 81 (by kernel_rfl)
      exact op_un ho rfl h92 rfl
    · intro ho a W hW hd hx
      have h90 : a.eval (.tmp 90) = undef := hd 79 (by kernel_rfl)
      exact op_un ho rfl h90 rfl
    · intro ho a W hW hd hx
      have h83 : a.eval (.tmp 83) = .bool false := hd 72 (by kernel_rfl)
      exact op_off ho rfl h83 (by decide) rfl
    · intro ho a W hW hd hx
      have h83 : a.eval (.tmp 83) = .bool false := hd 72 (by kernel_rfl)
      have h100 : a.eval (.tmp 100) = undef := hd 89 (by kernel_rfl)
      exact op_v ho (.bool false) rfl (by intro ρ hρ kc kf; rw [← hρ] at h83; clear hρ; simp [execOp, go_sem, kc, h83]) rfl rfl
    · intro ho a W hW hd hx
      have h101 : a.eval (.tmp 101) = .bool false := hd 90 (by kernel_rfl)
      exact op_v ho (.bool false) rfl (by intro ρ hρ kc kf; rw [← hρ] at h101; clear hρ; simp [execOp, go_sem, h101]) rfl rfl
  intro v W hW hv _
  have hlast : v 91 = .bool false := hv 91 (by decide)
  simp only [List.append_eq, List.cons_append, List.nil_append, List.take_succ_cons, List.take_zero, List.drop_succ_cons, List.drop_zero, fillL, wpTail, Act.put, List.setIfInBounds_toArray, List.set_cons_zero, List.set_cons_succ, Nat.reduceAdd]
  rw [hlast]
  go_wp2
  go_ret
  exact ⟨rfl, hW⟩

set_option maxRecDepth 100000 in
set_option maxHeartbeats 4000000 in
theorem on_fftt_ttttt (g : Nat) (T : TypeId) (c : Cm) (b : Value) (w : World) (hb : Blk w g T (cO c b)) (hL : c.lo = 0) (hH : c.hi = 0) (hM : c.mode = 0) (hD : keyB c.dead = true) (hW : c.was = 0) :
    Calls Try.prog 37 #[.pointer (some ⟨g, 0, none⟩), .bool false, .bool false, .bool true, .bool true] w fun e w' => e = .returned (.bool (onlyB c false false true true)) ∧ Below w.heap.size w w' := by
  have e : onlyB c false false true true = true := by simp [onlyB, hL, hH, hM, hD, hW]
  rw [e]; clear e
  have HB := Lib.hid hb; clear hb
  have HL := Lib.hid hL; clear hL
  have HH := Lib.hid hH; clear hH
  have HM := Lib.hid hM; clear hM
  have kd := fun W => key_below c.dead W
  rw [hD] at kd
  have KD := Lib.hid kd; clear kd hD
  have HW := Lib.hid hW; clear hW
  go_enter Try.func37, Try.ntmps37
  go_upto_region 1 with fail
  refine wp_region_grows 92 ((fun q_ _ _ => q_ = .bool false) :: (fun q_ _ _ => q_ = .bool false) :: (fun q_ _ _ => q_ = undef) :: (fun q_ _ _ => q_ = undef) :: (fun q_ _ _ => q_ = .bool false) :: (fun q_ _ _ => q_ = .bool false) :: (fun q_ _ _ => q_ = .bool false) :: (fun q_ _ _ => q_ = .bool true) :: (fun q_ _ _ => q_ = .bool true) :: (fun q_ _ _ => q_ = .pointer (some ⟨g, 0, none⟩)) :: (fun q_ _ _ => q_ = .pointer (some ⟨g, 0, none⟩)) :: (fun q_ _ _ => q_ = .pointer (some ⟨g, 0, none⟩)) :: (fun q_ _ _ => q_ = .pointer (some ⟨g, 5, none⟩)) :: (fun q_ _ _ => q_ = .agg #[.int .i64 c.lo, .int .i64 c.hi]) :: (fun q_ _ _ => q_ = .agg #[.int .i64 0, .int .i64 0]) :: (fun q_ _ _ => q_ = .bool true) :: (fun q_ _ _ => q_ = .bool true) :: (fun q_ _ _ => q_ = .bool true) :: (fun q_ _ _ => q_ = .bool true) :: (fun q_ _ _ => q_ = .bool false) :: (fun q_ _ _ => q_ = .bool false) :: (fun q_ _ _ => q_ = undef) :: (fun q_ _ _ => q_ = undef) :: (fun q_ _ _ => q_ = undef) :: (fun q_ _ _ => q_ = undef) :: (fun q_ _ _ => q_ = undef) :: (fun q_ _ _ => q_ = undef) :: (fun q_ _ _ => q_ = undef) :: (fun q_ _ _ => q_ = undef) :: (fun q_ _ _ => q_ = undef) :: (fun q_ _ _ => q_ = undef) :: (fun q_ _ _ => q_ = undef) :: (fun q_ _ _ => q_ = undef) :: (fun q_ _ _ => q_ = undef) :: (fun q_ _ _ => q_ = undef) :: (fun q_ _ _ => q_ = .bool false) :: (fun q_ _ _ => q_ = .bool false) :: (fun q_ _ _ => q_ = .bool false) :: (fun q_ _ _ => q_ = .bool true) :: (fun q_ _ _ => q_ = .bool true) :: (fun q_ _ _ => q_ = .pointer (some ⟨g, 0, none⟩)) :: (fun q_ _ _ => q_ = .pointer (some ⟨g, 0, none⟩)) :: (fun q_ _ _ => q_ = .pointer (some ⟨g, 0, none⟩)) :: (fun q_ _ _ => q_ = .pointer (some ⟨g, 7, none⟩)) :: (fun q_ _ _ => q_ = .int .i8 c.mode) :: (fun q_ _ _ => q_ = .bool true) :: (fun q_ _ _ => q_ = .bool true) :: (fun q_ _ _ => q_ = .bool true) :: (fun q_ _ _ => q_ = .bool true) :: (fun q_ _ _ => q_ = .bool true) :: (fun q_ _ _ => q_ = .bool true) :: (fun q_ _ _ => q_ = .bool true) :: (fun q_ _ _ => q_ = .pointer (some ⟨g, 0, none⟩)) :: (fun q_ _ _ => q_ = .pointer (some ⟨g, 0, none⟩)) :: (fun q_ _ _ => q_ = .pointer (some ⟨g, 0, none⟩)) :: (fun q_ _ _ => q_ = .pointer (some ⟨g, 3, none⟩)) :: (fun q_ _ _ => q_ = .int .i64 c.dead) :: (fun q_ _ _ => q_ = .bool true) :: (fun q_ _ _ => q_ = .bool true) :: (fun q_ _ _ => q_ = .bool true) :: (fun q_ _ _ => q_ = undef) :: (fun q_ _ _ => q_ = undef) :: (fun q_ _ _ => q_ = undef) :: (fun q_ _ _ => q_ = undef) :: (fun q_ _ _ => q_ = undef) :: (fun q_ _ _ => q_ = undef) :: (fun q_ _ _ => q_ = undef) :: (fun q_ _ _ => q_ = undef) :: (fun q_ _ _ => q_ = undef) :: (fun q_ _ _ => q_ = undef) :: (fun q_ _ _ => q_ = .bool true) :: (fun q_ _ _ => q_ = .bool true) :: (fun q_ _ _ => q_ = .bool true) :: (fun q_ _ _ => q_ = .pointer (some ⟨g, 0, none⟩)) :: (fun q_ _ _ => q_ = .pointer (some ⟨g, 0, none⟩)) :: (fun q_ _ _ => q_ = .pointer (some ⟨g, 0, none⟩)) :: (fun q_ _ _ => q_ = .pointer (some ⟨g, 4, none⟩)) :: (fun q_ _ _ => q_ = .int .i64 c.was) :: (fun q_ _ _ => q_ = .bool true) :: (fun q_ _ _ => q_ = .bool true) :: (fun q_ _ _ => q_ = undef) :: (fun q_ _ _ => q_ = undef) :: (fun q_ _ _ => q_ = undef) :: (fun q_ _ _ => q_ = undef) :: (fun q_ _ _ => q_ = undef) :: (fun q_ _ _ => q_ = undef) :: (fun q_ _ _ => q_ = undef) :: (fun q_ _ _ => q_ = undef) :: (fun q_ _ _ => q_ = undef) :: (fun q_ _ _ => q_ = .bool true) :: (fun q_ _ _ => q_ = .bool true) :: (fun q_ _ _ => q_ = .bool true) :: []) (fun _ => false) (w.heap.size) w (by kernel_rfl) (by kernel_rfl) (by kernel_rfl) (Below.refl _ _) (Nat.le_refl _) ?zStab (fun _ h => by cases h) ?zOps ?zFin
  case zStab => exact ⟨st_is _, st_is _, st_is _, st_is _, st_is _, st_is _, st_is _, st_is _, st_is _, st_is _, st_is _, st_is _, st_is _, st_is _, st_is _, st_is _, st_is _, st_is _, st_is _, st_is _, st_is _, st_is _, st_is _, st_is _, st_is _, st_is _, st_is _, st_is _, st_is _, st_is _, st_is _, st_is _, st_is _, st_is _, st_is _, st_is _, st_is _, st_is _, st_is _, st_is _, st_is _, st_is _, st_is _, st_is _, st_is _, st_is _, st_is _, st_is _, st_is _, st_is _, st_is _, st_is _, st_is _, st_is _, st_is _, st_is _, st_is _, st_is _, st_is _, st_is _, st_is _, st_is _, st_is _, st_is _, st_is _, st_is _, st_is _, st_is _, st_is _, st_is _, st_is _, st_is _, st_is _, st_is _, st_is _, st_is _, st_is _, st_is _, st_is _, st_is _, st_is _, st_is _, st_is _, st_is _, st_is _, st_is _, st_is _, st_is _, st_is _, st_is _, st_is _, st_is _, trivial⟩
  case zOps =>
    intro Q
    refine ⟨?_, ?_, ?_, ?_, ?_, ?_, ?_, ?_, ?_, ?_, ?_, ?_, ?_, ?_, ?_, ?_, ?_, ?_, ?_, ?_, ?_, ?_, ?_, ?_, ?_, ?_, ?_, ?_, ?_, ?_, ?_, ?_, ?_, ?_, ?_, ?_, ?_, ?_, ?_, ?_, ?_, ?_, ?_, ?_, ?_, ?_, ?_, ?_, ?_, ?_, ?_, ?_, ?_, ?_, ?_, ?_, ?_, ?_, ?_, ?_, ?_, ?_, ?_, ?_, ?_, ?_, ?_, ?_, ?_, ?_, ?_, ?_, ?_, ?_, ?_, ?_, ?_, ?_, ?_, ?_, ?_, ?_, ?_, ?_, ?_, ?_, ?_, ?_, ?_, ?_, ?_, ?_, trivial⟩
    · intro ho a W hW hd hx
      have h1 : a.eval (.tmp 1) = .bool false := (hx 1 (dst_not (by kernel_rfl))).trans rfl
      exact op_v ho (.bool false) rfl (by intro ρ hρ kc kf; rw [← hρ] at h1; clear hρ; simp [execOp, go_sem, h1]) rfl rfl
    · intro ho a W hW hd hx
      have h11 : a.eval (.tmp 11) = .bool false := hd 0 (by kernel_rfl)
      exact op_v ho (.bool false) rfl (by intro ρ hρ kc kf; rw [← hρ] at h11; clear hρ; simp [execOp, go_sem, h11]) rfl rfl
    · intro ho a W hW hd hx
      have h12 : a.eval (.tmp 12) = .bool false := hd 1 (by kernel_rfl)
      exact op_off ho rfl h12 (by decide) rfl
    · intro ho a W hW hd hx
      have h12 : a.eval (.tmp 12) = .bool false := hd 1 (by kernel_rfl)
      exact op_off ho rfl h12 (by decide) rfl
    · intro ho a W hW hd hx
      have h12 : a.eval (.tmp 12) = .bool false := hd 1 (by kernel_rfl)
      have h14 : a.eval (.tmp 14) = undef := hd 3 (by kernel_rfl)
      exact op_v ho (.bool false) rfl (by intro ρ hρ kc kf; rw [← hρ] at h12; clear hρ; simp [execOp, go_sem, kc, h12]) rfl rfl
    · intro ho a W hW hd hx
      have h15 : a.eval (.tmp 15) = .bool false := hd 4 (by kernel_rfl)
      exact op_v ho (.bool false) rfl (by intro ρ hρ kc kf; rw [← hρ] at h15; clear hρ; simp [execOp, go_sem, h15]) rfl rfl
    · intro ho a W hW hd hx
      have h16 : a.eval (.tmp 16) = .bool false := hd 5 (by kernel_rfl)
      have h1 : a.eval (.tmp 1) = .bool false := (hx 1 (dst_not (by kernel_rfl))).trans rfl
      exact op_vg ho (.bool false) rfl h16 (by intro ρ hρ kc kf; rw [← hρ] at h1; clear hρ; simp [execOp, go_sem, h1]) rfl rfl
    · intro ho a W hW hd hx
      have h16 : a.eval (.tmp 16) = .bool false := hd 5 (by kernel_rfl)
      have h17 : a.eval (.tmp 17) = .bool false := hd 6 (by kernel_rfl)
      exact op_vg ho (.bool true) rfl h16 (by intro ρ hρ kc kf; rw [← hρ] at h17; clear hρ; simp [execOp, go_sem, h17]) rfl rfl
    · intro ho a W hW hd hx
      have h16 : a.eval (.tmp 16) = .bool false := hd 5 (by kernel_rfl)
      have h18 : a.eval (.tmp 18) = .bool true := hd 7 (by kernel_rfl)
      exact op_vg ho (.bool true) rfl h16 (by intro ρ hρ kc kf; rw [← hρ] at h18; clear hρ; simp [execOp, go_sem, h18]) rfl rfl
    · intro ho a W hW hd hx
      have h19 : a.eval (.tmp 19) = .bool true := hd 8 (by kernel_rfl)
      have h0 : a.eval (.tmp 0) = .pointer (some ⟨g, 0, none⟩) := (hx 0 (dst_not (by kernel_rfl))).trans rfl
      exact op_vg ho (.pointer (some ⟨g, 0, none⟩)) rfl h19 (by intro ρ hρ kc kf; rw [← hρ] at h0; clear hρ; simp [execOp, go_sem, h0]) rfl rfl
    · intro ho a W hW hd hx
      have h19 : a.eval (.tmp 19) = .bool true := hd 8 (by kernel_rfl)
      have h20 : a.eval (.tmp 20) = .pointer (some ⟨g, 0, none⟩) := hd 9 (by kernel_rfl)
      exact op_vg ho (.pointer (some ⟨g, 0, none⟩)) rfl h19 (by intro ρ hρ kc kf; rw [← hρ] at h20; clear hρ; simp [execOp, go_sem, h20]) rfl rfl
    · intro ho a W hW hd hx
      have h19 : a.eval (.tmp 19) = .bool true := hd 8 (by kernel_rfl)
      have h21 : a.eval (.tmp 21) = .pointer (some ⟨g, 0, none⟩) := hd 10 (by kernel_rfl)
      exact op_vg ho (.pointer (some ⟨g, 0, none⟩)) rfl h19 (by intro ρ hρ kc kf; rw [← hρ] at h21; clear hρ; simp [execOp, go_sem, h21]) rfl rfl
    · intro ho a W hW hd hx
      have h19 : a.eval (.tmp 19) = .bool true := hd 8 (by kernel_rfl)
      have h22 : a.eval (.tmp 22) = .pointer (some ⟨g, 0, none⟩) := hd 11 (by kernel_rfl)
      exact op_vg ho (.pointer (some ⟨g, 5, none⟩)) rfl h19 (by intro ρ hρ kc kf; rw [← hρ] at h22; clear hρ; simp [execOp, go_sem, h22]) rfl rfl
    · intro ho a W hW hd hx
      have h19 : a.eval (.tmp 19) = .bool true := hd 8 (by kernel_rfl)
      have h23 : a.eval (.tmp 23) = .pointer (some ⟨g, 5, none⟩) := hd 12 (by kernel_rfl)
      have hc1 : W.cell? ⟨g, 5, none⟩ = some (.int .i64 c.lo) := by rw [(HB.out.below hW HB.out.lt).cell 5]; rfl
      have hc2 : W.cell? ⟨g, 6, none⟩ = some (.int .i64 c.hi) := by rw [(HB.out.below hW HB.out.lt).cell 6]; rfl
      exact op_vg ho (.agg #[.int .i64 c.lo, .int .i64 c.hi]) rfl h19 (by intro ρ hρ kc kf; rw [← hρ] at h23; clear hρ; simp [execOp, go_sem, h23, hc1, hc2]) rfl rfl
    · intro ho a W hW hd hx
      have h19 : a.eval (.tmp 19) = .bool true := hd 8 (by kernel_rfl)
      exact op_vg ho (.agg #[.int .i64 0, .int .i64 0]) rfl h19 (by intro ρ hρ kc kf; clear hρ; simp [execOp, go_sem]) rfl rfl
    · intro ho a W hW hd hx
      have h19 : a.eval (.tmp 19) = .bool true := hd 8 (by kernel_rfl)
      have h24 : a.eval (.tmp 24) = .agg #[.int .i64 c.lo, .int .i64 c.hi] := hd 13 (by kernel_rfl)
      have h25 : a.eval (.tmp 25) = .agg #[.int .i64 0, .int .i64 0] := hd 14 (by kernel_rfl)
      exact op_vg ho (.bool true) rfl h19 (by intro ρ hρ kc kf; rw [← hρ] at h24 h25; clear hρ; simp [execOp, go_sem, h24, h25, HL.out, HH.out]) rfl rfl
    · intro ho a W hW hd hx
      have h16 : a.eval (.tmp 16) = .bool false := hd 5 (by kernel_rfl)
      have h19 : a.eval (.tmp 19) = .bool true := hd 8 (by kernel_rfl)
      have h26 : a.eval (.tmp 26) = .bool true := hd 15 (by kernel_rfl)
      exact op_vg ho (.bool true) rfl h16 (by intro ρ hρ kc kf; rw [← hρ] at h19 h26; clear hρ; simp [execOp, go_sem, h19, h26]) rfl rfl
    · intro ho a W hW hd hx
      have h16 : a.eval (.tmp 16) = .bool false := hd 5 (by kernel_rfl)
      have h27 : a.eval (.tmp 27) = .bool true := hd 16 (by kernel_rfl)
      exact op_v ho (.bool true) rfl (by intro ρ hρ kc kf; rw [← hρ] at h16 h27; clear hρ; simp [execOp, go_sem, h16, h27]) rfl rfl
    · intro ho a W hW hd hx
      have h28 : a.eval (.tmp 28) = .bool true := hd 17 (by kernel_rfl)
      exact op_v ho (.bool true) rfl (by intro ρ hρ kc kf; rw [← hρ] at h28; clear hρ; simp [execOp, go_sem, h28]) rfl rfl
    · intro ho a W hW hd hx
      have h29 : a.eval (.tmp 29) = .bool true := hd 18 (by kernel_rfl)
      have h2 : a.eval (.tmp 2) = .bool false := (hx 2 (dst_not (by kernel_rfl))).trans rfl
      exact op_vg ho (.bool false) rfl h29 (by intro ρ hρ kc kf; rw [← hρ] at h2; clear hρ; simp [execOp, go_sem, h2]) rfl rfl
    · intro ho a W hW hd hx
      have h29 : a.eval (.tmp 29) = .bool true := hd 18 (by kernel_rfl)
      have h30 : a.eval (.tmp 30) = .bool false := hd 19 (by kernel_rfl)
      exact op_vg ho (.bool false) rfl h29 (by intro ρ hρ kc kf; rw [← hρ] at h30; clear hρ; simp [execOp, go_sem, h30]) rfl rfl
    · intro ho a W hW hd hx
      have h31 : a.eval (.tmp 31) = .bool false := hd 20 (by kernel_rfl)
      exact op_off ho rfl h31 (by decide) rfl
    · intro ho a W hW hd hx
      have h31 : a.eval (.tmp 31) = .bool false := hd 20 (by kernel_rfl)
      exact op_off ho rfl h31 (by decide) rfl
    · intro ho a W hW hd hx
      have h31 : a.eval (.tmp 31) = .bool false := hd 20 (by kernel_rfl)
      exact op_off ho rfl h31 (by decide) rfl
    · intro ho a W hW hd hx
      have h31 : a.eval (.tmp 31) = .bool false := hd 20 (by kernel_rfl)
      exact op_off ho rfl h31 (by decide) rfl
    · intro ho a W hW hd hx
      have h31 : a.eval (.tmp 31) = .bool false := hd 20 (by kernel_rfl)
      exact op_off ho rfl h31 (by decide) rfl
    · intro ho a W hW hd hx
      have h31 : a.eval (.tmp 31) = .bool false := hd 20 (by kernel_rfl)
      exact op_off ho rfl h31 (by decide) rfl
    · intro ho a W hW hd hx
      have h31 : a.eval (.tmp 31) = .bool false := hd 20 (by kernel_rfl)
      exact op_off ho rfl h31 (by decide) rfl
    · intro ho a W hW hd hx
      have h38 : a.eval (.tmp 38) = undef := hd 27 (by kernel_rfl)
      exact op_un ho rfl h38 rfl
    · intro ho a W hW hd hx
      have h38 : a.eval (.tmp 38) = undef := hd 27 (by kernel_rfl)
      exact op_un ho rfl h38 rfl
    · intro ho a W hW hd hx
      have h38 : a.eval (.tmp 38) = undef := hd 27 (by kernel_rfl)
      exact op_un ho rfl h38 rfl
    · intro ho a W hW hd hx
      have h38 : a.eval (.tmp 38) = undef := hd 27 (by kernel_rfl)
      exact op_un ho rfl h38 rfl
    · intro ho a W hW hd hx
      have h38 : a.eval (.tmp 38) = undef := hd 27 (by kernel_rfl)
      exact op_un ho rfl h38 rfl
    · intro ho a W hW hd hx
      have h38 : a.eval (.tmp 38) = undef := hd 27 (by kernel_rfl)
      exact op_un ho rfl h38 rfl
    · intro ho a W hW hd hx
      have h31 : a.eval (.tmp 31) = .bool false := hd 20 (by kernel_rfl)
      exact op_off ho rfl h31 (by decide) rfl
    · intro ho a W hW hd hx
      have h29 : a.eval (.tmp 29) = .bool true := hd 18 (by kernel_rfl)
      have h31 : a.eval (.tmp 31) = .bool false := hd 20 (by kernel_rfl)
      have h45 : a.eval (.tmp 45) = undef := hd 34 (by kernel_rfl)
      exact op_vg ho (.bool false) rfl h29 (by intro ρ hρ kc kf; rw [← hρ] at h31; clear hρ; simp [execOp, go_sem, kc, h31]) rfl rfl
    · intro ho a W hW hd hx
      have h29 : a.eval (.tmp 29) = .bool true := hd 18 (by kernel_rfl)
      have h46 : a.eval (.tmp 46) = .bool false := hd 35 (by kernel_rfl)
      exact op_vg ho (.bool false) rfl h29 (by intro ρ hρ kc kf; rw [← hρ] at h46; clear hρ; simp [execOp, go_sem, h46]) rfl rfl
    · intro ho a W hW hd hx
      have h47 : a.eval (.tmp 47) = .bool false := hd 36 (by kernel_rfl)
      have h2 : a.eval (.tmp 2) = .bool false := (hx 2 (dst_not (by kernel_rfl))).trans rfl
      exact op_vg ho (.bool false) rfl h47 (by intro ρ hρ kc kf; rw [← hρ] at h2; clear hρ; simp [execOp, go_sem, h2]) rfl rfl
    · intro ho a W hW hd hx
      have h47 : a.eval (.tmp 47) = .bool false := hd 36 (by kernel_rfl)
      have h48 : a.eval (.tmp 48) = .bool false := hd 37 (by kernel_rfl)
      exact op_vg ho (.bool true) rfl h47 (by intro ρ hρ kc kf; rw [← hρ] at h48; clear hρ; simp [execOp, go_sem, h48]) rfl rfl
    · intro ho a W hW hd hx
      have h47 : a.eval (.tmp 47) = .bool false := hd 36 (by kernel_rfl)
      have h49 : a.eval (.tmp 49) = .bool true := hd 38 (by kernel_rfl)
      exact op_vg ho (.bool true) rfl h47 (by intro ρ hρ kc kf; rw [← hρ] at h49; clear hρ; simp [execOp, go_sem, h49]) rfl rfl
    · intro ho a W hW hd hx
      have h50 : a.eval (.tmp 50) = .bool true := hd 39 (by kernel_rfl)
      have h0 : a.eval (.tmp 0) = .pointer (some ⟨g, 0, none⟩) := (hx 0 (dst_not (by kernel_rfl))).trans rfl
      exact op_vg ho (.pointer (some ⟨g, 0, none⟩)) rfl h50 (by intro ρ hρ kc kf; rw [← hρ] at h0; clear hρ; simp [execOp, go_sem, h0]) rfl rfl
    · intro ho a W hW hd hx
      have h50 : a.eval (.tmp 50) = .bool true := hd 39 (by kernel_rfl)
      have h51 : a.eval (.tmp 51) = .pointer (some ⟨g, 0, none⟩) := hd 40 (by kernel_rfl)
      exact op_vg ho (.pointer (some ⟨g, 0, none⟩)) rfl h50 (by intro ρ hρ kc kf; rw [← hρ] at h51; clear hρ; simp [execOp, go_sem, h51]) rfl rfl
    · intro ho a W hW hd hx
      have h50 : a.eval (.tmp 50) = .bool true := hd 39 (by kernel_rfl)
      have h52 : a.eval (.tmp 52) = .pointer (some ⟨g, 0, none⟩) := hd 41 (by kernel_rfl)
      exact op_vg ho (.pointer (some ⟨g, 0, none⟩)) rfl h50 (by intro ρ hρ kc kf; rw [← hρ] at h52; clear hρ; simp [execOp, go_sem, h52]) rfl rfl
    · intro ho a W hW hd hx
      have h50 : a.eval (.tmp 50) = .bool true := hd 39 (by kernel_rfl)
      have h53 : a.eval (.tmp 53) = .pointer (some ⟨g, 0, none⟩) := hd 42 (by kernel_rfl)
      exact op_vg ho (.pointer (some ⟨g, 7, none⟩)) rfl h50 (by intro ρ hρ kc kf; rw [← hρ] at h53; clear hρ; simp [execOp, go_sem, h53]) rfl rfl
    · intro ho a W hW hd hx
      have h50 : a.eval (.tmp 50) = .bool true := hd 39 (by kernel_rfl)
      have h54 : a.eval (.tmp 54) = .pointer (some ⟨g, 7, none⟩) := hd 43 (by kernel_rfl)
      have hcell : W.cell? ⟨g, 7, none⟩ = some (.int .i8 c.mode) := by rw [(HB.out.below hW HB.out.lt).cell 7]; rfl
      exact op_vg ho (.int .i8 c.mode) rfl h50 (by intro ρ hρ kc kf; rw [← hρ] at h54; clear hρ; simp [execOp, go_sem, h54, hcell]) rfl rfl
    · intro ho a W hW hd hx
      have h50 : a.eval (.tmp 50) = .bool true := hd 39 (by kernel_rfl)
      have h55 : a.eval (.tmp 55) = .int .i8 c.mode := hd 44 (by kernel_rfl)
      exact op_vg ho (.bool true) rfl h50 (by intro ρ hρ kc kf; rw [← hρ] at h55; clear hρ; simp [execOp, go_sem, kc, h55, HM.out]) rfl rfl
    · intro ho a W hW hd hx
      have h47 : a.eval (.tmp 47) = .bool false := hd 36 (by kernel_rfl)
      have h50 : a.eval (.tmp 50) = .bool true := hd 39 (by kernel_rfl)
      have h56 : a.eval (.tmp 56) = .bool true := hd 45 (by kernel_rfl)
      exact op_vg ho (.bool true) rfl h47 (by intro ρ hρ kc kf; rw [← hρ] at h50 h56; clear hρ; simp [execOp, go_sem, h50, h56]) rfl rfl
    · intro ho a W hW hd hx
      have h29 : a.eval (.tmp 29) = .bool true := hd 18 (by kernel_rfl)
      have h47 : a.eval (.tmp 47) = .bool false := hd 36 (by kernel_rfl)
      have h57 : a.eval (.tmp 57) = .bool true := hd 46 (by kernel_rfl)
      exact op_vg ho (.bool true) rfl h29 (by intro ρ hρ kc kf; rw [← hρ] at h47 h57; clear hρ; simp [execOp, go_sem, h47, h57]) rfl rfl
    · intro ho a W hW hd hx
      have h29 : a.eval (.tmp 29) = .bool true := hd 18 (by kernel_rfl)
      have h58 : a.eval (.tmp 58) = .bool true := hd 47 (by kernel_rfl)
      exact op_v ho (.bool true) rfl (by intro ρ hρ kc kf; rw [← hρ] at h29 h58; clear hρ; simp [execOp, go_sem, h29, h58]) rfl rfl
    · intro ho a W hW hd hx
      have h59 : a.eval (.tmp 59) = .bool true := hd 48 (by kernel_rfl)
      exact op_v ho (.bool true) rfl (by intro ρ hρ kc kf; rw [← hρ] at h59; clear hρ; simp [execOp, go_sem, h59]) rfl rfl
    · intro ho a W hW hd hx
      have h60 : a.eval (.tmp 60) = .bool true := hd 49 (by kernel_rfl)
      have h3 : a.eval (.tmp 3) = .bool true := (hx 3 (dst_not (by kernel_rfl))).trans rfl
      exact op_vg ho (.bool true) rfl h60 (by intro ρ hρ kc kf; rw [← hρ] at h3; clear hρ; simp [execOp, go_sem, h3]) rfl rfl
    · intro ho a W hW hd hx
      have h60 : a.eval (.tmp 60) = .bool true := hd 49 (by kernel_rfl)
      have h61 : a.eval (.tmp 61) = .bool true := hd 50 (by kernel_rfl)
      exact op_vg ho (.bool true) rfl h60 (by intro ρ hρ kc kf; rw [← hρ] at h61; clear hρ; simp [execOp, go_sem, h61]) rfl rfl
    · intro ho a W hW hd hx
      have h62 : a.eval (.tmp 62) = .bool true := hd 51 (by kernel_rfl)
      have h0 : a.eval (.tmp 0) = .pointer (some ⟨g, 0, none⟩) := (hx 0 (dst_not (by kernel_rfl))).trans rfl
      exact op_vg ho (.pointer (some ⟨g, 0, none⟩)) rfl h62 (by intro ρ hρ kc kf; rw [← hρ] at h0; clear hρ; simp [execOp, go_sem, h0]) rfl rfl
    · intro ho a W hW hd hx
      have h62 : a.eval (.tmp 62) = .bool true := hd 51 (by kernel_rfl)
      have h63 : a.eval (.tmp 63) = .pointer (some ⟨g, 0, none⟩) := hd 52 (by kernel_rfl)
      exact op_vg ho (.pointer (some ⟨g, 0, none⟩)) rfl h62 (by intro ρ hρ kc kf; rw [← hρ] at h63; clear hρ; simp [execOp, go_sem, h63]) rfl rfl
    · intro ho a W hW hd hx
      have h62 : a.eval (.tmp 62) = .bool true := hd 51 (by kernel_rfl)
      have h64 : a.eval (.tmp 64) = .pointer (some ⟨g, 0, none⟩) := hd 53 (by kernel_rfl)
      exact op_vg ho (.pointer (some ⟨g, 0, none⟩)) rfl h62 (by intro ρ hρ kc kf; rw [← hρ] at h64; clear hρ; simp [execOp, go_sem, h64]) rfl rfl
    · intro ho a W hW hd hx
      have h62 : a.eval (.tmp 62) = .bool true := hd 51 (by kernel_rfl)
      have h65 : a.eval (.tmp 65) = .pointer (some ⟨g, 0, none⟩) := hd 54 (by kernel_rfl)
      exact op_vg ho (.pointer (some ⟨g, 3, none⟩)) rfl h62 (by intro ρ hρ kc kf; rw [← hρ] at h65; clear hρ; simp [execOp, go_sem, h65]) rfl rfl
    · intro ho a W hW hd hx
      have h62 : a.eval (.tmp 62) = .bool true := hd 51 (by kernel_rfl)
      have h66 : a.eval (.tmp 66) = .pointer (some ⟨g, 3, none⟩) := hd 55 (by kernel_rfl)
      have hcell : W.cell? ⟨g, 3, none⟩ = some (.int .i64 c.dead) := by rw [(HB.out.below hW HB.out.lt).cell 3]; rfl
      exact op_vg ho (.int .i64 c.dead) rfl h62 (by intro ρ hρ kc kf; rw [← hρ] at h66; clear hρ; simp [execOp, go_sem, h66, hcell]) rfl rfl
    · intro ho a W hW hd hx
      have h62 : a.eval (.tmp 62) = .bool true := hd 51 (by kernel_rfl)
      have h67 : a.eval (.tmp 67) = .int .i64 c.dead := hd 56 (by kernel_rfl)
      refine op_call ho (want_yes rfl (show valAt _ a 51 = _ from h62)) (by intro ρ hρ kc kf; rw [← hρ] at h67; clear hρ; simp [execOp, go_sem, kf, h67]) (KD.out W) ?_
      rintro e W2 ⟨rfl, k2⟩
      exact ⟨_, rfl, _, rfl, (fun h => by cases h), rfl, k2, (fun h => absurd h (by decide))⟩
    · intro ho a W hW hd hx
      have h60 : a.eval (.tmp 60) = .bool true := hd 49 (by kernel_rfl)
      have h62 : a.eval (.tmp 62) = .bool true := hd 51 (by kernel_rfl)
      have h68 : a.eval (.tmp 68) = .bool true := hd 57 (by kernel_rfl)
      exact op_vg ho (.bool true) rfl h60 (by intro ρ hρ kc kf; rw [← hρ] at h62 h68; clear hρ; simp [execOp, go_sem, h62, h68]) rfl rfl
    · intro ho a W hW hd hx
      have h60 : a.eval (.tmp 60) = .bool true := hd 49 (by kernel_rfl)
      have h69 : a.eval (.tmp 69) = .bool true := hd 58 (by kernel_rfl)
      exact op_vg ho (.bool true) rfl h60 (by intro ρ hρ kc kf; rw [← hρ] at h69; clear hρ; simp [execOp, go_sem, h69]) rfl rfl
    · intro ho a W hW hd hx
      have h70 : a.eval (.tmp 70) = .bool true := hd 59 (by kernel_rfl)
      exact op_off ho rfl h70 (by decide) rfl
    · intro ho a W hW hd hx
      have h70 : a.eval (.tmp 70) = .bool true := hd 59 (by kernel_rfl)
      exact op_off ho rfl h70 (by decide) rfl
    · intro ho a W hW hd hx
      have h70 : a.eval (.tmp 70) = .bool true := hd 59 (by kernel_rfl)
      exact op_off ho rfl h70 (by decide) rfl
    · intro ho a W hW hd hx
      have h73 : a.eval (.tmp 73) = undef := hd 62 (by kernel_rfl)
      exact op_un ho rfl h73 rfl
    · intro ho a W hW hd hx
      have h73 : a.eval (.tmp 73) = undef := hd 62 (by kernel_rfl)
      exact op_un ho rfl h73 rfl
    · intro ho a W hW hd hx
      have h73 : a.eval (.tmp 73) = undef := hd 62 (by kernel_rfl)
      exact op_un ho rfl h73 rfl
    · intro ho a W hW hd hx
      have h73 : a.eval (.tmp 73) = undef := hd 62 (by kernel_rfl)
      exact op_un ho rfl h73 rfl
    · intro ho a W hW hd hx
      have h73 : a.eval (.tmp 73) = undef := hd 62 (by kernel_rfl)
      exact op_un ho rfl h73 rfl
    · intro ho a W hW hd hx
      have h73 : a.eval (.tmp 73) = undef := hd 62 (by kernel_rfl)
      exact op_un ho rfl h73 rfl
    · intro ho a W hW hd hx
      have h70 : a.eval (.tmp 70) = .bool true := hd 59 (by kernel_rfl)
      exact op_off ho rfl h70 (by decide) rfl
    · intro ho a W hW hd hx
      have h60 : a.eval (.tmp 60) = .bool true := hd 49 (by kernel_rfl)
      have h70 : a.eval (.tmp 70) = .bool true := hd 59 (by kernel_rfl)
      have h80 : a.eval (.tmp 80) = undef := hd 69 (by kernel_rfl)
      exact op_vg ho (.bool true) rfl h60 (by intro ρ hρ kc kf; rw [← hρ] at h70; clear hρ; simp [execOp, go_sem, kc, h70]) rfl rfl
    · intro ho a W hW hd hx
      have h60 : a.eval (.tmp 60) = .bool true := hd 49 (by kernel_rfl)
      have h81 : a.eval (.tmp 81) = .bool true := hd 70 (by kernel_rfl)
      exact op_v ho (.bool true) rfl (by intro ρ hρ kc kf; rw [← hρ] at h60 h81; clear hρ; simp [execOp, go_sem, h60, h81]) rfl rfl
    · intro ho a W hW hd hx
      have h82 : a.eval (.tmp 82) = .bool true := hd 71 (by kernel_rfl)
      exact op_v ho (.bool true) rfl (by intro ρ hρ kc kf; rw [← hρ] at h82; clear hρ; simp [execOp, go_sem, h82]) rfl rfl
    · intro ho a W hW hd hx
      have h83 : a.eval (.tmp 83) = .bool true := hd 72 (by kernel_rfl)
      have h0 : a.eval (.tmp 0) = .pointer (some ⟨g, 0, none⟩) := (hx 0 (dst_not (by kernel_rfl))).trans rfl
      exact op_vg ho (.pointer (some ⟨g, 0, none⟩)) rfl h83 (by intro ρ hρ kc kf; rw [← hρ] at h0; clear hρ; simp [execOp, go_sem, h0]) rfl rfl
    · intro ho a W hW hd hx
      have h83 : a.eval (.tmp 83) = .bool true := hd 72 (by kernel_rfl)
      have h84 : a.eval (.tmp 84) = .pointer (some ⟨g, 0, none⟩) := hd 73 (by kernel_rfl)
      exact op_vg ho (.pointer (some ⟨g, 0, none⟩)) rfl h83 (by intro ρ hρ kc kf; rw [← hρ] at h84; clear hρ; simp [execOp, go_sem, h84]) rfl rfl
    · intro ho a W hW hd hx
      have h83 : a.eval (.tmp 83) = .bool true := hd 72 (by kernel_rfl)
      have h85 : a.eval (.tmp 85) = .pointer (some ⟨g, 0, none⟩) := hd 74 (by kernel_rfl)
      exact op_vg ho (.pointer (some ⟨g, 0, none⟩)) rfl h83 (by intro ρ hρ kc kf; rw [← hρ] at h85; clear hρ; simp [execOp, go_sem, h85]) rfl rfl
    · intro ho a W hW hd hx
      have h83 : a.eval (.tmp 83) = .bool true := hd 72 (by kernel_rfl)
      have h86 : a.eval (.tmp 86) = .pointer (some ⟨g, 0, none⟩) := hd 75 (by kernel_rfl)
      exact op_vg ho (.pointer (some ⟨g, 4, none⟩)) rfl h83 (by intro ρ hρ kc kf; rw [← hρ] at h86; clear hρ; simp [execOp, go_sem, h86]) rfl rfl
    · intro ho a W hW hd hx
      have h83 : a.eval (.tmp 83) = .bool true := hd 72 (by kernel_rfl)
      have h87 : a.eval (.tmp 87) = .pointer (some ⟨g, 4, none⟩) := hd 76 (by kernel_rfl)
      have hcell : W.cell? ⟨g, 4, none⟩ = some (.int .i64 c.was) := by rw [(HB.out.below hW HB.out.lt).cell 4]; rfl
      exact op_vg ho (.int .i64 c.was) rfl h83 (by intro ρ hρ kc kf; rw [← hρ] at h87; clear hρ; simp [execOp, go_sem, h87, hcell]) rfl rfl
    · intro ho a W hW hd hx
      have h83 : a.eval (.tmp 83) = .bool true := hd 72 (by kernel_rfl)
      have h88 : a.eval (.tmp 88) = .int .i64 c.was := hd 77 (by kernel_rfl)
      exact op_vg ho (.bool true) rfl h83 (by intro ρ hρ kc kf; rw [← hρ] at h88; clear hρ; simp [execOp, go_sem, kc, h88, HW.out]) rfl rfl
    · intro ho a W hW hd hx
      have h83 : a.eval (.tmp 83) = .bool true := hd 72 (by kernel_rfl)
      have h89 : a.eval (.tmp 89) = .bool true := hd 78 (by kernel_rfl)
      exact op_vg ho (.bool true) rfl h83 (by intro ρ hρ kc kf; rw [← hρ] at h89; clear hρ; simp [execOp, go_sem, h89]) rfl rfl
    · intro ho a W hW hd hx
      have h90 : a.eval (.tmp 90) = .bool true := hd 79 (by kernel_rfl)
      exact op_off ho rfl h90 (by decide) rfl
    · intro ho a W hW hd hx
      have h90 : a.eval (.tmp 90) = .bool true := hd 79 (by kernel_rfl)
      exact op_off ho rfl h90 (by decide) rfl
    · intro ho a W hW hd hx
      have h92 : a.eval (.tmp 92) = undef := hd 81 (by kernel_rfl)
      exact op_un ho rfl h92 rfl
    · intro ho a W hW hd hx
      have h92 : a.eval (.tmp 92) = undef := hd 81 (by kernel_rfl)
      exact op_un ho rfl h92 rfl
    · intro ho a W hW hd hx
      have h92 : a.eval (.tmp 92) = undef := hd 81 (by kernel_rfl)
      exact op_un ho rfl h92 rfl
    · intro ho a W hW hd hx
      have h92 : a.eval (.tmp 92) = undef := hd 81 (by kernel_rfl)
      exact op_un ho rfl h92 rfl
    · intro ho a W hW hd hx
      have h92 : a.eval (.tmp 92) = undef := hd 81 (by kernel_rfl)
      exact op_un ho rfl h92 rfl
    · intro ho a W hW hd hx
      have h92 : a.eval (.tmp 92) = undef := hd 81 (by kernel_rfl)
      exact op_un ho rfl h92 rfl
    · intro ho a W hW hd hx
      have h90 : a.eval (.tmp 90) = .bool true := hd 79 (by kernel_rfl)
      exact op_off ho rfl h90 (by decide) rfl
    · intro ho a W hW hd hx
      have h83 : a.eval (.tmp 83) = .bool true := hd 72 (by kernel_rfl)
      have h90 : a.eval (.tmp 90) = .bool true := hd 79 (by kernel_rfl)
      have h99 : a.eval (.tmp 99) = undef := hd 88 (by kernel_rfl)
      exact op_vg ho (.bool true) rfl h83 (by intro ρ hρ kc kf; rw [← hρ] at h90; clear hρ; simp [execOp, go_sem, kc, h90]) rfl rfl
    · intro ho a W hW hd hx
      have h83 : a.eval (.tmp 83) = .bool true := hd 72 (by kernel_rfl)
      have h100 : a.eval (.tmp 100) = .bool true := hd 89 (by kernel_rfl)
      exact op_v ho (.bool true) rfl (by intro ρ hρ kc kf; rw [← hρ] at h83 h100; clear hρ; simp [execOp, go_sem, h83, h100]) rfl rfl
    · intro ho a W hW hd hx
      have h101 : a.eval (.tmp 101) = .bool true := hd 90 (by kernel_rfl)
      exact op_v ho (.bool true) rfl (by intro ρ hρ kc kf; rw [← hρ] at h101; clear hρ; simp [execOp, go_sem, h101]) rfl rfl
  intro v W hW hv _
  have hlast : v 91 = .bool true := hv 91 (by decide)
  simp only [List.append_eq, List.cons_append, List.nil_append, List.take_succ_cons, List.take_zero, List.drop_succ_cons, List.drop_zero, fillL, wpTail, Act.put, List.setIfInBounds_toArray, List.set_cons_zero, List.set_cons_succ, Nat.reduceAdd]
  rw [hlast]
  go_wp2
  go_ret
  exact ⟨rfl, hW⟩

set_option maxRecDepth 100000 in
set_option maxHeartbeats 4000000 in
theorem on_fftt_ttttff (g : Nat) (T : TypeId) (c : Cm) (b : Value) (w : World) (hb : Blk w g T (cO c b)) (hL : c.lo = 0) (hH : c.hi = 0) (hM : c.mode = 0) (hD : keyB c.dead = true) (hW : ¬ c.was = 0) (hK : keyB c.was = false) :
    Calls Try.prog 37 #[.pointer (some ⟨g, 0, none⟩), .bool false, .bool false, .bool true, .bool true] w fun e w' => e = .returned (.bool (onlyB c false false true true)) ∧ Below w.heap.size w w' := by
  have e : onlyB c false false true true = false := by simp [onlyB, hL, hH, hM, hD, hW, hK]
  rw [e]; clear e
  have HB := Lib.hid hb; clear hb
  have HL := Lib.hid hL; clear hL
  have HH := Lib.hid hH; clear hH
  have HM := Lib.hid hM; clear hM
  have kd := fun W => key_below c.dead W
  rw [hD] at kd
  have KD := Lib.hid kd; clear kd hD
  have HW := Lib.hid hW; clear hW
  have kw := fun W => key_below c.was W
  rw [hK] at kw
  have KW := Lib.hid kw; clear kw hK
  go_enter Try.func37, Try.ntmps37
  go_upto_region 1 with fail
  refine wp_region_grows 92 ((fun q_ _ _ => q_ = .bool false) :: (fun q_ _ _ => q_ = .bool false) :: (fun q_ _ _ => q_ = undef) :: (fun q_ _ _ => q_ = undef) :: (fun q_ _ _ => q_ = .bool false) :: (fun q_ _ _ => q_ = .bool false) :: (fun q_ _ _ => q_ = .bool false) :: (fun q_ _ _ => q_ = .bool true) :: (fun q_ _ _ => q_ = .bool true) :: (fun q_ _ _ => q_ = .pointer (some ⟨g, 0, none⟩)) :: (fun q_ _ _ => q_ = .pointer (some ⟨g, 0, none⟩)) :: (fun q_ _ _ => q_ = .pointer (some ⟨g, 0, none⟩)) :: (fun q_ _ _ => q_ = .pointer (some ⟨g, 5, none⟩)) :: (fun q_ _ _ => q_ = .agg #[.int .i64 c.lo, .int .i64 c.hi]) :: (fun q_ _ _ => q_ = .agg #[.int .i64 0, .int .i64 0]) :: (fun q_ _ _ => q_ = .bool true) :: (fun q_ _ _ => q_ = .bool true) :: (fun q_ _ _ => q_ = .bool true) :: (fun q_ _ _ => q_ = .bool true) :: (fun q_ _ _ => q_ = .bool false) :: (fun q_ _ _ => q_ = .bool false) :: (fun q_ _ _ => q_ = undef) :: (fun q_ _ _ => q_ = undef) :: (fun q_ _ _ => q_ = undef) :: (fun q_ _ _ => q_ = undef) :: (fun q_ _ _ => q_ = undef) :: (fun q_ _ _ => q_ = undef) :: (fun q_ _ _ => q_ = undef) :: (fun q_ _ _ => q_ = undef) :: (fun q_ _ _ => q_ = undef) :: (fun q_ _ _ => q_ = undef) :: (fun q_ _ _ => q_ = undef) :: (fun q_ _ _ => q_ = undef) :: (fun q_ _ _ => q_ = undef) :: (fun q_ _ _ => q_ = undef) :: (fun q_ _ _ => q_ = .bool false) :: (fun q_ _ _ => q_ = .bool false) :: (fun q_ _ _ => q_ = .bool false) :: (fun q_ _ _ => q_ = .bool true) :: (fun q_ _ _ => q_ = .bool true) :: (fun q_ _ _ => q_ = .pointer (some ⟨g, 0, none⟩)) :: (fun q_ _ _ => q_ = .pointer (some ⟨g, 0, none⟩)) :: (fun q_ _ _ => q_ = .pointer (some ⟨g, 0, none⟩)) :: (fun q_ _ _ => q_ = .pointer (some ⟨g, 7, none⟩)) :: (fun q_ _ _ => q_ = .int .i8 c.mode) :: (fun q_ _ _ => q_ = .bool true) :: (fun q_ _ _ => q_ = .bool true) :: (fun q_ _ _ => q_ = .bool true) :: (fun q_ _ _ => q_ = .bool true) :: (fun q_ _ _ => q_ = .bool true) :: (fun q_ _ _ => q_ = .bool true) :: (fun q_ _ _ => q_ = .bool true) :: (fun q_ _ _ => q_ = .pointer (some ⟨g, 0, none⟩)) :: (fun q_ _ _ => q_ = .pointer (some ⟨g, 0, none⟩)) :: (fun q_ _ _ => q_ = .pointer (some ⟨g, 0, none⟩)) :: (fun q_ _ _ => q_ = .pointer (some ⟨g, 3, none⟩)) :: (fun q_ _ _ => q_ = .int .i64 c.dead) :: (fun q_ _ _ => q_ = .bool true) :: (fun q_ _ _ => q_ = .bool true) :: (fun q_ _ _ => q_ = .bool true) :: (fun q_ _ _ => q_ = undef) :: (fun q_ _ _ => q_ = undef) :: (fun q_ _ _ => q_ = undef) :: (fun q_ _ _ => q_ = undef) :: (fun q_ _ _ => q_ = undef) :: (fun q_ _ _ => q_ = undef) :: (fun q_ _ _ => q_ = undef) :: (fun q_ _ _ => q_ = undef) :: (fun q_ _ _ => q_ = undef) :: (fun q_ _ _ => q_ = undef) :: (fun q_ _ _ => q_ = .bool true) :: (fun q_ _ _ => q_ = .bool true) :: (fun q_ _ _ => q_ = .bool true) :: (fun q_ _ _ => q_ = .pointer (some ⟨g, 0, none⟩)) :: (fun q_ _ _ => q_ = .pointer (some ⟨g, 0, none⟩)) :: (fun q_ _ _ => q_ = .pointer (some ⟨g, 0, none⟩)) :: (fun q_ _ _ => q_ = .pointer (some ⟨g, 4, none⟩)) :: (fun q_ _ _ => q_ = .int .i64 c.was) :: (fun q_ _ _ => q_ = .bool false) :: (fun q_ _ _ => q_ = .bool false) :: (fun q_ _ _ => q_ = .bool true) :: (fun q_ _ _ => q_ = .bool true) :: (fun q_ _ _ => q_ = .pointer (some ⟨g, 0, none⟩)) :: (fun q_ _ _ => q_ = .pointer (some ⟨g, 0, none⟩)) :: (fun q_ _ _ => q_ = .pointer (some ⟨g, 0, none⟩)) :: (fun q_ _ _ => q_ = .pointer (some ⟨g, 4, none⟩)) :: (fun q_ _ _ => q_ = .int .i64 c.was) :: (fun q_ _ _ => q_ = .bool false) :: (fun q_ _ _ => q_ = .bool false) :: (fun q_ _ _ => q_ = .bool false) :: (fun q_ _ _ => q_ = .bool false) :: (fun q_ _ _ => q_ = .bool false) :: []) (fun _ => false) (w.heap.size) w (by kernel_rfl) (by kernel_rfl) (by kernel_rfl) (Below.refl _ _) (Nat.le_refl _) ?zStab (fun _ h => by cases h) ?zOps ?zFin
  case zStab => exact ⟨st_is _, st_is _, st_is _, st_is _, st_is _, st_is _, st_is _, st_is _, st_is _, st_is _, st_is _, st_is _, st_is _, st_is _, st_is _, st_is _, st_is _, st_is _, st_is _, st_is _, st_is _, st_is _, st_is _, st_is _, st_is _, st_is _, st_is _, st_is _, st_is _, st_is _, st_is _, st_is _, st_is _, st_is _, st_is _, st_is _, st_is _, st_is _, st_is _, st_is _, st_is _, st_is _, st_is _, st_is _, st_is _, st_is _, st_is _, st_is _, st_is _, st_is _, st_is _, st_is _, st_is _, st_is _, st_is _, st_is _, st_is _, st_is _, st_is _, st_is _, st_is _, st_is _, st_is _, st_is _, st_is _, st_is _, st_is _, st_is _, st_is _, st_is _, st_is _, st_is _, st_is _, st_is _, st_is _, st_is _, st_is _, st_is _, st_is _, st_is _, st_is _, st_is _, st_is _, st_is _, st_is _, st_is _, st_is _, st_is _, st_is _, st_is _, st_is _, st_is _, trivial⟩
  case zOps =>
    intro Q
    refine ⟨?_, ?_, ?_, ?_, ?_, ?_, ?_, ?_, ?_, ?_, ?_, ?_, ?_, ?_, ?_, ?_, ?_, ?_, ?_, ?_, ?_, ?_, ?_, ?_, ?_, ?_, ?_, ?_, ?_, ?_, ?_, ?_, ?_, ?_, ?_, ?_, ?_, ?_, ?_, ?_, ?_, ?_, ?_, ?_, ?_, ?_, ?_, ?_, ?_, ?_, ?_, ?_, ?_, ?_, ?_, ?_, ?_, ?_, ?_, ?_, ?_, ?_, ?_, ?_, ?_, ?_, ?_, ?_, ?_, ?_, ?_, ?_, ?_, ?_, ?_, ?_, ?_, ?_, ?_, ?_, ?_, ?_, ?_, ?_, ?_, ?_, ?_, ?_, ?_, ?_, ?_, ?_, trivial⟩
    · intro ho a W hW hd hx
      have h1 : a.eval (.tmp 1) = .bool false := (hx 1 (dst_not (by kernel_rfl))).trans rfl
      exact op_v ho (.bool false) rfl (by intro ρ hρ kc kf; rw [← hρ] at h1; clear hρ; simp [execOp, go_sem, h1]) rfl rfl
    · intro ho a W hW hd hx
      have h11 : a.eval (.tmp 11) = .bool false := hd 0 (by kernel_rfl)
      exact op_v ho (.bool false) rfl (by intro ρ hρ kc kf; rw [← hρ] at h11; clear hρ; simp [execOp, go_sem, h11]) rfl rfl
    · intro ho a W hW hd hx
      have h12 : a.eval (.tmp 12) = .bool false := hd 1 (by kernel_rfl)
      exact op_off ho rfl h12 (by decide) rfl
    · intro ho a W hW hd hx
      have h12 : a.eval (.tmp 12) = .bool false := hd 1 (by kernel_rfl)
      exact op_off ho rfl h12 (by decide) rfl
    · intro ho a W hW hd hx
      have h12 : a.eval (.tmp 12) = .bool false := hd 1 (by kernel_rfl)
      have h14 : a.eval (.tmp 14) = undef := hd 3 (by kernel_rfl)
      exact op_v ho (.bool false) rfl (by intro ρ hρ kc kf; rw [← hρ] at h12; clear hρ; simp [execOp, go_sem, kc, h12]) rfl rfl
    · intro ho a W hW hd hx
      have h15 : a.eval (.tmp 15) = .bool false := hd 4 (by kernel_rfl)
      exact op_v ho (.bool false) rfl (by intro ρ hρ kc kf; rw [← hρ] at h15; clear hρ; simp [execOp, go_sem, h15]) rfl rfl
    · intro ho a W hW hd hx
      have h16 : a.eval (.tmp 16) = .bool false := hd 5 (by kernel_rfl)
      have h1 : a.eval (.tmp 1) = .bool false := (hx 1 (dst_not (by kernel_rfl))).trans rfl
      exact op_vg ho (.bool false) rfl h16 (by intro ρ hρ kc kf; rw [← hρ] at h1; clear hρ; simp [execOp, go_sem, h1]) rfl rfl
    · intro ho a W hW hd hx
      have h16 : a.eval (.tmp 16) = .bool false := hd 5 (by kernel_rfl)
      have h17 : a.eval (.tmp 17) = .bool false := hd 6 (by kernel_rfl)
      exact op_vg ho (.bool true) rfl h16 (by intro ρ hρ kc kf; rw [← hρ] at h17; clear hρ; simp [execOp, go_sem, h17]) rfl rfl
    · intro ho a W hW hd hx
      have h16 : a.eval (.tmp 16) = .bool false := hd 5 (by kernel_rfl)
      have h18 : a.eval (.tmp 18) = .bool true := hd 7 (by kernel_rfl)
      exact op_vg ho (.bool true) rfl h16 (by intro ρ hρ kc kf; rw [← hρ] at h18; clear hρ; simp [execOp, go_sem, h18]) rfl rfl
    · intro ho a W hW hd hx
      have h19 : a.eval (.tmp 19) = .bool true := hd 8 (by kernel_rfl)
      have h0 : a.eval (.tmp 0) = .pointer (some ⟨g, 0, none⟩) := (hx 0 (dst_not (by kernel_rfl))).trans rfl
      exact op_vg ho (.pointer (some ⟨g, 0, none⟩)) rfl h19 (by intro ρ hρ kc kf; rw [← hρ] at h0; clear hρ; simp [execOp, go_sem, h0]) rfl rfl
    · intro ho a W hW hd hx
      have h19 : a.eval (.tmp 19) = .bool true := hd 8 (by kernel_rfl)
      have h20 : a.eval (.tmp 20) = .pointer (some ⟨g, 0, none⟩) := hd 9 (by kernel_rfl)
      exact op_vg ho (.pointer (some ⟨g, 0, none⟩)) rfl h19 (by intro ρ hρ kc kf; rw [← hρ] at h20; clear hρ; simp [execOp, go_sem, h20]) rfl rfl
    · intro ho a W hW hd hx
      have h19 : a.eval (.tmp 19) = .bool true := hd 8 (by kernel_rfl)
      have h21 : a.eval (.tmp 21) = .pointer (some ⟨g, 0, none⟩) := hd 10 (by kernel_rfl)
      exact op_vg ho (.pointer (some ⟨g, 0, none⟩)) rfl h19 (by intro ρ hρ kc kf; rw [← hρ] at h21; clear hρ; simp [execOp, go_sem, h21]) rfl rfl
    · intro ho a W hW hd hx
      have h19 : a.eval (.tmp 19) = .bool true := hd 8 (by kernel_rfl)
      have h22 : a.eval (.tmp 22) = .pointer (some ⟨g, 0, none⟩) := hd 11 (by kernel_rfl)
      exact op_vg ho (.pointer (some ⟨g, 5, none⟩)) rfl h19 (by intro ρ hρ kc kf; rw [← hρ] at h22; clear hρ; simp [execOp, go_sem, h22]) rfl rfl
    · intro ho a W hW hd hx
      have h19 : a.eval (.tmp 19) = .bool true := hd 8 (by kernel_rfl)
      have h23 : a.eval (.tmp 23) = .pointer (some ⟨g, 5, none⟩) := hd 12 (by kernel_rfl)
      have hc1 : W.cell? ⟨g, 5, none⟩ = some (.int .i64 c.lo) := by rw [(HB.out.below hW HB.out.lt).cell 5]; rfl
      have hc2 : W.cell? ⟨g, 6, none⟩ = some (.int .i64 c.hi) := by rw [(HB.out.below hW HB.out.lt).cell 6]; rfl
      exact op_vg ho (.agg #[.int .i64 c.lo, .int .i64 c.hi]) rfl h19 (by intro ρ hρ kc kf; rw [← hρ] at h23; clear hρ; simp [execOp, go_sem, h23, hc1, hc2]) rfl rfl
    · intro ho a W hW hd hx
      have h19 : a.eval (.tmp 19) = .bool true := hd 8 (by kernel_rfl)
      exact op_vg ho (.agg #[.int .i64 0, .int .i64 0]) rfl h19 (by intro ρ hρ kc kf; clear hρ; simp [execOp, go_sem]) rfl rfl
    · intro ho a W hW hd hx
      have h19 : a.eval (.tmp 19) = .bool true := hd 8 (by kernel_rfl)
      have h24 : a.eval (.tmp 24) = .agg #[.int .i64 c.lo, .int .i64 c.hi] := hd 13 (by kernel_rfl)
      have h25 : a.eval (.tmp 25) = .agg #[.int .i64 0, .int .i64 0] := hd 14 (by kernel_rfl)
      exact op_vg ho (.bool true) rfl h19 (by intro ρ hρ kc kf; rw [← hρ] at h24 h25; clear hρ; simp [execOp, go_sem, h24, h25, HL.out, HH.out]) rfl rfl
    · intro ho a W hW hd hx
      have h16 : a.eval (.tmp 16) = .bool false := hd 5 (by kernel_rfl)
      have h19 : a.eval (.tmp 19) = .bool true := hd 8 (by kernel_rfl)
      have h26 : a.eval (.tmp 26) = .bool true := hd 15 (by kernel_rfl)
      exact op_vg ho (.bool true) rfl h16 (by intro ρ hρ kc kf; rw [← hρ] at h19 h26; clear hρ; simp [execOp, go_sem, h19, h26]) rfl rfl
    · intro ho a W hW hd hx
      have h16 : a.eval (.tmp 16) = .bool false := hd 5 (by kernel_rfl)
      have h27 : a.eval (.tmp 27) = .bool true := hd 16 (by kernel_rfl)
      exact op_v ho (.bool true) rfl (by intro ρ hρ kc kf; rw [← hρ] at h16 h27; clear hρ; simp [execOp, go_sem, h16, h27]) rfl rfl
    · intro ho a W hW hd hx
      have h28 : a.eval (.tmp 28) = .bool true := hd 17 (by kernel_rfl)
      exact op_v ho (.bool true) rfl (by intro ρ hρ kc kf; rw [← hρ] at h28; clear hρ; simp [execOp, go_sem, h28]) rfl rfl
    · intro ho a W hW hd hx
      have h29 : a.eval (.tmp 29) = .bool true := hd 18 (by kernel_rfl)
      have h2 : a.eval (.tmp 2) = .bool false := (hx 2 (dst_not (by kernel_rfl))).trans rfl
      exact op_vg ho (.bool false) rfl h29 (by intro ρ hρ kc kf; rw [← hρ] at h2; clear hρ; simp [execOp, go_sem, h2]) rfl rfl
    · intro ho a W hW hd hx
      have h29 : a.eval (.tmp 29) = .bool true := hd 18 (by kernel_rfl)
      have h30 : a.eval (.tmp 30) = .bool false := hd 19 (by kernel_rfl)
      exact op_vg ho (.bool false) rfl h29 (by intro ρ hρ kc kf; rw [← hρ] at h30; clear hρ; simp [execOp, go_sem, h30]) rfl rfl
    · intro ho a W hW hd hx
      have h31 : a.eval (.tmp 31) = .bool false := hd 20 (by kernel_rfl)
      exact op_off ho rfl h31 (by decide) rfl
    · intro ho a W hW hd hx
      have h31 : a.eval (.tmp 31) = .bool false := hd 20 (by kernel_rfl)
      exact op_off ho rfl h31 (by decide) rfl
    · intro ho a W hW hd hx
      have h31 : a.eval (.tmp 31) = .bool false := hd 20 (by kernel_rfl)
      exact op_off ho rfl h31 (by decide) rfl
    · intro ho a W hW hd hx
      have h31 : a.eval (.tmp 31) = .bool false := hd 20 (by kernel_rfl)
      exact op_off ho rfl h31 (by decide) rfl
    · intro ho a W hW hd hx
      have h31 : a.eval (.tmp 31) = .bool false := hd 20 (by kernel_rfl)
      exact op_off ho rfl h31 (by decide) rfl
    · intro ho a W hW hd hx
      have h31 : a.eval (.tmp 31) = .bool false := hd 20 (by kernel_rfl)
      exact op_off ho rfl h31 (by decide) rfl
    · intro ho a W hW hd hx
      have h31 : a.eval (.tmp 31) = .bool false := hd 20 (by kernel_rfl)
      exact op_off ho rfl h31 (by decide) rfl
    · intro ho a W hW hd hx
      have h38 : a.eval (.tmp 38) = undef := hd 27 (by kernel_rfl)
      exact op_un ho rfl h38 rfl
    · intro ho a W hW hd hx
      have h38 : a.eval (.tmp 38) = undef := hd 27 (by kernel_rfl)
      exact op_un ho rfl h38 rfl
    · intro ho a W hW hd hx
      have h38 : a.eval (.tmp 38) = undef := hd 27 (by kernel_rfl)
      exact op_un ho rfl h38 rfl
    · intro ho a W hW hd hx
      have h38 : a.eval (.tmp 38) = undef := hd 27 (by kernel_rfl)
      exact op_un ho rfl h38 rfl
    · intro ho a W hW hd hx
      have h38 : a.eval (.tmp 38) = undef := hd 27 (by kernel_rfl)
      exact op_un ho rfl h38 rfl
    · intro ho a W hW hd hx
      have h38 : a.eval (.tmp 38) = undef := hd 27 (by kernel_rfl)
      exact op_un ho rfl h38 rfl
    · intro ho a W hW hd hx
      have h31 : a.eval (.tmp 31) = .bool false := hd 20 (by kernel_rfl)
      exact op_off ho rfl h31 (by decide) rfl
    · intro ho a W hW hd hx
      have h29 : a.eval (.tmp 29) = .bool true := hd 18 (by kernel_rfl)
      have h31 : a.eval (.tmp 31) = .bool false := hd 20 (by kernel_rfl)
      have h45 : a.eval (.tmp 45) = undef := hd 34 (by kernel_rfl)
      exact op_vg ho (.bool false) rfl h29 (by intro ρ hρ kc kf; rw [← hρ] at h31; clear hρ; simp [execOp, go_sem, kc, h31]) rfl rfl
    · intro ho a W hW hd hx
      have h29 : a.eval (.tmp 29) = .bool true := hd 18 (by kernel_rfl)
      have h46 : a.eval (.tmp 46) = .bool false := hd 35 (by kernel_rfl)
      exact op_vg ho (.bool false) rfl h29 (by intro ρ hρ kc kf; rw [← hρ] at h46; clear hρ; simp [execOp, go_sem, h46]) rfl rfl
    · intro ho a W hW hd hx
      have h47 : a.eval (.tmp 47) = .bool false := hd 36 (by kernel_rfl)
      have h2 : a.eval (.tmp 2) = .bool false := (hx 2 (dst_not (by kernel_rfl))).trans rfl
      exact op_vg ho (.bool false) rfl h47 (by intro ρ hρ kc kf; rw [← hρ] at h2; clear hρ; simp [execOp, go_sem, h2]) rfl rfl
    · intro ho a W hW hd hx
      have h47 : a.eval (.tmp 47) = .bool false := hd 36 (by kernel_rfl)
      have h48 : a.eval (.tmp 48) = .bool false := hd 37 (by kernel_rfl)
      exact op_vg ho (.bool true) rfl h47 (by intro ρ hρ kc kf; rw [← hρ] at h48; clear hρ; simp [execOp, go_sem, h48]) rfl rfl
    · intro ho a W hW hd hx
      have h47 : a.eval (.tmp 47) = .bool false := hd 36 (by kernel_rfl)
      have h49 : a.eval (.tmp 49) = .bool true := hd 38 (by kernel_rfl)
      exact op_vg ho (.bool true) rfl h47 (by intro ρ hρ kc kf; rw [← hρ] at h49; clear hρ; simp [execOp, go_sem, h49]) rfl rfl
    · intro ho a W hW hd hx
      have h50 : a.eval (.tmp 50) = .bool true := hd 39 (by kernel_rfl)
      have h0 : a.eval (.tmp 0) = .pointer (some ⟨g, 0, none⟩) := (hx 0 (dst_not (by kernel_rfl))).trans rfl
      exact op_vg ho (.pointer (some ⟨g, 0, none⟩)) rfl h50 (by intro ρ hρ kc kf; rw [← hρ] at h0; clear hρ; simp [execOp, go_sem, h0]) rfl rfl
    · intro ho a W hW hd hx
      have h50 : a.eval (.tmp 50) = .bool true := hd 39 (by kernel_rfl)
      have h51 : a.eval (.tmp 51) = .pointer (some ⟨g, 0, none⟩) := hd 40 (by kernel_rfl)
      exact op_vg ho (.pointer (some ⟨g, 0, none⟩)) rfl h50 (by intro ρ hρ kc kf; rw [← hρ] at h51; clear hρ; simp [execOp, go_sem, h51]) rfl rfl
    · intro ho a W hW hd hx
      have h50 : a.eval (.tmp 50) = .bool true := hd 39 (by kernel_rfl)
      have h52 : a.eval (.tmp 52) = .pointer (some ⟨g, 0, none⟩) := hd 41 (by kernel_rfl)
      exact op_vg ho (.pointer (some ⟨g, 0, none⟩)) rfl h50 (by intro ρ hρ kc kf; rw [← hρ] at h52; clear hρ; simp [execOp, go_sem, h52]) rfl rfl
    · intro ho a W hW hd hx
      have h50 : a.eval (.tmp 50) = .bool true := hd 39 (by kernel_rfl)
      have h53 : a.eval (.tmp 53) = .pointer (some ⟨g, 0, none⟩) := hd 42 (by kernel_rfl)
      exact op_vg ho (.pointer (some ⟨g, 7, none⟩)) rfl h50 (by intro ρ hρ kc kf; rw [← hρ] at h53; clear hρ; simp [execOp, go_sem, h53]) rfl rfl
    · intro ho a W hW hd hx
      have h50 : a.eval (.tmp 50) = .bool true := hd 39 (by kernel_rfl)
      have h54 : a.eval (.tmp 54) = .pointer (some ⟨g, 7, none⟩) := hd 43 (by kernel_rfl)
      have hcell : W.cell? ⟨g, 7, none⟩ = some (.int .i8 c.mode) := by rw [(HB.out.below hW HB.out.lt).cell 7]; rfl
      exact op_vg ho (.int .i8 c.mode) rfl h50 (by intro ρ hρ kc kf; rw [← hρ] at h54; clear hρ; simp [execOp, go_sem, h54, hcell]) rfl rfl
    · intro ho a W hW hd hx
      have h50 : a.eval (.tmp 50) = .bool true := hd 39 (by kernel_rfl)
      have h55 : a.eval (.tmp 55) = .int .i8 c.mode := hd 44 (by kernel_rfl)
      exact op_vg ho (.bool true) rfl h50 (by intro ρ hρ kc kf; rw [← hρ] at h55; clear hρ; simp [execOp, go_sem, kc, h55, HM.out]) rfl rfl
    · intro ho a W hW hd hx
      have h47 : a.eval (.tmp 47) = .bool false := hd 36 (by kernel_rfl)
      have h50 : a.eval (.tmp 50) = .bool true := hd 39 (by kernel_rfl)
      have h56 : a.eval (.tmp 56) = .bool true := hd 45 (by kernel_rfl)
      exact op_vg ho (.bool true) rfl h47 (by intro ρ hρ kc kf; rw [← hρ] at h50 h56; clear hρ; simp [execOp, go_sem, h50, h56]) rfl rfl
    · intro ho a W hW hd hx
      have h29 : a.eval (.tmp 29) = .bool true := hd 18 (by kernel_rfl)
      have h47 : a.eval (.tmp 47) = .bool false := hd 36 (by kernel_rfl)
      have h57 : a.eval (.tmp 57) = .bool true := hd 46 (by kernel_rfl)
      exact op_vg ho (.bool true) rfl h29 (by intro ρ hρ kc kf; rw [← hρ] at h47 h57; clear hρ; simp [execOp, go_sem, h47, h57]) rfl rfl
    · intro ho a W hW hd hx
      have h29 : a.eval (.tmp 29) = .bool true := hd 18 (by kernel_rfl)
      have h58 : a.eval (.tmp 58) = .bool true := hd 47 (by kernel_rfl)
      exact op_v ho (.bool true) rfl (by intro ρ hρ kc kf; rw [← hρ] at h29 h58; clear hρ; simp [execOp, go_sem, h29, h58]) rfl rfl
    · intro ho a W hW hd hx
      have h59 : a.eval (.tmp 59) = .bool true := hd 48 (by kernel_rfl)
      exact op_v ho (.bool true) rfl (by intro ρ hρ kc kf; rw [← hρ] at h59; clear hρ; simp [execOp, go_sem, h59]) rfl rfl
    · intro ho a W hW hd hx
      have h60 : a.eval (.tmp 60) = .bool true := hd 49 (by kernel_rfl)
      have h3 : a.eval (.tmp 3) = .bool true := (hx 3 (dst_not (by kernel_rfl))).trans rfl
      exact op_vg ho (.bool true) rfl h60 (by intro ρ hρ kc kf; rw [← hρ] at h3; clear hρ; simp [execOp, go_sem, h3]) rfl rfl
    · intro ho a W hW hd hx
      have h60 : a.eval (.tmp 60) = .bool true := hd 49 (by kernel_rfl)
      have h61 : a.eval (.tmp 61) = .bool true := hd 50 (by kernel_rfl)
      exact op_vg ho (.bool true) rfl h60 (by intro ρ hρ kc kf; rw [← hρ] at h61; clear hρ; simp [execOp, go_sem, h61]) rfl rfl
    · intro ho a W hW hd hx
      have h62 : a.eval (.tmp 62) = .bool true := hd 51 (by kernel_rfl)
      have h0 : a.eval (.tmp 0) = .pointer (some ⟨g, 0, none⟩) := (hx 0 (dst_not (by kernel_rfl))).trans rfl
      exact op_vg ho (.pointer (some ⟨g, 0, none⟩)) rfl h62 (by intro ρ hρ kc kf; rw [← hρ] at h0; clear hρ; simp [execOp, go_sem, h0]) rfl rfl
    · intro ho a W hW hd hx
      have h62 : a.eval (.tmp 62) = .bool true := hd 51 (by kernel_rfl)
      have h63 : a.eval (.tmp 63) = .pointer (some ⟨g, 0, none⟩) := hd 52 (by kernel_rfl)
      exact op_vg ho (.pointer (some ⟨g, 0, none⟩)) rfl h62 (by intro ρ hρ kc kf; rw [← hρ] at h63; clear hρ; simp [execOp, go_sem, h63]) rfl rfl
    · intro ho a W hW hd hx
      have h62 : a.eval (.tmp 62) = .bool true := hd 51 (by kernel_rfl)
      have h64 : a.eval (.tmp 64) = .pointer (some ⟨g, 0, none⟩) := hd 53 (by kernel_rfl)
      exact op_vg ho (.pointer (some ⟨g, 0, none⟩)) rfl h62 (by intro ρ hρ kc kf; rw [← hρ] at h64; clear hρ; simp [execOp, go_sem, h64]) rfl rfl
    · intro ho a W hW hd hx
      have h62 : a.eval (.tmp 62) = .bool true := hd 51 (by kernel_rfl)
      have h65 : a.eval (.tmp 65) = .pointer (some ⟨g, 0, none⟩) := hd 54 (by kernel_rfl)
      exact op_vg ho (.pointer (some ⟨g, 3, none⟩)) rfl h62 (by intro ρ hρ kc kf; rw [← hρ] at h65; clear hρ; simp [execOp, go_sem, h65]) rfl rfl
    · intro ho a W hW hd hx
      have h62 : a.eval (.tmp 62) = .bool true := hd 51 (by kernel_rfl)
      have h66 : a.eval (.tmp 66) = .pointer (some ⟨g, 3, none⟩) := hd 55 (by kernel_rfl)
      have hcell : W.cell? ⟨g, 3, none⟩ = some (.int .i64 c.dead) := by rw [(HB.out.below hW HB.out.lt).cell 3]; rfl
      exact op_vg ho (.int .i64 c.dead) rfl h62 (by intro ρ hρ kc kf; rw [← hρ] at h66; clear hρ; simp [execOp, go_sem, h66, hcell]) rfl rfl
    · intro ho a W hW hd hx
      have h62 : a.eval (.tmp 62) = .bool true := hd 51 (by kernel_rfl)
      have h67 : a.eval (.tmp 67) = .int .i64 c.dead := hd 56 (by kernel_rfl)
      refine op_call ho (want_yes rfl (show valAt _ a 51 = _ from h62)) (by intro ρ hρ kc kf; rw [← hρ] at h67; clear hρ; simp [execOp, go_sem, kf, h67]) (KD.out W) ?_
      rintro e W2 ⟨rfl, k2⟩
      exact ⟨_, rfl, _, rfl, (fun h => by cases h), rfl, k2, (fun h => absurd h (by decide))⟩
    · intro ho a W hW hd hx
      have h60 : a.eval (.tmp 60) = .bool true := hd 49 (by kernel_rfl)
      have h62 : a.eval (.tmp 62) = .bool true := hd 51 (by kernel_rfl)
      have h68 : a.eval (.tmp 68) = .bool true := hd 57 (by kernel_rfl)
      exact op_vg ho (.bool true) rfl h60 (by intro ρ hρ kc kf; rw [← hρ] at h62 h68; clear hρ; simp [execOp, go_sem, h62, h68]) rfl rfl
    · intro ho a W hW hd hx
      have h60 : a.eval (.tmp 60) = .bool true := hd 49 (by kernel_rfl)
      have h69 : a.eval (.tmp 69) = .bool true := hd 58 (by kernel_rfl)
      exact op_vg ho (.bool true) rfl h60 (by intro ρ hρ kc kf; rw [← hρ] at h69; clear hρ; simp [execOp, go_sem, h69]) rfl rfl
    · intro ho a W hW hd hx
      have h70 : a.eval (.tmp 70) = .bool true := hd 59 (by kernel_rfl)
      exact op_off ho rfl h70 (by decide) rfl
    · intro ho a W hW hd hx
      have h70 : a.eval (.tmp 70) = .bool true := hd 59 (by kernel_rfl)
      exact op_off ho rfl h70 (by decide) rfl
    · intro ho a W hW hd hx
      have h70 : a.eval (.tmp 70) = .bool true := hd 59 (by kernel_rfl)
      exact op_off ho rfl h70 (by decide) rfl
    · intro ho a W hW hd hx
      have h73 : a.eval (.tmp 73) = undef := hd 62 (by kernel_rfl)
      exact op_un ho rfl h73 rfl
    · intro ho a W hW hd hx
      have h73 : a.eval (.tmp 73) = undef := hd 62 (by kernel_rfl)
      exact op_un ho rfl h73 rfl
    · intro ho a W hW hd hx
      have h73 : a.eval (.tmp 73) = undef := hd 62 (by kernel_rfl)
      exact op_un ho rfl h73 rfl
    · intro ho a W hW hd hx
      have h73 : a.eval (.tmp 73) = undef := hd 62 (by kernel_rfl)
      exact op_un ho rfl h73 rfl
    · intro ho a W hW hd hx
      have h73 : a.eval (.tmp 73) = undef := hd 62 (by kernel_rfl)
      exact op_un ho rfl h73 rfl
    · intro ho a W hW hd hx
      have h73 : a.eval (.tmp 73) = undef := hd 62 (by kernel_rfl)
      exact op_un ho rfl h73 rfl
    · intro ho a W hW hd hx
      have h70 : a.eval (.tmp 70) = .bool true := hd 59 (by kernel_rfl)
      exact op_off ho rfl h70 (by decide) rfl
    · intro ho a W hW hd hx
      have h60 : a.eval (.tmp 60) = .bool true := hd 49 (by kernel_rfl)
      have h70 : a.eval (.tmp 70) = .bool true := hd 59 (by kernel_rfl)
      have h80 : a.eval (.tmp 80) = undef := hd 69 (by kernel_rfl)
      exact op_vg ho (.bool true) rfl h60 (by intro ρ hρ kc kf; rw [← hρ] at h70; clear hρ; simp [execOp, go_sem, kc, h70]) rfl rfl
    · intro ho a W hW hd hx
      have h60 : a.eval (.tmp 60) = .bool true := hd 49 (by kernel_rfl)
      have h81 : a.eval (.tmp 81) = .bool true := hd 70 (by kernel_rfl)
      exact op_v ho (.bool true) rfl (by intro ρ hρ kc kf; rw [← hρ] at h60 h81; clear hρ; simp [execOp, go_sem, h60, h81]) rfl rfl
    · intro ho a W hW hd hx
      have h82 : a.eval (.tmp 82) = .bool true := hd 71 (by kernel_rfl)
      exact op_v ho (.bool true) rfl (by intro ρ hρ kc kf; rw [← hρ] at h82; clear hρ; simp [execOp, go_sem, h82]) rfl rfl
    · intro ho a W hW hd hx
      have h83 : a.eval (.tmp 83) = .bool true := hd 72 (by kernel_rfl)
      have h0 : a.eval (.tmp 0) = .pointer (some ⟨g, 0, none⟩) := (hx 0 (dst_not (by kernel_rfl))).trans rfl
      exact op_vg ho (.pointer (some ⟨g, 0, none⟩)) rfl h83 (by intro ρ hρ kc kf; rw [← hρ] at h0; clear hρ; simp [execOp, go_sem, h0]) rfl rfl
    · intro ho a W hW hd hx
      have h83 : a.eval (.tmp 83) = .bool true := hd 72 (by kernel_rfl)
      have h84 : a.eval (.tmp 84) = .pointer (some ⟨g, 0, none⟩) := hd 73 (by kernel_rfl)
      exact op_vg ho (.pointer (some ⟨g, 0, none⟩)) rfl h83 (by intro ρ hρ kc kf; rw [← hρ] at h84; clear hρ; simp [execOp, go_sem, h84]) rfl rfl
    · intro ho a W hW hd hx
      have h83 : a.eval (.tmp 83) = .bool true := hd 72 (by kernel_rfl)
      have h85 : a.eval (.tmp 85) = .pointer (some ⟨g, 0, none⟩) := hd 74 (by kernel_rfl)
      exact op_vg ho (.pointer (some ⟨g, 0, none⟩)) rfl h83 (by intro ρ hρ kc kf; rw [← hρ] at h85; clear hρ; simp [execOp, go_sem, h85]) rfl rfl
    · intro ho a W hW hd hx
      have h83 : a.eval (.tmp 83) = .bool true := hd 72 (by kernel_rfl)
      have h86 : a.eval (.tmp 86) = .pointer (some ⟨g, 0, none⟩) := hd 75 (by kernel_rfl)
      exact op_vg ho (.pointer (some ⟨g, 4, none⟩)) rfl h83 (by intro ρ hρ kc kf; rw [← hρ] at h86; clear hρ; simp [execOp, go_sem, h86]) rfl rfl
    · intro ho a W hW hd hx
      have h83 : a.eval (.tmp 83) = .bool true := hd 72 (by kernel_rfl)
      have h87 : a.eval (.tmp 87) = .pointer (some ⟨g, 4, none⟩) := hd 76 (by kernel_rfl)
      have hcell : W.cell? ⟨g, 4, none⟩ = some (.int .i64 c.was) := by rw [(HB.out.below hW HB.out.lt).cell 4]; rfl
      exact op_vg ho (.int .i64 c.was) rfl h83 (by intro ρ hρ kc kf; rw [← hρ] at h87; clear hρ; simp [execOp, go_sem, h87, hcell]) rfl rfl
    · intro ho a W hW hd hx
      have h83 : a.eval (.tmp 83) = .bool true := hd 72 (by kernel_rfl)
      have h88 : a.eval (.tmp 88) = .int .i64 c.was := hd 77 (by kernel_rfl)
      exact op_vg ho (.bool false) rfl h83 (by intro ρ hρ kc kf; rw [← hρ] at h88; clear hρ; simp [execOp, go_sem, kc, h88, HW.out]) rfl rfl
    · intro ho a W hW hd hx
      have h83 : a.eval (.tmp 83) = .bool true := hd 72 (by kernel_rfl)
      have h89 : a.eval (.tmp 89) = .bool false := hd 78 (by kernel_rfl)
      exact op_vg ho (.bool false) rfl h83 (by intro ρ hρ kc kf; rw [← hρ] at h89; clear hρ; simp [execOp, go_sem, h89]) rfl rfl
    · intro ho a W hW hd hx
      have h90 : a.eval (.tmp 90) = .bool false := hd 79 (by kernel_rfl)
      have h4 : a.eval (.tmp 4) = .bool true := (hx 4 (dst_not (by kernel_rfl))).trans rfl
      exact op_vg ho (.bool true) rfl h90 (by intro ρ hρ kc kf; rw [← hρ] at h4; clear hρ; simp [execOp, go_sem, h4]) rfl rfl
    · intro ho a W hW hd hx
      have h90 : a.eval (.tmp 90) = .bool false := hd 79 (by kernel_rfl)
      have h91 : a.eval (.tmp 91) = .bool true := hd 80 (by kernel_rfl)
      exact op_vg ho (.bool true) rfl h90 (by intro ρ hρ kc kf; rw [← hρ] at h91; clear hρ; simp [execOp, go_sem, h91]) rfl rfl
    · intro ho a W hW hd hx
      have h92 : a.eval (.tmp 92) = .bool true := hd 81 (by kernel_rfl)
      have h0 : a.eval (.tmp 0) = .pointer (some ⟨g, 0, none⟩) := (hx 0 (dst_not (by kernel_rfl))).trans rfl
      exact op_vg ho (.pointer (some ⟨g, 0, none⟩)) rfl h92 (by intro ρ hρ kc kf; rw [← hρ] at h0; clear hρ; simp [execOp, go_sem, h0]) rfl rfl
    · intro ho a W hW hd hx
      have h92 : a.eval (.tmp 92) = .bool true := hd 81 (by kernel_rfl)
      have h93 : a.eval (.tmp 93) = .pointer (some ⟨g, 0, none⟩) := hd 82 (by kernel_rfl)
      exact op_vg ho (.pointer (some ⟨g, 0, none⟩)) rfl h92 (by intro ρ hρ kc kf; rw [← hρ] at h93; clear hρ; simp [execOp, go_sem, h93]) rfl rfl
    · intro ho a W hW hd hx
      have h92 : a.eval (.tmp 92) = .bool true := hd 81 (by kernel_rfl)
      have h94 : a.eval (.tmp 94) = .pointer (some ⟨g, 0, none⟩) := hd 83 (by kernel_rfl)
      exact op_vg ho (.pointer (some ⟨g, 0, none⟩)) rfl h92 (by intro ρ hρ kc kf; rw [← hρ] at h94; clear hρ; simp [execOp, go_sem, h94]) rfl rfl
    · intro ho a W hW hd hx
      have h92 : a.eval (.tmp 92) = .bool true := hd 81 (by kernel_rfl)
      have h95 : a.eval (.tmp 95) = .pointer (some ⟨g, 0, none⟩) := hd 84 (by kernel_rfl)
      exact op_vg ho (.pointer (some ⟨g, 4, none⟩)) rfl h92 (by intro ρ hρ kc kf; rw [← hρ] at h95; clear hρ; simp [execOp, go_sem, h95]) rfl rfl
    · intro ho a W hW hd hx
      have h92 : a.eval (.tmp 92) = .bool true := hd 81 (by kernel_rfl)
      have h96 : a.eval (.tmp 96) = .pointer (some ⟨g, 4, none⟩) := hd 85 (by kernel_rfl)
      have hcell : W.cell? ⟨g, 4, none⟩ = some (.int .i64 c.was) := by rw [(HB.out.below hW HB.out.lt).cell 4]; rfl
      exact op_vg ho (.int .i64 c.was) rfl h92 (by intro ρ hρ kc kf; rw [← hρ] at h96; clear hρ; simp [execOp, go_sem, h96, hcell]) rfl rfl
    · intro ho a W hW hd hx
      have h92 : a.eval (.tmp 92) = .bool true := hd 81 (by kernel_rfl)
      have h97 : a.eval (.tmp 97) = .int .i64 c.was := hd 86 (by kernel_rfl)
      refine op_call ho (want_yes rfl (show valAt _ a 81 = _ from h92)) (by intro ρ hρ kc kf; rw [← hρ] at h97; clear hρ; simp [execOp, go_sem, kf, h97]) (KW.out W) ?_
      rintro e W2 ⟨rfl, k2⟩
      exact ⟨_, rfl, _, rfl, (fun h => by cases h), rfl, k2, (fun h => absurd h (by decide))⟩
    · intro ho a W hW hd hx
      have h90 : a.eval (.tmp 90) = .bool false := hd 79 (by kernel_rfl)
      have h92 : a.eval (.tmp 92) = .bool true := hd 81 (by kernel_rfl)
      have h98 : a.eval (.tmp 98) = .bool false := hd 87 (by kernel_rfl)
      exact op_vg ho (.bool false) rfl h90 (by intro ρ hρ kc kf; rw [← hρ] at h92 h98; clear hρ; simp [execOp, go_sem, h92, h98]) rfl rfl
    · intro ho a W hW hd hx
      have h83 : a.eval (.tmp 83) = .bool true := hd 72 (by kernel_rfl)
      have h90 : a.eval (.tmp 90) = .bool false := hd 79 (by kernel_rfl)
      have h99 : a.eval (.tmp 99) = .bool false := hd 88 (by kernel_rfl)
      exact op_vg ho (.bool false) rfl h83 (by intro ρ hρ kc kf; rw [← hρ] at h90 h99; clear hρ; simp [execOp, go_sem, h90, h99]) rfl rfl
    · intro ho a W hW hd hx
      have h83 : a.eval (.tmp 83) = .bool true := hd 72 (by kernel_rfl)
      have h100 : a.eval (.tmp 100) = .bool false := hd 89 (by kernel_rfl)
      exact op_v ho (.bool false) rfl (by intro ρ hρ kc kf; rw [← hρ] at h83 h100; clear hρ; simp [execOp, go_sem, h83, h100]) rfl rfl
    · intro ho a W hW hd hx
      have h101 : a.eval (.tmp 101) = .bool false := hd 90 (by kernel_rfl)
      exact op_v ho (.bool false) rfl (by intro ρ hρ kc kf; rw [← hρ] at h101; clear hρ; simp [execOp, go_sem, h101]) rfl rfl
  intro v W hW hv _
  have hlast : v 91 = .bool false := hv 91 (by decide)
  simp only [List.append_eq, List.cons_append, List.nil_append, List.take_succ_cons, List.take_zero, List.drop_succ_cons, List.drop_zero, fillL, wpTail, Act.put, List.setIfInBounds_toArray, List.set_cons_zero, List.set_cons_succ, Nat.reduceAdd]
  rw [hlast]
  go_wp2
  go_ret
  exact ⟨rfl, hW⟩

set_option maxRecDepth 100000 in
set_option maxHeartbeats 4000000 in
theorem on_fftt_ttttft (g : Nat) (T : TypeId) (c : Cm) (b : Value) (w : World) (hb : Blk w g T (cO c b)) (hL : c.lo = 0) (hH : c.hi = 0) (hM : c.mode = 0) (hD : keyB c.dead = true) (hW : ¬ c.was = 0) (hK : keyB c.was = true) :
    Calls Try.prog 37 #[.pointer (some ⟨g, 0, none⟩), .bool false, .bool false, .bool true, .bool true] w fun e w' => e = .returned (.bool (onlyB c false false true true)) ∧ Below w.heap.size w w' := by
  have e : onlyB c false false true true = true := by simp [onlyB, hL, hH, hM, hD, hW, hK]
  rw [e]; clear e
  have HB := Lib.hid hb; clear hb
  have HL := Lib.hid hL; clear hL
  have HH := Lib.hid hH; clear hH
  have HM := Lib.hid hM; clear hM
  have kd := fun W => key_below c.dead W
  rw [hD] at kd
  have KD := Lib.hid kd; clear kd hD
  have HW := Lib.hid hW; clear hW
  have kw := fun W => key_below c.was W
  rw [hK] at kw
  have KW := Lib.hid kw; clear kw hK
  go_enter Try.func37, Try.ntmps37
  go_upto_region 1 with fail
  refine wp_region_grows 92 ((fun q_ _ _ => q_ = .bool false) :: (fun q_ _ _ => q_ = .bool false) :: (fun q_ _ _ => q_ = undef) :: (fun q_ _ _ => q_ = undef) :: (fun q_ _ _ => q_ = .bool false) :: (fun q_ _ _ => q_ = .bool false) :: (fun q_ _ _ => q_ = .bool false) :: (fun q_ _ _ => q_ = .bool true) :: (fun q_ _ _ => q_ = .bool true) :: (fun q_ _ _ => q_ = .pointer (some ⟨g, 0, none⟩)) :: (fun q_ _ _ => q_ = .pointer (some ⟨g, 0, none⟩)) :: (fun q_ _ _ => q_ = .pointer (some ⟨g, 0, none⟩)) :: (fun q_ _ _ => q_ = .pointer (some ⟨g, 5, none⟩)) :: (fun q_ _ _ => q_ = .agg #[.int .i64 c.lo, .int .i64 c.hi]) :: (fun q_ _ _ => q_ = .agg #[.int .i64 0, .int .i64 0]) :: (fun q_ _ _ => q_ = .bool true) :: (fun q_ _ _ => q_ = .bool true) :: (fun q_ _ _ => q_ = .bool true) :: (fun q_ _ _ => q_ = .bool true) :: (fun q_ _ _ => q_ = .bool false) :: (fun q_ _ _ => q_ = .bool false) :: (fun q_ _ _ => q_ = undef) :: (fun q_ _ _ => q_ = undef) :: (fun q_ _ _ => q_ = undef) :: (fun q_ _ _ => q_ = undef) :: (fun q_ _ _ => q_ = undef) :: (fun q_ _ _ => q_ = undef) :: (fun q_ _ _ => q_ = undef) :: (fun q_ _ _ => q_ = undef) :: (fun q_ _ _ => q_ = undef) :: (fun q_ _ _ => q_ = undef) :: (fun q_ _ _ => q_ = undef) :: (fun q_ _ _ => q_ = undef) :: (fun q_ _ _ => q_ = undef) :: (fun q_ _ _ => q_ = undef) :: (fun q_ _ _ => q_ = .bool false) :: (fun q_ _ _ => q_ = .bool false) :: (fun q_ _ _ => q_ = .bool false) :: (fun q_ _ _ => q_ = .bool true) :: (fun q_ _ _ => q_ = .bool true) :: (fun q_ _ _ => q_ = .pointer (some ⟨g, 0, none⟩)) :: (fun q_ _ _ => q_ = .pointer (some ⟨g, 0, none⟩)) :: (fun q_ _ _ => q_ = .pointer (some ⟨g, 0, none⟩)) :: (fun q_ _ _ => q_ = .pointer (some ⟨g, 7, none⟩)) :: (fun q_ _ _ => q_ = .int .i8 c.mode) :: (fun q_ _ _ => q_ = .bool true) :: (fun q_ _ _ => q_ = .bool true) :: (fun q_ _ _ => q_ = .bool true) :: (fun q_ _ _ => q_ = .bool true) :: (fun q_ _ _ => q_ = .bool true) :: (fun q_ _ _ => q_ = .bool true) :: (fun q_ _ _ => q_ = .bool true) :: (fun q_ _ _ => q_ = .pointer (some ⟨g, 0, none⟩)) :: (fun q_ _ _ => q_ = .pointer (some ⟨g, 0, none⟩)) :: (fun q_ _ _ => q_ = .pointer (some ⟨g, 0, none⟩)) :: (fun q_ _ _ => q_ = .pointer (some ⟨g, 3, none⟩)) :: (fun q_ _ _ => q_ = .int .i64 c.dead) :: (fun q_ _ _ => q_ = .bool true) :: (fun q_ _ _ => q_ = .bool true) :: (fun q_ _ _ => q_ = .bool true) :: (fun q_ _ _ => q_ = undef) :: (fun q_ _ _ => q_ = undef) :: (fun q_ _ _ => q_ = undef) :: (fun q_ _ _ => q_ = undef) :: (fun q_ _ _ => q_ = undef) :: (fun q_ _ _ => q_ = undef) :: (fun q_ _ _ => q_ = undef) :: (fun q_ _ _ => q_ = undef) :: (fun q_ _ _ => q_ = undef) :: (fun q_ _ _ => q_ = undef) :: (fun q_ _ _ => q_ = .bool true) :: (fun q_ _ _ => q_ = .bool true) :: (fun q_ _ _ => q_ = .bool true) :: (fun q_ _ _ => q_ = .pointer (some ⟨g, 0, none⟩)) :: (fun q_ _ _ => q_ = .pointer (some ⟨g, 0, none⟩)) :: (fun q_ _ _ => q_ = .pointer (some ⟨g, 0, none⟩)) :: (fun q_ _ _ => q_ = .pointer (some ⟨g, 4, none⟩)) :: (fun q_ _ _ => q_ = .int .i64 c.was) :: (fun q_ _ _ => q_ = .bool false) :: (fun q_ _ _ => q_ = .bool false) :: (fun q_ _ _ => q_ = .bool true) :: (fun q_ _ _ => q_ = .bool true) :: (fun q_ _ _ => q_ = .pointer (some ⟨g, 0, none⟩)) :: (fun q_ _ _ => q_ = .pointer (some ⟨g, 0, none⟩)) :: (fun q_ _ _ => q_ = .pointer (some ⟨g, 0, none⟩)) :: (fun q_ _ _ => q_ = .pointer (some ⟨g, 4, none⟩)) :: (fun q_ _ _ => q_ = .int .i64 c.was) :: (fun q_ _ _ => q_ = .bool true) :: (fun q_ _ _ => q_ = .bool true) :: (fun q_ _ _ => q_ = .bool true) :: (fun q_ _ _ => q_ = .bool true) :: (fun q_ _ _ => q_ = .bool true) :: []) (fun _ => false) (w.heap.size) w (by kernel_rfl) (by kernel_rfl) (by kernel_rfl) (Below.refl _ _) (Nat.le_refl _) ?zStab (fun _ h => by cases h) ?zOps ?zFin
  case zStab => exact ⟨st_is _, st_is _, st_is _, st_is _, st_is _, st_is _, st_is _, st_is _, st_is _, st_is _, st_is _, st_is _, st_is _, st_is _, st_is _, st_is _, st_is _, st_is _, st_is _, st_is _, st_is _, st_is _, st_is _, st_is _, st_is _, st_is _, st_is _, st_is _, st_is _, st_is _, st_is _, st_is _, st_is _, st_is _, st_is _, st_is _, st_is _, st_is _, st_is _, st_is _, st_is _, st_is _, st_is _, st_is _, st_is _, st_is _, st_is _, st_is _, st_is _, st_is _, st_is _, st_is _, st_is _, st_is _, st_is _, st_is _, st_is _, st_is _, st_is _, st_is _, st_is _, st_is _, st_is _, st_is _, st_is _, st_is _, st_is _, st_is _, st_is _, st_is _, st_is _, st_is _, st_is _, st_is _, st_is _, st_is _, st_is _, st_is _, st_is _, st_is _, st_is _, st_is _, st_is _, st_is _, st_is _, st_is _, st_is _, st_is _, st_is _, st_is _, st_is _, st_is _, trivial⟩
  case zOps =>
    intro Q
    refine ⟨?_, ?_, ?_, ?_, ?_, ?_, ?_, ?_, ?_, ?_, ?_, ?_, ?_, ?_, ?_, ?_, ?_, ?_, ?_, ?_, ?_, ?_, ?_, ?_, ?_, ?_, ?_, ?_, ?_, ?_, ?_, ?_, ?_, ?_, ?_, ?_, ?_, ?_, ?_, ?_, ?_, ?_, ?_, ?_, ?_, ?_, ?_, ?_, ?_, ?_, ?_, ?_, ?_, ?_, ?_, ?_, ?_, ?_, ?_, ?_, ?_, ?_, ?_, ?_, ?_, ?_, ?_, ?_, ?_, ?_, ?_, ?_, ?_, ?_, ?_, ?_, ?_, ?_, ?_, ?_, ?_, ?_, ?_, ?_, ?_, ?_, ?_, ?_, ?_, ?_, ?_, ?_, trivial⟩
    · intro ho a W hW hd hx
      have h1 : a.eval (.tmp 1) = .bool false := (hx 1 (dst_not (by kernel_rfl))).trans rfl
      exact op_v ho (.bool false) rfl (by intro ρ hρ kc kf; rw [← hρ] at h1; clear hρ; simp [execOp, go_sem, h1]) rfl rfl
    · intro ho a W hW hd hx
      have h11 : a.eval (.tmp 11) = .bool false := hd 0 (by kernel_rfl)
      exact op_v ho (.bool false) rfl (by intro ρ hρ kc kf; rw [← hρ] at h11; clear hρ; simp [execOp, go_sem, h11]) rfl rfl
    · intro ho a W hW hd hx
      have h12 : a.eval (.tmp 12) = .bool false := hd 1 (by kernel_rfl)
      exact op_off ho rfl h12 (by decide) rfl
    · intro ho a W hW hd hx
      have h12 : a.eval (.tmp 12) = .bool false := hd 1 (by kernel_rfl)
      exact op_off ho rfl h12 (by decide) rfl
    · intro ho a W hW hd hx
      have h12 : a.eval (.tmp 12) = .bool false := hd 1 (by kernel_rfl)
      have h14 : a.eval (.tmp 14) = undef := hd 3 (by kernel_rfl)
      exact op_v ho (.bool false) rfl (by intro ρ hρ kc kf; rw [← hρ] at h12; clear hρ; simp [execOp, go_sem, kc, h12]) rfl rfl
    · intro ho a W hW hd hx
      have h15 : a.eval (.tmp 15) = .bool false := hd 4 (by kernel_rfl)
      exact op_v ho (.bool false) rfl (by intro ρ hρ kc kf; rw [← hρ] at h15; clear hρ; simp [execOp, go_sem, h15]) rfl rfl
    · intro ho a W hW hd hx
      have h16 : a.eval (.tmp 16) = .bool false := hd 5 (by kernel_rfl)
      have h1 : a.eval (.tmp 1) = .bool false := (hx 1 (dst_not (by kernel_rfl))).trans rfl
      exact op_vg ho (.bool false) rfl h16 (by intro ρ hρ kc kf; rw [← hρ] at h1; clear hρ; simp [execOp, go_sem, h1]) rfl rfl
    · intro ho a W hW hd hx
      have h16 : a.eval (.tmp 16) = .bool false := hd 5 (by kernel_rfl)
      have h17 : a.eval (.tmp 17) = .bool false := hd 6 (by kernel_rfl)
      exact op_vg ho (.bool true) rfl h16 (by intro ρ hρ kc kf; rw [← hρ] at h17; clear hρ; simp [execOp, go_sem, h17]) rfl rfl
    · intro ho a W hW hd hx
      have h16 : a.eval (.tmp 16) = .bool false := hd 5 (by kernel_rfl)
      have h18 : a.eval (.tmp 18) = .bool true := hd 7 (by kernel_rfl)
      exact op_vg ho (.bool true) rfl h16 (by intro ρ hρ kc kf; rw [← hρ] at h18; clear hρ; simp [execOp, go_sem, h18]) rfl rfl
    · intro ho a W hW hd hx
      have h19 : a.eval (.tmp 19) = .bool true := hd 8 (by kernel_rfl)
      have h0 : a.eval (.tmp 0) = .pointer (some ⟨g, 0, none⟩) := (hx 0 (dst_not (by kernel_rfl))).trans rfl
      exact op_vg ho (.pointer (some ⟨g, 0, none⟩)) rfl h19 (by intro ρ hρ kc kf; rw [← hρ] at h0; clear hρ; simp [execOp, go_sem, h0]) rfl rfl
    · intro ho a W hW hd hx
      have h19 : a.eval (.tmp 19) = .bool true := hd 8 (by kernel_rfl)
      have h20 : a.eval (.tmp 20) = .pointer (some ⟨g, 0, none⟩) := hd 9 (by kernel_rfl)
      exact op_vg ho (.pointer (some ⟨g, 0, none⟩)) rfl h19 (by intro ρ hρ kc kf; rw [← hρ] at h20; clear hρ; simp [execOp, go_sem, h20]) rfl rfl
    · intro ho a W hW hd hx
      have h19 : a.eval (.tmp 19) = .bool true := hd 8 (by kernel_rfl)
      have h21 : a.eval (.tmp 21) = .pointer (some ⟨g, 0, none⟩) := hd 10 (by kernel_rfl)
      exact op_vg ho (.pointer (some ⟨g, 0, none⟩)) rfl h19 (by intro ρ hρ kc kf; rw [← hρ] at h21; clear hρ; simp [execOp, go_sem, h21]) rfl rfl
    · intro ho a W hW hd hx
      have h19 : a.eval (.tmp 19) = .bool true := hd 8 (by kernel_rfl)
      have h22 : a.eval (.tmp 22) = .pointer (some ⟨g, 0, none⟩) := hd 11 (by kernel_rfl)
      exact op_vg ho (.pointer (some ⟨g, 5, none⟩)) rfl h19 (by intro ρ hρ kc kf; rw [← hρ] at h22; clear hρ; simp [execOp, go_sem, h22]) rfl rfl
    · intro ho a W hW hd hx
      have h19 : a.eval (.tmp 19) = .bool true := hd 8 (by kernel_rfl)
      have h23 : a.eval (.tmp 23) = .pointer (some ⟨g, 5, none⟩) := hd 12 (by kernel_rfl)
      have hc1 : W.cell? ⟨g, 5, none⟩ = some (.int .i64 c.lo) := by rw [(HB.out.below hW HB.out.lt).cell 5]; rfl
      have hc2 : W.cell? ⟨g, 6, none⟩ = some (.int .i64 c.hi) := by rw [(HB.out.below hW HB.out.lt).cell 6]; rfl
      exact op_vg ho (.agg #[.int .i64 c.lo, .int .i64 c.hi]) rfl h19 (by intro ρ hρ kc kf; rw [← hρ] at h23; clear hρ; simp [execOp, go_sem, h23, hc1, hc2]) rfl rfl
    · intro ho a W hW hd hx
      have h19 : a.eval (.tmp 19) = .bool true := hd 8 (by kernel_rfl)
      exact op_vg ho (.agg #[.int .i64 0, .int .i64 0]) rfl h19 (by intro ρ hρ kc kf; clear hρ; simp [execOp, go_sem]) rfl rfl
    · intro ho a W hW hd hx
      have h19 : a.eval (.tmp 19) = .bool true := hd 8 (by kernel_rfl)
      have h24 : a.eval (.tmp 24) = .agg #[.int .i64 c.lo, .int .i64 c.hi] := hd 13 (by kernel_rfl)
      have h25 : a.eval (.tmp 25) = .agg #[.int .i64 0, .int .i64 0] := hd 14 (by kernel_rfl)
      exact op_vg ho (.bool true) rfl h19 (by intro ρ hρ kc kf; rw [← hρ] at h24 h25; clear hρ; simp [execOp, go_sem, h24, h25, HL.out, HH.out]) rfl rfl
    · intro ho a W hW hd hx
      have h16 : a.eval (.tmp 16) = .bool false := hd 5 (by kernel_rfl)
      have h19 : a.eval (.tmp 19) = .bool true := hd 8 (by kernel_rfl)
      have h26 : a.eval (.tmp 26) = .bool true := hd 15 (by kernel_rfl)
      exact op_vg ho (.bool true) rfl h16 (by intro ρ hρ kc kf; rw [← hρ] at h19 h26; clear hρ; simp [execOp, go_sem, h19, h26]) rfl rfl
    · intro ho a W hW hd hx
      have h16 : a.eval (.tmp 16) = .bool false := hd 5 (by kernel_rfl)
      have h27 : a.eval (.tmp 27) = .bool true := hd 16 (by kernel_rfl)
      exact op_v ho (.bool true) rfl (by intro ρ hρ kc kf; rw [← hρ] at h16 h27; clear hρ; simp [execOp, go_sem, h16, h27]) rfl rfl
    · intro ho a W hW hd hx
      have h28 : a.eval (.tmp 28) = .bool true := hd 17 (by kernel_rfl)
      exact op_v ho (.bool true) rfl (by intro ρ hρ kc kf; rw [← hρ] at h28; clear hρ; simp [execOp, go_sem, h28]) rfl rfl
    · intro ho a W hW hd hx
      have h29 : a.eval (.tmp 29) = .bool true := hd 18 (by kernel_rfl)
      have h2 : a.eval (.tmp 2) = .bool false := (hx 2 (dst_not (by kernel_rfl))).trans rfl
      exact op_vg ho (.bool false) rfl h29 (by intro ρ hρ kc kf; rw [← hρ] at h2; clear hρ; simp [execOp, go_sem, h2]) rfl rfl
    · intro ho a W hW hd hx
      have h29 : a.eval (.tmp 29) = .bool true := hd 18 (by kernel_rfl)
      have h30 : a.eval (.tmp 30) = .bool false := hd 19 (by kernel_rfl)
      exact op_vg ho (.bool false) rfl h29 (by intro ρ hρ kc kf; rw [← hρ] at h30; clear hρ; simp [execOp, go_sem, h30]) rfl rfl
    · intro ho a W hW hd hx
      have h31 : a.eval (.tmp 31) = .bool false := hd 20 (by kernel_rfl)
      exact op_off ho rfl h31 (by decide) rfl
    · intro ho a W hW hd hx
      have h31 : a.eval (.tmp 31) = .bool false := hd 20 (by kernel_rfl)
      exact op_off ho rfl h31 (by decide) rfl
    · intro ho a W hW hd hx
      have h31 : a.eval (.tmp 31) = .bool false := hd 20 (by kernel_rfl)
      exact op_off ho rfl h31 (by decide) rfl
    · intro ho a W hW hd hx
      have h31 : a.eval (.tmp 31) = .bool false := hd 20 (by kernel_rfl)
      exact op_off ho rfl h31 (by decide) rfl
    · intro ho a W hW hd hx
      have h31 : a.eval (.tmp 31) = .bool false := hd 20 (by kernel_rfl)
      exact op_off ho rfl h31 (by decide) rfl
    · intro ho a W hW hd hx
      have h31 : a.eval (.tmp 31) = .bool false := hd 20 (by kernel_rfl)
      exact op_off ho rfl h31 (by decide) rfl
    · intro ho a W hW hd hx
      have h31 : a.eval (.tmp 31) = .bool false := hd 20 (by kernel_rfl)
      exact op_off ho rfl h31 (by decide) rfl
    · intro ho a W hW hd hx
      have h38 : a.eval (.tmp 38) = undef := hd 27 (by kernel_rfl)
      exact op_un ho rfl h38 rfl
    · intro ho a W hW hd hx
      have h38 : a.eval (.tmp 38) = undef := hd 27 (by kernel_rfl)
      exact op_un ho rfl h38 rfl
    · intro ho a W hW hd hx
      have h38 : a.eval (.tmp 38) = undef := hd 27 (by kernel_rfl)
      exact op_un ho rfl h38 rfl
    · intro ho a W hW hd hx
      have h38 : a.eval (.tmp 38) = undef := hd 27 (by kernel_rfl)
      exact op_un ho rfl h38 rfl
    · intro ho a W hW hd hx
      have h38 : a.eval (.tmp 38) = undef := hd 27 (by kernel_rfl)
      exact op_un ho rfl h38 rfl
    · intro ho a W hW hd hx
      have h38 : a.eval (.tmp 38) = undef := hd 27 (by kernel_rfl)
      exact op_un ho rfl h38 rfl
    · intro ho a W hW hd hx
      have h31 : a.eval (.tmp 31) = .bool false := hd 20 (by kernel_rfl)
      exact op_off ho rfl h31 (by decide) rfl
    · intro ho a W hW hd hx
      have h29 : a.eval (.tmp 29) = .bool true := hd 18 (by kernel_rfl)
      have h31 : a.eval (.tmp 31) = .bool false := hd 20 (by kernel_rfl)
      have h45 : a.eval (.tmp 45) = undef := hd 34 (by kernel_rfl)
      exact op_vg ho (.bool false) rfl h29 (by intro ρ hρ kc kf; rw [← hρ] at h31; clear hρ; simp [execOp, go_sem, kc, h31]) rfl rfl
    · intro ho a W hW hd hx
      have h29 : a.eval (.tmp 29) = .bool true := hd 18 (by kernel_rfl)
      have h46 : a.eval (.tmp 46) = .bool false := hd 35 (by kernel_rfl)
      exact op_vg ho (.bool false) rfl h29 (by intro ρ hρ kc kf; rw [← hρ] at h46; clear hρ; simp [execOp, go_sem, h46]) rfl rfl
    · intro ho a W hW hd hx
      have h47 : a.eval (.tmp 47) = .bool false := hd 36 (by kernel_rfl)
      have h2 : a.eval (.tmp 2) = .bool false := (hx 2 (dst_not (by kernel_rfl))).trans rfl
      exact op_vg ho (.bool false) rfl h47 (by intro ρ hρ kc kf; rw [← hρ] at h2; clear hρ; simp [execOp, go_sem, h2]) rfl rfl
    · intro ho a W hW hd hx
      have h47 : a.eval (.tmp 47) = .bool false := hd 36 (by kernel_rfl)
      have h48 : a.eval (.tmp 48) = .bool false := hd 37 (by kernel_rfl)
      exact op_vg ho (.bool true) rfl h47 (by intro ρ hρ kc kf; rw [← hρ] at h48; clear hρ; simp [execOp, go_sem, h48]) rfl rfl
    · intro ho a W hW hd hx
      have h47 : a.eval (.tmp 47) = .bool false := hd 36 (by kernel_rfl)
      have h49 : a.eval (.tmp 49) = .bool true := hd 38 (by kernel_rfl)
      exact op_vg ho (.bool true) rfl h47 (by intro ρ hρ kc kf; rw [← hρ] at h49; clear hρ; simp [execOp, go_sem, h49]) rfl rfl
    · intro ho a W hW hd hx
      have h50 : a.eval (.tmp 50) = .bool true := hd 39 (by kernel_rfl)
      have h0 : a.eval (.tmp 0) = .pointer (some ⟨g, 0, none⟩) := (hx 0 (dst_not (by kernel_rfl))).trans rfl
      exact op_vg ho (.pointer (some ⟨g, 0, none⟩)) rfl h50 (by intro ρ hρ kc kf; rw [← hρ] at h0; clear hρ; simp [execOp, go_sem, h0]) rfl rfl
    · intro ho a W hW hd hx
      have h50 : a.eval (.tmp 50) = .bool true := hd 39 (by kernel_rfl)
      have h51 : a.eval (.tmp 51) = .pointer (some ⟨g, 0, none⟩) := hd 40 (by kernel_rfl)
      exact op_vg ho (.pointer (some ⟨g, 0, none⟩)) rfl h50 (by intro ρ hρ kc kf; rw [← hρ] at h51; clear hρ; simp [execOp, go_sem, h51]) rfl rfl
    · intro ho a W hW hd hx
      have h50 : a.eval (.tmp 50) = .bool true := hd 39 (by kernel_rfl)
      have h52 : a.eval (.tmp 52) = .pointer (some ⟨g, 0, none⟩) := hd 41 (by kernel_rfl)
      exact op_vg ho (.pointer (some ⟨g, 0, none⟩)) rfl h50 (by intro ρ hρ kc kf; rw [← hρ] at h52; clear hρ; simp [execOp, go_sem, h52]) rfl rfl
    · intro ho a W hW hd hx
      have h50 : a.eval (.tmp 50) = .bool true := hd 39 (by kernel_rfl)
      have h53 : a.eval (.tmp 53) = .pointer (some ⟨g, 0, none⟩) := hd 42 (by kernel_rfl)
      exact op_vg ho (.pointer (some ⟨g, 7, none⟩)) rfl h50 (by intro ρ hρ kc kf; rw [← hρ] at h53; clear hρ; simp [execOp, go_sem, h53]) rfl rfl
    · intro ho a W hW hd hx
      have h50 : a.eval (.tmp 50) = .bool true := hd 39 (by kernel_rfl)
      have h54 : a.eval (.tmp 54) = .pointer (some ⟨g, 7, none⟩) := hd 43 (by kernel_rfl)
      have hcell : W.cell? ⟨g, 7, none⟩ = some (.int .i8 c.mode) := by rw [(HB.out.below hW HB.out.lt).cell 7]; rfl
      exact op_vg ho (.int .i8 c.mode) rfl h50 (by intro ρ hρ kc kf; rw [← hρ] at h54; clear hρ; simp [execOp, go_sem, h54, hcell]) rfl rfl
    · intro ho a W hW hd hx
      have h50 : a.eval (.tmp 50) = .bool true := hd 39 (by kernel_rfl)
      have h55 : a.eval (.tmp 55) = .int .i8 c.mode := hd 44 (by kernel_rfl)
      exact op_vg ho (.bool true) rfl h50 (by intro ρ hρ kc kf; rw [← hρ] at h55; clear hρ; simp [execOp, go_sem, kc, h55, HM.out]) rfl rfl
    · intro ho a W hW hd hx
      have h47 : a.eval (.tmp 47) = .bool false := hd 36 (by kernel_rfl)
      have h50 : a.eval (.tmp 50) = .bool true := hd 39 (by kernel_rfl)
      have h56 : a.eval (.tmp 56) = .bool true := hd 45 (by kernel_rfl)
      exact op_vg ho (.bool true) rfl h47 (by intro ρ hρ kc kf; rw [← hρ] at h50 h56; clear hρ; simp [execOp, go_sem, h50, h56]) rfl rfl
    · intro ho a W hW hd hx
      have h29 : a.eval (.tmp 29) = .bool true := hd 18 (by kernel_rfl)
      have h47 : a.eval (.tmp 47) = .bool false := hd 36 (by kernel_rfl)
      have h57 : a.eval (.tmp 57) = .bool true := hd 46 (by kernel_rfl)
      exact op_vg ho (.bool true) rfl h29 (by intro ρ hρ kc kf; rw [← hρ] at h47 h57; clear hρ; simp [execOp, go_sem, h47, h57]) rfl rfl
    · intro ho a W hW hd hx
      have h29 : a.eval (.tmp 29) = .bool true := hd 18 (by kernel_rfl)
      have h58 : a.eval (.tmp 58) = .bool true := hd 47 (by kernel_rfl)
      exact op_v ho (.bool true) rfl (by intro ρ hρ kc kf; rw [← hρ] at h29 h58; clear hρ; simp [execOp, go_sem, h29, h58]) rfl rfl
    · intro ho a W hW hd hx
      have h59 : a.eval (.tmp 59) = .bool true := hd 48 (by kernel_rfl)
      exact op_v ho (.bool true) rfl (by intro ρ hρ kc kf; rw [← hρ] at h59; clear hρ; simp [execOp, go_sem, h59]) rfl rfl
    · intro ho a W hW hd hx
      have h60 : a.eval (.tmp 60) = .bool true := hd 49 (by kernel_rfl)
      have h3 : a.eval (.tmp 3) = .bool true := (hx 3 (dst_not (by kernel_rfl))).trans rfl
      exact op_vg ho (.bool true) rfl h60 (by intro ρ hρ kc kf; rw [← hρ] at h3; clear hρ; simp [execOp, go_sem, h3]) rfl rfl
    · intro ho a W hW hd hx
      have h60 : a.eval (.tmp 60) = .bool true := hd 49 (by kernel_rfl)
      have h61 : a.eval (.tmp 61) = .bool true := hd 50 (by kernel_rfl)
      exact op_vg ho (.bool true) rfl h60 (by intro ρ hρ kc kf; rw [← hρ] at h61; clear hρ; simp [execOp, go_sem, h61]) rfl rfl
    · intro ho a W hW hd hx
      have h62 : a.eval (.tmp 62) = .bool true := hd 51 (by kernel_rfl)
      have h0 : a.eval (.tmp 0) = .pointer (some ⟨g, 0, none⟩) := (hx 0 (dst_not (by kernel_rfl))).trans rfl
      exact op_vg ho (.pointer (some ⟨g, 0, none⟩)) rfl h62 (by intro ρ hρ kc kf; rw [← hρ] at h0; clear hρ; simp [execOp, go_sem, h0]) rfl rfl
    · intro ho a W hW hd hx
      have h62 : a.eval (.tmp 62) = .bool true := hd 51 (by kernel_rfl)
      have h63 : a.eval (.tmp 63) = .pointer (some ⟨g, 0, none⟩) := hd 52 (by kernel_rfl)
      exact op_vg ho (.pointer (some ⟨g, 0, none⟩)) rfl h62 (by intro ρ hρ kc kf; rw [← hρ] at h63; clear hρ; simp [execOp, go_sem, h63]) rfl rfl
    · intro ho a W hW hd hx
      have h62 : a.eval (.tmp 62) = .bool true := hd 51 (by kernel_rfl)
      have h64 : a.eval (.tmp 64) = .pointer (some ⟨g, 0, none⟩) := hd 53 (by kernel_rfl)
      exact op_vg ho (.pointer (some ⟨g, 0, none⟩)) rfl h62 (by intro ρ hρ kc kf; rw [← hρ] at h64; clear hρ; simp [execOp, go_sem, h64]) rfl rfl
    · intro ho a W hW hd hx
      have h62 : a.eval (.tmp 62) = .bool true := hd 51 (by kernel_rfl)
      have h65 : a.eval (.tmp 65) = .pointer (some ⟨g, 0, none⟩) := hd 54 (by kernel_rfl)
      exact op_vg ho (.pointer (some ⟨g, 3, none⟩)) rfl h62 (by intro ρ hρ kc kf; rw [← hρ] at h65; clear hρ; simp [execOp, go_sem, h65]) rfl rfl
    · intro ho a W hW hd hx
      have h62 : a.eval (.tmp 62) = .bool true := hd 51 (by kernel_rfl)
      have h66 : a.eval (.tmp 66) = .pointer (some ⟨g, 3, none⟩) := hd 55 (by kernel_rfl)
      have hcell : W.cell? ⟨g, 3, none⟩ = some (.int .i64 c.dead) := by rw [(HB.out.below hW HB.out.lt).cell 3]; rfl
      exact op_vg ho (.int .i64 c.dead) rfl h62 (by intro ρ hρ kc kf; rw [← hρ] at h66; clear hρ; simp [execOp, go_sem, h66, hcell]) rfl rfl
    · intro ho a W hW hd hx
      have h62 : a.eval (.tmp 62) = .bool true := hd 51 (by kernel_rfl)
      have h67 : a.eval (.tmp 67) = .int .i64 c.dead := hd 56 (by kernel_rfl)
      refine op_call ho (want_yes rfl (show valAt _ a 51 = _ from h62)) (by intro ρ hρ kc kf; rw [← hρ] at h67; clear hρ; simp [execOp, go_sem, kf, h67]) (KD.out W) ?_
      rintro e W2 ⟨rfl, k2⟩
      exact ⟨_, rfl, _, rfl, (fun h => by cases h), rfl, k2, (fun h => absurd h (by decide))⟩
    · intro ho a W hW hd hx
      have h60 : a.eval (.tmp 60) = .bool true := hd 49 (by kernel_rfl)
      have h62 : a.eval (.tmp 62) = .bool true := hd 51 (by kernel_rfl)
      have h68 : a.eval (.tmp 68) = .bool true := hd 57 (by kernel_rfl)
      exact op_vg ho (.bool true) rfl h60 (by intro ρ hρ kc kf; rw [← hρ] at h62 h68; clear hρ; simp [execOp, go_sem, h62, h68]) rfl rfl
    · intro ho a W hW hd hx
      have h60 : a.eval (.tmp 60) = .bool true := hd 49 (by kernel_rfl)
      have h69 : a.eval (.tmp 69) = .bool true := hd 58 (by kernel_rfl)
      exact op_vg ho (.bool true) rfl h60 (by intro ρ hρ kc kf; rw [← hρ] at h69; clear hρ; simp [execOp, go_sem, h69]) rfl rfl
    · intro ho a W hW hd hx
      have h70 : a.eval (.tmp 70) = .bool true := hd 59 (by kernel_rfl)
      exact op_off ho rfl h70 (by decide) rfl
    · intro ho a W hW hd hx
      have h70 : a.eval (.tmp 70) = .bool true := hd 59 (by kernel_rfl)
      exact op_off ho rfl h70 (by decide) rfl
    · intro ho a W hW hd hx
      have h70 : a.eval (.tmp 70) = .bool true := hd 59 (by kernel_rfl)
      exact op_off ho rfl h70 (by decide) rfl
    · intro ho a W hW hd hx
      have h73 : a.eval (.tmp 73) = undef := hd 62 (by kernel_rfl)
      exact op_un ho rfl h73 rfl
    · intro ho a W hW hd hx
      have h73 : a.eval (.tmp 73) = undef := hd 62 (by kernel_rfl)
      exact op_un ho rfl h73 rfl
    · intro ho a W hW hd hx
      have h73 : a.eval (.tmp 73) = undef := hd 62 (by kernel_rfl)
      exact op_un ho rfl h73 rfl
    · intro ho a W hW hd hx
      have h73 : a.eval (.tmp 73) = undef := hd 62 (by kernel_rfl)
      exact op_un ho rfl h73 rfl
    · intro ho a W hW hd hx
      have h73 : a.eval (.tmp 73) = undef := hd 62 (by kernel_rfl)
      exact op_un ho rfl h73 rfl
    · intro ho a W hW hd hx
      have h73 : a.eval (.tmp 73) = undef := hd 62 (by kernel_rfl)
      exact op_un ho rfl h73 rfl
    · intro ho a W hW hd hx
      have h70 : a.eval (.tmp 70) = .bool true := hd 59 (by kernel_rfl)
      exact op_off ho rfl h70 (by decide) rfl
    · intro ho a W hW hd hx
      have h60 : a.eval (.tmp 60) = .bool true := hd 49 (by kernel_rfl)
      have h70 : a.eval (.tmp 70) = .bool true := hd 59 (by kernel_rfl)
      have h80 : a.eval (.tmp 80) = undef := hd 69 (by kernel_rfl)
      exact op_vg ho (.bool true) rfl h60 (by intro ρ hρ kc kf; rw [← hρ] at h70; clear hρ; simp [execOp, go_sem, kc, h70]) rfl rfl
    · intro ho a W hW hd hx
      have h60 : a.eval (.tmp 60) = .bool true := hd 49 (by kernel_rfl)
      have h81 : a.eval (.tmp 81) = .bool true := hd 70 (by kernel_rfl)
      exact op_v ho (.bool true) rfl (by intro ρ hρ kc kf; rw [← hρ] at h60 h81; clear hρ; simp [execOp, go_sem, h60, h81]) rfl rfl
    · intro ho a W hW hd hx
      have h82 : a.eval (.tmp 82) = .bool true := hd 71 (by kernel_rfl)
      exact op_v ho (.bool true) rfl (by intro ρ hρ kc kf; rw [← hρ] at h82; clear hρ; simp [execOp, go_sem, h82]) rfl rfl
    · intro ho a W hW hd hx
      have h83 : a.eval (.tmp 83) = .bool true := hd 72 (by kernel_rfl)
      have h0 : a.eval (.tmp 0) = .pointer (some ⟨g, 0, none⟩) := (hx 0 (dst_not (by kernel_rfl))).trans rfl
      exact op_vg ho (.pointer (some ⟨g, 0, none⟩)) rfl h83 (by intro ρ hρ kc kf; rw [← hρ] at h0; clear hρ; simp [execOp, go_sem, h0]) rfl rfl
    · intro ho a W hW hd hx
      have h83 : a.eval (.tmp 83) = .bool true := hd 72 (by kernel_rfl)
      have h84 : a.eval (.tmp 84) = .pointer (some ⟨g, 0, none⟩) := hd 73 (by kernel_rfl)
      exact op_vg ho (.pointer (some ⟨g, 0, none⟩)) rfl h83 (by intro ρ hρ kc kf; rw [← hρ] at h84; clear hρ; simp [execOp, go_sem, h84]) rfl rfl
    · intro ho a W hW hd hx
      have h83 : a.eval (.tmp 83) = .bool true := hd 72 (by kernel_rfl)
      have h85 : a.eval (.tmp 85) = .pointer (some ⟨g, 0, none⟩) := hd 74 (by kernel_rfl)
      exact op_vg ho (.pointer (some ⟨g, 0, none⟩)) rfl h83 (by intro ρ hρ kc kf; rw [← hρ] at h85; clear hρ; simp [execOp, go_sem, h85]) rfl rfl
    · intro ho a W hW hd hx
      have h83 : a.eval (.tmp 83) = .bool true := hd 72 (by kernel_rfl)
      have h86 : a.eval (.tmp 86) = .pointer (some ⟨g, 0, none⟩) := hd 75 (by kernel_rfl)
      exact op_vg ho (.pointer (some ⟨g, 4, none⟩)) rfl h83 (by intro ρ hρ kc kf; rw [← hρ] at h86; clear hρ; simp [execOp, go_sem, h86]) rfl rfl
    · intro ho a W hW hd hx
      have h83 : a.eval (.tmp 83) = .bool true := hd 72 (by kernel_rfl)
      have h87 : a.eval (.tmp 87) = .pointer (some ⟨g, 4, none⟩) := hd 76 (by kernel_rfl)
      have hcell : W.cell? ⟨g, 4, none⟩ = some (.int .i64 c.was) := by rw [(HB.out.below hW HB.out.lt).cell 4]; rfl
      exact op_vg ho (.int .i64 c.was) rfl h83 (by intro ρ hρ kc kf; rw [← hρ] at h87; clear hρ; simp [execOp, go_sem, h87, hcell]) rfl rfl
    · intro ho a W hW hd hx
      have h83 : a.eval (.tmp 83) = .bool true := hd 72 (by kernel_rfl)
      have h88 : a.eval (.tmp 88) = .int .i64 c.was := hd 77 (by kernel_rfl)
      exact op_vg ho (.bool false) rfl h83 (by intro ρ hρ kc kf; rw [← hρ] at h88; clear hρ; simp [execOp, go_sem, kc, h88, HW.out]) rfl rfl
    · intro ho a W hW hd hx
      have h83 : a.eval (.tmp 83) = .bool true := hd 72 (by kernel_rfl)
      have h89 : a.eval (.tmp 89) = .bool false := hd 78 (by kernel_rfl)
      exact op_vg ho (.bool false) rfl h83 (by intro ρ hρ kc kf; rw [← hρ] at h89; clear hρ; simp [execOp, go_sem, h89]) rfl rfl
    · intro ho a W hW hd hx
      have h90 : a.eval (.tmp 90) = .bool false := hd 79 (by kernel_rfl)
      have h4 : a.eval (.tmp 4) = .bool true := (hx 4 (dst_not (by kernel_rfl))).trans rfl
      exact op_vg ho (.bool true) rfl h90 (by intro ρ hρ kc kf; rw [← hρ] at h4; clear hρ; simp [execOp, go_sem, h4]) rfl rfl
    · intro ho a W hW hd hx
      have h90 : a.eval (.tmp 90) = .bool false := hd 79 (by kernel_rfl)
      have h91 : a.eval (.tmp 91) = .bool true := hd 80 (by kernel_rfl)
      exact op_vg ho (.bool true) rfl h90 (by intro ρ hρ kc kf; rw [← hρ] at h91; clear hρ; simp [execOp, go_sem, h91]) rfl rfl
    · intro ho a W hW hd hx
      have h92 : a.eval (.tmp 92) = .bool true := hd 81 (by kernel_rfl)
      have h0 : a.eval (.tmp 0) = .pointer (some ⟨g, 0, none⟩) := (hx 0 (dst_not (by kernel_rfl))).trans rfl
      exact op_vg ho (.pointer (some ⟨g, 0, none⟩)) rfl h92 (by intro ρ hρ kc kf; rw [← hρ] at h0; clear hρ; simp [execOp, go_sem, h0]) rfl rfl
    · intro ho a W hW hd hx
      have h92 : a.eval (.tmp 92) = .bool true := hd 81 (by kernel_rfl)
      have h93 : a.eval (.tmp 93) = .pointer (some ⟨g, 0, none⟩) := hd 82 (by kernel_rfl)
      exact op_vg ho (.pointer (some ⟨g, 0, none⟩)) rfl h92 (by intro ρ hρ kc kf; rw [← hρ] at h93; clear hρ; simp [execOp, go_sem, h93]) rfl rfl
    · intro ho a W hW hd hx
      have h92 : a.eval (.tmp 92) = .bool true := hd 81 (by kernel_rfl)
      have h94 : a.eval (.tmp 94) = .pointer (some ⟨g, 0, none⟩) := hd 83 (by kernel_rfl)
      exact op_vg ho (.pointer (some ⟨g, 0, none⟩)) rfl h92 (by intro ρ hρ kc kf; rw [← hρ] at h94; clear hρ; simp [execOp, go_sem, h94]) rfl rfl
    · intro ho a W hW hd hx
      have h92 : a.eval (.tmp 92) = .bool true := hd 81 (by kernel_rfl)
      have h95 : a.eval (.tmp 95) = .pointer (some ⟨g, 0, none⟩) := hd 84 (by kernel_rfl)
      exact op_vg ho (.pointer (some ⟨g, 4, none⟩)) rfl h92 (by intro ρ hρ kc kf; rw [← hρ] at h95; clear hρ; simp [execOp, go_sem, h95]) rfl rfl
    · intro ho a W hW hd hx
      have h92 : a.eval (.tmp 92) = .bool true := hd 81 (by kernel_rfl)
      have h96 : a.eval (.tmp 96) = .pointer (some ⟨g, 4, none⟩) := hd 85 (by kernel_rfl)
      have hcell : W.cell? ⟨g, 4, none⟩ = some (.int .i64 c.was) := by rw [(HB.out.below hW HB.out.lt).cell 4]; rfl
      exact op_vg ho (.int .i64 c.was) rfl h92 (by intro ρ hρ kc kf; rw [← hρ] at h96; clear hρ; simp [execOp, go_sem, h96, hcell]) rfl rfl
    · intro ho a W hW hd hx
      have h92 : a.eval (.tmp 92) = .bool true := hd 81 (by kernel_rfl)
      have h97 : a.eval (.tmp 97) = .int .i64 c.was := hd 86 (by kernel_rfl)
      refine op_call ho (want_yes rfl (show valAt _ a 81 = _ from h92)) (by intro ρ hρ kc kf; rw [← hρ] at h97; clear hρ; simp [execOp, go_sem, kf, h97]) (KW.out W) ?_
      rintro e W2 ⟨rfl, k2⟩
      exact ⟨_, rfl, _, rfl, (fun h => by cases h), rfl, k2, (fun h => absurd h (by decide))⟩
    · intro ho a W hW hd hx
      have h90 : a.eval (.tmp 90) = .bool false := hd 79 (by kernel_rfl)
      have h92 : a.eval (.tmp 92) = .bool true := hd 81 (by kernel_rfl)
      have h98 : a.eval (.tmp 98) = .bool true := hd 87 (by kernel_rfl)
      exact op_vg ho (.bool true) rfl h90 (by intro ρ hρ kc kf; rw [← hρ] at h92 h98; clear hρ; simp [execOp, go_sem, h92, h98]) rfl rfl
    · intro ho a W hW hd hx
      have h83 : a.eval (.tmp 83) = .bool true := hd 72 (by kernel_rfl)
      have h90 : a.eval (.tmp 90) = .bool false := hd 79 (by kernel_rfl)
      have h99 : a.eval (.tmp 99) = .bool true := hd 88 (by kernel_rfl)
      exact op_vg ho (.bool true) rfl h83 (by intro ρ hρ kc kf; rw [← hρ] at h90 h99; clear hρ; simp [execOp, go_sem, h90, h99]) rfl rfl
    · intro ho a W hW hd hx
      have h83 : a.eval (.tmp 83) = .bool true := hd 72 (by kernel_rfl)
      have h100 : a.eval (.tmp 100) = .bool true := hd 89 (by kernel_rfl)
      exact op_v ho (.bool true) rfl (by intro ρ hρ kc kf; rw [← hρ] at h83 h100; clear hρ; simp [execOp, go_sem, h83, h100]) rfl rfl
    · intro ho a W hW hd hx
      have h101 : a.eval (.tmp 101) = .bool true := hd 90 (by kernel_rfl)
      exact op_v ho (.bool true) rfl (by intro ρ hρ kc kf; rw [← hρ] at h101; clear hρ; simp [execOp, go_sem, h101]) rfl rfl
  intro v W hW hv _
  have hlast : v 91 = .bool true := hv 91 (by decide)
  simp only [List.append_eq, List.cons_append, List.nil_append, List.take_succ_cons, List.take_zero, List.drop_succ_cons, List.drop_zero, fillL, wpTail, Act.put, List.setIfInBounds_toArray, List.set_cons_zero, List.set_cons_succ, Nat.reduceAdd]
  rw [hlast]
  go_wp2
  go_ret
  exact ⟨rfl, hW⟩

end Go.Proofs.Ytnoojlgefpekiaa
