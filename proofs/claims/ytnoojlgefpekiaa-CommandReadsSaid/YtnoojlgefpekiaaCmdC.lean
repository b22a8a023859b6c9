/-
  Contracts of commands: only, whatever it is told. (Printed by cmd_only2.py.)
-/
import Derived.Test.YtnoojlgefpekiaaCmdB
import Derived.Deep.Cut
namespace Go.Proofs.Ytnoojlgefpekiaa
open Go.RowKit

theorem run_eqS (x y : Int) (w : World) : (binOp .eql 40 (.agg #[.int .i64 x, .int .i64 y]) (.agg #[.int .i64 0, .int .i64 0])).run Try.prog w = .ok (.bool (decide (x = 0) && decide (y = 0))) w := by
  by_cases h1 : x = 0
  · by_cases h2 : y = 0
    · simp [go_sem, h1, h2]
    · simp [go_sem, h1, h2]
  · simp [go_sem, h1]

set_option maxRecDepth 100000 in
set_option maxHeartbeats 4000000 in
theorem only_any (g : Nat) (T : TypeId) (c : Cm) (b : Value) (w : World) (s m d k : Bool) (hb : Blk w g T (cO c b)) :
    Calls Try.prog 37 #[.pointer (some ⟨g, 0, none⟩), .bool s, .bool m, .bool d, .bool k] w fun e w' => e = .returned (.bool (onlyB c s m d k)) ∧ Below w.heap.size w w' := by
  obtain ⟨A, hA⟩ : ∃ b, spanB c = b := ⟨_, rfl⟩
  obtain ⟨Z, hZ⟩ : ∃ b, (decide (c.lo = 0) && decide (c.hi = 0)) = b := ⟨_, rfl⟩
  obtain ⟨X, hX⟩ : ∃ b, (s && A) = b := ⟨_, rfl⟩
  obtain ⟨Y1, hY1⟩ : ∃ b, (!s && Z) = b := ⟨_, rfl⟩
  obtain ⟨P1, hP1⟩ : ∃ b, (X || Y1) = b := ⟨_, rfl⟩
  obtain ⟨M1, hM1⟩ : ∃ b, (c.mode == 1) = b := ⟨_, rfl⟩
  obtain ⟨M2, hM2⟩ : ∃ b, (c.mode == 2) = b := ⟨_, rfl⟩
  obtain ⟨M0, hM0⟩ : ∃ b, (c.mode == 0) = b := ⟨_, rfl⟩
  obtain ⟨M3, hM3⟩ : ∃ b, (M1 || M2) = b := ⟨_, rfl⟩
  obtain ⟨MM, hMM⟩ : ∃ b, (m && M3) = b := ⟨_, rfl⟩
  obtain ⟨Y2, hY2⟩ : ∃ b, (!m && M0) = b := ⟨_, rfl⟩
  obtain ⟨M4, hM4⟩ : ∃ b, (MM || Y2) = b := ⟨_, rfl⟩
  obtain ⟨Q1, hQ1⟩ : ∃ b, (P1 && M4) = b := ⟨_, rfl⟩
  obtain ⟨D, hD⟩ : ∃ b, keyB c.dead = b := ⟨_, rfl⟩
  obtain ⟨D0, hD0⟩ : ∃ b, (c.dead == 0) = b := ⟨_, rfl⟩
  obtain ⟨DD, hDD⟩ : ∃ b, (d && D) = b := ⟨_, rfl⟩
  obtain ⟨Y3, hY3⟩ : ∃ b, (!d && D0) = b := ⟨_, rfl⟩
  obtain ⟨D4, hD4⟩ : ∃ b, (DD || Y3) = b := ⟨_, rfl⟩
  obtain ⟨R1, hR1⟩ : ∃ b, (Q1 && D4) = b := ⟨_, rfl⟩
  obtain ⟨W0, hW0⟩ : ∃ b, (c.was == 0) = b := ⟨_, rfl⟩
  obtain ⟨K, hK⟩ : ∃ b, keyB c.was = b := ⟨_, rfl⟩
  obtain ⟨Y4, hY4⟩ : ∃ b, (k && K) = b := ⟨_, rfl⟩
  obtain ⟨W4, hW4⟩ : ∃ b, (W0 || Y4) = b := ⟨_, rfl⟩
  obtain ⟨F, hF⟩ : ∃ b, (R1 && W4) = b := ⟨_, rfl⟩
  have e : onlyB c s m d k = F := by
    rw [← hF, ← hW4, ← hY4, ← hR1, ← hD4, ← hY3, ← hDD, ← hQ1, ← hM4, ← hY2, ← hMM, ← hM3, ← hP1, ← hY1, ← hX, ← hA, ← hZ, ← hM1, ← hM2, ← hM0, ← hD, ← hD0, ← hW0, ← hK]
    unfold onlyB
    rw [Bool.eq_iff_iff]
    cases s <;> cases m <;> cases d <;> simp
  rw [e]; clear e
  have HB := Lib.hid hb; clear hb
  have sp := fun W (h : Below w.heap.size w W) => span_below g T c b W (HB.out.below h HB.out.lt)
  rw [hA] at sp
  have SP := Lib.hid sp
  have kd := fun W => key_below c.dead W
  rw [hD] at kd
  have KD := Lib.hid kd
  have kw := fun W => key_below c.was W
  rw [hK] at kw
  have KW := Lib.hid kw
  have HZ : Hid (∀ W, Sem.run Try.prog (binOp BinOp.eql 40 (.agg #[.int .i64 c.lo, .int .i64 c.hi]) (.agg #[.int .i64 0, .int .i64 0])) W = Result.ok (.bool Z) W) := Lib.hid (fun W => by rw [← hZ]; exact run_eqS _ _ W)
  have HX := Lib.hid hX
  have HY1 := Lib.hid hY1
  have HP1 := Lib.hid hP1
  have HM1 := Lib.hid hM1
  have HM2 := Lib.hid hM2
  have HM0 := Lib.hid hM0
  have HM3 := Lib.hid hM3
  have HMM := Lib.hid hMM
  have HY2 := Lib.hid hY2
  have HM4 := Lib.hid hM4
  have HQ1 := Lib.hid hQ1
  have HD0 := Lib.hid hD0
  have HDD := Lib.hid hDD
  have HY3 := Lib.hid hY3
  have HD4 := Lib.hid hD4
  have HR1 := Lib.hid hR1
  have HW0 := Lib.hid hW0
  have HY4 := Lib.hid hY4
  have HW4 := Lib.hid hW4
  have HF := Lib.hid hF
  clear sp kd kw hA hZ hX hY1 hP1 hM1 hM2 hM0 hM3 hMM hY2 hM4 hQ1 hD hD0 hDD hY3 hD4 hR1 hW0 hK hY4 hW4 hF
  go_enter Try.func37, Try.ntmps37
  go_upto_region 1 with fail
  refine wp_region_grows 92 ((fun q_ _ _ => q_ = (.bool s)) :: (fun q_ _ _ => q_ = (.bool s)) :: (fun q_ _ _ => q_ = (bif s then (.pointer (some ⟨g, 0, none⟩)) else undef)) :: (fun q_ _ _ => q_ = (bif s then (.bool A) else undef)) :: (fun q_ _ _ => q_ = (.bool X)) :: (fun q_ _ _ => q_ = (.bool X)) :: (fun q_ _ _ => q_ = (bif X then undef else (.bool s))) :: (fun q_ _ _ => q_ = (bif X then undef else (.bool !s))) :: (fun q_ _ _ => q_ = (bif X then undef else (.bool !s))) :: (fun q_ _ _ => q_ = (bif X then undef else (bif s then undef else (.pointer (some ⟨g, 0, none⟩))))) :: (fun q_ _ _ => q_ = (bif X then undef else (bif s then undef else (.pointer (some ⟨g, 0, none⟩))))) :: (fun q_ _ _ => q_ = (bif X then undef else (bif s then undef else (.pointer (some ⟨g, 0, none⟩))))) :: (fun q_ _ _ => q_ = (bif X then undef else (bif s then undef else (.pointer (some ⟨g, 5, none⟩))))) :: (fun q_ _ _ => q_ = (bif X then undef else (bif s then undef else (.agg #[.int .i64 c.lo, .int .i64 c.hi])))) :: (fun q_ _ _ => q_ = (bif X then undef else (bif s then undef else (.agg #[.int .i64 0, .int .i64 0])))) :: (fun q_ _ _ => q_ = (bif X then undef else (bif s then undef else (.bool Z)))) :: (fun q_ _ _ => q_ = (bif X then undef else (.bool Y1))) :: (fun q_ _ _ => q_ = (.bool P1)) :: (fun q_ _ _ => q_ = (.bool P1)) :: (fun q_ _ _ => q_ = (bif P1 then (.bool m) else undef)) :: (fun q_ _ _ => q_ = (bif P1 then (.bool m) else undef)) :: (fun q_ _ _ => q_ = (bif P1 then (bif m then (.pointer (some ⟨g, 0, none⟩)) else undef) else undef)) :: (fun q_ _ _ => q_ = (bif P1 then (bif m then (.pointer (some ⟨g, 0, none⟩)) else undef) else undef)) :: (fun q_ _ _ => q_ = (bif P1 then (bif m then (.pointer (some ⟨g, 0, none⟩)) else undef) else undef)) :: (fun q_ _ _ => q_ = (bif P1 then (bif m then (.pointer (some ⟨g, 7, none⟩)) else undef) else undef)) :: (fun q_ _ _ => q_ = (bif P1 then (bif m then (.int .i8 c.mode) else undef) else undef)) :: (fun q_ _ _ => q_ = (bif P1 then (bif m then (.bool M1) else undef) else undef)) :: (fun q_ _ _ => q_ = (bif P1 then (bif m then (.bool M1) else undef) else undef)) :: (fun q_ _ _ => q_ = (bif P1 then (bif m then (bif M1 then undef else (.pointer (some ⟨g, 0, none⟩))) else undef) else undef)) :: (fun q_ _ _ => q_ = (bif P1 then (bif m then (bif M1 then undef else (.pointer (some ⟨g, 0, none⟩))) else undef) else undef)) :: (fun q_ _ _ => q_ = (bif P1 then (bif m then (bif M1 then undef else (.pointer (some ⟨g, 0, none⟩))) else undef) else undef)) :: (fun q_ _ _ => q_ = (bif P1 then (bif m then (bif M1 then undef else (.pointer (some ⟨g, 7, none⟩))) else undef) else undef)) :: (fun q_ _ _ => q_ = (bif P1 then (bif m then (bif M1 then undef else (.int .i8 c.mode)) else undef) else undef)) :: (fun q_ _ _ => q_ = (bif P1 then (bif m then (bif M1 then undef else (.bool M2)) else undef) else undef)) :: (fun q_ _ _ => q_ = (bif P1 then (bif m then (.bool M3) else undef) else undef)) :: (fun q_ _ _ => q_ = (bif P1 then (.bool MM) else undef)) :: (fun q_ _ _ => q_ = (bif P1 then (.bool MM) else undef)) :: (fun q_ _ _ => q_ = (bif P1 then (bif MM then undef else (.bool m)) else undef)) :: (fun q_ _ _ => q_ = (bif P1 then (bif MM then undef else (.bool !m)) else undef)) :: (fun q_ _ _ => q_ = (bif P1 then (bif MM then undef else (.bool !m)) else undef)) :: (fun q_ _ _ => q_ = (bif P1 then (bif MM then undef else (bif m then undef else (.pointer (some ⟨g, 0, none⟩)))) else undef)) :: (fun q_ _ _ => q_ = (bif P1 then (bif MM then undef else (bif m then undef else (.pointer (some ⟨g, 0, none⟩)))) else undef)) :: (fun q_ _ _ => q_ = (bif P1 then (bif MM then undef else (bif m then undef else (.pointer (some ⟨g, 0, none⟩)))) else undef)) :: (fun q_ _ _ => q_ = (bif P1 then (bif MM then undef else (bif m then undef else (.pointer (some ⟨g, 7, none⟩)))) else undef)) :: (fun q_ _ _ => q_ = (bif P1 then (bif MM then undef else (bif m then undef else (.int .i8 c.mode))) else undef)) :: (fun q_ _ _ => q_ = (bif P1 then (bif MM then undef else (bif m then undef else (.bool M0))) else undef)) :: (fun q_ _ _ => q_ = (bif P1 then (bif MM then undef else (.bool Y2)) else undef)) :: (fun q_ _ _ => q_ = (bif P1 then (.bool M4) else undef)) :: (fun q_ _ _ => q_ = (.bool Q1)) :: (fun q_ _ _ => q_ = (.bool Q1)) :: (fun q_ _ _ => q_ = (bif Q1 then (.bool d) else undef)) :: (fun q_ _ _ => q_ = (bif Q1 then (.bool d) else undef)) :: (fun q_ _ _ => q_ = (bif Q1 then (bif d then (.pointer (some ⟨g, 0, none⟩)) else undef) else undef)) :: (fun q_ _ _ => q_ = (bif Q1 then (bif d then (.pointer (some ⟨g, 0, none⟩)) else undef) else undef)) :: (fun q_ _ _ => q_ = (bif Q1 then (bif d then (.pointer (some ⟨g, 0, none⟩)) else undef) else undef)) :: (fun q_ _ _ => q_ = (bif Q1 then (bif d then (.pointer (some ⟨g, 3, none⟩)) else undef) else undef)) :: (fun q_ _ _ => q_ = (bif Q1 then (bif d then (.int .i64 c.dead) else undef) else undef)) :: (fun q_ _ _ => q_ = (bif Q1 then (bif d then (.bool D) else undef) else undef)) :: (fun q_ _ _ => q_ = (bif Q1 then (.bool DD) else undef)) :: (fun q_ _ _ => q_ = (bif Q1 then (.bool DD) else undef)) :: (fun q_ _ _ => q_ = (bif Q1 then (bif DD then undef else (.bool d)) else undef)) :: (fun q_ _ _ => q_ = (bif Q1 then (bif DD then undef else (.bool !d)) else undef)) :: (fun q_ _ _ => q_ = (bif Q1 then (bif DD then undef else (.bool !d)) else undef)) :: (fun q_ _ _ => q_ = (bif Q1 then (bif DD then undef else (bif d then undef else (.pointer (some ⟨g, 0, none⟩)))) else undef)) :: (fun q_ _ _ => q_ = (bif Q1 then (bif DD then undef else (bif d then undef else (.pointer (some ⟨g, 0, none⟩)))) else undef)) :: (fun q_ _ _ => q_ = (bif Q1 then (bif DD then undef else (bif d then undef else (.pointer (some ⟨g, 0, none⟩)))) else undef)) :: (fun q_ _ _ => q_ = (bif Q1 then (bif DD then undef else (bif d then undef else (.pointer (some ⟨g, 3, none⟩)))) else undef)) :: (fun q_ _ _ => q_ = (bif Q1 then (bif DD then undef else (bif d then undef else (.int .i64 c.dead))) else undef)) :: (fun q_ _ _ => q_ = (bif Q1 then (bif DD then undef else (bif d then undef else (.bool D0))) else undef)) :: (fun q_ _ _ => q_ = (bif Q1 then (bif DD then undef else (.bool Y3)) else undef)) :: (fun q_ _ _ => q_ = (bif Q1 then (.bool D4) else undef)) :: (fun q_ _ _ => q_ = (.bool R1)) :: (fun q_ _ _ => q_ = (.bool R1)) :: (fun q_ _ _ => q_ = (bif R1 then (.pointer (some ⟨g, 0, none⟩)) else undef)) :: (fun q_ _ _ => q_ = (bif R1 then (.pointer (some ⟨g, 0, none⟩)) else undef)) :: (fun q_ _ _ => q_ = (bif R1 then (.pointer (some ⟨g, 0, none⟩)) else undef)) :: (fun q_ _ _ => q_ = (bif R1 then (.pointer (some ⟨g, 4, none⟩)) else undef)) :: (fun q_ _ _ => q_ = (bif R1 then (.int .i64 c.was) else undef)) :: (fun q_ _ _ => q_ = (bif R1 then (.bool W0) else undef)) :: (fun q_ _ _ => q_ = (bif R1 then (.bool W0) else undef)) :: (fun q_ _ _ => q_ = (bif R1 then (bif W0 then undef else (.bool k)) else undef)) :: (fun q_ _ _ => q_ = (bif R1 then (bif W0 then undef else (.bool k)) else undef)) :: (fun q_ _ _ => q_ = (bif R1 then (bif W0 then undef else (bif k then (.pointer (some ⟨g, 0, none⟩)) else undef)) else undef)) :: (fun q_ _ _ => q_ = (bif R1 then (bif W0 then undef else (bif k then (.pointer (some ⟨g, 0, none⟩)) else undef)) else undef)) :: (fun q_ _ _ => q_ = (bif R1 then (bif W0 then undef else (bif k then (.pointer (some ⟨g, 0, none⟩)) else undef)) else undef)) :: (fun q_ _ _ => q_ = (bif R1 then (bif W0 then undef else (bif k then (.pointer (some ⟨g, 4, none⟩)) else undef)) else undef)) :: (fun q_ _ _ => q_ = (bif R1 then (bif W0 then undef else (bif k then (.int .i64 c.was) else undef)) else undef)) :: (fun q_ _ _ => q_ = (bif R1 then (bif W0 then undef else (bif k then (.bool K) else undef)) else undef)) :: (fun q_ _ _ => q_ = (bif R1 then (bif W0 then undef else (.bool Y4)) else undef)) :: (fun q_ _ _ => q_ = (bif R1 then (.bool W4) else undef)) :: (fun q_ _ _ => q_ = (.bool F)) :: (fun q_ _ _ => q_ = (.bool F)) :: []) (fun _ => false) (w.heap.size) w (by kernel_rfl) (by kernel_rfl) (by kernel_rfl) (Below.refl _ _) (Nat.le_refl _) ?zStab (fun _ h => by cases h) ?zOps ?zFin
  case zStab => exact ⟨st_is _, st_is _, st_is _, st_is _, st_is _, st_is _, st_is _, st_is _, st_is _, st_is _, st_is _, st_is _, st_is _, st_is _, st_is _, st_is _, st_is _, st_is _, st_is _, st_is _, st_is _, st_is _, st_is _, st_is _, st_is _, st_is _, st_is _, st_is _, st_is _, st_is _, st_is _, st_is _, st_is _, st_is _, st_is _, st_is _, st_is _, st_is _, st_is _, st_is _, st_is _, st_is _, st_is _, st_is _, st_is _, st_is _, st_is _, st_is _, st_is _, st_is _, st_is _, st_is _, st_is _, st_is _, st_is _, st_is _, st_is _, st_is _, st_is _, st_is _, st_is _, st_is _, st_is _, st_is _, st_is _, st_is _, st_is _, st_is _, st_is _, st_is _, st_is _, st_is _, st_is _, st_is _, st_is _, st_is _, st_is _, st_is _, st_is _, st_is _, st_is _, st_is _, st_is _, st_is _, st_is _, st_is _, st_is _, st_is _, st_is _, st_is _, st_is _, st_is _, trivial⟩
  case zOps =>
    intro Q
    refine ⟨?_, ?_, ?_, ?_, ?_, ?_, ?_, ?_, ?_, ?_, ?_, ?_, ?_, ?_, ?_, ?_, ?_, ?_, ?_, ?_, ?_, ?_, ?_, ?_, ?_, ?_, ?_, ?_, ?_, ?_, ?_, ?_, ?_, ?_, ?_, ?_, ?_, ?_, ?_, ?_, ?_, ?_, ?_, ?_, ?_, ?_, ?_, ?_, ?_, ?_, ?_, ?_, ?_, ?_, ?_, ?_, ?_, ?_, ?_, ?_, ?_, ?_, ?_, ?_, ?_, ?_, ?_, ?_, ?_, ?_, ?_, ?_, ?_, ?_, ?_, ?_, ?_, ?_, ?_, ?_, ?_, ?_, ?_, ?_, ?_, ?_, ?_, ?_, ?_, ?_, ?_, ?_, trivial⟩
    · intro ho a W hW hd hx
      have h1 : a.eval (.tmp 1) = .bool s := (hx 1 (dst_not (by kernel_rfl))).trans rfl
      exact op_v ho (.bool s) rfl (by intro ρ hρ kc kf; rw [← hρ] at h1; clear hρ; simp [execOp, go_sem, h1]) rfl rfl
    · intro ho a W hW hd hx
      have h11 : a.eval (.tmp 11) = .bool s := hd 0 (by kernel_rfl)
      exact op_v ho (.bool s) rfl (by intro ρ hρ kc kf; rw [← hρ] at h11; clear hρ; simp [execOp, go_sem, h11]) rfl rfl
    · intro ho a W hW hd hx
      have hg : a.eval (.tmp 12) = (.bool s) := hd 1 (by kernel_rfl)
      cases s with
      | true =>
        have h0 : a.eval (.tmp 0) = .pointer (some ⟨g, 0, none⟩) := (hx 0 (dst_not (by kernel_rfl))).trans rfl
        exact op_vg ho (.pointer (some ⟨g, 0, none⟩)) rfl hg (by intro ρ hρ kc kf; rw [← hρ] at h0; clear hρ; simp [execOp, go_sem, h0]) rfl rfl
      | false =>
        exact op_off ho rfl hg (by decide) rfl
    · intro ho a W hW hd hx
      have hg : a.eval (.tmp 12) = (.bool s) := hd 1 (by kernel_rfl)
      cases s with
      | true =>
        have h13 : a.eval (.tmp 13) = .pointer (some ⟨g, 0, none⟩) := hd 2 (by kernel_rfl)
        refine op_call ho (want_yes rfl (show valAt _ a 1 = _ from hg)) (by intro ρ hρ kc kf; rw [← hρ] at h13; clear hρ; simp [execOp, go_sem, h13, kf]) (SP.out W hW) ?_
        rintro e W2 ⟨rfl, k2⟩
        exact ⟨_, rfl, _, rfl, (fun h => by cases h), rfl, k2, (fun h => absurd h (by decide))⟩
      | false =>
        exact op_off ho rfl hg (by decide) rfl
    · intro ho a W hW hd hx
      cases s with
      | true =>
        have h12 : a.eval (.tmp 12) = .bool true := hd 1 (by kernel_rfl)
        have h14 : a.eval (.tmp 14) = .bool A := hd 3 (by kernel_rfl)
        exact op_v ho (.bool X) rfl (by intro ρ hρ kc kf; rw [← hρ] at h12 h14; clear hρ; simp [execOp, go_sem, h12, h14, ← HX.out]) rfl rfl
      | false =>
        have h12 : a.eval (.tmp 12) = .bool false := hd 1 (by kernel_rfl)
        exact op_v ho (.bool X) rfl (by intro ρ hρ kc kf; rw [← hρ] at h12; clear hρ; simp [execOp, go_sem, h12, kc, ← HX.out]) rfl rfl
    · intro ho a W hW hd hx
      have h15 : a.eval (.tmp 15) = .bool X := hd 4 (by kernel_rfl)
      exact op_v ho (.bool X) rfl (by intro ρ hρ kc kf; rw [← hρ] at h15; clear hρ; simp [execOp, go_sem, h15]) rfl rfl
    · intro ho a W hW hd hx
      have hg : a.eval (.tmp 16) = (.bool X) := hd 5 (by kernel_rfl)
      cases X with
      | true =>
        exact op_off ho rfl hg (by decide) rfl
      | false =>
        have h1 : a.eval (.tmp 1) = .bool s := (hx 1 (dst_not (by kernel_rfl))).trans rfl
        exact op_vg ho (.bool s) rfl hg (by intro ρ hρ kc kf; rw [← hρ] at h1; clear hρ; simp [execOp, go_sem, h1]) rfl rfl
    · intro ho a W hW hd hx
      have hg : a.eval (.tmp 16) = (.bool X) := hd 5 (by kernel_rfl)
      cases X with
      | true =>
        exact op_off ho rfl hg (by decide) rfl
      | false =>
        have h17 : a.eval (.tmp 17) = .bool s := hd 6 (by kernel_rfl)
        exact op_vg ho (.bool !s) rfl hg (by intro ρ hρ kc kf; rw [← hρ] at h17; clear hρ; simp [execOp, go_sem, h17]) rfl rfl
    · intro ho a W hW hd hx
      have hg : a.eval (.tmp 16) = (.bool X) := hd 5 (by kernel_rfl)
      cases X with
      | true =>
        exact op_off ho rfl hg (by decide) rfl
      | false =>
        have h18 : a.eval (.tmp 18) = .bool !s := hd 7 (by kernel_rfl)
        exact op_vg ho (.bool !s) rfl hg (by intro ρ hρ kc kf; rw [← hρ] at h18; clear hρ; simp [execOp, go_sem, h18]) rfl rfl
    · intro ho a W hW hd hx
      have hg : a.eval (.tmp 19) = (bif X then undef else (.bool !s)) := hd 8 (by kernel_rfl)
      cases X with
      | true =>
        exact op_un ho rfl hg rfl
      | false =>
        cases s with
        | true =>
          exact op_off ho rfl hg (by decide) rfl
        | false =>
          have h0 : a.eval (.tmp 0) = .pointer (some ⟨g, 0, none⟩) := (hx 0 (dst_not (by kernel_rfl))).trans rfl
          exact op_vg ho (.pointer (some ⟨g, 0, none⟩)) rfl hg (by intro ρ hρ kc kf; rw [← hρ] at h0; clear hρ; simp [execOp, go_sem, h0]) rfl rfl
    · intro ho a W hW hd hx
      have hg : a.eval (.tmp 19) = (bif X then undef else (.bool !s)) := hd 8 (by kernel_rfl)
      cases X with
      | true =>
        exact op_un ho rfl hg rfl
      | false =>
        cases s with
        | true =>
          exact op_off ho rfl hg (by decide) rfl
        | false =>
          have h20 : a.eval (.tmp 20) = .pointer (some ⟨g, 0, none⟩) := hd 9 (by kernel_rfl)
          exact op_vg ho (.pointer (some ⟨g, 0, none⟩)) rfl hg (by intro ρ hρ kc kf; rw [← hρ] at h20; clear hρ; simp [execOp, go_sem, h20]) rfl rfl
    · intro ho a W hW hd hx
      have hg : a.eval (.tmp 19) = (bif X then undef else (.bool !s)) := hd 8 (by kernel_rfl)
      cases X with
      | true =>
        exact op_un ho rfl hg rfl
      | false =>
        cases s with
        | true =>
          exact op_off ho rfl hg (by decide) rfl
        | false =>
          have h21 : a.eval (.tmp 21) = .pointer (some ⟨g, 0, none⟩) := hd 10 (by kernel_rfl)
          exact op_vg ho (.pointer (some ⟨g, 0, none⟩)) rfl hg (by intro ρ hρ kc kf; rw [← hρ] at h21; clear hρ; simp [execOp, go_sem, h21]) rfl rfl
    · intro ho a W hW hd hx
      have hg : a.eval (.tmp 19) = (bif X then undef else (.bool !s)) := hd 8 (by kernel_rfl)
      cases X with
      | true =>
        exact op_un ho rfl hg rfl
      | false =>
        cases s with
        | true =>
          exact op_off ho rfl hg (by decide) rfl
        | false =>
          have h22 : a.eval (.tmp 22) = .pointer (some ⟨g, 0, none⟩) := hd 11 (by kernel_rfl)
          exact op_vg ho (.pointer (some ⟨g, 5, none⟩)) rfl hg (by intro ρ hρ kc kf; rw [← hρ] at h22; clear hρ; simp [execOp, go_sem, h22]) rfl rfl
    · intro ho a W hW hd hx
      have hg : a.eval (.tmp 19) = (bif X then undef else (.bool !s)) := hd 8 (by kernel_rfl)
      cases X with
      | true =>
        exact op_un ho rfl hg rfl
      | false =>
        cases s with
        | true =>
          exact op_off ho rfl hg (by decide) rfl
        | false =>
          have h23 : a.eval (.tmp 23) = .pointer (some ⟨g, 5, none⟩) := hd 12 (by kernel_rfl)
          have hc1 : W.cell? ⟨g, 5, none⟩ = some (.int .i64 c.lo) := by rw [(HB.out.below hW HB.out.lt).cell 5]; rfl
          have hc2 : W.cell? ⟨g, 6, none⟩ = some (.int .i64 c.hi) := by rw [(HB.out.below hW HB.out.lt).cell 6]; rfl
          exact op_vg ho (.agg #[.int .i64 c.lo, .int .i64 c.hi]) rfl hg (by intro ρ hρ kc kf; rw [← hρ] at h23; clear hρ; simp [execOp, go_sem, h23, hc1, hc2]) rfl rfl
    · intro ho a W hW hd hx
      have hg : a.eval (.tmp 19) = (bif X then undef else (.bool !s)) := hd 8 (by kernel_rfl)
      cases X with
      | true =>
        exact op_un ho rfl hg rfl
      | false =>
        cases s with
        | true =>
          exact op_off ho rfl hg (by decide) rfl
        | false =>
          exact op_vg ho (.agg #[.int .i64 0, .int .i64 0]) rfl hg (by intro ρ hρ kc kf; clear hρ; simp [execOp, go_sem]) rfl rfl
    · intro ho a W hW hd hx
      have hg : a.eval (.tmp 19) = (bif X then undef else (.bool !s)) := hd 8 (by kernel_rfl)
      cases X with
      | true =>
        exact op_un ho rfl hg rfl
      | false =>
        cases s with
        | true =>
          exact op_off ho rfl hg (by decide) rfl
        | false =>
          have h24 : a.eval (.tmp 24) = .agg #[.int .i64 c.lo, .int .i64 c.hi] := hd 13 (by kernel_rfl)
          have h25 : a.eval (.tmp 25) = .agg #[.int .i64 0, .int .i64 0] := hd 14 (by kernel_rfl)
          exact op_vg ho (.bool Z) rfl hg (by intro ρ hρ kc kf; rw [← hρ] at h24 h25; clear hρ; simp [execOp, go_sem, h24, h25, HZ.out]) rfl rfl
    · intro ho a W hW hd hx
      have hg : a.eval (.tmp 16) = (.bool X) := hd 5 (by kernel_rfl)
      cases X with
      | true =>
        exact op_off ho rfl hg (by decide) rfl
      | false =>
        cases s with
        | true =>
          have h19 : a.eval (.tmp 19) = .bool !true := hd 8 (by kernel_rfl)
          exact op_vg ho (.bool Y1) rfl hg (by intro ρ hρ kc kf; rw [← hρ] at h19; clear hρ; simp [execOp, go_sem, h19, kc, ← HY1.out]) rfl rfl
        | false =>
          have h19 : a.eval (.tmp 19) = .bool !false := hd 8 (by kernel_rfl)
          have h26 : a.eval (.tmp 26) = .bool Z := hd 15 (by kernel_rfl)
          exact op_vg ho (.bool Y1) rfl hg (by intro ρ hρ kc kf; rw [← hρ] at h19 h26; clear hρ; simp [execOp, go_sem, h19, h26, ← HY1.out]) rfl rfl
    · intro ho a W hW hd hx
      cases X with
      | true =>
        have h16 : a.eval (.tmp 16) = .bool true := hd 5 (by kernel_rfl)
        exact op_v ho (.bool P1) rfl (by intro ρ hρ kc kf; rw [← hρ] at h16; clear hρ; simp [execOp, go_sem, h16, kc, ← HP1.out]) rfl rfl
      | false =>
        have h16 : a.eval (.tmp 16) = .bool false := hd 5 (by kernel_rfl)
        have h27 : a.eval (.tmp 27) = .bool Y1 := hd 16 (by kernel_rfl)
        exact op_v ho (.bool P1) rfl (by intro ρ hρ kc kf; rw [← hρ] at h16 h27; clear hρ; simp [execOp, go_sem, h16, h27, ← HP1.out]) rfl rfl
    · intro ho a W hW hd hx
      have h28 : a.eval (.tmp 28) = .bool P1 := hd 17 (by kernel_rfl)
      exact op_v ho (.bool P1) rfl (by intro ρ hρ kc kf; rw [← hρ] at h28; clear hρ; simp [execOp, go_sem, h28]) rfl rfl
    · intro ho a W hW hd hx
      have hg : a.eval (.tmp 29) = (.bool P1) := hd 18 (by kernel_rfl)
      cases P1 with
      | true =>
        have h2 : a.eval (.tmp 2) = .bool m := (hx 2 (dst_not (by kernel_rfl))).trans rfl
        exact op_vg ho (.bool m) rfl hg (by intro ρ hρ kc kf; rw [← hρ] at h2; clear hρ; simp [execOp, go_sem, h2]) rfl rfl
      | false =>
        exact op_off ho rfl hg (by decide) rfl
    · intro ho a W hW hd hx
      have hg : a.eval (.tmp 29) = (.bool P1) := hd 18 (by kernel_rfl)
      cases P1 with
      | true =>
        have h30 : a.eval (.tmp 30) = .bool m := hd 19 (by kernel_rfl)
        exact op_vg ho (.bool m) rfl hg (by intro ρ hρ kc kf; rw [← hρ] at h30; clear hρ; simp [execOp, go_sem, h30]) rfl rfl
      | false =>
        exact op_off ho rfl hg (by decide) rfl
    · intro ho a W hW hd hx
      have hg : a.eval (.tmp 31) = (bif P1 then (.bool m) else undef) := hd 20 (by kernel_rfl)
      cases P1 with
      | true =>
        cases m with
        | true =>
          have h0 : a.eval (.tmp 0) = .pointer (some ⟨g, 0, none⟩) := (hx 0 (dst_not (by kernel_rfl))).trans rfl
          exact op_vg ho (.pointer (some ⟨g, 0, none⟩)) rfl hg (by intro ρ hρ kc kf; rw [← hρ] at h0; clear hρ; simp [execOp, go_sem, h0]) rfl rfl
        | false =>
          exact op_off ho rfl hg (by decide) rfl
      | false =>
        exact op_un ho rfl hg rfl
    · intro ho a W hW hd hx
      have hg : a.eval (.tmp 31) = (bif P1 then (.bool m) else undef) := hd 20 (by kernel_rfl)
      cases P1 with
      | true =>
        cases m with
        | true =>
          have h32 : a.eval (.tmp 32) = .pointer (some ⟨g, 0, none⟩) := hd 21 (by kernel_rfl)
          exact op_vg ho (.pointer (some ⟨g, 0, none⟩)) rfl hg (by intro ρ hρ kc kf; rw [← hρ] at h32; clear hρ; simp [execOp, go_sem, h32]) rfl rfl
        | false =>
          exact op_off ho rfl hg (by decide) rfl
      | false =>
        exact op_un ho rfl hg rfl
    · intro ho a W hW hd hx
      have hg : a.eval (.tmp 31) = (bif P1 then (.bool m) else undef) := hd 20 (by kernel_rfl)
      cases P1 with
      | true =>
        cases m with
        | true =>
          have h33 : a.eval (.tmp 33) = .pointer (some ⟨g, 0, none⟩) := hd 22 (by kernel_rfl)
          exact op_vg ho (.pointer (some ⟨g, 0, none⟩)) rfl hg (by intro ρ hρ kc kf; rw [← hρ] at h33; clear hρ; simp [execOp, go_sem, h33]) rfl rfl
        | false =>
          exact op_off ho rfl hg (by decide) rfl
      | false =>
        exact op_un ho rfl hg rfl
    · intro ho a W hW hd hx
      have hg : a.eval (.tmp 31) = (bif P1 then (.bool m) else undef) := hd 20 (by kernel_rfl)
      cases P1 with
      | true =>
        cases m with
        | true =>
          have h34 : a.eval (.tmp 34) = .pointer (some ⟨g, 0, none⟩) := hd 23 (by kernel_rfl)
          exact op_vg ho (.pointer (some ⟨g, 7, none⟩)) rfl hg (by intro ρ hρ kc kf; rw [← hρ] at h34; clear hρ; simp [execOp, go_sem, h34]) rfl rfl
        | false =>
          exact op_off ho rfl hg (by decide) rfl
      | false =>
        exact op_un ho rfl hg rfl
    · intro ho a W hW hd hx
      have hg : a.eval (.tmp 31) = (bif P1 then (.bool m) else undef) := hd 20 (by kernel_rfl)
      cases P1 with
      | true =>
        cases m with
        | true =>
          have h35 : a.eval (.tmp 35) = .pointer (some ⟨g, 7, none⟩) := hd 24 (by kernel_rfl)
          have hc : W.cell? ⟨g, 7, none⟩ = some (.int .i8 c.mode) := by rw [(HB.out.below hW HB.out.lt).cell 7]; rfl
          exact op_vg ho (.int .i8 c.mode) rfl hg (by intro ρ hρ kc kf; rw [← hρ] at h35; clear hρ; simp [execOp, go_sem, h35, hc]) rfl rfl
        | false =>
          exact op_off ho rfl hg (by decide) rfl
      | false =>
        exact op_un ho rfl hg rfl
    · intro ho a W hW hd hx
      have hg : a.eval (.tmp 31) = (bif P1 then (.bool m) else undef) := hd 20 (by kernel_rfl)
      cases P1 with
      | true =>
        cases m with
        | true =>
          have h36 : a.eval (.tmp 36) = .int .i8 c.mode := hd 25 (by kernel_rfl)
          exact op_vg ho (.bool M1) rfl hg (by intro ρ hρ kc kf; rw [← hρ] at h36; clear hρ; simp [execOp, go_sem, h36, HM1.out, kc]) rfl rfl
        | false =>
          exact op_off ho rfl hg (by decide) rfl
      | false =>
        exact op_un ho rfl hg rfl
    · intro ho a W hW hd hx
      have hg : a.eval (.tmp 31) = (bif P1 then (.bool m) else undef) := hd 20 (by kernel_rfl)
      cases P1 with
      | true =>
        cases m with
        | true =>
          have h37 : a.eval (.tmp 37) = .bool M1 := hd 26 (by kernel_rfl)
          exact op_vg ho (.bool M1) rfl hg (by intro ρ hρ kc kf; rw [← hρ] at h37; clear hρ; simp [execOp, go_sem, h37]) rfl rfl
        | false =>
          exact op_off ho rfl hg (by decide) rfl
      | false =>
        exact op_un ho rfl hg rfl
    · intro ho a W hW hd hx
      have hg : a.eval (.tmp 38) = (bif P1 then (bif m then (.bool M1) else undef) else undef) := hd 27 (by kernel_rfl)
      cases P1 with
      | true =>
        cases m with
        | true =>
          cases M1 with
          | true =>
            exact op_off ho rfl hg (by decide) rfl
          | false =>
            have h0 : a.eval (.tmp 0) = .pointer (some ⟨g, 0, none⟩) := (hx 0 (dst_not (by kernel_rfl))).trans rfl
            exact op_vg ho (.pointer (some ⟨g, 0, none⟩)) rfl hg (by intro ρ hρ kc kf; rw [← hρ] at h0; clear hρ; simp [execOp, go_sem, h0]) rfl rfl
        | false =>
          exact op_un ho rfl hg rfl
      | false =>
        exact op_un ho rfl hg rfl
    · intro ho a W hW hd hx
      have hg : a.eval (.tmp 38) = (bif P1 then (bif m then (.bool M1) else undef) else undef) := hd 27 (by kernel_rfl)
      cases P1 with
      | true =>
        cases m with
        | true =>
          cases M1 with
          | true =>
            exact op_off ho rfl hg (by decide) rfl
          | false =>
            have h39 : a.eval (.tmp 39) = .pointer (some ⟨g, 0, none⟩) := hd 28 (by kernel_rfl)
            exact op_vg ho (.pointer (some ⟨g, 0, none⟩)) rfl hg (by intro ρ hρ kc kf; rw [← hρ] at h39; clear hρ; simp [execOp, go_sem, h39]) rfl rfl
        | false =>
          exact op_un ho rfl hg rfl
      | false =>
        exact op_un ho rfl hg rfl
    · intro ho a W hW hd hx
      have hg : a.eval (.tmp 38) = (bif P1 then (bif m then (.bool M1) else undef) else undef) := hd 27 (by kernel_rfl)
      cases P1 with
      | true =>
        cases m with
        | true =>
          cases M1 with
          | true =>
            exact op_off ho rfl hg (by decide) rfl
          | false =>
            have h40 : a.eval (.tmp 40) = .pointer (some ⟨g, 0, none⟩) := hd 29 (by kernel_rfl)
            exact op_vg ho (.pointer (some ⟨g, 0, none⟩)) rfl hg (by intro ρ hρ kc kf; rw [← hρ] at h40; clear hρ; simp [execOp, go_sem, h40]) rfl rfl
        | false =>
          exact op_un ho rfl hg rfl
      | false =>
        exact op_un ho rfl hg rfl
    · intro ho a W hW hd hx
      have hg : a.eval (.tmp 38) = (bif P1 then (bif m then (.bool M1) else undef) else undef) := hd 27 (by kernel_rfl)
      cases P1 with
      | true =>
        cases m with
        | true =>
          cases M1 with
          | true =>
            exact op_off ho rfl hg (by decide) rfl
          | false =>
            have h41 : a.eval (.tmp 41) = .pointer (some ⟨g, 0, none⟩) := hd 30 (by kernel_rfl)
            exact op_vg ho (.pointer (some ⟨g, 7, none⟩)) rfl hg (by intro ρ hρ kc kf; rw [← hρ] at h41; clear hρ; simp [execOp, go_sem, h41]) rfl rfl
        | false =>
          exact op_un ho rfl hg rfl
      | false =>
        exact op_un ho rfl hg rfl
    · intro ho a W hW hd hx
      have hg : a.eval (.tmp 38) = (bif P1 then (bif m then (.bool M1) else undef) else undef) := hd 27 (by kernel_rfl)
      cases P1 with
      | true =>
        cases m with
        | true =>
          cases M1 with
          | true =>
            exact op_off ho rfl hg (by decide) rfl
          | false =>
            have h42 : a.eval (.tmp 42) = .pointer (some ⟨g, 7, none⟩) := hd 31 (by kernel_rfl)
            have hc : W.cell? ⟨g, 7, none⟩ = some (.int .i8 c.mode) := by rw [(HB.out.below hW HB.out.lt).cell 7]; rfl
            exact op_vg ho (.int .i8 c.mode) rfl hg (by intro ρ hρ kc kf; rw [← hρ] at h42; clear hρ; simp [execOp, go_sem, h42, hc]) rfl rfl
        | false =>
          exact op_un ho rfl hg rfl
      | false =>
        exact op_un ho rfl hg rfl
    · intro ho a W hW hd hx
      have hg : a.eval (.tmp 38) = (bif P1 then (bif m then (.bool M1) else undef) else undef) := hd 27 (by kernel_rfl)
      cases P1 with
      | true =>
        cases m with
        | true =>
          cases M1 with
          | true =>
            exact op_off ho rfl hg (by decide) rfl
          | false =>
            have h43 : a.eval (.tmp 43) = .int .i8 c.mode := hd 32 (by kernel_rfl)
            exact op_vg ho (.bool M2) rfl hg (by intro ρ hρ kc kf; rw [← hρ] at h43; clear hρ; simp [execOp, go_sem, h43, HM2.out, kc]) rfl rfl
        | false =>
          exact op_un ho rfl hg rfl
      | false =>
        exact op_un ho rfl hg rfl
    · intro ho a W hW hd hx
      have hg : a.eval (.tmp 31) = (bif P1 then (.bool m) else undef) := hd 20 (by kernel_rfl)
      cases P1 with
      | true =>
        cases m with
        | true =>
          cases M1 with
          | true =>
            have h38 : a.eval (.tmp 38) = .bool true := hd 27 (by kernel_rfl)
            exact op_vg ho (.bool M3) rfl hg (by intro ρ hρ kc kf; rw [← hρ] at h38; clear hρ; simp [execOp, go_sem, h38, kc, ← HM3.out]) rfl rfl
          | false =>
            have h38 : a.eval (.tmp 38) = .bool false := hd 27 (by kernel_rfl)
            have h44 : a.eval (.tmp 44) = .bool M2 := hd 33 (by kernel_rfl)
            exact op_vg ho (.bool M3) rfl hg (by intro ρ hρ kc kf; rw [← hρ] at h38 h44; clear hρ; simp [execOp, go_sem, h38, h44, ← HM3.out]) rfl rfl
        | false =>
          exact op_off ho rfl hg (by decide) rfl
      | false =>
        exact op_un ho rfl hg rfl
    · intro ho a W hW hd hx
      have hg : a.eval (.tmp 29) = (.bool P1) := hd 18 (by kernel_rfl)
      cases P1 with
      | true =>
        cases m with
        | true =>
          have h31 : a.eval (.tmp 31) = .bool true := hd 20 (by kernel_rfl)
          have h45 : a.eval (.tmp 45) = .bool M3 := hd 34 (by kernel_rfl)
          exact op_vg ho (.bool MM) rfl hg (by intro ρ hρ kc kf; rw [← hρ] at h31 h45; clear hρ; simp [execOp, go_sem, h31, h45, ← HMM.out]) rfl rfl
        | false =>
          have h31 : a.eval (.tmp 31) = .bool false := hd 20 (by kernel_rfl)
          exact op_vg ho (.bool MM) rfl hg (by intro ρ hρ kc kf; rw [← hρ] at h31; clear hρ; simp [execOp, go_sem, h31, kc, ← HMM.out]) rfl rfl
      | false =>
        exact op_off ho rfl hg (by decide) rfl
    · intro ho a W hW hd hx
      have hg : a.eval (.tmp 29) = (.bool P1) := hd 18 (by kernel_rfl)
      cases P1 with
      | true =>
        have h46 : a.eval (.tmp 46) = .bool MM := hd 35 (by kernel_rfl)
        exact op_vg ho (.bool MM) rfl hg (by intro ρ hρ kc kf; rw [← hρ] at h46; clear hρ; simp [execOp, go_sem, h46]) rfl rfl
      | false =>
        exact op_off ho rfl hg (by decide) rfl
    · intro ho a W hW hd hx
      have hg : a.eval (.tmp 47) = (bif P1 then (.bool MM) else undef) := hd 36 (by kernel_rfl)
      cases P1 with
      | true =>
        cases MM with
        | true =>
          exact op_off ho rfl hg (by decide) rfl
        | false =>
          have h2 : a.eval (.tmp 2) = .bool m := (hx 2 (dst_not (by kernel_rfl))).trans rfl
          exact op_vg ho (.bool m) rfl hg (by intro ρ hρ kc kf; rw [← hρ] at h2; clear hρ; simp [execOp, go_sem, h2]) rfl rfl
      | false =>
        exact op_un ho rfl hg rfl
    · intro ho a W hW hd hx
      have hg : a.eval (.tmp 47) = (bif P1 then (.bool MM) else undef) := hd 36 (by kernel_rfl)
      cases P1 with
      | true =>
        cases MM with
        | true =>
          exact op_off ho rfl hg (by decide) rfl
        | false =>
          have h48 : a.eval (.tmp 48) = .bool m := hd 37 (by kernel_rfl)
          exact op_vg ho (.bool !m) rfl hg (by intro ρ hρ kc kf; rw [← hρ] at h48; clear hρ; simp [execOp, go_sem, h48]) rfl rfl
      | false =>
        exact op_un ho rfl hg rfl
    · intro ho a W hW hd hx
      have hg : a.eval (.tmp 47) = (bif P1 then (.bool MM) else undef) := hd 36 (by kernel_rfl)
      cases P1 with
      | true =>
        cases MM with
        | true =>
          exact op_off ho rfl hg (by decide) rfl
        | false =>
          have h49 : a.eval (.tmp 49) = .bool !m := hd 38 (by kernel_rfl)
          exact op_vg ho (.bool !m) rfl hg (by intro ρ hρ kc kf; rw [← hρ] at h49; clear hρ; simp [execOp, go_sem, h49]) rfl rfl
      | false =>
        exact op_un ho rfl hg rfl
    · intro ho a W hW hd hx
      have hg : a.eval (.tmp 50) = (bif P1 then (bif MM then undef else (.bool !m)) else undef) := hd 39 (by kernel_rfl)
      cases P1 with
      | true =>
        cases MM with
        | true =>
          exact op_un ho rfl hg rfl
        | false =>
          cases m with
          | true =>
            exact op_off ho rfl hg (by decide) rfl
          | false =>
            have h0 : a.eval (.tmp 0) = .pointer (some ⟨g, 0, none⟩) := (hx 0 (dst_not (by kernel_rfl))).trans rfl
            exact op_vg ho (.pointer (some ⟨g, 0, none⟩)) rfl hg (by intro ρ hρ kc kf; rw [← hρ] at h0; clear hρ; simp [execOp, go_sem, h0]) rfl rfl
      | false =>
        exact op_un ho rfl hg rfl
    · intro ho a W hW hd hx
      have hg : a.eval (.tmp 50) = (bif P1 then (bif MM then undef else (.bool !m)) else undef) := hd 39 (by kernel_rfl)
      cases P1 with
      | true =>
        cases MM with
        | true =>
          exact op_un ho rfl hg rfl
        | false =>
          cases m with
          | true =>
            exact op_off ho rfl hg (by decide) rfl
          | false =>
            have h51 : a.eval (.tmp 51) = .pointer (some ⟨g, 0, none⟩) := hd 40 (by kernel_rfl)
            exact op_vg ho (.pointer (some ⟨g, 0, none⟩)) rfl hg (by intro ρ hρ kc kf; rw [← hρ] at h51; clear hρ; simp [execOp, go_sem, h51]) rfl rfl
      | false =>
        exact op_un ho rfl hg rfl
    · intro ho a W hW hd hx
      have hg : a.eval (.tmp 50) = (bif P1 then (bif MM then undef else (.bool !m)) else undef) := hd 39 (by kernel_rfl)
      cases P1 with
      | true =>
        cases MM with
        | true =>
          exact op_un ho rfl hg rfl
        | false =>
          cases m with
          | true =>
            exact op_off ho rfl hg (by decide) rfl
          | false =>
            have h52 : a.eval (.tmp 52) = .pointer (some ⟨g, 0, none⟩) := hd 41 (by kernel_rfl)
            exact op_vg ho (.pointer (some ⟨g, 0, none⟩)) rfl hg (by intro ρ hρ kc kf; rw [← hρ] at h52; clear hρ; simp [execOp, go_sem, h52]) rfl rfl
      | false =>
        exact op_un ho rfl hg rfl
    · intro ho a W hW hd hx
      have hg : a.eval (.tmp 50) = (bif P1 then (bif MM then undef else (.bool !m)) else undef) := hd 39 (by kernel_rfl)
      cases P1 with
      | true =>
        cases MM with
        | true =>
          exact op_un ho rfl hg rfl
        | false =>
          cases m with
          | true =>
            exact op_off ho rfl hg (by decide) rfl
          | false =>
            have h53 : a.eval (.tmp 53) = .pointer (some ⟨g, 0, none⟩) := hd 42 (by kernel_rfl)
            exact op_vg ho (.pointer (some ⟨g, 7, none⟩)) rfl hg (by intro ρ hρ kc kf; rw [← hρ] at h53; clear hρ; simp [execOp, go_sem, h53]) rfl rfl
      | false =>
        exact op_un ho rfl hg rfl
    · intro ho a W hW hd hx
      have hg : a.eval (.tmp 50) = (bif P1 then (bif MM then undef else (.bool !m)) else undef) := hd 39 (by kernel_rfl)
      cases P1 with
      | true =>
        cases MM with
        | true =>
          exact op_un ho rfl hg rfl
        | false =>
          cases m with
          | true =>
            exact op_off ho rfl hg (by decide) rfl
          | false =>
            have h54 : a.eval (.tmp 54) = .pointer (some ⟨g, 7, none⟩) := hd 43 (by kernel_rfl)
            have hc : W.cell? ⟨g, 7, none⟩ = some (.int .i8 c.mode) := by rw [(HB.out.below hW HB.out.lt).cell 7]; rfl
            exact op_vg ho (.int .i8 c.mode) rfl hg (by intro ρ hρ kc kf; rw [← hρ] at h54; clear hρ; simp [execOp, go_sem, h54, hc]) rfl rfl
      | false =>
        exact op_un ho rfl hg rfl
    · intro ho a W hW hd hx
      have hg : a.eval (.tmp 50) = (bif P1 then (bif MM then undef else (.bool !m)) else undef) := hd 39 (by kernel_rfl)
      cases P1 with
      | true =>
        cases MM with
        | true =>
          exact op_un ho rfl hg rfl
        | false =>
          cases m with
          | true =>
            exact op_off ho rfl hg (by decide) rfl
          | false =>
            have h55 : a.eval (.tmp 55) = .int .i8 c.mode := hd 44 (by kernel_rfl)
            exact op_vg ho (.bool M0) rfl hg (by intro ρ hρ kc kf; rw [← hρ] at h55; clear hρ; simp [execOp, go_sem, h55, HM0.out, kc]) rfl rfl
      | false =>
        exact op_un ho rfl hg rfl
    · intro ho a W hW hd hx
      have hg : a.eval (.tmp 47) = (bif P1 then (.bool MM) else undef) := hd 36 (by kernel_rfl)
      cases P1 with
      | true =>
        cases MM with
        | true =>
          exact op_off ho rfl hg (by decide) rfl
        | false =>
          cases m with
          | true =>
            have h50 : a.eval (.tmp 50) = .bool !true := hd 39 (by kernel_rfl)
            exact op_vg ho (.bool Y2) rfl hg (by intro ρ hρ kc kf; rw [← hρ] at h50; clear hρ; simp [execOp, go_sem, h50, kc, ← HY2.out]) rfl rfl
          | false =>
            have h50 : a.eval (.tmp 50) = .bool !false := hd 39 (by kernel_rfl)
            have h56 : a.eval (.tmp 56) = .bool M0 := hd 45 (by kernel_rfl)
            exact op_vg ho (.bool Y2) rfl hg (by intro ρ hρ kc kf; rw [← hρ] at h50 h56; clear hρ; simp [execOp, go_sem, h50, h56, ← HY2.out]) rfl rfl
      | false =>
        exact op_un ho rfl hg rfl
    · intro ho a W hW hd hx
      have hg : a.eval (.tmp 29) = (.bool P1) := hd 18 (by kernel_rfl)
      cases P1 with
      | true =>
        cases MM with
        | true =>
          have h47 : a.eval (.tmp 47) = .bool true := hd 36 (by kernel_rfl)
          exact op_vg ho (.bool M4) rfl hg (by intro ρ hρ kc kf; rw [← hρ] at h47; clear hρ; simp [execOp, go_sem, h47, kc, ← HM4.out]) rfl rfl
        | false =>
          have h47 : a.eval (.tmp 47) = .bool false := hd 36 (by kernel_rfl)
          have h57 : a.eval (.tmp 57) = .bool Y2 := hd 46 (by kernel_rfl)
          exact op_vg ho (.bool M4) rfl hg (by intro ρ hρ kc kf; rw [← hρ] at h47 h57; clear hρ; simp [execOp, go_sem, h47, h57, ← HM4.out]) rfl rfl
      | false =>
        exact op_off ho rfl hg (by decide) rfl
    · intro ho a W hW hd hx
      cases P1 with
      | true =>
        have h29 : a.eval (.tmp 29) = .bool true := hd 18 (by kernel_rfl)
        have h58 : a.eval (.tmp 58) = .bool M4 := hd 47 (by kernel_rfl)
        exact op_v ho (.bool Q1) rfl (by intro ρ hρ kc kf; rw [← hρ] at h29 h58; clear hρ; simp [execOp, go_sem, h29, h58, ← HQ1.out]) rfl rfl
      | false =>
        have h29 : a.eval (.tmp 29) = .bool false := hd 18 (by kernel_rfl)
        exact op_v ho (.bool Q1) rfl (by intro ρ hρ kc kf; rw [← hρ] at h29; clear hρ; simp [execOp, go_sem, h29, kc, ← HQ1.out]) rfl rfl
    · intro ho a W hW hd hx
      have h59 : a.eval (.tmp 59) = .bool Q1 := hd 48 (by kernel_rfl)
      exact op_v ho (.bool Q1) rfl (by intro ρ hρ kc kf; rw [← hρ] at h59; clear hρ; simp [execOp, go_sem, h59]) rfl rfl
    · intro ho a W hW hd hx
      have hg : a.eval (.tmp 60) = (.bool Q1) := hd 49 (by kernel_rfl)
      cases Q1 with
      | true =>
        have h3 : a.eval (.tmp 3) = .bool d := (hx 3 (dst_not (by kernel_rfl))).trans rfl
        exact op_vg ho (.bool d) rfl hg (by intro ρ hρ kc kf; rw [← hρ] at h3; clear hρ; simp [execOp, go_sem, h3]) rfl rfl
      | false =>
        exact op_off ho rfl hg (by decide) rfl
    · intro ho a W hW hd hx
      have hg : a.eval (.tmp 60) = (.bool Q1) := hd 49 (by kernel_rfl)
      cases Q1 with
      | true =>
        have h61 : a.eval (.tmp 61) = .bool d := hd 50 (by kernel_rfl)
        exact op_vg ho (.bool d) rfl hg (by intro ρ hρ kc kf; rw [← hρ] at h61; clear hρ; simp [execOp, go_sem, h61]) rfl rfl
      | false =>
        exact op_off ho rfl hg (by decide) rfl
    · intro ho a W hW hd hx
      have hg : a.eval (.tmp 62) = (bif Q1 then (.bool d) else undef) := hd 51 (by kernel_rfl)
      cases Q1 with
      | true =>
        cases d with
        | true =>
          have h0 : a.eval (.tmp 0) = .pointer (some ⟨g, 0, none⟩) := (hx 0 (dst_not (by kernel_rfl))).trans rfl
          exact op_vg ho (.pointer (some ⟨g, 0, none⟩)) rfl hg (by intro ρ hρ kc kf; rw [← hρ] at h0; clear hρ; simp [execOp, go_sem, h0]) rfl rfl
        | false =>
          exact op_off ho rfl hg (by decide) rfl
      | false =>
        exact op_un ho rfl hg rfl
    · intro ho a W hW hd hx
      have hg : a.eval (.tmp 62) = (bif Q1 then (.bool d) else undef) := hd 51 (by kernel_rfl)
      cases Q1 with
      | true =>
        cases d with
        | true =>
          have h63 : a.eval (.tmp 63) = .pointer (some ⟨g, 0, none⟩) := hd 52 (by kernel_rfl)
          exact op_vg ho (.pointer (some ⟨g, 0, none⟩)) rfl hg (by intro ρ hρ kc kf; rw [← hρ] at h63; clear hρ; simp [execOp, go_sem, h63]) rfl rfl
        | false =>
          exact op_off ho rfl hg (by decide) rfl
      | false =>
        exact op_un ho rfl hg rfl
    · intro ho a W hW hd hx
      have hg : a.eval (.tmp 62) = (bif Q1 then (.bool d) else undef) := hd 51 (by kernel_rfl)
      cases Q1 with
      | true =>
        cases d with
        | true =>
          have h64 : a.eval (.tmp 64) = .pointer (some ⟨g, 0, none⟩) := hd 53 (by kernel_rfl)
          exact op_vg ho (.pointer (some ⟨g, 0, none⟩)) rfl hg (by intro ρ hρ kc kf; rw [← hρ] at h64; clear hρ; simp [execOp, go_sem, h64]) rfl rfl
        | false =>
          exact op_off ho rfl hg (by decide) rfl
      | false =>
        exact op_un ho rfl hg rfl
    · intro ho a W hW hd hx
      have hg : a.eval (.tmp 62) = (bif Q1 then (.bool d) else undef) := hd 51 (by kernel_rfl)
      cases Q1 with
      | true =>
        cases d with
        | true =>
          have h65 : a.eval (.tmp 65) = .pointer (some ⟨g, 0, none⟩) := hd 54 (by kernel_rfl)
          exact op_vg ho (.pointer (some ⟨g, 3, none⟩)) rfl hg (by intro ρ hρ kc kf; rw [← hρ] at h65; clear hρ; simp [execOp, go_sem, h65]) rfl rfl
        | false =>
          exact op_off ho rfl hg (by decide) rfl
      | false =>
        exact op_un ho rfl hg rfl
    · intro ho a W hW hd hx
      have hg : a.eval (.tmp 62) = (bif Q1 then (.bool d) else undef) := hd 51 (by kernel_rfl)
      cases Q1 with
      | true =>
        cases d with
        | true =>
          have h66 : a.eval (.tmp 66) = .pointer (some ⟨g, 3, none⟩) := hd 55 (by kernel_rfl)
          have hc : W.cell? ⟨g, 3, none⟩ = some (.int .i64 c.dead) := by rw [(HB.out.below hW HB.out.lt).cell 3]; rfl
          exact op_vg ho (.int .i64 c.dead) rfl hg (by intro ρ hρ kc kf; rw [← hρ] at h66; clear hρ; simp [execOp, go_sem, h66, hc]) rfl rfl
        | false =>
          exact op_off ho rfl hg (by decide) rfl
      | false =>
        exact op_un ho rfl hg rfl
    · intro ho a W hW hd hx
      have hg : a.eval (.tmp 62) = (bif Q1 then (.bool d) else undef) := hd 51 (by kernel_rfl)
      cases Q1 with
      | true =>
        cases d with
        | true =>
          have h67 : a.eval (.tmp 67) = .int .i64 c.dead := hd 56 (by kernel_rfl)
          refine op_call ho (want_yes rfl (show valAt _ a 51 = _ from hg)) (by intro ρ hρ kc kf; rw [← hρ] at h67; clear hρ; simp [execOp, go_sem, h67, kf]) (KD.out W) ?_
          rintro e W2 ⟨rfl, k2⟩
          exact ⟨_, rfl, _, rfl, (fun h => by cases h), rfl, k2, (fun h => absurd h (by decide))⟩
        | false =>
          exact op_off ho rfl hg (by decide) rfl
      | false =>
        exact op_un ho rfl hg rfl
    · intro ho a W hW hd hx
      have hg : a.eval (.tmp 60) = (.bool Q1) := hd 49 (by kernel_rfl)
      cases Q1 with
      | true =>
        cases d with
        | true =>
          have h62 : a.eval (.tmp 62) = .bool true := hd 51 (by kernel_rfl)
          have h68 : a.eval (.tmp 68) = .bool D := hd 57 (by kernel_rfl)
          exact op_vg ho (.bool DD) rfl hg (by intro ρ hρ kc kf; rw [← hρ] at h62 h68; clear hρ; simp [execOp, go_sem, h62, h68, ← HDD.out]) rfl rfl
        | false =>
          have h62 : a.eval (.tmp 62) = .bool false := hd 51 (by kernel_rfl)
          exact op_vg ho (.bool DD) rfl hg (by intro ρ hρ kc kf; rw [← hρ] at h62; clear hρ; simp [execOp, go_sem, h62, kc, ← HDD.out]) rfl rfl
      | false =>
        exact op_off ho rfl hg (by decide) rfl
    · intro ho a W hW hd hx
      have hg : a.eval (.tmp 60) = (.bool Q1) := hd 49 (by kernel_rfl)
      cases Q1 with
      | true =>
        have h69 : a.eval (.tmp 69) = .bool DD := hd 58 (by kernel_rfl)
        exact op_vg ho (.bool DD) rfl hg (by intro ρ hρ kc kf; rw [← hρ] at h69; clear hρ; simp [execOp, go_sem, h69]) rfl rfl
      | false =>
        exact op_off ho rfl hg (by decide) rfl
    · intro ho a W hW hd hx
      have hg : a.eval (.tmp 70) = (bif Q1 then (.bool DD) else undef) := hd 59 (by kernel_rfl)
      cases Q1 with
      | true =>
        cases DD with
        | true =>
          exact op_off ho rfl hg (by decide) rfl
        | false =>
          have h3 : a.eval (.tmp 3) = .bool d := (hx 3 (dst_not (by kernel_rfl))).trans rfl
          exact op_vg ho (.bool d) rfl hg (by intro ρ hρ kc kf; rw [← hρ] at h3; clear hρ; simp [execOp, go_sem, h3]) rfl rfl
      | false =>
        exact op_un ho rfl hg rfl
    · intro ho a W hW hd hx
      have hg : a.eval (.tmp 70) = (bif Q1 then (.bool DD) else undef) := hd 59 (by kernel_rfl)
      cases Q1 with
      | true =>
        cases DD with
        | true =>
          exact op_off ho rfl hg (by decide) rfl
        | false =>
          have h71 : a.eval (.tmp 71) = .bool d := hd 60 (by kernel_rfl)
          exact op_vg ho (.bool !d) rfl hg (by intro ρ hρ kc kf; rw [← hρ] at h71; clear hρ; simp [execOp, go_sem, h71]) rfl rfl
      | false =>
        exact op_un ho rfl hg rfl
    · intro ho a W hW hd hx
      have hg : a.eval (.tmp 70) = (bif Q1 then (.bool DD) else undef) := hd 59 (by kernel_rfl)
      cases Q1 with
      | true =>
        cases DD with
        | true =>
          exact op_off ho rfl hg (by decide) rfl
        | false =>
          have h72 : a.eval (.tmp 72) = .bool !d := hd 61 (by kernel_rfl)
          exact op_vg ho (.bool !d) rfl hg (by intro ρ hρ kc kf; rw [← hρ] at h72; clear hρ; simp [execOp, go_sem, h72]) rfl rfl
      | false =>
        exact op_un ho rfl hg rfl
    · intro ho a W hW hd hx
      have hg : a.eval (.tmp 73) = (bif Q1 then (bif DD then undef else (.bool !d)) else undef) := hd 62 (by kernel_rfl)
      cases Q1 with
      | true =>
        cases DD with
        | true =>
          exact op_un ho rfl hg rfl
        | false =>
          cases d with
          | true =>
            exact op_off ho rfl hg (by decide) rfl
          | false =>
            have h0 : a.eval (.tmp 0) = .pointer (some ⟨g, 0, none⟩) := (hx 0 (dst_not (by kernel_rfl))).trans rfl
            exact op_vg ho (.pointer (some ⟨g, 0, none⟩)) rfl hg (by intro ρ hρ kc kf; rw [← hρ] at h0; clear hρ; simp [execOp, go_sem, h0]) rfl rfl
      | false =>
        exact op_un ho rfl hg rfl
    · intro ho a W hW hd hx
      have hg : a.eval (.tmp 73) = (bif Q1 then (bif DD then undef else (.bool !d)) else undef) := hd 62 (by kernel_rfl)
      cases Q1 with
      | true =>
        cases DD with
        | true =>
          exact op_un ho rfl hg rfl
        | false =>
          cases d with
          | true =>
            exact op_off ho rfl hg (by decide) rfl
          | false =>
            have h74 : a.eval (.tmp 74) = .pointer (some ⟨g, 0, none⟩) := hd 63 (by kernel_rfl)
            exact op_vg ho (.pointer (some ⟨g, 0, none⟩)) rfl hg (by intro ρ hρ kc kf; rw [← hρ] at h74; clear hρ; simp [execOp, go_sem, h74]) rfl rfl
      | false =>
        exact op_un ho rfl hg rfl
    · intro ho a W hW hd hx
      have hg : a.eval (.tmp 73) = (bif Q1 then (bif DD then undef else (.bool !d)) else undef) := hd 62 (by kernel_rfl)
      cases Q1 with
      | true =>
        cases DD with
        | true =>
          exact op_un ho rfl hg rfl
        | false =>
          cases d with
          | true =>
            exact op_off ho rfl hg (by decide) rfl
          | false =>
            have h75 : a.eval (.tmp 75) = .pointer (some ⟨g, 0, none⟩) := hd 64 (by kernel_rfl)
            exact op_vg ho (.pointer (some ⟨g, 0, none⟩)) rfl hg (by intro ρ hρ kc kf; rw [← hρ] at h75; clear hρ; simp [execOp, go_sem, h75]) rfl rfl
      | false =>
        exact op_un ho rfl hg rfl
    · intro ho a W hW hd hx
      have hg : a.eval (.tmp 73) = (bif Q1 then (bif DD then undef else (.bool !d)) else undef) := hd 62 (by kernel_rfl)
      cases Q1 with
      | true =>
        cases DD with
        | true =>
          exact op_un ho rfl hg rfl
        | false =>
          cases d with
          | true =>
            exact op_off ho rfl hg (by decide) rfl
          | false =>
            have h76 : a.eval (.tmp 76) = .pointer (some ⟨g, 0, none⟩) := hd 65 (by kernel_rfl)
            exact op_vg ho (.pointer (some ⟨g, 3, none⟩)) rfl hg (by intro ρ hρ kc kf; rw [← hρ] at h76; clear hρ; simp [execOp, go_sem, h76]) rfl rfl
      | false =>
        exact op_un ho rfl hg rfl
    · intro ho a W hW hd hx
      have hg : a.eval (.tmp 73) = (bif Q1 then (bif DD then undef else (.bool !d)) else undef) := hd 62 (by kernel_rfl)
      cases Q1 with
      | true =>
        cases DD with
        | true =>
          exact op_un ho rfl hg rfl
        | false =>
          cases d with
          | true =>
            exact op_off ho rfl hg (by decide) rfl
          | false =>
            have h77 : a.eval (.tmp 77) = .pointer (some ⟨g, 3, none⟩) := hd 66 (by kernel_rfl)
            have hc : W.cell? ⟨g, 3, none⟩ = some (.int .i64 c.dead) := by rw [(HB.out.below hW HB.out.lt).cell 3]; rfl
            exact op_vg ho (.int .i64 c.dead) rfl hg (by intro ρ hρ kc kf; rw [← hρ] at h77; clear hρ; simp [execOp, go_sem, h77, hc]) rfl rfl
      | false =>
        exact op_un ho rfl hg rfl
    · intro ho a W hW hd hx
      have hg : a.eval (.tmp 73) = (bif Q1 then (bif DD then undef else (.bool !d)) else undef) := hd 62 (by kernel_rfl)
      cases Q1 with
      | true =>
        cases DD with
        | true =>
          exact op_un ho rfl hg rfl
        | false =>
          cases d with
          | true =>
            exact op_off ho rfl hg (by decide) rfl
          | false =>
            have h78 : a.eval (.tmp 78) = .int .i64 c.dead := hd 67 (by kernel_rfl)
            exact op_vg ho (.bool D0) rfl hg (by intro ρ hρ kc kf; rw [← hρ] at h78; clear hρ; simp [execOp, go_sem, h78, HD0.out, kc]) rfl rfl
      | false =>
        exact op_un ho rfl hg rfl
    · intro ho a W hW hd hx
      have hg : a.eval (.tmp 70) = (bif Q1 then (.bool DD) else undef) := hd 59 (by kernel_rfl)
      cases Q1 with
      | true =>
        cases DD with
        | true =>
          exact op_off ho rfl hg (by decide) rfl
        | false =>
          cases d with
          | true =>
            have h73 : a.eval (.tmp 73) = .bool !true := hd 62 (by kernel_rfl)
            exact op_vg ho (.bool Y3) rfl hg (by intro ρ hρ kc kf; rw [← hρ] at h73; clear hρ; simp [execOp, go_sem, h73, kc, ← HY3.out]) rfl rfl
          | false =>
            have h73 : a.eval (.tmp 73) = .bool !false := hd 62 (by kernel_rfl)
            have h79 : a.eval (.tmp 79) = .bool D0 := hd 68 (by kernel_rfl)
            exact op_vg ho (.bool Y3) rfl hg (by intro ρ hρ kc kf; rw [← hρ] at h73 h79; clear hρ; simp [execOp, go_sem, h73, h79, ← HY3.out]) rfl rfl
      | false =>
        exact op_un ho rfl hg rfl
    · intro ho a W hW hd hx
      have hg : a.eval (.tmp 60) = (.bool Q1) := hd 49 (by kernel_rfl)
      cases Q1 with
      | true =>
        cases DD with
        | true =>
          have h70 : a.eval (.tmp 70) = .bool true := hd 59 (by kernel_rfl)
          exact op_vg ho (.bool D4) rfl hg (by intro ρ hρ kc kf; rw [← hρ] at h70; clear hρ; simp [execOp, go_sem, h70, kc, ← HD4.out]) rfl rfl
        | false =>
          have h70 : a.eval (.tmp 70) = .bool false := hd 59 (by kernel_rfl)
          have h80 : a.eval (.tmp 80) = .bool Y3 := hd 69 (by kernel_rfl)
          exact op_vg ho (.bool D4) rfl hg (by intro ρ hρ kc kf; rw [← hρ] at h70 h80; clear hρ; simp [execOp, go_sem, h70, h80, ← HD4.out]) rfl rfl
      | false =>
        exact op_off ho rfl hg (by decide) rfl
    · intro ho a W hW hd hx
      cases Q1 with
      | true =>
        have h60 : a.eval (.tmp 60) = .bool true := hd 49 (by kernel_rfl)
        have h81 : a.eval (.tmp 81) = .bool D4 := hd 70 (by kernel_rfl)
        exact op_v ho (.bool R1) rfl (by intro ρ hρ kc kf; rw [← hρ] at h60 h81; clear hρ; simp [execOp, go_sem, h60, h81, ← HR1.out]) rfl rfl
      | false =>
        have h60 : a.eval (.tmp 60) = .bool false := hd 49 (by kernel_rfl)
        exact op_v ho (.bool R1) rfl (by intro ρ hρ kc kf; rw [← hρ] at h60; clear hρ; simp [execOp, go_sem, h60, kc, ← HR1.out]) rfl rfl
    · intro ho a W hW hd hx
      have h82 : a.eval (.tmp 82) = .bool R1 := hd 71 (by kernel_rfl)
      exact op_v ho (.bool R1) rfl (by intro ρ hρ kc kf; rw [← hρ] at h82; clear hρ; simp [execOp, go_sem, h82]) rfl rfl
    · intro ho a W hW hd hx
      have hg : a.eval (.tmp 83) = (.bool R1) := hd 72 (by kernel_rfl)
      cases R1 with
      | true =>
        have h0 : a.eval (.tmp 0) = .pointer (some ⟨g, 0, none⟩) := (hx 0 (dst_not (by kernel_rfl))).trans rfl
        exact op_vg ho (.pointer (some ⟨g, 0, none⟩)) rfl hg (by intro ρ hρ kc kf; rw [← hρ] at h0; clear hρ; simp [execOp, go_sem, h0]) rfl rfl
      | false =>
        exact op_off ho rfl hg (by decide) rfl
    · intro ho a W hW hd hx
      have hg : a.eval (.tmp 83) = (.bool R1) := hd 72 (by kernel_rfl)
      cases R1 with
      | true =>
        have h84 : a.eval (.tmp 84) = .pointer (some ⟨g, 0, none⟩) := hd 73 (by kernel_rfl)
        exact op_vg ho (.pointer (some ⟨g, 0, none⟩)) rfl hg (by intro ρ hρ kc kf; rw [← hρ] at h84; clear hρ; simp [execOp, go_sem, h84]) rfl rfl
      | false =>
        exact op_off ho rfl hg (by decide) rfl
    · intro ho a W hW hd hx
      have hg : a.eval (.tmp 83) = (.bool R1) := hd 72 (by kernel_rfl)
      cases R1 with
      | true =>
        have h85 : a.eval (.tmp 85) = .pointer (some ⟨g, 0, none⟩) := hd 74 (by kernel_rfl)
        exact op_vg ho (.pointer (some ⟨g, 0, none⟩)) rfl hg (by intro ρ hρ kc kf; rw [← hρ] at h85; clear hρ; simp [execOp, go_sem, h85]) rfl rfl
      | false =>
        exact op_off ho rfl hg (by decide) rfl
    · intro ho a W hW hd hx
      have hg : a.eval (.tmp 83) = (.bool R1) := hd 72 (by kernel_rfl)
      cases R1 with
      | true =>
        have h86 : a.eval (.tmp 86) = .pointer (some ⟨g, 0, none⟩) := hd 75 (by kernel_rfl)
        exact op_vg ho (.pointer (some ⟨g, 4, none⟩)) rfl hg (by intro ρ hρ kc kf; rw [← hρ] at h86; clear hρ; simp [execOp, go_sem, h86]) rfl rfl
      | false =>
        exact op_off ho rfl hg (by decide) rfl
    · intro ho a W hW hd hx
      have hg : a.eval (.tmp 83) = (.bool R1) := hd 72 (by kernel_rfl)
      cases R1 with
      | true =>
        have h87 : a.eval (.tmp 87) = .pointer (some ⟨g, 4, none⟩) := hd 76 (by kernel_rfl)
        have hc : W.cell? ⟨g, 4, none⟩ = some (.int .i64 c.was) := by rw [(HB.out.below hW HB.out.lt).cell 4]; rfl
        exact op_vg ho (.int .i64 c.was) rfl hg (by intro ρ hρ kc kf; rw [← hρ] at h87; clear hρ; simp [execOp, go_sem, h87, hc]) rfl rfl
      | false =>
        exact op_off ho rfl hg (by decide) rfl
    · intro ho a W hW hd hx
      have hg : a.eval (.tmp 83) = (.bool R1) := hd 72 (by kernel_rfl)
      cases R1 with
      | true =>
        have h88 : a.eval (.tmp 88) = .int .i64 c.was := hd 77 (by kernel_rfl)
        exact op_vg ho (.bool W0) rfl hg (by intro ρ hρ kc kf; rw [← hρ] at h88; clear hρ; simp [execOp, go_sem, h88, HW0.out, kc]) rfl rfl
      | false =>
        exact op_off ho rfl hg (by decide) rfl
    · intro ho a W hW hd hx
      have hg : a.eval (.tmp 83) = (.bool R1) := hd 72 (by kernel_rfl)
      cases R1 with
      | true =>
        have h89 : a.eval (.tmp 89) = .bool W0 := hd 78 (by kernel_rfl)
        exact op_vg ho (.bool W0) rfl hg (by intro ρ hρ kc kf; rw [← hρ] at h89; clear hρ; simp [execOp, go_sem, h89]) rfl rfl
      | false =>
        exact op_off ho rfl hg (by decide) rfl
    · intro ho a W hW hd hx
      have hg : a.eval (.tmp 90) = (bif R1 then (.bool W0) else undef) := hd 79 (by kernel_rfl)
      cases R1 with
      | true =>
        cases W0 with
        | true =>
          exact op_off ho rfl hg (by decide) rfl
        | false =>
          have h4 : a.eval (.tmp 4) = .bool k := (hx 4 (dst_not (by kernel_rfl))).trans rfl
          exact op_vg ho (.bool k) rfl hg (by intro ρ hρ kc kf; rw [← hρ] at h4; clear hρ; simp [execOp, go_sem, h4]) rfl rfl
      | false =>
        exact op_un ho rfl hg rfl
    · intro ho a W hW hd hx
      have hg : a.eval (.tmp 90) = (bif R1 then (.bool W0) else undef) := hd 79 (by kernel_rfl)
      cases R1 with
      | true =>
        cases W0 with
        | true =>
          exact op_off ho rfl hg (by decide) rfl
        | false =>
          have h91 : a.eval (.tmp 91) = .bool k := hd 80 (by kernel_rfl)
          exact op_vg ho (.bool k) rfl hg (by intro ρ hρ kc kf; rw [← hρ] at h91; clear hρ; simp [execOp, go_sem, h91]) rfl rfl
      | false =>
        exact op_un ho rfl hg rfl
    · intro ho a W hW hd hx
      have hg : a.eval (.tmp 92) = (bif R1 then (bif W0 then undef else (.bool k)) else undef) := hd 81 (by kernel_rfl)
      cases R1 with
      | true =>
        cases W0 with
        | true =>
          exact op_un ho rfl hg rfl
        | false =>
          cases k with
          | true =>
            have h0 : a.eval (.tmp 0) = .pointer (some ⟨g, 0, none⟩) := (hx 0 (dst_not (by kernel_rfl))).trans rfl
            exact op_vg ho (.pointer (some ⟨g, 0, none⟩)) rfl hg (by intro ρ hρ kc kf; rw [← hρ] at h0; clear hρ; simp [execOp, go_sem, h0]) rfl rfl
          | false =>
            exact op_off ho rfl hg (by decide) rfl
      | false =>
        exact op_un ho rfl hg rfl
    · intro ho a W hW hd hx
      have hg : a.eval (.tmp 92) = (bif R1 then (bif W0 then undef else (.bool k)) else undef) := hd 81 (by kernel_rfl)
      cases R1 with
      | true =>
        cases W0 with
        | true =>
          exact op_un ho rfl hg rfl
        | false =>
          cases k with
          | true =>
            have h93 : a.eval (.tmp 93) = .pointer (some ⟨g, 0, none⟩) := hd 82 (by kernel_rfl)
            exact op_vg ho (.pointer (some ⟨g, 0, none⟩)) rfl hg (by intro ρ hρ kc kf; rw [← hρ] at h93; clear hρ; simp [execOp, go_sem, h93]) rfl rfl
          | false =>
            exact op_off ho rfl hg (by decide) rfl
      | false =>
        exact op_un ho rfl hg rfl
    · intro ho a W hW hd hx
      have hg : a.eval (.tmp 92) = (bif R1 then (bif W0 then undef else (.bool k)) else undef) := hd 81 (by kernel_rfl)
      cases R1 with
      | true =>
        cases W0 with
        | true =>
          exact op_un ho rfl hg rfl
        | false =>
          cases k with
          | true =>
            have h94 : a.eval (.tmp 94) = .pointer (some ⟨g, 0, none⟩) := hd 83 (by kernel_rfl)
            exact op_vg ho (.pointer (some ⟨g, 0, none⟩)) rfl hg (by intro ρ hρ kc kf; rw [← hρ] at h94; clear hρ; simp [execOp, go_sem, h94]) rfl rfl
          | false =>
            exact op_off ho rfl hg (by decide) rfl
      | false =>
        exact op_un ho rfl hg rfl
    · intro ho a W hW hd hx
      have hg : a.eval (.tmp 92) = (bif R1 then (bif W0 then undef else (.bool k)) else undef) := hd 81 (by kernel_rfl)
      cases R1 with
      | true =>
        cases W0 with
        | true =>
          exact op_un ho rfl hg rfl
        | false =>
          cases k with
          | true =>
            have h95 : a.eval (.tmp 95) = .pointer (some ⟨g, 0, none⟩) := hd 84 (by kernel_rfl)
            exact op_vg ho (.pointer (some ⟨g, 4, none⟩)) rfl hg (by intro ρ hρ kc kf; rw [← hρ] at h95; clear hρ; simp [execOp, go_sem, h95]) rfl rfl
          | false =>
            exact op_off ho rfl hg (by decide) rfl
      | false =>
        exact op_un ho rfl hg rfl
    · intro ho a W hW hd hx
      have hg : a.eval (.tmp 92) = (bif R1 then (bif W0 then undef else (.bool k)) else undef) := hd 81 (by kernel_rfl)
      cases R1 with
      | true =>
        cases W0 with
        | true =>
          exact op_un ho rfl hg rfl
        | false =>
          cases k with
          | true =>
            have h96 : a.eval (.tmp 96) = .pointer (some ⟨g, 4, none⟩) := hd 85 (by kernel_rfl)
            have hc : W.cell? ⟨g, 4, none⟩ = some (.int .i64 c.was) := by rw [(HB.out.below hW HB.out.lt).cell 4]; rfl
            exact op_vg ho (.int .i64 c.was) rfl hg (by intro ρ hρ kc kf; rw [← hρ] at h96; clear hρ; simp [execOp, go_sem, h96, hc]) rfl rfl
          | false =>
            exact op_off ho rfl hg (by decide) rfl
      | false =>
        exact op_un ho rfl hg rfl
    · intro ho a W hW hd hx
      have hg : a.eval (.tmp 92) = (bif R1 then (bif W0 then undef else (.bool k)) else undef) := hd 81 (by kernel_rfl)
      cases R1 with
      | true =>
        cases W0 with
        | true =>
          exact op_un ho rfl hg rfl
        | false =>
          cases k with
          | true =>
            have h97 : a.eval (.tmp 97) = .int .i64 c.was := hd 86 (by kernel_rfl)
            refine op_call ho (want_yes rfl (show valAt _ a 81 = _ from hg)) (by intro ρ hρ kc kf; rw [← hρ] at h97; clear hρ; simp [execOp, go_sem, h97, kf]) (KW.out W) ?_
            rintro e W2 ⟨rfl, k2⟩
            exact ⟨_, rfl, _, rfl, (fun h => by cases h), rfl, k2, (fun h => absurd h (by decide))⟩
          | false =>
            exact op_off ho rfl hg (by decide) rfl
      | false =>
        exact op_un ho rfl hg rfl
    · intro ho a W hW hd hx
      have hg : a.eval (.tmp 90) = (bif R1 then (.bool W0) else undef) := hd 79 (by kernel_rfl)
      cases R1 with
      | true =>
        cases W0 with
        | true =>
          exact op_off ho rfl hg (by decide) rfl
        | false =>
          cases k with
          | true =>
            have h92 : a.eval (.tmp 92) = .bool true := hd 81 (by kernel_rfl)
            have h98 : a.eval (.tmp 98) = .bool K := hd 87 (by kernel_rfl)
            exact op_vg ho (.bool Y4) rfl hg (by intro ρ hρ kc kf; rw [← hρ] at h92 h98; clear hρ; simp [execOp, go_sem, h92, h98, ← HY4.out]) rfl rfl
          | false =>
            have h92 : a.eval (.tmp 92) = .bool false := hd 81 (by kernel_rfl)
            exact op_vg ho (.bool Y4) rfl hg (by intro ρ hρ kc kf; rw [← hρ] at h92; clear hρ; simp [execOp, go_sem, h92, kc, ← HY4.out]) rfl rfl
      | false =>
        exact op_un ho rfl hg rfl
    · intro ho a W hW hd hx
      have hg : a.eval (.tmp 83) = (.bool R1) := hd 72 (by kernel_rfl)
      cases R1 with
      | true =>
        cases W0 with
        | true =>
          have h90 : a.eval (.tmp 90) = .bool true := hd 79 (by kernel_rfl)
          exact op_vg ho (.bool W4) rfl hg (by intro ρ hρ kc kf; rw [← hρ] at h90; clear hρ; simp [execOp, go_sem, h90, kc, ← HW4.out]) rfl rfl
        | false =>
          have h90 : a.eval (.tmp 90) = .bool false := hd 79 (by kernel_rfl)
          have h99 : a.eval (.tmp 99) = .bool Y4 := hd 88 (by kernel_rfl)
          exact op_vg ho (.bool W4) rfl hg (by intro ρ hρ kc kf; rw [← hρ] at h90 h99; clear hρ; simp [execOp, go_sem, h90, h99, ← HW4.out]) rfl rfl
      | false =>
        exact op_off ho rfl hg (by decide) rfl
    · intro ho a W hW hd hx
      cases R1 with
      | true =>
        have h83 : a.eval (.tmp 83) = .bool true := hd 72 (by kernel_rfl)
        have h100 : a.eval (.tmp 100) = .bool W4 := hd 89 (by kernel_rfl)
        exact op_v ho (.bool F) rfl (by intro ρ hρ kc kf; rw [← hρ] at h83 h100; clear hρ; simp [execOp, go_sem, h83, h100, ← HF.out]) rfl rfl
      | false =>
        have h83 : a.eval (.tmp 83) = .bool false := hd 72 (by kernel_rfl)
        exact op_v ho (.bool F) rfl (by intro ρ hρ kc kf; rw [← hρ] at h83; clear hρ; simp [execOp, go_sem, h83, kc, ← HF.out]) rfl rfl
    · intro ho a W hW hd hx
      have h101 : a.eval (.tmp 101) = .bool F := hd 90 (by kernel_rfl)
      exact op_v ho (.bool F) rfl (by intro ρ hρ kc kf; rw [← hρ] at h101; clear hρ; simp [execOp, go_sem, h101]) rfl rfl
  intro v W hW hv _
  have hs : v 91 = .bool F := hv 91 (by decide)
  simp only [List.append_eq, List.cons_append, List.nil_append, List.take_succ_cons, List.take_zero, List.drop_succ_cons, List.drop_zero, fillL, wpTail, Act.put, List.setIfInBounds_toArray, List.set_cons_zero, List.set_cons_succ, Nat.reduceAdd]
  rw [hs]
  go_wp2
  go_ret
  exact ⟨rfl, hW⟩

end Go.Proofs.Ytnoojlgefpekiaa
