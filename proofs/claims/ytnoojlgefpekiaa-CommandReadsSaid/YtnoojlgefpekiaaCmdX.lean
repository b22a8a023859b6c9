/-
  The reference's May: the walk. (Printed by cmd_rmay.py.)
-/
import Derived.Test.YtnoojlgefpekiaaCmdV
import Derived.Deep.Cut
namespace Go.Proofs.Ytnoojlgefpekiaa
open Go.RowKit

set_option maxRecDepth 100000 in
set_option maxHeartbeats 4000000 in
theorem rm_yes (c : Cm) (w : World) (hn : keyB c.node = true) (h1 : 1 ≤ c.serial) (h2 : c.serial ≤ 2147483648) :
    Calls Try.prog 36 #[.agg (cC c)] w fun e w2 => e = .returned (.bool (mayC c)) ∧ Below w.heap.size w w2 := by
  obtain ⟨L, hL⟩ : ∃ b, decide (0 ≤ c.lo) = b := ⟨_, rfl⟩
  obtain ⟨M, hM⟩ : ∃ b, decide (c.lo ≤ c.hi) = b := ⟨_, rfl⟩
  obtain ⟨LM, hLM⟩ : ∃ b, (L && M) = b := ⟨_, rfl⟩
  obtain ⟨E, hE⟩ : ∃ b, decide (c.hi < 64) = b := ⟨_, rfl⟩
  obtain ⟨S, hS⟩ : ∃ b, (LM && E) = b := ⟨_, rfl⟩
  have hsp : spanB c = S := by rw [← hS, ← hLM, ← hL, ← hM, ← hE]; rfl
  have HL := Lib.hid hL; have HM := Lib.hid hM; have HLM := Lib.hid hLM; have HE := Lib.hid hE; have HS := Lib.hid hS; have HSP := Lib.hid hsp
  clear hL hM hLM hE hS hsp
  have c1 := fun W => rkey_any c.node W
  rw [hn] at c1
  have C1 := Lib.hid c1; clear c1
  have HN := Lib.hid hn; have HS1 := Lib.hid h1; have HS2 := Lib.hid h2
  obtain ⟨W4, hW4⟩ : ∃ W4, W4 = (w.alloc (Obj.cells (cC c) 42)).alloc (Obj.cells (cC ⟨c.kind, c.node, c.serial, 0, 0, 0, 0, 0⟩) 42) := ⟨_, rfl⟩
  have kc : Blk W4 w.heap.size 42 (cC c) := by rw [hW4]; exact (Blk.new w 42 (cC c)).alloc _
  have kx : Blk W4 (w.heap.size + 1) 42 (cC ⟨c.kind, c.node, c.serial, 0, 0, 0, 0, 0⟩) := by rw [hW4]; simpa using Blk.new (w.alloc (Obj.cells (cC c) 42)) 42 (cC ⟨c.kind, c.node, c.serial, 0, 0, 0, 0, 0⟩)
  have kw : Below w.heap.size w W4 := by rw [hW4]; exact ((Below.refl _ _).alloc (Nat.le_refl _) _).alloc (by simp) _
  have KB := Lib.hid kc; have KX0 := Lib.hid kx; have KW0 := Lib.hid kw; have HW4 := Lib.hid hW4
  clear kc kx kw hW4 hn
  simp only [cC] at HW4
  change Calls Try.prog 36 #[.agg #[Value.int IntKind.i8 c.kind, Value.int IntKind.i64 c.node, Value.int IntKind.i64 c.serial, Value.int IntKind.i64 c.dead, Value.int IntKind.i64 c.was, Value.int IntKind.i64 c.lo, Value.int IntKind.i64 c.hi, Value.int IntKind.i8 c.mode]] w _
  go_enter Try.func36, Try.ntmps36
  go_wp2_with fail
  refine (C1.out _).mono ?_
  rintro e w1 ⟨rfl, rfl⟩
  clear C1
  go_upto_region 4 with fail
  rw [← HW4.out]
  clear HW4 h1 h2
  refine wp_region_grows 20 ((fun q_ _ _ => q_ = .pointer (some ⟨w.heap.size, 5, none⟩)) :: (fun q_ _ _ => q_ = .pointer (some ⟨w.heap.size, 5, none⟩)) :: (fun q_ _ _ => q_ = .int .i64 c.lo) :: (fun q_ _ _ => q_ = .bool L) :: (fun q_ _ _ => q_ = .bool L) :: (fun q_ _ _ => q_ = bif L then .pointer (some ⟨w.heap.size, 5, none⟩) else undef) :: (fun q_ _ _ => q_ = bif L then .pointer (some ⟨w.heap.size, 5, none⟩) else undef) :: (fun q_ _ _ => q_ = bif L then .int .i64 c.lo else undef) :: (fun q_ _ _ => q_ = bif L then .pointer (some ⟨w.heap.size, 5, none⟩) else undef) :: (fun q_ _ _ => q_ = bif L then .pointer (some ⟨w.heap.size, 6, none⟩) else undef) :: (fun q_ _ _ => q_ = bif L then .int .i64 c.hi else undef) :: (fun q_ _ _ => q_ = bif L then .bool M else undef) :: (fun q_ _ _ => q_ = .bool LM) :: (fun q_ _ _ => q_ = .bool LM) :: (fun q_ _ _ => q_ = bif LM then .pointer (some ⟨w.heap.size, 5, none⟩) else undef) :: (fun q_ _ _ => q_ = bif LM then .pointer (some ⟨w.heap.size, 6, none⟩) else undef) :: (fun q_ _ _ => q_ = bif LM then .int .i64 c.hi else undef) :: (fun q_ _ _ => q_ = bif LM then .bool E else undef) :: (fun q_ _ _ => q_ = .bool S) :: (fun q_ _ _ => q_ = .bool S) :: []) (fun _ => false) (W4.heap.size) W4 (by kernel_rfl) (by kernel_rfl) (by kernel_rfl) (Below.refl _ _) (Nat.le_refl _) ?zStab (fun _ h => by cases h) ?zOps ?zFin
  case zStab => exact ⟨st_is _, st_is _, st_is _, st_is _, st_is _, st_is _, st_is _, st_is _, st_is _, st_is _, st_is _, st_is _, st_is _, st_is _, st_is _, st_is _, st_is _, st_is _, st_is _, st_is _, trivial⟩
  case zOps =>
    intro Q
    refine ⟨?_, ?_, ?_, ?_, ?_, ?_, ?_, ?_, ?_, ?_, ?_, ?_, ?_, ?_, ?_, ?_, ?_, ?_, ?_, ?_, trivial⟩
    · intro ho a W hW hd hx
      have h1 : a.eval (.tmp 1) = .pointer (some ⟨w.heap.size, 0, none⟩) := (hx 1 (dst_not (by kernel_rfl))).trans rfl
      exact op_v ho (.pointer (some ⟨w.heap.size, 5, none⟩)) rfl (by intro ρ hρ kc kf; rw [← hρ] at h1; clear hρ; simp [execOp, go_sem, h1]) rfl rfl
    · intro ho a W hW hd hx
      have h26 : a.eval (.tmp 26) = .pointer (some ⟨w.heap.size, 5, none⟩) := hd 0 (by kernel_rfl)
      exact op_v ho (.pointer (some ⟨w.heap.size, 5, none⟩)) rfl (by intro ρ hρ kc kf; rw [← hρ] at h26; clear hρ; simp [execOp, go_sem, h26]) rfl rfl
    · intro ho a W hW hd hx
      have h27 : a.eval (.tmp 27) = .pointer (some ⟨w.heap.size, 5, none⟩) := hd 1 (by kernel_rfl)
      have hc : W.cell? ⟨w.heap.size, 5, none⟩ = some (.int .i64 c.lo) := by rw [(KB.out.below hW KB.out.lt).cell 5]; rfl
      exact op_v ho (.int .i64 c.lo) rfl (by intro ρ hρ kc kf; rw [← hρ] at h27; clear hρ; simp [execOp, go_sem, h27, hc]) rfl rfl
    · intro ho a W hW hd hx
      have h28 : a.eval (.tmp 28) = .int .i64 c.lo := hd 2 (by kernel_rfl)
      exact op_v ho (.bool L) rfl (by intro ρ hρ kc kf; rw [← hρ] at h28; clear hρ; simp [execOp, go_sem, kc, h28, HL.out]) rfl rfl
    · intro ho a W hW hd hx
      have h29 : a.eval (.tmp 29) = .bool L := hd 3 (by kernel_rfl)
      exact op_v ho (.bool L) rfl (by intro ρ hρ kc kf; rw [← hρ] at h29; clear hρ; simp [execOp, go_sem, h29]) rfl rfl
    · intro ho a W hW hd hx
      have h30 : a.eval (.tmp 30) = .bool L := hd 4 (by kernel_rfl)
      cases L with
      | false => exact op_off ho rfl h30 (by decide) rfl
      | true =>
        have h1 : a.eval (.tmp 1) = .pointer (some ⟨w.heap.size, 0, none⟩) := (hx 1 (dst_not (by kernel_rfl))).trans rfl
        exact op_vg ho (.pointer (some ⟨w.heap.size, 5, none⟩)) rfl h30 (by intro ρ hρ kc kf; rw [← hρ] at h1; clear hρ; simp [execOp, go_sem, h1]) rfl rfl
    · intro ho a W hW hd hx
      have h30 : a.eval (.tmp 30) = .bool L := hd 4 (by kernel_rfl)
      cases L with
      | false => exact op_off ho rfl h30 (by decide) rfl
      | true =>
        have h31 : a.eval (.tmp 31) = .pointer (some ⟨w.heap.size, 5, none⟩) := hd 5 (by kernel_rfl)
        exact op_vg ho (.pointer (some ⟨w.heap.size, 5, none⟩)) rfl h30 (by intro ρ hρ kc kf; rw [← hρ] at h31; clear hρ; simp [execOp, go_sem, h31]) rfl rfl
    · intro ho a W hW hd hx
      have h30 : a.eval (.tmp 30) = .bool L := hd 4 (by kernel_rfl)
      cases L with
      | false => exact op_off ho rfl h30 (by decide) rfl
      | true =>
        have h32 : a.eval (.tmp 32) = .pointer (some ⟨w.heap.size, 5, none⟩) := hd 6 (by kernel_rfl)
        have hc : W.cell? ⟨w.heap.size, 5, none⟩ = some (.int .i64 c.lo) := by rw [(KB.out.below hW KB.out.lt).cell 5]; rfl
        exact op_vg ho (.int .i64 c.lo) rfl h30 (by intro ρ hρ kc kf; rw [← hρ] at h32; clear hρ; simp [execOp, go_sem, h32, hc]) rfl rfl
    · intro ho a W hW hd hx
      have h30 : a.eval (.tmp 30) = .bool L := hd 4 (by kernel_rfl)
      cases L with
      | false => exact op_off ho rfl h30 (by decide) rfl
      | true =>
        have h1 : a.eval (.tmp 1) = .pointer (some ⟨w.heap.size, 0, none⟩) := (hx 1 (dst_not (by kernel_rfl))).trans rfl
        exact op_vg ho (.pointer (some ⟨w.heap.size, 5, none⟩)) rfl h30 (by intro ρ hρ kc kf; rw [← hρ] at h1; clear hρ; simp [execOp, go_sem, h1]) rfl rfl
    · intro ho a W hW hd hx
      have h30 : a.eval (.tmp 30) = .bool L := hd 4 (by kernel_rfl)
      cases L with
      | false => exact op_off ho rfl h30 (by decide) rfl
      | true =>
        have h34 : a.eval (.tmp 34) = .pointer (some ⟨w.heap.size, 5, none⟩) := hd 8 (by kernel_rfl)
        exact op_vg ho (.pointer (some ⟨w.heap.size, 6, none⟩)) rfl h30 (by intro ρ hρ kc kf; rw [← hρ] at h34; clear hρ; simp [execOp, go_sem, h34]) rfl rfl
    · intro ho a W hW hd hx
      have h30 : a.eval (.tmp 30) = .bool L := hd 4 (by kernel_rfl)
      cases L with
      | false => exact op_off ho rfl h30 (by decide) rfl
      | true =>
        have h35 : a.eval (.tmp 35) = .pointer (some ⟨w.heap.size, 6, none⟩) := hd 9 (by kernel_rfl)
        have hc : W.cell? ⟨w.heap.size, 6, none⟩ = some (.int .i64 c.hi) := by rw [(KB.out.below hW KB.out.lt).cell 6]; rfl
        exact op_vg ho (.int .i64 c.hi) rfl h30 (by intro ρ hρ kc kf; rw [← hρ] at h35; clear hρ; simp [execOp, go_sem, h35, hc]) rfl rfl
    · intro ho a W hW hd hx
      have h30 : a.eval (.tmp 30) = .bool L := hd 4 (by kernel_rfl)
      cases L with
      | false => exact op_off ho rfl h30 (by decide) rfl
      | true =>
        have h33 : a.eval (.tmp 33) = .int .i64 c.lo := hd 7 (by kernel_rfl)
        have h36 : a.eval (.tmp 36) = .int .i64 c.hi := hd 10 (by kernel_rfl)
        exact op_vg ho (.bool M) rfl h30 (by intro ρ hρ kc kf; rw [← hρ] at h33 h36; clear hρ; simp [execOp, go_sem, h33, h36, HM.out]) rfl rfl
    · intro ho a W hW hd hx
      have h30 : a.eval (.tmp 30) = .bool L := hd 4 (by kernel_rfl)
      cases L with
      | false =>
        exact op_v ho (.bool LM) rfl (by intro ρ hρ kc kf; rw [← hρ] at h30; clear hρ; simp [execOp, go_sem, kc, h30, ← HLM.out]) rfl rfl
      | true =>
        have h37 : a.eval (.tmp 37) = .bool M := hd 11 (by kernel_rfl)
        exact op_v ho (.bool LM) rfl (by intro ρ hρ kc kf; rw [← hρ] at h30 h37; clear hρ; simp [execOp, go_sem, h30, h37, ← HLM.out]) rfl rfl
    · intro ho a W hW hd hx
      have h38 : a.eval (.tmp 38) = .bool LM := hd 12 (by kernel_rfl)
      exact op_v ho (.bool LM) rfl (by intro ρ hρ kc kf; rw [← hρ] at h38; clear hρ; simp [execOp, go_sem, h38]) rfl rfl
    · intro ho a W hW hd hx
      have h39 : a.eval (.tmp 39) = .bool LM := hd 13 (by kernel_rfl)
      cases LM with
      | false => exact op_off ho rfl h39 (by decide) rfl
      | true =>
        have h1 : a.eval (.tmp 1) = .pointer (some ⟨w.heap.size, 0, none⟩) := (hx 1 (dst_not (by kernel_rfl))).trans rfl
        exact op_vg ho (.pointer (some ⟨w.heap.size, 5, none⟩)) rfl h39 (by intro ρ hρ kc kf; rw [← hρ] at h1; clear hρ; simp [execOp, go_sem, h1]) rfl rfl
    · intro ho a W hW hd hx
      have h39 : a.eval (.tmp 39) = .bool LM := hd 13 (by kernel_rfl)
      cases LM with
      | false => exact op_off ho rfl h39 (by decide) rfl
      | true =>
        have h40 : a.eval (.tmp 40) = .pointer (some ⟨w.heap.size, 5, none⟩) := hd 14 (by kernel_rfl)
        exact op_vg ho (.pointer (some ⟨w.heap.size, 6, none⟩)) rfl h39 (by intro ρ hρ kc kf; rw [← hρ] at h40; clear hρ; simp [execOp, go_sem, h40]) rfl rfl
    · intro ho a W hW hd hx
      have h39 : a.eval (.tmp 39) = .bool LM := hd 13 (by kernel_rfl)
      cases LM with
      | false => exact op_off ho rfl h39 (by decide) rfl
      | true =>
        have h41 : a.eval (.tmp 41) = .pointer (some ⟨w.heap.size, 6, none⟩) := hd 15 (by kernel_rfl)
        have hc : W.cell? ⟨w.heap.size, 6, none⟩ = some (.int .i64 c.hi) := by rw [(KB.out.below hW KB.out.lt).cell 6]; rfl
        exact op_vg ho (.int .i64 c.hi) rfl h39 (by intro ρ hρ kc kf; rw [← hρ] at h41; clear hρ; simp [execOp, go_sem, h41, hc]) rfl rfl
    · intro ho a W hW hd hx
      have h39 : a.eval (.tmp 39) = .bool LM := hd 13 (by kernel_rfl)
      cases LM with
      | false => exact op_off ho rfl h39 (by decide) rfl
      | true =>
        have h42 : a.eval (.tmp 42) = .int .i64 c.hi := hd 16 (by kernel_rfl)
        exact op_vg ho (.bool E) rfl h39 (by intro ρ hρ kc kf; rw [← hρ] at h42; clear hρ; simp [execOp, go_sem, kc, h42, HE.out]) rfl rfl
    · intro ho a W hW hd hx
      have h39 : a.eval (.tmp 39) = .bool LM := hd 13 (by kernel_rfl)
      cases LM with
      | false =>
        exact op_v ho (.bool S) rfl (by intro ρ hρ kc kf; rw [← hρ] at h39; clear hρ; simp [execOp, go_sem, kc, h39, ← HS.out]) rfl rfl
      | true =>
        have h43 : a.eval (.tmp 43) = .bool E := hd 17 (by kernel_rfl)
        exact op_v ho (.bool S) rfl (by intro ρ hρ kc kf; rw [← hρ] at h39 h43; clear hρ; simp [execOp, go_sem, h39, h43, ← HS.out]) rfl rfl
    · intro ho a W hW hd hx
      have h44 : a.eval (.tmp 44) = .bool S := hd 18 (by kernel_rfl)
      exact op_v ho (.bool S) rfl (by intro ρ hρ kc kf; rw [← hρ] at h44; clear hρ; simp [execOp, go_sem, h44]) rfl rfl
  intro v W hW hv _
  have hs : v 19 = .bool S := hv 19 (by decide)
  simp only [List.take_succ_cons, List.take_zero, List.drop_succ_cons, List.drop_zero, fillL, wpTail, Act.put, List.setIfInBounds_toArray, List.set_cons_zero, List.set_cons_succ, Nat.reduceAdd]
  rw [hs]
  have KC : Hid (Blk W w.heap.size 42 (cC c)) := Lib.hid (KB.out.below hW KB.out.lt)
  have KX : Hid (Blk W (w.heap.size + 1) 42 (cC ⟨c.kind, c.node, c.serial, 0, 0, 0, 0, 0⟩)) := Lib.hid (KX0.out.below hW KX0.out.lt)
  have KW : Hid (Below w.heap.size w W) := Lib.hid (KW0.out.trans (hW.mono KW0.out.size))
  clear hs hv hW KB KX0 KW0 HL HM HLM HE HS
  have p0 : W.cell? ⟨w.heap.size, 0, none⟩ = some (.int .i8 c.kind) := by rw [KC.out.cell 0]; rfl
  have p1 : W.cell? ⟨w.heap.size, 1, none⟩ = some (.int .i64 c.node) := by rw [KC.out.cell 1]; rfl
  have p2 : W.cell? ⟨w.heap.size, 2, none⟩ = some (.int .i64 c.serial) := by rw [KC.out.cell 2]; rfl
  have p3 : W.cell? ⟨w.heap.size, 3, none⟩ = some (.int .i64 c.dead) := by rw [KC.out.cell 3]; rfl
  have p4 : W.cell? ⟨w.heap.size, 4, none⟩ = some (.int .i64 c.was) := by rw [KC.out.cell 4]; rfl
  have p5 : W.cell? ⟨w.heap.size, 5, none⟩ = some (.int .i64 c.lo) := by rw [KC.out.cell 5]; rfl
  have p6 : W.cell? ⟨w.heap.size, 6, none⟩ = some (.int .i64 c.hi) := by rw [KC.out.cell 6]; rfl
  have p7 : W.cell? ⟨w.heap.size, 7, none⟩ = some (.int .i8 c.mode) := by rw [KC.out.cell 7]; rfl
  have r0 : W.cell? ⟨w.heap.size + 1, 0, none⟩ = some (.int .i8 c.kind) := by rw [KX.out.cell 0]; rfl
  have r1 : W.cell? ⟨w.heap.size + 1, 1, none⟩ = some (.int .i64 c.node) := by rw [KX.out.cell 1]; rfl
  have r2 : W.cell? ⟨w.heap.size + 1, 2, none⟩ = some (.int .i64 c.serial) := by rw [KX.out.cell 2]; rfl
  have r3 : W.cell? ⟨w.heap.size + 1, 3, none⟩ = some (.int .i64 0) := by rw [KX.out.cell 3]; rfl
  have r4 : W.cell? ⟨w.heap.size + 1, 4, none⟩ = some (.int .i64 0) := by rw [KX.out.cell 4]; rfl
  have r5 : W.cell? ⟨w.heap.size + 1, 5, none⟩ = some (.int .i64 0) := by rw [KX.out.cell 5]; rfl
  have r6 : W.cell? ⟨w.heap.size + 1, 6, none⟩ = some (.int .i64 0) := by rw [KX.out.cell 6]; rfl
  have r7 : W.cell? ⟨w.heap.size + 1, 7, none⟩ = some (.int .i8 0) := by rw [KX.out.cell 7]; rfl
  have f3 := KX.out.frozen 3
  have f4 := KX.out.frozen 4
  have f5 := KX.out.frozen 5
  have f6 := KX.out.frozen 6
  have f7 := KX.out.frozen 7
  clear KC KX
  refine Or.elim (Classical.em (c.kind = 0)) (fun hq => ?_) (fun hq => ?_)
  · have HKK : Hid (c.kind = 0) := Lib.hid hq
    have k0 : (c.kind == 0) = true := by rw [hq]; rfl
    clear hq
    refine Or.elim (bool_or (eqC c ⟨c.kind, c.node, c.serial, 0, 0, 0, 0, 0⟩)) (fun hq => ?_) (fun hq => ?_)
    · have HQ : Hid (eqC c ⟨c.kind, c.node, c.serial, 0, 0, 0, 0, 0⟩ = true) := Lib.hid hq
      clear hq
      have heq : ∀ W, Sem.run Try.prog (binOp BinOp.eql 42 (.agg #[Value.int IntKind.i8 c.kind, Value.int IntKind.i64 c.node, Value.int IntKind.i64 c.serial, Value.int IntKind.i64 c.dead, Value.int IntKind.i64 c.was, Value.int IntKind.i64 c.lo, Value.int IntKind.i64 c.hi, Value.int IntKind.i8 c.mode]) (.agg #[Value.int IntKind.i8 c.kind, Value.int IntKind.i64 c.node, Value.int IntKind.i64 c.serial, Value.int IntKind.i64 0, Value.int IntKind.i64 0, Value.int IntKind.i64 0, Value.int IntKind.i64 0, Value.int IntKind.i8 0])) W = Result.ok (.bool true) W := fun W => HQ.out ▸ run_eqC c ⟨c.kind, c.node, c.serial, 0, 0, 0, 0, 0⟩ W
      go_wp2_with fail
      go_ret
      refine ⟨congrArg (fun b => Ending.returned (Value.bool b)) ?_, KW.out⟩
      rw [may_0 c HKK.out HN.out HS1.out HS2.out, HQ.out]
    · have HQ : Hid (eqC c ⟨c.kind, c.node, c.serial, 0, 0, 0, 0, 0⟩ = false) := Lib.hid hq
      clear hq
      have heq : ∀ W, Sem.run Try.prog (binOp BinOp.eql 42 (.agg #[Value.int IntKind.i8 c.kind, Value.int IntKind.i64 c.node, Value.int IntKind.i64 c.serial, Value.int IntKind.i64 c.dead, Value.int IntKind.i64 c.was, Value.int IntKind.i64 c.lo, Value.int IntKind.i64 c.hi, Value.int IntKind.i8 c.mode]) (.agg #[Value.int IntKind.i8 c.kind, Value.int IntKind.i64 c.node, Value.int IntKind.i64 c.serial, Value.int IntKind.i64 0, Value.int IntKind.i64 0, Value.int IntKind.i64 0, Value.int IntKind.i64 0, Value.int IntKind.i8 0])) W = Result.ok (.bool false) W := fun W => HQ.out ▸ run_eqC c ⟨c.kind, c.node, c.serial, 0, 0, 0, 0, 0⟩ W
      go_wp2_with fail
      go_ret
      refine ⟨congrArg (fun b => Ending.returned (Value.bool b)) ?_, KW.out⟩
      rw [may_0 c HKK.out HN.out HS1.out HS2.out, HQ.out]
  · have N0 : Hid (¬ c.kind = 0) := Lib.hid hq
    have k0 : (c.kind == 0) = false := by simp [hq]
    clear hq
    refine Or.elim (Classical.em (c.kind = 1)) (fun hq => ?_) (fun hq => ?_)
    · have HKK : Hid (c.kind = 1) := Lib.hid hq
      have k1 : (c.kind == 1) = true := by rw [hq]; rfl
      clear hq
      refine Or.elim (bool_or (eqC c ⟨c.kind, c.node, c.serial, 0, 0, 0, 0, 0⟩)) (fun hq => ?_) (fun hq => ?_)
      · have HQ : Hid (eqC c ⟨c.kind, c.node, c.serial, 0, 0, 0, 0, 0⟩ = true) := Lib.hid hq
        clear hq
        have heq : ∀ W, Sem.run Try.prog (binOp BinOp.eql 42 (.agg #[Value.int IntKind.i8 c.kind, Value.int IntKind.i64 c.node, Value.int IntKind.i64 c.serial, Value.int IntKind.i64 c.dead, Value.int IntKind.i64 c.was, Value.int IntKind.i64 c.lo, Value.int IntKind.i64 c.hi, Value.int IntKind.i8 c.mode]) (.agg #[Value.int IntKind.i8 c.kind, Value.int IntKind.i64 c.node, Value.int IntKind.i64 c.serial, Value.int IntKind.i64 0, Value.int IntKind.i64 0, Value.int IntKind.i64 0, Value.int IntKind.i64 0, Value.int IntKind.i8 0])) W = Result.ok (.bool true) W := fun W => HQ.out ▸ run_eqC c ⟨c.kind, c.node, c.serial, 0, 0, 0, 0, 0⟩ W
        go_wp2_with fail
        go_ret
        refine ⟨congrArg (fun b => Ending.returned (Value.bool b)) ?_, KW.out⟩
        rw [may_1 c HKK.out HN.out HS1.out HS2.out, HQ.out]
      · have HQ : Hid (eqC c ⟨c.kind, c.node, c.serial, 0, 0, 0, 0, 0⟩ = false) := Lib.hid hq
        clear hq
        have heq : ∀ W, Sem.run Try.prog (binOp BinOp.eql 42 (.agg #[Value.int IntKind.i8 c.kind, Value.int IntKind.i64 c.node, Value.int IntKind.i64 c.serial, Value.int IntKind.i64 c.dead, Value.int IntKind.i64 c.was, Value.int IntKind.i64 c.lo, Value.int IntKind.i64 c.hi, Value.int IntKind.i8 c.mode]) (.agg #[Value.int IntKind.i8 c.kind, Value.int IntKind.i64 c.node, Value.int IntKind.i64 c.serial, Value.int IntKind.i64 0, Value.int IntKind.i64 0, Value.int IntKind.i64 0, Value.int IntKind.i64 0, Value.int IntKind.i8 0])) W = Result.ok (.bool false) W := fun W => HQ.out ▸ run_eqC c ⟨c.kind, c.node, c.serial, 0, 0, 0, 0, 0⟩ W
        go_wp2_with fail
        go_ret
        refine ⟨congrArg (fun b => Ending.returned (Value.bool b)) ?_, KW.out⟩
        rw [may_1 c HKK.out HN.out HS1.out HS2.out, HQ.out]
    · have N1 : Hid (¬ c.kind = 1) := Lib.hid hq
      have k1 : (c.kind == 1) = false := by simp [hq]
      clear hq
      refine Or.elim (Classical.em (c.kind = 2)) (fun hq => ?_) (fun hq => ?_)
      · have HKK : Hid (c.kind = 2) := Lib.hid hq
        have k2 : (c.kind == 2) = true := by rw [hq]; rfl
        clear hq
        refine Or.elim (bool_or (eqC c ⟨c.kind, c.node, c.serial, 0, 0, c.lo, c.hi, c.mode⟩)) (fun hq => ?_) (fun hq => ?_)
        · have HQ : Hid (eqC c ⟨c.kind, c.node, c.serial, 0, 0, c.lo, c.hi, c.mode⟩ = true) := Lib.hid hq
          clear hq
          have heq : ∀ W, Sem.run Try.prog (binOp BinOp.eql 42 (.agg #[Value.int IntKind.i8 c.kind, Value.int IntKind.i64 c.node, Value.int IntKind.i64 c.serial, Value.int IntKind.i64 c.dead, Value.int IntKind.i64 c.was, Value.int IntKind.i64 c.lo, Value.int IntKind.i64 c.hi, Value.int IntKind.i8 c.mode]) (.agg #[Value.int IntKind.i8 c.kind, Value.int IntKind.i64 c.node, Value.int IntKind.i64 c.serial, Value.int IntKind.i64 0, Value.int IntKind.i64 0, Value.int IntKind.i64 c.lo, Value.int IntKind.i64 c.hi, Value.int IntKind.i8 c.mode])) W = Result.ok (.bool true) W := fun W => HQ.out ▸ run_eqC c ⟨c.kind, c.node, c.serial, 0, 0, c.lo, c.hi, c.mode⟩ W
          refine Or.elim (bool_or (S)) (fun hq => ?_) (fun hq => ?_)
          · have sS : S = true := hq
            clear hq
            refine Or.elim (bool_or (c.mode == 1)) (fun hq => ?_) (fun hq => ?_)
            · have m1 := hq
              clear hq
              go_wp2_with fail
              go_ret
              refine ⟨congrArg (fun b => Ending.returned (Value.bool b)) ?_, (((KW.out.setCell (Nat.le_succ _) _).setCell (Nat.le_succ _) _).setCell (Nat.le_succ _) _)⟩
              rw [may_2 c HKK.out HN.out HS1.out HS2.out, HQ.out]
              simp [HSP.out, sS, eq_of_beq m1]
            · have m1 := hq
              clear hq
              refine Or.elim (bool_or (c.mode == 2)) (fun hq => ?_) (fun hq => ?_)
              · have m2 := hq
                clear hq
                go_wp2_with fail
                go_ret
                refine ⟨congrArg (fun b => Ending.returned (Value.bool b)) ?_, (((KW.out.setCell (Nat.le_succ _) _).setCell (Nat.le_succ _) _).setCell (Nat.le_succ _) _)⟩
                rw [may_2 c HKK.out HN.out HS1.out HS2.out, HQ.out]
                simp [HSP.out, sS, eq_of_beq m2]
              · have m2 := hq
                clear hq
                go_wp2_with fail
                go_ret
                refine ⟨congrArg (fun b => Ending.returned (Value.bool b)) ?_, (((KW.out.setCell (Nat.le_succ _) _).setCell (Nat.le_succ _) _).setCell (Nat.le_succ _) _)⟩
                rw [may_2 c HKK.out HN.out HS1.out HS2.out, HQ.out]
                simp [HSP.out, sS, ne_of_beq_false m1, ne_of_beq_false m2]
          · have sS : S = false := hq
            clear hq
            go_wp2_with fail
            go_ret
            refine ⟨congrArg (fun b => Ending.returned (Value.bool b)) ?_, (((KW.out.setCell (Nat.le_succ _) _).setCell (Nat.le_succ _) _).setCell (Nat.le_succ _) _)⟩
            rw [may_2 c HKK.out HN.out HS1.out HS2.out, HQ.out]
            simp [HSP.out, sS]
        · have HQ : Hid (eqC c ⟨c.kind, c.node, c.serial, 0, 0, c.lo, c.hi, c.mode⟩ = false) := Lib.hid hq
          clear hq
          have heq : ∀ W, Sem.run Try.prog (binOp BinOp.eql 42 (.agg #[Value.int IntKind.i8 c.kind, Value.int IntKind.i64 c.node, Value.int IntKind.i64 c.serial, Value.int IntKind.i64 c.dead, Value.int IntKind.i64 c.was, Value.int IntKind.i64 c.lo, Value.int IntKind.i64 c.hi, Value.int IntKind.i8 c.mode]) (.agg #[Value.int IntKind.i8 c.kind, Value.int IntKind.i64 c.node, Value.int IntKind.i64 c.serial, Value.int IntKind.i64 0, Value.int IntKind.i64 0, Value.int IntKind.i64 c.lo, Value.int IntKind.i64 c.hi, Value.int IntKind.i8 c.mode])) W = Result.ok (.bool false) W := fun W => HQ.out ▸ run_eqC c ⟨c.kind, c.node, c.serial, 0, 0, c.lo, c.hi, c.mode⟩ W
          go_wp2_with fail
          go_ret
          refine ⟨congrArg (fun b => Ending.returned (Value.bool b)) ?_, (((KW.out.setCell (Nat.le_succ _) _).setCell (Nat.le_succ _) _).setCell (Nat.le_succ _) _)⟩
          rw [may_2 c HKK.out HN.out HS1.out HS2.out, HQ.out]
          simp
      · have N2 : Hid (¬ c.kind = 2) := Lib.hid hq
        have k2 : (c.kind == 2) = false := by simp [hq]
        clear hq
        refine Or.elim (Classical.em (c.kind = 3)) (fun hq => ?_) (fun hq => ?_)
        · have HKK : Hid (c.kind = 3) := Lib.hid hq
          have k3 : (c.kind == 3) = true := by rw [hq]; rfl
          clear hq
          refine Or.elim (bool_or (eqC c ⟨c.kind, c.node, c.serial, 0, 0, c.lo, c.hi, 0⟩)) (fun hq => ?_) (fun hq => ?_)
          · have HQ : Hid (eqC c ⟨c.kind, c.node, c.serial, 0, 0, c.lo, c.hi, 0⟩ = true) := Lib.hid hq
            clear hq
            have heq : ∀ W, Sem.run Try.prog (binOp BinOp.eql 42 (.agg #[Value.int IntKind.i8 c.kind, Value.int IntKind.i64 c.node, Value.int IntKind.i64 c.serial, Value.int IntKind.i64 c.dead, Value.int IntKind.i64 c.was, Value.int IntKind.i64 c.lo, Value.int IntKind.i64 c.hi, Value.int IntKind.i8 c.mode]) (.agg #[Value.int IntKind.i8 c.kind, Value.int IntKind.i64 c.node, Value.int IntKind.i64 c.serial, Value.int IntKind.i64 0, Value.int IntKind.i64 0, Value.int IntKind.i64 c.lo, Value.int IntKind.i64 c.hi, Value.int IntKind.i8 0])) W = Result.ok (.bool true) W := fun W => HQ.out ▸ run_eqC c ⟨c.kind, c.node, c.serial, 0, 0, c.lo, c.hi, 0⟩ W
            refine Or.elim (bool_or (S)) (fun hq => ?_) (fun hq => ?_)
            · have sS : S = true := hq
              clear hq
              go_wp2_with fail
              go_ret
              refine ⟨congrArg (fun b => Ending.returned (Value.bool b)) ?_, ((KW.out.setCell (Nat.le_succ _) _).setCell (Nat.le_succ _) _)⟩
              rw [may_3 c HKK.out HN.out HS1.out HS2.out, HQ.out]
              simp [HSP.out, sS]
            · have sS : S = false := hq
              clear hq
              go_wp2_with fail
              go_ret
              refine ⟨congrArg (fun b => Ending.returned (Value.bool b)) ?_, ((KW.out.setCell (Nat.le_succ _) _).setCell (Nat.le_succ _) _)⟩
              rw [may_3 c HKK.out HN.out HS1.out HS2.out, HQ.out]
              simp [HSP.out, sS]
          · have HQ : Hid (eqC c ⟨c.kind, c.node, c.serial, 0, 0, c.lo, c.hi, 0⟩ = false) := Lib.hid hq
            clear hq
            have heq : ∀ W, Sem.run Try.prog (binOp BinOp.eql 42 (.agg #[Value.int IntKind.i8 c.kind, Value.int IntKind.i64 c.node, Value.int IntKind.i64 c.serial, Value.int IntKind.i64 c.dead, Value.int IntKind.i64 c.was, Value.int IntKind.i64 c.lo, Value.int IntKind.i64 c.hi, Value.int IntKind.i8 c.mode]) (.agg #[Value.int IntKind.i8 c.kind, Value.int IntKind.i64 c.node, Value.int IntKind.i64 c.serial, Value.int IntKind.i64 0, Value.int IntKind.i64 0, Value.int IntKind.i64 c.lo, Value.int IntKind.i64 c.hi, Value.int IntKind.i8 0])) W = Result.ok (.bool false) W := fun W => HQ.out ▸ run_eqC c ⟨c.kind, c.node, c.serial, 0, 0, c.lo, c.hi, 0⟩ W
            go_wp2_with fail
            go_ret
            refine ⟨congrArg (fun b => Ending.returned (Value.bool b)) ?_, ((KW.out.setCell (Nat.le_succ _) _).setCell (Nat.le_succ _) _)⟩
            rw [may_3 c HKK.out HN.out HS1.out HS2.out, HQ.out]
            simp
        · have N3 : Hid (¬ c.kind = 3) := Lib.hid hq
          have k3 : (c.kind == 3) = false := by simp [hq]
          clear hq
          refine Or.elim (Classical.em (c.kind = 4)) (fun hq => ?_) (fun hq => ?_)
          · have HKK : Hid (c.kind = 4) := Lib.hid hq
            have k4 : (c.kind == 4) = true := by rw [hq]; rfl
            clear hq
            refine Or.elim (bool_or (eqC c ⟨c.kind, c.node, c.serial, c.dead, c.was, 0, 0, 0⟩)) (fun hq => ?_) (fun hq => ?_)
            · have HQ : Hid (eqC c ⟨c.kind, c.node, c.serial, c.dead, c.was, 0, 0, 0⟩ = true) := Lib.hid hq
              clear hq
              have heq : ∀ W, Sem.run Try.prog (binOp BinOp.eql 42 (.agg #[Value.int IntKind.i8 c.kind, Value.int IntKind.i64 c.node, Value.int IntKind.i64 c.serial, Value.int IntKind.i64 c.dead, Value.int IntKind.i64 c.was, Value.int IntKind.i64 c.lo, Value.int IntKind.i64 c.hi, Value.int IntKind.i8 c.mode]) (.agg #[Value.int IntKind.i8 c.kind, Value.int IntKind.i64 c.node, Value.int IntKind.i64 c.serial, Value.int IntKind.i64 c.dead, Value.int IntKind.i64 c.was, Value.int IntKind.i64 0, Value.int IntKind.i64 0, Value.int IntKind.i8 0])) W = Result.ok (.bool true) W := fun W => HQ.out ▸ run_eqC c ⟨c.kind, c.node, c.serial, c.dead, c.was, 0, 0, 0⟩ W
              refine Or.elim (bool_or (keyB c.dead)) (fun hq => ?_) (fun hq => ?_)
              · have KC2 : Hid (keyB c.dead = true) := Lib.hid hq
                have C2 : Hid (∀ W, Calls Try.prog 38 #[.int .i64 c.dead] W fun e w2 => e = .returned (.bool true) ∧ W = w2) := Lib.hid (fun W => hq ▸ rkey_any c.dead W)
                clear hq
                refine Or.elim (bool_or (c.was == 0)) (fun hq => ?_) (fun hq => ?_)
                · have u0 := hq
                  clear hq
                  go_wp2_with (first | (go_at_call 38; refine (C2.out _).mono ?_; rintro e w1 ⟨rfl, rfl⟩))
                  go_ret
                  refine ⟨congrArg (fun b => Ending.returned (Value.bool b)) ?_, ((KW.out.setCell (Nat.le_succ _) _).setCell (Nat.le_succ _) _)⟩
                  rw [may_4 c HKK.out HN.out HS1.out HS2.out, HQ.out]
                  simp [KC2.out, eq_of_beq u0]
                · have u0 := hq
                  clear hq
                  refine Or.elim (bool_or (keyB c.was)) (fun hq => ?_) (fun hq => ?_)
                  · have KC3 : Hid (keyB c.was = true) := Lib.hid hq
                    have C3 : Hid (∀ W, Calls Try.prog 38 #[.int .i64 c.was] W fun e w2 => e = .returned (.bool true) ∧ W = w2) := Lib.hid (fun W => hq ▸ rkey_any c.was W)
                    clear hq
                    go_wp2_with (first | (go_at_call 38; refine (C2.out _).mono ?_; rintro e w1 ⟨rfl, rfl⟩) | (go_at_call 38; refine (C3.out _).mono ?_; rintro e w1 ⟨rfl, rfl⟩))
                    go_ret
                    refine ⟨congrArg (fun b => Ending.returned (Value.bool b)) ?_, ((KW.out.setCell (Nat.le_succ _) _).setCell (Nat.le_succ _) _)⟩
                    rw [may_4 c HKK.out HN.out HS1.out HS2.out, HQ.out]
                    simp [KC2.out, KC3.out, ne_of_beq_false u0]
                  · have KC3 : Hid (keyB c.was = false) := Lib.hid hq
                    have C3 : Hid (∀ W, Calls Try.prog 38 #[.int .i64 c.was] W fun e w2 => e = .returned (.bool false) ∧ W = w2) := Lib.hid (fun W => hq ▸ rkey_any c.was W)
                    clear hq
                    go_wp2_with (first | (go_at_call 38; refine (C2.out _).mono ?_; rintro e w1 ⟨rfl, rfl⟩) | (go_at_call 38; refine (C3.out _).mono ?_; rintro e w1 ⟨rfl, rfl⟩))
                    go_ret
                    refine ⟨congrArg (fun b => Ending.returned (Value.bool b)) ?_, ((KW.out.setCell (Nat.le_succ _) _).setCell (Nat.le_succ _) _)⟩
                    rw [may_4 c HKK.out HN.out HS1.out HS2.out, HQ.out]
                    simp [KC2.out, KC3.out, ne_of_beq_false u0]
              · have KC2 : Hid (keyB c.dead = false) := Lib.hid hq
                have C2 : Hid (∀ W, Calls Try.prog 38 #[.int .i64 c.dead] W fun e w2 => e = .returned (.bool false) ∧ W = w2) := Lib.hid (fun W => hq ▸ rkey_any c.dead W)
                clear hq
                go_wp2_with (first | (go_at_call 38; refine (C2.out _).mono ?_; rintro e w1 ⟨rfl, rfl⟩))
                go_ret
                refine ⟨congrArg (fun b => Ending.returned (Value.bool b)) ?_, ((KW.out.setCell (Nat.le_succ _) _).setCell (Nat.le_succ _) _)⟩
                rw [may_4 c HKK.out HN.out HS1.out HS2.out, HQ.out]
                simp [KC2.out]
            · have HQ : Hid (eqC c ⟨c.kind, c.node, c.serial, c.dead, c.was, 0, 0, 0⟩ = false) := Lib.hid hq
              clear hq
              have heq : ∀ W, Sem.run Try.prog (binOp BinOp.eql 42 (.agg #[Value.int IntKind.i8 c.kind, Value.int IntKind.i64 c.node, Value.int IntKind.i64 c.serial, Value.int IntKind.i64 c.dead, Value.int IntKind.i64 c.was, Value.int IntKind.i64 c.lo, Value.int IntKind.i64 c.hi, Value.int IntKind.i8 c.mode]) (.agg #[Value.int IntKind.i8 c.kind, Value.int IntKind.i64 c.node, Value.int IntKind.i64 c.serial, Value.int IntKind.i64 c.dead, Value.int IntKind.i64 c.was, Value.int IntKind.i64 0, Value.int IntKind.i64 0, Value.int IntKind.i8 0])) W = Result.ok (.bool false) W := fun W => HQ.out ▸ run_eqC c ⟨c.kind, c.node, c.serial, c.dead, c.was, 0, 0, 0⟩ W
              go_wp2_with fail
              go_ret
              refine ⟨congrArg (fun b => Ending.returned (Value.bool b)) ?_, ((KW.out.setCell (Nat.le_succ _) _).setCell (Nat.le_succ _) _)⟩
              rw [may_4 c HKK.out HN.out HS1.out HS2.out, HQ.out]
              simp
          · have N4 : Hid (¬ c.kind = 4) := Lib.hid hq
            have k4 : (c.kind == 4) = false := by simp [hq]
            clear hq
            refine Or.elim (Classical.em (c.kind = 5)) (fun hq => ?_) (fun hq => ?_)
            · have HKK : Hid (c.kind = 5) := Lib.hid hq
              have k5 : (c.kind == 5) = true := by rw [hq]; rfl
              clear hq
              refine Or.elim (bool_or (eqC c ⟨c.kind, c.node, c.serial, c.dead, 0, 0, 0, 0⟩)) (fun hq => ?_) (fun hq => ?_)
              · have HQ : Hid (eqC c ⟨c.kind, c.node, c.serial, c.dead, 0, 0, 0, 0⟩ = true) := Lib.hid hq
                clear hq
                have heq : ∀ W, Sem.run Try.prog (binOp BinOp.eql 42 (.agg #[Value.int IntKind.i8 c.kind, Value.int IntKind.i64 c.node, Value.int IntKind.i64 c.serial, Value.int IntKind.i64 c.dead, Value.int IntKind.i64 c.was, Value.int IntKind.i64 c.lo, Value.int IntKind.i64 c.hi, Value.int IntKind.i8 c.mode]) (.agg #[Value.int IntKind.i8 c.kind, Value.int IntKind.i64 c.node, Value.int IntKind.i64 c.serial, Value.int IntKind.i64 c.dead, Value.int IntKind.i64 0, Value.int IntKind.i64 0, Value.int IntKind.i64 0, Value.int IntKind.i8 0])) W = Result.ok (.bool true) W := fun W => HQ.out ▸ run_eqC c ⟨c.kind, c.node, c.serial, c.dead, 0, 0, 0, 0⟩ W
                refine Or.elim (bool_or (keyB c.dead)) (fun hq => ?_) (fun hq => ?_)
                · have KC2 : Hid (keyB c.dead = true) := Lib.hid hq
                  have C2 : Hid (∀ W, Calls Try.prog 38 #[.int .i64 c.dead] W fun e w2 => e = .returned (.bool true) ∧ W = w2) := Lib.hid (fun W => hq ▸ rkey_any c.dead W)
                  clear hq
                  go_wp2_with (first | (go_at_call 38; refine (C2.out _).mono ?_; rintro e w1 ⟨rfl, rfl⟩))
                  go_ret
                  refine ⟨congrArg (fun b => Ending.returned (Value.bool b)) ?_, (KW.out.setCell (Nat.le_succ _) _)⟩
                  rw [may_5 c HKK.out HN.out HS1.out HS2.out, HQ.out]
                  simp [KC2.out]
                · have KC2 : Hid (keyB c.dead = false) := Lib.hid hq
                  have C2 : Hid (∀ W, Calls Try.prog 38 #[.int .i64 c.dead] W fun e w2 => e = .returned (.bool false) ∧ W = w2) := Lib.hid (fun W => hq ▸ rkey_any c.dead W)
                  clear hq
                  go_wp2_with (first | (go_at_call 38; refine (C2.out _).mono ?_; rintro e w1 ⟨rfl, rfl⟩))
                  go_ret
                  refine ⟨congrArg (fun b => Ending.returned (Value.bool b)) ?_, (KW.out.setCell (Nat.le_succ _) _)⟩
                  rw [may_5 c HKK.out HN.out HS1.out HS2.out, HQ.out]
                  simp [KC2.out]
              · have HQ : Hid (eqC c ⟨c.kind, c.node, c.serial, c.dead, 0, 0, 0, 0⟩ = false) := Lib.hid hq
                clear hq
                have heq : ∀ W, Sem.run Try.prog (binOp BinOp.eql 42 (.agg #[Value.int IntKind.i8 c.kind, Value.int IntKind.i64 c.node, Value.int IntKind.i64 c.serial, Value.int IntKind.i64 c.dead, Value.int IntKind.i64 c.was, Value.int IntKind.i64 c.lo, Value.int IntKind.i64 c.hi, Value.int IntKind.i8 c.mode]) (.agg #[Value.int IntKind.i8 c.kind, Value.int IntKind.i64 c.node, Value.int IntKind.i64 c.serial, Value.int IntKind.i64 c.dead, Value.int IntKind.i64 0, Value.int IntKind.i64 0, Value.int IntKind.i64 0, Value.int IntKind.i8 0])) W = Result.ok (.bool false) W := fun W => HQ.out ▸ run_eqC c ⟨c.kind, c.node, c.serial, c.dead, 0, 0, 0, 0⟩ W
                go_wp2_with fail
                go_ret
                refine ⟨congrArg (fun b => Ending.returned (Value.bool b)) ?_, (KW.out.setCell (Nat.le_succ _) _)⟩
                rw [may_5 c HKK.out HN.out HS1.out HS2.out, HQ.out]
                simp
            · have N5 : Hid (¬ c.kind = 5) := Lib.hid hq
              have k5 : (c.kind == 5) = false := by simp [hq]
              clear hq
              go_wp2_with fail
              go_ret
              refine ⟨congrArg (fun b => Ending.returned (Value.bool b)) ?_, KW.out⟩
              rw [may_other c N0.out N1.out N2.out N3.out N4.out N5.out]

end Go.Proofs.Ytnoojlgefpekiaa
