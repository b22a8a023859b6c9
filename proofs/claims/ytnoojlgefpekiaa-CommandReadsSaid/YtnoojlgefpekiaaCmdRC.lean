/-
  The reference's Read: the walk. (Printed by cmd_rread.py.)
-/
import Derived.Test.YtnoojlgefpekiaaCmdRB
import Derived.Deep.Cut
namespace Go.Proofs.Ytnoojlgefpekiaa
open Go.RowKit

set_option maxHeartbeats 1000000 in
theorem rr_short (s : ByteArray) (w : World) (hs : s.size < 11) :
    Calls Try.prog 23 #[.string s] w fun e w' => e = .returned (.tuple #[.agg (cC (readC s).1), .int .i64 (readC s).2]) ∧ Below w.heap.size w w' := by
  go_enter Try.func23, Try.ntmps23
  have ER : Hid (readC s = (cZ, 100)) := Lib.hid (err_of s fun d h1 h2 => by have := (like d h1 s h2).1; omega)
  go_wp2_with fail
  try simp only [Exit.inBlock, Exit.then]
  refine bodyPost_ret (w := w.alloc (Obj.cells (cC cZ) 42)) (ret_cell (g := w.heap.size) rfl _ _ cZ rfl (Blk.new w 42 (cC cZ))) rfl ⟨?_, (Below.refl _ _).alloc (Nat.le_refl _) _⟩
  rw [ER.out]
  rfl

set_option maxHeartbeats 4000000 in
theorem rr_e1 (s : ByteArray) (w : World) (v1 v2 e1 e2 : Int) (b : Nat) (R : ByteArray) (hs : s.size ≤ 200) (h11 : 11 ≤ s.size) (g1 : getR s 1 6 = (v1, e1)) (g2 : getR s 7 4 = (v2, e2)) (lk : Known s v1 e1 v2 e2 b R) (q1 : (e1 == 0) = false) :
    Calls Try.prog 23 #[.string s] w fun e w' => e = .returned (.tuple #[.agg (cC (readC s).1), .int .i64 (readC s).2]) ∧ Below w.heap.size w w' := by
  have c1 := fun W => rget_gen s 1 6 W (by unfold maxLen; omega)
  rw [g1] at c1
  have c2 := fun W => rget_gen s 7 4 W (by unfold maxLen; omega)
  rw [g2] at c2
  have C1 := Lib.hid c1; have C2 := Lib.hid c2; have LK := Lib.hid lk
  clear c1 c2 g1 g2 lk
  have HQN := Lib.hid q1
  have qn := ne_of_beq_false q1
  clear q1
  go_enter Try.func23, Try.ntmps23
  go_wp2_with fail
  refine (C1.out _).mono ?_
  rintro e w1 ⟨rfl, rfl⟩
  go_wp2_with fail
  refine (C2.out _).mono ?_
  rintro e w1 ⟨rfl, rfl⟩
  clear C1 C2
  have ER : Hid (readC s = (cZ, 100)) := Lib.hid (err_of s fun d h1 h2 => absurd (LK.out d h1 h2).1 (ne_of_beq_false HQN.out))
  go_wp2_with fail
  try simp only [Exit.inBlock, Exit.then]
  refine bodyPost_ret (w := w.alloc (Obj.cells (cC cZ) 42)) (ret_cell (g := w.heap.size) rfl _ _ cZ rfl (Blk.new w 42 (cC cZ))) rfl ⟨?_, (Below.refl _ _).alloc (Nat.le_refl _) _⟩
  rw [ER.out]
  rfl

set_option maxHeartbeats 4000000 in
theorem rr_e2 (s : ByteArray) (w : World) (v1 v2 e2 : Int) (b : Nat) (R : ByteArray) (hs : s.size ≤ 200) (h11 : 11 ≤ s.size) (g1 : getR s 1 6 = (v1, 0)) (g2 : getR s 7 4 = (v2, e2)) (lk : Known s v1 0 v2 e2 b R) (q2 : (e2 == 0) = false) :
    Calls Try.prog 23 #[.string s] w fun e w' => e = .returned (.tuple #[.agg (cC (readC s).1), .int .i64 (readC s).2]) ∧ Below w.heap.size w w' := by
  have c1 := fun W => rget_gen s 1 6 W (by unfold maxLen; omega)
  rw [g1] at c1
  have c2 := fun W => rget_gen s 7 4 W (by unfold maxLen; omega)
  rw [g2] at c2
  have C1 := Lib.hid c1; have C2 := Lib.hid c2; have LK := Lib.hid lk
  clear c1 c2 g1 g2 lk
  have HQN := Lib.hid q2
  have qn := ne_of_beq_false q2
  clear q2
  go_enter Try.func23, Try.ntmps23
  go_wp2_with fail
  refine (C1.out _).mono ?_
  rintro e w1 ⟨rfl, rfl⟩
  go_wp2_with fail
  refine (C2.out _).mono ?_
  rintro e w1 ⟨rfl, rfl⟩
  clear C1 C2
  have ER : Hid (readC s = (cZ, 100)) := Lib.hid (err_of s fun d h1 h2 => absurd (LK.out d h1 h2).2.2.1 (ne_of_beq_false HQN.out))
  go_wp2_with fail
  try simp only [Exit.inBlock, Exit.then]
  refine bodyPost_ret (w := w.alloc (Obj.cells (cC cZ) 42)) (ret_cell (g := w.heap.size) rfl _ _ cZ rfl (Blk.new w 42 (cC cZ))) rfl ⟨?_, (Below.refl _ _).alloc (Nat.le_refl _) _⟩
  rw [ER.out]
  rfl

set_option maxHeartbeats 4000000 in
theorem rr_b (s : ByteArray) (w : World) (v1 v2 : Int) (b : Nat) (R : ByteArray) (hs : s.size ≤ 200) (h11 : 11 ≤ s.size) (g1 : getR s 1 6 = (v1, 0)) (g2 : getR s 7 4 = (v2, 0)) (hb : (s[0]'(by omega)).toNat = b) (lk : Known s v1 0 v2 0 b R) (hb2 : 127 < b) :
    Calls Try.prog 23 #[.string s] w fun e w' => e = .returned (.tuple #[.agg (cC (readC s).1), .int .i64 (readC s).2]) ∧ Below w.heap.size w w' := by
  have c1 := fun W => rget_gen s 1 6 W (by unfold maxLen; omega)
  rw [g1] at c1
  have c2 := fun W => rget_gen s 7 4 W (by unfold maxLen; omega)
  rw [g2] at c2
  have C1 := Lib.hid c1; have C2 := Lib.hid c2; have LK := Lib.hid lk
  clear c1 c2 g1 g2 lk
  go_enter Try.func23, Try.ntmps23
  go_wp2_with fail
  refine (C1.out _).mono ?_
  rintro e w1 ⟨rfl, rfl⟩
  go_wp2_with fail
  refine (C2.out _).mono ?_
  rintro e w1 ⟨rfl, rfl⟩
  clear C1 C2
  have ER : Hid (readC s = (cZ, 100)) := Lib.hid (err_of s fun d h1 h2 => by have h3 := (LK.out d h1 h2).2.2.2.2.1; have h4 := (may_has d h1).2.2; omega)
  go_wp2_with fail
  try simp only [Exit.inBlock, Exit.then]
  refine bodyPost_ret (w := w.alloc (Obj.cells (cC cZ) 42)) (ret_cell (g := w.heap.size) rfl _ _ cZ rfl (Blk.new w 42 (cC cZ))) rfl ⟨?_, (Below.refl _ _).alloc (Nat.le_refl _) _⟩
  rw [ER.out]
  rfl

set_option maxHeartbeats 4000000 in
theorem rr_0 (s : ByteArray) (w : World) (v1 v2 : Int) (b : Nat) (R : ByteArray) (hs : s.size ≤ 200) (h11 : 11 ≤ s.size) (g1 : getR s 1 6 = (v1, 0)) (g2 : getR s 7 4 = (v2, 0)) (hb : (s[0]'(by omega)).toNat = b) (hR : s.extract 11 s.size = R) (lk : Known s v1 0 v2 0 b R) (hb2 : b ≤ 127) (k2 : ((b : Int) == 2) = false) (k3 : ((b : Int) == 3) = false) (k4 : ((b : Int) == 4) = false) (k5 : ((b : Int) == 5) = false) :
    Calls Try.prog 23 #[.string s] w fun e w' => e = .returned (.tuple #[.agg (cC (readC s).1), .int .i64 (readC s).2]) ∧ Below w.heap.size w w' := by
  have c1 := fun W => rget_gen s 1 6 W (by unfold maxLen; omega)
  rw [g1] at c1
  have c2 := fun W => rget_gen s 7 4 W (by unfold maxLen; omega)
  rw [g2] at c2
  have C1 := Lib.hid c1; have C2 := Lib.hid c2; have LK := Lib.hid lk
  clear c1 c2 g1 g2 lk
  go_enter Try.func23, Try.ntmps23
  go_wp2_with fail
  refine (C1.out _).mono ?_
  rintro e w1 ⟨rfl, rfl⟩
  go_wp2_with fail
  refine (C2.out _).mono ?_
  rintro e w1 ⟨rfl, rfl⟩
  clear C1 C2
  go_upto_region 9 with fail
  have kt := Rt.start w (cC ⟨b, v1, v2, 0, 0, 0, 0, 0⟩)
  obtain ⟨W1, hW1⟩ : ∃ W, W = ((w.alloc (Obj.cells (cC cZ) 42)).alloc (Obj.cells (cC ⟨b, v1, v2, 0, 0, 0, 0, 0⟩) 42)) := ⟨_, rfl⟩
  rw [← hW1] at kt
  simp only [cC, cZ] at hW1
  rw [← hW1]
  have KT := Lib.hid kt
  clear kt hW1
  have c0 : W1.cell? ⟨(w.heap.size + 1), 0, none⟩ = some (.int .i8 b) := by rw [KT.out.p.cell 0]; rfl
  go_upto_region 25 with fail
  clear c0
  have UQ0 : Hid (∀ d, mayC d = true → strB (bytesC d) = s → d = ⟨b, v1, v2, 0, 0, 0, 0, 0⟩) := Lib.hid (uq_0 LK.out k2 k3 k4 k5)
  obtain ⟨c, hc⟩ : ∃ c : Cm, c = ⟨b, v1, v2, 0, 0, 0, 0, 0⟩ := ⟨_, rfl⟩
  have KC : Hid (Rt w W1 (w.heap.size + 1) (cC c)) := Lib.hid (by rw [hc]; exact KT.out)
  have UQ : Hid (∀ d, mayC d = true → strB (bytesC d) = s → d = c) := Lib.hid (by rw [hc]; exact UQ0.out)
  clear hc UQ0 KT
  have p0 : W1.cell? ⟨(w.heap.size + 1), 0, none⟩ = some (.int .i8 c.kind) := by rw [KC.out.p.cell 0]; rfl
  have p1 : W1.cell? ⟨(w.heap.size + 1), 1, none⟩ = some (.int .i64 c.node) := by rw [KC.out.p.cell 1]; rfl
  have p2 : W1.cell? ⟨(w.heap.size + 1), 2, none⟩ = some (.int .i64 c.serial) := by rw [KC.out.p.cell 2]; rfl
  have p3 : W1.cell? ⟨(w.heap.size + 1), 3, none⟩ = some (.int .i64 c.dead) := by rw [KC.out.p.cell 3]; rfl
  have p4 : W1.cell? ⟨(w.heap.size + 1), 4, none⟩ = some (.int .i64 c.was) := by rw [KC.out.p.cell 4]; rfl
  have p5 : W1.cell? ⟨(w.heap.size + 1), 5, none⟩ = some (.int .i64 c.lo) := by rw [KC.out.p.cell 5]; rfl
  have p6 : W1.cell? ⟨(w.heap.size + 1), 6, none⟩ = some (.int .i64 c.hi) := by rw [KC.out.p.cell 6]; rfl
  have p7 : W1.cell? ⟨(w.heap.size + 1), 7, none⟩ = some (.int .i8 c.mode) := by rw [KC.out.p.cell 7]; rfl
  obtain ⟨X, hX⟩ : ∃ X, bytesS c = X := ⟨_, rfl⟩
  obtain ⟨E, hE⟩ : ∃ E, bytesE c = E := ⟨_, rfl⟩
  have cb := rbytes_any c W1
  rw [hX, hE] at cb
  simp only [cC] at cb
  have CB := Lib.hid cb; have HX := Lib.hid hX; have HE := Lib.hid hE
  clear cb hX hE
  go_wp2_with fail
  refine CB.out.mono ?_
  rintro e W9 ⟨rfl, b9⟩
  have K9 : Hid (Rt w W9 (w.heap.size + 1) (cC c)) := Lib.hid (KC.out.below b9)
  clear b9 KC CB p0 p1 p2 p3 p4 p5 p6 p7
  have r0 : W9.cell? ⟨w.heap.size, 0, none⟩ = some (.int .i8 0) := by rw [K9.out.r.cell 0]; rfl
  have r1 : W9.cell? ⟨w.heap.size, 1, none⟩ = some (.int .i64 0) := by rw [K9.out.r.cell 1]; rfl
  have r2 : W9.cell? ⟨w.heap.size, 2, none⟩ = some (.int .i64 0) := by rw [K9.out.r.cell 2]; rfl
  have r3 : W9.cell? ⟨w.heap.size, 3, none⟩ = some (.int .i64 0) := by rw [K9.out.r.cell 3]; rfl
  have r4 : W9.cell? ⟨w.heap.size, 4, none⟩ = some (.int .i64 0) := by rw [K9.out.r.cell 4]; rfl
  have r5 : W9.cell? ⟨w.heap.size, 5, none⟩ = some (.int .i64 0) := by rw [K9.out.r.cell 5]; rfl
  have r6 : W9.cell? ⟨w.heap.size, 6, none⟩ = some (.int .i64 0) := by rw [K9.out.r.cell 6]; rfl
  have r7 : W9.cell? ⟨w.heap.size, 7, none⟩ = some (.int .i8 0) := by rw [K9.out.r.cell 7]; rfl
  have f0 := K9.out.r.frozen 0
  have f1 := K9.out.r.frozen 1
  have f2 := K9.out.r.frozen 2
  have f3 := K9.out.r.frozen 3
  have f4 := K9.out.r.frozen 4
  have f5 := K9.out.r.frozen 5
  have f6 := K9.out.r.frozen 6
  have f7 := K9.out.r.frozen 7
  have p0 : W9.cell? ⟨(w.heap.size + 1), 0, none⟩ = some (.int .i8 c.kind) := by rw [K9.out.p.cell 0]; rfl
  have p1 : W9.cell? ⟨(w.heap.size + 1), 1, none⟩ = some (.int .i64 c.node) := by rw [K9.out.p.cell 1]; rfl
  have p2 : W9.cell? ⟨(w.heap.size + 1), 2, none⟩ = some (.int .i64 c.serial) := by rw [K9.out.p.cell 2]; rfl
  have p3 : W9.cell? ⟨(w.heap.size + 1), 3, none⟩ = some (.int .i64 c.dead) := by rw [K9.out.p.cell 3]; rfl
  have p4 : W9.cell? ⟨(w.heap.size + 1), 4, none⟩ = some (.int .i64 c.was) := by rw [K9.out.p.cell 4]; rfl
  have p5 : W9.cell? ⟨(w.heap.size + 1), 5, none⟩ = some (.int .i64 c.lo) := by rw [K9.out.p.cell 5]; rfl
  have p6 : W9.cell? ⟨(w.heap.size + 1), 6, none⟩ = some (.int .i64 c.hi) := by rw [K9.out.p.cell 6]; rfl
  have p7 : W9.cell? ⟨(w.heap.size + 1), 7, none⟩ = some (.int .i8 c.mode) := by rw [K9.out.p.cell 7]; rfl
  refine Or.elim (bytes_or c) (fun q => ?_) (fun q => ?_)
  · have QM := Lib.hid q.2
    have hE0 : E = 0 := HE.out.symm.trans q.1
    rw [hE0]
    clear q hE0
    refine Or.elim (Classical.em (X = s)) (fun q => ?_) (fun q => ?_)
    · have QO : Hid (readC s = (c, 0)) := Lib.hid (fin_ok s c QM.out.1 (by rw [← QM.out.2, HX.out, q]))
      rw [q]
      clear q
      go_wp2_with fail
      try simp only [Exit.inBlock, Exit.then]
      refine bodyPost_ret (w := setR W9 w.heap.size c) (ret_cell (g := w.heap.size) rfl _ _ c rfl (setR_blk c K9.out.r)) rfl ⟨?_, setR_below c K9.out.b (Nat.le_refl _)⟩
      rw [QO.out]
      rfl
    · have QO : Hid (readC s = (cZ, 100)) := Lib.hid (fin_ne s c (by rw [← QM.out.2, HX.out]; exact q) UQ.out)
      have qn : (X.toList == s.toList) = false := beq_eq_false_iff_ne.2 (fun h => q (by rw [← str_of X, ← str_toList, h, str_toList, str_of]))
      clear q
      go_wp2_with fail
      try simp only [Exit.inBlock, Exit.then]
      refine bodyPost_ret (w := setR W9 w.heap.size cZ) (ret_cell (g := w.heap.size) rfl _ _ cZ rfl (setR_blk cZ K9.out.r)) rfl ⟨?_, setR_below cZ K9.out.b (Nat.le_refl _)⟩
      rw [QO.out]
      rfl
  · have QO : Hid (readC s = (cZ, 100)) := Lib.hid (fin_may s c q.2 UQ.out)
    have hE0 : E = 2 := HE.out.symm.trans q.1
    rw [hE0]
    clear q hE0
    go_wp2_with fail
    try simp only [Exit.inBlock, Exit.then]
    refine bodyPost_ret (w := setR W9 w.heap.size cZ) (ret_cell (g := w.heap.size) rfl _ _ cZ rfl (setR_blk cZ K9.out.r)) rfl ⟨?_, setR_below cZ K9.out.b (Nat.le_refl _)⟩
    rw [QO.out]
    rfl

set_option maxHeartbeats 4000000 in
theorem rr_2 (s : ByteArray) (w : World) (v1 v2 : Int) (b : Nat) (R : ByteArray) (hs : s.size ≤ 200) (h11 : 11 ≤ s.size) (g1 : getR s 1 6 = (v1, 0)) (g2 : getR s 7 4 = (v2, 0)) (hb : (s[0]'(by omega)).toNat = b) (hR : s.extract 11 s.size = R) (lk : Known s v1 0 v2 0 b R) (hb2 : b ≤ 127) (k2 : ((b : Int) == 2) = true) :
    Calls Try.prog 23 #[.string s] w fun e w' => e = .returned (.tuple #[.agg (cC (readC s).1), .int .i64 (readC s).2]) ∧ Below w.heap.size w w' := by
  have c1 := fun W => rget_gen s 1 6 W (by unfold maxLen; omega)
  rw [g1] at c1
  have c2 := fun W => rget_gen s 7 4 W (by unfold maxLen; omega)
  rw [g2] at c2
  have C1 := Lib.hid c1; have C2 := Lib.hid c2; have LK := Lib.hid lk
  clear c1 c2 g1 g2 lk
  go_enter Try.func23, Try.ntmps23
  go_wp2_with fail
  refine (C1.out _).mono ?_
  rintro e w1 ⟨rfl, rfl⟩
  go_wp2_with fail
  refine (C2.out _).mono ?_
  rintro e w1 ⟨rfl, rfl⟩
  clear C1 C2
  go_upto_region 9 with fail
  have kt := Rt.start w (cC ⟨b, v1, v2, 0, 0, 0, 0, 0⟩)
  obtain ⟨W1, hW1⟩ : ∃ W, W = ((w.alloc (Obj.cells (cC cZ) 42)).alloc (Obj.cells (cC ⟨b, v1, v2, 0, 0, 0, 0, 0⟩) 42)) := ⟨_, rfl⟩
  rw [← hW1] at kt
  simp only [cC, cZ] at hW1
  rw [← hW1]
  have KT := Lib.hid kt
  clear kt hW1
  have c0 : W1.cell? ⟨(w.heap.size + 1), 0, none⟩ = some (.int .i8 b) := by rw [KT.out.p.cell 0]; rfl
  refine Or.elim (Nat.lt_or_ge R.size 2) (fun hq => ?_) (fun hq => ?_)
  · have HZ := Lib.hid hq
    clear hq
    have z2 : R.size < 2 := HZ.out
    have ER : Hid (readC s = (cZ, 100)) := Lib.hid (rd_size LK.out 2 (by exact k2) (by decide) HZ.out)
    have r0 : W1.cell? ⟨w.heap.size, 0, none⟩ = some (.int .i8 0) := by rw [KT.out.r.cell 0]; rfl
    have r1 : W1.cell? ⟨w.heap.size, 1, none⟩ = some (.int .i64 0) := by rw [KT.out.r.cell 1]; rfl
    have r2 : W1.cell? ⟨w.heap.size, 2, none⟩ = some (.int .i64 0) := by rw [KT.out.r.cell 2]; rfl
    have r3 : W1.cell? ⟨w.heap.size, 3, none⟩ = some (.int .i64 0) := by rw [KT.out.r.cell 3]; rfl
    have r4 : W1.cell? ⟨w.heap.size, 4, none⟩ = some (.int .i64 0) := by rw [KT.out.r.cell 4]; rfl
    have r5 : W1.cell? ⟨w.heap.size, 5, none⟩ = some (.int .i64 0) := by rw [KT.out.r.cell 5]; rfl
    have r6 : W1.cell? ⟨w.heap.size, 6, none⟩ = some (.int .i64 0) := by rw [KT.out.r.cell 6]; rfl
    have r7 : W1.cell? ⟨w.heap.size, 7, none⟩ = some (.int .i8 0) := by rw [KT.out.r.cell 7]; rfl
    have f0 := KT.out.r.frozen 0
    have f1 := KT.out.r.frozen 1
    have f2 := KT.out.r.frozen 2
    have f3 := KT.out.r.frozen 3
    have f4 := KT.out.r.frozen 4
    have f5 := KT.out.r.frozen 5
    have f6 := KT.out.r.frozen 6
    have f7 := KT.out.r.frozen 7
    go_wp2_with fail
    try simp only [Exit.inBlock, Exit.then]
    refine bodyPost_ret (w := setR W1 w.heap.size cZ) (ret_cell (g := w.heap.size) rfl _ _ cZ rfl (setR_blk cZ KT.out.r)) rfl ⟨?_, setR_below cZ KT.out.b (Nat.le_refl _)⟩
    rw [ER.out]
    rfl
  · have hz : 2 ≤ R.size := hq
    clear hq
    obtain ⟨r0, hr0⟩ : ∃ r, (R[0]'(by omega)).toNat = r := ⟨_, rfl⟩
    obtain ⟨r1, hr1⟩ : ∃ r, (R[1]'(by omega)).toNat = r := ⟨_, rfl⟩
    have y0 : r0 < 256 := by rw [← hr0]; exact UInt8.toNat_lt _
    have y1 : r1 < 256 := by rw [← hr1]; exact UInt8.toNat_lt _
    have hw0 : wrap64 (r0 : Int) = r0 := IntWalk.wrap64_in _ ⟨by omega, by omega⟩
    have hw1 : wrap64 (r1 : Int) = r1 := IntWalk.wrap64_in _ ⟨by omega, by omega⟩
    have g5 := KT.out.p.frozen 5
    have c5 : W1.cell? ⟨(w.heap.size + 1), 5, none⟩ = some (.int .i64 0) := by rw [KT.out.p.cell 5]; rfl
    have g6 := KT.out.p.frozen 6
    have c6 : W1.cell? ⟨(w.heap.size + 1), 6, none⟩ = some (.int .i64 0) := by rw [KT.out.p.cell 6]; rfl
    go_upto_region 14 with fail
    go_region
    go_upto_region 15 with fail
    have ks := ((KT.out.set_ 5 (.int .i64 r0)).set_ 6 (.int .i64 r1)).drew
    obtain ⟨W2, hW2⟩ : ∃ W, W = ((W1.setCell ⟨(w.heap.size + 1), 5, none⟩ (.int .i64 r0)).setCell ⟨(w.heap.size + 1), 6, none⟩ (.int .i64 r1)).drew := ⟨_, rfl⟩
    have KS : Hid (Rt w W2 (w.heap.size + 1) (cC ⟨b, v1, v2, 0, 0, r0, r1, 0⟩)) := Lib.hid (by rw [hW2]; exact ks)
    rw [← hW2]
    clear ks hW2 g5 g6 c5 c6 c0 y0 y1 hw0 hw1 KT
    have c0 : W2.cell? ⟨(w.heap.size + 1), 0, none⟩ = some (.int .i8 b) := by rw [KS.out.p.cell 0]; rfl
    refine Or.elim (bool_or ((R.size : Int) == 3)) (fun hq => ?_) (fun hq => ?_)
    · have z3 : R.size = 3 := by have := eq_of_beq hq; omega
      have hq3 := hq
      clear hq
      obtain ⟨r2, hr2⟩ : ∃ r, (R[2]'(by omega)).toNat = r := ⟨_, rfl⟩
      obtain ⟨m, hm⟩ : ∃ m, IntKind.i8.wrap (bits BinOp.and IntKind.u8 (r2 : Int) 127) = m := ⟨_, rfl⟩
      have g7 := KS.out.p.frozen 7
      have c7 : W2.cell? ⟨(w.heap.size + 1), 7, none⟩ = some (.int .i8 0) := by rw [KS.out.p.cell 7]; rfl
      go_upto_region 25 with fail
      have ks := KS.out.set_ 7 (.int .i8 m)
      obtain ⟨W3, hW3⟩ : ∃ W, W = W2.setCell ⟨(w.heap.size + 1), 7, none⟩ (.int .i8 m) := ⟨_, rfl⟩
      have KU : Hid (Rt w W3 (w.heap.size + 1) (cC ⟨b, v1, v2, 0, 0, r0, r1, m⟩)) := Lib.hid (by rw [hW3]; exact ks)
      rw [← hW3]
      clear ks hW3 g7 c7 c0 KS
      have UQ0 : Hid (∀ d, mayC d = true → strB (bytesC d) = s → d = ⟨b, v1, v2, 0, 0, r0, r1, m⟩) := Lib.hid (uq_2 LK.out (by exact k2) z3 r0 r1 r2 hr0 hr1 hr2 m hm)
      obtain ⟨c, hc⟩ : ∃ c : Cm, c = ⟨b, v1, v2, 0, 0, r0, r1, m⟩ := ⟨_, rfl⟩
      have KC : Hid (Rt w W3 (w.heap.size + 1) (cC c)) := Lib.hid (by rw [hc]; exact KU.out)
      have UQ : Hid (∀ d, mayC d = true → strB (bytesC d) = s → d = c) := Lib.hid (by rw [hc]; exact UQ0.out)
      clear hc UQ0 KU
      have p0 : W3.cell? ⟨(w.heap.size + 1), 0, none⟩ = some (.int .i8 c.kind) := by rw [KC.out.p.cell 0]; rfl
      have p1 : W3.cell? ⟨(w.heap.size + 1), 1, none⟩ = some (.int .i64 c.node) := by rw [KC.out.p.cell 1]; rfl
      have p2 : W3.cell? ⟨(w.heap.size + 1), 2, none⟩ = some (.int .i64 c.serial) := by rw [KC.out.p.cell 2]; rfl
      have p3 : W3.cell? ⟨(w.heap.size + 1), 3, none⟩ = some (.int .i64 c.dead) := by rw [KC.out.p.cell 3]; rfl
      have p4 : W3.cell? ⟨(w.heap.size + 1), 4, none⟩ = some (.int .i64 c.was) := by rw [KC.out.p.cell 4]; rfl
      have p5 : W3.cell? ⟨(w.heap.size + 1), 5, none⟩ = some (.int .i64 c.lo) := by rw [KC.out.p.cell 5]; rfl
      have p6 : W3.cell? ⟨(w.heap.size + 1), 6, none⟩ = some (.int .i64 c.hi) := by rw [KC.out.p.cell 6]; rfl
      have p7 : W3.cell? ⟨(w.heap.size + 1), 7, none⟩ = some (.int .i8 c.mode) := by rw [KC.out.p.cell 7]; rfl
      obtain ⟨X, hX⟩ : ∃ X, bytesS c = X := ⟨_, rfl⟩
      obtain ⟨E, hE⟩ : ∃ E, bytesE c = E := ⟨_, rfl⟩
      have cb := rbytes_any c W3
      rw [hX, hE] at cb
      simp only [cC] at cb
      have CB := Lib.hid cb; have HX := Lib.hid hX; have HE := Lib.hid hE
      clear cb hX hE
      go_wp2_with fail
      refine CB.out.mono ?_
      rintro e W9 ⟨rfl, b9⟩
      have K9 : Hid (Rt w W9 (w.heap.size + 1) (cC c)) := Lib.hid (KC.out.below b9)
      clear b9 KC CB p0 p1 p2 p3 p4 p5 p6 p7
      have r0 : W9.cell? ⟨w.heap.size, 0, none⟩ = some (.int .i8 0) := by rw [K9.out.r.cell 0]; rfl
      have r1 : W9.cell? ⟨w.heap.size, 1, none⟩ = some (.int .i64 0) := by rw [K9.out.r.cell 1]; rfl
      have r2 : W9.cell? ⟨w.heap.size, 2, none⟩ = some (.int .i64 0) := by rw [K9.out.r.cell 2]; rfl
      have r3 : W9.cell? ⟨w.heap.size, 3, none⟩ = some (.int .i64 0) := by rw [K9.out.r.cell 3]; rfl
      have r4 : W9.cell? ⟨w.heap.size, 4, none⟩ = some (.int .i64 0) := by rw [K9.out.r.cell 4]; rfl
      have r5 : W9.cell? ⟨w.heap.size, 5, none⟩ = some (.int .i64 0) := by rw [K9.out.r.cell 5]; rfl
      have r6 : W9.cell? ⟨w.heap.size, 6, none⟩ = some (.int .i64 0) := by rw [K9.out.r.cell 6]; rfl
      have r7 : W9.cell? ⟨w.heap.size, 7, none⟩ = some (.int .i8 0) := by rw [K9.out.r.cell 7]; rfl
      have f0 := K9.out.r.frozen 0
      have f1 := K9.out.r.frozen 1
      have f2 := K9.out.r.frozen 2
      have f3 := K9.out.r.frozen 3
      have f4 := K9.out.r.frozen 4
      have f5 := K9.out.r.frozen 5
      have f6 := K9.out.r.frozen 6
      have f7 := K9.out.r.frozen 7
      have p0 : W9.cell? ⟨(w.heap.size + 1), 0, none⟩ = some (.int .i8 c.kind) := by rw [K9.out.p.cell 0]; rfl
      have p1 : W9.cell? ⟨(w.heap.size + 1), 1, none⟩ = some (.int .i64 c.node) := by rw [K9.out.p.cell 1]; rfl
      have p2 : W9.cell? ⟨(w.heap.size + 1), 2, none⟩ = some (.int .i64 c.serial) := by rw [K9.out.p.cell 2]; rfl
      have p3 : W9.cell? ⟨(w.heap.size + 1), 3, none⟩ = some (.int .i64 c.dead) := by rw [K9.out.p.cell 3]; rfl
      have p4 : W9.cell? ⟨(w.heap.size + 1), 4, none⟩ = some (.int .i64 c.was) := by rw [K9.out.p.cell 4]; rfl
      have p5 : W9.cell? ⟨(w.heap.size + 1), 5, none⟩ = some (.int .i64 c.lo) := by rw [K9.out.p.cell 5]; rfl
      have p6 : W9.cell? ⟨(w.heap.size + 1), 6, none⟩ = some (.int .i64 c.hi) := by rw [K9.out.p.cell 6]; rfl
      have p7 : W9.cell? ⟨(w.heap.size + 1), 7, none⟩ = some (.int .i8 c.mode) := by rw [K9.out.p.cell 7]; rfl
      refine Or.elim (bytes_or c) (fun q => ?_) (fun q => ?_)
      · have QM := Lib.hid q.2
        have hE0 : E = 0 := HE.out.symm.trans q.1
        rw [hE0]
        clear q hE0
        refine Or.elim (Classical.em (X = s)) (fun q => ?_) (fun q => ?_)
        · have QO : Hid (readC s = (c, 0)) := Lib.hid (fin_ok s c QM.out.1 (by rw [← QM.out.2, HX.out, q]))
          rw [q]
          clear q
          go_wp2_with fail
          try simp only [Exit.inBlock, Exit.then]
          refine bodyPost_ret (w := setR W9 w.heap.size c) (ret_cell (g := w.heap.size) rfl _ _ c rfl (setR_blk c K9.out.r)) rfl ⟨?_, setR_below c K9.out.b (Nat.le_refl _)⟩
          rw [QO.out]
          rfl
        · have QO : Hid (readC s = (cZ, 100)) := Lib.hid (fin_ne s c (by rw [← QM.out.2, HX.out]; exact q) UQ.out)
          have qn : (X.toList == s.toList) = false := beq_eq_false_iff_ne.2 (fun h => q (by rw [← str_of X, ← str_toList, h, str_toList, str_of]))
          clear q
          go_wp2_with fail
          try simp only [Exit.inBlock, Exit.then]
          refine bodyPost_ret (w := setR W9 w.heap.size cZ) (ret_cell (g := w.heap.size) rfl _ _ cZ rfl (setR_blk cZ K9.out.r)) rfl ⟨?_, setR_below cZ K9.out.b (Nat.le_refl _)⟩
          rw [QO.out]
          rfl
      · have QO : Hid (readC s = (cZ, 100)) := Lib.hid (fin_may s c q.2 UQ.out)
        have hE0 : E = 2 := HE.out.symm.trans q.1
        rw [hE0]
        clear q hE0
        go_wp2_with fail
        try simp only [Exit.inBlock, Exit.then]
        refine bodyPost_ret (w := setR W9 w.heap.size cZ) (ret_cell (g := w.heap.size) rfl _ _ cZ rfl (setR_blk cZ K9.out.r)) rfl ⟨?_, setR_below cZ K9.out.b (Nat.le_refl _)⟩
        rw [QO.out]
        rfl
    · have hq3 := hq
      clear hq
      go_upto_region 25 with fail
      clear c0
      have UQ0 : Hid (∀ d, mayC d = true → strB (bytesC d) = s → d = ⟨b, v1, v2, 0, 0, r0, r1, 0⟩) := Lib.hid (uq_2n LK.out (by exact k2) hq3 _)
      obtain ⟨c, hc⟩ : ∃ c : Cm, c = ⟨b, v1, v2, 0, 0, r0, r1, 0⟩ := ⟨_, rfl⟩
      have KC : Hid (Rt w W2 (w.heap.size + 1) (cC c)) := Lib.hid (by rw [hc]; exact KS.out)
      have UQ : Hid (∀ d, mayC d = true → strB (bytesC d) = s → d = c) := Lib.hid (by rw [hc]; exact UQ0.out)
      clear hc UQ0 KS
      have p0 : W2.cell? ⟨(w.heap.size + 1), 0, none⟩ = some (.int .i8 c.kind) := by rw [KC.out.p.cell 0]; rfl
      have p1 : W2.cell? ⟨(w.heap.size + 1), 1, none⟩ = some (.int .i64 c.node) := by rw [KC.out.p.cell 1]; rfl
      have p2 : W2.cell? ⟨(w.heap.size + 1), 2, none⟩ = some (.int .i64 c.serial) := by rw [KC.out.p.cell 2]; rfl
      have p3 : W2.cell? ⟨(w.heap.size + 1), 3, none⟩ = some (.int .i64 c.dead) := by rw [KC.out.p.cell 3]; rfl
      have p4 : W2.cell? ⟨(w.heap.size + 1), 4, none⟩ = some (.int .i64 c.was) := by rw [KC.out.p.cell 4]; rfl
      have p5 : W2.cell? ⟨(w.heap.size + 1), 5, none⟩ = some (.int .i64 c.lo) := by rw [KC.out.p.cell 5]; rfl
      have p6 : W2.cell? ⟨(w.heap.size + 1), 6, none⟩ = some (.int .i64 c.hi) := by rw [KC.out.p.cell 6]; rfl
      have p7 : W2.cell? ⟨(w.heap.size + 1), 7, none⟩ = some (.int .i8 c.mode) := by rw [KC.out.p.cell 7]; rfl
      obtain ⟨X, hX⟩ : ∃ X, bytesS c = X := ⟨_, rfl⟩
      obtain ⟨E, hE⟩ : ∃ E, bytesE c = E := ⟨_, rfl⟩
      have cb := rbytes_any c W2
      rw [hX, hE] at cb
      simp only [cC] at cb
      have CB := Lib.hid cb; have HX := Lib.hid hX; have HE := Lib.hid hE
      clear cb hX hE
      go_wp2_with fail
      refine CB.out.mono ?_
      rintro e W9 ⟨rfl, b9⟩
      have K9 : Hid (Rt w W9 (w.heap.size + 1) (cC c)) := Lib.hid (KC.out.below b9)
      clear b9 KC CB p0 p1 p2 p3 p4 p5 p6 p7
      have r0 : W9.cell? ⟨w.heap.size, 0, none⟩ = some (.int .i8 0) := by rw [K9.out.r.cell 0]; rfl
      have r1 : W9.cell? ⟨w.heap.size, 1, none⟩ = some (.int .i64 0) := by rw [K9.out.r.cell 1]; rfl
      have r2 : W9.cell? ⟨w.heap.size, 2, none⟩ = some (.int .i64 0) := by rw [K9.out.r.cell 2]; rfl
      have r3 : W9.cell? ⟨w.heap.size, 3, none⟩ = some (.int .i64 0) := by rw [K9.out.r.cell 3]; rfl
      have r4 : W9.cell? ⟨w.heap.size, 4, none⟩ = some (.int .i64 0) := by rw [K9.out.r.cell 4]; rfl
      have r5 : W9.cell? ⟨w.heap.size, 5, none⟩ = some (.int .i64 0) := by rw [K9.out.r.cell 5]; rfl
      have r6 : W9.cell? ⟨w.heap.size, 6, none⟩ = some (.int .i64 0) := by rw [K9.out.r.cell 6]; rfl
      have r7 : W9.cell? ⟨w.heap.size, 7, none⟩ = some (.int .i8 0) := by rw [K9.out.r.cell 7]; rfl
      have f0 := K9.out.r.frozen 0
      have f1 := K9.out.r.frozen 1
      have f2 := K9.out.r.frozen 2
      have f3 := K9.out.r.frozen 3
      have f4 := K9.out.r.frozen 4
      have f5 := K9.out.r.frozen 5
      have f6 := K9.out.r.frozen 6
      have f7 := K9.out.r.frozen 7
      have p0 : W9.cell? ⟨(w.heap.size + 1), 0, none⟩ = some (.int .i8 c.kind) := by rw [K9.out.p.cell 0]; rfl
      have p1 : W9.cell? ⟨(w.heap.size + 1), 1, none⟩ = some (.int .i64 c.node) := by rw [K9.out.p.cell 1]; rfl
      have p2 : W9.cell? ⟨(w.heap.size + 1), 2, none⟩ = some (.int .i64 c.serial) := by rw [K9.out.p.cell 2]; rfl
      have p3 : W9.cell? ⟨(w.heap.size + 1), 3, none⟩ = some (.int .i64 c.dead) := by rw [K9.out.p.cell 3]; rfl
      have p4 : W9.cell? ⟨(w.heap.size + 1), 4, none⟩ = some (.int .i64 c.was) := by rw [K9.out.p.cell 4]; rfl
      have p5 : W9.cell? ⟨(w.heap.size + 1), 5, none⟩ = some (.int .i64 c.lo) := by rw [K9.out.p.cell 5]; rfl
      have p6 : W9.cell? ⟨(w.heap.size + 1), 6, none⟩ = some (.int .i64 c.hi) := by rw [K9.out.p.cell 6]; rfl
      have p7 : W9.cell? ⟨(w.heap.size + 1), 7, none⟩ = some (.int .i8 c.mode) := by rw [K9.out.p.cell 7]; rfl
      refine Or.elim (bytes_or c) (fun q => ?_) (fun q => ?_)
      · have QM := Lib.hid q.2
        have hE0 : E = 0 := HE.out.symm.trans q.1
        rw [hE0]
        clear q hE0
        refine Or.elim (Classical.em (X = s)) (fun q => ?_) (fun q => ?_)
        · have QO : Hid (readC s = (c, 0)) := Lib.hid (fin_ok s c QM.out.1 (by rw [← QM.out.2, HX.out, q]))
          rw [q]
          clear q
          go_wp2_with fail
          try simp only [Exit.inBlock, Exit.then]
          refine bodyPost_ret (w := setR W9 w.heap.size c) (ret_cell (g := w.heap.size) rfl _ _ c rfl (setR_blk c K9.out.r)) rfl ⟨?_, setR_below c K9.out.b (Nat.le_refl _)⟩
          rw [QO.out]
          rfl
        · have QO : Hid (readC s = (cZ, 100)) := Lib.hid (fin_ne s c (by rw [← QM.out.2, HX.out]; exact q) UQ.out)
          have qn : (X.toList == s.toList) = false := beq_eq_false_iff_ne.2 (fun h => q (by rw [← str_of X, ← str_toList, h, str_toList, str_of]))
          clear q
          go_wp2_with fail
          try simp only [Exit.inBlock, Exit.then]
          refine bodyPost_ret (w := setR W9 w.heap.size cZ) (ret_cell (g := w.heap.size) rfl _ _ cZ rfl (setR_blk cZ K9.out.r)) rfl ⟨?_, setR_below cZ K9.out.b (Nat.le_refl _)⟩
          rw [QO.out]
          rfl
      · have QO : Hid (readC s = (cZ, 100)) := Lib.hid (fin_may s c q.2 UQ.out)
        have hE0 : E = 2 := HE.out.symm.trans q.1
        rw [hE0]
        clear q hE0
        go_wp2_with fail
        try simp only [Exit.inBlock, Exit.then]
        refine bodyPost_ret (w := setR W9 w.heap.size cZ) (ret_cell (g := w.heap.size) rfl _ _ cZ rfl (setR_blk cZ K9.out.r)) rfl ⟨?_, setR_below cZ K9.out.b (Nat.le_refl _)⟩
        rw [QO.out]
        rfl

set_option maxHeartbeats 4000000 in
theorem rr_3 (s : ByteArray) (w : World) (v1 v2 : Int) (b : Nat) (R : ByteArray) (hs : s.size ≤ 200) (h11 : 11 ≤ s.size) (g1 : getR s 1 6 = (v1, 0)) (g2 : getR s 7 4 = (v2, 0)) (hb : (s[0]'(by omega)).toNat = b) (hR : s.extract 11 s.size = R) (lk : Known s v1 0 v2 0 b R) (hb2 : b ≤ 127) (k2 : ((b : Int) == 2) = false) (k3 : ((b : Int) == 3) = true) :
    Calls Try.prog 23 #[.string s] w fun e w' => e = .returned (.tuple #[.agg (cC (readC s).1), .int .i64 (readC s).2]) ∧ Below w.heap.size w w' := by
  have c1 := fun W => rget_gen s 1 6 W (by unfold maxLen; omega)
  rw [g1] at c1
  have c2 := fun W => rget_gen s 7 4 W (by unfold maxLen; omega)
  rw [g2] at c2
  have C1 := Lib.hid c1; have C2 := Lib.hid c2; have LK := Lib.hid lk
  clear c1 c2 g1 g2 lk
  go_enter Try.func23, Try.ntmps23
  go_wp2_with fail
  refine (C1.out _).mono ?_
  rintro e w1 ⟨rfl, rfl⟩
  go_wp2_with fail
  refine (C2.out _).mono ?_
  rintro e w1 ⟨rfl, rfl⟩
  clear C1 C2
  go_upto_region 9 with fail
  have kt := Rt.start w (cC ⟨b, v1, v2, 0, 0, 0, 0, 0⟩)
  obtain ⟨W1, hW1⟩ : ∃ W, W = ((w.alloc (Obj.cells (cC cZ) 42)).alloc (Obj.cells (cC ⟨b, v1, v2, 0, 0, 0, 0, 0⟩) 42)) := ⟨_, rfl⟩
  rw [← hW1] at kt
  simp only [cC, cZ] at hW1
  rw [← hW1]
  have KT := Lib.hid kt
  clear kt hW1
  have c0 : W1.cell? ⟨(w.heap.size + 1), 0, none⟩ = some (.int .i8 b) := by rw [KT.out.p.cell 0]; rfl
  refine Or.elim (Nat.lt_or_ge R.size 2) (fun hq => ?_) (fun hq => ?_)
  · have HZ := Lib.hid hq
    clear hq
    have z2 : R.size < 2 := HZ.out
    have ER : Hid (readC s = (cZ, 100)) := Lib.hid (rd_size LK.out 3 (by exact k3) (by decide) HZ.out)
    have r0 : W1.cell? ⟨w.heap.size, 0, none⟩ = some (.int .i8 0) := by rw [KT.out.r.cell 0]; rfl
    have r1 : W1.cell? ⟨w.heap.size, 1, none⟩ = some (.int .i64 0) := by rw [KT.out.r.cell 1]; rfl
    have r2 : W1.cell? ⟨w.heap.size, 2, none⟩ = some (.int .i64 0) := by rw [KT.out.r.cell 2]; rfl
    have r3 : W1.cell? ⟨w.heap.size, 3, none⟩ = some (.int .i64 0) := by rw [KT.out.r.cell 3]; rfl
    have r4 : W1.cell? ⟨w.heap.size, 4, none⟩ = some (.int .i64 0) := by rw [KT.out.r.cell 4]; rfl
    have r5 : W1.cell? ⟨w.heap.size, 5, none⟩ = some (.int .i64 0) := by rw [KT.out.r.cell 5]; rfl
    have r6 : W1.cell? ⟨w.heap.size, 6, none⟩ = some (.int .i64 0) := by rw [KT.out.r.cell 6]; rfl
    have r7 : W1.cell? ⟨w.heap.size, 7, none⟩ = some (.int .i8 0) := by rw [KT.out.r.cell 7]; rfl
    have f0 := KT.out.r.frozen 0
    have f1 := KT.out.r.frozen 1
    have f2 := KT.out.r.frozen 2
    have f3 := KT.out.r.frozen 3
    have f4 := KT.out.r.frozen 4
    have f5 := KT.out.r.frozen 5
    have f6 := KT.out.r.frozen 6
    have f7 := KT.out.r.frozen 7
    go_wp2_with fail
    try simp only [Exit.inBlock, Exit.then]
    refine bodyPost_ret (w := setR W1 w.heap.size cZ) (ret_cell (g := w.heap.size) rfl _ _ cZ rfl (setR_blk cZ KT.out.r)) rfl ⟨?_, setR_below cZ KT.out.b (Nat.le_refl _)⟩
    rw [ER.out]
    rfl
  · have hz : 2 ≤ R.size := hq
    clear hq
    obtain ⟨r0, hr0⟩ : ∃ r, (R[0]'(by omega)).toNat = r := ⟨_, rfl⟩
    obtain ⟨r1, hr1⟩ : ∃ r, (R[1]'(by omega)).toNat = r := ⟨_, rfl⟩
    have y0 : r0 < 256 := by rw [← hr0]; exact UInt8.toNat_lt _
    have y1 : r1 < 256 := by rw [← hr1]; exact UInt8.toNat_lt _
    have hw0 : wrap64 (r0 : Int) = r0 := IntWalk.wrap64_in _ ⟨by omega, by omega⟩
    have hw1 : wrap64 (r1 : Int) = r1 := IntWalk.wrap64_in _ ⟨by omega, by omega⟩
    have g5 := KT.out.p.frozen 5
    have c5 : W1.cell? ⟨(w.heap.size + 1), 5, none⟩ = some (.int .i64 0) := by rw [KT.out.p.cell 5]; rfl
    have g6 := KT.out.p.frozen 6
    have c6 : W1.cell? ⟨(w.heap.size + 1), 6, none⟩ = some (.int .i64 0) := by rw [KT.out.p.cell 6]; rfl
    go_upto_region 14 with fail
    go_region
    go_upto_region 15 with fail
    have ks := ((KT.out.set_ 5 (.int .i64 r0)).set_ 6 (.int .i64 r1)).drew
    obtain ⟨W2, hW2⟩ : ∃ W, W = ((W1.setCell ⟨(w.heap.size + 1), 5, none⟩ (.int .i64 r0)).setCell ⟨(w.heap.size + 1), 6, none⟩ (.int .i64 r1)).drew := ⟨_, rfl⟩
    have KS : Hid (Rt w W2 (w.heap.size + 1) (cC ⟨b, v1, v2, 0, 0, r0, r1, 0⟩)) := Lib.hid (by rw [hW2]; exact ks)
    rw [← hW2]
    clear ks hW2 g5 g6 c5 c6 c0 y0 y1 hw0 hw1 KT
    have c0 : W2.cell? ⟨(w.heap.size + 1), 0, none⟩ = some (.int .i8 b) := by rw [KS.out.p.cell 0]; rfl
    go_upto_region 25 with fail
    clear c0
    have UQ0 : Hid (∀ d, mayC d = true → strB (bytesC d) = s → d = ⟨b, v1, v2, 0, 0, r0, r1, 0⟩) := Lib.hid (uq_3 LK.out (by exact k3) hz r0 r1 hr0 hr1)
    obtain ⟨c, hc⟩ : ∃ c : Cm, c = ⟨b, v1, v2, 0, 0, r0, r1, 0⟩ := ⟨_, rfl⟩
    have KC : Hid (Rt w W2 (w.heap.size + 1) (cC c)) := Lib.hid (by rw [hc]; exact KS.out)
    have UQ : Hid (∀ d, mayC d = true → strB (bytesC d) = s → d = c) := Lib.hid (by rw [hc]; exact UQ0.out)
    clear hc UQ0 KS
    have p0 : W2.cell? ⟨(w.heap.size + 1), 0, none⟩ = some (.int .i8 c.kind) := by rw [KC.out.p.cell 0]; rfl
    have p1 : W2.cell? ⟨(w.heap.size + 1), 1, none⟩ = some (.int .i64 c.node) := by rw [KC.out.p.cell 1]; rfl
    have p2 : W2.cell? ⟨(w.heap.size + 1), 2, none⟩ = some (.int .i64 c.serial) := by rw [KC.out.p.cell 2]; rfl
    have p3 : W2.cell? ⟨(w.heap.size + 1), 3, none⟩ = some (.int .i64 c.dead) := by rw [KC.out.p.cell 3]; rfl
    have p4 : W2.cell? ⟨(w.heap.size + 1), 4, none⟩ = some (.int .i64 c.was) := by rw [KC.out.p.cell 4]; rfl
    have p5 : W2.cell? ⟨(w.heap.size + 1), 5, none⟩ = some (.int .i64 c.lo) := by rw [KC.out.p.cell 5]; rfl
    have p6 : W2.cell? ⟨(w.heap.size + 1), 6, none⟩ = some (.int .i64 c.hi) := by rw [KC.out.p.cell 6]; rfl
    have p7 : W2.cell? ⟨(w.heap.size + 1), 7, none⟩ = some (.int .i8 c.mode) := by rw [KC.out.p.cell 7]; rfl
    obtain ⟨X, hX⟩ : ∃ X, bytesS c = X := ⟨_, rfl⟩
    obtain ⟨E, hE⟩ : ∃ E, bytesE c = E := ⟨_, rfl⟩
    have cb := rbytes_any c W2
    rw [hX, hE] at cb
    simp only [cC] at cb
    have CB := Lib.hid cb; have HX := Lib.hid hX; have HE := Lib.hid hE
    clear cb hX hE
    go_wp2_with fail
    refine CB.out.mono ?_
    rintro e W9 ⟨rfl, b9⟩
    have K9 : Hid (Rt w W9 (w.heap.size + 1) (cC c)) := Lib.hid (KC.out.below b9)
    clear b9 KC CB p0 p1 p2 p3 p4 p5 p6 p7
    have r0 : W9.cell? ⟨w.heap.size, 0, none⟩ = some (.int .i8 0) := by rw [K9.out.r.cell 0]; rfl
    have r1 : W9.cell? ⟨w.heap.size, 1, none⟩ = some (.int .i64 0) := by rw [K9.out.r.cell 1]; rfl
    have r2 : W9.cell? ⟨w.heap.size, 2, none⟩ = some (.int .i64 0) := by rw [K9.out.r.cell 2]; rfl
    have r3 : W9.cell? ⟨w.heap.size, 3, none⟩ = some (.int .i64 0) := by rw [K9.out.r.cell 3]; rfl
    have r4 : W9.cell? ⟨w.heap.size, 4, none⟩ = some (.int .i64 0) := by rw [K9.out.r.cell 4]; rfl
    have r5 : W9.cell? ⟨w.heap.size, 5, none⟩ = some (.int .i64 0) := by rw [K9.out.r.cell 5]; rfl
    have r6 : W9.cell? ⟨w.heap.size, 6, none⟩ = some (.int .i64 0) := by rw [K9.out.r.cell 6]; rfl
    have r7 : W9.cell? ⟨w.heap.size, 7, none⟩ = some (.int .i8 0) := by rw [K9.out.r.cell 7]; rfl
    have f0 := K9.out.r.frozen 0
    have f1 := K9.out.r.frozen 1
    have f2 := K9.out.r.frozen 2
    have f3 := K9.out.r.frozen 3
    have f4 := K9.out.r.frozen 4
    have f5 := K9.out.r.frozen 5
    have f6 := K9.out.r.frozen 6
    have f7 := K9.out.r.frozen 7
    have p0 : W9.cell? ⟨(w.heap.size + 1), 0, none⟩ = some (.int .i8 c.kind) := by rw [K9.out.p.cell 0]; rfl
    have p1 : W9.cell? ⟨(w.heap.size + 1), 1, none⟩ = some (.int .i64 c.node) := by rw [K9.out.p.cell 1]; rfl
    have p2 : W9.cell? ⟨(w.heap.size + 1), 2, none⟩ = some (.int .i64 c.serial) := by rw [K9.out.p.cell 2]; rfl
    have p3 : W9.cell? ⟨(w.heap.size + 1), 3, none⟩ = some (.int .i64 c.dead) := by rw [K9.out.p.cell 3]; rfl
    have p4 : W9.cell? ⟨(w.heap.size + 1), 4, none⟩ = some (.int .i64 c.was) := by rw [K9.out.p.cell 4]; rfl
    have p5 : W9.cell? ⟨(w.heap.size + 1), 5, none⟩ = some (.int .i64 c.lo) := by rw [K9.out.p.cell 5]; rfl
    have p6 : W9.cell? ⟨(w.heap.size + 1), 6, none⟩ = some (.int .i64 c.hi) := by rw [K9.out.p.cell 6]; rfl
    have p7 : W9.cell? ⟨(w.heap.size + 1), 7, none⟩ = some (.int .i8 c.mode) := by rw [K9.out.p.cell 7]; rfl
    refine Or.elim (bytes_or c) (fun q => ?_) (fun q => ?_)
    · have QM := Lib.hid q.2
      have hE0 : E = 0 := HE.out.symm.trans q.1
      rw [hE0]
      clear q hE0
      refine Or.elim (Classical.em (X = s)) (fun q => ?_) (fun q => ?_)
      · have QO : Hid (readC s = (c, 0)) := Lib.hid (fin_ok s c QM.out.1 (by rw [← QM.out.2, HX.out, q]))
        rw [q]
        clear q
        go_wp2_with fail
        try simp only [Exit.inBlock, Exit.then]
        refine bodyPost_ret (w := setR W9 w.heap.size c) (ret_cell (g := w.heap.size) rfl _ _ c rfl (setR_blk c K9.out.r)) rfl ⟨?_, setR_below c K9.out.b (Nat.le_refl _)⟩
        rw [QO.out]
        rfl
      · have QO : Hid (readC s = (cZ, 100)) := Lib.hid (fin_ne s c (by rw [← QM.out.2, HX.out]; exact q) UQ.out)
        have qn : (X.toList == s.toList) = false := beq_eq_false_iff_ne.2 (fun h => q (by rw [← str_of X, ← str_toList, h, str_toList, str_of]))
        clear q
        go_wp2_with fail
        try simp only [Exit.inBlock, Exit.then]
        refine bodyPost_ret (w := setR W9 w.heap.size cZ) (ret_cell (g := w.heap.size) rfl _ _ cZ rfl (setR_blk cZ K9.out.r)) rfl ⟨?_, setR_below cZ K9.out.b (Nat.le_refl _)⟩
        rw [QO.out]
        rfl
    · have QO : Hid (readC s = (cZ, 100)) := Lib.hid (fin_may s c q.2 UQ.out)
      have hE0 : E = 2 := HE.out.symm.trans q.1
      rw [hE0]
      clear q hE0
      go_wp2_with fail
      try simp only [Exit.inBlock, Exit.then]
      refine bodyPost_ret (w := setR W9 w.heap.size cZ) (ret_cell (g := w.heap.size) rfl _ _ cZ rfl (setR_blk cZ K9.out.r)) rfl ⟨?_, setR_below cZ K9.out.b (Nat.le_refl _)⟩
      rw [QO.out]
      rfl

set_option maxHeartbeats 4000000 in
theorem rr_4 (s : ByteArray) (w : World) (v1 v2 : Int) (b : Nat) (R : ByteArray) (hs : s.size ≤ 200) (h11 : 11 ≤ s.size) (g1 : getR s 1 6 = (v1, 0)) (g2 : getR s 7 4 = (v2, 0)) (hb : (s[0]'(by omega)).toNat = b) (hR : s.extract 11 s.size = R) (hRs : R.size ≤ 1000) (lk : Known s v1 0 v2 0 b R) (hb2 : b ≤ 127) (k2 : ((b : Int) == 2) = false) (k3 : ((b : Int) == 3) = false) (k4 : ((b : Int) == 4) = true) :
    Calls Try.prog 23 #[.string s] w fun e w' => e = .returned (.tuple #[.agg (cC (readC s).1), .int .i64 (readC s).2]) ∧ Below w.heap.size w w' := by
  have c1 := fun W => rget_gen s 1 6 W (by unfold maxLen; omega)
  rw [g1] at c1
  have c2 := fun W => rget_gen s 7 4 W (by unfold maxLen; omega)
  rw [g2] at c2
  have C1 := Lib.hid c1; have C2 := Lib.hid c2; have LK := Lib.hid lk
  clear c1 c2 g1 g2 lk
  go_enter Try.func23, Try.ntmps23
  go_wp2_with fail
  refine (C1.out _).mono ?_
  rintro e w1 ⟨rfl, rfl⟩
  go_wp2_with fail
  refine (C2.out _).mono ?_
  rintro e w1 ⟨rfl, rfl⟩
  clear C1 C2
  go_upto_region 9 with fail
  have kt := Rt.start w (cC ⟨b, v1, v2, 0, 0, 0, 0, 0⟩)
  obtain ⟨W1, hW1⟩ : ∃ W, W = ((w.alloc (Obj.cells (cC cZ) 42)).alloc (Obj.cells (cC ⟨b, v1, v2, 0, 0, 0, 0, 0⟩) 42)) := ⟨_, rfl⟩
  rw [← hW1] at kt
  simp only [cC, cZ] at hW1
  rw [← hW1]
  have KT := Lib.hid kt
  clear kt hW1
  have c0 : W1.cell? ⟨(w.heap.size + 1), 0, none⟩ = some (.int .i8 b) := by rw [KT.out.p.cell 0]; rfl
  refine Exists.elim (show ∃ ls eg, rowR R.data.toList 6 = (ls, eg) from ⟨_, _, rfl⟩) fun ls hq => Exists.elim hq fun eg hrw => ?_
  have HRW := Lib.hid hrw
  clear hq hrw
  refine Or.elim (bool_or (eg == 0)) (fun hq => ?_) (fun hq => ?_)
  · have he0 := hq
    clear hq
    refine Or.elim (show ls = [] ∨ ∃ z0 zs, ls = z0 :: zs by cases ls <;> simp) (fun hq => ?_) (fun hq => ?_)
    · have HRN : Hid (rowR R.data.toList 6 = ([], 0)) := Lib.hid (by rw [HRW.out, hq, eq_of_beq he0])
      clear hq
      have cr := fun W => rrow_nil R W hRs HRN.out
      have CR := Lib.hid cr
      clear cr
      go_wp2_with fail
      refine (CR.out W1).mono ?_
      rintro e W2 ⟨A, cp, rfl, b2⟩
      have KS : Hid (Rt w W2 (w.heap.size + 1) (cC ⟨b, v1, v2, 0, 0, 0, 0, 0⟩)) := Lib.hid (KT.out.below b2)
      clear b2 KT CR c0
      have ER : Hid (readC s = (cZ, 100)) := Lib.hid (row_err LK.out 4 (by exact k4) (by decide) [] 0 HRN.out (.inl rfl))
      have r0 : W2.cell? ⟨w.heap.size, 0, none⟩ = some (.int .i8 0) := by rw [KS.out.r.cell 0]; rfl
      have r1 : W2.cell? ⟨w.heap.size, 1, none⟩ = some (.int .i64 0) := by rw [KS.out.r.cell 1]; rfl
      have r2 : W2.cell? ⟨w.heap.size, 2, none⟩ = some (.int .i64 0) := by rw [KS.out.r.cell 2]; rfl
      have r3 : W2.cell? ⟨w.heap.size, 3, none⟩ = some (.int .i64 0) := by rw [KS.out.r.cell 3]; rfl
      have r4 : W2.cell? ⟨w.heap.size, 4, none⟩ = some (.int .i64 0) := by rw [KS.out.r.cell 4]; rfl
      have r5 : W2.cell? ⟨w.heap.size, 5, none⟩ = some (.int .i64 0) := by rw [KS.out.r.cell 5]; rfl
      have r6 : W2.cell? ⟨w.heap.size, 6, none⟩ = some (.int .i64 0) := by rw [KS.out.r.cell 6]; rfl
      have r7 : W2.cell? ⟨w.heap.size, 7, none⟩ = some (.int .i8 0) := by rw [KS.out.r.cell 7]; rfl
      have f0 := KS.out.r.frozen 0
      have f1 := KS.out.r.frozen 1
      have f2 := KS.out.r.frozen 2
      have f3 := KS.out.r.frozen 3
      have f4 := KS.out.r.frozen 4
      have f5 := KS.out.r.frozen 5
      have f6 := KS.out.r.frozen 6
      have f7 := KS.out.r.frozen 7
      go_wp2_with fail
      try simp only [Exit.inBlock, Exit.then]
      refine bodyPost_ret (w := setR W2 w.heap.size cZ) (ret_cell (g := w.heap.size) rfl _ _ cZ rfl (setR_blk cZ KS.out.r)) rfl ⟨?_, setR_below cZ KS.out.b (Nat.le_refl _)⟩
      rw [ER.out]
      rfl
    · refine Exists.elim hq fun z0 hq => Exists.elim hq fun zs hls => ?_
      clear hq
      refine Or.elim (Classical.em (∃ z1, zs = [z1])) (fun hq => Exists.elim hq fun z1 hzs => ?_) (fun hq => ?_)
      · clear hq
        have HRC : Hid (rowR R.data.toList 6 = ([z0, z1], 0)) := Lib.hid (by rw [HRW.out, hls, hzs, eq_of_beq he0])
        have cr := fun W => rrow_cons R z0 [z1] W hRs HRC.out
        have CR := Lib.hid cr
        clear cr
        go_wp2_with fail
        refine (CR.out W1).mono ?_
        rintro e W2 ⟨g, n, cp, rfl, hn, hg, ha0, ha1, b2⟩
        have hg1 : ¬ (w.heap.size + 1 = g) := by have := KT.out.p.lt; omega
        have hg2 : ¬ (g = w.heap.size + 1) := fun h => hg1 h.symm
        clear hg
        have KS : Hid (Rt w W2 (w.heap.size + 1) (cC ⟨b, v1, v2, 0, 0, 0, 0, 0⟩)) := Lib.hid (KT.out.below b2)
        clear b2 KT CR c0
        have hn2 : n = 2 := hn
        have ha2 := ha1 z1 rfl
        have n1 : 1 ≤ n := by omega
        have nq : ((n : Int) == 2) = true := by rw [hn2]; rfl
        clear hn ha1
        have g3 := KS.out.p.frozen 3
        have c3 : W2.cell? ⟨(w.heap.size + 1), 3, none⟩ = some (.int .i64 0) := by rw [KS.out.p.cell 3]; rfl
        have g4 := KS.out.p.frozen 4
        have c4 : W2.cell? ⟨(w.heap.size + 1), 4, none⟩ = some (.int .i64 0) := by rw [KS.out.p.cell 4]; rfl
        have c0 : W2.cell? ⟨(w.heap.size + 1), 0, none⟩ = some (.int .i8 b) := by rw [KS.out.p.cell 0]; rfl
        go_upto_region 25 with fail
        have ks := ((KS.out.set_ 3 (.int .i64 z0)).set_ 4 (.int .i64 z1))
        obtain ⟨W3, hW3⟩ : ∃ W, W = ((W2.setCell ⟨(w.heap.size + 1), 3, none⟩ (.int .i64 z0)).setCell ⟨(w.heap.size + 1), 4, none⟩ (.int .i64 z1)) := ⟨_, rfl⟩
        have KU : Hid (Rt w W3 (w.heap.size + 1) (cC ⟨b, v1, v2, z0, z1, 0, 0, 0⟩)) := Lib.hid (by rw [hW3]; exact ks)
        rw [← hW3]
        clear ks hW3 c0 KS g3 c3 g4 c4
        have UQ0 : Hid (∀ d, mayC d = true → strB (bytesC d) = s → d = ⟨b, v1, v2, z0, z1, 0, 0, 0⟩) := Lib.hid (uq_4 LK.out (by exact k4) z0 z1 HRC.out)
        obtain ⟨c, hc⟩ : ∃ c : Cm, c = ⟨b, v1, v2, z0, z1, 0, 0, 0⟩ := ⟨_, rfl⟩
        have KC : Hid (Rt w W3 (w.heap.size + 1) (cC c)) := Lib.hid (by rw [hc]; exact KU.out)
        have UQ : Hid (∀ d, mayC d = true → strB (bytesC d) = s → d = c) := Lib.hid (by rw [hc]; exact UQ0.out)
        clear hc UQ0 KU
        have p0 : W3.cell? ⟨(w.heap.size + 1), 0, none⟩ = some (.int .i8 c.kind) := by rw [KC.out.p.cell 0]; rfl
        have p1 : W3.cell? ⟨(w.heap.size + 1), 1, none⟩ = some (.int .i64 c.node) := by rw [KC.out.p.cell 1]; rfl
        have p2 : W3.cell? ⟨(w.heap.size + 1), 2, none⟩ = some (.int .i64 c.serial) := by rw [KC.out.p.cell 2]; rfl
        have p3 : W3.cell? ⟨(w.heap.size + 1), 3, none⟩ = some (.int .i64 c.dead) := by rw [KC.out.p.cell 3]; rfl
        have p4 : W3.cell? ⟨(w.heap.size + 1), 4, none⟩ = some (.int .i64 c.was) := by rw [KC.out.p.cell 4]; rfl
        have p5 : W3.cell? ⟨(w.heap.size + 1), 5, none⟩ = some (.int .i64 c.lo) := by rw [KC.out.p.cell 5]; rfl
        have p6 : W3.cell? ⟨(w.heap.size + 1), 6, none⟩ = some (.int .i64 c.hi) := by rw [KC.out.p.cell 6]; rfl
        have p7 : W3.cell? ⟨(w.heap.size + 1), 7, none⟩ = some (.int .i8 c.mode) := by rw [KC.out.p.cell 7]; rfl
        obtain ⟨X, hX⟩ : ∃ X, bytesS c = X := ⟨_, rfl⟩
        obtain ⟨E, hE⟩ : ∃ E, bytesE c = E := ⟨_, rfl⟩
        have cb := rbytes_any c W3
        rw [hX, hE] at cb
        simp only [cC] at cb
        have CB := Lib.hid cb; have HX := Lib.hid hX; have HE := Lib.hid hE
        clear cb hX hE
        go_wp2_with fail
        refine CB.out.mono ?_
        rintro e W9 ⟨rfl, b9⟩
        have K9 : Hid (Rt w W9 (w.heap.size + 1) (cC c)) := Lib.hid (KC.out.below b9)
        clear b9 KC CB p0 p1 p2 p3 p4 p5 p6 p7
        have r0 : W9.cell? ⟨w.heap.size, 0, none⟩ = some (.int .i8 0) := by rw [K9.out.r.cell 0]; rfl
        have r1 : W9.cell? ⟨w.heap.size, 1, none⟩ = some (.int .i64 0) := by rw [K9.out.r.cell 1]; rfl
        have r2 : W9.cell? ⟨w.heap.size, 2, none⟩ = some (.int .i64 0) := by rw [K9.out.r.cell 2]; rfl
        have r3 : W9.cell? ⟨w.heap.size, 3, none⟩ = some (.int .i64 0) := by rw [K9.out.r.cell 3]; rfl
        have r4 : W9.cell? ⟨w.heap.size, 4, none⟩ = some (.int .i64 0) := by rw [K9.out.r.cell 4]; rfl
        have r5 : W9.cell? ⟨w.heap.size, 5, none⟩ = some (.int .i64 0) := by rw [K9.out.r.cell 5]; rfl
        have r6 : W9.cell? ⟨w.heap.size, 6, none⟩ = some (.int .i64 0) := by rw [K9.out.r.cell 6]; rfl
        have r7 : W9.cell? ⟨w.heap.size, 7, none⟩ = some (.int .i8 0) := by rw [K9.out.r.cell 7]; rfl
        have f0 := K9.out.r.frozen 0
        have f1 := K9.out.r.frozen 1
        have f2 := K9.out.r.frozen 2
        have f3 := K9.out.r.frozen 3
        have f4 := K9.out.r.frozen 4
        have f5 := K9.out.r.frozen 5
        have f6 := K9.out.r.frozen 6
        have f7 := K9.out.r.frozen 7
        have p0 : W9.cell? ⟨(w.heap.size + 1), 0, none⟩ = some (.int .i8 c.kind) := by rw [K9.out.p.cell 0]; rfl
        have p1 : W9.cell? ⟨(w.heap.size + 1), 1, none⟩ = some (.int .i64 c.node) := by rw [K9.out.p.cell 1]; rfl
        have p2 : W9.cell? ⟨(w.heap.size + 1), 2, none⟩ = some (.int .i64 c.serial) := by rw [K9.out.p.cell 2]; rfl
        have p3 : W9.cell? ⟨(w.heap.size + 1), 3, none⟩ = some (.int .i64 c.dead) := by rw [K9.out.p.cell 3]; rfl
        have p4 : W9.cell? ⟨(w.heap.size + 1), 4, none⟩ = some (.int .i64 c.was) := by rw [K9.out.p.cell 4]; rfl
        have p5 : W9.cell? ⟨(w.heap.size + 1), 5, none⟩ = some (.int .i64 c.lo) := by rw [K9.out.p.cell 5]; rfl
        have p6 : W9.cell? ⟨(w.heap.size + 1), 6, none⟩ = some (.int .i64 c.hi) := by rw [K9.out.p.cell 6]; rfl
        have p7 : W9.cell? ⟨(w.heap.size + 1), 7, none⟩ = some (.int .i8 c.mode) := by rw [K9.out.p.cell 7]; rfl
        refine Or.elim (bytes_or c) (fun q => ?_) (fun q => ?_)
        · have QM := Lib.hid q.2
          have hE0 : E = 0 := HE.out.symm.trans q.1
          rw [hE0]
          clear q hE0
          refine Or.elim (Classical.em (X = s)) (fun q => ?_) (fun q => ?_)
          · have QO : Hid (readC s = (c, 0)) := Lib.hid (fin_ok s c QM.out.1 (by rw [← QM.out.2, HX.out, q]))
            rw [q]
            clear q
            go_wp2_with fail
            try simp only [Exit.inBlock, Exit.then]
            refine bodyPost_ret (w := setR W9 w.heap.size c) (ret_cell (g := w.heap.size) rfl _ _ c rfl (setR_blk c K9.out.r)) rfl ⟨?_, setR_below c K9.out.b (Nat.le_refl _)⟩
            rw [QO.out]
            rfl
          · have QO : Hid (readC s = (cZ, 100)) := Lib.hid (fin_ne s c (by rw [← QM.out.2, HX.out]; exact q) UQ.out)
            have qn : (X.toList == s.toList) = false := beq_eq_false_iff_ne.2 (fun h => q (by rw [← str_of X, ← str_toList, h, str_toList, str_of]))
            clear q
            go_wp2_with fail
            try simp only [Exit.inBlock, Exit.then]
            refine bodyPost_ret (w := setR W9 w.heap.size cZ) (ret_cell (g := w.heap.size) rfl _ _ cZ rfl (setR_blk cZ K9.out.r)) rfl ⟨?_, setR_below cZ K9.out.b (Nat.le_refl _)⟩
            rw [QO.out]
            rfl
        · have QO : Hid (readC s = (cZ, 100)) := Lib.hid (fin_may s c q.2 UQ.out)
          have hE0 : E = 2 := HE.out.symm.trans q.1
          rw [hE0]
          clear q hE0
          go_wp2_with fail
          try simp only [Exit.inBlock, Exit.then]
          refine bodyPost_ret (w := setR W9 w.heap.size cZ) (ret_cell (g := w.heap.size) rfl _ _ cZ rfl (setR_blk cZ K9.out.r)) rfl ⟨?_, setR_below cZ K9.out.b (Nat.le_refl _)⟩
          rw [QO.out]
          rfl
      · have hzs : zs.length ≠ 1 := fun h => hq (List.length_eq_one_iff.1 h)
        clear hq
        have HRC : Hid (rowR R.data.toList 6 = (z0 :: zs, 0)) := Lib.hid (by rw [HRW.out, hls, eq_of_beq he0])
        have cr := fun W => rrow_cons R z0 zs W hRs HRC.out
        have CR := Lib.hid cr
        clear cr
        go_wp2_with fail
        refine (CR.out W1).mono ?_
        rintro e W2 ⟨g, n, cp, rfl, hn, hg, ha0, ha1, b2⟩
        have hg1 : ¬ (w.heap.size + 1 = g) := by have := KT.out.p.lt; omega
        have hg2 : ¬ (g = w.heap.size + 1) := fun h => hg1 h.symm
        clear hg
        have KS : Hid (Rt w W2 (w.heap.size + 1) (cC ⟨b, v1, v2, 0, 0, 0, 0, 0⟩)) := Lib.hid (KT.out.below b2)
        clear b2 KT CR c0
        have n1 : 1 ≤ n := by omega
        have nq : ((n : Int) == 2) = false := beq_eq_false_iff_ne.2 (by omega)
        clear hn ha1
        have g3 := KS.out.p.frozen 3
        have c3 : W2.cell? ⟨(w.heap.size + 1), 3, none⟩ = some (.int .i64 0) := by rw [KS.out.p.cell 3]; rfl
        have c0 : W2.cell? ⟨(w.heap.size + 1), 0, none⟩ = some (.int .i8 b) := by rw [KS.out.p.cell 0]; rfl
        go_upto_region 25 with fail
        have ks := (KS.out.set_ 3 (.int .i64 z0))
        obtain ⟨W3, hW3⟩ : ∃ W, W = (W2.setCell ⟨(w.heap.size + 1), 3, none⟩ (.int .i64 z0)) := ⟨_, rfl⟩
        have KU : Hid (Rt w W3 (w.heap.size + 1) (cC ⟨b, v1, v2, z0, 0, 0, 0, 0⟩)) := Lib.hid (by rw [hW3]; exact ks)
        rw [← hW3]
        clear ks hW3 c0 KS g3 c3
        have UQ0 : Hid (∀ d, mayC d = true → strB (bytesC d) = s → d = ⟨b, v1, v2, z0, 0, 0, 0, 0⟩) := Lib.hid (uq_4n LK.out (by exact k4) z0 zs HRC.out hzs _)
        obtain ⟨c, hc⟩ : ∃ c : Cm, c = ⟨b, v1, v2, z0, 0, 0, 0, 0⟩ := ⟨_, rfl⟩
        have KC : Hid (Rt w W3 (w.heap.size + 1) (cC c)) := Lib.hid (by rw [hc]; exact KU.out)
        have UQ : Hid (∀ d, mayC d = true → strB (bytesC d) = s → d = c) := Lib.hid (by rw [hc]; exact UQ0.out)
        clear hc UQ0 KU
        have p0 : W3.cell? ⟨(w.heap.size + 1), 0, none⟩ = some (.int .i8 c.kind) := by rw [KC.out.p.cell 0]; rfl
        have p1 : W3.cell? ⟨(w.heap.size + 1), 1, none⟩ = some (.int .i64 c.node) := by rw [KC.out.p.cell 1]; rfl
        have p2 : W3.cell? ⟨(w.heap.size + 1), 2, none⟩ = some (.int .i64 c.serial) := by rw [KC.out.p.cell 2]; rfl
        have p3 : W3.cell? ⟨(w.heap.size + 1), 3, none⟩ = some (.int .i64 c.dead) := by rw [KC.out.p.cell 3]; rfl
        have p4 : W3.cell? ⟨(w.heap.size + 1), 4, none⟩ = some (.int .i64 c.was) := by rw [KC.out.p.cell 4]; rfl
        have p5 : W3.cell? ⟨(w.heap.size + 1), 5, none⟩ = some (.int .i64 c.lo) := by rw [KC.out.p.cell 5]; rfl
        have p6 : W3.cell? ⟨(w.heap.size + 1), 6, none⟩ = some (.int .i64 c.hi) := by rw [KC.out.p.cell 6]; rfl
        have p7 : W3.cell? ⟨(w.heap.size + 1), 7, none⟩ = some (.int .i8 c.mode) := by rw [KC.out.p.cell 7]; rfl
        obtain ⟨X, hX⟩ : ∃ X, bytesS c = X := ⟨_, rfl⟩
        obtain ⟨E, hE⟩ : ∃ E, bytesE c = E := ⟨_, rfl⟩
        have cb := rbytes_any c W3
        rw [hX, hE] at cb
        simp only [cC] at cb
        have CB := Lib.hid cb; have HX := Lib.hid hX; have HE := Lib.hid hE
        clear cb hX hE
        go_wp2_with fail
        refine CB.out.mono ?_
        rintro e W9 ⟨rfl, b9⟩
        have K9 : Hid (Rt w W9 (w.heap.size + 1) (cC c)) := Lib.hid (KC.out.below b9)
        clear b9 KC CB p0 p1 p2 p3 p4 p5 p6 p7
        have r0 : W9.cell? ⟨w.heap.size, 0, none⟩ = some (.int .i8 0) := by rw [K9.out.r.cell 0]; rfl
        have r1 : W9.cell? ⟨w.heap.size, 1, none⟩ = some (.int .i64 0) := by rw [K9.out.r.cell 1]; rfl
        have r2 : W9.cell? ⟨w.heap.size, 2, none⟩ = some (.int .i64 0) := by rw [K9.out.r.cell 2]; rfl
        have r3 : W9.cell? ⟨w.heap.size, 3, none⟩ = some (.int .i64 0) := by rw [K9.out.r.cell 3]; rfl
        have r4 : W9.cell? ⟨w.heap.size, 4, none⟩ = some (.int .i64 0) := by rw [K9.out.r.cell 4]; rfl
        have r5 : W9.cell? ⟨w.heap.size, 5, none⟩ = some (.int .i64 0) := by rw [K9.out.r.cell 5]; rfl
        have r6 : W9.cell? ⟨w.heap.size, 6, none⟩ = some (.int .i64 0) := by rw [K9.out.r.cell 6]; rfl
        have r7 : W9.cell? ⟨w.heap.size, 7, none⟩ = some (.int .i8 0) := by rw [K9.out.r.cell 7]; rfl
        have f0 := K9.out.r.frozen 0
        have f1 := K9.out.r.frozen 1
        have f2 := K9.out.r.frozen 2
        have f3 := K9.out.r.frozen 3
        have f4 := K9.out.r.frozen 4
        have f5 := K9.out.r.frozen 5
        have f6 := K9.out.r.frozen 6
        have f7 := K9.out.r.frozen 7
        have p0 : W9.cell? ⟨(w.heap.size + 1), 0, none⟩ = some (.int .i8 c.kind) := by rw [K9.out.p.cell 0]; rfl
        have p1 : W9.cell? ⟨(w.heap.size + 1), 1, none⟩ = some (.int .i64 c.node) := by rw [K9.out.p.cell 1]; rfl
        have p2 : W9.cell? ⟨(w.heap.size + 1), 2, none⟩ = some (.int .i64 c.serial) := by rw [K9.out.p.cell 2]; rfl
        have p3 : W9.cell? ⟨(w.heap.size + 1), 3, none⟩ = some (.int .i64 c.dead) := by rw [K9.out.p.cell 3]; rfl
        have p4 : W9.cell? ⟨(w.heap.size + 1), 4, none⟩ = some (.int .i64 c.was) := by rw [K9.out.p.cell 4]; rfl
        have p5 : W9.cell? ⟨(w.heap.size + 1), 5, none⟩ = some (.int .i64 c.lo) := by rw [K9.out.p.cell 5]; rfl
        have p6 : W9.cell? ⟨(w.heap.size + 1), 6, none⟩ = some (.int .i64 c.hi) := by rw [K9.out.p.cell 6]; rfl
        have p7 : W9.cell? ⟨(w.heap.size + 1), 7, none⟩ = some (.int .i8 c.mode) := by rw [K9.out.p.cell 7]; rfl
        refine Or.elim (bytes_or c) (fun q => ?_) (fun q => ?_)
        · have QM := Lib.hid q.2
          have hE0 : E = 0 := HE.out.symm.trans q.1
          rw [hE0]
          clear q hE0
          refine Or.elim (Classical.em (X = s)) (fun q => ?_) (fun q => ?_)
          · have QO : Hid (readC s = (c, 0)) := Lib.hid (fin_ok s c QM.out.1 (by rw [← QM.out.2, HX.out, q]))
            rw [q]
            clear q
            go_wp2_with fail
            try simp only [Exit.inBlock, Exit.then]
            refine bodyPost_ret (w := setR W9 w.heap.size c) (ret_cell (g := w.heap.size) rfl _ _ c rfl (setR_blk c K9.out.r)) rfl ⟨?_, setR_below c K9.out.b (Nat.le_refl _)⟩
            rw [QO.out]
            rfl
          · have QO : Hid (readC s = (cZ, 100)) := Lib.hid (fin_ne s c (by rw [← QM.out.2, HX.out]; exact q) UQ.out)
            have qn : (X.toList == s.toList) = false := beq_eq_false_iff_ne.2 (fun h => q (by rw [← str_of X, ← str_toList, h, str_toList, str_of]))
            clear q
            go_wp2_with fail
            try simp only [Exit.inBlock, Exit.then]
            refine bodyPost_ret (w := setR W9 w.heap.size cZ) (ret_cell (g := w.heap.size) rfl _ _ cZ rfl (setR_blk cZ K9.out.r)) rfl ⟨?_, setR_below cZ K9.out.b (Nat.le_refl _)⟩
            rw [QO.out]
            rfl
        · have QO : Hid (readC s = (cZ, 100)) := Lib.hid (fin_may s c q.2 UQ.out)
          have hE0 : E = 2 := HE.out.symm.trans q.1
          rw [hE0]
          clear q hE0
          go_wp2_with fail
          try simp only [Exit.inBlock, Exit.then]
          refine bodyPost_ret (w := setR W9 w.heap.size cZ) (ret_cell (g := w.heap.size) rfl _ _ cZ rfl (setR_blk cZ K9.out.r)) rfl ⟨?_, setR_below cZ K9.out.b (Nat.le_refl _)⟩
          rw [QO.out]
          rfl
  · have HQ := Lib.hid hq
    have hq2 := ne_of_beq_false hq
    clear hq
    have cr := fun W => rrow_bad R ls eg W hRs HRW.out
    have CR := Lib.hid cr
    clear cr
    go_wp2_with fail
    refine (CR.out W1).mono ?_
    rintro e W2 ⟨A, n, cp, rfl, b2⟩
    have KS : Hid (Rt w W2 (w.heap.size + 1) (cC ⟨b, v1, v2, 0, 0, 0, 0, 0⟩)) := Lib.hid (KT.out.below b2)
    clear b2 KT CR c0
    have ER : Hid (readC s = (cZ, 100)) := Lib.hid (row_err LK.out 4 (by exact k4) (by decide) ls eg HRW.out (.inr HQ.out))
    have r0 : W2.cell? ⟨w.heap.size, 0, none⟩ = some (.int .i8 0) := by rw [KS.out.r.cell 0]; rfl
    have r1 : W2.cell? ⟨w.heap.size, 1, none⟩ = some (.int .i64 0) := by rw [KS.out.r.cell 1]; rfl
    have r2 : W2.cell? ⟨w.heap.size, 2, none⟩ = some (.int .i64 0) := by rw [KS.out.r.cell 2]; rfl
    have r3 : W2.cell? ⟨w.heap.size, 3, none⟩ = some (.int .i64 0) := by rw [KS.out.r.cell 3]; rfl
    have r4 : W2.cell? ⟨w.heap.size, 4, none⟩ = some (.int .i64 0) := by rw [KS.out.r.cell 4]; rfl
    have r5 : W2.cell? ⟨w.heap.size, 5, none⟩ = some (.int .i64 0) := by rw [KS.out.r.cell 5]; rfl
    have r6 : W2.cell? ⟨w.heap.size, 6, none⟩ = some (.int .i64 0) := by rw [KS.out.r.cell 6]; rfl
    have r7 : W2.cell? ⟨w.heap.size, 7, none⟩ = some (.int .i8 0) := by rw [KS.out.r.cell 7]; rfl
    have f0 := KS.out.r.frozen 0
    have f1 := KS.out.r.frozen 1
    have f2 := KS.out.r.frozen 2
    have f3 := KS.out.r.frozen 3
    have f4 := KS.out.r.frozen 4
    have f5 := KS.out.r.frozen 5
    have f6 := KS.out.r.frozen 6
    have f7 := KS.out.r.frozen 7
    go_wp2_with fail
    try simp only [Exit.inBlock, Exit.then]
    refine bodyPost_ret (w := setR W2 w.heap.size cZ) (ret_cell (g := w.heap.size) rfl _ _ cZ rfl (setR_blk cZ KS.out.r)) rfl ⟨?_, setR_below cZ KS.out.b (Nat.le_refl _)⟩
    rw [ER.out]
    rfl

set_option maxHeartbeats 4000000 in
theorem rr_5 (s : ByteArray) (w : World) (v1 v2 : Int) (b : Nat) (R : ByteArray) (hs : s.size ≤ 200) (h11 : 11 ≤ s.size) (g1 : getR s 1 6 = (v1, 0)) (g2 : getR s 7 4 = (v2, 0)) (hb : (s[0]'(by omega)).toNat = b) (hR : s.extract 11 s.size = R) (hRs : R.size ≤ 1000) (lk : Known s v1 0 v2 0 b R) (hb2 : b ≤ 127) (k2 : ((b : Int) == 2) = false) (k3 : ((b : Int) == 3) = false) (k4 : ((b : Int) == 4) = false) (k5 : ((b : Int) == 5) = true) :
    Calls Try.prog 23 #[.string s] w fun e w' => e = .returned (.tuple #[.agg (cC (readC s).1), .int .i64 (readC s).2]) ∧ Below w.heap.size w w' := by
  have c1 := fun W => rget_gen s 1 6 W (by unfold maxLen; omega)
  rw [g1] at c1
  have c2 := fun W => rget_gen s 7 4 W (by unfold maxLen; omega)
  rw [g2] at c2
  have C1 := Lib.hid c1; have C2 := Lib.hid c2; have LK := Lib.hid lk
  clear c1 c2 g1 g2 lk
  go_enter Try.func23, Try.ntmps23
  go_wp2_with fail
  refine (C1.out _).mono ?_
  rintro e w1 ⟨rfl, rfl⟩
  go_wp2_with fail
  refine (C2.out _).mono ?_
  rintro e w1 ⟨rfl, rfl⟩
  clear C1 C2
  go_upto_region 9 with fail
  have kt := Rt.start w (cC ⟨b, v1, v2, 0, 0, 0, 0, 0⟩)
  obtain ⟨W1, hW1⟩ : ∃ W, W = ((w.alloc (Obj.cells (cC cZ) 42)).alloc (Obj.cells (cC ⟨b, v1, v2, 0, 0, 0, 0, 0⟩) 42)) := ⟨_, rfl⟩
  rw [← hW1] at kt
  simp only [cC, cZ] at hW1
  rw [← hW1]
  have KT := Lib.hid kt
  clear kt hW1
  have c0 : W1.cell? ⟨(w.heap.size + 1), 0, none⟩ = some (.int .i8 b) := by rw [KT.out.p.cell 0]; rfl
  refine Exists.elim (show ∃ ls eg, rowR R.data.toList 6 = (ls, eg) from ⟨_, _, rfl⟩) fun ls hq => Exists.elim hq fun eg hrw => ?_
  have HRW := Lib.hid hrw
  clear hq hrw
  refine Or.elim (bool_or (eg == 0)) (fun hq => ?_) (fun hq => ?_)
  · have he0 := hq
    clear hq
    refine Or.elim (show ls = [] ∨ ∃ z0 zs, ls = z0 :: zs by cases ls <;> simp) (fun hq => ?_) (fun hq => ?_)
    · have HRN : Hid (rowR R.data.toList 6 = ([], 0)) := Lib.hid (by rw [HRW.out, hq, eq_of_beq he0])
      clear hq
      have cr := fun W => rrow_nil R W hRs HRN.out
      have CR := Lib.hid cr
      clear cr
      go_wp2_with fail
      refine (CR.out W1).mono ?_
      rintro e W2 ⟨A, cp, rfl, b2⟩
      have KS : Hid (Rt w W2 (w.heap.size + 1) (cC ⟨b, v1, v2, 0, 0, 0, 0, 0⟩)) := Lib.hid (KT.out.below b2)
      clear b2 KT CR c0
      have ER : Hid (readC s = (cZ, 100)) := Lib.hid (row_err LK.out 5 (by exact k5) (by decide) [] 0 HRN.out (.inl rfl))
      have r0 : W2.cell? ⟨w.heap.size, 0, none⟩ = some (.int .i8 0) := by rw [KS.out.r.cell 0]; rfl
      have r1 : W2.cell? ⟨w.heap.size, 1, none⟩ = some (.int .i64 0) := by rw [KS.out.r.cell 1]; rfl
      have r2 : W2.cell? ⟨w.heap.size, 2, none⟩ = some (.int .i64 0) := by rw [KS.out.r.cell 2]; rfl
      have r3 : W2.cell? ⟨w.heap.size, 3, none⟩ = some (.int .i64 0) := by rw [KS.out.r.cell 3]; rfl
      have r4 : W2.cell? ⟨w.heap.size, 4, none⟩ = some (.int .i64 0) := by rw [KS.out.r.cell 4]; rfl
      have r5 : W2.cell? ⟨w.heap.size, 5, none⟩ = some (.int .i64 0) := by rw [KS.out.r.cell 5]; rfl
      have r6 : W2.cell? ⟨w.heap.size, 6, none⟩ = some (.int .i64 0) := by rw [KS.out.r.cell 6]; rfl
      have r7 : W2.cell? ⟨w.heap.size, 7, none⟩ = some (.int .i8 0) := by rw [KS.out.r.cell 7]; rfl
      have f0 := KS.out.r.frozen 0
      have f1 := KS.out.r.frozen 1
      have f2 := KS.out.r.frozen 2
      have f3 := KS.out.r.frozen 3
      have f4 := KS.out.r.frozen 4
      have f5 := KS.out.r.frozen 5
      have f6 := KS.out.r.frozen 6
      have f7 := KS.out.r.frozen 7
      go_wp2_with fail
      try simp only [Exit.inBlock, Exit.then]
      refine bodyPost_ret (w := setR W2 w.heap.size cZ) (ret_cell (g := w.heap.size) rfl _ _ cZ rfl (setR_blk cZ KS.out.r)) rfl ⟨?_, setR_below cZ KS.out.b (Nat.le_refl _)⟩
      rw [ER.out]
      rfl
    · refine Exists.elim hq fun z0 hq => Exists.elim hq fun zs hls => ?_
      clear hq
      have HRC : Hid (rowR R.data.toList 6 = (z0 :: zs, 0)) := Lib.hid (by rw [HRW.out, hls, eq_of_beq he0])
      have cr := fun W => rrow_cons R z0 zs W hRs HRC.out
      have CR := Lib.hid cr
      clear cr
      go_wp2_with fail
      refine (CR.out W1).mono ?_
      rintro e W2 ⟨g, n, cp, rfl, hn, hg, ha0, ha1, b2⟩
      have hg1 : ¬ (w.heap.size + 1 = g) := by have := KT.out.p.lt; omega
      have hg2 : ¬ (g = w.heap.size + 1) := fun h => hg1 h.symm
      clear hg
      have KS : Hid (Rt w W2 (w.heap.size + 1) (cC ⟨b, v1, v2, 0, 0, 0, 0, 0⟩)) := Lib.hid (KT.out.below b2)
      clear b2 KT CR c0
      have n1 : 1 ≤ n := by omega
      clear hn ha1
      have g3 := KS.out.p.frozen 3
      have c3 : W2.cell? ⟨(w.heap.size + 1), 3, none⟩ = some (.int .i64 0) := by rw [KS.out.p.cell 3]; rfl
      have c0 : W2.cell? ⟨(w.heap.size + 1), 0, none⟩ = some (.int .i8 b) := by rw [KS.out.p.cell 0]; rfl
      go_upto_region 25 with fail
      have ks := (KS.out.set_ 3 (.int .i64 z0))
      obtain ⟨W3, hW3⟩ : ∃ W, W = (W2.setCell ⟨(w.heap.size + 1), 3, none⟩ (.int .i64 z0)) := ⟨_, rfl⟩
      have KU : Hid (Rt w W3 (w.heap.size + 1) (cC ⟨b, v1, v2, z0, 0, 0, 0, 0⟩)) := Lib.hid (by rw [hW3]; exact ks)
      rw [← hW3]
      clear ks hW3 c0 KS g3 c3
      have UQ0 : Hid (∀ d, mayC d = true → strB (bytesC d) = s → d = ⟨b, v1, v2, z0, 0, 0, 0, 0⟩) := Lib.hid (uq_5 LK.out (by exact k5) z0 zs HRC.out)
      obtain ⟨c, hc⟩ : ∃ c : Cm, c = ⟨b, v1, v2, z0, 0, 0, 0, 0⟩ := ⟨_, rfl⟩
      have KC : Hid (Rt w W3 (w.heap.size + 1) (cC c)) := Lib.hid (by rw [hc]; exact KU.out)
      have UQ : Hid (∀ d, mayC d = true → strB (bytesC d) = s → d = c) := Lib.hid (by rw [hc]; exact UQ0.out)
      clear hc UQ0 KU
      have p0 : W3.cell? ⟨(w.heap.size + 1), 0, none⟩ = some (.int .i8 c.kind) := by rw [KC.out.p.cell 0]; rfl
      have p1 : W3.cell? ⟨(w.heap.size + 1), 1, none⟩ = some (.int .i64 c.node) := by rw [KC.out.p.cell 1]; rfl
      have p2 : W3.cell? ⟨(w.heap.size + 1), 2, none⟩ = some (.int .i64 c.serial) := by rw [KC.out.p.cell 2]; rfl
      have p3 : W3.cell? ⟨(w.heap.size + 1), 3, none⟩ = some (.int .i64 c.dead) := by rw [KC.out.p.cell 3]; rfl
      have p4 : W3.cell? ⟨(w.heap.size + 1), 4, none⟩ = some (.int .i64 c.was) := by rw [KC.out.p.cell 4]; rfl
      have p5 : W3.cell? ⟨(w.heap.size + 1), 5, none⟩ = some (.int .i64 c.lo) := by rw [KC.out.p.cell 5]; rfl
      have p6 : W3.cell? ⟨(w.heap.size + 1), 6, none⟩ = some (.int .i64 c.hi) := by rw [KC.out.p.cell 6]; rfl
      have p7 : W3.cell? ⟨(w.heap.size + 1), 7, none⟩ = some (.int .i8 c.mode) := by rw [KC.out.p.cell 7]; rfl
      obtain ⟨X, hX⟩ : ∃ X, bytesS c = X := ⟨_, rfl⟩
      obtain ⟨E, hE⟩ : ∃ E, bytesE c = E := ⟨_, rfl⟩
      have cb := rbytes_any c W3
      rw [hX, hE] at cb
      simp only [cC] at cb
      have CB := Lib.hid cb; have HX := Lib.hid hX; have HE := Lib.hid hE
      clear cb hX hE
      go_wp2_with fail
      refine CB.out.mono ?_
      rintro e W9 ⟨rfl, b9⟩
      have K9 : Hid (Rt w W9 (w.heap.size + 1) (cC c)) := Lib.hid (KC.out.below b9)
      clear b9 KC CB p0 p1 p2 p3 p4 p5 p6 p7
      have r0 : W9.cell? ⟨w.heap.size, 0, none⟩ = some (.int .i8 0) := by rw [K9.out.r.cell 0]; rfl
      have r1 : W9.cell? ⟨w.heap.size, 1, none⟩ = some (.int .i64 0) := by rw [K9.out.r.cell 1]; rfl
      have r2 : W9.cell? ⟨w.heap.size, 2, none⟩ = some (.int .i64 0) := by rw [K9.out.r.cell 2]; rfl
      have r3 : W9.cell? ⟨w.heap.size, 3, none⟩ = some (.int .i64 0) := by rw [K9.out.r.cell 3]; rfl
      have r4 : W9.cell? ⟨w.heap.size, 4, none⟩ = some (.int .i64 0) := by rw [K9.out.r.cell 4]; rfl
      have r5 : W9.cell? ⟨w.heap.size, 5, none⟩ = some (.int .i64 0) := by rw [K9.out.r.cell 5]; rfl
      have r6 : W9.cell? ⟨w.heap.size, 6, none⟩ = some (.int .i64 0) := by rw [K9.out.r.cell 6]; rfl
      have r7 : W9.cell? ⟨w.heap.size, 7, none⟩ = some (.int .i8 0) := by rw [K9.out.r.cell 7]; rfl
      have f0 := K9.out.r.frozen 0
      have f1 := K9.out.r.frozen 1
      have f2 := K9.out.r.frozen 2
      have f3 := K9.out.r.frozen 3
      have f4 := K9.out.r.frozen 4
      have f5 := K9.out.r.frozen 5
      have f6 := K9.out.r.frozen 6
      have f7 := K9.out.r.frozen 7
      have p0 : W9.cell? ⟨(w.heap.size + 1), 0, none⟩ = some (.int .i8 c.kind) := by rw [K9.out.p.cell 0]; rfl
      have p1 : W9.cell? ⟨(w.heap.size + 1), 1, none⟩ = some (.int .i64 c.node) := by rw [K9.out.p.cell 1]; rfl
      have p2 : W9.cell? ⟨(w.heap.size + 1), 2, none⟩ = some (.int .i64 c.serial) := by rw [K9.out.p.cell 2]; rfl
      have p3 : W9.cell? ⟨(w.heap.size + 1), 3, none⟩ = some (.int .i64 c.dead) := by rw [K9.out.p.cell 3]; rfl
      have p4 : W9.cell? ⟨(w.heap.size + 1), 4, none⟩ = some (.int .i64 c.was) := by rw [K9.out.p.cell 4]; rfl
      have p5 : W9.cell? ⟨(w.heap.size + 1), 5, none⟩ = some (.int .i64 c.lo) := by rw [K9.out.p.cell 5]; rfl
      have p6 : W9.cell? ⟨(w.heap.size + 1), 6, none⟩ = some (.int .i64 c.hi) := by rw [K9.out.p.cell 6]; rfl
      have p7 : W9.cell? ⟨(w.heap.size + 1), 7, none⟩ = some (.int .i8 c.mode) := by rw [K9.out.p.cell 7]; rfl
      refine Or.elim (bytes_or c) (fun q => ?_) (fun q => ?_)
      · have QM := Lib.hid q.2
        have hE0 : E = 0 := HE.out.symm.trans q.1
        rw [hE0]
        clear q hE0
        refine Or.elim (Classical.em (X = s)) (fun q => ?_) (fun q => ?_)
        · have QO : Hid (readC s = (c, 0)) := Lib.hid (fin_ok s c QM.out.1 (by rw [← QM.out.2, HX.out, q]))
          rw [q]
          clear q
          go_wp2_with fail
          try simp only [Exit.inBlock, Exit.then]
          refine bodyPost_ret (w := setR W9 w.heap.size c) (ret_cell (g := w.heap.size) rfl _ _ c rfl (setR_blk c K9.out.r)) rfl ⟨?_, setR_below c K9.out.b (Nat.le_refl _)⟩
          rw [QO.out]
          rfl
        · have QO : Hid (readC s = (cZ, 100)) := Lib.hid (fin_ne s c (by rw [← QM.out.2, HX.out]; exact q) UQ.out)
          have qn : (X.toList == s.toList) = false := beq_eq_false_iff_ne.2 (fun h => q (by rw [← str_of X, ← str_toList, h, str_toList, str_of]))
          clear q
          go_wp2_with fail
          try simp only [Exit.inBlock, Exit.then]
          refine bodyPost_ret (w := setR W9 w.heap.size cZ) (ret_cell (g := w.heap.size) rfl _ _ cZ rfl (setR_blk cZ K9.out.r)) rfl ⟨?_, setR_below cZ K9.out.b (Nat.le_refl _)⟩
          rw [QO.out]
          rfl
      · have QO : Hid (readC s = (cZ, 100)) := Lib.hid (fin_may s c q.2 UQ.out)
        have hE0 : E = 2 := HE.out.symm.trans q.1
        rw [hE0]
        clear q hE0
        go_wp2_with fail
        try simp only [Exit.inBlock, Exit.then]
        refine bodyPost_ret (w := setR W9 w.heap.size cZ) (ret_cell (g := w.heap.size) rfl _ _ cZ rfl (setR_blk cZ K9.out.r)) rfl ⟨?_, setR_below cZ K9.out.b (Nat.le_refl _)⟩
        rw [QO.out]
        rfl
  · have HQ := Lib.hid hq
    have hq2 := ne_of_beq_false hq
    clear hq
    have cr := fun W => rrow_bad R ls eg W hRs HRW.out
    have CR := Lib.hid cr
    clear cr
    go_wp2_with fail
    refine (CR.out W1).mono ?_
    rintro e W2 ⟨A, n, cp, rfl, b2⟩
    have KS : Hid (Rt w W2 (w.heap.size + 1) (cC ⟨b, v1, v2, 0, 0, 0, 0, 0⟩)) := Lib.hid (KT.out.below b2)
    clear b2 KT CR c0
    have ER : Hid (readC s = (cZ, 100)) := Lib.hid (row_err LK.out 5 (by exact k5) (by decide) ls eg HRW.out (.inr HQ.out))
    have r0 : W2.cell? ⟨w.heap.size, 0, none⟩ = some (.int .i8 0) := by rw [KS.out.r.cell 0]; rfl
    have r1 : W2.cell? ⟨w.heap.size, 1, none⟩ = some (.int .i64 0) := by rw [KS.out.r.cell 1]; rfl
    have r2 : W2.cell? ⟨w.heap.size, 2, none⟩ = some (.int .i64 0) := by rw [KS.out.r.cell 2]; rfl
    have r3 : W2.cell? ⟨w.heap.size, 3, none⟩ = some (.int .i64 0) := by rw [KS.out.r.cell 3]; rfl
    have r4 : W2.cell? ⟨w.heap.size, 4, none⟩ = some (.int .i64 0) := by rw [KS.out.r.cell 4]; rfl
    have r5 : W2.cell? ⟨w.heap.size, 5, none⟩ = some (.int .i64 0) := by rw [KS.out.r.cell 5]; rfl
    have r6 : W2.cell? ⟨w.heap.size, 6, none⟩ = some (.int .i64 0) := by rw [KS.out.r.cell 6]; rfl
    have r7 : W2.cell? ⟨w.heap.size, 7, none⟩ = some (.int .i8 0) := by rw [KS.out.r.cell 7]; rfl
    have f0 := KS.out.r.frozen 0
    have f1 := KS.out.r.frozen 1
    have f2 := KS.out.r.frozen 2
    have f3 := KS.out.r.frozen 3
    have f4 := KS.out.r.frozen 4
    have f5 := KS.out.r.frozen 5
    have f6 := KS.out.r.frozen 6
    have f7 := KS.out.r.frozen 7
    go_wp2_with fail
    try simp only [Exit.inBlock, Exit.then]
    refine bodyPost_ret (w := setR W2 w.heap.size cZ) (ret_cell (g := w.heap.size) rfl _ _ cZ rfl (setR_blk cZ KS.out.r)) rfl ⟨?_, setR_below cZ KS.out.b (Nat.le_refl _)⟩
    rw [ER.out]
    rfl

end Go.Proofs.Ytnoojlgefpekiaa
