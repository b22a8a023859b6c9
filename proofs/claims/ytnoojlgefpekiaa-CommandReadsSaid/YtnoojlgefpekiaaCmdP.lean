/-
  Contracts of commands: Read. (Printed by cmd_read.py.)
-/
import Derived.Test.YtnoojlgefpekiaaCmdJ
import Derived.Test.YtnoojlgefpekiaaCmdN
import Derived.Deep.Cut
namespace Go.Proofs.Ytnoojlgefpekiaa
open Go.RowKit

theorem str_toList (s : ByteArray) : s.toList = s.data.toList := ByteArray.toList_mk s.data.toList

/-- the contract of a take: from t to t', the value v -/
def TakeTo (G : Nat) (x : Nat) (t : ByteArray × Bool) (v : Int) (t' : ByteArray × Bool) : Prop :=
  ∀ W, Blk W G 57 #[.string t.1, .bool t.2] → Calls Try.prog 31 #[.pointer (some ⟨G, 0, none⟩), .int .i64 (x : Int)] W fun e w' => e = .returned (.int .i64 v) ∧ Blk w' G 57 #[.string t'.1, .bool t'.2] ∧ W.grownBy w' (some G)

/-- where a reading stands: the taker, the cell of the result -/
structure Rp (w0 W : World) (t : ByteArray × Bool) : Prop where
  g : Blk W (w0.heap.size + 1) 57 #[.string t.1, .bool t.2]
  r : Blk W w0.heap.size 42 (cC cZ)
  b : Below w0.heap.size w0 W
/-- the same with the command's block -/
structure Rs (w0 W : World) (P : Nat) (t : ByteArray × Bool) (cs : Array Value) : Prop where
  g : Blk W (w0.heap.size + 1) 57 #[.string t.1, .bool t.2]
  r : Blk W w0.heap.size 42 (cC cZ)
  b : Below w0.heap.size w0 W
  p : Blk W P 42 cs
  hp : w0.heap.size + 1 < P

theorem below_row {a b c : World} {g : Nat} (h : Below a.heap.size a b) (k : b.grownBy c (some g)) (hg : a.heap.size ≤ g) : Below a.heap.size a c :=
  ⟨k.os.trans h.os, k.tape.trans h.tape, k.output.trans h.output, Nat.le_trans h.size k.size, fun i hi => (k.block i (Nat.lt_of_lt_of_le hi h.size) (fun e => by injection e; omega)).trans (h.block i hi)⟩
theorem Rp.take {w0 W W' : World} {t t' : ByteArray × Bool} (h : Rp w0 W t) (kg : Blk W' (w0.heap.size + 1) 57 #[.string t'.1, .bool t'.2]) (kw : W.grownBy W' (some (w0.heap.size + 1))) : Rp w0 W' t' :=
  ⟨kg, h.r.other kw (by omega), below_row h.b kw (by omega)⟩
theorem Rs.take {w0 W W' : World} {P : Nat} {cs : Array Value} {t t' : ByteArray × Bool} (h : Rs w0 W P t cs) (kg : Blk W' (w0.heap.size + 1) 57 #[.string t'.1, .bool t'.2]) (kw : W.grownBy W' (some (w0.heap.size + 1))) : Rs w0 W' P t' cs :=
  ⟨kg, h.r.other kw (by omega), below_row h.b kw (by omega), h.p.other kw (by have := h.hp; omega), h.hp⟩
theorem Rs.set_ {w0 W : World} {P : Nat} {cs : Array Value} {t : ByteArray × Bool} (h : Rs w0 W P t cs) (i : Nat) (u : Value) : Rs w0 (W.setCell ⟨P, i, none⟩ u) P t (cs.setIfInBounds i u) := by
  have hp := h.hp
  have hs := h.b.size
  refine ⟨(Below.heap_setCell W _ _ _ (by show _ ≠ P; omega)).trans h.g, (Below.heap_setCell W _ _ _ (by show _ ≠ P; omega)).trans h.r, ?_, h.p.set_ i u, hp⟩
  exact ⟨h.b.os, h.b.tape, h.b.output, by simpa [World.setCell] using hs, fun k hk => (Below.heap_setCell W _ _ k (by show _ ≠ P; omega)).trans (h.b.block k hk)⟩
theorem Rs.below {w0 W W' : World} {P : Nat} {cs : Array Value} {t : ByteArray × Bool} (h : Rs w0 W P t cs) (hb : Below W.heap.size W W') : Rs w0 W' P t cs :=
  ⟨h.g.below hb h.g.lt, h.r.below hb h.r.lt, h.b.trans (hb.mono h.b.size), h.p.below hb h.p.lt, h.hp⟩
theorem Rp.start (w : World) (s : ByteArray) : Rp w ((w.alloc (Obj.cells (cC cZ) 42)).alloc (Obj.cells #[Value.string s, Value.bool false] 57)) (s, false) :=
  ⟨by simpa using Blk.new (w.alloc (Obj.cells (cC cZ) 42)) 57 #[Value.string s, Value.bool false], (Blk.new w 42 (cC cZ)).alloc _, ((Below.refl _ _).alloc (Nat.le_refl _) _).alloc (by simp) _⟩
theorem Rp.to {w0 W : World} {t : ByteArray × Bool} (h : Rp w0 W t) (cs : Array Value) : Rs w0 (W.alloc (Obj.cells cs 42)) W.heap.size t cs :=
  ⟨h.g.alloc _, h.r.alloc _, h.b.alloc h.b.size _, Blk.new W 42 cs, h.g.lt⟩

/-- the result's cell, written anew -/
def setR (W : World) (g : Nat) (c : Cm) : World := ((((((((W.setCell ⟨g, 0, none⟩ (.int .i8 c.kind)).setCell ⟨g, 1, none⟩ (.int .i64 c.node)).setCell ⟨g, 2, none⟩ (.int .i64 c.serial)).setCell ⟨g, 3, none⟩ (.int .i64 c.dead)).setCell ⟨g, 4, none⟩ (.int .i64 c.was)).setCell ⟨g, 5, none⟩ (.int .i64 c.lo)).setCell ⟨g, 6, none⟩ (.int .i64 c.hi)).setCell ⟨g, 7, none⟩ (.int .i8 c.mode))
theorem setR_blk {W : World} {g : Nat} (c : Cm) (h : Blk W g 42 (cC cZ)) : Blk (setR W g c) g 42 (cC c) := by
  have k := (((((((h.set_ 0 (.int .i8 c.kind)).set_ 1 (.int .i64 c.node)).set_ 2 (.int .i64 c.serial)).set_ 3 (.int .i64 c.dead)).set_ 4 (.int .i64 c.was)).set_ 5 (.int .i64 c.lo)).set_ 6 (.int .i64 c.hi)).set_ 7 (.int .i8 c.mode)
  simp only [cC, List.setIfInBounds_toArray, List.set_cons_zero, List.set_cons_succ] at k
  exact k
theorem setR_below {w0 W : World} {g : Nat} (c : Cm) (h : Below w0.heap.size w0 W) (hg : w0.heap.size ≤ g) : Below w0.heap.size w0 (setR W g c) :=
  (((((((h.setCell hg _).setCell hg _).setCell hg _).setCell hg _).setCell hg _).setCell hg _).setCell hg _).setCell hg _

theorem ret_cell {fn : Func} (h : fn.results = #[.cell 2 42, .tmp 3]) (tmps : Array Value) (g : Nat) (w : World) (c : Cm) (h2 : tmps.getD 2 undef = .pointer (some ⟨g, 0, none⟩)) (hb : Blk w g 42 (cC c)) :
    (results fn tmps).run Try.prog w = .ok (.tuple #[.agg (cC c), tmps.getD 3 undef]) w := by
  have r0 : w.cell? ⟨g, 0, none⟩ = some (.int .i8 c.kind) := by rw [hb.cell 0]; rfl
  have r1 : w.cell? ⟨g, 1, none⟩ = some (.int .i64 c.node) := by rw [hb.cell 1]; rfl
  have r2 : w.cell? ⟨g, 2, none⟩ = some (.int .i64 c.serial) := by rw [hb.cell 2]; rfl
  have r3 : w.cell? ⟨g, 3, none⟩ = some (.int .i64 c.dead) := by rw [hb.cell 3]; rfl
  have r4 : w.cell? ⟨g, 4, none⟩ = some (.int .i64 c.was) := by rw [hb.cell 4]; rfl
  have r5 : w.cell? ⟨g, 5, none⟩ = some (.int .i64 c.lo) := by rw [hb.cell 5]; rfl
  have r6 : w.cell? ⟨g, 6, none⟩ = some (.int .i64 c.hi) := by rw [hb.cell 6]; rfl
  have r7 : w.cell? ⟨g, 7, none⟩ = some (.int .i8 c.mode) := by rw [hb.cell 7]; rfl
  have h3 : tmps[2]?.getD undef = .pointer (some ⟨g, 0, none⟩) := by simpa using h2
  simp [results, h, h3, go_sem, r0, r1, r2, r3, r4, r5, r6, r7, cC]

theorem endR_bad {t : ByteArray × Bool} {c : Cm} (h : t.2 = true) : endR t c = (cZ, 100) := if_neg (fun k => by rw [h] at k; exact Bool.noConfusion k.1)
theorem endR_more {t : ByteArray × Bool} {c : Cm} (h : ¬ t.1 = ⟨#[]⟩) : endR t c = (cZ, 100) := if_neg (fun k => h k.2.1)
theorem endR_no {t : ByteArray × Bool} {c : Cm} (h : mayC c = false) : endR t c = (cZ, 100) := if_neg (fun k => by rw [h] at k; exact Bool.noConfusion k.2.2)
theorem endR_good {t : ByteArray × Bool} {c : Cm} (h1 : t.2 = false) (h2 : t.1 = ⟨#[]⟩) (h : mayC c = true) : endR t c = (c, 0) := if_pos ⟨h1, h2, h⟩

set_option maxHeartbeats 1000000 in
theorem rd_2 (s : ByteArray) (w : World) (v2 v3 v4 v5 v6 : Int) (t1 t2 t3 t4 t5 t6 : ByteArray × Bool) (m0 : 0 ≤ v6) (m1 : v6 ≤ 127)
    (C1 : TakeTo (w.heap.size + 1) 1 (s, false) 2 t1) (C2 : TakeTo (w.heap.size + 1) 6 t1 v2 t2) (C3 : TakeTo (w.heap.size + 1) 4 t2 v3 t3) (C4 : TakeTo (w.heap.size + 1) 1 t3 v4 t4) (C5 : TakeTo (w.heap.size + 1) 1 t4 v5 t5) (C6 : TakeTo (w.heap.size + 1) 1 t5 v6 t6) :
    Calls Try.prog 22 #[.string s] w fun e w' => e = .returned (.tuple #[.agg (cC (endR t6 ⟨2, v2, v3, 0, 0, v4, v5, v6⟩).1), .int .i64 (endR t6 ⟨2, v2, v3, 0, 0, v4, v5, v6⟩).2]) ∧ Below w.heap.size w w' := by
  have kp := Rp.start w s
  obtain ⟨W0, hW0⟩ : ∃ W0, W0 = ((w.alloc (Obj.cells (cC cZ) 42)).alloc (Obj.cells #[Value.string s, Value.bool false] 57)) := ⟨_, rfl⟩
  rw [← hW0] at kp
  have KP := Lib.hid kp; have HW0 : Hid (W0 = ((w.alloc (Obj.cells #[Value.int IntKind.i8 0, Value.int IntKind.i64 0, Value.int IntKind.i64 0, Value.int IntKind.i64 0, Value.int IntKind.i64 0, Value.int IntKind.i64 0, Value.int IntKind.i64 0, Value.int IntKind.i8 0] 42)).alloc (Obj.cells #[Value.string s, Value.bool false] 57))) := Lib.hid hW0
  clear kp hW0
  go_enter Try.func22, Try.ntmps22
  go_wp2_with fail
  rw [← HW0.out]
  refine (C1 W0 KP.out.g).mono ?_
  rintro e w1 ⟨rfl, kg, kw⟩
  have KP1 := Lib.hid (KP.out.take kg kw)
  clear kg kw HW0 KP
  go_wp2_with fail
  refine (C2 w1 KP1.out.g).mono ?_
  rintro e w2 ⟨rfl, kg, kw⟩
  have KP2 := Lib.hid (KP1.out.take kg kw)
  clear kg kw KP1
  go_wp2_with fail
  refine (C3 w2 KP2.out.g).mono ?_
  rintro e w3 ⟨rfl, kg, kw⟩
  have KP3 := Lib.hid (KP2.out.take kg kw)
  clear kg kw KP2
  have ks := KP3.out.to #[.int .i8 2, .int .i64 v2, .int .i64 v3, .int .i64 0, .int .i64 0, .int .i64 0, .int .i64 0, .int .i8 0]
  obtain ⟨P, hP⟩ : ∃ P, P = w3.heap.size := ⟨_, rfl⟩
  obtain ⟨W3, hW3⟩ : ∃ W, W = (w3.alloc (Obj.cells #[.int .i8 2, .int .i64 v2, .int .i64 v3, .int .i64 0, .int .i64 0, .int .i64 0, .int .i64 0, .int .i8 0] 42)) := ⟨_, rfl⟩
  rw [← hW3, ← hP] at ks
  have KS := Lib.hid ks; have HP := Lib.hid hP; have HW3 := Lib.hid hW3
  clear ks hP hW3
  go_wp2_with fail
  rw [← HW3.out, ← HP.out]
  refine (C4 W3 KS.out.g).mono ?_
  rintro e w4 ⟨rfl, kg, kw⟩
  have KS4 := Lib.hid (KS.out.take kg kw)
  clear kg kw KS KP3 HW3 HP
  go_wp2_with fail
  refine (C5 w4 KS4.out.g).mono ?_
  rintro e w5 ⟨rfl, kg, kw⟩
  have KS5 := Lib.hid (KS4.out.take kg kw)
  clear kg kw KS4
  have g5 := KS5.out.p.frozen 5
  have c5 : w5.cell? ⟨P, 5, none⟩ = some (.int .i64 0) := by rw [KS5.out.p.cell 5]; rfl
  have g6 := KS5.out.p.frozen 6
  have c6 : w5.cell? ⟨P, 6, none⟩ = some (.int .i64 0) := by rw [KS5.out.p.cell 6]; rfl
  have c0 : w5.cell? ⟨P, 0, none⟩ = some (.int .i8 2) := by rw [KS5.out.p.cell 0]; rfl
  have ks := ((KS5.out.set_ 5 (.int .i64 v4)).set_ 6 (.int .i64 v5))
  obtain ⟨W5, hW⟩ : ∃ W, W = ((w5.setCell ⟨P, 5, none⟩ (.int .i64 v4)).setCell ⟨P, 6, none⟩ (.int .i64 v5)) := ⟨_, rfl⟩
  have ks' : Rs w W5 P t5 #[.int .i8 2, .int .i64 v2, .int .i64 v3, .int .i64 0, .int .i64 0, .int .i64 v4, .int .i64 v5, .int .i8 0] := by rw [hW]; exact ks
  have KW5 := Lib.hid ks'; have HW := Lib.hid hW
  clear ks ks' hW
  go_wp2_with fail
  rw [← HW.out]
  clear KS5 g5 c5 g6 c6 c0
  refine (C6 W5 KW5.out.g).mono ?_
  rintro e w6 ⟨rfl, kg, kw⟩
  have KS6 := Lib.hid (KW5.out.take kg kw)
  clear kg kw KW5 HW
  have g7 := KS6.out.p.frozen 7
  have c7 : w6.cell? ⟨P, 7, none⟩ = some (.int .i8 0) := by rw [KS6.out.p.cell 7]; rfl
  have ks := (KS6.out.set_ 7 (.int .i8 v6))
  obtain ⟨W6, hW⟩ : ∃ W, W = (w6.setCell ⟨P, 7, none⟩ (.int .i8 v6)) := ⟨_, rfl⟩
  have ks' : Rs w W6 P t6 #[.int .i8 2, .int .i64 v2, .int .i64 v3, .int .i64 0, .int .i64 0, .int .i64 v4, .int .i64 v5, .int .i8 v6] := by rw [hW]; exact ks
  have KW6 := Lib.hid ks'; have HW := Lib.hid hW
  clear ks ks' hW
  go_upto_region 15 with fail
  rw [← HW.out]
  clear HW KS6 g7 c7
  clear C1 C2 C3 C4 C5 C6
  obtain ⟨c, hc⟩ : ∃ c : Cm, c = ⟨2, v2, v3, 0, 0, v4, v5, v6⟩ := ⟨_, rfl⟩
  have KC : Hid (Rs w W6 P t6 (cC c)) := Lib.hid (by rw [hc]; exact KW6.out)
  have cb : W6.cell? ⟨w.heap.size + 1, 1, none⟩ = some (.bool t6.2) := by rw [KC.out.g.cell 1]; rfl
  have cs : W6.cell? ⟨w.heap.size + 1, 0, none⟩ = some (.string t6.1) := by rw [KC.out.g.cell 0]; rfl
  have HC := Lib.hid hc
  clear KW6 hc
  by_cases hb : t6.2 = true
  · rw [hb] at cb
    have r0 : W6.cell? ⟨w.heap.size, 0, none⟩ = some (.int .i8 0) := by rw [KC.out.r.cell 0]; rfl
    have r1 : W6.cell? ⟨w.heap.size, 1, none⟩ = some (.int .i64 0) := by rw [KC.out.r.cell 1]; rfl
    have r2 : W6.cell? ⟨w.heap.size, 2, none⟩ = some (.int .i64 0) := by rw [KC.out.r.cell 2]; rfl
    have r3 : W6.cell? ⟨w.heap.size, 3, none⟩ = some (.int .i64 0) := by rw [KC.out.r.cell 3]; rfl
    have r4 : W6.cell? ⟨w.heap.size, 4, none⟩ = some (.int .i64 0) := by rw [KC.out.r.cell 4]; rfl
    have r5 : W6.cell? ⟨w.heap.size, 5, none⟩ = some (.int .i64 0) := by rw [KC.out.r.cell 5]; rfl
    have r6 : W6.cell? ⟨w.heap.size, 6, none⟩ = some (.int .i64 0) := by rw [KC.out.r.cell 6]; rfl
    have r7 : W6.cell? ⟨w.heap.size, 7, none⟩ = some (.int .i8 0) := by rw [KC.out.r.cell 7]; rfl
    have f0 := KC.out.r.frozen 0
    have f1 := KC.out.r.frozen 1
    have f2 := KC.out.r.frozen 2
    have f3 := KC.out.r.frozen 3
    have f4 := KC.out.r.frozen 4
    have f5 := KC.out.r.frozen 5
    have f6 := KC.out.r.frozen 6
    have f7 := KC.out.r.frozen 7
    go_wp2_with fail
    try simp only [Exit.inBlock, Exit.then]
    refine bodyPost_ret (w := setR W6 w.heap.size cZ) (ret_cell (g := w.heap.size) rfl _ _ cZ rfl (setR_blk cZ KC.out.r)) rfl ⟨?_, setR_below cZ KC.out.b (Nat.le_refl _)⟩
    rw [← HC.out, endR_bad hb]
    rfl
  · have hb' : t6.2 = false := by simpa using hb
    clear hb
    rw [hb'] at cb
    by_cases he : t6.1 = ⟨#[]⟩
    · rw [he] at cs
      have hmc := mayc_any c W6
      cases hm : mayC c with
      | false =>
        rw [hm] at hmc
        have HM := Lib.hid hmc; clear hmc
        have p0 : W6.cell? ⟨P, 0, none⟩ = some (.int .i8 c.kind) := by rw [KC.out.p.cell 0]; rfl
        have p1 : W6.cell? ⟨P, 1, none⟩ = some (.int .i64 c.node) := by rw [KC.out.p.cell 1]; rfl
        have p2 : W6.cell? ⟨P, 2, none⟩ = some (.int .i64 c.serial) := by rw [KC.out.p.cell 2]; rfl
        have p3 : W6.cell? ⟨P, 3, none⟩ = some (.int .i64 c.dead) := by rw [KC.out.p.cell 3]; rfl
        have p4 : W6.cell? ⟨P, 4, none⟩ = some (.int .i64 c.was) := by rw [KC.out.p.cell 4]; rfl
        have p5 : W6.cell? ⟨P, 5, none⟩ = some (.int .i64 c.lo) := by rw [KC.out.p.cell 5]; rfl
        have p6 : W6.cell? ⟨P, 6, none⟩ = some (.int .i64 c.hi) := by rw [KC.out.p.cell 6]; rfl
        have p7 : W6.cell? ⟨P, 7, none⟩ = some (.int .i8 c.mode) := by rw [KC.out.p.cell 7]; rfl
        go_wp2_with fail
        refine HM.out.mono ?_
        rintro e W9 ⟨rfl, hb9⟩
        have K9 := Lib.hid (KC.out.below hb9)
        clear hb9 KC
        have r0 : W9.cell? ⟨w.heap.size, 0, none⟩ = some (.int .i8 0) := by rw [K9.out.r.cell 0]; rfl
        have r1 : W9.cell? ⟨w.heap.size, 1, none⟩ = some (.int .i64 0) := by rw [K9.out.r.cell 1]; rfl
        have r2 : W9.cell? ⟨w.heap.size, 2, none⟩ = some (.int .i64 0) := by rw [K9.out.r.cell 2]; rfl
        have r3 : W9.cell? ⟨w.heap.size, 3, none⟩ = some (.int .i64 0) := by rw [K9.out.r.cell 3]; rfl
        have r4 : W9.cell? ⟨w.heap.size, 4, none⟩ = some (.int .i64 0) := by rw [K9.out.r.cell 4]; rfl
        have r5 : W9.cell? ⟨w.heap.size, 5, none⟩ = some (.int .i64 0) := by rw [K9.out.r.cell 5]; rfl
        have r6 : W9.cell? ⟨w.heap.size, 6, none⟩ = some (.int .i64 0) := by rw [K9.out.r.cell 6]; rfl
        have r7 : W9.cell? ⟨w.heap.size, 7, none⟩ = some (.int .i8 0) := by rw [K9.out.r.cell 7]; rfl
        have f0 := K9.out.r.frozen 0
        have f1 := K9.out.r.frozen 1
        have f2 := K9.out.r.frozen 2
        have f3 := K9.out.r.frozen 3
        have f4 := K9.out.r.frozen 4
        have f5 := K9.out.r.frozen 5
        have f6 := K9.out.r.frozen 6
        have f7 := K9.out.r.frozen 7
        go_wp2_with fail
        try simp only [Exit.inBlock, Exit.then]
        refine bodyPost_ret (w := setR W9 w.heap.size cZ) (ret_cell (g := w.heap.size) rfl _ _ cZ rfl (setR_blk cZ K9.out.r)) rfl ⟨?_, setR_below cZ K9.out.b (Nat.le_refl _)⟩
        rw [← HC.out, endR_no hm]
        rfl
      | true =>
        rw [hm] at hmc
        have HM := Lib.hid hmc; clear hmc
        have p0 : W6.cell? ⟨P, 0, none⟩ = some (.int .i8 c.kind) := by rw [KC.out.p.cell 0]; rfl
        have p1 : W6.cell? ⟨P, 1, none⟩ = some (.int .i64 c.node) := by rw [KC.out.p.cell 1]; rfl
        have p2 : W6.cell? ⟨P, 2, none⟩ = some (.int .i64 c.serial) := by rw [KC.out.p.cell 2]; rfl
        have p3 : W6.cell? ⟨P, 3, none⟩ = some (.int .i64 c.dead) := by rw [KC.out.p.cell 3]; rfl
        have p4 : W6.cell? ⟨P, 4, none⟩ = some (.int .i64 c.was) := by rw [KC.out.p.cell 4]; rfl
        have p5 : W6.cell? ⟨P, 5, none⟩ = some (.int .i64 c.lo) := by rw [KC.out.p.cell 5]; rfl
        have p6 : W6.cell? ⟨P, 6, none⟩ = some (.int .i64 c.hi) := by rw [KC.out.p.cell 6]; rfl
        have p7 : W6.cell? ⟨P, 7, none⟩ = some (.int .i8 c.mode) := by rw [KC.out.p.cell 7]; rfl
        go_wp2_with fail
        refine HM.out.mono ?_
        rintro e W9 ⟨rfl, hb9⟩
        have K9 := Lib.hid (KC.out.below hb9)
        clear hb9 KC
        have r0 : W9.cell? ⟨w.heap.size, 0, none⟩ = some (.int .i8 0) := by rw [K9.out.r.cell 0]; rfl
        have r1 : W9.cell? ⟨w.heap.size, 1, none⟩ = some (.int .i64 0) := by rw [K9.out.r.cell 1]; rfl
        have r2 : W9.cell? ⟨w.heap.size, 2, none⟩ = some (.int .i64 0) := by rw [K9.out.r.cell 2]; rfl
        have r3 : W9.cell? ⟨w.heap.size, 3, none⟩ = some (.int .i64 0) := by rw [K9.out.r.cell 3]; rfl
        have r4 : W9.cell? ⟨w.heap.size, 4, none⟩ = some (.int .i64 0) := by rw [K9.out.r.cell 4]; rfl
        have r5 : W9.cell? ⟨w.heap.size, 5, none⟩ = some (.int .i64 0) := by rw [K9.out.r.cell 5]; rfl
        have r6 : W9.cell? ⟨w.heap.size, 6, none⟩ = some (.int .i64 0) := by rw [K9.out.r.cell 6]; rfl
        have r7 : W9.cell? ⟨w.heap.size, 7, none⟩ = some (.int .i8 0) := by rw [K9.out.r.cell 7]; rfl
        have f0 := K9.out.r.frozen 0
        have f1 := K9.out.r.frozen 1
        have f2 := K9.out.r.frozen 2
        have f3 := K9.out.r.frozen 3
        have f4 := K9.out.r.frozen 4
        have f5 := K9.out.r.frozen 5
        have f6 := K9.out.r.frozen 6
        have f7 := K9.out.r.frozen 7
        have p09 : W9.cell? ⟨P, 0, none⟩ = some (.int .i8 c.kind) := by rw [K9.out.p.cell 0]; rfl
        have p19 : W9.cell? ⟨P, 1, none⟩ = some (.int .i64 c.node) := by rw [K9.out.p.cell 1]; rfl
        have p29 : W9.cell? ⟨P, 2, none⟩ = some (.int .i64 c.serial) := by rw [K9.out.p.cell 2]; rfl
        have p39 : W9.cell? ⟨P, 3, none⟩ = some (.int .i64 c.dead) := by rw [K9.out.p.cell 3]; rfl
        have p49 : W9.cell? ⟨P, 4, none⟩ = some (.int .i64 c.was) := by rw [K9.out.p.cell 4]; rfl
        have p59 : W9.cell? ⟨P, 5, none⟩ = some (.int .i64 c.lo) := by rw [K9.out.p.cell 5]; rfl
        have p69 : W9.cell? ⟨P, 6, none⟩ = some (.int .i64 c.hi) := by rw [K9.out.p.cell 6]; rfl
        have p79 : W9.cell? ⟨P, 7, none⟩ = some (.int .i8 c.mode) := by rw [K9.out.p.cell 7]; rfl
        go_wp2_with fail
        try simp only [Exit.inBlock, Exit.then]
        refine bodyPost_ret (w := setR W9 w.heap.size c) (ret_cell (g := w.heap.size) rfl _ _ c rfl (setR_blk c K9.out.r)) rfl ⟨?_, setR_below c K9.out.b (Nat.le_refl _)⟩
        rw [← HC.out, endR_good hb' he hm]
        rfl
    · have hne : ¬ (t6.1.toList = []) := fun h => he (by rw [← str_of t6.1, ← str_toList, h]; rfl)
      have r0 : W6.cell? ⟨w.heap.size, 0, none⟩ = some (.int .i8 0) := by rw [KC.out.r.cell 0]; rfl
      have r1 : W6.cell? ⟨w.heap.size, 1, none⟩ = some (.int .i64 0) := by rw [KC.out.r.cell 1]; rfl
      have r2 : W6.cell? ⟨w.heap.size, 2, none⟩ = some (.int .i64 0) := by rw [KC.out.r.cell 2]; rfl
      have r3 : W6.cell? ⟨w.heap.size, 3, none⟩ = some (.int .i64 0) := by rw [KC.out.r.cell 3]; rfl
      have r4 : W6.cell? ⟨w.heap.size, 4, none⟩ = some (.int .i64 0) := by rw [KC.out.r.cell 4]; rfl
      have r5 : W6.cell? ⟨w.heap.size, 5, none⟩ = some (.int .i64 0) := by rw [KC.out.r.cell 5]; rfl
      have r6 : W6.cell? ⟨w.heap.size, 6, none⟩ = some (.int .i64 0) := by rw [KC.out.r.cell 6]; rfl
      have r7 : W6.cell? ⟨w.heap.size, 7, none⟩ = some (.int .i8 0) := by rw [KC.out.r.cell 7]; rfl
      have f0 := KC.out.r.frozen 0
      have f1 := KC.out.r.frozen 1
      have f2 := KC.out.r.frozen 2
      have f3 := KC.out.r.frozen 3
      have f4 := KC.out.r.frozen 4
      have f5 := KC.out.r.frozen 5
      have f6 := KC.out.r.frozen 6
      have f7 := KC.out.r.frozen 7
      go_wp2_with fail
      try simp only [Exit.inBlock, Exit.then]
      refine bodyPost_ret (w := setR W6 w.heap.size cZ) (ret_cell (g := w.heap.size) rfl _ _ cZ rfl (setR_blk cZ KC.out.r)) rfl ⟨?_, setR_below cZ KC.out.b (Nat.le_refl _)⟩
      rw [← HC.out, endR_more he]
      rfl

set_option maxHeartbeats 1000000 in
theorem rd_2b (s : ByteArray) (w : World) (v2 v3 v4 v5 v6 : Int) (t1 t2 t3 t4 t5 t6 : ByteArray × Bool) (m1 : 127 < v6)
    (C1 : TakeTo (w.heap.size + 1) 1 (s, false) 2 t1) (C2 : TakeTo (w.heap.size + 1) 6 t1 v2 t2) (C3 : TakeTo (w.heap.size + 1) 4 t2 v3 t3) (C4 : TakeTo (w.heap.size + 1) 1 t3 v4 t4) (C5 : TakeTo (w.heap.size + 1) 1 t4 v5 t5) (C6 : TakeTo (w.heap.size + 1) 1 t5 v6 t6) :
    Calls Try.prog 22 #[.string s] w fun e w' => e = .returned (.tuple #[.agg (cC (endR t6 ⟨2, v2, v3, 0, 0, v4, v5, 127⟩).1), .int .i64 (endR t6 ⟨2, v2, v3, 0, 0, v4, v5, 127⟩).2]) ∧ Below w.heap.size w w' := by
  have kp := Rp.start w s
  obtain ⟨W0, hW0⟩ : ∃ W0, W0 = ((w.alloc (Obj.cells (cC cZ) 42)).alloc (Obj.cells #[Value.string s, Value.bool false] 57)) := ⟨_, rfl⟩
  rw [← hW0] at kp
  have KP := Lib.hid kp; have HW0 : Hid (W0 = ((w.alloc (Obj.cells #[Value.int IntKind.i8 0, Value.int IntKind.i64 0, Value.int IntKind.i64 0, Value.int IntKind.i64 0, Value.int IntKind.i64 0, Value.int IntKind.i64 0, Value.int IntKind.i64 0, Value.int IntKind.i8 0] 42)).alloc (Obj.cells #[Value.string s, Value.bool false] 57))) := Lib.hid hW0
  clear kp hW0
  go_enter Try.func22, Try.ntmps22
  go_wp2_with fail
  rw [← HW0.out]
  refine (C1 W0 KP.out.g).mono ?_
  rintro e w1 ⟨rfl, kg, kw⟩
  have KP1 := Lib.hid (KP.out.take kg kw)
  clear kg kw HW0 KP
  go_wp2_with fail
  refine (C2 w1 KP1.out.g).mono ?_
  rintro e w2 ⟨rfl, kg, kw⟩
  have KP2 := Lib.hid (KP1.out.take kg kw)
  clear kg kw KP1
  go_wp2_with fail
  refine (C3 w2 KP2.out.g).mono ?_
  rintro e w3 ⟨rfl, kg, kw⟩
  have KP3 := Lib.hid (KP2.out.take kg kw)
  clear kg kw KP2
  have ks := KP3.out.to #[.int .i8 2, .int .i64 v2, .int .i64 v3, .int .i64 0, .int .i64 0, .int .i64 0, .int .i64 0, .int .i8 0]
  obtain ⟨P, hP⟩ : ∃ P, P = w3.heap.size := ⟨_, rfl⟩
  obtain ⟨W3, hW3⟩ : ∃ W, W = (w3.alloc (Obj.cells #[.int .i8 2, .int .i64 v2, .int .i64 v3, .int .i64 0, .int .i64 0, .int .i64 0, .int .i64 0, .int .i8 0] 42)) := ⟨_, rfl⟩
  rw [← hW3, ← hP] at ks
  have KS := Lib.hid ks; have HP := Lib.hid hP; have HW3 := Lib.hid hW3
  clear ks hP hW3
  go_wp2_with fail
  rw [← HW3.out, ← HP.out]
  refine (C4 W3 KS.out.g).mono ?_
  rintro e w4 ⟨rfl, kg, kw⟩
  have KS4 := Lib.hid (KS.out.take kg kw)
  clear kg kw KS KP3 HW3 HP
  go_wp2_with fail
  refine (C5 w4 KS4.out.g).mono ?_
  rintro e w5 ⟨rfl, kg, kw⟩
  have KS5 := Lib.hid (KS4.out.take kg kw)
  clear kg kw KS4
  have g5 := KS5.out.p.frozen 5
  have c5 : w5.cell? ⟨P, 5, none⟩ = some (.int .i64 0) := by rw [KS5.out.p.cell 5]; rfl
  have g6 := KS5.out.p.frozen 6
  have c6 : w5.cell? ⟨P, 6, none⟩ = some (.int .i64 0) := by rw [KS5.out.p.cell 6]; rfl
  have c0 : w5.cell? ⟨P, 0, none⟩ = some (.int .i8 2) := by rw [KS5.out.p.cell 0]; rfl
  have ks := ((KS5.out.set_ 5 (.int .i64 v4)).set_ 6 (.int .i64 v5))
  obtain ⟨W5, hW⟩ : ∃ W, W = ((w5.setCell ⟨P, 5, none⟩ (.int .i64 v4)).setCell ⟨P, 6, none⟩ (.int .i64 v5)) := ⟨_, rfl⟩
  have ks' : Rs w W5 P t5 #[.int .i8 2, .int .i64 v2, .int .i64 v3, .int .i64 0, .int .i64 0, .int .i64 v4, .int .i64 v5, .int .i8 0] := by rw [hW]; exact ks
  have KW5 := Lib.hid ks'; have HW := Lib.hid hW
  clear ks ks' hW
  go_wp2_with fail
  rw [← HW.out]
  clear KS5 g5 c5 g6 c6 c0
  refine (C6 W5 KW5.out.g).mono ?_
  rintro e w6 ⟨rfl, kg, kw⟩
  have KS6 := Lib.hid (KW5.out.take kg kw)
  clear kg kw KW5 HW
  have g7 := KS6.out.p.frozen 7
  have c7 : w6.cell? ⟨P, 7, none⟩ = some (.int .i8 0) := by rw [KS6.out.p.cell 7]; rfl
  have ks := (KS6.out.set_ 7 (.int .i8 127))
  obtain ⟨W6, hW⟩ : ∃ W, W = (w6.setCell ⟨P, 7, none⟩ (.int .i8 127)) := ⟨_, rfl⟩
  have ks' : Rs w W6 P t6 #[.int .i8 2, .int .i64 v2, .int .i64 v3, .int .i64 0, .int .i64 0, .int .i64 v4, .int .i64 v5, .int .i8 127] := by rw [hW]; exact ks
  have KW6 := Lib.hid ks'; have HW := Lib.hid hW
  clear ks ks' hW
  go_upto_region 15 with fail
  rw [← HW.out]
  clear HW KS6 g7 c7
  clear C1 C2 C3 C4 C5 C6
  obtain ⟨c, hc⟩ : ∃ c : Cm, c = ⟨2, v2, v3, 0, 0, v4, v5, 127⟩ := ⟨_, rfl⟩
  have KC : Hid (Rs w W6 P t6 (cC c)) := Lib.hid (by rw [hc]; exact KW6.out)
  have cb : W6.cell? ⟨w.heap.size + 1, 1, none⟩ = some (.bool t6.2) := by rw [KC.out.g.cell 1]; rfl
  have cs : W6.cell? ⟨w.heap.size + 1, 0, none⟩ = some (.string t6.1) := by rw [KC.out.g.cell 0]; rfl
  have HC := Lib.hid hc
  clear KW6 hc
  by_cases hb : t6.2 = true
  · rw [hb] at cb
    have r0 : W6.cell? ⟨w.heap.size, 0, none⟩ = some (.int .i8 0) := by rw [KC.out.r.cell 0]; rfl
    have r1 : W6.cell? ⟨w.heap.size, 1, none⟩ = some (.int .i64 0) := by rw [KC.out.r.cell 1]; rfl
    have r2 : W6.cell? ⟨w.heap.size, 2, none⟩ = some (.int .i64 0) := by rw [KC.out.r.cell 2]; rfl
    have r3 : W6.cell? ⟨w.heap.size, 3, none⟩ = some (.int .i64 0) := by rw [KC.out.r.cell 3]; rfl
    have r4 : W6.cell? ⟨w.heap.size, 4, none⟩ = some (.int .i64 0) := by rw [KC.out.r.cell 4]; rfl
    have r5 : W6.cell? ⟨w.heap.size, 5, none⟩ = some (.int .i64 0) := by rw [KC.out.r.cell 5]; rfl
    have r6 : W6.cell? ⟨w.heap.size, 6, none⟩ = some (.int .i64 0) := by rw [KC.out.r.cell 6]; rfl
    have r7 : W6.cell? ⟨w.heap.size, 7, none⟩ = some (.int .i8 0) := by rw [KC.out.r.cell 7]; rfl
    have f0 := KC.out.r.frozen 0
    have f1 := KC.out.r.frozen 1
    have f2 := KC.out.r.frozen 2
    have f3 := KC.out.r.frozen 3
    have f4 := KC.out.r.frozen 4
    have f5 := KC.out.r.frozen 5
    have f6 := KC.out.r.frozen 6
    have f7 := KC.out.r.frozen 7
    go_wp2_with fail
    try simp only [Exit.inBlock, Exit.then]
    refine bodyPost_ret (w := setR W6 w.heap.size cZ) (ret_cell (g := w.heap.size) rfl _ _ cZ rfl (setR_blk cZ KC.out.r)) rfl ⟨?_, setR_below cZ KC.out.b (Nat.le_refl _)⟩
    rw [← HC.out, endR_bad hb]
    rfl
  · have hb' : t6.2 = false := by simpa using hb
    clear hb
    rw [hb'] at cb
    by_cases he : t6.1 = ⟨#[]⟩
    · rw [he] at cs
      have hmc := mayc_any c W6
      cases hm : mayC c with
      | false =>
        rw [hm] at hmc
        have HM := Lib.hid hmc; clear hmc
        have p0 : W6.cell? ⟨P, 0, none⟩ = some (.int .i8 c.kind) := by rw [KC.out.p.cell 0]; rfl
        have p1 : W6.cell? ⟨P, 1, none⟩ = some (.int .i64 c.node) := by rw [KC.out.p.cell 1]; rfl
        have p2 : W6.cell? ⟨P, 2, none⟩ = some (.int .i64 c.serial) := by rw [KC.out.p.cell 2]; rfl
        have p3 : W6.cell? ⟨P, 3, none⟩ = some (.int .i64 c.dead) := by rw [KC.out.p.cell 3]; rfl
        have p4 : W6.cell? ⟨P, 4, none⟩ = some (.int .i64 c.was) := by rw [KC.out.p.cell 4]; rfl
        have p5 : W6.cell? ⟨P, 5, none⟩ = some (.int .i64 c.lo) := by rw [KC.out.p.cell 5]; rfl
        have p6 : W6.cell? ⟨P, 6, none⟩ = some (.int .i64 c.hi) := by rw [KC.out.p.cell 6]; rfl
        have p7 : W6.cell? ⟨P, 7, none⟩ = some (.int .i8 c.mode) := by rw [KC.out.p.cell 7]; rfl
        go_wp2_with fail
        refine HM.out.mono ?_
        rintro e W9 ⟨rfl, hb9⟩
        have K9 := Lib.hid (KC.out.below hb9)
        clear hb9 KC
        have r0 : W9.cell? ⟨w.heap.size, 0, none⟩ = some (.int .i8 0) := by rw [K9.out.r.cell 0]; rfl
        have r1 : W9.cell? ⟨w.heap.size, 1, none⟩ = some (.int .i64 0) := by rw [K9.out.r.cell 1]; rfl
        have r2 : W9.cell? ⟨w.heap.size, 2, none⟩ = some (.int .i64 0) := by rw [K9.out.r.cell 2]; rfl
        have r3 : W9.cell? ⟨w.heap.size, 3, none⟩ = some (.int .i64 0) := by rw [K9.out.r.cell 3]; rfl
        have r4 : W9.cell? ⟨w.heap.size, 4, none⟩ = some (.int .i64 0) := by rw [K9.out.r.cell 4]; rfl
        have r5 : W9.cell? ⟨w.heap.size, 5, none⟩ = some (.int .i64 0) := by rw [K9.out.r.cell 5]; rfl
        have r6 : W9.cell? ⟨w.heap.size, 6, none⟩ = some (.int .i64 0) := by rw [K9.out.r.cell 6]; rfl
        have r7 : W9.cell? ⟨w.heap.size, 7, none⟩ = some (.int .i8 0) := by rw [K9.out.r.cell 7]; rfl
        have f0 := K9.out.r.frozen 0
        have f1 := K9.out.r.frozen 1
        have f2 := K9.out.r.frozen 2
        have f3 := K9.out.r.frozen 3
        have f4 := K9.out.r.frozen 4
        have f5 := K9.out.r.frozen 5
        have f6 := K9.out.r.frozen 6
        have f7 := K9.out.r.frozen 7
        go_wp2_with fail
        try simp only [Exit.inBlock, Exit.then]
        refine bodyPost_ret (w := setR W9 w.heap.size cZ) (ret_cell (g := w.heap.size) rfl _ _ cZ rfl (setR_blk cZ K9.out.r)) rfl ⟨?_, setR_below cZ K9.out.b (Nat.le_refl _)⟩
        rw [← HC.out, endR_no hm]
        rfl
      | true =>
        rw [hm] at hmc
        have HM := Lib.hid hmc; clear hmc
        have p0 : W6.cell? ⟨P, 0, none⟩ = some (.int .i8 c.kind) := by rw [KC.out.p.cell 0]; rfl
        have p1 : W6.cell? ⟨P, 1, none⟩ = some (.int .i64 c.node) := by rw [KC.out.p.cell 1]; rfl
        have p2 : W6.cell? ⟨P, 2, none⟩ = some (.int .i64 c.serial) := by rw [KC.out.p.cell 2]; rfl
        have p3 : W6.cell? ⟨P, 3, none⟩ = some (.int .i64 c.dead) := by rw [KC.out.p.cell 3]; rfl
        have p4 : W6.cell? ⟨P, 4, none⟩ = some (.int .i64 c.was) := by rw [KC.out.p.cell 4]; rfl
        have p5 : W6.cell? ⟨P, 5, none⟩ = some (.int .i64 c.lo) := by rw [KC.out.p.cell 5]; rfl
        have p6 : W6.cell? ⟨P, 6, none⟩ = some (.int .i64 c.hi) := by rw [KC.out.p.cell 6]; rfl
        have p7 : W6.cell? ⟨P, 7, none⟩ = some (.int .i8 c.mode) := by rw [KC.out.p.cell 7]; rfl
        go_wp2_with fail
        refine HM.out.mono ?_
        rintro e W9 ⟨rfl, hb9⟩
        have K9 := Lib.hid (KC.out.below hb9)
        clear hb9 KC
        have r0 : W9.cell? ⟨w.heap.size, 0, none⟩ = some (.int .i8 0) := by rw [K9.out.r.cell 0]; rfl
        have r1 : W9.cell? ⟨w.heap.size, 1, none⟩ = some (.int .i64 0) := by rw [K9.out.r.cell 1]; rfl
        have r2 : W9.cell? ⟨w.heap.size, 2, none⟩ = some (.int .i64 0) := by rw [K9.out.r.cell 2]; rfl
        have r3 : W9.cell? ⟨w.heap.size, 3, none⟩ = some (.int .i64 0) := by rw [K9.out.r.cell 3]; rfl
        have r4 : W9.cell? ⟨w.heap.size, 4, none⟩ = some (.int .i64 0) := by rw [K9.out.r.cell 4]; rfl
        have r5 : W9.cell? ⟨w.heap.size, 5, none⟩ = some (.int .i64 0) := by rw [K9.out.r.cell 5]; rfl
        have r6 : W9.cell? ⟨w.heap.size, 6, none⟩ = some (.int .i64 0) := by rw [K9.out.r.cell 6]; rfl
        have r7 : W9.cell? ⟨w.heap.size, 7, none⟩ = some (.int .i8 0) := by rw [K9.out.r.cell 7]; rfl
        have f0 := K9.out.r.frozen 0
        have f1 := K9.out.r.frozen 1
        have f2 := K9.out.r.frozen 2
        have f3 := K9.out.r.frozen 3
        have f4 := K9.out.r.frozen 4
        have f5 := K9.out.r.frozen 5
        have f6 := K9.out.r.frozen 6
        have f7 := K9.out.r.frozen 7
        have p09 : W9.cell? ⟨P, 0, none⟩ = some (.int .i8 c.kind) := by rw [K9.out.p.cell 0]; rfl
        have p19 : W9.cell? ⟨P, 1, none⟩ = some (.int .i64 c.node) := by rw [K9.out.p.cell 1]; rfl
        have p29 : W9.cell? ⟨P, 2, none⟩ = some (.int .i64 c.serial) := by rw [K9.out.p.cell 2]; rfl
        have p39 : W9.cell? ⟨P, 3, none⟩ = some (.int .i64 c.dead) := by rw [K9.out.p.cell 3]; rfl
        have p49 : W9.cell? ⟨P, 4, none⟩ = some (.int .i64 c.was) := by rw [K9.out.p.cell 4]; rfl
        have p59 : W9.cell? ⟨P, 5, none⟩ = some (.int .i64 c.lo) := by rw [K9.out.p.cell 5]; rfl
        have p69 : W9.cell? ⟨P, 6, none⟩ = some (.int .i64 c.hi) := by rw [K9.out.p.cell 6]; rfl
        have p79 : W9.cell? ⟨P, 7, none⟩ = some (.int .i8 c.mode) := by rw [K9.out.p.cell 7]; rfl
        go_wp2_with fail
        try simp only [Exit.inBlock, Exit.then]
        refine bodyPost_ret (w := setR W9 w.heap.size c) (ret_cell (g := w.heap.size) rfl _ _ c rfl (setR_blk c K9.out.r)) rfl ⟨?_, setR_below c K9.out.b (Nat.le_refl _)⟩
        rw [← HC.out, endR_good hb' he hm]
        rfl
    · have hne : ¬ (t6.1.toList = []) := fun h => he (by rw [← str_of t6.1, ← str_toList, h]; rfl)
      have r0 : W6.cell? ⟨w.heap.size, 0, none⟩ = some (.int .i8 0) := by rw [KC.out.r.cell 0]; rfl
      have r1 : W6.cell? ⟨w.heap.size, 1, none⟩ = some (.int .i64 0) := by rw [KC.out.r.cell 1]; rfl
      have r2 : W6.cell? ⟨w.heap.size, 2, none⟩ = some (.int .i64 0) := by rw [KC.out.r.cell 2]; rfl
      have r3 : W6.cell? ⟨w.heap.size, 3, none⟩ = some (.int .i64 0) := by rw [KC.out.r.cell 3]; rfl
      have r4 : W6.cell? ⟨w.heap.size, 4, none⟩ = some (.int .i64 0) := by rw [KC.out.r.cell 4]; rfl
      have r5 : W6.cell? ⟨w.heap.size, 5, none⟩ = some (.int .i64 0) := by rw [KC.out.r.cell 5]; rfl
      have r6 : W6.cell? ⟨w.heap.size, 6, none⟩ = some (.int .i64 0) := by rw [KC.out.r.cell 6]; rfl
      have r7 : W6.cell? ⟨w.heap.size, 7, none⟩ = some (.int .i8 0) := by rw [KC.out.r.cell 7]; rfl
      have f0 := KC.out.r.frozen 0
      have f1 := KC.out.r.frozen 1
      have f2 := KC.out.r.frozen 2
      have f3 := KC.out.r.frozen 3
      have f4 := KC.out.r.frozen 4
      have f5 := KC.out.r.frozen 5
      have f6 := KC.out.r.frozen 6
      have f7 := KC.out.r.frozen 7
      go_wp2_with fail
      try simp only [Exit.inBlock, Exit.then]
      refine bodyPost_ret (w := setR W6 w.heap.size cZ) (ret_cell (g := w.heap.size) rfl _ _ cZ rfl (setR_blk cZ KC.out.r)) rfl ⟨?_, setR_below cZ KC.out.b (Nat.le_refl _)⟩
      rw [← HC.out, endR_more he]
      rfl

set_option maxHeartbeats 1000000 in
theorem rd_3 (s : ByteArray) (w : World) (v2 v3 v4 v5 : Int) (t1 t2 t3 t4 t5 : ByteArray × Bool)
    (C1 : TakeTo (w.heap.size + 1) 1 (s, false) 3 t1) (C2 : TakeTo (w.heap.size + 1) 6 t1 v2 t2) (C3 : TakeTo (w.heap.size + 1) 4 t2 v3 t3) (C4 : TakeTo (w.heap.size + 1) 1 t3 v4 t4) (C5 : TakeTo (w.heap.size + 1) 1 t4 v5 t5) :
    Calls Try.prog 22 #[.string s] w fun e w' => e = .returned (.tuple #[.agg (cC (endR t5 ⟨3, v2, v3, 0, 0, v4, v5, 0⟩).1), .int .i64 (endR t5 ⟨3, v2, v3, 0, 0, v4, v5, 0⟩).2]) ∧ Below w.heap.size w w' := by
  have kp := Rp.start w s
  obtain ⟨W0, hW0⟩ : ∃ W0, W0 = ((w.alloc (Obj.cells (cC cZ) 42)).alloc (Obj.cells #[Value.string s, Value.bool false] 57)) := ⟨_, rfl⟩
  rw [← hW0] at kp
  have KP := Lib.hid kp; have HW0 : Hid (W0 = ((w.alloc (Obj.cells #[Value.int IntKind.i8 0, Value.int IntKind.i64 0, Value.int IntKind.i64 0, Value.int IntKind.i64 0, Value.int IntKind.i64 0, Value.int IntKind.i64 0, Value.int IntKind.i64 0, Value.int IntKind.i8 0] 42)).alloc (Obj.cells #[Value.string s, Value.bool false] 57))) := Lib.hid hW0
  clear kp hW0
  go_enter Try.func22, Try.ntmps22
  go_wp2_with fail
  rw [← HW0.out]
  refine (C1 W0 KP.out.g).mono ?_
  rintro e w1 ⟨rfl, kg, kw⟩
  have KP1 := Lib.hid (KP.out.take kg kw)
  clear kg kw HW0 KP
  go_wp2_with fail
  refine (C2 w1 KP1.out.g).mono ?_
  rintro e w2 ⟨rfl, kg, kw⟩
  have KP2 := Lib.hid (KP1.out.take kg kw)
  clear kg kw KP1
  go_wp2_with fail
  refine (C3 w2 KP2.out.g).mono ?_
  rintro e w3 ⟨rfl, kg, kw⟩
  have KP3 := Lib.hid (KP2.out.take kg kw)
  clear kg kw KP2
  have ks := KP3.out.to #[.int .i8 3, .int .i64 v2, .int .i64 v3, .int .i64 0, .int .i64 0, .int .i64 0, .int .i64 0, .int .i8 0]
  obtain ⟨P, hP⟩ : ∃ P, P = w3.heap.size := ⟨_, rfl⟩
  obtain ⟨W3, hW3⟩ : ∃ W, W = (w3.alloc (Obj.cells #[.int .i8 3, .int .i64 v2, .int .i64 v3, .int .i64 0, .int .i64 0, .int .i64 0, .int .i64 0, .int .i8 0] 42)) := ⟨_, rfl⟩
  rw [← hW3, ← hP] at ks
  have KS := Lib.hid ks; have HP := Lib.hid hP; have HW3 := Lib.hid hW3
  clear ks hP hW3
  go_wp2_with fail
  rw [← HW3.out, ← HP.out]
  refine (C4 W3 KS.out.g).mono ?_
  rintro e w4 ⟨rfl, kg, kw⟩
  have KS4 := Lib.hid (KS.out.take kg kw)
  clear kg kw KS KP3 HW3 HP
  go_wp2_with fail
  refine (C5 w4 KS4.out.g).mono ?_
  rintro e w5 ⟨rfl, kg, kw⟩
  have KS5 := Lib.hid (KS4.out.take kg kw)
  clear kg kw KS4
  have g5 := KS5.out.p.frozen 5
  have c5 : w5.cell? ⟨P, 5, none⟩ = some (.int .i64 0) := by rw [KS5.out.p.cell 5]; rfl
  have g6 := KS5.out.p.frozen 6
  have c6 : w5.cell? ⟨P, 6, none⟩ = some (.int .i64 0) := by rw [KS5.out.p.cell 6]; rfl
  have ks := ((KS5.out.set_ 5 (.int .i64 v4)).set_ 6 (.int .i64 v5))
  obtain ⟨W5, hW⟩ : ∃ W, W = ((w5.setCell ⟨P, 5, none⟩ (.int .i64 v4)).setCell ⟨P, 6, none⟩ (.int .i64 v5)) := ⟨_, rfl⟩
  have ks' : Rs w W5 P t5 #[.int .i8 3, .int .i64 v2, .int .i64 v3, .int .i64 0, .int .i64 0, .int .i64 v4, .int .i64 v5, .int .i8 0] := by rw [hW]; exact ks
  have KW5 := Lib.hid ks'; have HW := Lib.hid hW
  clear ks ks' hW
  have c0 : w5.cell? ⟨P, 0, none⟩ = some (.int .i8 3) := by rw [KS5.out.p.cell 0]; rfl
  go_upto_region 15 with fail
  rw [← HW.out]
  clear HW KS5 g5 c5 g6 c6 c0
  clear C1 C2 C3 C4 C5
  obtain ⟨c, hc⟩ : ∃ c : Cm, c = ⟨3, v2, v3, 0, 0, v4, v5, 0⟩ := ⟨_, rfl⟩
  have KC : Hid (Rs w W5 P t5 (cC c)) := Lib.hid (by rw [hc]; exact KW5.out)
  have cb : W5.cell? ⟨w.heap.size + 1, 1, none⟩ = some (.bool t5.2) := by rw [KC.out.g.cell 1]; rfl
  have cs : W5.cell? ⟨w.heap.size + 1, 0, none⟩ = some (.string t5.1) := by rw [KC.out.g.cell 0]; rfl
  have HC := Lib.hid hc
  clear KW5 hc
  by_cases hb : t5.2 = true
  · rw [hb] at cb
    have r0 : W5.cell? ⟨w.heap.size, 0, none⟩ = some (.int .i8 0) := by rw [KC.out.r.cell 0]; rfl
    have r1 : W5.cell? ⟨w.heap.size, 1, none⟩ = some (.int .i64 0) := by rw [KC.out.r.cell 1]; rfl
    have r2 : W5.cell? ⟨w.heap.size, 2, none⟩ = some (.int .i64 0) := by rw [KC.out.r.cell 2]; rfl
    have r3 : W5.cell? ⟨w.heap.size, 3, none⟩ = some (.int .i64 0) := by rw [KC.out.r.cell 3]; rfl
    have r4 : W5.cell? ⟨w.heap.size, 4, none⟩ = some (.int .i64 0) := by rw [KC.out.r.cell 4]; rfl
    have r5 : W5.cell? ⟨w.heap.size, 5, none⟩ = some (.int .i64 0) := by rw [KC.out.r.cell 5]; rfl
    have r6 : W5.cell? ⟨w.heap.size, 6, none⟩ = some (.int .i64 0) := by rw [KC.out.r.cell 6]; rfl
    have r7 : W5.cell? ⟨w.heap.size, 7, none⟩ = some (.int .i8 0) := by rw [KC.out.r.cell 7]; rfl
    have f0 := KC.out.r.frozen 0
    have f1 := KC.out.r.frozen 1
    have f2 := KC.out.r.frozen 2
    have f3 := KC.out.r.frozen 3
    have f4 := KC.out.r.frozen 4
    have f5 := KC.out.r.frozen 5
    have f6 := KC.out.r.frozen 6
    have f7 := KC.out.r.frozen 7
    go_wp2_with fail
    try simp only [Exit.inBlock, Exit.then]
    refine bodyPost_ret (w := setR W5 w.heap.size cZ) (ret_cell (g := w.heap.size) rfl _ _ cZ rfl (setR_blk cZ KC.out.r)) rfl ⟨?_, setR_below cZ KC.out.b (Nat.le_refl _)⟩
    rw [← HC.out, endR_bad hb]
    rfl
  · have hb' : t5.2 = false := by simpa using hb
    clear hb
    rw [hb'] at cb
    by_cases he : t5.1 = ⟨#[]⟩
    · rw [he] at cs
      have hmc := mayc_any c W5
      cases hm : mayC c with
      | false =>
        rw [hm] at hmc
        have HM := Lib.hid hmc; clear hmc
        have p0 : W5.cell? ⟨P, 0, none⟩ = some (.int .i8 c.kind) := by rw [KC.out.p.cell 0]; rfl
        have p1 : W5.cell? ⟨P, 1, none⟩ = some (.int .i64 c.node) := by rw [KC.out.p.cell 1]; rfl
        have p2 : W5.cell? ⟨P, 2, none⟩ = some (.int .i64 c.serial) := by rw [KC.out.p.cell 2]; rfl
        have p3 : W5.cell? ⟨P, 3, none⟩ = some (.int .i64 c.dead) := by rw [KC.out.p.cell 3]; rfl
        have p4 : W5.cell? ⟨P, 4, none⟩ = some (.int .i64 c.was) := by rw [KC.out.p.cell 4]; rfl
        have p5 : W5.cell? ⟨P, 5, none⟩ = some (.int .i64 c.lo) := by rw [KC.out.p.cell 5]; rfl
        have p6 : W5.cell? ⟨P, 6, none⟩ = some (.int .i64 c.hi) := by rw [KC.out.p.cell 6]; rfl
        have p7 : W5.cell? ⟨P, 7, none⟩ = some (.int .i8 c.mode) := by rw [KC.out.p.cell 7]; rfl
        go_wp2_with fail
        refine HM.out.mono ?_
        rintro e W9 ⟨rfl, hb9⟩
        have K9 := Lib.hid (KC.out.below hb9)
        clear hb9 KC
        have r0 : W9.cell? ⟨w.heap.size, 0, none⟩ = some (.int .i8 0) := by rw [K9.out.r.cell 0]; rfl
        have r1 : W9.cell? ⟨w.heap.size, 1, none⟩ = some (.int .i64 0) := by rw [K9.out.r.cell 1]; rfl
        have r2 : W9.cell? ⟨w.heap.size, 2, none⟩ = some (.int .i64 0) := by rw [K9.out.r.cell 2]; rfl
        have r3 : W9.cell? ⟨w.heap.size, 3, none⟩ = some (.int .i64 0) := by rw [K9.out.r.cell 3]; rfl
        have r4 : W9.cell? ⟨w.heap.size, 4, none⟩ = some (.int .i64 0) := by rw [K9.out.r.cell 4]; rfl
        have r5 : W9.cell? ⟨w.heap.size, 5, none⟩ = some (.int .i64 0) := by rw [K9.out.r.cell 5]; rfl
        have r6 : W9.cell? ⟨w.heap.size, 6, none⟩ = some (.int .i64 0) := by rw [K9.out.r.cell 6]; rfl
        have r7 : W9.cell? ⟨w.heap.size, 7, none⟩ = some (.int .i8 0) := by rw [K9.out.r.cell 7]; rfl
        have f0 := K9.out.r.frozen 0
        have f1 := K9.out.r.frozen 1
        have f2 := K9.out.r.frozen 2
        have f3 := K9.out.r.frozen 3
        have f4 := K9.out.r.frozen 4
        have f5 := K9.out.r.frozen 5
        have f6 := K9.out.r.frozen 6
        have f7 := K9.out.r.frozen 7
        go_wp2_with fail
        try simp only [Exit.inBlock, Exit.then]
        refine bodyPost_ret (w := setR W9 w.heap.size cZ) (ret_cell (g := w.heap.size) rfl _ _ cZ rfl (setR_blk cZ K9.out.r)) rfl ⟨?_, setR_below cZ K9.out.b (Nat.le_refl _)⟩
        rw [← HC.out, endR_no hm]
        rfl
      | true =>
        rw [hm] at hmc
        have HM := Lib.hid hmc; clear hmc
        have p0 : W5.cell? ⟨P, 0, none⟩ = some (.int .i8 c.kind) := by rw [KC.out.p.cell 0]; rfl
        have p1 : W5.cell? ⟨P, 1, none⟩ = some (.int .i64 c.node) := by rw [KC.out.p.cell 1]; rfl
        have p2 : W5.cell? ⟨P, 2, none⟩ = some (.int .i64 c.serial) := by rw [KC.out.p.cell 2]; rfl
        have p3 : W5.cell? ⟨P, 3, none⟩ = some (.int .i64 c.dead) := by rw [KC.out.p.cell 3]; rfl
        have p4 : W5.cell? ⟨P, 4, none⟩ = some (.int .i64 c.was) := by rw [KC.out.p.cell 4]; rfl
        have p5 : W5.cell? ⟨P, 5, none⟩ = some (.int .i64 c.lo) := by rw [KC.out.p.cell 5]; rfl
        have p6 : W5.cell? ⟨P, 6, none⟩ = some (.int .i64 c.hi) := by rw [KC.out.p.cell 6]; rfl
        have p7 : W5.cell? ⟨P, 7, none⟩ = some (.int .i8 c.mode) := by rw [KC.out.p.cell 7]; rfl
        go_wp2_with fail
        refine HM.out.mono ?_
        rintro e W9 ⟨rfl, hb9⟩
        have K9 := Lib.hid (KC.out.below hb9)
        clear hb9 KC
        have r0 : W9.cell? ⟨w.heap.size, 0, none⟩ = some (.int .i8 0) := by rw [K9.out.r.cell 0]; rfl
        have r1 : W9.cell? ⟨w.heap.size, 1, none⟩ = some (.int .i64 0) := by rw [K9.out.r.cell 1]; rfl
        have r2 : W9.cell? ⟨w.heap.size, 2, none⟩ = some (.int .i64 0) := by rw [K9.out.r.cell 2]; rfl
        have r3 : W9.cell? ⟨w.heap.size, 3, none⟩ = some (.int .i64 0) := by rw [K9.out.r.cell 3]; rfl
        have r4 : W9.cell? ⟨w.heap.size, 4, none⟩ = some (.int .i64 0) := by rw [K9.out.r.cell 4]; rfl
        have r5 : W9.cell? ⟨w.heap.size, 5, none⟩ = some (.int .i64 0) := by rw [K9.out.r.cell 5]; rfl
        have r6 : W9.cell? ⟨w.heap.size, 6, none⟩ = some (.int .i64 0) := by rw [K9.out.r.cell 6]; rfl
        have r7 : W9.cell? ⟨w.heap.size, 7, none⟩ = some (.int .i8 0) := by rw [K9.out.r.cell 7]; rfl
        have f0 := K9.out.r.frozen 0
        have f1 := K9.out.r.frozen 1
        have f2 := K9.out.r.frozen 2
        have f3 := K9.out.r.frozen 3
        have f4 := K9.out.r.frozen 4
        have f5 := K9.out.r.frozen 5
        have f6 := K9.out.r.frozen 6
        have f7 := K9.out.r.frozen 7
        have p09 : W9.cell? ⟨P, 0, none⟩ = some (.int .i8 c.kind) := by rw [K9.out.p.cell 0]; rfl
        have p19 : W9.cell? ⟨P, 1, none⟩ = some (.int .i64 c.node) := by rw [K9.out.p.cell 1]; rfl
        have p29 : W9.cell? ⟨P, 2, none⟩ = some (.int .i64 c.serial) := by rw [K9.out.p.cell 2]; rfl
        have p39 : W9.cell? ⟨P, 3, none⟩ = some (.int .i64 c.dead) := by rw [K9.out.p.cell 3]; rfl
        have p49 : W9.cell? ⟨P, 4, none⟩ = some (.int .i64 c.was) := by rw [K9.out.p.cell 4]; rfl
        have p59 : W9.cell? ⟨P, 5, none⟩ = some (.int .i64 c.lo) := by rw [K9.out.p.cell 5]; rfl
        have p69 : W9.cell? ⟨P, 6, none⟩ = some (.int .i64 c.hi) := by rw [K9.out.p.cell 6]; rfl
        have p79 : W9.cell? ⟨P, 7, none⟩ = some (.int .i8 c.mode) := by rw [K9.out.p.cell 7]; rfl
        go_wp2_with fail
        try simp only [Exit.inBlock, Exit.then]
        refine bodyPost_ret (w := setR W9 w.heap.size c) (ret_cell (g := w.heap.size) rfl _ _ c rfl (setR_blk c K9.out.r)) rfl ⟨?_, setR_below c K9.out.b (Nat.le_refl _)⟩
        rw [← HC.out, endR_good hb' he hm]
        rfl
    · have hne : ¬ (t5.1.toList = []) := fun h => he (by rw [← str_of t5.1, ← str_toList, h]; rfl)
      have r0 : W5.cell? ⟨w.heap.size, 0, none⟩ = some (.int .i8 0) := by rw [KC.out.r.cell 0]; rfl
      have r1 : W5.cell? ⟨w.heap.size, 1, none⟩ = some (.int .i64 0) := by rw [KC.out.r.cell 1]; rfl
      have r2 : W5.cell? ⟨w.heap.size, 2, none⟩ = some (.int .i64 0) := by rw [KC.out.r.cell 2]; rfl
      have r3 : W5.cell? ⟨w.heap.size, 3, none⟩ = some (.int .i64 0) := by rw [KC.out.r.cell 3]; rfl
      have r4 : W5.cell? ⟨w.heap.size, 4, none⟩ = some (.int .i64 0) := by rw [KC.out.r.cell 4]; rfl
      have r5 : W5.cell? ⟨w.heap.size, 5, none⟩ = some (.int .i64 0) := by rw [KC.out.r.cell 5]; rfl
      have r6 : W5.cell? ⟨w.heap.size, 6, none⟩ = some (.int .i64 0) := by rw [KC.out.r.cell 6]; rfl
      have r7 : W5.cell? ⟨w.heap.size, 7, none⟩ = some (.int .i8 0) := by rw [KC.out.r.cell 7]; rfl
      have f0 := KC.out.r.frozen 0
      have f1 := KC.out.r.frozen 1
      have f2 := KC.out.r.frozen 2
      have f3 := KC.out.r.frozen 3
      have f4 := KC.out.r.frozen 4
      have f5 := KC.out.r.frozen 5
      have f6 := KC.out.r.frozen 6
      have f7 := KC.out.r.frozen 7
      go_wp2_with fail
      try simp only [Exit.inBlock, Exit.then]
      refine bodyPost_ret (w := setR W5 w.heap.size cZ) (ret_cell (g := w.heap.size) rfl _ _ cZ rfl (setR_blk cZ KC.out.r)) rfl ⟨?_, setR_below cZ KC.out.b (Nat.le_refl _)⟩
      rw [← HC.out, endR_more he]
      rfl

set_option maxHeartbeats 1000000 in
theorem rd_4 (s : ByteArray) (w : World) (v2 v3 v4 v5 : Int) (t1 t2 t3 t4 t5 : ByteArray × Bool)
    (C1 : TakeTo (w.heap.size + 1) 1 (s, false) 4 t1) (C2 : TakeTo (w.heap.size + 1) 6 t1 v2 t2) (C3 : TakeTo (w.heap.size + 1) 4 t2 v3 t3) (C4 : TakeTo (w.heap.size + 1) 6 t3 v4 t4) (C5 : TakeTo (w.heap.size + 1) 6 t4 v5 t5) :
    Calls Try.prog 22 #[.string s] w fun e w' => e = .returned (.tuple #[.agg (cC (endR t5 ⟨4, v2, v3, v4, v5, 0, 0, 0⟩).1), .int .i64 (endR t5 ⟨4, v2, v3, v4, v5, 0, 0, 0⟩).2]) ∧ Below w.heap.size w w' := by
  have kp := Rp.start w s
  obtain ⟨W0, hW0⟩ : ∃ W0, W0 = ((w.alloc (Obj.cells (cC cZ) 42)).alloc (Obj.cells #[Value.string s, Value.bool false] 57)) := ⟨_, rfl⟩
  rw [← hW0] at kp
  have KP := Lib.hid kp; have HW0 : Hid (W0 = ((w.alloc (Obj.cells #[Value.int IntKind.i8 0, Value.int IntKind.i64 0, Value.int IntKind.i64 0, Value.int IntKind.i64 0, Value.int IntKind.i64 0, Value.int IntKind.i64 0, Value.int IntKind.i64 0, Value.int IntKind.i8 0] 42)).alloc (Obj.cells #[Value.string s, Value.bool false] 57))) := Lib.hid hW0
  clear kp hW0
  go_enter Try.func22, Try.ntmps22
  go_wp2_with fail
  rw [← HW0.out]
  refine (C1 W0 KP.out.g).mono ?_
  rintro e w1 ⟨rfl, kg, kw⟩
  have KP1 := Lib.hid (KP.out.take kg kw)
  clear kg kw HW0 KP
  go_wp2_with fail
  refine (C2 w1 KP1.out.g).mono ?_
  rintro e w2 ⟨rfl, kg, kw⟩
  have KP2 := Lib.hid (KP1.out.take kg kw)
  clear kg kw KP1
  go_wp2_with fail
  refine (C3 w2 KP2.out.g).mono ?_
  rintro e w3 ⟨rfl, kg, kw⟩
  have KP3 := Lib.hid (KP2.out.take kg kw)
  clear kg kw KP2
  have ks := KP3.out.to #[.int .i8 4, .int .i64 v2, .int .i64 v3, .int .i64 0, .int .i64 0, .int .i64 0, .int .i64 0, .int .i8 0]
  obtain ⟨P, hP⟩ : ∃ P, P = w3.heap.size := ⟨_, rfl⟩
  obtain ⟨W3, hW3⟩ : ∃ W, W = (w3.alloc (Obj.cells #[.int .i8 4, .int .i64 v2, .int .i64 v3, .int .i64 0, .int .i64 0, .int .i64 0, .int .i64 0, .int .i8 0] 42)) := ⟨_, rfl⟩
  rw [← hW3, ← hP] at ks
  have KS := Lib.hid ks; have HP := Lib.hid hP; have HW3 := Lib.hid hW3
  clear ks hP hW3
  go_wp2_with fail
  rw [← HW3.out, ← HP.out]
  refine (C4 W3 KS.out.g).mono ?_
  rintro e w4 ⟨rfl, kg, kw⟩
  have KS4 := Lib.hid (KS.out.take kg kw)
  clear kg kw KS KP3 HW3 HP
  have g3 := KS4.out.p.frozen 3
  have c3 : w4.cell? ⟨P, 3, none⟩ = some (.int .i64 0) := by rw [KS4.out.p.cell 3]; rfl
  have c0 : w4.cell? ⟨P, 0, none⟩ = some (.int .i8 4) := by rw [KS4.out.p.cell 0]; rfl
  have ks := (KS4.out.set_ 3 (.int .i64 v4))
  obtain ⟨W4, hW⟩ : ∃ W, W = (w4.setCell ⟨P, 3, none⟩ (.int .i64 v4)) := ⟨_, rfl⟩
  have ks' : Rs w W4 P t4 #[.int .i8 4, .int .i64 v2, .int .i64 v3, .int .i64 v4, .int .i64 0, .int .i64 0, .int .i64 0, .int .i8 0] := by rw [hW]; exact ks
  have KW4 := Lib.hid ks'; have HW := Lib.hid hW
  clear ks ks' hW
  go_wp2_with fail
  rw [← HW.out]
  clear KS4 g3 c3 c0
  refine (C5 W4 KW4.out.g).mono ?_
  rintro e w5 ⟨rfl, kg, kw⟩
  have KS5 := Lib.hid (KW4.out.take kg kw)
  clear kg kw KW4 HW
  have g4 := KS5.out.p.frozen 4
  have c4 : w5.cell? ⟨P, 4, none⟩ = some (.int .i64 0) := by rw [KS5.out.p.cell 4]; rfl
  have ks := (KS5.out.set_ 4 (.int .i64 v5))
  obtain ⟨W5, hW⟩ : ∃ W, W = (w5.setCell ⟨P, 4, none⟩ (.int .i64 v5)) := ⟨_, rfl⟩
  have ks' : Rs w W5 P t5 #[.int .i8 4, .int .i64 v2, .int .i64 v3, .int .i64 v4, .int .i64 v5, .int .i64 0, .int .i64 0, .int .i8 0] := by rw [hW]; exact ks
  have KW5 := Lib.hid ks'; have HW := Lib.hid hW
  clear ks ks' hW
  go_upto_region 15 with fail
  rw [← HW.out]
  clear HW KS5 g4 c4
  clear C1 C2 C3 C4 C5
  obtain ⟨c, hc⟩ : ∃ c : Cm, c = ⟨4, v2, v3, v4, v5, 0, 0, 0⟩ := ⟨_, rfl⟩
  have KC : Hid (Rs w W5 P t5 (cC c)) := Lib.hid (by rw [hc]; exact KW5.out)
  have cb : W5.cell? ⟨w.heap.size + 1, 1, none⟩ = some (.bool t5.2) := by rw [KC.out.g.cell 1]; rfl
  have cs : W5.cell? ⟨w.heap.size + 1, 0, none⟩ = some (.string t5.1) := by rw [KC.out.g.cell 0]; rfl
  have HC := Lib.hid hc
  clear KW5 hc
  by_cases hb : t5.2 = true
  · rw [hb] at cb
    have r0 : W5.cell? ⟨w.heap.size, 0, none⟩ = some (.int .i8 0) := by rw [KC.out.r.cell 0]; rfl
    have r1 : W5.cell? ⟨w.heap.size, 1, none⟩ = some (.int .i64 0) := by rw [KC.out.r.cell 1]; rfl
    have r2 : W5.cell? ⟨w.heap.size, 2, none⟩ = some (.int .i64 0) := by rw [KC.out.r.cell 2]; rfl
    have r3 : W5.cell? ⟨w.heap.size, 3, none⟩ = some (.int .i64 0) := by rw [KC.out.r.cell 3]; rfl
    have r4 : W5.cell? ⟨w.heap.size, 4, none⟩ = some (.int .i64 0) := by rw [KC.out.r.cell 4]; rfl
    have r5 : W5.cell? ⟨w.heap.size, 5, none⟩ = some (.int .i64 0) := by rw [KC.out.r.cell 5]; rfl
    have r6 : W5.cell? ⟨w.heap.size, 6, none⟩ = some (.int .i64 0) := by rw [KC.out.r.cell 6]; rfl
    have r7 : W5.cell? ⟨w.heap.size, 7, none⟩ = some (.int .i8 0) := by rw [KC.out.r.cell 7]; rfl
    have f0 := KC.out.r.frozen 0
    have f1 := KC.out.r.frozen 1
    have f2 := KC.out.r.frozen 2
    have f3 := KC.out.r.frozen 3
    have f4 := KC.out.r.frozen 4
    have f5 := KC.out.r.frozen 5
    have f6 := KC.out.r.frozen 6
    have f7 := KC.out.r.frozen 7
    go_wp2_with fail
    try simp only [Exit.inBlock, Exit.then]
    refine bodyPost_ret (w := setR W5 w.heap.size cZ) (ret_cell (g := w.heap.size) rfl _ _ cZ rfl (setR_blk cZ KC.out.r)) rfl ⟨?_, setR_below cZ KC.out.b (Nat.le_refl _)⟩
    rw [← HC.out, endR_bad hb]
    rfl
  · have hb' : t5.2 = false := by simpa using hb
    clear hb
    rw [hb'] at cb
    by_cases he : t5.1 = ⟨#[]⟩
    · rw [he] at cs
      have hmc := mayc_any c W5
      cases hm : mayC c with
      | false =>
        rw [hm] at hmc
        have HM := Lib.hid hmc; clear hmc
        have p0 : W5.cell? ⟨P, 0, none⟩ = some (.int .i8 c.kind) := by rw [KC.out.p.cell 0]; rfl
        have p1 : W5.cell? ⟨P, 1, none⟩ = some (.int .i64 c.node) := by rw [KC.out.p.cell 1]; rfl
        have p2 : W5.cell? ⟨P, 2, none⟩ = some (.int .i64 c.serial) := by rw [KC.out.p.cell 2]; rfl
        have p3 : W5.cell? ⟨P, 3, none⟩ = some (.int .i64 c.dead) := by rw [KC.out.p.cell 3]; rfl
        have p4 : W5.cell? ⟨P, 4, none⟩ = some (.int .i64 c.was) := by rw [KC.out.p.cell 4]; rfl
        have p5 : W5.cell? ⟨P, 5, none⟩ = some (.int .i64 c.lo) := by rw [KC.out.p.cell 5]; rfl
        have p6 : W5.cell? ⟨P, 6, none⟩ = some (.int .i64 c.hi) := by rw [KC.out.p.cell 6]; rfl
        have p7 : W5.cell? ⟨P, 7, none⟩ = some (.int .i8 c.mode) := by rw [KC.out.p.cell 7]; rfl
        go_wp2_with fail
        refine HM.out.mono ?_
        rintro e W9 ⟨rfl, hb9⟩
        have K9 := Lib.hid (KC.out.below hb9)
        clear hb9 KC
        have r0 : W9.cell? ⟨w.heap.size, 0, none⟩ = some (.int .i8 0) := by rw [K9.out.r.cell 0]; rfl
        have r1 : W9.cell? ⟨w.heap.size, 1, none⟩ = some (.int .i64 0) := by rw [K9.out.r.cell 1]; rfl
        have r2 : W9.cell? ⟨w.heap.size, 2, none⟩ = some (.int .i64 0) := by rw [K9.out.r.cell 2]; rfl
        have r3 : W9.cell? ⟨w.heap.size, 3, none⟩ = some (.int .i64 0) := by rw [K9.out.r.cell 3]; rfl
        have r4 : W9.cell? ⟨w.heap.size, 4, none⟩ = some (.int .i64 0) := by rw [K9.out.r.cell 4]; rfl
        have r5 : W9.cell? ⟨w.heap.size, 5, none⟩ = some (.int .i64 0) := by rw [K9.out.r.cell 5]; rfl
        have r6 : W9.cell? ⟨w.heap.size, 6, none⟩ = some (.int .i64 0) := by rw [K9.out.r.cell 6]; rfl
        have r7 : W9.cell? ⟨w.heap.size, 7, none⟩ = some (.int .i8 0) := by rw [K9.out.r.cell 7]; rfl
        have f0 := K9.out.r.frozen 0
        have f1 := K9.out.r.frozen 1
        have f2 := K9.out.r.frozen 2
        have f3 := K9.out.r.frozen 3
        have f4 := K9.out.r.frozen 4
        have f5 := K9.out.r.frozen 5
        have f6 := K9.out.r.frozen 6
        have f7 := K9.out.r.frozen 7
        go_wp2_with fail
        try simp only [Exit.inBlock, Exit.then]
        refine bodyPost_ret (w := setR W9 w.heap.size cZ) (ret_cell (g := w.heap.size) rfl _ _ cZ rfl (setR_blk cZ K9.out.r)) rfl ⟨?_, setR_below cZ K9.out.b (Nat.le_refl _)⟩
        rw [← HC.out, endR_no hm]
        rfl
      | true =>
        rw [hm] at hmc
        have HM := Lib.hid hmc; clear hmc
        have p0 : W5.cell? ⟨P, 0, none⟩ = some (.int .i8 c.kind) := by rw [KC.out.p.cell 0]; rfl
        have p1 : W5.cell? ⟨P, 1, none⟩ = some (.int .i64 c.node) := by rw [KC.out.p.cell 1]; rfl
        have p2 : W5.cell? ⟨P, 2, none⟩ = some (.int .i64 c.serial) := by rw [KC.out.p.cell 2]; rfl
        have p3 : W5.cell? ⟨P, 3, none⟩ = some (.int .i64 c.dead) := by rw [KC.out.p.cell 3]; rfl
        have p4 : W5.cell? ⟨P, 4, none⟩ = some (.int .i64 c.was) := by rw [KC.out.p.cell 4]; rfl
        have p5 : W5.cell? ⟨P, 5, none⟩ = some (.int .i64 c.lo) := by rw [KC.out.p.cell 5]; rfl
        have p6 : W5.cell? ⟨P, 6, none⟩ = some (.int .i64 c.hi) := by rw [KC.out.p.cell 6]; rfl
        have p7 : W5.cell? ⟨P, 7, none⟩ = some (.int .i8 c.mode) := by rw [KC.out.p.cell 7]; rfl
        go_wp2_with fail
        refine HM.out.mono ?_
        rintro e W9 ⟨rfl, hb9⟩
        have K9 := Lib.hid (KC.out.below hb9)
        clear hb9 KC
        have r0 : W9.cell? ⟨w.heap.size, 0, none⟩ = some (.int .i8 0) := by rw [K9.out.r.cell 0]; rfl
        have r1 : W9.cell? ⟨w.heap.size, 1, none⟩ = some (.int .i64 0) := by rw [K9.out.r.cell 1]; rfl
        have r2 : W9.cell? ⟨w.heap.size, 2, none⟩ = some (.int .i64 0) := by rw [K9.out.r.cell 2]; rfl
        have r3 : W9.cell? ⟨w.heap.size, 3, none⟩ = some (.int .i64 0) := by rw [K9.out.r.cell 3]; rfl
        have r4 : W9.cell? ⟨w.heap.size, 4, none⟩ = some (.int .i64 0) := by rw [K9.out.r.cell 4]; rfl
        have r5 : W9.cell? ⟨w.heap.size, 5, none⟩ = some (.int .i64 0) := by rw [K9.out.r.cell 5]; rfl
        have r6 : W9.cell? ⟨w.heap.size, 6, none⟩ = some (.int .i64 0) := by rw [K9.out.r.cell 6]; rfl
        have r7 : W9.cell? ⟨w.heap.size, 7, none⟩ = some (.int .i8 0) := by rw [K9.out.r.cell 7]; rfl
        have f0 := K9.out.r.frozen 0
        have f1 := K9.out.r.frozen 1
        have f2 := K9.out.r.frozen 2
        have f3 := K9.out.r.frozen 3
        have f4 := K9.out.r.frozen 4
        have f5 := K9.out.r.frozen 5
        have f6 := K9.out.r.frozen 6
        have f7 := K9.out.r.frozen 7
        have p09 : W9.cell? ⟨P, 0, none⟩ = some (.int .i8 c.kind) := by rw [K9.out.p.cell 0]; rfl
        have p19 : W9.cell? ⟨P, 1, none⟩ = some (.int .i64 c.node) := by rw [K9.out.p.cell 1]; rfl
        have p29 : W9.cell? ⟨P, 2, none⟩ = some (.int .i64 c.serial) := by rw [K9.out.p.cell 2]; rfl
        have p39 : W9.cell? ⟨P, 3, none⟩ = some (.int .i64 c.dead) := by rw [K9.out.p.cell 3]; rfl
        have p49 : W9.cell? ⟨P, 4, none⟩ = some (.int .i64 c.was) := by rw [K9.out.p.cell 4]; rfl
        have p59 : W9.cell? ⟨P, 5, none⟩ = some (.int .i64 c.lo) := by rw [K9.out.p.cell 5]; rfl
        have p69 : W9.cell? ⟨P, 6, none⟩ = some (.int .i64 c.hi) := by rw [K9.out.p.cell 6]; rfl
        have p79 : W9.cell? ⟨P, 7, none⟩ = some (.int .i8 c.mode) := by rw [K9.out.p.cell 7]; rfl
        go_wp2_with fail
        try simp only [Exit.inBlock, Exit.then]
        refine bodyPost_ret (w := setR W9 w.heap.size c) (ret_cell (g := w.heap.size) rfl _ _ c rfl (setR_blk c K9.out.r)) rfl ⟨?_, setR_below c K9.out.b (Nat.le_refl _)⟩
        rw [← HC.out, endR_good hb' he hm]
        rfl
    · have hne : ¬ (t5.1.toList = []) := fun h => he (by rw [← str_of t5.1, ← str_toList, h]; rfl)
      have r0 : W5.cell? ⟨w.heap.size, 0, none⟩ = some (.int .i8 0) := by rw [KC.out.r.cell 0]; rfl
      have r1 : W5.cell? ⟨w.heap.size, 1, none⟩ = some (.int .i64 0) := by rw [KC.out.r.cell 1]; rfl
      have r2 : W5.cell? ⟨w.heap.size, 2, none⟩ = some (.int .i64 0) := by rw [KC.out.r.cell 2]; rfl
      have r3 : W5.cell? ⟨w.heap.size, 3, none⟩ = some (.int .i64 0) := by rw [KC.out.r.cell 3]; rfl
      have r4 : W5.cell? ⟨w.heap.size, 4, none⟩ = some (.int .i64 0) := by rw [KC.out.r.cell 4]; rfl
      have r5 : W5.cell? ⟨w.heap.size, 5, none⟩ = some (.int .i64 0) := by rw [KC.out.r.cell 5]; rfl
      have r6 : W5.cell? ⟨w.heap.size, 6, none⟩ = some (.int .i64 0) := by rw [KC.out.r.cell 6]; rfl
      have r7 : W5.cell? ⟨w.heap.size, 7, none⟩ = some (.int .i8 0) := by rw [KC.out.r.cell 7]; rfl
      have f0 := KC.out.r.frozen 0
      have f1 := KC.out.r.frozen 1
      have f2 := KC.out.r.frozen 2
      have f3 := KC.out.r.frozen 3
      have f4 := KC.out.r.frozen 4
      have f5 := KC.out.r.frozen 5
      have f6 := KC.out.r.frozen 6
      have f7 := KC.out.r.frozen 7
      go_wp2_with fail
      try simp only [Exit.inBlock, Exit.then]
      refine bodyPost_ret (w := setR W5 w.heap.size cZ) (ret_cell (g := w.heap.size) rfl _ _ cZ rfl (setR_blk cZ KC.out.r)) rfl ⟨?_, setR_below cZ KC.out.b (Nat.le_refl _)⟩
      rw [← HC.out, endR_more he]
      rfl

set_option maxHeartbeats 1000000 in
theorem rd_5 (s : ByteArray) (w : World) (v2 v3 v4 : Int) (t1 t2 t3 t4 : ByteArray × Bool)
    (C1 : TakeTo (w.heap.size + 1) 1 (s, false) 5 t1) (C2 : TakeTo (w.heap.size + 1) 6 t1 v2 t2) (C3 : TakeTo (w.heap.size + 1) 4 t2 v3 t3) (C4 : TakeTo (w.heap.size + 1) 6 t3 v4 t4) :
    Calls Try.prog 22 #[.string s] w fun e w' => e = .returned (.tuple #[.agg (cC (endR t4 ⟨5, v2, v3, v4, 0, 0, 0, 0⟩).1), .int .i64 (endR t4 ⟨5, v2, v3, v4, 0, 0, 0, 0⟩).2]) ∧ Below w.heap.size w w' := by
  have kp := Rp.start w s
  obtain ⟨W0, hW0⟩ : ∃ W0, W0 = ((w.alloc (Obj.cells (cC cZ) 42)).alloc (Obj.cells #[Value.string s, Value.bool false] 57)) := ⟨_, rfl⟩
  rw [← hW0] at kp
  have KP := Lib.hid kp; have HW0 : Hid (W0 = ((w.alloc (Obj.cells #[Value.int IntKind.i8 0, Value.int IntKind.i64 0, Value.int IntKind.i64 0, Value.int IntKind.i64 0, Value.int IntKind.i64 0, Value.int IntKind.i64 0, Value.int IntKind.i64 0, Value.int IntKind.i8 0] 42)).alloc (Obj.cells #[Value.string s, Value.bool false] 57))) := Lib.hid hW0
  clear kp hW0
  go_enter Try.func22, Try.ntmps22
  go_wp2_with fail
  rw [← HW0.out]
  refine (C1 W0 KP.out.g).mono ?_
  rintro e w1 ⟨rfl, kg, kw⟩
  have KP1 := Lib.hid (KP.out.take kg kw)
  clear kg kw HW0 KP
  go_wp2_with fail
  refine (C2 w1 KP1.out.g).mono ?_
  rintro e w2 ⟨rfl, kg, kw⟩
  have KP2 := Lib.hid (KP1.out.take kg kw)
  clear kg kw KP1
  go_wp2_with fail
  refine (C3 w2 KP2.out.g).mono ?_
  rintro e w3 ⟨rfl, kg, kw⟩
  have KP3 := Lib.hid (KP2.out.take kg kw)
  clear kg kw KP2
  have ks := KP3.out.to #[.int .i8 5, .int .i64 v2, .int .i64 v3, .int .i64 0, .int .i64 0, .int .i64 0, .int .i64 0, .int .i8 0]
  obtain ⟨P, hP⟩ : ∃ P, P = w3.heap.size := ⟨_, rfl⟩
  obtain ⟨W3, hW3⟩ : ∃ W, W = (w3.alloc (Obj.cells #[.int .i8 5, .int .i64 v2, .int .i64 v3, .int .i64 0, .int .i64 0, .int .i64 0, .int .i64 0, .int .i8 0] 42)) := ⟨_, rfl⟩
  rw [← hW3, ← hP] at ks
  have KS := Lib.hid ks; have HP := Lib.hid hP; have HW3 := Lib.hid hW3
  clear ks hP hW3
  go_wp2_with fail
  rw [← HW3.out, ← HP.out]
  refine (C4 W3 KS.out.g).mono ?_
  rintro e w4 ⟨rfl, kg, kw⟩
  have KS4 := Lib.hid (KS.out.take kg kw)
  clear kg kw KS KP3 HW3 HP
  have g3 := KS4.out.p.frozen 3
  have c3 : w4.cell? ⟨P, 3, none⟩ = some (.int .i64 0) := by rw [KS4.out.p.cell 3]; rfl
  have ks := (KS4.out.set_ 3 (.int .i64 v4))
  obtain ⟨W4, hW⟩ : ∃ W, W = (w4.setCell ⟨P, 3, none⟩ (.int .i64 v4)) := ⟨_, rfl⟩
  have ks' : Rs w W4 P t4 #[.int .i8 5, .int .i64 v2, .int .i64 v3, .int .i64 v4, .int .i64 0, .int .i64 0, .int .i64 0, .int .i8 0] := by rw [hW]; exact ks
  have KW4 := Lib.hid ks'; have HW := Lib.hid hW
  clear ks ks' hW
  have c0 : w4.cell? ⟨P, 0, none⟩ = some (.int .i8 5) := by rw [KS4.out.p.cell 0]; rfl
  go_upto_region 15 with fail
  rw [← HW.out]
  clear HW KS4 g3 c3 c0
  clear C1 C2 C3 C4
  obtain ⟨c, hc⟩ : ∃ c : Cm, c = ⟨5, v2, v3, v4, 0, 0, 0, 0⟩ := ⟨_, rfl⟩
  have KC : Hid (Rs w W4 P t4 (cC c)) := Lib.hid (by rw [hc]; exact KW4.out)
  have cb : W4.cell? ⟨w.heap.size + 1, 1, none⟩ = some (.bool t4.2) := by rw [KC.out.g.cell 1]; rfl
  have cs : W4.cell? ⟨w.heap.size + 1, 0, none⟩ = some (.string t4.1) := by rw [KC.out.g.cell 0]; rfl
  have HC := Lib.hid hc
  clear KW4 hc
  by_cases hb : t4.2 = true
  · rw [hb] at cb
    have r0 : W4.cell? ⟨w.heap.size, 0, none⟩ = some (.int .i8 0) := by rw [KC.out.r.cell 0]; rfl
    have r1 : W4.cell? ⟨w.heap.size, 1, none⟩ = some (.int .i64 0) := by rw [KC.out.r.cell 1]; rfl
    have r2 : W4.cell? ⟨w.heap.size, 2, none⟩ = some (.int .i64 0) := by rw [KC.out.r.cell 2]; rfl
    have r3 : W4.cell? ⟨w.heap.size, 3, none⟩ = some (.int .i64 0) := by rw [KC.out.r.cell 3]; rfl
    have r4 : W4.cell? ⟨w.heap.size, 4, none⟩ = some (.int .i64 0) := by rw [KC.out.r.cell 4]; rfl
    have r5 : W4.cell? ⟨w.heap.size, 5, none⟩ = some (.int .i64 0) := by rw [KC.out.r.cell 5]; rfl
    have r6 : W4.cell? ⟨w.heap.size, 6, none⟩ = some (.int .i64 0) := by rw [KC.out.r.cell 6]; rfl
    have r7 : W4.cell? ⟨w.heap.size, 7, none⟩ = some (.int .i8 0) := by rw [KC.out.r.cell 7]; rfl
    have f0 := KC.out.r.frozen 0
    have f1 := KC.out.r.frozen 1
    have f2 := KC.out.r.frozen 2
    have f3 := KC.out.r.frozen 3
    have f4 := KC.out.r.frozen 4
    have f5 := KC.out.r.frozen 5
    have f6 := KC.out.r.frozen 6
    have f7 := KC.out.r.frozen 7
    go_wp2_with fail
    try simp only [Exit.inBlock, Exit.then]
    refine bodyPost_ret (w := setR W4 w.heap.size cZ) (ret_cell (g := w.heap.size) rfl _ _ cZ rfl (setR_blk cZ KC.out.r)) rfl ⟨?_, setR_below cZ KC.out.b (Nat.le_refl _)⟩
    rw [← HC.out, endR_bad hb]
    rfl
  · have hb' : t4.2 = false := by simpa using hb
    clear hb
    rw [hb'] at cb
    by_cases he : t4.1 = ⟨#[]⟩
    · rw [he] at cs
      have hmc := mayc_any c W4
      cases hm : mayC c with
      | false =>
        rw [hm] at hmc
        have HM := Lib.hid hmc; clear hmc
        have p0 : W4.cell? ⟨P, 0, none⟩ = some (.int .i8 c.kind) := by rw [KC.out.p.cell 0]; rfl
        have p1 : W4.cell? ⟨P, 1, none⟩ = some (.int .i64 c.node) := by rw [KC.out.p.cell 1]; rfl
        have p2 : W4.cell? ⟨P, 2, none⟩ = some (.int .i64 c.serial) := by rw [KC.out.p.cell 2]; rfl
        have p3 : W4.cell? ⟨P, 3, none⟩ = some (.int .i64 c.dead) := by rw [KC.out.p.cell 3]; rfl
        have p4 : W4.cell? ⟨P, 4, none⟩ = some (.int .i64 c.was) := by rw [KC.out.p.cell 4]; rfl
        have p5 : W4.cell? ⟨P, 5, none⟩ = some (.int .i64 c.lo) := by rw [KC.out.p.cell 5]; rfl
        have p6 : W4.cell? ⟨P, 6, none⟩ = some (.int .i64 c.hi) := by rw [KC.out.p.cell 6]; rfl
        have p7 : W4.cell? ⟨P, 7, none⟩ = some (.int .i8 c.mode) := by rw [KC.out.p.cell 7]; rfl
        go_wp2_with fail
        refine HM.out.mono ?_
        rintro e W9 ⟨rfl, hb9⟩
        have K9 := Lib.hid (KC.out.below hb9)
        clear hb9 KC
        have r0 : W9.cell? ⟨w.heap.size, 0, none⟩ = some (.int .i8 0) := by rw [K9.out.r.cell 0]; rfl
        have r1 : W9.cell? ⟨w.heap.size, 1, none⟩ = some (.int .i64 0) := by rw [K9.out.r.cell 1]; rfl
        have r2 : W9.cell? ⟨w.heap.size, 2, none⟩ = some (.int .i64 0) := by rw [K9.out.r.cell 2]; rfl
        have r3 : W9.cell? ⟨w.heap.size, 3, none⟩ = some (.int .i64 0) := by rw [K9.out.r.cell 3]; rfl
        have r4 : W9.cell? ⟨w.heap.size, 4, none⟩ = some (.int .i64 0) := by rw [K9.out.r.cell 4]; rfl
        have r5 : W9.cell? ⟨w.heap.size, 5, none⟩ = some (.int .i64 0) := by rw [K9.out.r.cell 5]; rfl
        have r6 : W9.cell? ⟨w.heap.size, 6, none⟩ = some (.int .i64 0) := by rw [K9.out.r.cell 6]; rfl
        have r7 : W9.cell? ⟨w.heap.size, 7, none⟩ = some (.int .i8 0) := by rw [K9.out.r.cell 7]; rfl
        have f0 := K9.out.r.frozen 0
        have f1 := K9.out.r.frozen 1
        have f2 := K9.out.r.frozen 2
        have f3 := K9.out.r.frozen 3
        have f4 := K9.out.r.frozen 4
        have f5 := K9.out.r.frozen 5
        have f6 := K9.out.r.frozen 6
        have f7 := K9.out.r.frozen 7
        go_wp2_with fail
        try simp only [Exit.inBlock, Exit.then]
        refine bodyPost_ret (w := setR W9 w.heap.size cZ) (ret_cell (g := w.heap.size) rfl _ _ cZ rfl (setR_blk cZ K9.out.r)) rfl ⟨?_, setR_below cZ K9.out.b (Nat.le_refl _)⟩
        rw [← HC.out, endR_no hm]
        rfl
      | true =>
        rw [hm] at hmc
        have HM := Lib.hid hmc; clear hmc
        have p0 : W4.cell? ⟨P, 0, none⟩ = some (.int .i8 c.kind) := by rw [KC.out.p.cell 0]; rfl
        have p1 : W4.cell? ⟨P, 1, none⟩ = some (.int .i64 c.node) := by rw [KC.out.p.cell 1]; rfl
        have p2 : W4.cell? ⟨P, 2, none⟩ = some (.int .i64 c.serial) := by rw [KC.out.p.cell 2]; rfl
        have p3 : W4.cell? ⟨P, 3, none⟩ = some (.int .i64 c.dead) := by rw [KC.out.p.cell 3]; rfl
        have p4 : W4.cell? ⟨P, 4, none⟩ = some (.int .i64 c.was) := by rw [KC.out.p.cell 4]; rfl
        have p5 : W4.cell? ⟨P, 5, none⟩ = some (.int .i64 c.lo) := by rw [KC.out.p.cell 5]; rfl
        have p6 : W4.cell? ⟨P, 6, none⟩ = some (.int .i64 c.hi) := by rw [KC.out.p.cell 6]; rfl
        have p7 : W4.cell? ⟨P, 7, none⟩ = some (.int .i8 c.mode) := by rw [KC.out.p.cell 7]; rfl
        go_wp2_with fail
        refine HM.out.mono ?_
        rintro e W9 ⟨rfl, hb9⟩
        have K9 := Lib.hid (KC.out.below hb9)
        clear hb9 KC
        have r0 : W9.cell? ⟨w.heap.size, 0, none⟩ = some (.int .i8 0) := by rw [K9.out.r.cell 0]; rfl
        have r1 : W9.cell? ⟨w.heap.size, 1, none⟩ = some (.int .i64 0) := by rw [K9.out.r.cell 1]; rfl
        have r2 : W9.cell? ⟨w.heap.size, 2, none⟩ = some (.int .i64 0) := by rw [K9.out.r.cell 2]; rfl
        have r3 : W9.cell? ⟨w.heap.size, 3, none⟩ = some (.int .i64 0) := by rw [K9.out.r.cell 3]; rfl
        have r4 : W9.cell? ⟨w.heap.size, 4, none⟩ = some (.int .i64 0) := by rw [K9.out.r.cell 4]; rfl
        have r5 : W9.cell? ⟨w.heap.size, 5, none⟩ = some (.int .i64 0) := by rw [K9.out.r.cell 5]; rfl
        have r6 : W9.cell? ⟨w.heap.size, 6, none⟩ = some (.int .i64 0) := by rw [K9.out.r.cell 6]; rfl
        have r7 : W9.cell? ⟨w.heap.size, 7, none⟩ = some (.int .i8 0) := by rw [K9.out.r.cell 7]; rfl
        have f0 := K9.out.r.frozen 0
        have f1 := K9.out.r.frozen 1
        have f2 := K9.out.r.frozen 2
        have f3 := K9.out.r.frozen 3
        have f4 := K9.out.r.frozen 4
        have f5 := K9.out.r.frozen 5
        have f6 := K9.out.r.frozen 6
        have f7 := K9.out.r.frozen 7
        have p09 : W9.cell? ⟨P, 0, none⟩ = some (.int .i8 c.kind) := by rw [K9.out.p.cell 0]; rfl
        have p19 : W9.cell? ⟨P, 1, none⟩ = some (.int .i64 c.node) := by rw [K9.out.p.cell 1]; rfl
        have p29 : W9.cell? ⟨P, 2, none⟩ = some (.int .i64 c.serial) := by rw [K9.out.p.cell 2]; rfl
        have p39 : W9.cell? ⟨P, 3, none⟩ = some (.int .i64 c.dead) := by rw [K9.out.p.cell 3]; rfl
        have p49 : W9.cell? ⟨P, 4, none⟩ = some (.int .i64 c.was) := by rw [K9.out.p.cell 4]; rfl
        have p59 : W9.cell? ⟨P, 5, none⟩ = some (.int .i64 c.lo) := by rw [K9.out.p.cell 5]; rfl
        have p69 : W9.cell? ⟨P, 6, none⟩ = some (.int .i64 c.hi) := by rw [K9.out.p.cell 6]; rfl
        have p79 : W9.cell? ⟨P, 7, none⟩ = some (.int .i8 c.mode) := by rw [K9.out.p.cell 7]; rfl
        go_wp2_with fail
        try simp only [Exit.inBlock, Exit.then]
        refine bodyPost_ret (w := setR W9 w.heap.size c) (ret_cell (g := w.heap.size) rfl _ _ c rfl (setR_blk c K9.out.r)) rfl ⟨?_, setR_below c K9.out.b (Nat.le_refl _)⟩
        rw [← HC.out, endR_good hb' he hm]
        rfl
    · have hne : ¬ (t4.1.toList = []) := fun h => he (by rw [← str_of t4.1, ← str_toList, h]; rfl)
      have r0 : W4.cell? ⟨w.heap.size, 0, none⟩ = some (.int .i8 0) := by rw [KC.out.r.cell 0]; rfl
      have r1 : W4.cell? ⟨w.heap.size, 1, none⟩ = some (.int .i64 0) := by rw [KC.out.r.cell 1]; rfl
      have r2 : W4.cell? ⟨w.heap.size, 2, none⟩ = some (.int .i64 0) := by rw [KC.out.r.cell 2]; rfl
      have r3 : W4.cell? ⟨w.heap.size, 3, none⟩ = some (.int .i64 0) := by rw [KC.out.r.cell 3]; rfl
      have r4 : W4.cell? ⟨w.heap.size, 4, none⟩ = some (.int .i64 0) := by rw [KC.out.r.cell 4]; rfl
      have r5 : W4.cell? ⟨w.heap.size, 5, none⟩ = some (.int .i64 0) := by rw [KC.out.r.cell 5]; rfl
      have r6 : W4.cell? ⟨w.heap.size, 6, none⟩ = some (.int .i64 0) := by rw [KC.out.r.cell 6]; rfl
      have r7 : W4.cell? ⟨w.heap.size, 7, none⟩ = some (.int .i8 0) := by rw [KC.out.r.cell 7]; rfl
      have f0 := KC.out.r.frozen 0
      have f1 := KC.out.r.frozen 1
      have f2 := KC.out.r.frozen 2
      have f3 := KC.out.r.frozen 3
      have f4 := KC.out.r.frozen 4
      have f5 := KC.out.r.frozen 5
      have f6 := KC.out.r.frozen 6
      have f7 := KC.out.r.frozen 7
      go_wp2_with fail
      try simp only [Exit.inBlock, Exit.then]
      refine bodyPost_ret (w := setR W4 w.heap.size cZ) (ret_cell (g := w.heap.size) rfl _ _ cZ rfl (setR_blk cZ KC.out.r)) rfl ⟨?_, setR_below cZ KC.out.b (Nat.le_refl _)⟩
      rw [← HC.out, endR_more he]
      rfl

set_option maxHeartbeats 1000000 in
theorem rd_n (s : ByteArray) (w : World) (v1 v2 v3 : Int) (t1 t2 t3 : ByteArray × Bool) (m0 : 0 ≤ v1) (m1 : v1 ≤ 127) (n2 : (v1 == 2) = false) (n3 : (v1 == 3) = false) (n4 : (v1 == 4) = false) (n5 : (v1 == 5) = false)
    (C1 : TakeTo (w.heap.size + 1) 1 (s, false) v1 t1) (C2 : TakeTo (w.heap.size + 1) 6 t1 v2 t2) (C3 : TakeTo (w.heap.size + 1) 4 t2 v3 t3) :
    Calls Try.prog 22 #[.string s] w fun e w' => e = .returned (.tuple #[.agg (cC (endR t3 ⟨v1, v2, v3, 0, 0, 0, 0, 0⟩).1), .int .i64 (endR t3 ⟨v1, v2, v3, 0, 0, 0, 0, 0⟩).2]) ∧ Below w.heap.size w w' := by
  have kp := Rp.start w s
  obtain ⟨W0, hW0⟩ : ∃ W0, W0 = ((w.alloc (Obj.cells (cC cZ) 42)).alloc (Obj.cells #[Value.string s, Value.bool false] 57)) := ⟨_, rfl⟩
  rw [← hW0] at kp
  have KP := Lib.hid kp; have HW0 : Hid (W0 = ((w.alloc (Obj.cells #[Value.int IntKind.i8 0, Value.int IntKind.i64 0, Value.int IntKind.i64 0, Value.int IntKind.i64 0, Value.int IntKind.i64 0, Value.int IntKind.i64 0, Value.int IntKind.i64 0, Value.int IntKind.i8 0] 42)).alloc (Obj.cells #[Value.string s, Value.bool false] 57))) := Lib.hid hW0
  clear kp hW0
  go_enter Try.func22, Try.ntmps22
  go_wp2_with fail
  rw [← HW0.out]
  refine (C1 W0 KP.out.g).mono ?_
  rintro e w1 ⟨rfl, kg, kw⟩
  have KP1 := Lib.hid (KP.out.take kg kw)
  clear kg kw HW0 KP
  go_wp2_with fail
  refine (C2 w1 KP1.out.g).mono ?_
  rintro e w2 ⟨rfl, kg, kw⟩
  have KP2 := Lib.hid (KP1.out.take kg kw)
  clear kg kw KP1
  go_wp2_with fail
  refine (C3 w2 KP2.out.g).mono ?_
  rintro e w3 ⟨rfl, kg, kw⟩
  have KP3 := Lib.hid (KP2.out.take kg kw)
  clear kg kw KP2
  have ks := KP3.out.to #[.int .i8 v1, .int .i64 v2, .int .i64 v3, .int .i64 0, .int .i64 0, .int .i64 0, .int .i64 0, .int .i8 0]
  obtain ⟨P, hP⟩ : ∃ P, P = w3.heap.size := ⟨_, rfl⟩
  obtain ⟨W3, hW3⟩ : ∃ W, W = (w3.alloc (Obj.cells #[.int .i8 v1, .int .i64 v2, .int .i64 v3, .int .i64 0, .int .i64 0, .int .i64 0, .int .i64 0, .int .i8 0] 42)) := ⟨_, rfl⟩
  rw [← hW3, ← hP] at ks
  have KS := Lib.hid ks; have HP := Lib.hid hP; have HW3 := Lib.hid hW3
  clear ks hP hW3
  go_upto_region 15 with fail
  rw [← HW3.out, ← HP.out]
  clear HW3 HP KP3
  clear C1 C2 C3
  obtain ⟨c, hc⟩ : ∃ c : Cm, c = ⟨v1, v2, v3, 0, 0, 0, 0, 0⟩ := ⟨_, rfl⟩
  have KC : Hid (Rs w W3 P t3 (cC c)) := Lib.hid (by rw [hc]; exact KS.out)
  have cb : W3.cell? ⟨w.heap.size + 1, 1, none⟩ = some (.bool t3.2) := by rw [KC.out.g.cell 1]; rfl
  have cs : W3.cell? ⟨w.heap.size + 1, 0, none⟩ = some (.string t3.1) := by rw [KC.out.g.cell 0]; rfl
  have HC := Lib.hid hc
  clear KS hc
  by_cases hb : t3.2 = true
  · rw [hb] at cb
    have r0 : W3.cell? ⟨w.heap.size, 0, none⟩ = some (.int .i8 0) := by rw [KC.out.r.cell 0]; rfl
    have r1 : W3.cell? ⟨w.heap.size, 1, none⟩ = some (.int .i64 0) := by rw [KC.out.r.cell 1]; rfl
    have r2 : W3.cell? ⟨w.heap.size, 2, none⟩ = some (.int .i64 0) := by rw [KC.out.r.cell 2]; rfl
    have r3 : W3.cell? ⟨w.heap.size, 3, none⟩ = some (.int .i64 0) := by rw [KC.out.r.cell 3]; rfl
    have r4 : W3.cell? ⟨w.heap.size, 4, none⟩ = some (.int .i64 0) := by rw [KC.out.r.cell 4]; rfl
    have r5 : W3.cell? ⟨w.heap.size, 5, none⟩ = some (.int .i64 0) := by rw [KC.out.r.cell 5]; rfl
    have r6 : W3.cell? ⟨w.heap.size, 6, none⟩ = some (.int .i64 0) := by rw [KC.out.r.cell 6]; rfl
    have r7 : W3.cell? ⟨w.heap.size, 7, none⟩ = some (.int .i8 0) := by rw [KC.out.r.cell 7]; rfl
    have f0 := KC.out.r.frozen 0
    have f1 := KC.out.r.frozen 1
    have f2 := KC.out.r.frozen 2
    have f3 := KC.out.r.frozen 3
    have f4 := KC.out.r.frozen 4
    have f5 := KC.out.r.frozen 5
    have f6 := KC.out.r.frozen 6
    have f7 := KC.out.r.frozen 7
    go_wp2_with fail
    try simp only [Exit.inBlock, Exit.then]
    refine bodyPost_ret (w := setR W3 w.heap.size cZ) (ret_cell (g := w.heap.size) rfl _ _ cZ rfl (setR_blk cZ KC.out.r)) rfl ⟨?_, setR_below cZ KC.out.b (Nat.le_refl _)⟩
    rw [← HC.out, endR_bad hb]
    rfl
  · have hb' : t3.2 = false := by simpa using hb
    clear hb
    rw [hb'] at cb
    by_cases he : t3.1 = ⟨#[]⟩
    · rw [he] at cs
      have hmc := mayc_any c W3
      cases hm : mayC c with
      | false =>
        rw [hm] at hmc
        have HM := Lib.hid hmc; clear hmc
        have p0 : W3.cell? ⟨P, 0, none⟩ = some (.int .i8 c.kind) := by rw [KC.out.p.cell 0]; rfl
        have p1 : W3.cell? ⟨P, 1, none⟩ = some (.int .i64 c.node) := by rw [KC.out.p.cell 1]; rfl
        have p2 : W3.cell? ⟨P, 2, none⟩ = some (.int .i64 c.serial) := by rw [KC.out.p.cell 2]; rfl
        have p3 : W3.cell? ⟨P, 3, none⟩ = some (.int .i64 c.dead) := by rw [KC.out.p.cell 3]; rfl
        have p4 : W3.cell? ⟨P, 4, none⟩ = some (.int .i64 c.was) := by rw [KC.out.p.cell 4]; rfl
        have p5 : W3.cell? ⟨P, 5, none⟩ = some (.int .i64 c.lo) := by rw [KC.out.p.cell 5]; rfl
        have p6 : W3.cell? ⟨P, 6, none⟩ = some (.int .i64 c.hi) := by rw [KC.out.p.cell 6]; rfl
        have p7 : W3.cell? ⟨P, 7, none⟩ = some (.int .i8 c.mode) := by rw [KC.out.p.cell 7]; rfl
        go_wp2_with fail
        refine HM.out.mono ?_
        rintro e W9 ⟨rfl, hb9⟩
        have K9 := Lib.hid (KC.out.below hb9)
        clear hb9 KC
        have r0 : W9.cell? ⟨w.heap.size, 0, none⟩ = some (.int .i8 0) := by rw [K9.out.r.cell 0]; rfl
        have r1 : W9.cell? ⟨w.heap.size, 1, none⟩ = some (.int .i64 0) := by rw [K9.out.r.cell 1]; rfl
        have r2 : W9.cell? ⟨w.heap.size, 2, none⟩ = some (.int .i64 0) := by rw [K9.out.r.cell 2]; rfl
        have r3 : W9.cell? ⟨w.heap.size, 3, none⟩ = some (.int .i64 0) := by rw [K9.out.r.cell 3]; rfl
        have r4 : W9.cell? ⟨w.heap.size, 4, none⟩ = some (.int .i64 0) := by rw [K9.out.r.cell 4]; rfl
        have r5 : W9.cell? ⟨w.heap.size, 5, none⟩ = some (.int .i64 0) := by rw [K9.out.r.cell 5]; rfl
        have r6 : W9.cell? ⟨w.heap.size, 6, none⟩ = some (.int .i64 0) := by rw [K9.out.r.cell 6]; rfl
        have r7 : W9.cell? ⟨w.heap.size, 7, none⟩ = some (.int .i8 0) := by rw [K9.out.r.cell 7]; rfl
        have f0 := K9.out.r.frozen 0
        have f1 := K9.out.r.frozen 1
        have f2 := K9.out.r.frozen 2
        have f3 := K9.out.r.frozen 3
        have f4 := K9.out.r.frozen 4
        have f5 := K9.out.r.frozen 5
        have f6 := K9.out.r.frozen 6
        have f7 := K9.out.r.frozen 7
        go_wp2_with fail
        try simp only [Exit.inBlock, Exit.then]
        refine bodyPost_ret (w := setR W9 w.heap.size cZ) (ret_cell (g := w.heap.size) rfl _ _ cZ rfl (setR_blk cZ K9.out.r)) rfl ⟨?_, setR_below cZ K9.out.b (Nat.le_refl _)⟩
        rw [← HC.out, endR_no hm]
        rfl
      | true =>
        rw [hm] at hmc
        have HM := Lib.hid hmc; clear hmc
        have p0 : W3.cell? ⟨P, 0, none⟩ = some (.int .i8 c.kind) := by rw [KC.out.p.cell 0]; rfl
        have p1 : W3.cell? ⟨P, 1, none⟩ = some (.int .i64 c.node) := by rw [KC.out.p.cell 1]; rfl
        have p2 : W3.cell? ⟨P, 2, none⟩ = some (.int .i64 c.serial) := by rw [KC.out.p.cell 2]; rfl
        have p3 : W3.cell? ⟨P, 3, none⟩ = some (.int .i64 c.dead) := by rw [KC.out.p.cell 3]; rfl
        have p4 : W3.cell? ⟨P, 4, none⟩ = some (.int .i64 c.was) := by rw [KC.out.p.cell 4]; rfl
        have p5 : W3.cell? ⟨P, 5, none⟩ = some (.int .i64 c.lo) := by rw [KC.out.p.cell 5]; rfl
        have p6 : W3.cell? ⟨P, 6, none⟩ = some (.int .i64 c.hi) := by rw [KC.out.p.cell 6]; rfl
        have p7 : W3.cell? ⟨P, 7, none⟩ = some (.int .i8 c.mode) := by rw [KC.out.p.cell 7]; rfl
        go_wp2_with fail
        refine HM.out.mono ?_
        rintro e W9 ⟨rfl, hb9⟩
        have K9 := Lib.hid (KC.out.below hb9)
        clear hb9 KC
        have r0 : W9.cell? ⟨w.heap.size, 0, none⟩ = some (.int .i8 0) := by rw [K9.out.r.cell 0]; rfl
        have r1 : W9.cell? ⟨w.heap.size, 1, none⟩ = some (.int .i64 0) := by rw [K9.out.r.cell 1]; rfl
        have r2 : W9.cell? ⟨w.heap.size, 2, none⟩ = some (.int .i64 0) := by rw [K9.out.r.cell 2]; rfl
        have r3 : W9.cell? ⟨w.heap.size, 3, none⟩ = some (.int .i64 0) := by rw [K9.out.r.cell 3]; rfl
        have r4 : W9.cell? ⟨w.heap.size, 4, none⟩ = some (.int .i64 0) := by rw [K9.out.r.cell 4]; rfl
        have r5 : W9.cell? ⟨w.heap.size, 5, none⟩ = some (.int .i64 0) := by rw [K9.out.r.cell 5]; rfl
        have r6 : W9.cell? ⟨w.heap.size, 6, none⟩ = some (.int .i64 0) := by rw [K9.out.r.cell 6]; rfl
        have r7 : W9.cell? ⟨w.heap.size, 7, none⟩ = some (.int .i8 0) := by rw [K9.out.r.cell 7]; rfl
        have f0 := K9.out.r.frozen 0
        have f1 := K9.out.r.frozen 1
        have f2 := K9.out.r.frozen 2
        have f3 := K9.out.r.frozen 3
        have f4 := K9.out.r.frozen 4
        have f5 := K9.out.r.frozen 5
        have f6 := K9.out.r.frozen 6
        have f7 := K9.out.r.frozen 7
        have p09 : W9.cell? ⟨P, 0, none⟩ = some (.int .i8 c.kind) := by rw [K9.out.p.cell 0]; rfl
        have p19 : W9.cell? ⟨P, 1, none⟩ = some (.int .i64 c.node) := by rw [K9.out.p.cell 1]; rfl
        have p29 : W9.cell? ⟨P, 2, none⟩ = some (.int .i64 c.serial) := by rw [K9.out.p.cell 2]; rfl
        have p39 : W9.cell? ⟨P, 3, none⟩ = some (.int .i64 c.dead) := by rw [K9.out.p.cell 3]; rfl
        have p49 : W9.cell? ⟨P, 4, none⟩ = some (.int .i64 c.was) := by rw [K9.out.p.cell 4]; rfl
        have p59 : W9.cell? ⟨P, 5, none⟩ = some (.int .i64 c.lo) := by rw [K9.out.p.cell 5]; rfl
        have p69 : W9.cell? ⟨P, 6, none⟩ = some (.int .i64 c.hi) := by rw [K9.out.p.cell 6]; rfl
        have p79 : W9.cell? ⟨P, 7, none⟩ = some (.int .i8 c.mode) := by rw [K9.out.p.cell 7]; rfl
        go_wp2_with fail
        try simp only [Exit.inBlock, Exit.then]
        refine bodyPost_ret (w := setR W9 w.heap.size c) (ret_cell (g := w.heap.size) rfl _ _ c rfl (setR_blk c K9.out.r)) rfl ⟨?_, setR_below c K9.out.b (Nat.le_refl _)⟩
        rw [← HC.out, endR_good hb' he hm]
        rfl
    · have hne : ¬ (t3.1.toList = []) := fun h => he (by rw [← str_of t3.1, ← str_toList, h]; rfl)
      have r0 : W3.cell? ⟨w.heap.size, 0, none⟩ = some (.int .i8 0) := by rw [KC.out.r.cell 0]; rfl
      have r1 : W3.cell? ⟨w.heap.size, 1, none⟩ = some (.int .i64 0) := by rw [KC.out.r.cell 1]; rfl
      have r2 : W3.cell? ⟨w.heap.size, 2, none⟩ = some (.int .i64 0) := by rw [KC.out.r.cell 2]; rfl
      have r3 : W3.cell? ⟨w.heap.size, 3, none⟩ = some (.int .i64 0) := by rw [KC.out.r.cell 3]; rfl
      have r4 : W3.cell? ⟨w.heap.size, 4, none⟩ = some (.int .i64 0) := by rw [KC.out.r.cell 4]; rfl
      have r5 : W3.cell? ⟨w.heap.size, 5, none⟩ = some (.int .i64 0) := by rw [KC.out.r.cell 5]; rfl
      have r6 : W3.cell? ⟨w.heap.size, 6, none⟩ = some (.int .i64 0) := by rw [KC.out.r.cell 6]; rfl
      have r7 : W3.cell? ⟨w.heap.size, 7, none⟩ = some (.int .i8 0) := by rw [KC.out.r.cell 7]; rfl
      have f0 := KC.out.r.frozen 0
      have f1 := KC.out.r.frozen 1
      have f2 := KC.out.r.frozen 2
      have f3 := KC.out.r.frozen 3
      have f4 := KC.out.r.frozen 4
      have f5 := KC.out.r.frozen 5
      have f6 := KC.out.r.frozen 6
      have f7 := KC.out.r.frozen 7
      go_wp2_with fail
      try simp only [Exit.inBlock, Exit.then]
      refine bodyPost_ret (w := setR W3 w.heap.size cZ) (ret_cell (g := w.heap.size) rfl _ _ cZ rfl (setR_blk cZ KC.out.r)) rfl ⟨?_, setR_below cZ KC.out.b (Nat.le_refl _)⟩
      rw [← HC.out, endR_more he]
      rfl

set_option maxHeartbeats 1000000 in
theorem rd_b (s : ByteArray) (w : World) (v1 v2 v3 : Int) (t1 t2 t3 : ByteArray × Bool) (m1 : 127 < v1)
    (C1 : TakeTo (w.heap.size + 1) 1 (s, false) v1 t1) (C2 : TakeTo (w.heap.size + 1) 6 t1 v2 t2) (C3 : TakeTo (w.heap.size + 1) 4 t2 v3 t3) :
    Calls Try.prog 22 #[.string s] w fun e w' => e = .returned (.tuple #[.agg (cC (endR t3 ⟨127, v2, v3, 0, 0, 0, 0, 0⟩).1), .int .i64 (endR t3 ⟨127, v2, v3, 0, 0, 0, 0, 0⟩).2]) ∧ Below w.heap.size w w' := by
  have kp := Rp.start w s
  obtain ⟨W0, hW0⟩ : ∃ W0, W0 = ((w.alloc (Obj.cells (cC cZ) 42)).alloc (Obj.cells #[Value.string s, Value.bool false] 57)) := ⟨_, rfl⟩
  rw [← hW0] at kp
  have KP := Lib.hid kp; have HW0 : Hid (W0 = ((w.alloc (Obj.cells #[Value.int IntKind.i8 0, Value.int IntKind.i64 0, Value.int IntKind.i64 0, Value.int IntKind.i64 0, Value.int IntKind.i64 0, Value.int IntKind.i64 0, Value.int IntKind.i64 0, Value.int IntKind.i8 0] 42)).alloc (Obj.cells #[Value.string s, Value.bool false] 57))) := Lib.hid hW0
  clear kp hW0
  go_enter Try.func22, Try.ntmps22
  go_wp2_with fail
  rw [← HW0.out]
  refine (C1 W0 KP.out.g).mono ?_
  rintro e w1 ⟨rfl, kg, kw⟩
  have KP1 := Lib.hid (KP.out.take kg kw)
  clear kg kw HW0 KP
  go_wp2_with fail
  refine (C2 w1 KP1.out.g).mono ?_
  rintro e w2 ⟨rfl, kg, kw⟩
  have KP2 := Lib.hid (KP1.out.take kg kw)
  clear kg kw KP1
  go_wp2_with fail
  refine (C3 w2 KP2.out.g).mono ?_
  rintro e w3 ⟨rfl, kg, kw⟩
  have KP3 := Lib.hid (KP2.out.take kg kw)
  clear kg kw KP2
  have ks := KP3.out.to #[.int .i8 127, .int .i64 v2, .int .i64 v3, .int .i64 0, .int .i64 0, .int .i64 0, .int .i64 0, .int .i8 0]
  obtain ⟨P, hP⟩ : ∃ P, P = w3.heap.size := ⟨_, rfl⟩
  obtain ⟨W3, hW3⟩ : ∃ W, W = (w3.alloc (Obj.cells #[.int .i8 127, .int .i64 v2, .int .i64 v3, .int .i64 0, .int .i64 0, .int .i64 0, .int .i64 0, .int .i8 0] 42)) := ⟨_, rfl⟩
  rw [← hW3, ← hP] at ks
  have KS := Lib.hid ks; have HP := Lib.hid hP; have HW3 := Lib.hid hW3
  clear ks hP hW3
  go_upto_region 15 with fail
  rw [← HW3.out, ← HP.out]
  clear HW3 HP KP3
  clear C1 C2 C3
  obtain ⟨c, hc⟩ : ∃ c : Cm, c = ⟨127, v2, v3, 0, 0, 0, 0, 0⟩ := ⟨_, rfl⟩
  have KC : Hid (Rs w W3 P t3 (cC c)) := Lib.hid (by rw [hc]; exact KS.out)
  have cb : W3.cell? ⟨w.heap.size + 1, 1, none⟩ = some (.bool t3.2) := by rw [KC.out.g.cell 1]; rfl
  have cs : W3.cell? ⟨w.heap.size + 1, 0, none⟩ = some (.string t3.1) := by rw [KC.out.g.cell 0]; rfl
  have HC := Lib.hid hc
  clear KS hc
  by_cases hb : t3.2 = true
  · rw [hb] at cb
    have r0 : W3.cell? ⟨w.heap.size, 0, none⟩ = some (.int .i8 0) := by rw [KC.out.r.cell 0]; rfl
    have r1 : W3.cell? ⟨w.heap.size, 1, none⟩ = some (.int .i64 0) := by rw [KC.out.r.cell 1]; rfl
    have r2 : W3.cell? ⟨w.heap.size, 2, none⟩ = some (.int .i64 0) := by rw [KC.out.r.cell 2]; rfl
    have r3 : W3.cell? ⟨w.heap.size, 3, none⟩ = some (.int .i64 0) := by rw [KC.out.r.cell 3]; rfl
    have r4 : W3.cell? ⟨w.heap.size, 4, none⟩ = some (.int .i64 0) := by rw [KC.out.r.cell 4]; rfl
    have r5 : W3.cell? ⟨w.heap.size, 5, none⟩ = some (.int .i64 0) := by rw [KC.out.r.cell 5]; rfl
    have r6 : W3.cell? ⟨w.heap.size, 6, none⟩ = some (.int .i64 0) := by rw [KC.out.r.cell 6]; rfl
    have r7 : W3.cell? ⟨w.heap.size, 7, none⟩ = some (.int .i8 0) := by rw [KC.out.r.cell 7]; rfl
    have f0 := KC.out.r.frozen 0
    have f1 := KC.out.r.frozen 1
    have f2 := KC.out.r.frozen 2
    have f3 := KC.out.r.frozen 3
    have f4 := KC.out.r.frozen 4
    have f5 := KC.out.r.frozen 5
    have f6 := KC.out.r.frozen 6
    have f7 := KC.out.r.frozen 7
    go_wp2_with fail
    try simp only [Exit.inBlock, Exit.then]
    refine bodyPost_ret (w := setR W3 w.heap.size cZ) (ret_cell (g := w.heap.size) rfl _ _ cZ rfl (setR_blk cZ KC.out.r)) rfl ⟨?_, setR_below cZ KC.out.b (Nat.le_refl _)⟩
    rw [← HC.out, endR_bad hb]
    rfl
  · have hb' : t3.2 = false := by simpa using hb
    clear hb
    rw [hb'] at cb
    by_cases he : t3.1 = ⟨#[]⟩
    · rw [he] at cs
      have hmc := mayc_any c W3
      cases hm : mayC c with
      | false =>
        rw [hm] at hmc
        have HM := Lib.hid hmc; clear hmc
        have p0 : W3.cell? ⟨P, 0, none⟩ = some (.int .i8 c.kind) := by rw [KC.out.p.cell 0]; rfl
        have p1 : W3.cell? ⟨P, 1, none⟩ = some (.int .i64 c.node) := by rw [KC.out.p.cell 1]; rfl
        have p2 : W3.cell? ⟨P, 2, none⟩ = some (.int .i64 c.serial) := by rw [KC.out.p.cell 2]; rfl
        have p3 : W3.cell? ⟨P, 3, none⟩ = some (.int .i64 c.dead) := by rw [KC.out.p.cell 3]; rfl
        have p4 : W3.cell? ⟨P, 4, none⟩ = some (.int .i64 c.was) := by rw [KC.out.p.cell 4]; rfl
        have p5 : W3.cell? ⟨P, 5, none⟩ = some (.int .i64 c.lo) := by rw [KC.out.p.cell 5]; rfl
        have p6 : W3.cell? ⟨P, 6, none⟩ = some (.int .i64 c.hi) := by rw [KC.out.p.cell 6]; rfl
        have p7 : W3.cell? ⟨P, 7, none⟩ = some (.int .i8 c.mode) := by rw [KC.out.p.cell 7]; rfl
        go_wp2_with fail
        refine HM.out.mono ?_
        rintro e W9 ⟨rfl, hb9⟩
        have K9 := Lib.hid (KC.out.below hb9)
        clear hb9 KC
        have r0 : W9.cell? ⟨w.heap.size, 0, none⟩ = some (.int .i8 0) := by rw [K9.out.r.cell 0]; rfl
        have r1 : W9.cell? ⟨w.heap.size, 1, none⟩ = some (.int .i64 0) := by rw [K9.out.r.cell 1]; rfl
        have r2 : W9.cell? ⟨w.heap.size, 2, none⟩ = some (.int .i64 0) := by rw [K9.out.r.cell 2]; rfl
        have r3 : W9.cell? ⟨w.heap.size, 3, none⟩ = some (.int .i64 0) := by rw [K9.out.r.cell 3]; rfl
        have r4 : W9.cell? ⟨w.heap.size, 4, none⟩ = some (.int .i64 0) := by rw [K9.out.r.cell 4]; rfl
        have r5 : W9.cell? ⟨w.heap.size, 5, none⟩ = some (.int .i64 0) := by rw [K9.out.r.cell 5]; rfl
        have r6 : W9.cell? ⟨w.heap.size, 6, none⟩ = some (.int .i64 0) := by rw [K9.out.r.cell 6]; rfl
        have r7 : W9.cell? ⟨w.heap.size, 7, none⟩ = some (.int .i8 0) := by rw [K9.out.r.cell 7]; rfl
        have f0 := K9.out.r.frozen 0
        have f1 := K9.out.r.frozen 1
        have f2 := K9.out.r.frozen 2
        have f3 := K9.out.r.frozen 3
        have f4 := K9.out.r.frozen 4
        have f5 := K9.out.r.frozen 5
        have f6 := K9.out.r.frozen 6
        have f7 := K9.out.r.frozen 7
        go_wp2_with fail
        try simp only [Exit.inBlock, Exit.then]
        refine bodyPost_ret (w := setR W9 w.heap.size cZ) (ret_cell (g := w.heap.size) rfl _ _ cZ rfl (setR_blk cZ K9.out.r)) rfl ⟨?_, setR_below cZ K9.out.b (Nat.le_refl _)⟩
        rw [← HC.out, endR_no hm]
        rfl
      | true =>
        rw [hm] at hmc
        have HM := Lib.hid hmc; clear hmc
        have p0 : W3.cell? ⟨P, 0, none⟩ = some (.int .i8 c.kind) := by rw [KC.out.p.cell 0]; rfl
        have p1 : W3.cell? ⟨P, 1, none⟩ = some (.int .i64 c.node) := by rw [KC.out.p.cell 1]; rfl
        have p2 : W3.cell? ⟨P, 2, none⟩ = some (.int .i64 c.serial) := by rw [KC.out.p.cell 2]; rfl
        have p3 : W3.cell? ⟨P, 3, none⟩ = some (.int .i64 c.dead) := by rw [KC.out.p.cell 3]; rfl
        have p4 : W3.cell? ⟨P, 4, none⟩ = some (.int .i64 c.was) := by rw [KC.out.p.cell 4]; rfl
        have p5 : W3.cell? ⟨P, 5, none⟩ = some (.int .i64 c.lo) := by rw [KC.out.p.cell 5]; rfl
        have p6 : W3.cell? ⟨P, 6, none⟩ = some (.int .i64 c.hi) := by rw [KC.out.p.cell 6]; rfl
        have p7 : W3.cell? ⟨P, 7, none⟩ = some (.int .i8 c.mode) := by rw [KC.out.p.cell 7]; rfl
        go_wp2_with fail
        refine HM.out.mono ?_
        rintro e W9 ⟨rfl, hb9⟩
        have K9 := Lib.hid (KC.out.below hb9)
        clear hb9 KC
        have r0 : W9.cell? ⟨w.heap.size, 0, none⟩ = some (.int .i8 0) := by rw [K9.out.r.cell 0]; rfl
        have r1 : W9.cell? ⟨w.heap.size, 1, none⟩ = some (.int .i64 0) := by rw [K9.out.r.cell 1]; rfl
        have r2 : W9.cell? ⟨w.heap.size, 2, none⟩ = some (.int .i64 0) := by rw [K9.out.r.cell 2]; rfl
        have r3 : W9.cell? ⟨w.heap.size, 3, none⟩ = some (.int .i64 0) := by rw [K9.out.r.cell 3]; rfl
        have r4 : W9.cell? ⟨w.heap.size, 4, none⟩ = some (.int .i64 0) := by rw [K9.out.r.cell 4]; rfl
        have r5 : W9.cell? ⟨w.heap.size, 5, none⟩ = some (.int .i64 0) := by rw [K9.out.r.cell 5]; rfl
        have r6 : W9.cell? ⟨w.heap.size, 6, none⟩ = some (.int .i64 0) := by rw [K9.out.r.cell 6]; rfl
        have r7 : W9.cell? ⟨w.heap.size, 7, none⟩ = some (.int .i8 0) := by rw [K9.out.r.cell 7]; rfl
        have f0 := K9.out.r.frozen 0
        have f1 := K9.out.r.frozen 1
        have f2 := K9.out.r.frozen 2
        have f3 := K9.out.r.frozen 3
        have f4 := K9.out.r.frozen 4
        have f5 := K9.out.r.frozen 5
        have f6 := K9.out.r.frozen 6
        have f7 := K9.out.r.frozen 7
        have p09 : W9.cell? ⟨P, 0, none⟩ = some (.int .i8 c.kind) := by rw [K9.out.p.cell 0]; rfl
        have p19 : W9.cell? ⟨P, 1, none⟩ = some (.int .i64 c.node) := by rw [K9.out.p.cell 1]; rfl
        have p29 : W9.cell? ⟨P, 2, none⟩ = some (.int .i64 c.serial) := by rw [K9.out.p.cell 2]; rfl
        have p39 : W9.cell? ⟨P, 3, none⟩ = some (.int .i64 c.dead) := by rw [K9.out.p.cell 3]; rfl
        have p49 : W9.cell? ⟨P, 4, none⟩ = some (.int .i64 c.was) := by rw [K9.out.p.cell 4]; rfl
        have p59 : W9.cell? ⟨P, 5, none⟩ = some (.int .i64 c.lo) := by rw [K9.out.p.cell 5]; rfl
        have p69 : W9.cell? ⟨P, 6, none⟩ = some (.int .i64 c.hi) := by rw [K9.out.p.cell 6]; rfl
        have p79 : W9.cell? ⟨P, 7, none⟩ = some (.int .i8 c.mode) := by rw [K9.out.p.cell 7]; rfl
        go_wp2_with fail
        try simp only [Exit.inBlock, Exit.then]
        refine bodyPost_ret (w := setR W9 w.heap.size c) (ret_cell (g := w.heap.size) rfl _ _ c rfl (setR_blk c K9.out.r)) rfl ⟨?_, setR_below c K9.out.b (Nat.le_refl _)⟩
        rw [← HC.out, endR_good hb' he hm]
        rfl
    · have hne : ¬ (t3.1.toList = []) := fun h => he (by rw [← str_of t3.1, ← str_toList, h]; rfl)
      have r0 : W3.cell? ⟨w.heap.size, 0, none⟩ = some (.int .i8 0) := by rw [KC.out.r.cell 0]; rfl
      have r1 : W3.cell? ⟨w.heap.size, 1, none⟩ = some (.int .i64 0) := by rw [KC.out.r.cell 1]; rfl
      have r2 : W3.cell? ⟨w.heap.size, 2, none⟩ = some (.int .i64 0) := by rw [KC.out.r.cell 2]; rfl
      have r3 : W3.cell? ⟨w.heap.size, 3, none⟩ = some (.int .i64 0) := by rw [KC.out.r.cell 3]; rfl
      have r4 : W3.cell? ⟨w.heap.size, 4, none⟩ = some (.int .i64 0) := by rw [KC.out.r.cell 4]; rfl
      have r5 : W3.cell? ⟨w.heap.size, 5, none⟩ = some (.int .i64 0) := by rw [KC.out.r.cell 5]; rfl
      have r6 : W3.cell? ⟨w.heap.size, 6, none⟩ = some (.int .i64 0) := by rw [KC.out.r.cell 6]; rfl
      have r7 : W3.cell? ⟨w.heap.size, 7, none⟩ = some (.int .i8 0) := by rw [KC.out.r.cell 7]; rfl
      have f0 := KC.out.r.frozen 0
      have f1 := KC.out.r.frozen 1
      have f2 := KC.out.r.frozen 2
      have f3 := KC.out.r.frozen 3
      have f4 := KC.out.r.frozen 4
      have f5 := KC.out.r.frozen 5
      have f6 := KC.out.r.frozen 6
      have f7 := KC.out.r.frozen 7
      go_wp2_with fail
      try simp only [Exit.inBlock, Exit.then]
      refine bodyPost_ret (w := setR W3 w.heap.size cZ) (ret_cell (g := w.heap.size) rfl _ _ cZ rfl (setR_blk cZ KC.out.r)) rfl ⟨?_, setR_below cZ KC.out.b (Nat.le_refl _)⟩
      rw [← HC.out, endR_more he]
      rfl

end Go.Proofs.Ytnoojlgefpekiaa
