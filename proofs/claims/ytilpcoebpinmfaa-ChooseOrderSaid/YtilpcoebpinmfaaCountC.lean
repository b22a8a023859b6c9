/-
  Contract of choose's Count.
-/
import Derived.Test.YtilpcoebpinmfaaCountB
namespace Go.Proofs.Ytilpcoebpinmfaa
open Go.RowKit

set_option maxRecDepth 100000 in
set_option maxHeartbeats 1000000 in
/-- Count -/
theorem count_any (t : Ty) (A : Option Addr) (n c B : Nat) (l : List Rc) (w : World) (hl : RdR w B A n l) (hB : B ≤ w.heap.size) (hn : n ≤ 1000000) :
    Calls Try.prog 12 #[.agg (tc t), .slice A n c] w fun e w' => e = .returned (.agg (tc (countT t l))) ∧ Below w.heap.size w w' := by
  change Calls Try.prog 12 #[.agg #[.int .i64 t.inst, .int .i64 t.mbal, .int .i64 t.best, .string t.val, .int .i64 t.seen, .bool t.ahead, .bool t.lost], .slice A n c] w _
  have HL := Lib.hid hl; clear hl
  obtain ⟨U, hU⟩ : ∃ U, U = countT t l := ⟨_, rfl⟩
  have HU := Lib.hid hU
  obtain ⟨W1, hW1⟩ : ∃ W1, W1 = ((w.alloc (Obj.cells (tc t) 30)).alloc (Obj.cells (tc zT) 30)).alloc (Obj.cells (tc t) 47) := ⟨_, rfl⟩
  have kz : Blk W1 (w.heap.size + 1) 30 (tc zT) := by
    rw [hW1]
    have := (Blk.new (w.alloc (Obj.cells (tc t) 30)) 30 (tc zT)).alloc (Obj.cells (tc t) 47)
    simpa using this
  have kg : Blk W1 (w.heap.size + 1 + 1) 47 (tc t) := by
    rw [hW1]
    have := Blk.new ((w.alloc (Obj.cells (tc t) 30)).alloc (Obj.cells (tc zT) 30)) 47 (tc t)
    simpa using this
  have kw : Below w.heap.size w W1 := by
    rw [hW1]
    exact (((Below.refl _ _).alloc (Nat.le_refl _) _).alloc (by simp) _).alloc (by simp; omega) _
  have hrd : RdR W1 (w.heap.size + 1 + 1) A n l := by
    obtain ⟨h1, h2⟩ := HL.out
    refine ⟨h1, fun h => ?_⟩
    obtain ⟨ad, rfl, hb, hc⟩ := h2 h
    refine ⟨ad, rfl, by omega, fun k r hk => ?_⟩
    have hc' : ∀ j, W1.cell? (ad.add j) = w.cell? (ad.add j) := fun j => kw.cell (by rw [blk_add]; omega)
    obtain ⟨q0, q1, q2, q3⟩ := hc k r hk
    exact ⟨(hc' _).trans q0, (hc' _).trans q1, (hc' _).trans q2, (hc' _).trans q3⟩
  have hC := counts_any (w.heap.size + 1 + 1) 47 t A n c (w.heap.size + 1 + 1) l W1 kg hrd (Nat.le_refl _) hn
  rw [← hU] at hC
  rw [hW1] at hC
  have HC := Lib.hid hC; have HZ0 := Lib.hid kz; have HW0 := Lib.hid kw; have HW1 := Lib.hid hW1
  clear hC kz kw kg hrd hU
  go_enter Try.func12, Try.ntmps12
  go_wp2_with fail
  refine HC.out.mono ?_
  rintro e W2 ⟨rfl, hb2⟩
  rw [← HW1.out] at hb2
  have kz2 : Blk W2 (w.heap.size + 1) 30 (tc zT) := HZ0.out.below hb2 (by omega)
  have kw2 : Below w.heap.size w W2 := HW0.out.trans (hb2.mono (by omega))
  have z0 : W2.cell? ⟨w.heap.size + 1, 0, none⟩ = some (Value.int IntKind.i64 0) := by rw [kz2.cell 0]; rfl
  have f0 := kz2.frozen 0
  have z1 : W2.cell? ⟨w.heap.size + 1, 1, none⟩ = some (Value.int IntKind.i64 0) := by rw [kz2.cell 1]; rfl
  have f1 := kz2.frozen 1
  have z2 : W2.cell? ⟨w.heap.size + 1, 2, none⟩ = some (Value.int IntKind.i64 0) := by rw [kz2.cell 2]; rfl
  have f2 := kz2.frozen 2
  have z3 : W2.cell? ⟨w.heap.size + 1, 3, none⟩ = some (Value.string ⟨#[]⟩) := by rw [kz2.cell 3]; rfl
  have f3 := kz2.frozen 3
  have z4 : W2.cell? ⟨w.heap.size + 1, 4, none⟩ = some (Value.int IntKind.i64 0) := by rw [kz2.cell 4]; rfl
  have f4 := kz2.frozen 4
  have z5 : W2.cell? ⟨w.heap.size + 1, 5, none⟩ = some (Value.bool false) := by rw [kz2.cell 5]; rfl
  have f5 := kz2.frozen 5
  have z6 : W2.cell? ⟨w.heap.size + 1, 6, none⟩ = some (Value.bool false) := by rw [kz2.cell 6]; rfl
  have f6 := kz2.frozen 6
  have HZ := Lib.hid kz2; have HW := Lib.hid kw2
  clear hb2 kz2 kw2 HZ0 HW0 HC
  have hf := (((((((HZ.out.set_ 0 (Value.int IntKind.i64 U.inst)).set_ 1 (Value.int IntKind.i64 U.mbal)).set_ 2 (Value.int IntKind.i64 U.best)).set_ 3 (Value.string U.val)).set_ 4 (Value.int IntKind.i64 U.seen)).set_ 5 (Value.bool U.ahead)).set_ 6 (Value.bool U.lost))
  have hB1 : Below w.heap.size w (((((((W2.setCell ⟨w.heap.size + 1, 0, none⟩ (Value.int IntKind.i64 U.inst)).setCell ⟨w.heap.size + 1, 1, none⟩ (Value.int IntKind.i64 U.mbal)).setCell ⟨w.heap.size + 1, 2, none⟩ (Value.int IntKind.i64 U.best)).setCell ⟨w.heap.size + 1, 3, none⟩ (Value.string U.val)).setCell ⟨w.heap.size + 1, 4, none⟩ (Value.int IntKind.i64 U.seen)).setCell ⟨w.heap.size + 1, 5, none⟩ (Value.bool U.ahead)).setCell ⟨w.heap.size + 1, 6, none⟩ (Value.bool U.lost)) := (((((((HW.out.setCell (by show w.heap.size ≤ w.heap.size + 1; omega) _).setCell (by show w.heap.size ≤ w.heap.size + 1; omega) _).setCell (by show w.heap.size ≤ w.heap.size + 1; omega) _).setCell (by show w.heap.size ≤ w.heap.size + 1; omega) _).setCell (by show w.heap.size ≤ w.heap.size + 1; omega) _).setCell (by show w.heap.size ≤ w.heap.size + 1; omega) _).setCell (by show w.heap.size ≤ w.heap.size + 1; omega) _)
  have HF := Lib.hid hf; have HB1 := Lib.hid hB1
  clear hf hB1
  unfold tc
  go_wp2
  have hf := HF.out; have hB1 := HB1.out
  obtain ⟨Wf, hWf⟩ : ∃ Wf, Wf = (((((((W2.setCell ⟨w.heap.size + 1, 0, none⟩ (Value.int IntKind.i64 U.inst)).setCell ⟨w.heap.size + 1, 1, none⟩ (Value.int IntKind.i64 U.mbal)).setCell ⟨w.heap.size + 1, 2, none⟩ (Value.int IntKind.i64 U.best)).setCell ⟨w.heap.size + 1, 3, none⟩ (Value.string U.val)).setCell ⟨w.heap.size + 1, 4, none⟩ (Value.int IntKind.i64 U.seen)).setCell ⟨w.heap.size + 1, 5, none⟩ (Value.bool U.ahead)).setCell ⟨w.heap.size + 1, 6, none⟩ (Value.bool U.lost)) := ⟨_, rfl⟩
  rw [← hWf] at hf hB1 ⊢
  have hf : Blk Wf (w.heap.size + 1) 30 (tc U) := by simpa [tc, zT] using hf
  have y0 : Wf.cell? ⟨w.heap.size + 1, 0, none⟩ = some (Value.int IntKind.i64 U.inst) := by rw [hf.cell 0]; rfl
  have y1 : Wf.cell? ⟨w.heap.size + 1, 1, none⟩ = some (Value.int IntKind.i64 U.mbal) := by rw [hf.cell 1]; rfl
  have y2 : Wf.cell? ⟨w.heap.size + 1, 2, none⟩ = some (Value.int IntKind.i64 U.best) := by rw [hf.cell 2]; rfl
  have y3 : Wf.cell? ⟨w.heap.size + 1, 3, none⟩ = some (Value.string U.val) := by rw [hf.cell 3]; rfl
  have y4 : Wf.cell? ⟨w.heap.size + 1, 4, none⟩ = some (Value.int IntKind.i64 U.seen) := by rw [hf.cell 4]; rfl
  have y5 : Wf.cell? ⟨w.heap.size + 1, 5, none⟩ = some (Value.bool U.ahead) := by rw [hf.cell 5]; rfl
  have y6 : Wf.cell? ⟨w.heap.size + 1, 6, none⟩ = some (Value.bool U.lost) := by rw [hf.cell 6]; rfl
  clear hWf hf
  refine bodyPost_ret (v := .agg (tc U)) (by simp [results, Try.results12, go_sem, y0, y1, y2, y3, y4, y5, y6, tc]) rfl ⟨by rw [HU.out], hB1⟩

end Go.Proofs.Ytilpcoebpinmfaa
