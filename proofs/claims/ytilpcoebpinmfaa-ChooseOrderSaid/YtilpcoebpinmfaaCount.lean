/-
  Contracts of choose's Begin and Count.
-/
import Derived.Test.YtilpcoebpinmfaaTally
import Derived.Deep.RegionWith
namespace Go.Proofs.Ytilpcoebpinmfaa
open Go.RowKit

/-- a slice of records: address A, the records l, below block B -/
def RdR (w : World) (B : Nat) (A : Option Addr) (n : Nat) (l : List Rc) : Prop :=
  l.length = n ∧ (0 < n → ∃ ad, A = some ad ∧ ad.block < B ∧ ∀ k r, l[k]? = some r →
    w.cell? (ad.add (k * 4)) = some (.int .i64 r.inst) ∧ w.cell? (ad.add (k * 4 + 1)) = some (.int .i64 r.mbal) ∧ w.cell? (ad.add (k * 4 + 2)) = some (.int .i64 r.bal) ∧ w.cell? (ad.add (k * 4 + 3)) = some (.string r.val))

set_option maxHeartbeats 400000 in
/-- Begin -/
theorem begin_any (i m b s : Int) (v : ByteArray) (w : World) :
    Calls Try.prog 10 #[.agg #[.int .i64 i, .int .i64 m, .int .i64 b, .string v], .int .i64 s] w fun e w' =>
      e = .returned (.agg #[.int .i64 i, .int .i64 m, .int .i64 b, .string v, .int .i64 (mx s m), .bool false, .bool false]) ∧ Below w.heap.size w w' := by
  go_enter Try.func10, Try.ntmps10
  go_wp2_with fail
  have hW : Blk ((((w.alloc (Obj.cells #[Value.int IntKind.i64 i, Value.int IntKind.i64 m, Value.int IntKind.i64 b, Value.string v] 23)).alloc (Obj.cells #[Value.int IntKind.i64 0, Value.int IntKind.i64 0, Value.int IntKind.i64 0, Value.string { data := #[] }, Value.int IntKind.i64 0, Value.bool false, Value.bool false] 30)).alloc (Obj.cells #[Value.int IntKind.i64 i, Value.int IntKind.i64 m, Value.int IntKind.i64 b, Value.string v, Value.int IntKind.i64 s, Value.bool false, Value.bool false] 43)).alloc (Obj.cells #[Value.int IntKind.i64 m] 3)) (w.heap.size + 1 + 1) 43 #[.int .i64 i, .int .i64 m, .int .i64 b, .string v, .int .i64 s, .bool false, .bool false] := by
    have := (Blk.new ((w.alloc (Obj.cells #[Value.int IntKind.i64 i, Value.int IntKind.i64 m, Value.int IntKind.i64 b, Value.string v] 23)).alloc (Obj.cells #[Value.int IntKind.i64 0, Value.int IntKind.i64 0, Value.int IntKind.i64 0, Value.string { data := #[] }, Value.int IntKind.i64 0, Value.bool false, Value.bool false] 30)) 43 #[.int .i64 i, .int .i64 m, .int .i64 b, .string v, .int .i64 s, .bool false, .bool false]).alloc (Obj.cells #[Value.int IntKind.i64 m] 3)
    simpa using this
  have hZ : Blk ((((w.alloc (Obj.cells #[Value.int IntKind.i64 i, Value.int IntKind.i64 m, Value.int IntKind.i64 b, Value.string v] 23)).alloc (Obj.cells #[Value.int IntKind.i64 0, Value.int IntKind.i64 0, Value.int IntKind.i64 0, Value.string { data := #[] }, Value.int IntKind.i64 0, Value.bool false, Value.bool false] 30)).alloc (Obj.cells #[Value.int IntKind.i64 i, Value.int IntKind.i64 m, Value.int IntKind.i64 b, Value.string v, Value.int IntKind.i64 s, Value.bool false, Value.bool false] 43)).alloc (Obj.cells #[Value.int IntKind.i64 m] 3)) (w.heap.size + 1) 30 #[.int .i64 0, .int .i64 0, .int .i64 0, .string ⟨#[]⟩, .int .i64 0, .bool false, .bool false] := by
    have := ((Blk.new (w.alloc (Obj.cells #[Value.int IntKind.i64 i, Value.int IntKind.i64 m, Value.int IntKind.i64 b, Value.string v] 23)) 30 #[.int .i64 0, .int .i64 0, .int .i64 0, .string ⟨#[]⟩, .int .i64 0, .bool false, .bool false]).alloc (Obj.cells #[Value.int IntKind.i64 i, Value.int IntKind.i64 m, Value.int IntKind.i64 b, Value.string v, Value.int IntKind.i64 s, Value.bool false, Value.bool false] 43)).alloc (Obj.cells #[Value.int IntKind.i64 m] 3)
    simpa using this
  have hB0 : Below w.heap.size w ((((w.alloc (Obj.cells #[Value.int IntKind.i64 i, Value.int IntKind.i64 m, Value.int IntKind.i64 b, Value.string v] 23)).alloc (Obj.cells #[Value.int IntKind.i64 0, Value.int IntKind.i64 0, Value.int IntKind.i64 0, Value.string { data := #[] }, Value.int IntKind.i64 0, Value.bool false, Value.bool false] 30)).alloc (Obj.cells #[Value.int IntKind.i64 i, Value.int IntKind.i64 m, Value.int IntKind.i64 b, Value.string v, Value.int IntKind.i64 s, Value.bool false, Value.bool false] 43)).alloc (Obj.cells #[Value.int IntKind.i64 m] 3)) :=
    ((((Below.refl _ _).alloc (Nat.le_refl _) _).alloc (by simp) _).alloc (by simp; omega) _).alloc (by simp; omega) _
  have hS := sees_one (w.heap.size + 1 + 1) 43 i m b s m v false false ⟨w.heap.size + 1 + 1 + 1, 0, none⟩ 1 _ hW (by
    have := (Blk.new (((w.alloc (Obj.cells #[Value.int IntKind.i64 i, Value.int IntKind.i64 m, Value.int IntKind.i64 b, Value.string v] 23)).alloc (Obj.cells #[Value.int IntKind.i64 0, Value.int IntKind.i64 0, Value.int IntKind.i64 0, Value.string { data := #[] }, Value.int IntKind.i64 0, Value.bool false, Value.bool false] 30)).alloc (Obj.cells #[Value.int IntKind.i64 i, Value.int IntKind.i64 m, Value.int IntKind.i64 b, Value.string v, Value.int IntKind.i64 s, Value.bool false, Value.bool false] 43)) 3 #[Value.int IntKind.i64 m]).cell 0
    simpa using this)
  refine hS.mono ?_
  rintro e w1 ⟨rfl, hb1, hg1⟩
  have hz1 := hZ.other hg1 (by omega)
  have hw1 := hB0.grown hg1 hB0.size (fun k hk => by injection hk with e; omega)
  have hsz : w.heap.size + 1 + 1 < w1.heap.size := hb1.lt
  obtain ⟨q, hq⟩ : ∃ q, q = mx s m := ⟨_, rfl⟩
  rw [← hq] at hb1
  have r0 : w1.cell? ⟨w.heap.size + 1 + 1, 0, none⟩ = some (.int .i64 i) := by rw [hb1.cell 0]; rfl
  have r1 : w1.cell? ⟨w.heap.size + 1 + 1, 1, none⟩ = some (.int .i64 m) := by rw [hb1.cell 1]; rfl
  have r2 : w1.cell? ⟨w.heap.size + 1 + 1, 2, none⟩ = some (.int .i64 b) := by rw [hb1.cell 2]; rfl
  have r3 : w1.cell? ⟨w.heap.size + 1 + 1, 3, none⟩ = some (.string v) := by rw [hb1.cell 3]; rfl
  have r4 : w1.cell? ⟨w.heap.size + 1 + 1, 4, none⟩ = some (.int .i64 (q)) := by rw [hb1.cell 4]; rfl
  have r5 : w1.cell? ⟨w.heap.size + 1 + 1, 5, none⟩ = some (.bool false) := by rw [hb1.cell 5]; rfl
  have r6 : w1.cell? ⟨w.heap.size + 1 + 1, 6, none⟩ = some (.bool false) := by rw [hb1.cell 6]; rfl
  have z0 : w1.cell? ⟨w.heap.size + 1, 0, none⟩ = some (.int .i64 0) := by rw [hz1.cell 0]; rfl
  have f0 := hz1.frozen 0
  have z1 : w1.cell? ⟨w.heap.size + 1, 1, none⟩ = some (.int .i64 0) := by rw [hz1.cell 1]; rfl
  have f1 := hz1.frozen 1
  have z2 : w1.cell? ⟨w.heap.size + 1, 2, none⟩ = some (.int .i64 0) := by rw [hz1.cell 2]; rfl
  have f2 := hz1.frozen 2
  have z3 : w1.cell? ⟨w.heap.size + 1, 3, none⟩ = some (.string ⟨#[]⟩) := by rw [hz1.cell 3]; rfl
  have f3 := hz1.frozen 3
  have z4 : w1.cell? ⟨w.heap.size + 1, 4, none⟩ = some (.int .i64 0) := by rw [hz1.cell 4]; rfl
  have f4 := hz1.frozen 4
  have z5 : w1.cell? ⟨w.heap.size + 1, 5, none⟩ = some (.bool false) := by rw [hz1.cell 5]; rfl
  have f5 := hz1.frozen 5
  have z6 : w1.cell? ⟨w.heap.size + 1, 6, none⟩ = some (.bool false) := by rw [hz1.cell 6]; rfl
  have f6 := hz1.frozen 6
  have HQ := Lib.hid hq
  have hf := (((((((hz1.set_ 0 (Value.int IntKind.i64 i)).set_ 1 (Value.int IntKind.i64 m)).set_ 2 (Value.int IntKind.i64 b)).set_ 3 (Value.string v)).set_ 4 (Value.int IntKind.i64 q)).set_ 5 (Value.bool false)).set_ 6 (Value.bool false))
  have hB1 : Below w.heap.size w (((((((w1.setCell ⟨w.heap.size + 1, 0, none⟩ (Value.int IntKind.i64 i)).setCell ⟨w.heap.size + 1, 1, none⟩ (Value.int IntKind.i64 m)).setCell ⟨w.heap.size + 1, 2, none⟩ (Value.int IntKind.i64 b)).setCell ⟨w.heap.size + 1, 3, none⟩ (Value.string v)).setCell ⟨w.heap.size + 1, 4, none⟩ (Value.int IntKind.i64 q)).setCell ⟨w.heap.size + 1, 5, none⟩ (Value.bool false)).setCell ⟨w.heap.size + 1, 6, none⟩ (Value.bool false)) := (((((((hw1.setCell (by show w.heap.size ≤ w.heap.size + 1; omega) _).setCell (by show w.heap.size ≤ w.heap.size + 1; omega) _).setCell (by show w.heap.size ≤ w.heap.size + 1; omega) _).setCell (by show w.heap.size ≤ w.heap.size + 1; omega) _).setCell (by show w.heap.size ≤ w.heap.size + 1; omega) _).setCell (by show w.heap.size ≤ w.heap.size + 1; omega) _).setCell (by show w.heap.size ≤ w.heap.size + 1; omega) _)
  clear hW hZ hS hB0 hb1 hz1 hg1 hq
  go_wp2
  obtain ⟨Wf, hWf⟩ : ∃ Wf, Wf = (((((((w1.setCell ⟨w.heap.size + 1, 0, none⟩ (Value.int IntKind.i64 i)).setCell ⟨w.heap.size + 1, 1, none⟩ (Value.int IntKind.i64 m)).setCell ⟨w.heap.size + 1, 2, none⟩ (Value.int IntKind.i64 b)).setCell ⟨w.heap.size + 1, 3, none⟩ (Value.string v)).setCell ⟨w.heap.size + 1, 4, none⟩ (Value.int IntKind.i64 q)).setCell ⟨w.heap.size + 1, 5, none⟩ (Value.bool false)).setCell ⟨w.heap.size + 1, 6, none⟩ (Value.bool false)) := ⟨_, rfl⟩
  rw [← hWf] at hf hB1 ⊢
  have hf : Blk Wf (w.heap.size + 1) 30 #[.int .i64 i, .int .i64 m, .int .i64 b, .string v, .int .i64 q, .bool false, .bool false] := by simpa using hf
  have y0 : Wf.cell? ⟨w.heap.size + 1, 0, none⟩ = some (.int .i64 i) := by rw [hf.cell 0]; rfl
  have y1 : Wf.cell? ⟨w.heap.size + 1, 1, none⟩ = some (.int .i64 m) := by rw [hf.cell 1]; rfl
  have y2 : Wf.cell? ⟨w.heap.size + 1, 2, none⟩ = some (.int .i64 b) := by rw [hf.cell 2]; rfl
  have y3 : Wf.cell? ⟨w.heap.size + 1, 3, none⟩ = some (.string v) := by rw [hf.cell 3]; rfl
  have y4 : Wf.cell? ⟨w.heap.size + 1, 4, none⟩ = some (.int .i64 q) := by rw [hf.cell 4]; rfl
  have y5 : Wf.cell? ⟨w.heap.size + 1, 5, none⟩ = some (.bool false) := by rw [hf.cell 5]; rfl
  have y6 : Wf.cell? ⟨w.heap.size + 1, 6, none⟩ = some (.bool false) := by rw [hf.cell 6]; rfl
  clear hWf hf
  refine bodyPost_ret (v := .agg #[.int .i64 i, .int .i64 m, .int .i64 b, .string v, .int .i64 q, .bool false, .bool false]) (by simp [results, Try.results10, go_sem, y0, y1, y2, y3, y4, y5, y6]) rfl ⟨by rw [HQ.out], hB1⟩

end Go.Proofs.Ytilpcoebpinmfaa
