/-
  The walk of breakwaterlaw02.CrcTells. (The region's lines are printed by crctells.py.)
-/
import Derived.Test.YtbiclekpkijknaaRef
import Derived.Test.YtbiclekpkijknaaReg
import Derived.Laws.IdiomStrings
namespace Go.Proofs.Ytbiclekpkijknaa
open Go.RowKit

/-- string(b) -/
theorem run_str {w : World} {B n : Nat} {A : Option Addr} {l : List UInt8} (c : Nat) (h : Rd w B A n (cB l)) (hn : 0 < n) :
    (convert 22 9 (.slice A n c)).run Try.prog w = .ok (.string ⟨l.toArray⟩) w := by
  have hl : l.length = n := by have := h.1; simpa [cB] using this
  obtain ⟨ad, rfl, _, hc⟩ := h.2 hn
  subst hl
  exact run_convert_bytes_back (P := Try.prog) w 22 9 5 ad c l Try.underlying22 Try.underlying5 Try.underlying9 (fun j hj => hc j _ (by simp [cB, hj]))

theorem st_rd (xs : List Value) : Stable (fun q_ _ W => ∃ A, q_ = .slice A 4 4 ∧ Rd W W.heap.size A 4 xs) := by
  rintro x y W W' hb ⟨A, hx, hr⟩
  exact ⟨A, hx, (hr.below hb).more hb.size⟩

set_option maxRecDepth 100000 in
set_option maxHeartbeats 4000000 in
theorem ct_all (A : Option Addr) (n c : Nat) (l : List UInt8) (x y m : Int) (w : World) (ha : Rd w w.heap.size A n (cB l)) (hn : n ≤ 2000) (hm : m ≤ 600) (hm2 : -9223372036854775808 ≤ m) :
    Calls Try.prog 7 #[.slice A n c, .int .i64 x, .int .i64 y, .int .i64 m] w fun e w' => e = .returned (.bool true) ∧ Below w.heap.size w w' := by
  obtain ⟨V1, hV1⟩ : ∃ V, V = (sumB l).toNat := ⟨_, rfl⟩
  obtain ⟨V2, hV2⟩ : ∃ V, V = (addB (BitVec.ofInt 32 x) l).toNat := ⟨_, rfl⟩
  obtain ⟨V3, hV3⟩ : ∃ V, V = (steps (8 * m.toNat) (BitVec.ofInt 32 x)).toNat := ⟨_, rfl⟩
  obtain ⟨V4, hV4⟩ : ∃ V, V = (bsteps (8 * m.toNat) (BitVec.ofInt 32 x)).toNat := ⟨_, rfl⟩
  obtain ⟨V5, hV5⟩ : ∃ V, V = (steps (8 * m.toNat) (BitVec.ofInt 32 x) ^^^ BitVec.ofInt 32 y).toNat := ⟨_, rfl⟩
  obtain ⟨L4, hL4⟩ : ∃ L4, L4 = bytes4 (closeB l (BitVec.ofInt 32 y)) := ⟨_, rfl⟩
  obtain ⟨Z, hZ⟩ : ∃ Z : ByteArray, Z = ⟨L4.toArray⟩ := ⟨_, rfl⟩
  have c9 := fun W (h : Below w.heap.size w W) => sum_any A n c w.heap.size l W (ha.below h) h.size (by omega)
  have c15 := fun W (h : Below w.heap.size w W) => (rsum_any A n c w.heap.size l W (ha.below h) (by omega)).mono fun e w' (hh : e = _ ∧ W = w') => (show e = _ ∧ Below W.heap.size W w' from ⟨hh.1, hh.2 ▸ Below.refl _ _⟩)
  have c11 := fun W (h : Below w.heap.size w W) => add_any A n c w.heap.size l x W (ha.below h) h.size (by omega)
  have c16 := fun W (h : Below w.heap.size w W) => (radd_any A n c w.heap.size l x W (ha.below h) (by omega)).mono fun e w' (hh : e = _ ∧ W = w') => (show e = _ ∧ Below W.heap.size W w' from ⟨hh.1, hh.2 ▸ Below.refl _ _⟩)
  have c13 := fun W (_ : Below w.heap.size w W) => cmove_any x m W hm2 (by omega)
  have c17 := fun W (_ : Below w.heap.size w W) => (rmove_any x m W (by omega)).mono fun e w' (hh : e = _ ∧ W = w') => (show e = _ ∧ Below W.heap.size W w' from ⟨hh.1, hh.2 ▸ Below.refl _ _⟩)
  have c14 := fun W (_ : Below w.heap.size w W) => cback_any x m W hm2 (by omega)
  have c18 := fun W (_ : Below w.heap.size w W) => (rback_any x m W (by omega)).mono fun e w' (hh : e = _ ∧ W = w') => (show e = _ ∧ Below W.heap.size W w' from ⟨hh.1, hh.2 ▸ Below.refl _ _⟩)
  have c10 := fun W (_ : Below w.heap.size w W) => both_any x y m W hm2 (by omega)
  have c19 := fun W (_ : Below w.heap.size w W) => (rboth_any x y m W (by omega)).mono fun e w' (hh : e = _ ∧ W = w') => (show e = _ ∧ Below W.heap.size W w' from ⟨hh.1, hh.2 ▸ Below.refl _ _⟩)
  have c12 := fun W (h : Below w.heap.size w W) => close_any A n c w.heap.size l y W (ha.below h) h.size (by omega)
  have c20 := fun W (h : Below w.heap.size w W) => rclose_any A n c w.heap.size l y W (ha.below h) (by omega)
  have c8 := fun W (_ : Below w.heap.size w W) => wakes_any W
  rw [← hV1] at c9 c15
  rw [← hV2] at c11 c16
  rw [← hV3] at c13 c17
  rw [← hV4] at c14 c18
  rw [← hV5] at c10 c19
  rw [← hL4] at c12 c20
  have HZ := Lib.hid hZ
  have C9 := Lib.hid c9; have C15 := Lib.hid c15; have C11 := Lib.hid c11; have C16 := Lib.hid c16; have C13 := Lib.hid c13; have C17 := Lib.hid c17
  have C14 := Lib.hid c14; have C18 := Lib.hid c18; have C10 := Lib.hid c10; have C19 := Lib.hid c19; have C12 := Lib.hid c12; have C20 := Lib.hid c20; have C8 := Lib.hid c8
  clear c9 c15 c11 c16 c13 c17 c14 c18 c10 c19 c12 c20 c8 hV1 hV2 hV3 hV4 hV5 hL4 hZ ha
  go_enter Try.func7, Try.ntmps7
  go_wp2_with fail
  refine wp_region_grow ((fun q_ _ _ => q_ = .slice A n c) :: (fun q_ _ _ => q_ = .int .i64 (V1 : Int)) :: (fun q_ _ _ => q_ = .slice A n c) :: (fun q_ _ _ => q_ = .int .i64 (V1 : Int)) :: (fun q_ _ _ => q_ = .bool true) :: (fun q_ _ _ => q_ = .bool true) :: (fun q_ _ _ => q_ = .int .i64 x) :: (fun q_ _ _ => q_ = .slice A n c) :: (fun q_ _ _ => q_ = .int .i64 (V2 : Int)) :: (fun q_ _ _ => q_ = .int .i64 x) :: (fun q_ _ _ => q_ = .slice A n c) :: (fun q_ _ _ => q_ = .int .i64 (V2 : Int)) :: (fun q_ _ _ => q_ = .bool true) :: (fun q_ _ _ => q_ = .bool true) :: (fun q_ _ _ => q_ = .bool true) :: (fun q_ _ _ => q_ = .int .i64 x) :: (fun q_ _ _ => q_ = .int .i64 m) :: (fun q_ _ _ => q_ = .int .i64 (V3 : Int)) :: (fun q_ _ _ => q_ = .int .i64 x) :: (fun q_ _ _ => q_ = .int .i64 m) :: (fun q_ _ _ => q_ = .int .i64 (V3 : Int)) :: (fun q_ _ _ => q_ = .bool true) :: (fun q_ _ _ => q_ = .bool true) :: (fun q_ _ _ => q_ = .bool true) :: (fun q_ _ _ => q_ = .int .i64 x) :: (fun q_ _ _ => q_ = .int .i64 m) :: (fun q_ _ _ => q_ = .int .i64 (V4 : Int)) :: (fun q_ _ _ => q_ = .int .i64 x) :: (fun q_ _ _ => q_ = .int .i64 m) :: (fun q_ _ _ => q_ = .int .i64 (V4 : Int)) :: (fun q_ _ _ => q_ = .bool true) :: (fun q_ _ _ => q_ = .bool true) :: (fun q_ _ _ => q_ = .bool true) :: (fun q_ _ _ => q_ = .int .i64 x) :: (fun q_ _ _ => q_ = .int .i64 y) :: (fun q_ _ _ => q_ = .int .i64 m) :: (fun q_ _ _ => q_ = .int .i64 (V5 : Int)) :: (fun q_ _ _ => q_ = .int .i64 x) :: (fun q_ _ _ => q_ = .int .i64 y) :: (fun q_ _ _ => q_ = .int .i64 m) :: (fun q_ _ _ => q_ = .int .i64 (V5 : Int)) :: (fun q_ _ _ => q_ = .bool true) :: (fun q_ _ _ => q_ = .bool true) :: (fun q_ _ _ => q_ = .bool true) :: (fun q_ _ _ => q_ = .slice A n c) :: (fun q_ _ _ => q_ = .int .i64 y) :: (fun q_ _ W => ∃ A, q_ = .slice A 4 4 ∧ Rd W W.heap.size A 4 (cB L4)) :: (fun q_ _ _ => q_ = .string Z) :: (fun q_ _ _ => q_ = .slice A n c) :: (fun q_ _ _ => q_ = .int .i64 y) :: (fun q_ _ W => ∃ A, q_ = .slice A 4 4 ∧ Rd W W.heap.size A 4 (cB L4)) :: (fun q_ _ _ => q_ = .string Z) :: (fun q_ _ _ => q_ = .bool true) :: (fun q_ _ _ => q_ = .bool true) :: (fun q_ _ _ => q_ = .bool true) :: (fun q_ _ _ => q_ = .bool true) :: (fun q_ _ _ => q_ = .bool true) :: (fun q_ _ _ => q_ = .bool true) :: []) (fun j => j) (w.heap.size) w (by kernel_rfl) (by kernel_rfl) (Below.refl _ _) (Nat.le_refl _) ?zStab ?zOps ?zFin
  case zStab => exact ⟨st_is _, st_is _, st_is _, st_is _, st_is _, st_is _, st_is _, st_is _, st_is _, st_is _, st_is _, st_is _, st_is _, st_is _, st_is _, st_is _, st_is _, st_is _, st_is _, st_is _, st_is _, st_is _, st_is _, st_is _, st_is _, st_is _, st_is _, st_is _, st_is _, st_is _, st_is _, st_is _, st_is _, st_is _, st_is _, st_is _, st_is _, st_is _, st_is _, st_is _, st_is _, st_is _, st_is _, st_is _, st_is _, st_is _, st_rd _, st_is _, st_is _, st_is _, st_rd _, st_is _, st_is _, st_is _, st_is _, st_is _, st_is _, st_is _, trivial⟩
  case zOps =>
    refine ⟨?_, ?_, ?_, ?_, ?_, ?_, ?_, ?_, ?_, ?_, ?_, ?_, ?_, ?_, ?_, ?_, ?_, ?_, ?_, ?_, ?_, ?_, ?_, ?_, ?_, ?_, ?_, ?_, ?_, ?_, ?_, ?_, ?_, ?_, ?_, ?_, ?_, ?_, ?_, ?_, ?_, ?_, ?_, ?_, ?_, ?_, ?_, ?_, ?_, ?_, ?_, ?_, ?_, ?_, ?_, ?_, ?_, ?_, trivial⟩
    · intro ho a W hW hd hx
      have h0 : a.eval (.tmp 0) = .slice A n c := (hx 0 (dst_not (by kernel_rfl))).trans rfl
      exact op_value ho (want_none rfl) (v := .slice A n c) (by intro ρ hρ kc kf; rw [← hρ] at h0; clear hρ; simp [execOp, go_sem, h0]) ⟨_, rfl, (fun h => by cases h), rfl, Below.refl _ _⟩
    · intro ho a W hW hd hx
      have h17 : a.eval (.tmp 17) = .slice A n c := hd 0 (by kernel_rfl)
      refine op_call ho (want_none rfl) (by intro ρ hρ kc kf; rw [← hρ] at h17; clear hρ; simp [execOp, go_sem, kf, h17]) (C9.out W hW) ?_
      rintro e W2 ⟨rfl, k2⟩
      exact ⟨_, rfl, _, rfl, (fun h => by cases h), rfl, k2⟩
    · intro ho a W hW hd hx
      have h0 : a.eval (.tmp 0) = .slice A n c := (hx 0 (dst_not (by kernel_rfl))).trans rfl
      exact op_value ho (want_none rfl) (v := .slice A n c) (by intro ρ hρ kc kf; rw [← hρ] at h0; clear hρ; simp [execOp, go_sem, h0]) ⟨_, rfl, (fun h => by cases h), rfl, Below.refl _ _⟩
    · intro ho a W hW hd hx
      have h19 : a.eval (.tmp 19) = .slice A n c := hd 2 (by kernel_rfl)
      refine op_call ho (want_none rfl) (by intro ρ hρ kc kf; rw [← hρ] at h19; clear hρ; simp [execOp, go_sem, kf, h19]) (C15.out W hW) ?_
      rintro e W2 ⟨rfl, k2⟩
      exact ⟨_, rfl, _, rfl, (fun h => by cases h), rfl, k2⟩
    · intro ho a W hW hd hx
      have h18 : a.eval (.tmp 18) = .int .i64 (V1 : Int) := hd 1 (by kernel_rfl)
      have h20 : a.eval (.tmp 20) = .int .i64 (V1 : Int) := hd 3 (by kernel_rfl)
      exact op_value ho (want_none rfl) (v := .bool true) (by intro ρ hρ kc kf; rw [← hρ] at h18 h20; clear hρ; simp [execOp, go_sem, h18, h20]) ⟨_, rfl, (fun h => by cases h), rfl, Below.refl _ _⟩
    · intro ho a W hW hd hx
      have h21 : a.eval (.tmp 21) = .bool true := hd 4 (by kernel_rfl)
      exact op_value ho (want_none rfl) (v := .bool true) (by intro ρ hρ kc kf; rw [← hρ] at h21; clear hρ; simp [execOp, go_sem, h21]) ⟨_, rfl, (fun h => by cases h), rfl, Below.refl _ _⟩
    · intro ho a W hW hd hx
      have h22 : a.eval (.tmp 22) = .bool true := hd 5 (by kernel_rfl)
      have h1 : a.eval (.tmp 1) = .int .i64 x := (hx 1 (dst_not (by kernel_rfl))).trans rfl
      exact op_value ho (want_yes rfl (show valAt _ a 5 = _ from h22)) (v := .int .i64 x) (by intro ρ hρ kc kf; rw [← hρ] at h1; clear hρ; simp [execOp, go_sem, h1]) ⟨_, rfl, (fun h => by cases h), rfl, Below.refl _ _⟩
    · intro ho a W hW hd hx
      have h22 : a.eval (.tmp 22) = .bool true := hd 5 (by kernel_rfl)
      have h0 : a.eval (.tmp 0) = .slice A n c := (hx 0 (dst_not (by kernel_rfl))).trans rfl
      exact op_value ho (want_yes rfl (show valAt _ a 5 = _ from h22)) (v := .slice A n c) (by intro ρ hρ kc kf; rw [← hρ] at h0; clear hρ; simp [execOp, go_sem, h0]) ⟨_, rfl, (fun h => by cases h), rfl, Below.refl _ _⟩
    · intro ho a W hW hd hx
      have h22 : a.eval (.tmp 22) = .bool true := hd 5 (by kernel_rfl)
      have h23 : a.eval (.tmp 23) = .int .i64 x := hd 6 (by kernel_rfl)
      have h24 : a.eval (.tmp 24) = .slice A n c := hd 7 (by kernel_rfl)
      refine op_call ho (want_yes rfl (show valAt _ a 5 = _ from h22)) (by intro ρ hρ kc kf; rw [← hρ] at h23 h24; clear hρ; simp [execOp, go_sem, kf, h23, h24]) (C11.out W hW) ?_
      rintro e W2 ⟨rfl, k2⟩
      exact ⟨_, rfl, _, rfl, (fun h => by cases h), rfl, k2⟩
    · intro ho a W hW hd hx
      have h22 : a.eval (.tmp 22) = .bool true := hd 5 (by kernel_rfl)
      have h1 : a.eval (.tmp 1) = .int .i64 x := (hx 1 (dst_not (by kernel_rfl))).trans rfl
      exact op_value ho (want_yes rfl (show valAt _ a 5 = _ from h22)) (v := .int .i64 x) (by intro ρ hρ kc kf; rw [← hρ] at h1; clear hρ; simp [execOp, go_sem, h1]) ⟨_, rfl, (fun h => by cases h), rfl, Below.refl _ _⟩
    · intro ho a W hW hd hx
      have h22 : a.eval (.tmp 22) = .bool true := hd 5 (by kernel_rfl)
      have h0 : a.eval (.tmp 0) = .slice A n c := (hx 0 (dst_not (by kernel_rfl))).trans rfl
      exact op_value ho (want_yes rfl (show valAt _ a 5 = _ from h22)) (v := .slice A n c) (by intro ρ hρ kc kf; rw [← hρ] at h0; clear hρ; simp [execOp, go_sem, h0]) ⟨_, rfl, (fun h => by cases h), rfl, Below.refl _ _⟩
    · intro ho a W hW hd hx
      have h22 : a.eval (.tmp 22) = .bool true := hd 5 (by kernel_rfl)
      have h26 : a.eval (.tmp 26) = .int .i64 x := hd 9 (by kernel_rfl)
      have h27 : a.eval (.tmp 27) = .slice A n c := hd 10 (by kernel_rfl)
      refine op_call ho (want_yes rfl (show valAt _ a 5 = _ from h22)) (by intro ρ hρ kc kf; rw [← hρ] at h26 h27; clear hρ; simp [execOp, go_sem, kf, h26, h27]) (C16.out W hW) ?_
      rintro e W2 ⟨rfl, k2⟩
      exact ⟨_, rfl, _, rfl, (fun h => by cases h), rfl, k2⟩
    · intro ho a W hW hd hx
      have h22 : a.eval (.tmp 22) = .bool true := hd 5 (by kernel_rfl)
      have h25 : a.eval (.tmp 25) = .int .i64 (V2 : Int) := hd 8 (by kernel_rfl)
      have h28 : a.eval (.tmp 28) = .int .i64 (V2 : Int) := hd 11 (by kernel_rfl)
      exact op_value ho (want_yes rfl (show valAt _ a 5 = _ from h22)) (v := .bool true) (by intro ρ hρ kc kf; rw [← hρ] at h25 h28; clear hρ; simp [execOp, go_sem, h25, h28]) ⟨_, rfl, (fun h => by cases h), rfl, Below.refl _ _⟩
    · intro ho a W hW hd hx
      have h22 : a.eval (.tmp 22) = .bool true := hd 5 (by kernel_rfl)
      have h29 : a.eval (.tmp 29) = .bool true := hd 12 (by kernel_rfl)
      exact op_value ho (want_none rfl) (v := .bool true) (by intro ρ hρ kc kf; rw [← hρ] at h22 h29; clear hρ; simp [execOp, go_sem, kc, h22, h29]) ⟨_, rfl, (fun h => by cases h), rfl, Below.refl _ _⟩
    · intro ho a W hW hd hx
      have h30 : a.eval (.tmp 30) = .bool true := hd 13 (by kernel_rfl)
      exact op_value ho (want_none rfl) (v := .bool true) (by intro ρ hρ kc kf; rw [← hρ] at h30; clear hρ; simp [execOp, go_sem, h30]) ⟨_, rfl, (fun h => by cases h), rfl, Below.refl _ _⟩
    · intro ho a W hW hd hx
      have h31 : a.eval (.tmp 31) = .bool true := hd 14 (by kernel_rfl)
      have h1 : a.eval (.tmp 1) = .int .i64 x := (hx 1 (dst_not (by kernel_rfl))).trans rfl
      exact op_value ho (want_yes rfl (show valAt _ a 14 = _ from h31)) (v := .int .i64 x) (by intro ρ hρ kc kf; rw [← hρ] at h1; clear hρ; simp [execOp, go_sem, h1]) ⟨_, rfl, (fun h => by cases h), rfl, Below.refl _ _⟩
    · intro ho a W hW hd hx
      have h31 : a.eval (.tmp 31) = .bool true := hd 14 (by kernel_rfl)
      have h3 : a.eval (.tmp 3) = .int .i64 m := (hx 3 (dst_not (by kernel_rfl))).trans rfl
      exact op_value ho (want_yes rfl (show valAt _ a 14 = _ from h31)) (v := .int .i64 m) (by intro ρ hρ kc kf; rw [← hρ] at h3; clear hρ; simp [execOp, go_sem, h3]) ⟨_, rfl, (fun h => by cases h), rfl, Below.refl _ _⟩
    · intro ho a W hW hd hx
      have h31 : a.eval (.tmp 31) = .bool true := hd 14 (by kernel_rfl)
      have h32 : a.eval (.tmp 32) = .int .i64 x := hd 15 (by kernel_rfl)
      have h33 : a.eval (.tmp 33) = .int .i64 m := hd 16 (by kernel_rfl)
      refine op_call ho (want_yes rfl (show valAt _ a 14 = _ from h31)) (by intro ρ hρ kc kf; rw [← hρ] at h32 h33; clear hρ; simp [execOp, go_sem, kf, h32, h33]) (C13.out W hW) ?_
      rintro e W2 ⟨rfl, k2⟩
      exact ⟨_, rfl, _, rfl, (fun h => by cases h), rfl, k2⟩
    · intro ho a W hW hd hx
      have h31 : a.eval (.tmp 31) = .bool true := hd 14 (by kernel_rfl)
      have h1 : a.eval (.tmp 1) = .int .i64 x := (hx 1 (dst_not (by kernel_rfl))).trans rfl
      exact op_value ho (want_yes rfl (show valAt _ a 14 = _ from h31)) (v := .int .i64 x) (by intro ρ hρ kc kf; rw [← hρ] at h1; clear hρ; simp [execOp, go_sem, h1]) ⟨_, rfl, (fun h => by cases h), rfl, Below.refl _ _⟩
    · intro ho a W hW hd hx
      have h31 : a.eval (.tmp 31) = .bool true := hd 14 (by kernel_rfl)
      have h3 : a.eval (.tmp 3) = .int .i64 m := (hx 3 (dst_not (by kernel_rfl))).trans rfl
      exact op_value ho (want_yes rfl (show valAt _ a 14 = _ from h31)) (v := .int .i64 m) (by intro ρ hρ kc kf; rw [← hρ] at h3; clear hρ; simp [execOp, go_sem, h3]) ⟨_, rfl, (fun h => by cases h), rfl, Below.refl _ _⟩
    · intro ho a W hW hd hx
      have h31 : a.eval (.tmp 31) = .bool true := hd 14 (by kernel_rfl)
      have h35 : a.eval (.tmp 35) = .int .i64 x := hd 18 (by kernel_rfl)
      have h36 : a.eval (.tmp 36) = .int .i64 m := hd 19 (by kernel_rfl)
      refine op_call ho (want_yes rfl (show valAt _ a 14 = _ from h31)) (by intro ρ hρ kc kf; rw [← hρ] at h35 h36; clear hρ; simp [execOp, go_sem, kf, h35, h36]) (C17.out W hW) ?_
      rintro e W2 ⟨rfl, k2⟩
      exact ⟨_, rfl, _, rfl, (fun h => by cases h), rfl, k2⟩
    · intro ho a W hW hd hx
      have h31 : a.eval (.tmp 31) = .bool true := hd 14 (by kernel_rfl)
      have h34 : a.eval (.tmp 34) = .int .i64 (V3 : Int) := hd 17 (by kernel_rfl)
      have h37 : a.eval (.tmp 37) = .int .i64 (V3 : Int) := hd 20 (by kernel_rfl)
      exact op_value ho (want_yes rfl (show valAt _ a 14 = _ from h31)) (v := .bool true) (by intro ρ hρ kc kf; rw [← hρ] at h34 h37; clear hρ; simp [execOp, go_sem, h34, h37]) ⟨_, rfl, (fun h => by cases h), rfl, Below.refl _ _⟩
    · intro ho a W hW hd hx
      have h31 : a.eval (.tmp 31) = .bool true := hd 14 (by kernel_rfl)
      have h38 : a.eval (.tmp 38) = .bool true := hd 21 (by kernel_rfl)
      exact op_value ho (want_none rfl) (v := .bool true) (by intro ρ hρ kc kf; rw [← hρ] at h31 h38; clear hρ; simp [execOp, go_sem, kc, h31, h38]) ⟨_, rfl, (fun h => by cases h), rfl, Below.refl _ _⟩
    · intro ho a W hW hd hx
      have h39 : a.eval (.tmp 39) = .bool true := hd 22 (by kernel_rfl)
      exact op_value ho (want_none rfl) (v := .bool true) (by intro ρ hρ kc kf; rw [← hρ] at h39; clear hρ; simp [execOp, go_sem, h39]) ⟨_, rfl, (fun h => by cases h), rfl, Below.refl _ _⟩
    · intro ho a W hW hd hx
      have h40 : a.eval (.tmp 40) = .bool true := hd 23 (by kernel_rfl)
      have h1 : a.eval (.tmp 1) = .int .i64 x := (hx 1 (dst_not (by kernel_rfl))).trans rfl
      exact op_value ho (want_yes rfl (show valAt _ a 23 = _ from h40)) (v := .int .i64 x) (by intro ρ hρ kc kf; rw [← hρ] at h1; clear hρ; simp [execOp, go_sem, h1]) ⟨_, rfl, (fun h => by cases h), rfl, Below.refl _ _⟩
    · intro ho a W hW hd hx
      have h40 : a.eval (.tmp 40) = .bool true := hd 23 (by kernel_rfl)
      have h3 : a.eval (.tmp 3) = .int .i64 m := (hx 3 (dst_not (by kernel_rfl))).trans rfl
      exact op_value ho (want_yes rfl (show valAt _ a 23 = _ from h40)) (v := .int .i64 m) (by intro ρ hρ kc kf; rw [← hρ] at h3; clear hρ; simp [execOp, go_sem, h3]) ⟨_, rfl, (fun h => by cases h), rfl, Below.refl _ _⟩
    · intro ho a W hW hd hx
      have h40 : a.eval (.tmp 40) = .bool true := hd 23 (by kernel_rfl)
      have h41 : a.eval (.tmp 41) = .int .i64 x := hd 24 (by kernel_rfl)
      have h42 : a.eval (.tmp 42) = .int .i64 m := hd 25 (by kernel_rfl)
      refine op_call ho (want_yes rfl (show valAt _ a 23 = _ from h40)) (by intro ρ hρ kc kf; rw [← hρ] at h41 h42; clear hρ; simp [execOp, go_sem, kf, h41, h42]) (C14.out W hW) ?_
      rintro e W2 ⟨rfl, k2⟩
      exact ⟨_, rfl, _, rfl, (fun h => by cases h), rfl, k2⟩
    · intro ho a W hW hd hx
      have h40 : a.eval (.tmp 40) = .bool true := hd 23 (by kernel_rfl)
      have h1 : a.eval (.tmp 1) = .int .i64 x := (hx 1 (dst_not (by kernel_rfl))).trans rfl
      exact op_value ho (want_yes rfl (show valAt _ a 23 = _ from h40)) (v := .int .i64 x) (by intro ρ hρ kc kf; rw [← hρ] at h1; clear hρ; simp [execOp, go_sem, h1]) ⟨_, rfl, (fun h => by cases h), rfl, Below.refl _ _⟩
    · intro ho a W hW hd hx
      have h40 : a.eval (.tmp 40) = .bool true := hd 23 (by kernel_rfl)
      have h3 : a.eval (.tmp 3) = .int .i64 m := (hx 3 (dst_not (by kernel_rfl))).trans rfl
      exact op_value ho (want_yes rfl (show valAt _ a 23 = _ from h40)) (v := .int .i64 m) (by intro ρ hρ kc kf; rw [← hρ] at h3; clear hρ; simp [execOp, go_sem, h3]) ⟨_, rfl, (fun h => by cases h), rfl, Below.refl _ _⟩
    · intro ho a W hW hd hx
      have h40 : a.eval (.tmp 40) = .bool true := hd 23 (by kernel_rfl)
      have h44 : a.eval (.tmp 44) = .int .i64 x := hd 27 (by kernel_rfl)
      have h45 : a.eval (.tmp 45) = .int .i64 m := hd 28 (by kernel_rfl)
      refine op_call ho (want_yes rfl (show valAt _ a 23 = _ from h40)) (by intro ρ hρ kc kf; rw [← hρ] at h44 h45; clear hρ; simp [execOp, go_sem, kf, h44, h45]) (C18.out W hW) ?_
      rintro e W2 ⟨rfl, k2⟩
      exact ⟨_, rfl, _, rfl, (fun h => by cases h), rfl, k2⟩
    · intro ho a W hW hd hx
      have h40 : a.eval (.tmp 40) = .bool true := hd 23 (by kernel_rfl)
      have h43 : a.eval (.tmp 43) = .int .i64 (V4 : Int) := hd 26 (by kernel_rfl)
      have h46 : a.eval (.tmp 46) = .int .i64 (V4 : Int) := hd 29 (by kernel_rfl)
      exact op_value ho (want_yes rfl (show valAt _ a 23 = _ from h40)) (v := .bool true) (by intro ρ hρ kc kf; rw [← hρ] at h43 h46; clear hρ; simp [execOp, go_sem, h43, h46]) ⟨_, rfl, (fun h => by cases h), rfl, Below.refl _ _⟩
    · intro ho a W hW hd hx
      have h40 : a.eval (.tmp 40) = .bool true := hd 23 (by kernel_rfl)
      have h47 : a.eval (.tmp 47) = .bool true := hd 30 (by kernel_rfl)
      exact op_value ho (want_none rfl) (v := .bool true) (by intro ρ hρ kc kf; rw [← hρ] at h40 h47; clear hρ; simp [execOp, go_sem, kc, h40, h47]) ⟨_, rfl, (fun h => by cases h), rfl, Below.refl _ _⟩
    · intro ho a W hW hd hx
      have h48 : a.eval (.tmp 48) = .bool true := hd 31 (by kernel_rfl)
      exact op_value ho (want_none rfl) (v := .bool true) (by intro ρ hρ kc kf; rw [← hρ] at h48; clear hρ; simp [execOp, go_sem, h48]) ⟨_, rfl, (fun h => by cases h), rfl, Below.refl _ _⟩
    · intro ho a W hW hd hx
      have h49 : a.eval (.tmp 49) = .bool true := hd 32 (by kernel_rfl)
      have h1 : a.eval (.tmp 1) = .int .i64 x := (hx 1 (dst_not (by kernel_rfl))).trans rfl
      exact op_value ho (want_yes rfl (show valAt _ a 32 = _ from h49)) (v := .int .i64 x) (by intro ρ hρ kc kf; rw [← hρ] at h1; clear hρ; simp [execOp, go_sem, h1]) ⟨_, rfl, (fun h => by cases h), rfl, Below.refl _ _⟩
    · intro ho a W hW hd hx
      have h49 : a.eval (.tmp 49) = .bool true := hd 32 (by kernel_rfl)
      have h2 : a.eval (.tmp 2) = .int .i64 y := (hx 2 (dst_not (by kernel_rfl))).trans rfl
      exact op_value ho (want_yes rfl (show valAt _ a 32 = _ from h49)) (v := .int .i64 y) (by intro ρ hρ kc kf; rw [← hρ] at h2; clear hρ; simp [execOp, go_sem, h2]) ⟨_, rfl, (fun h => by cases h), rfl, Below.refl _ _⟩
    · intro ho a W hW hd hx
      have h49 : a.eval (.tmp 49) = .bool true := hd 32 (by kernel_rfl)
      have h3 : a.eval (.tmp 3) = .int .i64 m := (hx 3 (dst_not (by kernel_rfl))).trans rfl
      exact op_value ho (want_yes rfl (show valAt _ a 32 = _ from h49)) (v := .int .i64 m) (by intro ρ hρ kc kf; rw [← hρ] at h3; clear hρ; simp [execOp, go_sem, h3]) ⟨_, rfl, (fun h => by cases h), rfl, Below.refl _ _⟩
    · intro ho a W hW hd hx
      have h49 : a.eval (.tmp 49) = .bool true := hd 32 (by kernel_rfl)
      have h50 : a.eval (.tmp 50) = .int .i64 x := hd 33 (by kernel_rfl)
      have h51 : a.eval (.tmp 51) = .int .i64 y := hd 34 (by kernel_rfl)
      have h52 : a.eval (.tmp 52) = .int .i64 m := hd 35 (by kernel_rfl)
      refine op_call ho (want_yes rfl (show valAt _ a 32 = _ from h49)) (by intro ρ hρ kc kf; rw [← hρ] at h50 h51 h52; clear hρ; simp [execOp, go_sem, kf, h50, h51, h52]) (C10.out W hW) ?_
      rintro e W2 ⟨rfl, k2⟩
      exact ⟨_, rfl, _, rfl, (fun h => by cases h), rfl, k2⟩
    · intro ho a W hW hd hx
      have h49 : a.eval (.tmp 49) = .bool true := hd 32 (by kernel_rfl)
      have h1 : a.eval (.tmp 1) = .int .i64 x := (hx 1 (dst_not (by kernel_rfl))).trans rfl
      exact op_value ho (want_yes rfl (show valAt _ a 32 = _ from h49)) (v := .int .i64 x) (by intro ρ hρ kc kf; rw [← hρ] at h1; clear hρ; simp [execOp, go_sem, h1]) ⟨_, rfl, (fun h => by cases h), rfl, Below.refl _ _⟩
    · intro ho a W hW hd hx
      have h49 : a.eval (.tmp 49) = .bool true := hd 32 (by kernel_rfl)
      have h2 : a.eval (.tmp 2) = .int .i64 y := (hx 2 (dst_not (by kernel_rfl))).trans rfl
      exact op_value ho (want_yes rfl (show valAt _ a 32 = _ from h49)) (v := .int .i64 y) (by intro ρ hρ kc kf; rw [← hρ] at h2; clear hρ; simp [execOp, go_sem, h2]) ⟨_, rfl, (fun h => by cases h), rfl, Below.refl _ _⟩
    · intro ho a W hW hd hx
      have h49 : a.eval (.tmp 49) = .bool true := hd 32 (by kernel_rfl)
      have h3 : a.eval (.tmp 3) = .int .i64 m := (hx 3 (dst_not (by kernel_rfl))).trans rfl
      exact op_value ho (want_yes rfl (show valAt _ a 32 = _ from h49)) (v := .int .i64 m) (by intro ρ hρ kc kf; rw [← hρ] at h3; clear hρ; simp [execOp, go_sem, h3]) ⟨_, rfl, (fun h => by cases h), rfl, Below.refl _ _⟩
    · intro ho a W hW hd hx
      have h49 : a.eval (.tmp 49) = .bool true := hd 32 (by kernel_rfl)
      have h54 : a.eval (.tmp 54) = .int .i64 x := hd 37 (by kernel_rfl)
      have h55 : a.eval (.tmp 55) = .int .i64 y := hd 38 (by kernel_rfl)
      have h56 : a.eval (.tmp 56) = .int .i64 m := hd 39 (by kernel_rfl)
      refine op_call ho (want_yes rfl (show valAt _ a 32 = _ from h49)) (by intro ρ hρ kc kf; rw [← hρ] at h54 h55 h56; clear hρ; simp [execOp, go_sem, kf, h54, h55, h56]) (C19.out W hW) ?_
      rintro e W2 ⟨rfl, k2⟩
      exact ⟨_, rfl, _, rfl, (fun h => by cases h), rfl, k2⟩
    · intro ho a W hW hd hx
      have h49 : a.eval (.tmp 49) = .bool true := hd 32 (by kernel_rfl)
      have h53 : a.eval (.tmp 53) = .int .i64 (V5 : Int) := hd 36 (by kernel_rfl)
      have h57 : a.eval (.tmp 57) = .int .i64 (V5 : Int) := hd 40 (by kernel_rfl)
      exact op_value ho (want_yes rfl (show valAt _ a 32 = _ from h49)) (v := .bool true) (by intro ρ hρ kc kf; rw [← hρ] at h53 h57; clear hρ; simp [execOp, go_sem, h53, h57]) ⟨_, rfl, (fun h => by cases h), rfl, Below.refl _ _⟩
    · intro ho a W hW hd hx
      have h49 : a.eval (.tmp 49) = .bool true := hd 32 (by kernel_rfl)
      have h58 : a.eval (.tmp 58) = .bool true := hd 41 (by kernel_rfl)
      exact op_value ho (want_none rfl) (v := .bool true) (by intro ρ hρ kc kf; rw [← hρ] at h49 h58; clear hρ; simp [execOp, go_sem, kc, h49, h58]) ⟨_, rfl, (fun h => by cases h), rfl, Below.refl _ _⟩
    · intro ho a W hW hd hx
      have h59 : a.eval (.tmp 59) = .bool true := hd 42 (by kernel_rfl)
      exact op_value ho (want_none rfl) (v := .bool true) (by intro ρ hρ kc kf; rw [← hρ] at h59; clear hρ; simp [execOp, go_sem, h59]) ⟨_, rfl, (fun h => by cases h), rfl, Below.refl _ _⟩
    · intro ho a W hW hd hx
      have h60 : a.eval (.tmp 60) = .bool true := hd 43 (by kernel_rfl)
      have h0 : a.eval (.tmp 0) = .slice A n c := (hx 0 (dst_not (by kernel_rfl))).trans rfl
      exact op_value ho (want_yes rfl (show valAt _ a 43 = _ from h60)) (v := .slice A n c) (by intro ρ hρ kc kf; rw [← hρ] at h0; clear hρ; simp [execOp, go_sem, h0]) ⟨_, rfl, (fun h => by cases h), rfl, Below.refl _ _⟩
    · intro ho a W hW hd hx
      have h60 : a.eval (.tmp 60) = .bool true := hd 43 (by kernel_rfl)
      have h2 : a.eval (.tmp 2) = .int .i64 y := (hx 2 (dst_not (by kernel_rfl))).trans rfl
      exact op_value ho (want_yes rfl (show valAt _ a 43 = _ from h60)) (v := .int .i64 y) (by intro ρ hρ kc kf; rw [← hρ] at h2; clear hρ; simp [execOp, go_sem, h2]) ⟨_, rfl, (fun h => by cases h), rfl, Below.refl _ _⟩
    · intro ho a W hW hd hx
      have h60 : a.eval (.tmp 60) = .bool true := hd 43 (by kernel_rfl)
      have h61 : a.eval (.tmp 61) = .slice A n c := hd 44 (by kernel_rfl)
      have h62 : a.eval (.tmp 62) = .int .i64 y := hd 45 (by kernel_rfl)
      refine op_call ho (want_yes rfl (show valAt _ a 43 = _ from h60)) (by intro ρ hρ kc kf; rw [← hρ] at h61 h62; clear hρ; simp [execOp, go_sem, kf, h61, h62]) (C12.out W hW) ?_
      rintro e W2 ⟨A2, rfl, r2, k2⟩
      exact ⟨_, rfl, _, rfl, (fun h => by cases h), ⟨A2, rfl, r2⟩, k2⟩
    · intro ho a W hW hd hx
      have h60 : a.eval (.tmp 60) = .bool true := hd 43 (by kernel_rfl)
      have p46 := hd 46 (by kernel_rfl)
      obtain ⟨A63, h63, r63⟩ : ∃ A, a.eval (.tmp 63) = .slice A 4 4 ∧ Rd W W.heap.size A 4 (cB L4) := p46
      have hc := run_str 4 r63 (by decide)
      rw [← HZ.out] at hc
      exact op_value ho (want_yes rfl (show valAt _ a 43 = _ from h60)) (v := .string Z) (by intro ρ hρ kc kf; rw [← hρ] at h63; clear hρ; simp [execOp, go_sem, h63, hc]) ⟨_, rfl, (fun h => by cases h), rfl, Below.refl _ _⟩
    · intro ho a W hW hd hx
      have h60 : a.eval (.tmp 60) = .bool true := hd 43 (by kernel_rfl)
      have h0 : a.eval (.tmp 0) = .slice A n c := (hx 0 (dst_not (by kernel_rfl))).trans rfl
      exact op_value ho (want_yes rfl (show valAt _ a 43 = _ from h60)) (v := .slice A n c) (by intro ρ hρ kc kf; rw [← hρ] at h0; clear hρ; simp [execOp, go_sem, h0]) ⟨_, rfl, (fun h => by cases h), rfl, Below.refl _ _⟩
    · intro ho a W hW hd hx
      have h60 : a.eval (.tmp 60) = .bool true := hd 43 (by kernel_rfl)
      have h2 : a.eval (.tmp 2) = .int .i64 y := (hx 2 (dst_not (by kernel_rfl))).trans rfl
      exact op_value ho (want_yes rfl (show valAt _ a 43 = _ from h60)) (v := .int .i64 y) (by intro ρ hρ kc kf; rw [← hρ] at h2; clear hρ; simp [execOp, go_sem, h2]) ⟨_, rfl, (fun h => by cases h), rfl, Below.refl _ _⟩
    · intro ho a W hW hd hx
      have h60 : a.eval (.tmp 60) = .bool true := hd 43 (by kernel_rfl)
      have h65 : a.eval (.tmp 65) = .slice A n c := hd 48 (by kernel_rfl)
      have h66 : a.eval (.tmp 66) = .int .i64 y := hd 49 (by kernel_rfl)
      refine op_call ho (want_yes rfl (show valAt _ a 43 = _ from h60)) (by intro ρ hρ kc kf; rw [← hρ] at h65 h66; clear hρ; simp [execOp, go_sem, kf, h65, h66]) (C20.out W hW) ?_
      rintro e W2 ⟨A2, rfl, r2, k2⟩
      exact ⟨_, rfl, _, rfl, (fun h => by cases h), ⟨A2, rfl, r2⟩, k2⟩
    · intro ho a W hW hd hx
      have h60 : a.eval (.tmp 60) = .bool true := hd 43 (by kernel_rfl)
      have p50 := hd 50 (by kernel_rfl)
      obtain ⟨A67, h67, r67⟩ : ∃ A, a.eval (.tmp 67) = .slice A 4 4 ∧ Rd W W.heap.size A 4 (cB L4) := p50
      have hc := run_str 4 r67 (by decide)
      rw [← HZ.out] at hc
      exact op_value ho (want_yes rfl (show valAt _ a 43 = _ from h60)) (v := .string Z) (by intro ρ hρ kc kf; rw [← hρ] at h67; clear hρ; simp [execOp, go_sem, h67, hc]) ⟨_, rfl, (fun h => by cases h), rfl, Below.refl _ _⟩
    · intro ho a W hW hd hx
      have h60 : a.eval (.tmp 60) = .bool true := hd 43 (by kernel_rfl)
      have h64 : a.eval (.tmp 64) = .string Z := hd 47 (by kernel_rfl)
      have h68 : a.eval (.tmp 68) = .string Z := hd 51 (by kernel_rfl)
      exact op_value ho (want_yes rfl (show valAt _ a 43 = _ from h60)) (v := .bool true) (by intro ρ hρ kc kf; rw [← hρ] at h64 h68; clear hρ; simp [execOp, go_sem, h64, h68]) ⟨_, rfl, (fun h => by cases h), rfl, Below.refl _ _⟩
    · intro ho a W hW hd hx
      have h60 : a.eval (.tmp 60) = .bool true := hd 43 (by kernel_rfl)
      have h69 : a.eval (.tmp 69) = .bool true := hd 52 (by kernel_rfl)
      exact op_value ho (want_none rfl) (v := .bool true) (by intro ρ hρ kc kf; rw [← hρ] at h60 h69; clear hρ; simp [execOp, go_sem, kc, h60, h69]) ⟨_, rfl, (fun h => by cases h), rfl, Below.refl _ _⟩
    · intro ho a W hW hd hx
      have h70 : a.eval (.tmp 70) = .bool true := hd 53 (by kernel_rfl)
      exact op_value ho (want_none rfl) (v := .bool true) (by intro ρ hρ kc kf; rw [← hρ] at h70; clear hρ; simp [execOp, go_sem, h70]) ⟨_, rfl, (fun h => by cases h), rfl, Below.refl _ _⟩
    · intro ho a W hW hd hx
      have h71 : a.eval (.tmp 71) = .bool true := hd 54 (by kernel_rfl)
      refine op_call ho (want_yes rfl (show valAt _ a 54 = _ from h71)) (by intro ρ hρ kc kf; clear hρ; simp [execOp, go_sem, kf]) (C8.out W hW) ?_
      rintro e W2 ⟨rfl, k2⟩
      exact ⟨_, rfl, _, rfl, (fun h => by cases h), rfl, k2⟩
    · intro ho a W hW hd hx
      have h71 : a.eval (.tmp 71) = .bool true := hd 54 (by kernel_rfl)
      have h72 : a.eval (.tmp 72) = .bool true := hd 55 (by kernel_rfl)
      exact op_value ho (want_none rfl) (v := .bool true) (by intro ρ hρ kc kf; rw [← hρ] at h71 h72; clear hρ; simp [execOp, go_sem, kc, h71, h72]) ⟨_, rfl, (fun h => by cases h), rfl, Below.refl _ _⟩
    · intro ho a W hW hd hx
      have h73 : a.eval (.tmp 73) = .bool true := hd 56 (by kernel_rfl)
      exact op_value ho (want_none rfl) (v := .bool true) (by intro ρ hρ kc kf; rw [← hρ] at h73; clear hρ; simp [execOp, go_sem, h73]) ⟨_, rfl, (fun h => by cases h), rfl, Below.refl _ _⟩
  case zFin =>
    intro v W hW hv
    have h57 : v 57 = .bool true := hv 57 (by decide)
    simp only [fillL, Act.put]
    go_wp2
    go_ret
    exact ⟨rfl, hW⟩

theorem ct_long (A : Option Addr) (n c : Nat) (x y m : Int) (w : World) (hn : 2000 < n) :
    Calls Try.prog 7 #[.slice A n c, .int .i64 x, .int .i64 y, .int .i64 m] w fun e w' => e = .returned (.bool true) ∧ Below w.heap.size w w' := by
  have hn' : (2000 : Int) < (n : Int) := by omega
  have HC := Lib.hid (wakes_any w)
  go_enter Try.func7, Try.ntmps7
  go_wp2_with fail
  refine HC.out.mono ?_
  rintro e w1 ⟨rfl, hb⟩
  go_wp2
  go_ret
  exact ⟨rfl, hb⟩

theorem ct_far (A : Option Addr) (n c : Nat) (x y m : Int) (w : World) (hn : n ≤ 2000) (hm : 600 < m) :
    Calls Try.prog 7 #[.slice A n c, .int .i64 x, .int .i64 y, .int .i64 m] w fun e w' => e = .returned (.bool true) ∧ Below w.heap.size w w' := by
  have hn' : ¬ (2000 : Int) < (n : Int) := by omega
  have HC := Lib.hid (wakes_any w)
  go_enter Try.func7, Try.ntmps7
  go_wp2_with fail
  refine HC.out.mono ?_
  rintro e w1 ⟨rfl, hb⟩
  go_wp2
  go_ret
  exact ⟨rfl, hb⟩

theorem ct_any (A : Option Addr) (n c : Nat) (l : List UInt8) (x y m : Int) (w : World) (ha : Rd w w.heap.size A n (cB l)) (hm2 : -9223372036854775808 ≤ m) :
    Calls Try.prog 7 #[.slice A n c, .int .i64 x, .int .i64 y, .int .i64 m] w fun e w' => e = .returned (.bool true) ∧ Below w.heap.size w w' := by
  by_cases hn : n ≤ 2000
  · by_cases hm : m ≤ 600
    · exact ct_all A n c l x y m w ha hn hm hm2
    · exact ct_far A n c x y m w hn (by omega)
  · exact ct_long A n c x y m w (by omega)

end Go.Proofs.Ytbiclekpkijknaa
