/-
  The contract of the summer's put.
-/
import Derived.Test.YtbiclekpkijknaaSum
namespace Go.Proofs.Ytbiclekpkijknaa
open Go.RowKit

theorem Sm.set {w : World} {g : Nat} {x : BitVec 32} (h : Sm w g x) (y : BitVec 32) : Sm (w.setCell ⟨g, 0, none⟩ (U y)) g y := by
  obtain ⟨cs, hb, hs, h0, ht⟩ := h
  refine ⟨cs.setIfInBounds 0 (U y), hb.set_ 0 _, by rw [Array.size_setIfInBounds]; exact hs, ?_, fun i hi => ?_⟩
  · rw [Array.getElem?_setIfInBounds_self_of_lt (by omega)]
  · rw [Array.getElem?_setIfInBounds_ne (by omega)]; exact ht i hi
theorem Sm.drew {w : World} {g : Nat} {x : BitVec 32} (h : Sm w g x) : Sm w.drew g x := h
theorem Sm.cell0 {w : World} {g : Nat} {x : BitVec 32} (h : Sm w g x) : w.cell? ⟨g, 0, none⟩ = some (.int .u32 (x.toNat : Int)) := by
  obtain ⟨cs, hb, hs, h0, ht⟩ := h
  rw [hb.cell 0]; exact h0
theorem Sm.cellT {w : World} {g : Nat} {x : BitVec 32} (h : Sm w g x) (i : Nat) (hi : i < 16) : w.cell? ⟨g, 1 + i, none⟩ = some (.int .u32 ((tab i).toNat : Int)) := by
  obtain ⟨cs, hb, hs, h0, ht⟩ := h
  rw [hb.cell (1 + i)]; exact ht i hi
theorem Sm.frozen {w : World} {g : Nat} {x : BitVec 32} (h : Sm w g x) (i : Nat) : w.frozen? ⟨g, i, none⟩ = false := by
  obtain ⟨cs, hb, hs, h0, ht⟩ := h
  exact hb.frozen i
theorem Sm.lt {w : World} {g : Nat} {x : BitVec 32} (h : Sm w g x) : g < w.heap.size := by
  obtain ⟨cs, hb, _⟩ := h
  exact hb.lt

theorem and15_walk (x : BitVec 32) : bits BinOp.and IntKind.u32 (x.toNat : Int) 15 = ((x &&& 15#32).toNat : Int) := and_u32 x 15#32
theorem and15_lt (x : BitVec 32) : (x &&& 15#32).toNat < 16 := by
  rw [BitVec.toNat_and]
  exact Nat.lt_of_le_of_lt Nat.and_le_right (by decide)
theorem nib_walk (x : BitVec 32) : bits BinOp.xor IntKind.u32 ((x.toNat : Int) / 16) ((tab (x &&& 15#32).toNat).toNat : Int) = ((steps 4 x).toNat : Int) := by
  have e : (x.toNat : Int) / (16 : Int) = ((x >>> 4).toNat : Int) := by
    rw [BitVec.toNat_ushiftRight, Nat.shiftRight_eq_div_pow]; omega
  rw [e, xor_u32, four_bits x]
  unfold tab
  rw [BitVec.ofNat_toNat, BitVec.setWidth_eq]
theorem byte_u32 (x : BitVec 32) (b : UInt8) : bits BinOp.xor IntKind.u32 (x.toNat : Int) (b.toNat : Int) = ((x ^^^ wB b).toNat : Int) := by
  have e : (b.toNat : Int) = ((wB b).toNat : Int) := by
    have := b.toNat_lt
    unfold wB
    rw [BitVec.toNat_ofNat, Nat.mod_eq_of_lt (by omega)]
  rw [e, xor_u32]

set_option maxHeartbeats 1000000 in
theorem put_any (g : Nat) (A : Option Addr) (n c B : Nat) (l : List UInt8) (x : BitVec 32) (w : World) (hs : Sm w g x) (hl : Rd w B A n (cB l)) (hB : B ≤ g) (hn : n ≤ 1000000) :
    Calls Try.prog 22 #[.pointer (some ⟨g, 0, none⟩), .slice A n c] w fun e w' => e = .returned (.pointer (some ⟨g, 0, none⟩)) ∧ Sm w' g (puts x l) ∧ w.grownBy w' (some g) := by
  have hgw := hs.lt
  go_enter Try.func22, Try.ntmps22
  go_wp2
  go_loopw [9] (fun i wr => ∃ k : Nat, k ≤ n ∧ i = .int .i64 k ∧ Sm wr g (puts x (l.take k)) ∧ w.grownBy wr (some g)) (fun i _ => n - (intOf i).toNat)
  case atStart => exact ⟨0, Nat.zero_le _, rfl, by simpa [puts] using hs, World.grownBy.refl _ _⟩
  case round =>
    obtain ⟨k, hk, rfl, hsk, hgr⟩ := hrel
    by_cases hkn : k < n
    · have hlr := hl.grown hgr (by omega) (fun g' hg' => by injection hg' with e; omega)
      obtain ⟨ad, u, rfl, had, hu, hc⟩ := hlr.at_ hkn
      simp only [cB, List.getElem?_map] at hu
      obtain ⟨b, hb, rfl⟩ := Option.map_eq_some_iff.1 hu
      have HB := Lib.hid hb
      have hne : ad.block ≠ g := by omega
      clear hlr hl hs hu hb
      obtain ⟨y, hy⟩ : ∃ y, y = puts x (l.take k) := ⟨_, rfl⟩
      rw [← hy] at hsk
      obtain ⟨v0, hv0⟩ : ∃ v0, v0 = y.toNat := ⟨_, rfl⟩
      obtain ⟨bn, hbn⟩ : ∃ bn, bn = b.toNat := ⟨_, rfl⟩
      obtain ⟨x1, hx⟩ : ∃ x1, x1 = y ^^^ wB b := ⟨_, rfl⟩
      obtain ⟨v1, hv1⟩ : ∃ v1, v1 = x1.toNat := ⟨_, rfl⟩
      have b00 : v0 < 4294967296 := by rw [hv0]; exact y.isLt
      have b01 : bn < 256 := by rw [hbn]; exact b.toNat_lt
      have b2 : v1 < 4294967296 := by rw [hv1]; exact x1.isLt
      have h0 := hsk.cell0
      rw [← hv0] at h0
      rw [← hbn] at hc
      have hf0 := hsk.frozen 0
      have hx1 : bits BinOp.xor IntKind.u32 (v0 : Int) (bn : Int) = (v1 : Int) := by rw [hv0, hbn, hv1, hx]; exact byte_u32 y b
      have s1 : Sm (wr.setCell ⟨g, 0, none⟩ (.int .u32 (v1 : Int))) g x1 := by rw [hv1]; exact hsk.set x1
      have r1 := only_set hgr 0 (.int .u32 (v1 : Int))
      obtain ⟨W1, hW1⟩ : ∃ W1, W1 = wr.setCell ⟨g, 0, none⟩ (.int .u32 (v1 : Int)) := ⟨_, rfl⟩
      rw [← hW1] at s1 r1
      have HY := Lib.hid hy; have HX1 := Lib.hid hx; have HW1 := Lib.hid hW1
      have HS1 := Lib.hid s1; have HR1 := Lib.hid r1; have HV1 := Lib.hid hv1
      clear hy hx hW1 s1 r1 hv0 hbn hgr hsk hv1
      go_wp2
      rw [← HW1.out]
      clear HW1 hx1 h0 hf0 hc had hne
      have s1 := HS1.out
      have hv1 := HV1.out
      obtain ⟨t1, ht1⟩ : ∃ t1, t1 = (x1 &&& 15#32).toNat := ⟨_, rfl⟩
      obtain ⟨u1, hu1⟩ : ∃ u1, u1 = (tab t1).toNat := ⟨_, rfl⟩
      obtain ⟨x2, hx2⟩ : ∃ x2, x2 = steps 4 x1 := ⟨_, rfl⟩
      obtain ⟨v2, hv2⟩ : ∃ v2, v2 = x2.toNat := ⟨_, rfl⟩
      have bt1 : t1 < 16 := by rw [ht1]; exact and15_lt x1
      have bv2 : v2 < 4294967296 := by rw [hv2]; exact x2.isLt
      have i1 : bits BinOp.and IntKind.u32 (v1 : Int) 15 = (t1 : Int) := by rw [hv1, ht1]; exact and15_walk x1
      have c1 := s1.cell0
      have d1 := s1.cellT t1 bt1
      rw [← hv1] at c1
      rw [← hu1] at d1
      have f1 := s1.frozen 0
      have n1 : bits BinOp.xor IntKind.u32 ((v1 : Int) / 16) (u1 : Int) = (v2 : Int) := by rw [hv1, hu1, ht1, hv2, hx2]; exact nib_walk x1
      have s2 : Sm (W1.setCell ⟨g, 0, none⟩ (.int .u32 (v2 : Int))).drew g x2 := by rw [hv2]; exact (s1.set x2).drew
      have r2 := only_drew (only_set HR1.out 0 (.int .u32 (v2 : Int)))
      obtain ⟨W2, hW2⟩ : ∃ W2, W2 = (W1.setCell ⟨g, 0, none⟩ (.int .u32 (v2 : Int))).drew := ⟨_, rfl⟩
      rw [← hW2] at s2 r2
      have HX2 := Lib.hid hx2; have HW2 := Lib.hid hW2; have HS2 := Lib.hid s2; have HR2 := Lib.hid r2; have HV2 := Lib.hid hv2
      clear hx2 hW2 s2 r2 hv2 hv1 ht1 hu1 s1 HS1 HR1 HV1
      go_region
      go_wp2
      rw [← HW2.out]
      clear HW2 i1 c1 d1 f1 n1
      have s2 := HS2.out
      have hv2 := HV2.out
      obtain ⟨t2, ht2⟩ : ∃ t2, t2 = (x2 &&& 15#32).toNat := ⟨_, rfl⟩
      obtain ⟨u2, hu2⟩ : ∃ u2, u2 = (tab t2).toNat := ⟨_, rfl⟩
      obtain ⟨x3, hx3⟩ : ∃ x3, x3 = steps 4 x2 := ⟨_, rfl⟩
      obtain ⟨v3, hv3⟩ : ∃ v3, v3 = x3.toNat := ⟨_, rfl⟩
      have bt2 : t2 < 16 := by rw [ht2]; exact and15_lt x2
      have bv3 : v3 < 4294967296 := by rw [hv3]; exact x3.isLt
      have i2 : bits BinOp.and IntKind.u32 (v2 : Int) 15 = (t2 : Int) := by rw [hv2, ht2]; exact and15_walk x2
      have c2 := s2.cell0
      have d2 := s2.cellT t2 bt2
      rw [← hv2] at c2
      rw [← hu2] at d2
      have f2 := s2.frozen 0
      have n2 : bits BinOp.xor IntKind.u32 ((v2 : Int) / 16) (u2 : Int) = (v3 : Int) := by rw [hv2, hu2, ht2, hv3, hx3]; exact nib_walk x2
      have s3 : Sm (W2.setCell ⟨g, 0, none⟩ (.int .u32 (v3 : Int))).drew g x3 := by rw [hv3]; exact (s2.set x3).drew
      have r3 := only_drew (only_set HR2.out 0 (.int .u32 (v3 : Int)))
      obtain ⟨W3, hW3⟩ : ∃ W3, W3 = (W2.setCell ⟨g, 0, none⟩ (.int .u32 (v3 : Int))).drew := ⟨_, rfl⟩
      rw [← hW3] at s3 r3
      have HX3 := Lib.hid hx3; have HW3 := Lib.hid hW3; have HS3 := Lib.hid s3; have HR3 := Lib.hid r3; have HV3 := Lib.hid hv3
      clear hx3 hW3 s3 r3 hv3 hv2 ht2 hu2 s2 HS2 HR2 HV2
      go_region
      go_wp2
      go_roundw
      case rel =>
        rw [← HW3.out]
        refine ⟨k + 1, by omega, by go_num, ?_, HR3.out⟩
        have e : x3 = puts x (l.take (k + 1)) := by
          rw [List.take_add_one, HB.out, puts_append, ← HY.out, HX3.out, HX2.out, HX1.out, ← steps_add]
          rfl
        rw [← e]
        exact HS3.out
      case measure => simp [intOf]; omega
    · have hke : k = n := by omega
      have e : l.take k = l := List.take_of_length_le (by have := hl.1; simp [cB] at this; omega)
      rw [e] at hsk
      clear hke e hl hs
      go_wp2
      go_ret
      exact ⟨rfl, hsk, hgr⟩

end Go.Proofs.Ytbiclekpkijknaa
