/-
  Contracts of the register's methods: moving and moving back.
-/
import Derived.Test.YtbiclekpkijknaaMem
import Derived.Test.YtbiclekpkijknaaBits
import Derived.RegionTactic
import Derived.BigRegion
namespace Go.Proofs.Ytbiclekpkijknaa
open Go.RowKit

theorem steps_succ (n : Nat) (x : BitVec 32) : steps (n + 1) x = step (steps n x) := by rw [steps_add]; rfl
theorem bsteps_succ (n : Nat) (x : BitVec 32) : bsteps (n + 1) x = bstep (bsteps n x) := by rw [bsteps_add]; rfl

theorem set_same {cs : Array Value} {u : Value} (h0 : cs[0]? = some u) : cs.setIfInBounds 0 u = cs := by
  apply Array.ext
  · simp
  · intro i h1 h2
    rw [Array.getElem_setIfInBounds]
    split
    · subst_vars
      rw [Array.getElem?_eq_getElem h2] at h0
      exact (Option.some.inj h0).symm
    · rfl
theorem set_twice (cs : Array Value) (u v : Value) : (cs.setIfInBounds 0 u).setIfInBounds 0 v = cs.setIfInBounds 0 v := by simp

set_option maxHeartbeats 400000 in
theorem move_any (g : Nat) (T : TypeId) (cs : Array Value) (x : BitVec 32) (n : Int) (w : World) (hb : Blk w g T cs) (h0 : cs[0]? = some (U x)) (hn2 : -9223372036854775808 ≤ n) (hn3 : n ≤ 9223372036854775807) :
    Calls Try.prog 25 #[.pointer (some ⟨g, 0, none⟩), .int .i64 n] w fun e w' => e = .returned (.tuple #[]) ∧ Blk w' g T (cs.setIfInBounds 0 (U (steps (8 * n.toNat) x))) ∧ w.grownBy w' (some g) := by
  have hcs : cs.setIfInBounds 0 (U x) = cs := set_same h0
  have hsz : 0 < cs.size := (Array.getElem?_eq_some_iff.1 h0).1
  go_enter Try.func25, Try.ntmps25
  go_wp2
  go_loopw [1] (fun i wr => ∃ (k : Nat) (t : Int), i = .int .i64 t ∧ Hid (k + t.toNat = n.toNat) ∧ t ≤ n ∧ (-9223372036854775808 ≤ t) ∧ Blk wr g T (cs.setIfInBounds 0 (U (steps (8 * k) x))) ∧ w.grownBy wr (some g)) (fun i _ => (intOf i).toNat)
  case atStart => exact ⟨0, n, rfl, by simp [Hid], Int.le_refl _, hn2, by simpa [steps, hcs] using hb, World.grownBy.refl _ _⟩
  case round =>
    obtain ⟨k, t, rfl, HK, htn, htl, hbk, hgr⟩ := hrel
    by_cases ht : 0 < t
    · go_wp2
      obtain ⟨wo, rfl⟩ : ∃ wo : World, wo = wr := ⟨_, rfl⟩
      go_loopw [8] (fun i wr => ∃ (j : Nat), j ≤ 8 ∧ i = .int .i64 j ∧ Blk wr g T (cs.setIfInBounds 0 (U (steps (8 * k + j) x))) ∧ w.grownBy wr (some g)) (fun i _ => 8 - (intOf i).toNat)
      case atStart => exact ⟨0, by omega, rfl, hbk, hgr⟩
      case round =>
        obtain ⟨j, hj, rfl, hbj, hgj⟩ := hrel
        clear hbk hgr hb
        by_cases hj8 : j < 8
        · obtain ⟨y, hy⟩ : ∃ y, y = steps (8 * k + j) x := ⟨_, rfl⟩
          obtain ⟨v, hv⟩ : ∃ v, v = y.toNat := ⟨_, rfl⟩
          have hc : wr.cell? ⟨g, 0, none⟩ = some (.int .u32 (v : Int)) := by rw [hbj.cell 0]; simp [hsz, U, hv, hy]
          have hfz : wr.frozen? ⟨g, 0, none⟩ = false := hbj.frozen 0
          have hvl : v < 4294967296 := by rw [hv]; exact y.isLt
          have HY := Lib.hid hy; have HV := Lib.hid hv; clear hy hv
          go_wp2
          go_region
          go_wp2
          go_roundw
          case rel =>
            refine ⟨j + 1, by omega, by go_num, ?_, only_drew (only_set hgj 0 _)⟩
            have hbn := (hbj.set_ 0 (Value.int IntKind.u32 (bits BinOp.xor IntKind.u32 ((v : Int) / 2) (bits BinOp.and IntKind.u32 2197175160 (-bits BinOp.and IntKind.u32 (v : Int) 1 % 4294967296))))).drew
            rw [set_twice] at hbn
            have e : Value.int IntKind.u32 (bits BinOp.xor IntKind.u32 ((v : Int) / 2) (bits BinOp.and IntKind.u32 2197175160 (-bits BinOp.and IntKind.u32 (v : Int) 1 % 4294967296))) = U (steps (8 * k + (j + 1)) x) := by
              rw [HV.out, step_walk, HY.out, ← Nat.add_assoc, steps_succ]; rfl
            rw [← e]
            exact hbn
          case measure => simp [intOf]; omega
        · have hje : j = 8 := by omega
          have HJ := Lib.hid hje; clear hje
          go_wp2
          go_roundw
          case rel =>
            refine ⟨k + 1, t - 1, rfl, ?_, by omega, by omega, ?_, hgj⟩
            · have := HK.out; simp only [Hid]; omega
            · have := HJ.out
              subst this
              rw [Nat.mul_succ]
              exact hbj
          case measure => simp [intOf]; omega
    · go_wp2
      go_end0
      have e : k = n.toNat := by have := HK.out; omega
      rw [e] at hbk
      exact ⟨rfl, hbk, hgr⟩

set_option maxHeartbeats 400000 in
theorem back_any (g : Nat) (T : TypeId) (cs : Array Value) (x : BitVec 32) (n : Int) (w : World) (hb : Blk w g T cs) (h0 : cs[0]? = some (U x)) (hn2 : -9223372036854775808 ≤ n) (hn3 : n ≤ 9223372036854775807) :
    Calls Try.prog 24 #[.pointer (some ⟨g, 0, none⟩), .int .i64 n] w fun e w' => e = .returned (.tuple #[]) ∧ Blk w' g T (cs.setIfInBounds 0 (U (bsteps (8 * n.toNat) x))) ∧ w.grownBy w' (some g) := by
  have hcs : cs.setIfInBounds 0 (U x) = cs := set_same h0
  have hsz : 0 < cs.size := (Array.getElem?_eq_some_iff.1 h0).1
  go_enter Try.func24, Try.ntmps24
  go_wp2
  go_loopw [1] (fun i wr => ∃ (k : Nat) (t : Int), i = .int .i64 t ∧ Hid (k + t.toNat = n.toNat) ∧ t ≤ n ∧ (-9223372036854775808 ≤ t) ∧ Blk wr g T (cs.setIfInBounds 0 (U (bsteps (8 * k) x))) ∧ w.grownBy wr (some g)) (fun i _ => (intOf i).toNat)
  case atStart => exact ⟨0, n, rfl, by simp [Hid], Int.le_refl _, hn2, by simpa [bsteps, hcs] using hb, World.grownBy.refl _ _⟩
  case round =>
    obtain ⟨k, t, rfl, HK, htn, htl, hbk, hgr⟩ := hrel
    by_cases ht : 0 < t
    · go_wp2
      obtain ⟨wo, rfl⟩ : ∃ wo : World, wo = wr := ⟨_, rfl⟩
      go_loopw [9] (fun i wr => ∃ (j : Nat), j ≤ 8 ∧ i = .int .i64 j ∧ Blk wr g T (cs.setIfInBounds 0 (U (bsteps (8 * k + j) x))) ∧ w.grownBy wr (some g)) (fun i _ => 8 - (intOf i).toNat)
      case atStart => exact ⟨0, by omega, rfl, hbk, hgr⟩
      case round =>
        obtain ⟨j, hj, rfl, hbj, hgj⟩ := hrel
        clear hbk hgr hb
        by_cases hj8 : j < 8
        · obtain ⟨y, hy⟩ : ∃ y, y = bsteps (8 * k + j) x := ⟨_, rfl⟩
          obtain ⟨v, hv⟩ : ∃ v, v = y.toNat := ⟨_, rfl⟩
          have hc : wr.cell? ⟨g, 0, none⟩ = some (.int .u32 (v : Int)) := by rw [hbj.cell 0]; simp [hsz, U, hv, hy]
          have hfz : wr.frozen? ⟨g, 0, none⟩ = false := hbj.frozen 0
          have hvl : v < 4294967296 := by rw [hv]; exact y.isLt
          have HY := Lib.hid hy; have HV := Lib.hid hv; clear hy hv
          go_wp2
          go_roundw
          case rel =>
            refine ⟨j + 1, by omega, by go_num, ?_, only_set hgj 0 _⟩
            have hbn := (hbj.set_ 0 (Value.int IntKind.u32 (bits BinOp.or IntKind.u32 (bits BinOp.xor IntKind.u32 (v : Int) (bits BinOp.and IntKind.u32 2197175160 (-((v : Int) / 2147483648) % 4294967296)) * 2 % 4294967296) ((v : Int) / 2147483648))))
            rw [set_twice] at hbn
            have e : Value.int IntKind.u32 (bits BinOp.or IntKind.u32 (bits BinOp.xor IntKind.u32 (v : Int) (bits BinOp.and IntKind.u32 2197175160 (-((v : Int) / 2147483648) % 4294967296)) * 2 % 4294967296) ((v : Int) / 2147483648)) = U (bsteps (8 * k + (j + 1)) x) := by
              rw [HV.out, bstep_walk y _ rfl, HY.out, ← Nat.add_assoc, bsteps_succ]; rfl
            rw [← e]
            exact hbn
          case measure => simp [intOf]; omega
        · have hje : j = 8 := by omega
          have HJ := Lib.hid hje; clear hje
          go_wp2
          go_roundw
          case rel =>
            refine ⟨k + 1, t - 1, rfl, ?_, by omega, by omega, ?_, hgj⟩
            · have := HK.out; simp only [Hid]; omega
            · have := HJ.out
              subst this
              rw [Nat.mul_succ]
              exact hbj
          case measure => simp [intOf]; omega
    · go_wp2
      go_end0
      have e : k = n.toNat := by have := HK.out; omega
      rw [e] at hbk
      exact ⟨rfl, hbk, hgr⟩

end Go.Proofs.Ytbiclekpkijknaa
