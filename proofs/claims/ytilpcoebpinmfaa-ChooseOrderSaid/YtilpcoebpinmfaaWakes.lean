/-
  Contract of the law's helper wakes. (The regions' lines are printed by choose_wakes.py.)
-/
import Derived.Test.YtilpcoebpinmfaaCountC
import Derived.Test.YtilpcoebpinmfaaRef
import Derived.Test.YtilpcoebpinmfaaGreat
import Derived.Deep.Cut
namespace Go.Proofs.Ytilpcoebpinmfaa
open Go.RowKit

def R1 : Rc := ⟨4, 33, 0, ⟨#[]⟩⟩
def R2 : Rc := ⟨5, 0, 0, ⟨#[]⟩⟩
def R3 : Rc := ⟨4, 17, 17, ⟨#[120]⟩⟩
def TA : Ty := ⟨4, 33, 0, ⟨#[]⟩, 33, true, false⟩
def TB : Ty := ⟨4, 33, 17, ⟨#[120]⟩, 33, false, false⟩

theorem begin_tc (r : Rc) (s : Int) (w : World) : Calls Try.prog 10 #[.agg (rc r), .int .i64 s] w fun e w' => e = .returned (.agg (tc (begun r s))) ∧ Below w.heap.size w w' := begin_any r.inst r.mbal r.bal s r.val w
theorem rbegin_tc (r : Rc) (s : Int) (w : World) : Calls Try.prog 11 #[.agg (rc r), .int .i64 s] w fun e w' => e = .returned (.agg (tc (begun r s))) ∧ Below w.heap.size w w' := rbegin_any r.inst r.mbal r.bal s r.val w
theorem stops_tc (t : Ty) (w : World) : Calls Try.prog 14 #[.agg (tc t)] w fun e w' => e = .returned (.bool (t.ahead || t.lost)) ∧ Below w.heap.size w w' := stops_any t.inst t.mbal t.best t.seen t.val t.ahead t.lost w
theorem rstops_tc (t : Ty) (w : World) : Calls Try.prog 15 #[.agg (tc t)] w fun e w' => e = .returned (.bool (t.ahead || t.lost)) ∧ Below w.heap.size w w' := rstops_any t.inst t.mbal t.best t.seen t.val t.ahead t.lost w
def valueT (t : Ty) (z : ByteArray) : ByteArray := if 0 < t.best then t.val else z
theorem value_tc (t : Ty) (z : ByteArray) (w : World) : Calls Try.prog 16 #[.agg (tc t), .string z] w fun e w' => e = .returned (.string (valueT t z)) ∧ Below w.heap.size w w' := value_any t.inst t.mbal t.best t.seen t.val z t.ahead t.lost w
theorem rvalue_tc (t : Ty) (z : ByteArray) (w : World) : Calls Try.prog 17 #[.agg (tc t), .string z] w fun e w' => e = .returned (.string (valueT t z)) ∧ Below w.heap.size w w' := rvalue_any t.inst t.mbal t.best t.seen t.val z t.ahead t.lost w

/-- a fresh row of one record -/
theorem RdR.one {w : World} {g : Nat} {r : Rc} (h : Blk w g 23 (rc r)) : RdR w w.heap.size (some ⟨g, 0, none⟩) 1 [r] := by
  refine ⟨rfl, fun _ => ⟨_, rfl, h.lt, fun k r' hk => ?_⟩⟩
  have hk0 : k = 0 := by
    have := (List.getElem?_eq_some_iff.1 hk).1
    simp at this; omega
  subst hk0
  simp at hk; subst hk
  refine ⟨?_, ?_, ?_, ?_⟩
  · show w.cell? ⟨g, 0, none⟩ = _
    rw [h.cell 0]; rfl
  · show w.cell? ⟨g, 1, none⟩ = _
    rw [h.cell 1]; rfl
  · show w.cell? ⟨g, 2, none⟩ = _
    rw [h.cell 2]; rfl
  · show w.cell? ⟨g, 3, none⟩ = _
    rw [h.cell 3]; rfl
theorem count_blk (t : Ty) (g : Nat) (r : Rc) (w : World) (h : Blk w g 23 (rc r)) :
    Calls Try.prog 12 #[.agg (tc t), .slice (some ⟨g, 0, none⟩) 1 1] w fun e w' => e = .returned (.agg (tc (oneT t r))) ∧ Below w.heap.size w w' :=
  count_any t (some ⟨g, 0, none⟩) 1 1 w.heap.size [r] w (RdR.one h) (Nat.le_refl _) (by decide)
/-- the block that a pointer leads to -/
def gOf : Value → Nat
  | .pointer (some a) => a.block
  | _ => 0
theorem st_alloc (B : Nat) (t : TypeId) (cs : Array Value) : Stable (fun q_ _ W => q_ = ptr (gOf q_) ∧ B ≤ gOf q_ ∧ Blk W (gOf q_) t cs) := by
  rintro x y W W' hb ⟨hx, hl, hr⟩
  exact ⟨hx, hl, hr.below hb hr.lt⟩

set_option maxRecDepth 100000 in
set_option maxHeartbeats 4000000 in
/-- wakes -/
theorem wakes_any (w : World) : Calls Try.prog 9 #[] w fun e w' => e = .returned (.bool true) ∧ Below w.heap.size w w' := by
  go_enter Try.func9, Try.ntmps9
  go_upto_region 1 with fail
  refine wp_region_grows 6 ((fun q_ _ _ => q_ = .agg (rc R1)) :: (fun q_ _ _ => q_ = .agg (tc (begun R1 0))) :: (fun q_ _ _ => q_ = .agg (rc R2)) :: (fun q_ _ W => ∃ g, q_ = .slice (some ⟨g, 0, none⟩) 1 1 ∧ Blk W g 23 (rc R2)) :: (fun q_ _ _ => q_ = .agg (tc TA)) :: (fun q_ _ W => q_ = ptr (gOf q_) ∧ w.heap.size ≤ gOf q_ ∧ Blk W (gOf q_) 30 (tc zT)) :: []) ((fun i => i == 5)) (w.heap.size) w (by kernel_rfl) (by kernel_rfl) (by kernel_rfl) (Below.refl _ _) (Nat.le_refl _) ?aStab (fun i hi x W hx => by obtain rfl := eq_of_beq hi; exact ⟨_, hx.1, hx.2.2.lt⟩) ?aOps ?aFin
  case aStab => exact ⟨st_is _, st_is _, st_is _, st_slice _ _, st_is _, st_alloc _ _ _, trivial⟩
  case aOps =>
    intro Q
    refine ⟨?_, ?_, ?_, ?_, ?_, ?_, trivial⟩
    · intro ho a W hW hd hx
      exact op_value ho (want_none rfl) (v := .agg (rc R1)) (by intro ρ hρ kc kf; clear hρ; simp [execOp, go_sem, kc, R1, rc]) ⟨_, rfl, (fun h => by cases h), rfl, Below.refl _ _, (fun h => absurd h (by decide))⟩
    · intro ho a W hW hd hx
      have h3 : a.eval (.tmp 3) = .agg (rc R1) := hd 0 (by kernel_rfl)
      refine op_call ho (want_none rfl) (by intro ρ hρ kc kf; rw [← hρ] at h3; clear hρ; simp [execOp, go_sem, kc, kf, h3]) (begin_tc R1 0 W) ?_
      rintro e W2 ⟨rfl, k2⟩
      exact ⟨_, rfl, _, rfl, (fun h => by cases h), rfl, k2, (fun h => absurd h (by decide))⟩
    · intro ho a W hW hd hx
      exact op_value ho (want_none rfl) (v := .agg (rc R2)) (by intro ρ hρ kc kf; clear hρ; simp [execOp, go_sem, kc, R2, rc]) ⟨_, rfl, (fun h => by cases h), rfl, Below.refl _ _, (fun h => absurd h (by decide))⟩
    · intro ho a W hW hd hx
      have h5 : a.eval (.tmp 5) = .agg (rc R2) := hd 2 (by kernel_rfl)
      exact op_value ho (want_none rfl) (v := .slice (some ⟨W.heap.size, 0, none⟩) 1 1) (w' := W.alloc (.cells (rc R2) 23)) (by intro ρ hρ kc kf; rw [← hρ] at h5; clear hρ; simp [execOp, go_sem, h5, rc]) ⟨_, rfl, (fun h => by cases h), ⟨_, rfl, Blk.new W 23 _⟩, (Below.refl _ _).alloc (Nat.le_refl _) _, (fun h => absurd h (by decide))⟩
    · intro ho a W hW hd hx
      have h4 : a.eval (.tmp 4) = .agg (tc (begun R1 0)) := hd 1 (by kernel_rfl)
      obtain ⟨g6, h6, r6⟩ : ∃ g, a.eval (.tmp 6) = .slice (some ⟨g, 0, none⟩) 1 1 ∧ Blk W g 23 (rc R2) := (hd 3 (by kernel_rfl))
      refine op_call ho (want_none rfl) (by intro ρ hρ kc kf; rw [← hρ] at h4 h6; clear hρ; simp [execOp, go_sem, kf, h4, h6]) (count_blk (begun R1 0) g6 R2 W r6) ?_
      rintro e W2 ⟨rfl, k2⟩
      exact ⟨_, rfl, _, rfl, (fun h => by cases h), rfl, k2, (fun h => absurd h (by decide))⟩
    · intro ho a W hW hd hx
      exact op_value ho (want_none rfl) (v := ptr W.heap.size) (w' := W.alloc (.cells (tc zT) 30)) (by intro ρ hρ kc kf; clear hρ; simp [execOp, go_sem, ptr, tc, zT]) ⟨_, rfl, (fun h => by cases h), ⟨rfl, hW.size, Blk.new W 30 _⟩, (Below.refl _ _).alloc (Nat.le_refl _) _, (fun _ => ⟨_, rfl, Nat.le_refl _⟩)⟩
  case aFin =>
    intro va W hW hv _
    have hx : va 5 = ptr (gOf (va 5)) ∧ w.heap.size ≤ gOf (va 5) ∧ Blk W (gOf (va 5)) 30 (tc zT) := hv 5 (by decide)
    have hg := hx.1; have hl := hx.2.1; have hb := hx.2.2
    have h4 : va 4 = .agg (tc TA) := hv 4 (by decide)
    simp only [List.take_succ_cons, List.take_zero, List.drop_succ_cons, List.drop_zero, fillL, wpTail, Act.put, List.setIfInBounds_toArray, List.set_cons_zero, List.set_cons_succ, Nat.reduceAdd]
    rw [hg, h4]
    refine tail_store_T (t := TA) rfl rfl hb rfl ?_
    intro W1 kb hgr
    have kw : Below w.heap.size w W1 := hW.grown hgr hW.size (fun j hj => by injection hj with e; omega)
    have KA0 := Lib.hid kb; have KW0 := Lib.hid kw; have hga := kb.lt
    clear hW hv hx hg hl h4 hb hgr kb kw
    go_upto_region 2 with fail
    refine wp_region_grows 6 ((fun q_ _ _ => q_ = .agg (rc R1)) :: (fun q_ _ _ => q_ = .agg (tc (begun R1 0))) :: (fun q_ _ _ => q_ = .agg (rc R3)) :: (fun q_ _ W => ∃ g, q_ = .slice (some ⟨g, 0, none⟩) 1 1 ∧ Blk W g 23 (rc R3)) :: (fun q_ _ _ => q_ = .agg (tc TB)) :: (fun q_ _ W => q_ = ptr (gOf q_) ∧ W1.heap.size ≤ gOf q_ ∧ Blk W (gOf q_) 30 (tc zT)) :: []) ((fun i => i == 5)) (W1.heap.size) W1 (by kernel_rfl) (by kernel_rfl) (by kernel_rfl) (Below.refl _ _) (Nat.le_refl _) ?bStab (fun i hi x W hx => by obtain rfl := eq_of_beq hi; exact ⟨_, hx.1, hx.2.2.lt⟩) ?bOps ?bFin
    case bStab => exact ⟨st_is _, st_is _, st_is _, st_slice _ _, st_is _, st_alloc _ _ _, trivial⟩
    case bOps =>
      intro Q
      refine ⟨?_, ?_, ?_, ?_, ?_, ?_, trivial⟩
      · intro ho a W hW hd hx
        exact op_value ho (want_none rfl) (v := .agg (rc R1)) (by intro ρ hρ kc kf; clear hρ; simp [execOp, go_sem, kc, R1, rc]) ⟨_, rfl, (fun h => by cases h), rfl, Below.refl _ _, (fun h => absurd h (by decide))⟩
      · intro ho a W hW hd hx
        have h8 : a.eval (.tmp 8) = .agg (rc R1) := hd 0 (by kernel_rfl)
        refine op_call ho (want_none rfl) (by intro ρ hρ kc kf; rw [← hρ] at h8; clear hρ; simp [execOp, go_sem, kc, kf, h8]) (begin_tc R1 0 W) ?_
        rintro e W2 ⟨rfl, k2⟩
        exact ⟨_, rfl, _, rfl, (fun h => by cases h), rfl, k2, (fun h => absurd h (by decide))⟩
      · intro ho a W hW hd hx
        exact op_value ho (want_none rfl) (v := .agg (rc R3)) (by intro ρ hρ kc kf; clear hρ; simp [execOp, go_sem, kc, R3, rc]) ⟨_, rfl, (fun h => by cases h), rfl, Below.refl _ _, (fun h => absurd h (by decide))⟩
      · intro ho a W hW hd hx
        have h10 : a.eval (.tmp 10) = .agg (rc R3) := hd 2 (by kernel_rfl)
        exact op_value ho (want_none rfl) (v := .slice (some ⟨W.heap.size, 0, none⟩) 1 1) (w' := W.alloc (.cells (rc R3) 23)) (by intro ρ hρ kc kf; rw [← hρ] at h10; clear hρ; simp [execOp, go_sem, h10, rc]) ⟨_, rfl, (fun h => by cases h), ⟨_, rfl, Blk.new W 23 _⟩, (Below.refl _ _).alloc (Nat.le_refl _) _, (fun h => absurd h (by decide))⟩
      · intro ho a W hW hd hx
        have h9 : a.eval (.tmp 9) = .agg (tc (begun R1 0)) := hd 1 (by kernel_rfl)
        obtain ⟨g11, h11, r11⟩ : ∃ g, a.eval (.tmp 11) = .slice (some ⟨g, 0, none⟩) 1 1 ∧ Blk W g 23 (rc R3) := (hd 3 (by kernel_rfl))
        refine op_call ho (want_none rfl) (by intro ρ hρ kc kf; rw [← hρ] at h9 h11; clear hρ; simp [execOp, go_sem, kf, h9, h11]) (count_blk (begun R1 0) g11 R3 W r11) ?_
        rintro e W2 ⟨rfl, k2⟩
        exact ⟨_, rfl, _, rfl, (fun h => by cases h), rfl, k2, (fun h => absurd h (by decide))⟩
      · intro ho a W hW hd hx
        exact op_value ho (want_none rfl) (v := ptr W.heap.size) (w' := W.alloc (.cells (tc zT) 30)) (by intro ρ hρ kc kf; clear hρ; simp [execOp, go_sem, ptr, tc, zT]) ⟨_, rfl, (fun h => by cases h), ⟨rfl, hW.size, Blk.new W 30 _⟩, (Below.refl _ _).alloc (Nat.le_refl _) _, (fun _ => ⟨_, rfl, Nat.le_refl _⟩)⟩
    case bFin =>
      intro vb W hW hv _
      have hx : vb 5 = ptr (gOf (vb 5)) ∧ W1.heap.size ≤ gOf (vb 5) ∧ Blk W (gOf (vb 5)) 30 (tc zT) := hv 5 (by decide)
      have hg := hx.1; have hl := hx.2.1; have hb := hx.2.2
      have h4 : vb 4 = .agg (tc TB) := hv 4 (by decide)
      simp only [List.take_succ_cons, List.take_zero, List.drop_succ_cons, List.drop_zero, fillL, wpTail, Act.put, List.setIfInBounds_toArray, List.set_cons_zero, List.set_cons_succ, Nat.reduceAdd]
      rw [hg, h4]
      refine tail_store_T (t := TB) rfl rfl hb rfl ?_
      intro W2 kb hgr
      have kw : Below W1.heap.size W1 W2 := hW.grown hgr hW.size (fun j hj => by injection hj with e; omega)
      have KA := Lib.hid (KA0.out.below kw KA0.out.lt); have KB := Lib.hid kb; have KW := Lib.hid (KW0.out.trans (kw.mono KW0.out.size))
      clear hW hv hx hg hl h4 hb hgr kb kw
      go_upto_region 3 with fail
      refine wp_region_grows 32 ((fun q_ _ _ => q_ = .pointer (some ⟨gOf (va 5), 5, none⟩)) :: (fun q_ _ _ => q_ = .bool true) :: (fun q_ _ _ => q_ = .bool true) :: (fun q_ _ _ => q_ = .agg (tc TA)) :: (fun q_ _ _ => q_ = .bool true) :: (fun q_ _ _ => q_ = .bool true) :: (fun q_ _ _ => q_ = .bool true) :: (fun q_ _ _ => q_ = .agg (tc TB)) :: (fun q_ _ _ => q_ = .bool false) :: (fun q_ _ _ => q_ = .bool true) :: (fun q_ _ _ => q_ = .bool true) :: (fun q_ _ _ => q_ = .bool true) :: (fun q_ _ _ => q_ = .agg (tc TB)) :: (fun q_ _ _ => q_ = .string ⟨#[120]⟩) :: (fun q_ _ _ => q_ = .bool true) :: (fun q_ _ _ => q_ = .bool true) :: (fun q_ _ _ => q_ = .bool true) :: (fun q_ _ _ => q_ = .agg (tc TA)) :: (fun q_ _ _ => q_ = .string ⟨#[121]⟩) :: (fun q_ _ _ => q_ = .bool true) :: (fun q_ _ _ => q_ = .bool true) :: (fun q_ _ _ => q_ = .bool true) :: (fun q_ _ _ => q_ = .agg #[.int .i64 2, .int .i64 0, .int .i64 0, .int .i64 0, .int .i64 0, .int .i64 0, .int .i64 0, .int .i64 0]) :: (fun q_ _ _ => q_ = .int .i64 0) :: (fun q_ _ _ => q_ = .bool true) :: (fun q_ _ _ => q_ = .bool true) :: (fun q_ _ _ => q_ = .bool true) :: (fun q_ _ _ => q_ = .agg #[.int .i64 2, .int .i64 0, .int .i64 0, .int .i64 0, .int .i64 0, .int .i64 0, .int .i64 0, .int .i64 0]) :: (fun q_ _ _ => q_ = .int .i64 2) :: (fun q_ _ _ => q_ = .bool true) :: (fun q_ _ _ => q_ = .bool true) :: (fun q_ _ _ => q_ = .bool true) :: []) (fun _ => false) (W2.heap.size) W2 (by kernel_rfl) (by kernel_rfl) (by kernel_rfl) (Below.refl _ _) (Nat.le_refl _) ?cStab (fun _ h => by cases h) ?cOps ?cFin
      case cStab => exact ⟨st_is _, st_is _, st_is _, st_is _, st_is _, st_is _, st_is _, st_is _, st_is _, st_is _, st_is _, st_is _, st_is _, st_is _, st_is _, st_is _, st_is _, st_is _, st_is _, st_is _, st_is _, st_is _, st_is _, st_is _, st_is _, st_is _, st_is _, st_is _, st_is _, st_is _, st_is _, st_is _, trivial⟩
      case cOps =>
        intro Q
        refine ⟨?_, ?_, ?_, ?_, ?_, ?_, ?_, ?_, ?_, ?_, ?_, ?_, ?_, ?_, ?_, ?_, ?_, ?_, ?_, ?_, ?_, ?_, ?_, ?_, ?_, ?_, ?_, ?_, ?_, ?_, ?_, ?_, trivial⟩
        · intro ho a W hW hd hx
          have h1 : a.eval (.tmp 1) = .pointer (some ⟨gOf (va 5), 0, none⟩) := (hx 1 (dst_not (by kernel_rfl))).trans rfl
          exact op_value ho (want_none rfl) (v := .pointer (some ⟨gOf (va 5), 5, none⟩)) (by intro ρ hρ kc kf; rw [← hρ] at h1; clear hρ; simp [execOp, go_sem, h1]) ⟨_, rfl, (fun h => by cases h), rfl, Below.refl _ _, (fun h => absurd h (by decide))⟩
        · intro ho a W hW hd hx
          have h13 : a.eval (.tmp 13) = .pointer (some ⟨gOf (va 5), 5, none⟩) := hd 0 (by kernel_rfl)
          have hcell : W.cell? ⟨gOf (va 5), 5, none⟩ = some (.bool true) := by rw [(KA.out.below hW KA.out.lt).cell 5]; rfl
          exact op_value ho (want_none rfl) (v := .bool true) (by intro ρ hρ kc kf; rw [← hρ] at h13; clear hρ; simp [execOp, go_sem, h13, hcell]) ⟨_, rfl, (fun h => by cases h), rfl, Below.refl _ _, (fun h => absurd h (by decide))⟩
        · intro ho a W hW hd hx
          have h14 : a.eval (.tmp 14) = .bool true := hd 1 (by kernel_rfl)
          exact op_value ho (want_none rfl) (v := .bool true) (by intro ρ hρ kc kf; rw [← hρ] at h14; clear hρ; simp [execOp, go_sem, h14]) ⟨_, rfl, (fun h => by cases h), rfl, Below.refl _ _, (fun h => absurd h (by decide))⟩
        · intro ho a W hW hd hx
          have h15 : a.eval (.tmp 15) = .bool true := hd 2 (by kernel_rfl)
          have h1 : a.eval (.tmp 1) = .pointer (some ⟨gOf (va 5), 0, none⟩) := (hx 1 (dst_not (by kernel_rfl))).trans rfl
          exact op_value ho (want_yes rfl (show valAt _ a 2 = _ from h15)) (v := .agg (tc TA)) (by intro ρ hρ kc kf; rw [← hρ] at h1; exact run_load_T h1 (KA.out.below hW KA.out.lt)) ⟨_, rfl, (fun h => by cases h), rfl, Below.refl _ _, (fun h => absurd h (by decide))⟩
        · intro ho a W hW hd hx
          have h15 : a.eval (.tmp 15) = .bool true := hd 2 (by kernel_rfl)
          have h16 : a.eval (.tmp 16) = .agg (tc TA) := hd 3 (by kernel_rfl)
          refine op_call ho (want_yes rfl (show valAt _ a 2 = _ from h15)) (by intro ρ hρ kc kf; rw [← hρ] at h16; clear hρ; simp [execOp, go_sem, kf, h16]) (stops_tc TA W) ?_
          rintro e W2 ⟨rfl, k2⟩
          exact ⟨_, rfl, _, rfl, (fun h => by cases h), rfl, k2, (fun h => absurd h (by decide))⟩
        · intro ho a W hW hd hx
          have h15 : a.eval (.tmp 15) = .bool true := hd 2 (by kernel_rfl)
          have h17 : a.eval (.tmp 17) = .bool true := hd 4 (by kernel_rfl)
          exact op_value ho (want_none rfl) (v := .bool true) (by intro ρ hρ kc kf; rw [← hρ] at h15 h17; clear hρ; simp [execOp, go_sem, kc, h15, h17]) ⟨_, rfl, (fun h => by cases h), rfl, Below.refl _ _, (fun h => absurd h (by decide))⟩
        · intro ho a W hW hd hx
          have h18 : a.eval (.tmp 18) = .bool true := hd 5 (by kernel_rfl)
          exact op_value ho (want_none rfl) (v := .bool true) (by intro ρ hρ kc kf; rw [← hρ] at h18; clear hρ; simp [execOp, go_sem, h18]) ⟨_, rfl, (fun h => by cases h), rfl, Below.refl _ _, (fun h => absurd h (by decide))⟩
        · intro ho a W hW hd hx
          have h19 : a.eval (.tmp 19) = .bool true := hd 6 (by kernel_rfl)
          have h2 : a.eval (.tmp 2) = .pointer (some ⟨gOf (vb 5), 0, none⟩) := (hx 2 (dst_not (by kernel_rfl))).trans rfl
          exact op_value ho (want_yes rfl (show valAt _ a 6 = _ from h19)) (v := .agg (tc TB)) (by intro ρ hρ kc kf; rw [← hρ] at h2; exact run_load_T h2 (KB.out.below hW KB.out.lt)) ⟨_, rfl, (fun h => by cases h), rfl, Below.refl _ _, (fun h => absurd h (by decide))⟩
        · intro ho a W hW hd hx
          have h19 : a.eval (.tmp 19) = .bool true := hd 6 (by kernel_rfl)
          have h20 : a.eval (.tmp 20) = .agg (tc TB) := hd 7 (by kernel_rfl)
          refine op_call ho (want_yes rfl (show valAt _ a 6 = _ from h19)) (by intro ρ hρ kc kf; rw [← hρ] at h20; clear hρ; simp [execOp, go_sem, kf, h20]) (stops_tc TB W) ?_
          rintro e W2 ⟨rfl, k2⟩
          exact ⟨_, rfl, _, rfl, (fun h => by cases h), rfl, k2, (fun h => absurd h (by decide))⟩
        · intro ho a W hW hd hx
          have h19 : a.eval (.tmp 19) = .bool true := hd 6 (by kernel_rfl)
          have h21 : a.eval (.tmp 21) = .bool false := hd 8 (by kernel_rfl)
          exact op_value ho (want_yes rfl (show valAt _ a 6 = _ from h19)) (v := .bool true) (by intro ρ hρ kc kf; rw [← hρ] at h21; clear hρ; simp [execOp, go_sem, h21]) ⟨_, rfl, (fun h => by cases h), rfl, Below.refl _ _, (fun h => absurd h (by decide))⟩
        · intro ho a W hW hd hx
          have h19 : a.eval (.tmp 19) = .bool true := hd 6 (by kernel_rfl)
          have h22 : a.eval (.tmp 22) = .bool true := hd 9 (by kernel_rfl)
          exact op_value ho (want_none rfl) (v := .bool true) (by intro ρ hρ kc kf; rw [← hρ] at h19 h22; clear hρ; simp [execOp, go_sem, kc, h19, h22]) ⟨_, rfl, (fun h => by cases h), rfl, Below.refl _ _, (fun h => absurd h (by decide))⟩
        · intro ho a W hW hd hx
          have h23 : a.eval (.tmp 23) = .bool true := hd 10 (by kernel_rfl)
          exact op_value ho (want_none rfl) (v := .bool true) (by intro ρ hρ kc kf; rw [← hρ] at h23; clear hρ; simp [execOp, go_sem, h23]) ⟨_, rfl, (fun h => by cases h), rfl, Below.refl _ _, (fun h => absurd h (by decide))⟩
        · intro ho a W hW hd hx
          have h24 : a.eval (.tmp 24) = .bool true := hd 11 (by kernel_rfl)
          have h2 : a.eval (.tmp 2) = .pointer (some ⟨gOf (vb 5), 0, none⟩) := (hx 2 (dst_not (by kernel_rfl))).trans rfl
          exact op_value ho (want_yes rfl (show valAt _ a 11 = _ from h24)) (v := .agg (tc TB)) (by intro ρ hρ kc kf; rw [← hρ] at h2; exact run_load_T h2 (KB.out.below hW KB.out.lt)) ⟨_, rfl, (fun h => by cases h), rfl, Below.refl _ _, (fun h => absurd h (by decide))⟩
        · intro ho a W hW hd hx
          have h24 : a.eval (.tmp 24) = .bool true := hd 11 (by kernel_rfl)
          have h25 : a.eval (.tmp 25) = .agg (tc TB) := hd 12 (by kernel_rfl)
          refine op_call ho (want_yes rfl (show valAt _ a 11 = _ from h24)) (by intro ρ hρ kc kf; rw [← hρ] at h25; clear hρ; simp [execOp, go_sem, kc, kf, h25]) (value_tc TB ⟨#[121]⟩ W) ?_
          rintro e W2 ⟨rfl, k2⟩
          exact ⟨_, rfl, _, rfl, (fun h => by cases h), rfl, k2, (fun h => absurd h (by decide))⟩
        · intro ho a W hW hd hx
          have h24 : a.eval (.tmp 24) = .bool true := hd 11 (by kernel_rfl)
          have h26 : a.eval (.tmp 26) = .string ⟨#[120]⟩ := hd 13 (by kernel_rfl)
          exact op_value ho (want_yes rfl (show valAt _ a 11 = _ from h24)) (v := .bool true) (by intro ρ hρ kc kf; rw [← hρ] at h26; clear hρ; simp [execOp, go_sem, kc, h26]) ⟨_, rfl, (fun h => by cases h), rfl, Below.refl _ _, (fun h => absurd h (by decide))⟩
        · intro ho a W hW hd hx
          have h24 : a.eval (.tmp 24) = .bool true := hd 11 (by kernel_rfl)
          have h27 : a.eval (.tmp 27) = .bool true := hd 14 (by kernel_rfl)
          exact op_value ho (want_none rfl) (v := .bool true) (by intro ρ hρ kc kf; rw [← hρ] at h24 h27; clear hρ; simp [execOp, go_sem, kc, h24, h27]) ⟨_, rfl, (fun h => by cases h), rfl, Below.refl _ _, (fun h => absurd h (by decide))⟩
        · intro ho a W hW hd hx
          have h28 : a.eval (.tmp 28) = .bool true := hd 15 (by kernel_rfl)
          exact op_value ho (want_none rfl) (v := .bool true) (by intro ρ hρ kc kf; rw [← hρ] at h28; clear hρ; simp [execOp, go_sem, h28]) ⟨_, rfl, (fun h => by cases h), rfl, Below.refl _ _, (fun h => absurd h (by decide))⟩
        · intro ho a W hW hd hx
          have h29 : a.eval (.tmp 29) = .bool true := hd 16 (by kernel_rfl)
          have h1 : a.eval (.tmp 1) = .pointer (some ⟨gOf (va 5), 0, none⟩) := (hx 1 (dst_not (by kernel_rfl))).trans rfl
          exact op_value ho (want_yes rfl (show valAt _ a 16 = _ from h29)) (v := .agg (tc TA)) (by intro ρ hρ kc kf; rw [← hρ] at h1; exact run_load_T h1 (KA.out.below hW KA.out.lt)) ⟨_, rfl, (fun h => by cases h), rfl, Below.refl _ _, (fun h => absurd h (by decide))⟩
        · intro ho a W hW hd hx
          have h29 : a.eval (.tmp 29) = .bool true := hd 16 (by kernel_rfl)
          have h30 : a.eval (.tmp 30) = .agg (tc TA) := hd 17 (by kernel_rfl)
          refine op_call ho (want_yes rfl (show valAt _ a 16 = _ from h29)) (by intro ρ hρ kc kf; rw [← hρ] at h30; clear hρ; simp [execOp, go_sem, kc, kf, h30]) (value_tc TA ⟨#[121]⟩ W) ?_
          rintro e W2 ⟨rfl, k2⟩
          exact ⟨_, rfl, _, rfl, (fun h => by cases h), rfl, k2, (fun h => absurd h (by decide))⟩
        · intro ho a W hW hd hx
          have h29 : a.eval (.tmp 29) = .bool true := hd 16 (by kernel_rfl)
          have h31 : a.eval (.tmp 31) = .string ⟨#[121]⟩ := hd 18 (by kernel_rfl)
          exact op_value ho (want_yes rfl (show valAt _ a 16 = _ from h29)) (v := .bool true) (by intro ρ hρ kc kf; rw [← hρ] at h31; clear hρ; simp [execOp, go_sem, kc, h31]) ⟨_, rfl, (fun h => by cases h), rfl, Below.refl _ _, (fun h => absurd h (by decide))⟩
        · intro ho a W hW hd hx
          have h29 : a.eval (.tmp 29) = .bool true := hd 16 (by kernel_rfl)
          have h32 : a.eval (.tmp 32) = .bool true := hd 19 (by kernel_rfl)
          exact op_value ho (want_none rfl) (v := .bool true) (by intro ρ hρ kc kf; rw [← hρ] at h29 h32; clear hρ; simp [execOp, go_sem, kc, h29, h32]) ⟨_, rfl, (fun h => by cases h), rfl, Below.refl _ _, (fun h => absurd h (by decide))⟩
        · intro ho a W hW hd hx
          have h33 : a.eval (.tmp 33) = .bool true := hd 20 (by kernel_rfl)
          exact op_value ho (want_none rfl) (v := .bool true) (by intro ρ hρ kc kf; rw [← hρ] at h33; clear hρ; simp [execOp, go_sem, h33]) ⟨_, rfl, (fun h => by cases h), rfl, Below.refl _ _, (fun h => absurd h (by decide))⟩
        · intro ho a W hW hd hx
          have h34 : a.eval (.tmp 34) = .bool true := hd 21 (by kernel_rfl)
          exact op_value ho (want_yes rfl (show valAt _ a 21 = _ from h34)) (v := .agg #[.int .i64 2, .int .i64 0, .int .i64 0, .int .i64 0, .int .i64 0, .int .i64 0, .int .i64 0, .int .i64 0]) (by intro ρ hρ kc kf; clear hρ; simp [execOp, go_sem, kc]) ⟨_, rfl, (fun h => by cases h), rfl, Below.refl _ _, (fun h => absurd h (by decide))⟩
        · intro ho a W hW hd hx
          have h34 : a.eval (.tmp 34) = .bool true := hd 21 (by kernel_rfl)
          have h35 : a.eval (.tmp 35) = .agg #[.int .i64 2, .int .i64 0, .int .i64 0, .int .i64 0, .int .i64 0, .int .i64 0, .int .i64 0, .int .i64 0] := hd 22 (by kernel_rfl)
          refine op_call ho (want_yes rfl (show valAt _ a 21 = _ from h34)) (by intro ρ hρ kc kf; rw [← hρ] at h35; clear hρ; simp [execOp, go_sem, kc, kf, h35]) (others_any 2 1 0 0 0 0 0 0 0 0 (by decide) W) ?_
          rintro e W2 ⟨rfl, k2⟩
          exact ⟨_, rfl, _, rfl, (fun h => by cases h), rfl, k2, (fun h => absurd h (by decide))⟩
        · intro ho a W hW hd hx
          have h34 : a.eval (.tmp 34) = .bool true := hd 21 (by kernel_rfl)
          have h36 : a.eval (.tmp 36) = .int .i64 0 := hd 23 (by kernel_rfl)
          exact op_value ho (want_yes rfl (show valAt _ a 21 = _ from h34)) (v := .bool true) (by intro ρ hρ kc kf; rw [← hρ] at h36; clear hρ; simp [execOp, go_sem, kc, h36]) ⟨_, rfl, (fun h => by cases h), rfl, Below.refl _ _, (fun h => absurd h (by decide))⟩
        · intro ho a W hW hd hx
          have h34 : a.eval (.tmp 34) = .bool true := hd 21 (by kernel_rfl)
          have h37 : a.eval (.tmp 37) = .bool true := hd 24 (by kernel_rfl)
          exact op_value ho (want_none rfl) (v := .bool true) (by intro ρ hρ kc kf; rw [← hρ] at h34 h37; clear hρ; simp [execOp, go_sem, kc, h34, h37]) ⟨_, rfl, (fun h => by cases h), rfl, Below.refl _ _, (fun h => absurd h (by decide))⟩
        · intro ho a W hW hd hx
          have h38 : a.eval (.tmp 38) = .bool true := hd 25 (by kernel_rfl)
          exact op_value ho (want_none rfl) (v := .bool true) (by intro ρ hρ kc kf; rw [← hρ] at h38; clear hρ; simp [execOp, go_sem, h38]) ⟨_, rfl, (fun h => by cases h), rfl, Below.refl _ _, (fun h => absurd h (by decide))⟩
        · intro ho a W hW hd hx
          have h39 : a.eval (.tmp 39) = .bool true := hd 26 (by kernel_rfl)
          exact op_value ho (want_yes rfl (show valAt _ a 26 = _ from h39)) (v := .agg #[.int .i64 2, .int .i64 0, .int .i64 0, .int .i64 0, .int .i64 0, .int .i64 0, .int .i64 0, .int .i64 0]) (by intro ρ hρ kc kf; clear hρ; simp [execOp, go_sem, kc]) ⟨_, rfl, (fun h => by cases h), rfl, Below.refl _ _, (fun h => absurd h (by decide))⟩
        · intro ho a W hW hd hx
          have h39 : a.eval (.tmp 39) = .bool true := hd 26 (by kernel_rfl)
          have h40 : a.eval (.tmp 40) = .agg #[.int .i64 2, .int .i64 0, .int .i64 0, .int .i64 0, .int .i64 0, .int .i64 0, .int .i64 0, .int .i64 0] := hd 27 (by kernel_rfl)
          refine op_call ho (want_yes rfl (show valAt _ a 26 = _ from h39)) (by intro ρ hρ kc kf; rw [← hρ] at h40; clear hρ; simp [execOp, go_sem, kc, kf, h40]) (others_any 2 1 1 0 0 0 0 0 0 0 (by decide) W) ?_
          rintro e W2 ⟨rfl, k2⟩
          exact ⟨_, rfl, _, rfl, (fun h => by cases h), rfl, k2, (fun h => absurd h (by decide))⟩
        · intro ho a W hW hd hx
          have h39 : a.eval (.tmp 39) = .bool true := hd 26 (by kernel_rfl)
          have h41 : a.eval (.tmp 41) = .int .i64 2 := hd 28 (by kernel_rfl)
          exact op_value ho (want_yes rfl (show valAt _ a 26 = _ from h39)) (v := .bool true) (by intro ρ hρ kc kf; rw [← hρ] at h41; clear hρ; simp [execOp, go_sem, kc, h41]) ⟨_, rfl, (fun h => by cases h), rfl, Below.refl _ _, (fun h => absurd h (by decide))⟩
        · intro ho a W hW hd hx
          have h39 : a.eval (.tmp 39) = .bool true := hd 26 (by kernel_rfl)
          have h42 : a.eval (.tmp 42) = .bool true := hd 29 (by kernel_rfl)
          exact op_value ho (want_none rfl) (v := .bool true) (by intro ρ hρ kc kf; rw [← hρ] at h39 h42; clear hρ; simp [execOp, go_sem, kc, h39, h42]) ⟨_, rfl, (fun h => by cases h), rfl, Below.refl _ _, (fun h => absurd h (by decide))⟩
        · intro ho a W hW hd hx
          have h43 : a.eval (.tmp 43) = .bool true := hd 30 (by kernel_rfl)
          exact op_value ho (want_none rfl) (v := .bool true) (by intro ρ hρ kc kf; rw [← hρ] at h43; clear hρ; simp [execOp, go_sem, h43]) ⟨_, rfl, (fun h => by cases h), rfl, Below.refl _ _, (fun h => absurd h (by decide))⟩
      case cFin =>
        intro v W hW hv _
        have hlast : v 31 = .bool true := hv 31 (by decide)
        simp only [List.take_succ_cons, List.take_zero, List.drop_succ_cons, List.drop_zero, fillL, wpTail, Act.put, List.setIfInBounds_toArray, List.set_cons_zero, List.set_cons_succ, Nat.reduceAdd]
        rw [hlast]
        go_wp2
        go_ret
        exact ⟨rfl, KW.out.trans (hW.mono KW.out.size)⟩

end Go.Proofs.Ytilpcoebpinmfaa
