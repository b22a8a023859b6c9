/-
  The walk of breakwaterlaw13.ChooseTells. (The regions' lines are printed by choose_tells.py.)
-/
import Derived.Test.YtilpcoebpinmfaaLawLib
import Derived.Test.YtilpcoebpinmfaaRef
namespace Go.Proofs.Ytilpcoebpinmfaa
open Go.RowKit

theorem two_of {i : Nat} (h : (i == 6 || i == 7) = true) : i = 6 ∨ i = 7 := by simpa using h
def geo8 (b0 b1 b2 b3 b4 b5 b6 b7 : Int) : Array Value := #[Value.int IntKind.i64 b0, Value.int IntKind.i64 b1, Value.int IntKind.i64 b2, Value.int IntKind.i64 b3, Value.int IntKind.i64 b4, Value.int IntKind.i64 b5, Value.int IntKind.i64 b6, Value.int IntKind.i64 b7]
theorem run_load_G {ρ : Operand → Value} {dst : Option Tmp} {ty : TypeId} {pos : String} {af : Array Edge} {gd : Option (Nat × Bool)} {w : World} {g d : Nat} {b0 b1 b2 b3 b4 b5 b6 b7 : Int} (h : ρ (.tmp d) = .pointer (some ⟨g, 0, none⟩)) (hb : Blk w g 26 (geo8 b0 b1 b2 b3 b4 b5 b6 b7)) :
    (execOp ρ ⟨dst, .load 26 (.tmp d), ty, pos, af, gd⟩).run Try.prog w = .ok (.value (.agg (geo8 b0 b1 b2 b3 b4 b5 b6 b7))) w := by
  have c0 : w.cell? ⟨g, 0, none⟩ = some (.int .i64 b0) := by rw [hb.cell 0]; rfl
  have c1 : w.cell? ⟨g, 1, none⟩ = some (.int .i64 b1) := by rw [hb.cell 1]; rfl
  have c2 : w.cell? ⟨g, 2, none⟩ = some (.int .i64 b2) := by rw [hb.cell 2]; rfl
  have c3 : w.cell? ⟨g, 3, none⟩ = some (.int .i64 b3) := by rw [hb.cell 3]; rfl
  have c4 : w.cell? ⟨g, 4, none⟩ = some (.int .i64 b4) := by rw [hb.cell 4]; rfl
  have c5 : w.cell? ⟨g, 5, none⟩ = some (.int .i64 b5) := by rw [hb.cell 5]; rfl
  have c6 : w.cell? ⟨g, 6, none⟩ = some (.int .i64 b6) := by rw [hb.cell 6]; rfl
  have c7 : w.cell? ⟨g, 7, none⟩ = some (.int .i64 b7) := by rw [hb.cell 7]; rfl
  simp [execOp, go_sem, h, c0, c1, c2, c3, c4, c5, c6, c7, geo8]
theorem others_g (b0 b1 b2 b3 b4 b5 b6 b7 node i : Int) (hb : b0 < 9223372036854775808) (w : World) :
    Calls Try.prog 18 #[.agg (geo8 b0 b1 b2 b3 b4 b5 b6 b7), .int .i64 node, .int .i64 i] w fun x w' => x = .returned (.int .i64 (oth b0 node i)) ∧ Below w.heap.size w w' := others_any b0 node i b1 b2 b3 b4 b5 b6 b7 hb w
theorem rothers_g (b0 b1 b2 b3 b4 b5 b6 b7 node i : Int) (hi : i ≤ 1125899906842624) (w : World) :
    Calls Try.prog 19 #[.agg (geo8 b0 b1 b2 b3 b4 b5 b6 b7), .int .i64 node, .int .i64 i] w fun x w' => x = .returned (.int .i64 (oth b0 node i)) ∧ Below w.heap.size w w' := rothers_any b0 node i b1 b2 b3 b4 b5 b6 b7 hi w

set_option maxRecDepth 100000 in
set_option maxHeartbeats 4000000 in
theorem tells_main (own : Rc) (seen : Int) (A : Option Addr) (n c : Nat) (l : List Rc) (cmd : ByteArray) (b0 b1 b2 b3 b4 b5 b6 b7 node i : Int) (w : World) (hl : RdR w w.heap.size A n l) (hn : n ≤ 60) (hg : grB l = false) (ho : grB [own] = false) (hc : cmd.size ≤ 200) (hi : i ≤ 1125899906842624) (hb : b0 < 9223372036854775808) :
    Calls Try.prog 3 #[.agg (rc own), .int .i64 seen, .slice A n c, .string cmd, .agg (geo8 b0 b1 b2 b3 b4 b5 b6 b7), .int .i64 node, .int .i64 i] w fun e w' => e = .returned (.bool true) ∧ Below w.heap.size w w' := by
  change Calls Try.prog 3 #[.agg #[Value.int IntKind.i64 own.inst, Value.int IntKind.i64 own.mbal, Value.int IntKind.i64 own.bal, Value.string own.val], .int .i64 seen, .slice A n c, .string cmd, .agg #[Value.int IntKind.i64 b0, Value.int IntKind.i64 b1, Value.int IntKind.i64 b2, Value.int IntKind.i64 b3, Value.int IntKind.i64 b4, Value.int IntKind.i64 b5, Value.int IntKind.i64 b6, Value.int IntKind.i64 b7], .int .i64 node, .int .i64 i] w _
  obtain ⟨T, hT⟩ : ∃ T, T = countT (begun own seen) l := ⟨_, rfl⟩
  have cA := fun W (h : Below w.heap.size w W) => count_any (begun own seen) A n c w.heap.size l W (hl.below h) h.size (by omega)
  have cR := fun W (h : Below w.heap.size w W) => rcount_any (begun own seen) A n c w.heap.size l W (hl.below h) h.size (by omega)
  rw [← hT] at cA cR
  have hsz : ¬ (200 : Int) < (cmd.size : Int) := by omega
  have hi' : ¬ (1125899906842624 : Int) < i := by omega
  have kw0 : Below w.heap.size w ((w.alloc (Obj.cells #[Value.int IntKind.i64 own.inst, Value.int IntKind.i64 own.mbal, Value.int IntKind.i64 own.bal, Value.string own.val] 23)).alloc (Obj.cells #[Value.int IntKind.i64 b0, Value.int IntKind.i64 b1, Value.int IntKind.i64 b2, Value.int IntKind.i64 b3, Value.int IntKind.i64 b4, Value.int IntKind.i64 b5, Value.int IntKind.i64 b6, Value.int IntKind.i64 b7] 26)) := ((Below.refl _ _).alloc (Nat.le_refl _) _).alloc (by simp) _
  have C1 := Lib.hid (great_c A n c w.heap.size l ((w.alloc (Obj.cells #[Value.int IntKind.i64 own.inst, Value.int IntKind.i64 own.mbal, Value.int IntKind.i64 own.bal, Value.string own.val] 23)).alloc (Obj.cells #[Value.int IntKind.i64 b0, Value.int IntKind.i64 b1, Value.int IntKind.i64 b2, Value.int IntKind.i64 b3, Value.int IntKind.i64 b4, Value.int IntKind.i64 b5, Value.int IntKind.i64 b6, Value.int IntKind.i64 b7] 26)) (hl.below kw0) (by omega) hg)
  have k1 := Blk.new ((w.alloc (Obj.cells #[Value.int IntKind.i64 own.inst, Value.int IntKind.i64 own.mbal, Value.int IntKind.i64 own.bal, Value.string own.val] 23)).alloc (Obj.cells #[Value.int IntKind.i64 b0, Value.int IntKind.i64 b1, Value.int IntKind.i64 b2, Value.int IntKind.i64 b3, Value.int IntKind.i64 b4, Value.int IntKind.i64 b5, Value.int IntKind.i64 b6, Value.int IntKind.i64 b7] 26)) 23 (rc own)
  have C2 : Hid (Calls Try.prog 8 #[.slice (some ⟨w.heap.size + 1 + 1, 0, none⟩) 1 1] (((w.alloc (Obj.cells #[Value.int IntKind.i64 own.inst, Value.int IntKind.i64 own.mbal, Value.int IntKind.i64 own.bal, Value.string own.val] 23)).alloc (Obj.cells #[Value.int IntKind.i64 b0, Value.int IntKind.i64 b1, Value.int IntKind.i64 b2, Value.int IntKind.i64 b3, Value.int IntKind.i64 b4, Value.int IntKind.i64 b5, Value.int IntKind.i64 b6, Value.int IntKind.i64 b7] 26)).alloc (Obj.cells #[Value.int IntKind.i64 own.inst, Value.int IntKind.i64 own.mbal, Value.int IntKind.i64 own.bal, Value.string own.val] 23)) _) := Lib.hid (great_one (w.heap.size + 1 + 1) own _ (by simpa [rc] using k1) ho)
  have KO0 : Hid (Blk (((w.alloc (Obj.cells #[Value.int IntKind.i64 own.inst, Value.int IntKind.i64 own.mbal, Value.int IntKind.i64 own.bal, Value.string own.val] 23)).alloc (Obj.cells #[Value.int IntKind.i64 b0, Value.int IntKind.i64 b1, Value.int IntKind.i64 b2, Value.int IntKind.i64 b3, Value.int IntKind.i64 b4, Value.int IntKind.i64 b5, Value.int IntKind.i64 b6, Value.int IntKind.i64 b7] 26)).alloc (Obj.cells #[Value.int IntKind.i64 own.inst, Value.int IntKind.i64 own.mbal, Value.int IntKind.i64 own.bal, Value.string own.val] 23)) w.heap.size 23 (rc own)) := Lib.hid (((Blk.new w 23 _).alloc _).alloc _)
  have kg0 := (Blk.new (w.alloc (Obj.cells #[Value.int IntKind.i64 own.inst, Value.int IntKind.i64 own.mbal, Value.int IntKind.i64 own.bal, Value.string own.val] 23)) 26 (geo8 b0 b1 b2 b3 b4 b5 b6 b7)).alloc (Obj.cells #[Value.int IntKind.i64 own.inst, Value.int IntKind.i64 own.mbal, Value.int IntKind.i64 own.bal, Value.string own.val] 23)
  have KG0 : Hid (Blk (((w.alloc (Obj.cells #[Value.int IntKind.i64 own.inst, Value.int IntKind.i64 own.mbal, Value.int IntKind.i64 own.bal, Value.string own.val] 23)).alloc (Obj.cells #[Value.int IntKind.i64 b0, Value.int IntKind.i64 b1, Value.int IntKind.i64 b2, Value.int IntKind.i64 b3, Value.int IntKind.i64 b4, Value.int IntKind.i64 b5, Value.int IntKind.i64 b6, Value.int IntKind.i64 b7] 26)).alloc (Obj.cells #[Value.int IntKind.i64 own.inst, Value.int IntKind.i64 own.mbal, Value.int IntKind.i64 own.bal, Value.string own.val] 23)) (w.heap.size + 1) 26 (geo8 b0 b1 b2 b3 b4 b5 b6 b7)) := Lib.hid (by simpa [geo8] using kg0)
  have KW0 : Hid (Below w.heap.size w (((w.alloc (Obj.cells #[Value.int IntKind.i64 own.inst, Value.int IntKind.i64 own.mbal, Value.int IntKind.i64 own.bal, Value.string own.val] 23)).alloc (Obj.cells #[Value.int IntKind.i64 b0, Value.int IntKind.i64 b1, Value.int IntKind.i64 b2, Value.int IntKind.i64 b3, Value.int IntKind.i64 b4, Value.int IntKind.i64 b5, Value.int IntKind.i64 b6, Value.int IntKind.i64 b7] 26)).alloc (Obj.cells #[Value.int IntKind.i64 own.inst, Value.int IntKind.i64 own.mbal, Value.int IntKind.i64 own.bal, Value.string own.val] 23))) := Lib.hid (kw0.alloc (by simp; omega) _)
  have CA := Lib.hid cA; have CR := Lib.hid cR; have HB := Lib.hid hb; have HI := Lib.hid hi
  have HZ : Hid (((((w.alloc (Obj.cells #[Value.int IntKind.i64 own.inst, Value.int IntKind.i64 own.mbal, Value.int IntKind.i64 own.bal, Value.string own.val] 23)).alloc (Obj.cells #[Value.int IntKind.i64 b0, Value.int IntKind.i64 b1, Value.int IntKind.i64 b2, Value.int IntKind.i64 b3, Value.int IntKind.i64 b4, Value.int IntKind.i64 b5, Value.int IntKind.i64 b6, Value.int IntKind.i64 b7] 26)).alloc (Obj.cells #[Value.int IntKind.i64 own.inst, Value.int IntKind.i64 own.mbal, Value.int IntKind.i64 own.bal, Value.string own.val] 23))).heap.size = w.heap.size + 3) := Lib.hid (by simp)
  clear hl hg ho k1 cA cR hT hb hi hc kg0 kw0
  go_enter Try.func3, Try.ntmps3
  go_wp2_with fail
  refine C1.out.mono ?_
  rintro e w1 ⟨rfl, rfl⟩
  go_wp2_with fail
  refine C2.out.mono ?_
  rintro e w1 ⟨rfl, rfl⟩
  go_upto_region 3 with fail
  obtain ⟨w1, hw1⟩ : ∃ w1, w1 = (((w.alloc (Obj.cells #[Value.int IntKind.i64 own.inst, Value.int IntKind.i64 own.mbal, Value.int IntKind.i64 own.bal, Value.string own.val] 23)).alloc (Obj.cells #[Value.int IntKind.i64 b0, Value.int IntKind.i64 b1, Value.int IntKind.i64 b2, Value.int IntKind.i64 b3, Value.int IntKind.i64 b4, Value.int IntKind.i64 b5, Value.int IntKind.i64 b6, Value.int IntKind.i64 b7] 26)).alloc (Obj.cells #[Value.int IntKind.i64 own.inst, Value.int IntKind.i64 own.mbal, Value.int IntKind.i64 own.bal, Value.string own.val] 23)) := ⟨_, rfl⟩
  have KO := KO0; have KW1 := KW0; have KG := KG0; have HZ1 := HZ
  rw [← hw1] at KO KW1 KG HZ1 ⊢
  clear KO0 KW0 KG0 HZ C1 C2 hw1
  refine wp_region_grows 8 ((fun q_ _ _ => q_ = .agg (rc own)) :: (fun q_ _ _ => q_ = .int .i64 seen) :: (fun q_ _ _ => q_ = .agg (tc (begun own seen))) :: (fun q_ _ _ => q_ = .agg (rc own)) :: (fun q_ _ _ => q_ = .int .i64 seen) :: (fun q_ _ _ => q_ = .agg (tc (begun own seen))) :: (fun q_ _ W => q_ = ptr (gOf q_) ∧ w1.heap.size ≤ gOf q_ ∧ Blk W (gOf q_) 30 (tc zT)) :: (fun q_ _ W => q_ = ptr (gOf q_) ∧ w1.heap.size ≤ gOf q_ ∧ Blk W (gOf q_) 30 (tc zT)) :: []) ((fun i => i == 6 || i == 7)) (w1.heap.size) w1 (by kernel_rfl) (by kernel_rfl) (by kernel_rfl) (Below.refl _ _) (Nat.le_refl _) ?aStab (fun i hi x W hx => by rcases two_of hi with rfl | rfl <;> exact ⟨_, hx.1, hx.2.2.lt⟩) ?aOps ?aFin
  case aStab => exact ⟨st_is _, st_is _, st_is _, st_is _, st_is _, st_is _, st_alloc _ _ _, st_alloc _ _ _, trivial⟩
  case aOps =>
    intro Q
    refine ⟨?_, ?_, ?_, ?_, ?_, ?_, ?_, ?_, trivial⟩
    · intro ho a W hW hd hx
      have h7 : a.eval (.tmp 7) = .pointer (some ⟨w.heap.size, 0, none⟩) := (hx 7 (dst_not (by kernel_rfl))).trans rfl
      exact op_value ho (want_none rfl) (v := .agg (rc own)) (by intro ρ hρ kc kf; rw [← hρ] at h7; exact run_load_B h7 (KO.out.below hW KO.out.lt)) ⟨_, rfl, (fun h => by cases h), rfl, Below.refl _ _, (fun h => absurd h (by decide))⟩
    · intro ho a W hW hd hx
      have h1 : a.eval (.tmp 1) = .int .i64 seen := (hx 1 (dst_not (by kernel_rfl))).trans rfl
      exact op_value ho (want_none rfl) (v := .int .i64 seen) (by intro ρ hρ kc kf; rw [← hρ] at h1; clear hρ; simp [execOp, go_sem, h1]) ⟨_, rfl, (fun h => by cases h), rfl, Below.refl _ _, (fun h => absurd h (by decide))⟩
    · intro ho a W hW hd hx
      have h34 : a.eval (.tmp 34) = .agg (rc own) := hd 0 (by kernel_rfl)
      have h35 : a.eval (.tmp 35) = .int .i64 seen := hd 1 (by kernel_rfl)
      refine op_call ho (want_none rfl) (by intro ρ hρ kc kf; rw [← hρ] at h34 h35; clear hρ; simp [execOp, go_sem, kf, h34, h35]) (begin_tc own seen W) ?_
      rintro e W2 ⟨rfl, k2⟩
      exact ⟨_, rfl, _, rfl, (fun h => by cases h), rfl, k2, (fun h => absurd h (by decide))⟩
    · intro ho a W hW hd hx
      have h7 : a.eval (.tmp 7) = .pointer (some ⟨w.heap.size, 0, none⟩) := (hx 7 (dst_not (by kernel_rfl))).trans rfl
      exact op_value ho (want_none rfl) (v := .agg (rc own)) (by intro ρ hρ kc kf; rw [← hρ] at h7; exact run_load_B h7 (KO.out.below hW KO.out.lt)) ⟨_, rfl, (fun h => by cases h), rfl, Below.refl _ _, (fun h => absurd h (by decide))⟩
    · intro ho a W hW hd hx
      have h1 : a.eval (.tmp 1) = .int .i64 seen := (hx 1 (dst_not (by kernel_rfl))).trans rfl
      exact op_value ho (want_none rfl) (v := .int .i64 seen) (by intro ρ hρ kc kf; rw [← hρ] at h1; clear hρ; simp [execOp, go_sem, h1]) ⟨_, rfl, (fun h => by cases h), rfl, Below.refl _ _, (fun h => absurd h (by decide))⟩
    · intro ho a W hW hd hx
      have h37 : a.eval (.tmp 37) = .agg (rc own) := hd 3 (by kernel_rfl)
      have h38 : a.eval (.tmp 38) = .int .i64 seen := hd 4 (by kernel_rfl)
      refine op_call ho (want_none rfl) (by intro ρ hρ kc kf; rw [← hρ] at h37 h38; clear hρ; simp [execOp, go_sem, kf, h37, h38]) (rbegin_tc own seen W) ?_
      rintro e W2 ⟨rfl, k2⟩
      exact ⟨_, rfl, _, rfl, (fun h => by cases h), rfl, k2, (fun h => absurd h (by decide))⟩
    · intro ho a W hW hd hx
      exact op_value ho (want_none rfl) (v := ptr W.heap.size) (w' := W.alloc (.cells (tc zT) 30)) (by intro ρ hρ kc kf; clear hρ; simp [execOp, go_sem, ptr, tc, zT]) ⟨_, rfl, (fun h => by cases h), ⟨rfl, hW.size, Blk.new W 30 _⟩, (Below.refl _ _).alloc (Nat.le_refl _) _, (fun _ => ⟨_, rfl, Nat.le_refl _⟩)⟩
    · intro ho a W hW hd hx
      exact op_value ho (want_none rfl) (v := ptr W.heap.size) (w' := W.alloc (.cells (tc zT) 30)) (by intro ρ hρ kc kf; clear hρ; simp [execOp, go_sem, ptr, tc, zT]) ⟨_, rfl, (fun h => by cases h), ⟨rfl, hW.size, Blk.new W 30 _⟩, (Below.refl _ _).alloc (Nat.le_refl _) _, (fun _ => ⟨_, rfl, Nat.le_refl _⟩)⟩
  intro va W hW hv hne
  have hx : va 6 = ptr (gOf (va 6)) ∧ w1.heap.size ≤ gOf (va 6) ∧ Blk W (gOf (va 6)) 30 (tc zT) := hv 6 (by decide)
  have hy : va 7 = ptr (gOf (va 7)) ∧ w1.heap.size ≤ gOf (va 7) ∧ Blk W (gOf (va 7)) 30 (tc zT) := hv 7 (by decide)
  have hg := hx.1; have hl := hx.2.1; have hb := hx.2.2
  have hg2 := hy.1; have hl2 := hy.2.1; have hb2 := hy.2.2
  have h2 : va 2 = .agg (tc (begun own seen)) := hv 2 (by decide)
  have h5 : va 5 = .agg (tc (begun own seen)) := hv 5 (by decide)
  have hd : gOf (va 6) ≠ gOf (va 7) := fun e => hne 6 7 (by decide) (by decide) (by decide) rfl rfl (by rw [hg, hg2, e])
  simp only [List.take_succ_cons, List.take_zero, List.drop_succ_cons, List.drop_zero, fillL, wpTail, Act.put, List.setIfInBounds_toArray, List.set_cons_zero, List.set_cons_succ, Nat.reduceAdd]
  rw [hg, hg2, h2, h5]
  refine tail_store_T (t := begun own seen) rfl rfl hb rfl ?_
  intro wa kb hgr
  have hb3 := hb2.other hgr (Ne.symm hd)
  have kw : Below w1.heap.size w1 wa := hW.grown hgr hW.size (fun j hj => by injection hj with e; omega)
  refine tail_store_T (t := begun own seen) rfl rfl hb3 rfl ?_
  intro w2 kb2 hgr2
  have kb1 := kb.other hgr2 hd
  have kw2 : Below w1.heap.size w1 w2 := kw.grown hgr2 kw.size (fun j hj => by injection hj with e; omega)
  have K5 := Lib.hid kb1; have K6 := Lib.hid kb2; have KW2 := Lib.hid (KW1.out.trans (kw2.mono KW1.out.size)); have KG2 := Lib.hid (KG.out.below kw2 KG.out.lt); have HD := Lib.hid hd; have z1 := HZ1.out; have H5 : Hid (w.heap.size + 3 ≤ gOf (va 6)) := Lib.hid (by omega); have H6 : Hid (w.heap.size + 3 ≤ gOf (va 7)) := Lib.hid (by omega); clear z1
  clear hW hv hne hx hy hg hl hb hg2 hl2 hb2 h2 h5 hd hgr hgr2 hb3 kb kb1 kb2 kw kw2
  go_upto_region 4 with fail
  refine wp_region_grows 3 ((fun q_ _ _ => q_ = .agg (tc (begun own seen))) :: (fun q_ _ _ => q_ = .agg (tc (begun own seen))) :: (fun q_ _ _ => q_ = .bool false) :: []) (fun _ => false) (w2.heap.size) w2 (by kernel_rfl) (by kernel_rfl) (by kernel_rfl) (Below.refl _ _) (Nat.le_refl _) ?bStab (fun _ h => by cases h) ?bOps ?bFin
  case bStab => exact ⟨st_is _, st_is _, st_is _, trivial⟩
  case bOps =>
    intro Q
    refine ⟨?_, ?_, ?_, trivial⟩
    · intro ho a W hW hd hx
      have h15 : a.eval (.tmp 15) = .pointer (some ⟨(gOf (va 6)), 0, none⟩) := (hx 15 (dst_not (by kernel_rfl))).trans rfl
      exact op_value ho (want_none rfl) (v := .agg (tc (begun own seen))) (by intro ρ hρ kc kf; rw [← hρ] at h15; exact run_load_T h15 (K5.out.below hW K5.out.lt)) ⟨_, rfl, (fun h => by cases h), rfl, Below.refl _ _, (fun h => absurd h (by decide))⟩
    · intro ho a W hW hd hx
      have h16 : a.eval (.tmp 16) = .pointer (some ⟨(gOf (va 7)), 0, none⟩) := (hx 16 (dst_not (by kernel_rfl))).trans rfl
      exact op_value ho (want_none rfl) (v := .agg (tc (begun own seen))) (by intro ρ hρ kc kf; rw [← hρ] at h16; exact run_load_T h16 (K6.out.below hW K6.out.lt)) ⟨_, rfl, (fun h => by cases h), rfl, Below.refl _ _, (fun h => absurd h (by decide))⟩
    · intro ho a W hW hd hx
      have h40 : a.eval (.tmp 40) = .agg (tc (begun own seen)) := hd 0 (by kernel_rfl)
      have h41 : a.eval (.tmp 41) = .agg (tc (begun own seen)) := hd 1 (by kernel_rfl)
      exact op_value ho (want_none rfl) (v := .bool false) (by intro ρ hρ kc kf; rw [← hρ] at h40 h41; exact run_ne_op h40 h41) ⟨_, rfl, (fun h => by cases h), rfl, Below.refl _ _, (fun h => absurd h (by decide))⟩
  intro vb w3 hW hv _
  have h2 : vb 2 = .bool false := hv 2 (by decide)
  simp only [List.take_succ_cons, List.take_zero, List.drop_succ_cons, List.drop_zero, fillL, wpTail, Act.put, List.setIfInBounds_toArray, List.set_cons_zero, List.set_cons_succ, Nat.reduceAdd]
  rw [h2]
  have K5b := Lib.hid (K5.out.below hW K5.out.lt); have K6b := Lib.hid (K6.out.below hW K6.out.lt); have KG3 := Lib.hid (KG2.out.below hW KG2.out.lt); have KW3 := Lib.hid (KW2.out.trans (hW.mono KW2.out.size))
  clear hW hv h2
  go_upto_region 6 with fail
  refine wp_region_grows 6 ((fun q_ _ _ => q_ = .agg (tc (begun own seen))) :: (fun q_ _ _ => q_ = .slice A n c) :: (fun q_ _ _ => q_ = .agg (tc T)) :: (fun q_ _ _ => q_ = .agg (tc (begun own seen))) :: (fun q_ _ _ => q_ = .slice A n c) :: (fun q_ _ _ => q_ = .agg (tc T)) :: []) (fun _ => false) (w3.heap.size) w3 (by kernel_rfl) (by kernel_rfl) (by kernel_rfl) (Below.refl _ _) (Nat.le_refl _) ?cStab (fun _ h => by cases h) ?cOps ?cFin
  case cStab => exact ⟨st_is _, st_is _, st_is _, st_is _, st_is _, st_is _, trivial⟩
  case cOps =>
    intro Q
    refine ⟨?_, ?_, ?_, ?_, ?_, ?_, trivial⟩
    · intro ho a W hW hd hx
      have h15 : a.eval (.tmp 15) = .pointer (some ⟨(gOf (va 6)), 0, none⟩) := (hx 15 (dst_not (by kernel_rfl))).trans rfl
      exact op_value ho (want_none rfl) (v := .agg (tc (begun own seen))) (by intro ρ hρ kc kf; rw [← hρ] at h15; exact run_load_T h15 (K5b.out.below hW K5b.out.lt)) ⟨_, rfl, (fun h => by cases h), rfl, Below.refl _ _, (fun h => absurd h (by decide))⟩
    · intro ho a W hW hd hx
      have h2 : a.eval (.tmp 2) = .slice A n c := (hx 2 (dst_not (by kernel_rfl))).trans rfl
      exact op_value ho (want_none rfl) (v := .slice A n c) (by intro ρ hρ kc kf; rw [← hρ] at h2; clear hρ; simp [execOp, go_sem, h2]) ⟨_, rfl, (fun h => by cases h), rfl, Below.refl _ _, (fun h => absurd h (by decide))⟩
    · intro ho a W hW hd hx
      have h43 : a.eval (.tmp 43) = .agg (tc (begun own seen)) := hd 0 (by kernel_rfl)
      have h44 : a.eval (.tmp 44) = .slice A n c := hd 1 (by kernel_rfl)
      refine op_call ho (want_none rfl) (by intro ρ hρ kc kf; rw [← hρ] at h43 h44; clear hρ; simp [execOp, go_sem, kf, h43, h44]) (CA.out W (KW3.out.trans (hW.mono KW3.out.size))) ?_
      rintro e W2 ⟨rfl, k2⟩
      exact ⟨_, rfl, _, rfl, (fun h => by cases h), rfl, k2, (fun h => absurd h (by decide))⟩
    · intro ho a W hW hd hx
      have h16 : a.eval (.tmp 16) = .pointer (some ⟨(gOf (va 7)), 0, none⟩) := (hx 16 (dst_not (by kernel_rfl))).trans rfl
      exact op_value ho (want_none rfl) (v := .agg (tc (begun own seen))) (by intro ρ hρ kc kf; rw [← hρ] at h16; exact run_load_T h16 (K6b.out.below hW K6b.out.lt)) ⟨_, rfl, (fun h => by cases h), rfl, Below.refl _ _, (fun h => absurd h (by decide))⟩
    · intro ho a W hW hd hx
      have h2 : a.eval (.tmp 2) = .slice A n c := (hx 2 (dst_not (by kernel_rfl))).trans rfl
      exact op_value ho (want_none rfl) (v := .slice A n c) (by intro ρ hρ kc kf; rw [← hρ] at h2; clear hρ; simp [execOp, go_sem, h2]) ⟨_, rfl, (fun h => by cases h), rfl, Below.refl _ _, (fun h => absurd h (by decide))⟩
    · intro ho a W hW hd hx
      have h46 : a.eval (.tmp 46) = .agg (tc (begun own seen)) := hd 3 (by kernel_rfl)
      have h47 : a.eval (.tmp 47) = .slice A n c := hd 4 (by kernel_rfl)
      refine op_call ho (want_none rfl) (by intro ρ hρ kc kf; rw [← hρ] at h46 h47; clear hρ; simp [execOp, go_sem, kf, h46, h47]) (CR.out W (KW3.out.trans (hW.mono KW3.out.size))) ?_
      rintro e W2 ⟨rfl, k2⟩
      exact ⟨_, rfl, _, rfl, (fun h => by cases h), rfl, k2, (fun h => absurd h (by decide))⟩
  intro vc W hW hv _
  have h2 : vc 2 = .agg (tc T) := hv 2 (by decide)
  have h5 : vc 5 = .agg (tc T) := hv 5 (by decide)
  simp only [List.take_succ_cons, List.take_zero, List.drop_succ_cons, List.drop_zero, fillL, wpTail, Act.put, List.setIfInBounds_toArray, List.set_cons_zero, List.set_cons_succ, Nat.reduceAdd]
  rw [h2, h5]
  have kb5 := K5b.out.below hW K5b.out.lt
  have kb6 := K6b.out.below hW K6b.out.lt
  have kg := KG3.out.below hW KG3.out.lt
  have kw : Below w.heap.size w W := KW3.out.trans (hW.mono KW3.out.size)
  have l5 := H5.out; have l6 := H6.out
  refine tail_store_T (t := T) rfl rfl kb5 rfl ?_
  intro wa kb hgr
  have hb3 := kb6.other hgr (Ne.symm HD.out)
  have kg2 := kg.other hgr (by omega)
  have kw2 : Below w.heap.size w wa := kw.grown hgr kw.size (fun j hj => by injection hj with e; omega)
  refine tail_store_T (t := T) rfl rfl hb3 rfl ?_
  intro w4 kb2 hgr2
  have K5c := Lib.hid (kb.other hgr2 HD.out); have K6c := Lib.hid kb2; have KG4 := Lib.hid (kg2.other hgr2 (by omega))
  have KW4 : Hid (Below w.heap.size w w4) := Lib.hid (kw2.grown hgr2 kw2.size (fun j hj => by injection hj with e; omega))
  clear hW hv h2 h5 kb5 kb6 kg kw hgr hgr2 hb3 kg2 kw2 kb kb2 l5 l6
  go_upto_region 7 with fail
  refine wp_region_grows 34 ((fun q_ _ _ => q_ = .agg (tc T)) :: (fun q_ _ _ => q_ = .agg (tc T)) :: (fun q_ _ _ => q_ = .bool true) :: (fun q_ _ _ => q_ = .bool true) :: (fun q_ _ _ => q_ = .agg (tc T)) :: (fun q_ _ _ => q_ = .bool (T.ahead || T.lost)) :: (fun q_ _ _ => q_ = .agg (tc T)) :: (fun q_ _ _ => q_ = .bool (T.ahead || T.lost)) :: (fun q_ _ _ => q_ = .bool true) :: (fun q_ _ _ => q_ = .bool true) :: (fun q_ _ _ => q_ = .bool true) :: (fun q_ _ _ => q_ = .agg (tc T)) :: (fun q_ _ _ => q_ = .string cmd) :: (fun q_ _ _ => q_ = .string (valueT T cmd)) :: (fun q_ _ _ => q_ = .agg (tc T)) :: (fun q_ _ _ => q_ = .string cmd) :: (fun q_ _ _ => q_ = .string (valueT T cmd)) :: (fun q_ _ _ => q_ = .bool true) :: (fun q_ _ _ => q_ = .bool true) :: (fun q_ _ _ => q_ = .bool true) :: (fun q_ _ _ => q_ = .agg (geo8 b0 b1 b2 b3 b4 b5 b6 b7)) :: (fun q_ _ _ => q_ = .int .i64 node) :: (fun q_ _ _ => q_ = .int .i64 i) :: (fun q_ _ _ => q_ = .int .i64 (oth b0 node i)) :: (fun q_ _ _ => q_ = .agg (geo8 b0 b1 b2 b3 b4 b5 b6 b7)) :: (fun q_ _ _ => q_ = .int .i64 node) :: (fun q_ _ _ => q_ = .int .i64 i) :: (fun q_ _ _ => q_ = .int .i64 (oth b0 node i)) :: (fun q_ _ _ => q_ = .bool true) :: (fun q_ _ _ => q_ = .bool true) :: (fun q_ _ _ => q_ = .bool true) :: (fun q_ _ _ => q_ = .bool true) :: (fun q_ _ _ => q_ = .bool true) :: (fun q_ _ _ => q_ = .bool true) :: []) (fun _ => false) (w4.heap.size) w4 (by kernel_rfl) (by kernel_rfl) (by kernel_rfl) (Below.refl _ _) (Nat.le_refl _) ?dStab (fun _ h => by cases h) ?dOps ?dFin
  case dStab => exact ⟨st_is _, st_is _, st_is _, st_is _, st_is _, st_is _, st_is _, st_is _, st_is _, st_is _, st_is _, st_is _, st_is _, st_is _, st_is _, st_is _, st_is _, st_is _, st_is _, st_is _, st_is _, st_is _, st_is _, st_is _, st_is _, st_is _, st_is _, st_is _, st_is _, st_is _, st_is _, st_is _, st_is _, st_is _, trivial⟩
  case dOps =>
    intro Q
    refine ⟨?_, ?_, ?_, ?_, ?_, ?_, ?_, ?_, ?_, ?_, ?_, ?_, ?_, ?_, ?_, ?_, ?_, ?_, ?_, ?_, ?_, ?_, ?_, ?_, ?_, ?_, ?_, ?_, ?_, ?_, ?_, ?_, ?_, ?_, trivial⟩
    · intro ho a W hW hd hx
      have h15 : a.eval (.tmp 15) = .pointer (some ⟨(gOf (va 6)), 0, none⟩) := (hx 15 (dst_not (by kernel_rfl))).trans rfl
      exact op_value ho (want_none rfl) (v := .agg (tc T)) (by intro ρ hρ kc kf; rw [← hρ] at h15; exact run_load_T h15 (K5c.out.below hW K5c.out.lt)) ⟨_, rfl, (fun h => by cases h), rfl, Below.refl _ _, (fun h => absurd h (by decide))⟩
    · intro ho a W hW hd hx
      have h16 : a.eval (.tmp 16) = .pointer (some ⟨(gOf (va 7)), 0, none⟩) := (hx 16 (dst_not (by kernel_rfl))).trans rfl
      exact op_value ho (want_none rfl) (v := .agg (tc T)) (by intro ρ hρ kc kf; rw [← hρ] at h16; exact run_load_T h16 (K6c.out.below hW K6c.out.lt)) ⟨_, rfl, (fun h => by cases h), rfl, Below.refl _ _, (fun h => absurd h (by decide))⟩
    · intro ho a W hW hd hx
      have h49 : a.eval (.tmp 49) = .agg (tc T) := hd 0 (by kernel_rfl)
      have h50 : a.eval (.tmp 50) = .agg (tc T) := hd 1 (by kernel_rfl)
      exact op_value ho (want_none rfl) (v := .bool true) (by intro ρ hρ kc kf; rw [← hρ] at h49 h50; exact run_eq_op h49 h50) ⟨_, rfl, (fun h => by cases h), rfl, Below.refl _ _, (fun h => absurd h (by decide))⟩
    · intro ho a W hW hd hx
      have h51 : a.eval (.tmp 51) = .bool true := hd 2 (by kernel_rfl)
      exact op_value ho (want_none rfl) (v := .bool true) (by intro ρ hρ kc kf; rw [← hρ] at h51; clear hρ; simp [execOp, go_sem, h51]) ⟨_, rfl, (fun h => by cases h), rfl, Below.refl _ _, (fun h => absurd h (by decide))⟩
    · intro ho a W hW hd hx
      have h52 : a.eval (.tmp 52) = .bool true := hd 3 (by kernel_rfl)
      have h15 : a.eval (.tmp 15) = .pointer (some ⟨(gOf (va 6)), 0, none⟩) := (hx 15 (dst_not (by kernel_rfl))).trans rfl
      exact op_value ho (want_yes rfl (show valAt _ a 3 = _ from h52)) (v := .agg (tc T)) (by intro ρ hρ kc kf; rw [← hρ] at h15; exact run_load_T h15 (K5c.out.below hW K5c.out.lt)) ⟨_, rfl, (fun h => by cases h), rfl, Below.refl _ _, (fun h => absurd h (by decide))⟩
    · intro ho a W hW hd hx
      have h52 : a.eval (.tmp 52) = .bool true := hd 3 (by kernel_rfl)
      have h53 : a.eval (.tmp 53) = .agg (tc T) := hd 4 (by kernel_rfl)
      refine op_call ho (want_yes rfl (show valAt _ a 3 = _ from h52)) (by intro ρ hρ kc kf; rw [← hρ] at h53; clear hρ; simp [execOp, go_sem, kf, h53]) (stops_tc T W) ?_
      rintro e W2 ⟨rfl, k2⟩
      exact ⟨_, rfl, _, rfl, (fun h => by cases h), rfl, k2, (fun h => absurd h (by decide))⟩
    · intro ho a W hW hd hx
      have h52 : a.eval (.tmp 52) = .bool true := hd 3 (by kernel_rfl)
      have h16 : a.eval (.tmp 16) = .pointer (some ⟨(gOf (va 7)), 0, none⟩) := (hx 16 (dst_not (by kernel_rfl))).trans rfl
      exact op_value ho (want_yes rfl (show valAt _ a 3 = _ from h52)) (v := .agg (tc T)) (by intro ρ hρ kc kf; rw [← hρ] at h16; exact run_load_T h16 (K6c.out.below hW K6c.out.lt)) ⟨_, rfl, (fun h => by cases h), rfl, Below.refl _ _, (fun h => absurd h (by decide))⟩
    · intro ho a W hW hd hx
      have h52 : a.eval (.tmp 52) = .bool true := hd 3 (by kernel_rfl)
      have h55 : a.eval (.tmp 55) = .agg (tc T) := hd 6 (by kernel_rfl)
      refine op_call ho (want_yes rfl (show valAt _ a 3 = _ from h52)) (by intro ρ hρ kc kf; rw [← hρ] at h55; clear hρ; simp [execOp, go_sem, kf, h55]) (rstops_tc T W) ?_
      rintro e W2 ⟨rfl, k2⟩
      exact ⟨_, rfl, _, rfl, (fun h => by cases h), rfl, k2, (fun h => absurd h (by decide))⟩
    · intro ho a W hW hd hx
      have h52 : a.eval (.tmp 52) = .bool true := hd 3 (by kernel_rfl)
      have h54 : a.eval (.tmp 54) = .bool (T.ahead || T.lost) := hd 5 (by kernel_rfl)
      have h56 : a.eval (.tmp 56) = .bool (T.ahead || T.lost) := hd 7 (by kernel_rfl)
      exact op_value ho (want_yes rfl (show valAt _ a 3 = _ from h52)) (v := .bool true) (by intro ρ hρ kc kf; rw [← hρ] at h54 h56; clear hρ; simp [execOp, go_sem, h54, h56]) ⟨_, rfl, (fun h => by cases h), rfl, Below.refl _ _, (fun h => absurd h (by decide))⟩
    · intro ho a W hW hd hx
      have h52 : a.eval (.tmp 52) = .bool true := hd 3 (by kernel_rfl)
      have h57 : a.eval (.tmp 57) = .bool true := hd 8 (by kernel_rfl)
      exact op_value ho (want_none rfl) (v := .bool true) (by intro ρ hρ kc kf; rw [← hρ] at h52 h57; clear hρ; simp [execOp, go_sem, kc, h52, h57]) ⟨_, rfl, (fun h => by cases h), rfl, Below.refl _ _, (fun h => absurd h (by decide))⟩
    · intro ho a W hW hd hx
      have h58 : a.eval (.tmp 58) = .bool true := hd 9 (by kernel_rfl)
      exact op_value ho (want_none rfl) (v := .bool true) (by intro ρ hρ kc kf; rw [← hρ] at h58; clear hρ; simp [execOp, go_sem, h58]) ⟨_, rfl, (fun h => by cases h), rfl, Below.refl _ _, (fun h => absurd h (by decide))⟩
    · intro ho a W hW hd hx
      have h59 : a.eval (.tmp 59) = .bool true := hd 10 (by kernel_rfl)
      have h15 : a.eval (.tmp 15) = .pointer (some ⟨(gOf (va 6)), 0, none⟩) := (hx 15 (dst_not (by kernel_rfl))).trans rfl
      exact op_value ho (want_yes rfl (show valAt _ a 10 = _ from h59)) (v := .agg (tc T)) (by intro ρ hρ kc kf; rw [← hρ] at h15; exact run_load_T h15 (K5c.out.below hW K5c.out.lt)) ⟨_, rfl, (fun h => by cases h), rfl, Below.refl _ _, (fun h => absurd h (by decide))⟩
    · intro ho a W hW hd hx
      have h59 : a.eval (.tmp 59) = .bool true := hd 10 (by kernel_rfl)
      have h3 : a.eval (.tmp 3) = .string cmd := (hx 3 (dst_not (by kernel_rfl))).trans rfl
      exact op_value ho (want_yes rfl (show valAt _ a 10 = _ from h59)) (v := .string cmd) (by intro ρ hρ kc kf; rw [← hρ] at h3; clear hρ; simp [execOp, go_sem, h3]) ⟨_, rfl, (fun h => by cases h), rfl, Below.refl _ _, (fun h => absurd h (by decide))⟩
    · intro ho a W hW hd hx
      have h59 : a.eval (.tmp 59) = .bool true := hd 10 (by kernel_rfl)
      have h60 : a.eval (.tmp 60) = .agg (tc T) := hd 11 (by kernel_rfl)
      have h61 : a.eval (.tmp 61) = .string cmd := hd 12 (by kernel_rfl)
      refine op_call ho (want_yes rfl (show valAt _ a 10 = _ from h59)) (by intro ρ hρ kc kf; rw [← hρ] at h60 h61; clear hρ; simp [execOp, go_sem, kf, h60, h61]) (value_tc T cmd W) ?_
      rintro e W2 ⟨rfl, k2⟩
      exact ⟨_, rfl, _, rfl, (fun h => by cases h), rfl, k2, (fun h => absurd h (by decide))⟩
    · intro ho a W hW hd hx
      have h59 : a.eval (.tmp 59) = .bool true := hd 10 (by kernel_rfl)
      have h16 : a.eval (.tmp 16) = .pointer (some ⟨(gOf (va 7)), 0, none⟩) := (hx 16 (dst_not (by kernel_rfl))).trans rfl
      exact op_value ho (want_yes rfl (show valAt _ a 10 = _ from h59)) (v := .agg (tc T)) (by intro ρ hρ kc kf; rw [← hρ] at h16; exact run_load_T h16 (K6c.out.below hW K6c.out.lt)) ⟨_, rfl, (fun h => by cases h), rfl, Below.refl _ _, (fun h => absurd h (by decide))⟩
    · intro ho a W hW hd hx
      have h59 : a.eval (.tmp 59) = .bool true := hd 10 (by kernel_rfl)
      have h3 : a.eval (.tmp 3) = .string cmd := (hx 3 (dst_not (by kernel_rfl))).trans rfl
      exact op_value ho (want_yes rfl (show valAt _ a 10 = _ from h59)) (v := .string cmd) (by intro ρ hρ kc kf; rw [← hρ] at h3; clear hρ; simp [execOp, go_sem, h3]) ⟨_, rfl, (fun h => by cases h), rfl, Below.refl _ _, (fun h => absurd h (by decide))⟩
    · intro ho a W hW hd hx
      have h59 : a.eval (.tmp 59) = .bool true := hd 10 (by kernel_rfl)
      have h63 : a.eval (.tmp 63) = .agg (tc T) := hd 14 (by kernel_rfl)
      have h64 : a.eval (.tmp 64) = .string cmd := hd 15 (by kernel_rfl)
      refine op_call ho (want_yes rfl (show valAt _ a 10 = _ from h59)) (by intro ρ hρ kc kf; rw [← hρ] at h63 h64; clear hρ; simp [execOp, go_sem, kf, h63, h64]) (rvalue_tc T cmd W) ?_
      rintro e W2 ⟨rfl, k2⟩
      exact ⟨_, rfl, _, rfl, (fun h => by cases h), rfl, k2, (fun h => absurd h (by decide))⟩
    · intro ho a W hW hd hx
      have h59 : a.eval (.tmp 59) = .bool true := hd 10 (by kernel_rfl)
      have h62 : a.eval (.tmp 62) = .string (valueT T cmd) := hd 13 (by kernel_rfl)
      have h65 : a.eval (.tmp 65) = .string (valueT T cmd) := hd 16 (by kernel_rfl)
      exact op_value ho (want_yes rfl (show valAt _ a 10 = _ from h59)) (v := .bool true) (by intro ρ hρ kc kf; rw [← hρ] at h62 h65; clear hρ; simp [execOp, go_sem, h62, h65]) ⟨_, rfl, (fun h => by cases h), rfl, Below.refl _ _, (fun h => absurd h (by decide))⟩
    · intro ho a W hW hd hx
      have h59 : a.eval (.tmp 59) = .bool true := hd 10 (by kernel_rfl)
      have h66 : a.eval (.tmp 66) = .bool true := hd 17 (by kernel_rfl)
      exact op_value ho (want_none rfl) (v := .bool true) (by intro ρ hρ kc kf; rw [← hρ] at h59 h66; clear hρ; simp [execOp, go_sem, kc, h59, h66]) ⟨_, rfl, (fun h => by cases h), rfl, Below.refl _ _, (fun h => absurd h (by decide))⟩
    · intro ho a W hW hd hx
      have h67 : a.eval (.tmp 67) = .bool true := hd 18 (by kernel_rfl)
      exact op_value ho (want_none rfl) (v := .bool true) (by intro ρ hρ kc kf; rw [← hρ] at h67; clear hρ; simp [execOp, go_sem, h67]) ⟨_, rfl, (fun h => by cases h), rfl, Below.refl _ _, (fun h => absurd h (by decide))⟩
    · intro ho a W hW hd hx
      have h68 : a.eval (.tmp 68) = .bool true := hd 19 (by kernel_rfl)
      have h11 : a.eval (.tmp 11) = .pointer (some ⟨(w.heap.size + 1), 0, none⟩) := (hx 11 (dst_not (by kernel_rfl))).trans rfl
      exact op_value ho (want_yes rfl (show valAt _ a 19 = _ from h68)) (v := .agg (geo8 b0 b1 b2 b3 b4 b5 b6 b7)) (by intro ρ hρ kc kf; rw [← hρ] at h11; exact run_load_G h11 (KG4.out.below hW KG4.out.lt)) ⟨_, rfl, (fun h => by cases h), rfl, Below.refl _ _, (fun h => absurd h (by decide))⟩
    · intro ho a W hW hd hx
      have h68 : a.eval (.tmp 68) = .bool true := hd 19 (by kernel_rfl)
      have h5 : a.eval (.tmp 5) = .int .i64 node := (hx 5 (dst_not (by kernel_rfl))).trans rfl
      exact op_value ho (want_yes rfl (show valAt _ a 19 = _ from h68)) (v := .int .i64 node) (by intro ρ hρ kc kf; rw [← hρ] at h5; clear hρ; simp [execOp, go_sem, h5]) ⟨_, rfl, (fun h => by cases h), rfl, Below.refl _ _, (fun h => absurd h (by decide))⟩
    · intro ho a W hW hd hx
      have h68 : a.eval (.tmp 68) = .bool true := hd 19 (by kernel_rfl)
      have h6 : a.eval (.tmp 6) = .int .i64 i := (hx 6 (dst_not (by kernel_rfl))).trans rfl
      exact op_value ho (want_yes rfl (show valAt _ a 19 = _ from h68)) (v := .int .i64 i) (by intro ρ hρ kc kf; rw [← hρ] at h6; clear hρ; simp [execOp, go_sem, h6]) ⟨_, rfl, (fun h => by cases h), rfl, Below.refl _ _, (fun h => absurd h (by decide))⟩
    · intro ho a W hW hd hx
      have h68 : a.eval (.tmp 68) = .bool true := hd 19 (by kernel_rfl)
      have h69 : a.eval (.tmp 69) = .agg (geo8 b0 b1 b2 b3 b4 b5 b6 b7) := hd 20 (by kernel_rfl)
      have h70 : a.eval (.tmp 70) = .int .i64 node := hd 21 (by kernel_rfl)
      have h71 : a.eval (.tmp 71) = .int .i64 i := hd 22 (by kernel_rfl)
      refine op_call ho (want_yes rfl (show valAt _ a 19 = _ from h68)) (by intro ρ hρ kc kf; rw [← hρ] at h69 h70 h71; clear hρ; simp [execOp, go_sem, kf, h69, h70, h71]) (others_g b0 b1 b2 b3 b4 b5 b6 b7 node i HB.out W) ?_
      rintro e W2 ⟨rfl, k2⟩
      exact ⟨_, rfl, _, rfl, (fun h => by cases h), rfl, k2, (fun h => absurd h (by decide))⟩
    · intro ho a W hW hd hx
      have h68 : a.eval (.tmp 68) = .bool true := hd 19 (by kernel_rfl)
      have h11 : a.eval (.tmp 11) = .pointer (some ⟨(w.heap.size + 1), 0, none⟩) := (hx 11 (dst_not (by kernel_rfl))).trans rfl
      exact op_value ho (want_yes rfl (show valAt _ a 19 = _ from h68)) (v := .agg (geo8 b0 b1 b2 b3 b4 b5 b6 b7)) (by intro ρ hρ kc kf; rw [← hρ] at h11; exact run_load_G h11 (KG4.out.below hW KG4.out.lt)) ⟨_, rfl, (fun h => by cases h), rfl, Below.refl _ _, (fun h => absurd h (by decide))⟩
    · intro ho a W hW hd hx
      have h68 : a.eval (.tmp 68) = .bool true := hd 19 (by kernel_rfl)
      have h5 : a.eval (.tmp 5) = .int .i64 node := (hx 5 (dst_not (by kernel_rfl))).trans rfl
      exact op_value ho (want_yes rfl (show valAt _ a 19 = _ from h68)) (v := .int .i64 node) (by intro ρ hρ kc kf; rw [← hρ] at h5; clear hρ; simp [execOp, go_sem, h5]) ⟨_, rfl, (fun h => by cases h), rfl, Below.refl _ _, (fun h => absurd h (by decide))⟩
    · intro ho a W hW hd hx
      have h68 : a.eval (.tmp 68) = .bool true := hd 19 (by kernel_rfl)
      have h6 : a.eval (.tmp 6) = .int .i64 i := (hx 6 (dst_not (by kernel_rfl))).trans rfl
      exact op_value ho (want_yes rfl (show valAt _ a 19 = _ from h68)) (v := .int .i64 i) (by intro ρ hρ kc kf; rw [← hρ] at h6; clear hρ; simp [execOp, go_sem, h6]) ⟨_, rfl, (fun h => by cases h), rfl, Below.refl _ _, (fun h => absurd h (by decide))⟩
    · intro ho a W hW hd hx
      have h68 : a.eval (.tmp 68) = .bool true := hd 19 (by kernel_rfl)
      have h73 : a.eval (.tmp 73) = .agg (geo8 b0 b1 b2 b3 b4 b5 b6 b7) := hd 24 (by kernel_rfl)
      have h74 : a.eval (.tmp 74) = .int .i64 node := hd 25 (by kernel_rfl)
      have h75 : a.eval (.tmp 75) = .int .i64 i := hd 26 (by kernel_rfl)
      refine op_call ho (want_yes rfl (show valAt _ a 19 = _ from h68)) (by intro ρ hρ kc kf; rw [← hρ] at h73 h74 h75; clear hρ; simp [execOp, go_sem, kf, h73, h74, h75]) (rothers_g b0 b1 b2 b3 b4 b5 b6 b7 node i HI.out W) ?_
      rintro e W2 ⟨rfl, k2⟩
      exact ⟨_, rfl, _, rfl, (fun h => by cases h), rfl, k2, (fun h => absurd h (by decide))⟩
    · intro ho a W hW hd hx
      have h68 : a.eval (.tmp 68) = .bool true := hd 19 (by kernel_rfl)
      have h72 : a.eval (.tmp 72) = .int .i64 (oth b0 node i) := hd 23 (by kernel_rfl)
      have h76 : a.eval (.tmp 76) = .int .i64 (oth b0 node i) := hd 27 (by kernel_rfl)
      exact op_value ho (want_yes rfl (show valAt _ a 19 = _ from h68)) (v := .bool true) (by intro ρ hρ kc kf; rw [← hρ] at h72 h76; clear hρ; simp [execOp, go_sem, h72, h76]) ⟨_, rfl, (fun h => by cases h), rfl, Below.refl _ _, (fun h => absurd h (by decide))⟩
    · intro ho a W hW hd hx
      have h68 : a.eval (.tmp 68) = .bool true := hd 19 (by kernel_rfl)
      have h77 : a.eval (.tmp 77) = .bool true := hd 28 (by kernel_rfl)
      exact op_value ho (want_none rfl) (v := .bool true) (by intro ρ hρ kc kf; rw [← hρ] at h68 h77; clear hρ; simp [execOp, go_sem, kc, h68, h77]) ⟨_, rfl, (fun h => by cases h), rfl, Below.refl _ _, (fun h => absurd h (by decide))⟩
    · intro ho a W hW hd hx
      have h78 : a.eval (.tmp 78) = .bool true := hd 29 (by kernel_rfl)
      exact op_value ho (want_none rfl) (v := .bool true) (by intro ρ hρ kc kf; rw [← hρ] at h78; clear hρ; simp [execOp, go_sem, h78]) ⟨_, rfl, (fun h => by cases h), rfl, Below.refl _ _, (fun h => absurd h (by decide))⟩
    · intro ho a W hW hd hx
      have h79 : a.eval (.tmp 79) = .bool true := hd 30 (by kernel_rfl)
      refine op_call ho (want_yes rfl (show valAt _ a 30 = _ from h79)) (by intro ρ hρ kc kf; clear hρ; simp [execOp, go_sem, kf]) (wakes_any W) ?_
      rintro e W2 ⟨rfl, k2⟩
      exact ⟨_, rfl, _, rfl, (fun h => by cases h), rfl, k2, (fun h => absurd h (by decide))⟩
    · intro ho a W hW hd hx
      have h79 : a.eval (.tmp 79) = .bool true := hd 30 (by kernel_rfl)
      have h80 : a.eval (.tmp 80) = .bool true := hd 31 (by kernel_rfl)
      exact op_value ho (want_none rfl) (v := .bool true) (by intro ρ hρ kc kf; rw [← hρ] at h79 h80; clear hρ; simp [execOp, go_sem, kc, h79, h80]) ⟨_, rfl, (fun h => by cases h), rfl, Below.refl _ _, (fun h => absurd h (by decide))⟩
    · intro ho a W hW hd hx
      have h81 : a.eval (.tmp 81) = .bool true := hd 32 (by kernel_rfl)
      exact op_value ho (want_none rfl) (v := .bool true) (by intro ρ hρ kc kf; rw [← hρ] at h81; clear hρ; simp [execOp, go_sem, h81]) ⟨_, rfl, (fun h => by cases h), rfl, Below.refl _ _, (fun h => absurd h (by decide))⟩
  intro vd W hW hv _
  have hlast : vd 33 = .bool true := hv 33 (by decide)
  simp only [List.take_succ_cons, List.take_zero, List.drop_succ_cons, List.drop_zero, fillL, wpTail, Act.put, List.setIfInBounds_toArray, List.set_cons_zero, List.set_cons_succ, Nat.reduceAdd]
  rw [hlast]
  go_wp2
  go_ret
  exact ⟨rfl, KW4.out.trans (hW.mono KW4.out.size)⟩

theorem tells_great (own : Rc) (seen : Int) (A : Option Addr) (n c : Nat) (l : List Rc) (cmd : ByteArray) (b0 b1 b2 b3 b4 b5 b6 b7 node i : Int) (w : World) (hl : RdR w w.heap.size A n l) (hn : n ≤ 9223372036854775807) (hg : grB l = true) :
    Calls Try.prog 3 #[.agg (rc own), .int .i64 seen, .slice A n c, .string cmd, .agg (geo8 b0 b1 b2 b3 b4 b5 b6 b7), .int .i64 node, .int .i64 i] w fun e w' => e = .returned (.bool true) ∧ Below w.heap.size w w' := by
  change Calls Try.prog 3 #[.agg #[Value.int IntKind.i64 own.inst, Value.int IntKind.i64 own.mbal, Value.int IntKind.i64 own.bal, Value.string own.val], .int .i64 seen, .slice A n c, .string cmd, .agg #[Value.int IntKind.i64 b0, Value.int IntKind.i64 b1, Value.int IntKind.i64 b2, Value.int IntKind.i64 b3, Value.int IntKind.i64 b4, Value.int IntKind.i64 b5, Value.int IntKind.i64 b6, Value.int IntKind.i64 b7], .int .i64 node, .int .i64 i] w _
  have kw0 : Below w.heap.size w ((w.alloc (Obj.cells #[Value.int IntKind.i64 own.inst, Value.int IntKind.i64 own.mbal, Value.int IntKind.i64 own.bal, Value.string own.val] 23)).alloc (Obj.cells #[Value.int IntKind.i64 b0, Value.int IntKind.i64 b1, Value.int IntKind.i64 b2, Value.int IntKind.i64 b3, Value.int IntKind.i64 b4, Value.int IntKind.i64 b5, Value.int IntKind.i64 b6, Value.int IntKind.i64 b7] 26)) := ((Below.refl _ _).alloc (Nat.le_refl _) _).alloc (by simp) _
  have C1 := Lib.hid (great_c A n c w.heap.size l ((w.alloc (Obj.cells #[Value.int IntKind.i64 own.inst, Value.int IntKind.i64 own.mbal, Value.int IntKind.i64 own.bal, Value.string own.val] 23)).alloc (Obj.cells #[Value.int IntKind.i64 b0, Value.int IntKind.i64 b1, Value.int IntKind.i64 b2, Value.int IntKind.i64 b3, Value.int IntKind.i64 b4, Value.int IntKind.i64 b5, Value.int IntKind.i64 b6, Value.int IntKind.i64 b7] 26)) (hl.below kw0) hn hg)
  clear hl hg
  have CW := Lib.hid (wakes_any ((w.alloc (Obj.cells #[Value.int IntKind.i64 own.inst, Value.int IntKind.i64 own.mbal, Value.int IntKind.i64 own.bal, Value.string own.val] 23)).alloc (Obj.cells #[Value.int IntKind.i64 b0, Value.int IntKind.i64 b1, Value.int IntKind.i64 b2, Value.int IntKind.i64 b3, Value.int IntKind.i64 b4, Value.int IntKind.i64 b5, Value.int IntKind.i64 b6, Value.int IntKind.i64 b7] 26)))
  have KW0 : Hid (Below w.heap.size w ((w.alloc (Obj.cells #[Value.int IntKind.i64 own.inst, Value.int IntKind.i64 own.mbal, Value.int IntKind.i64 own.bal, Value.string own.val] 23)).alloc (Obj.cells #[Value.int IntKind.i64 b0, Value.int IntKind.i64 b1, Value.int IntKind.i64 b2, Value.int IntKind.i64 b3, Value.int IntKind.i64 b4, Value.int IntKind.i64 b5, Value.int IntKind.i64 b6, Value.int IntKind.i64 b7] 26))) := Lib.hid kw0
  clear kw0
  go_enter Try.func3, Try.ntmps3
  go_wp2_with fail
  refine C1.out.mono ?_
  rintro e w1 ⟨rfl, rfl⟩
  go_wp2_with fail
  refine CW.out.mono ?_
  rintro e w1 ⟨rfl, hb⟩
  go_wp2
  go_ret
  exact ⟨rfl, KW0.out.trans (hb.mono KW0.out.size)⟩

theorem tells_own (own : Rc) (seen : Int) (A : Option Addr) (n c : Nat) (l : List Rc) (cmd : ByteArray) (b0 b1 b2 b3 b4 b5 b6 b7 node i : Int) (w : World) (hl : RdR w w.heap.size A n l) (hn : n ≤ 9223372036854775807) (hg : grB l = false) (ho : grB [own] = true) :
    Calls Try.prog 3 #[.agg (rc own), .int .i64 seen, .slice A n c, .string cmd, .agg (geo8 b0 b1 b2 b3 b4 b5 b6 b7), .int .i64 node, .int .i64 i] w fun e w' => e = .returned (.bool true) ∧ Below w.heap.size w w' := by
  change Calls Try.prog 3 #[.agg #[Value.int IntKind.i64 own.inst, Value.int IntKind.i64 own.mbal, Value.int IntKind.i64 own.bal, Value.string own.val], .int .i64 seen, .slice A n c, .string cmd, .agg #[Value.int IntKind.i64 b0, Value.int IntKind.i64 b1, Value.int IntKind.i64 b2, Value.int IntKind.i64 b3, Value.int IntKind.i64 b4, Value.int IntKind.i64 b5, Value.int IntKind.i64 b6, Value.int IntKind.i64 b7], .int .i64 node, .int .i64 i] w _
  have kw0 : Below w.heap.size w ((w.alloc (Obj.cells #[Value.int IntKind.i64 own.inst, Value.int IntKind.i64 own.mbal, Value.int IntKind.i64 own.bal, Value.string own.val] 23)).alloc (Obj.cells #[Value.int IntKind.i64 b0, Value.int IntKind.i64 b1, Value.int IntKind.i64 b2, Value.int IntKind.i64 b3, Value.int IntKind.i64 b4, Value.int IntKind.i64 b5, Value.int IntKind.i64 b6, Value.int IntKind.i64 b7] 26)) := ((Below.refl _ _).alloc (Nat.le_refl _) _).alloc (by simp) _
  have C1 := Lib.hid (great_c A n c w.heap.size l ((w.alloc (Obj.cells #[Value.int IntKind.i64 own.inst, Value.int IntKind.i64 own.mbal, Value.int IntKind.i64 own.bal, Value.string own.val] 23)).alloc (Obj.cells #[Value.int IntKind.i64 b0, Value.int IntKind.i64 b1, Value.int IntKind.i64 b2, Value.int IntKind.i64 b3, Value.int IntKind.i64 b4, Value.int IntKind.i64 b5, Value.int IntKind.i64 b6, Value.int IntKind.i64 b7] 26)) (hl.below kw0) hn hg)
  clear hl hg
  have k1 := Blk.new ((w.alloc (Obj.cells #[Value.int IntKind.i64 own.inst, Value.int IntKind.i64 own.mbal, Value.int IntKind.i64 own.bal, Value.string own.val] 23)).alloc (Obj.cells #[Value.int IntKind.i64 b0, Value.int IntKind.i64 b1, Value.int IntKind.i64 b2, Value.int IntKind.i64 b3, Value.int IntKind.i64 b4, Value.int IntKind.i64 b5, Value.int IntKind.i64 b6, Value.int IntKind.i64 b7] 26)) 23 (rc own)
  have C2 : Hid (Calls Try.prog 8 #[.slice (some ⟨w.heap.size + 1 + 1, 0, none⟩) 1 1] (((w.alloc (Obj.cells #[Value.int IntKind.i64 own.inst, Value.int IntKind.i64 own.mbal, Value.int IntKind.i64 own.bal, Value.string own.val] 23)).alloc (Obj.cells #[Value.int IntKind.i64 b0, Value.int IntKind.i64 b1, Value.int IntKind.i64 b2, Value.int IntKind.i64 b3, Value.int IntKind.i64 b4, Value.int IntKind.i64 b5, Value.int IntKind.i64 b6, Value.int IntKind.i64 b7] 26)).alloc (Obj.cells #[Value.int IntKind.i64 own.inst, Value.int IntKind.i64 own.mbal, Value.int IntKind.i64 own.bal, Value.string own.val] 23)) _) := Lib.hid (great_one (w.heap.size + 1 + 1) own _ (by simpa [rc] using k1) ho)
  clear k1 ho
  have CW := Lib.hid (wakes_any (((w.alloc (Obj.cells #[Value.int IntKind.i64 own.inst, Value.int IntKind.i64 own.mbal, Value.int IntKind.i64 own.bal, Value.string own.val] 23)).alloc (Obj.cells #[Value.int IntKind.i64 b0, Value.int IntKind.i64 b1, Value.int IntKind.i64 b2, Value.int IntKind.i64 b3, Value.int IntKind.i64 b4, Value.int IntKind.i64 b5, Value.int IntKind.i64 b6, Value.int IntKind.i64 b7] 26)).alloc (Obj.cells #[Value.int IntKind.i64 own.inst, Value.int IntKind.i64 own.mbal, Value.int IntKind.i64 own.bal, Value.string own.val] 23)))
  have KW0 : Hid (Below w.heap.size w (((w.alloc (Obj.cells #[Value.int IntKind.i64 own.inst, Value.int IntKind.i64 own.mbal, Value.int IntKind.i64 own.bal, Value.string own.val] 23)).alloc (Obj.cells #[Value.int IntKind.i64 b0, Value.int IntKind.i64 b1, Value.int IntKind.i64 b2, Value.int IntKind.i64 b3, Value.int IntKind.i64 b4, Value.int IntKind.i64 b5, Value.int IntKind.i64 b6, Value.int IntKind.i64 b7] 26)).alloc (Obj.cells #[Value.int IntKind.i64 own.inst, Value.int IntKind.i64 own.mbal, Value.int IntKind.i64 own.bal, Value.string own.val] 23))) := Lib.hid (kw0.alloc (by simp; omega) _)
  clear kw0
  go_enter Try.func3, Try.ntmps3
  go_wp2_with fail
  refine C1.out.mono ?_
  rintro e w1 ⟨rfl, rfl⟩
  go_wp2_with fail
  refine C2.out.mono ?_
  rintro e w1 ⟨rfl, rfl⟩
  go_wp2_with fail
  refine CW.out.mono ?_
  rintro e w1 ⟨rfl, hb⟩
  go_wp2
  go_ret
  exact ⟨rfl, KW0.out.trans (hb.mono KW0.out.size)⟩

theorem tells_cmd (own : Rc) (seen : Int) (A : Option Addr) (n c : Nat) (l : List Rc) (cmd : ByteArray) (b0 b1 b2 b3 b4 b5 b6 b7 node i : Int) (w : World) (hl : RdR w w.heap.size A n l) (hn : n ≤ 9223372036854775807) (hg : grB l = false) (ho : grB [own] = false) (hc : 200 < cmd.size) :
    Calls Try.prog 3 #[.agg (rc own), .int .i64 seen, .slice A n c, .string cmd, .agg (geo8 b0 b1 b2 b3 b4 b5 b6 b7), .int .i64 node, .int .i64 i] w fun e w' => e = .returned (.bool true) ∧ Below w.heap.size w w' := by
  change Calls Try.prog 3 #[.agg #[Value.int IntKind.i64 own.inst, Value.int IntKind.i64 own.mbal, Value.int IntKind.i64 own.bal, Value.string own.val], .int .i64 seen, .slice A n c, .string cmd, .agg #[Value.int IntKind.i64 b0, Value.int IntKind.i64 b1, Value.int IntKind.i64 b2, Value.int IntKind.i64 b3, Value.int IntKind.i64 b4, Value.int IntKind.i64 b5, Value.int IntKind.i64 b6, Value.int IntKind.i64 b7], .int .i64 node, .int .i64 i] w _
  have kw0 : Below w.heap.size w ((w.alloc (Obj.cells #[Value.int IntKind.i64 own.inst, Value.int IntKind.i64 own.mbal, Value.int IntKind.i64 own.bal, Value.string own.val] 23)).alloc (Obj.cells #[Value.int IntKind.i64 b0, Value.int IntKind.i64 b1, Value.int IntKind.i64 b2, Value.int IntKind.i64 b3, Value.int IntKind.i64 b4, Value.int IntKind.i64 b5, Value.int IntKind.i64 b6, Value.int IntKind.i64 b7] 26)) := ((Below.refl _ _).alloc (Nat.le_refl _) _).alloc (by simp) _
  have hc' : (200 : Int) < (cmd.size : Int) := by omega
  have C1 := Lib.hid (great_c A n c w.heap.size l ((w.alloc (Obj.cells #[Value.int IntKind.i64 own.inst, Value.int IntKind.i64 own.mbal, Value.int IntKind.i64 own.bal, Value.string own.val] 23)).alloc (Obj.cells #[Value.int IntKind.i64 b0, Value.int IntKind.i64 b1, Value.int IntKind.i64 b2, Value.int IntKind.i64 b3, Value.int IntKind.i64 b4, Value.int IntKind.i64 b5, Value.int IntKind.i64 b6, Value.int IntKind.i64 b7] 26)) (hl.below kw0) hn hg)
  clear hl hg
  have k1 := Blk.new ((w.alloc (Obj.cells #[Value.int IntKind.i64 own.inst, Value.int IntKind.i64 own.mbal, Value.int IntKind.i64 own.bal, Value.string own.val] 23)).alloc (Obj.cells #[Value.int IntKind.i64 b0, Value.int IntKind.i64 b1, Value.int IntKind.i64 b2, Value.int IntKind.i64 b3, Value.int IntKind.i64 b4, Value.int IntKind.i64 b5, Value.int IntKind.i64 b6, Value.int IntKind.i64 b7] 26)) 23 (rc own)
  have C2 : Hid (Calls Try.prog 8 #[.slice (some ⟨w.heap.size + 1 + 1, 0, none⟩) 1 1] (((w.alloc (Obj.cells #[Value.int IntKind.i64 own.inst, Value.int IntKind.i64 own.mbal, Value.int IntKind.i64 own.bal, Value.string own.val] 23)).alloc (Obj.cells #[Value.int IntKind.i64 b0, Value.int IntKind.i64 b1, Value.int IntKind.i64 b2, Value.int IntKind.i64 b3, Value.int IntKind.i64 b4, Value.int IntKind.i64 b5, Value.int IntKind.i64 b6, Value.int IntKind.i64 b7] 26)).alloc (Obj.cells #[Value.int IntKind.i64 own.inst, Value.int IntKind.i64 own.mbal, Value.int IntKind.i64 own.bal, Value.string own.val] 23)) _) := Lib.hid (great_one (w.heap.size + 1 + 1) own _ (by simpa [rc] using k1) ho)
  clear k1 ho
  have CW := Lib.hid (wakes_any (((w.alloc (Obj.cells #[Value.int IntKind.i64 own.inst, Value.int IntKind.i64 own.mbal, Value.int IntKind.i64 own.bal, Value.string own.val] 23)).alloc (Obj.cells #[Value.int IntKind.i64 b0, Value.int IntKind.i64 b1, Value.int IntKind.i64 b2, Value.int IntKind.i64 b3, Value.int IntKind.i64 b4, Value.int IntKind.i64 b5, Value.int IntKind.i64 b6, Value.int IntKind.i64 b7] 26)).alloc (Obj.cells #[Value.int IntKind.i64 own.inst, Value.int IntKind.i64 own.mbal, Value.int IntKind.i64 own.bal, Value.string own.val] 23)))
  have KW0 : Hid (Below w.heap.size w (((w.alloc (Obj.cells #[Value.int IntKind.i64 own.inst, Value.int IntKind.i64 own.mbal, Value.int IntKind.i64 own.bal, Value.string own.val] 23)).alloc (Obj.cells #[Value.int IntKind.i64 b0, Value.int IntKind.i64 b1, Value.int IntKind.i64 b2, Value.int IntKind.i64 b3, Value.int IntKind.i64 b4, Value.int IntKind.i64 b5, Value.int IntKind.i64 b6, Value.int IntKind.i64 b7] 26)).alloc (Obj.cells #[Value.int IntKind.i64 own.inst, Value.int IntKind.i64 own.mbal, Value.int IntKind.i64 own.bal, Value.string own.val] 23))) := Lib.hid (kw0.alloc (by simp; omega) _)
  clear kw0
  go_enter Try.func3, Try.ntmps3
  go_wp2_with fail
  refine C1.out.mono ?_
  rintro e w1 ⟨rfl, rfl⟩
  go_wp2_with fail
  refine C2.out.mono ?_
  rintro e w1 ⟨rfl, rfl⟩
  go_wp2_with fail
  refine CW.out.mono ?_
  rintro e w1 ⟨rfl, hb⟩
  go_wp2
  go_ret
  exact ⟨rfl, KW0.out.trans (hb.mono KW0.out.size)⟩

theorem tells_i (own : Rc) (seen : Int) (A : Option Addr) (n c : Nat) (l : List Rc) (cmd : ByteArray) (b0 b1 b2 b3 b4 b5 b6 b7 node i : Int) (w : World) (hl : RdR w w.heap.size A n l) (hn : n ≤ 9223372036854775807) (hg : grB l = false) (ho : grB [own] = false) (hc : cmd.size ≤ 200) (hi : 1125899906842624 < i) :
    Calls Try.prog 3 #[.agg (rc own), .int .i64 seen, .slice A n c, .string cmd, .agg (geo8 b0 b1 b2 b3 b4 b5 b6 b7), .int .i64 node, .int .i64 i] w fun e w' => e = .returned (.bool true) ∧ Below w.heap.size w w' := by
  change Calls Try.prog 3 #[.agg #[Value.int IntKind.i64 own.inst, Value.int IntKind.i64 own.mbal, Value.int IntKind.i64 own.bal, Value.string own.val], .int .i64 seen, .slice A n c, .string cmd, .agg #[Value.int IntKind.i64 b0, Value.int IntKind.i64 b1, Value.int IntKind.i64 b2, Value.int IntKind.i64 b3, Value.int IntKind.i64 b4, Value.int IntKind.i64 b5, Value.int IntKind.i64 b6, Value.int IntKind.i64 b7], .int .i64 node, .int .i64 i] w _
  have kw0 : Below w.heap.size w ((w.alloc (Obj.cells #[Value.int IntKind.i64 own.inst, Value.int IntKind.i64 own.mbal, Value.int IntKind.i64 own.bal, Value.string own.val] 23)).alloc (Obj.cells #[Value.int IntKind.i64 b0, Value.int IntKind.i64 b1, Value.int IntKind.i64 b2, Value.int IntKind.i64 b3, Value.int IntKind.i64 b4, Value.int IntKind.i64 b5, Value.int IntKind.i64 b6, Value.int IntKind.i64 b7] 26)) := ((Below.refl _ _).alloc (Nat.le_refl _) _).alloc (by simp) _
  have hc' : ¬ (200 : Int) < (cmd.size : Int) := by omega
  have C1 := Lib.hid (great_c A n c w.heap.size l ((w.alloc (Obj.cells #[Value.int IntKind.i64 own.inst, Value.int IntKind.i64 own.mbal, Value.int IntKind.i64 own.bal, Value.string own.val] 23)).alloc (Obj.cells #[Value.int IntKind.i64 b0, Value.int IntKind.i64 b1, Value.int IntKind.i64 b2, Value.int IntKind.i64 b3, Value.int IntKind.i64 b4, Value.int IntKind.i64 b5, Value.int IntKind.i64 b6, Value.int IntKind.i64 b7] 26)) (hl.below kw0) hn hg)
  clear hl hg
  have k1 := Blk.new ((w.alloc (Obj.cells #[Value.int IntKind.i64 own.inst, Value.int IntKind.i64 own.mbal, Value.int IntKind.i64 own.bal, Value.string own.val] 23)).alloc (Obj.cells #[Value.int IntKind.i64 b0, Value.int IntKind.i64 b1, Value.int IntKind.i64 b2, Value.int IntKind.i64 b3, Value.int IntKind.i64 b4, Value.int IntKind.i64 b5, Value.int IntKind.i64 b6, Value.int IntKind.i64 b7] 26)) 23 (rc own)
  have C2 : Hid (Calls Try.prog 8 #[.slice (some ⟨w.heap.size + 1 + 1, 0, none⟩) 1 1] (((w.alloc (Obj.cells #[Value.int IntKind.i64 own.inst, Value.int IntKind.i64 own.mbal, Value.int IntKind.i64 own.bal, Value.string own.val] 23)).alloc (Obj.cells #[Value.int IntKind.i64 b0, Value.int IntKind.i64 b1, Value.int IntKind.i64 b2, Value.int IntKind.i64 b3, Value.int IntKind.i64 b4, Value.int IntKind.i64 b5, Value.int IntKind.i64 b6, Value.int IntKind.i64 b7] 26)).alloc (Obj.cells #[Value.int IntKind.i64 own.inst, Value.int IntKind.i64 own.mbal, Value.int IntKind.i64 own.bal, Value.string own.val] 23)) _) := Lib.hid (great_one (w.heap.size + 1 + 1) own _ (by simpa [rc] using k1) ho)
  clear k1 ho
  have CW := Lib.hid (wakes_any (((w.alloc (Obj.cells #[Value.int IntKind.i64 own.inst, Value.int IntKind.i64 own.mbal, Value.int IntKind.i64 own.bal, Value.string own.val] 23)).alloc (Obj.cells #[Value.int IntKind.i64 b0, Value.int IntKind.i64 b1, Value.int IntKind.i64 b2, Value.int IntKind.i64 b3, Value.int IntKind.i64 b4, Value.int IntKind.i64 b5, Value.int IntKind.i64 b6, Value.int IntKind.i64 b7] 26)).alloc (Obj.cells #[Value.int IntKind.i64 own.inst, Value.int IntKind.i64 own.mbal, Value.int IntKind.i64 own.bal, Value.string own.val] 23)))
  have KW0 : Hid (Below w.heap.size w (((w.alloc (Obj.cells #[Value.int IntKind.i64 own.inst, Value.int IntKind.i64 own.mbal, Value.int IntKind.i64 own.bal, Value.string own.val] 23)).alloc (Obj.cells #[Value.int IntKind.i64 b0, Value.int IntKind.i64 b1, Value.int IntKind.i64 b2, Value.int IntKind.i64 b3, Value.int IntKind.i64 b4, Value.int IntKind.i64 b5, Value.int IntKind.i64 b6, Value.int IntKind.i64 b7] 26)).alloc (Obj.cells #[Value.int IntKind.i64 own.inst, Value.int IntKind.i64 own.mbal, Value.int IntKind.i64 own.bal, Value.string own.val] 23))) := Lib.hid (kw0.alloc (by simp; omega) _)
  clear kw0
  go_enter Try.func3, Try.ntmps3
  go_wp2_with fail
  refine C1.out.mono ?_
  rintro e w1 ⟨rfl, rfl⟩
  go_wp2_with fail
  refine C2.out.mono ?_
  rintro e w1 ⟨rfl, rfl⟩
  go_wp2_with fail
  refine CW.out.mono ?_
  rintro e w1 ⟨rfl, hb⟩
  go_wp2
  go_ret
  exact ⟨rfl, KW0.out.trans (hb.mono KW0.out.size)⟩

theorem tells_any (own : Rc) (seen : Int) (A : Option Addr) (n c : Nat) (l : List Rc) (cmd : ByteArray) (b0 b1 b2 b3 b4 b5 b6 b7 node i : Int) (w : World) (hl : RdR w w.heap.size A n l) (hn : n ≤ maxLen) (hb : b0 < 9223372036854775808) :
    Calls Try.prog 3 #[.agg (rc own), .int .i64 seen, .slice A n c, .string cmd, .agg (geo8 b0 b1 b2 b3 b4 b5 b6 b7), .int .i64 node, .int .i64 i] w fun e w' => e = .returned (.bool true) ∧ Below w.heap.size w w' := by
  unfold maxLen at hn
  cases hg : grB l with
  | true => exact tells_great own seen A n c l cmd b0 b1 b2 b3 b4 b5 b6 b7 node i w hl (by omega) hg
  | false =>
    cases ho : grB [own] with
    | true => exact tells_own own seen A n c l cmd b0 b1 b2 b3 b4 b5 b6 b7 node i w hl (by omega) hg ho
    | false =>
      by_cases hc : cmd.size ≤ 200
      · by_cases hi : i ≤ 1125899906842624
        · exact tells_main own seen A n c l cmd b0 b1 b2 b3 b4 b5 b6 b7 node i w hl (by have := (gr_false hg).1; have := hl.1; omega) hg ho hc hi hb
        · exact tells_i own seen A n c l cmd b0 b1 b2 b3 b4 b5 b6 b7 node i w hl (by omega) hg ho hc (by omega)
      · exact tells_cmd own seen A n c l cmd b0 b1 b2 b3 b4 b5 b6 b7 node i w hl (by omega) hg ho (by omega)

end Go.Proofs.Ytilpcoebpinmfaa
