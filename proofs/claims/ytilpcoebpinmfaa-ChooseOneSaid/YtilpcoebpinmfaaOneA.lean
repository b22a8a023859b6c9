/-
  The walk of breakwaterlaw13.ChooseOne, a value was taken. (The regions' lines are printed by choose_one.py.)
-/
import Derived.Test.YtilpcoebpinmfaaMax
namespace Go.Proofs.Ytilpcoebpinmfaa
open Go.RowKit

set_option maxRecDepth 100000 in
set_option maxHeartbeats 4000000 in
theorem one_tnl (na nb : Int) (x y : ByteArray) (inst : Int) (w : World) (ha : ¬ na < 1) (hb : ¬ nb < 1) (hlt : na < nb) (hx : x.size ≤ 100) (hy : y.size ≤ 100) :
    Calls Try.prog 5 #[.int .i64 na, .int .i64 nb, .string x, .string y, .int .i64 inst, .bool false, .bool true] w fun e w' => e = .returned (.bool true) ∧ Below w.heap.size w w' := by
  have hab : ¬ na = nb := by omega
  have hx' : ¬ (100 : Int) < (x.size : Int) := by omega
  have hy' : ¬ (100 : Int) < (y.size : Int) := by omega
  have hord : ¬ nb < na := by omega
  have hord2 : na < nb := by omega
  have eT : ∀ s, (s = 0 ∨ s = na) → oneT (begun (⟨inst, nb, 0, ⟨#[]⟩⟩ : Rc) s) (⟨inst, na, na, x⟩ : Rc) = (⟨inst, nb, na, x, nb, false, false⟩ : Ty) := by
    intro s hs
    rcases hs with rfl | rfl <;> simp [oneT, begun, hereT, mx] <;> omega
  have eU : ∀ s, (s = 0 ∨ s = nb) → oneT (begun (⟨inst, na, na, x⟩ : Rc) s) (⟨inst, nb, 0, ⟨#[]⟩⟩ : Rc) = (⟨inst, na, na, x, nb, false, true⟩ : Ty) := by
    intro s hs
    rcases hs with rfl | rfl <;> simp [oneT, begun, hereT, mx] <;> omega
  have cT := fun g W (h : Blk W g 23 (rc (⟨inst, na, na, x⟩ : Rc))) => count_blk (begun (⟨inst, nb, 0, ⟨#[]⟩⟩ : Rc) 0) g (⟨inst, na, na, x⟩ : Rc) W h
  have cU := fun g W (h : Blk W g 23 (rc (⟨inst, nb, 0, ⟨#[]⟩⟩ : Rc))) => count_blk (begun (⟨inst, na, na, x⟩ : Rc) 0) g (⟨inst, nb, 0, ⟨#[]⟩⟩ : Rc) W h
  have cT2 := fun g W (h : Blk W g 23 (rc (⟨inst, na, na, x⟩ : Rc))) => count_blk (begun (⟨inst, nb, 0, ⟨#[]⟩⟩ : Rc) na) g (⟨inst, na, na, x⟩ : Rc) W h
  have cU2 := fun g W (h : Blk W g 23 (rc (⟨inst, nb, 0, ⟨#[]⟩⟩ : Rc))) => count_blk (begun (⟨inst, na, na, x⟩ : Rc) nb) g (⟨inst, nb, 0, ⟨#[]⟩⟩ : Rc) W h
  rw [eT 0 (.inl rfl)] at cT; rw [eT na (.inr rfl)] at cT2; rw [eU 0 (.inl rfl)] at cU; rw [eU nb (.inr rfl)] at cU2
  have hV : valueT (⟨inst, nb, na, x, nb, false, false⟩ : Ty) y = x := by exact if_pos (by show 0 < na; omega)
  have cV := fun W => value_tc (⟨inst, nb, na, x, nb, false, false⟩ : Ty) y W
  rw [hV] at cV
  have CT := Lib.hid cT; have CU := Lib.hid cU; have CT2 := Lib.hid cT2; have CU2 := Lib.hid cU2; have CV := Lib.hid cV
  have K15a : Hid (Blk ((w.alloc (Obj.cells #[Value.int IntKind.i64 inst, Value.int IntKind.i64 na, Value.int IntKind.i64 na, Value.string x] 23)).alloc (Obj.cells #[Value.int IntKind.i64 inst, Value.int IntKind.i64 nb, Value.int IntKind.i64 0, Value.string { data := #[] }] 23)) w.heap.size 23 (rc (⟨inst, na, na, x⟩ : Rc))) := Lib.hid ((Blk.new w 23 _).alloc _)
  have k16 := Blk.new (w.alloc (Obj.cells #[Value.int IntKind.i64 inst, Value.int IntKind.i64 na, Value.int IntKind.i64 na, Value.string x] 23)) 23 (rc (⟨inst, nb, 0, ⟨#[]⟩⟩ : Rc))
  have K16a : Hid (Blk ((w.alloc (Obj.cells #[Value.int IntKind.i64 inst, Value.int IntKind.i64 na, Value.int IntKind.i64 na, Value.string x] 23)).alloc (Obj.cells #[Value.int IntKind.i64 inst, Value.int IntKind.i64 nb, Value.int IntKind.i64 0, Value.string { data := #[] }] 23)) (w.heap.size + 1) 23 (rc (⟨inst, nb, 0, ⟨#[]⟩⟩ : Rc))) := Lib.hid (by simpa [rc] using k16)
  have KW0 : Hid (Below w.heap.size w ((w.alloc (Obj.cells #[Value.int IntKind.i64 inst, Value.int IntKind.i64 na, Value.int IntKind.i64 na, Value.string x] 23)).alloc (Obj.cells #[Value.int IntKind.i64 inst, Value.int IntKind.i64 nb, Value.int IntKind.i64 0, Value.string { data := #[] }] 23))) := Lib.hid (((Below.refl _ _).alloc (Nat.le_refl _) _).alloc (by simp) _)
  have HZ0 : Hid ((((w.alloc (Obj.cells #[Value.int IntKind.i64 inst, Value.int IntKind.i64 na, Value.int IntKind.i64 na, Value.string x] 23)).alloc (Obj.cells #[Value.int IntKind.i64 inst, Value.int IntKind.i64 nb, Value.int IntKind.i64 0, Value.string { data := #[] }] 23))).heap.size = w.heap.size + 2) := Lib.hid (by simp)
  have HWK := Lib.hid (wakes_any w)
  clear cT cU cT2 cU2 cV hV eT eU k16
  have HO := Lib.hid hord; have HMX : Hid (mx na nb = nb) := Lib.hid (if_pos hord2); have HL := Lib.hid hlt
  clear hord hord2 hlt
  go_enter Try.func5, Try.ntmps5
  go_wp2_with fail
  any_goals (go_at_call 9; refine HWK.out.mono ?_; rintro e w1 ⟨rfl, hb1⟩; go_wp2; go_ret; exact ⟨rfl, hb1⟩)
  obtain ⟨w1, hw1⟩ : ∃ w1, w1 = ((w.alloc (Obj.cells #[Value.int IntKind.i64 inst, Value.int IntKind.i64 na, Value.int IntKind.i64 na, Value.string x] 23)).alloc (Obj.cells #[Value.int IntKind.i64 inst, Value.int IntKind.i64 nb, Value.int IntKind.i64 0, Value.string { data := #[] }] 23)) := ⟨_, rfl⟩
  have K15 := K15a; have K16 := K16a; have KW1 := KW0; have HZ := HZ0
  rw [← hw1] at K15 K16 KW1 HZ ⊢
  clear K15a K16a KW0 HZ0 hw1
  refine wp_region_grows 6 ((fun q_ _ _ => q_ = .agg (rc (⟨inst, nb, 0, ⟨#[]⟩⟩ : Rc))) :: (fun q_ _ _ => q_ = .agg (tc (begun (⟨inst, nb, 0, ⟨#[]⟩⟩ : Rc) 0))) :: (fun q_ _ _ => q_ = .agg (rc (⟨inst, na, na, x⟩ : Rc))) :: (fun q_ _ W => ∃ g, q_ = .slice (some ⟨g, 0, none⟩) 1 1 ∧ Blk W g 23 (rc (⟨inst, na, na, x⟩ : Rc))) :: (fun q_ _ _ => q_ = .agg (tc (⟨inst, nb, na, x, nb, false, false⟩ : Ty))) :: (fun q_ _ W => q_ = ptr (gOf q_) ∧ w1.heap.size ≤ gOf q_ ∧ Blk W (gOf q_) 30 (tc zT)) :: []) ((fun i => i == 5)) (w1.heap.size) w1 (by kernel_rfl) (by kernel_rfl) (by kernel_rfl) (Below.refl _ _) (Nat.le_refl _) ?aStab (fun i hi x W hx => by obtain rfl := eq_of_beq hi; exact ⟨_, hx.1, hx.2.2.lt⟩) ?aOps ?aFin
  case aStab => exact ⟨st_is _, st_is _, st_is _, st_slice _ _, st_is _, st_alloc _ _ _, trivial⟩
  case aOps =>
    intro Q
    refine ⟨?_, ?_, ?_, ?_, ?_, ?_, trivial⟩
    · intro ho a W hW hd hx
      have h16 : a.eval (.tmp 16) = .pointer (some ⟨(w.heap.size + 1), 0, none⟩) := (hx 16 (dst_not (by kernel_rfl))).trans rfl
      exact op_value ho (want_none rfl) (v := .agg (rc (⟨inst, nb, 0, ⟨#[]⟩⟩ : Rc))) (by intro ρ hρ kc kf; rw [← hρ] at h16; exact run_load_B h16 (K16.out.below hW K16.out.lt)) ⟨_, rfl, (fun h => by cases h), rfl, Below.refl _ _, (fun h => absurd h (by decide))⟩
    · intro ho a W hW hd hx
      have h60 : a.eval (.tmp 60) = .agg (rc (⟨inst, nb, 0, ⟨#[]⟩⟩ : Rc)) := hd 0 (by kernel_rfl)
      refine op_call ho (want_none rfl) (by intro ρ hρ kc kf; rw [← hρ] at h60; clear hρ; simp [execOp, go_sem, kc, kf, h60]) (begin_tc (⟨inst, nb, 0, ⟨#[]⟩⟩ : Rc) 0 W) ?_
      rintro e W2 ⟨rfl, k2⟩
      exact ⟨_, rfl, _, rfl, (fun h => by cases h), rfl, k2, (fun h => absurd h (by decide))⟩
    · intro ho a W hW hd hx
      have h15 : a.eval (.tmp 15) = .pointer (some ⟨w.heap.size, 0, none⟩) := (hx 15 (dst_not (by kernel_rfl))).trans rfl
      exact op_value ho (want_none rfl) (v := .agg (rc (⟨inst, na, na, x⟩ : Rc))) (by intro ρ hρ kc kf; rw [← hρ] at h15; exact run_load_B h15 (K15.out.below hW K15.out.lt)) ⟨_, rfl, (fun h => by cases h), rfl, Below.refl _ _, (fun h => absurd h (by decide))⟩
    · intro ho a W hW hd hx
      have h62 : a.eval (.tmp 62) = .agg (rc (⟨inst, na, na, x⟩ : Rc)) := hd 2 (by kernel_rfl)
      exact op_value ho (want_none rfl) (v := .slice (some ⟨W.heap.size, 0, none⟩) 1 1) (w' := W.alloc (.cells (rc (⟨inst, na, na, x⟩ : Rc)) 23)) (by intro ρ hρ kc kf; rw [← hρ] at h62; clear hρ; simp [execOp, go_sem, h62, rc]) ⟨_, rfl, (fun h => by cases h), ⟨_, rfl, Blk.new W 23 _⟩, (Below.refl _ _).alloc (Nat.le_refl _) _, (fun h => absurd h (by decide))⟩
    · intro ho a W hW hd hx
      have h61 : a.eval (.tmp 61) = .agg (tc (begun (⟨inst, nb, 0, ⟨#[]⟩⟩ : Rc) 0)) := hd 1 (by kernel_rfl)
      obtain ⟨g63, h63, r63⟩ : ∃ g, a.eval (.tmp 63) = .slice (some ⟨g, 0, none⟩) 1 1 ∧ Blk W g 23 (rc (⟨inst, na, na, x⟩ : Rc)) := (hd 3 (by kernel_rfl))
      refine op_call ho (want_none rfl) (by intro ρ hρ kc kf; rw [← hρ] at h61 h63; clear hρ; simp [execOp, go_sem, kf, h61, h63]) (CT.out g63 W r63) ?_
      rintro e W2 ⟨rfl, k2⟩
      exact ⟨_, rfl, _, rfl, (fun h => by cases h), rfl, k2, (fun h => absurd h (by decide))⟩
    · intro ho a W hW hd hx
      exact op_value ho (want_none rfl) (v := ptr W.heap.size) (w' := W.alloc (.cells (tc zT) 30)) (by intro ρ hρ kc kf; clear hρ; simp [execOp, go_sem, ptr, tc, zT]) ⟨_, rfl, (fun h => by cases h), ⟨rfl, hW.size, Blk.new W 30 _⟩, (Below.refl _ _).alloc (Nat.le_refl _) _, (fun _ => ⟨_, rfl, Nat.le_refl _⟩)⟩
  intro va W hW hv _
  have hx : va 5 = ptr (gOf (va 5)) ∧ w1.heap.size ≤ gOf (va 5) ∧ Blk W (gOf (va 5)) 30 (tc zT) := hv 5 (by decide)
  have hg := hx.1; have hl := hx.2.1; have hb := hx.2.2
  have h4 : va 4 = .agg (tc (⟨inst, nb, na, x, nb, false, false⟩ : Ty)) := hv 4 (by decide)
  simp only [List.take_succ_cons, List.take_zero, List.drop_succ_cons, List.drop_zero, fillL, wpTail, Act.put, List.setIfInBounds_toArray, List.set_cons_zero, List.set_cons_succ, Nat.reduceAdd]
  rw [hg, h4]
  refine tail_store_T (t := (⟨inst, nb, na, x, nb, false, false⟩ : Ty)) rfl rfl hb rfl ?_
  intro w2 kb hgr
  have kw : Below w1.heap.size w1 w2 := hW.grown hgr hW.size (fun j hj => by injection hj with e; omega)
  have K15b := Lib.hid (K15.out.below kw K15.out.lt); have K16b := Lib.hid (K16.out.below kw K16.out.lt); have K17 := Lib.hid kb; have KW2 := Lib.hid (KW1.out.trans (kw.mono KW1.out.size)); have H17 : Hid (w.heap.size + 2 ≤ gOf (va 5)) := Lib.hid (by have := HZ.out; omega)
  clear hW hv hx hg hl h4 hb hgr kb kw
  go_upto_region 8 with fail
  refine wp_region_grows 6 ((fun q_ _ _ => q_ = .agg (rc (⟨inst, na, na, x⟩ : Rc))) :: (fun q_ _ _ => q_ = .agg (tc (begun (⟨inst, na, na, x⟩ : Rc) 0))) :: (fun q_ _ _ => q_ = .agg (rc (⟨inst, nb, 0, ⟨#[]⟩⟩ : Rc))) :: (fun q_ _ W => ∃ g, q_ = .slice (some ⟨g, 0, none⟩) 1 1 ∧ Blk W g 23 (rc (⟨inst, nb, 0, ⟨#[]⟩⟩ : Rc))) :: (fun q_ _ _ => q_ = .agg (tc (⟨inst, na, na, x, nb, false, true⟩ : Ty))) :: (fun q_ _ W => q_ = ptr (gOf q_) ∧ w2.heap.size ≤ gOf q_ ∧ Blk W (gOf q_) 30 (tc zT)) :: []) ((fun i => i == 5)) (w2.heap.size) w2 (by kernel_rfl) (by kernel_rfl) (by kernel_rfl) (Below.refl _ _) (Nat.le_refl _) ?bStab (fun i hi x W hx => by obtain rfl := eq_of_beq hi; exact ⟨_, hx.1, hx.2.2.lt⟩) ?bOps ?bFin
  case bStab => exact ⟨st_is _, st_is _, st_is _, st_slice _ _, st_is _, st_alloc _ _ _, trivial⟩
  case bOps =>
    intro Q
    refine ⟨?_, ?_, ?_, ?_, ?_, ?_, trivial⟩
    · intro ho a W hW hd hx
      have h15 : a.eval (.tmp 15) = .pointer (some ⟨w.heap.size, 0, none⟩) := (hx 15 (dst_not (by kernel_rfl))).trans rfl
      exact op_value ho (want_none rfl) (v := .agg (rc (⟨inst, na, na, x⟩ : Rc))) (by intro ρ hρ kc kf; rw [← hρ] at h15; exact run_load_B h15 (K15b.out.below hW K15b.out.lt)) ⟨_, rfl, (fun h => by cases h), rfl, Below.refl _ _, (fun h => absurd h (by decide))⟩
    · intro ho a W hW hd hx
      have h65 : a.eval (.tmp 65) = .agg (rc (⟨inst, na, na, x⟩ : Rc)) := hd 0 (by kernel_rfl)
      refine op_call ho (want_none rfl) (by intro ρ hρ kc kf; rw [← hρ] at h65; clear hρ; simp [execOp, go_sem, kc, kf, h65]) (begin_tc (⟨inst, na, na, x⟩ : Rc) 0 W) ?_
      rintro e W2 ⟨rfl, k2⟩
      exact ⟨_, rfl, _, rfl, (fun h => by cases h), rfl, k2, (fun h => absurd h (by decide))⟩
    · intro ho a W hW hd hx
      have h16 : a.eval (.tmp 16) = .pointer (some ⟨(w.heap.size + 1), 0, none⟩) := (hx 16 (dst_not (by kernel_rfl))).trans rfl
      exact op_value ho (want_none rfl) (v := .agg (rc (⟨inst, nb, 0, ⟨#[]⟩⟩ : Rc))) (by intro ρ hρ kc kf; rw [← hρ] at h16; exact run_load_B h16 (K16b.out.below hW K16b.out.lt)) ⟨_, rfl, (fun h => by cases h), rfl, Below.refl _ _, (fun h => absurd h (by decide))⟩
    · intro ho a W hW hd hx
      have h67 : a.eval (.tmp 67) = .agg (rc (⟨inst, nb, 0, ⟨#[]⟩⟩ : Rc)) := hd 2 (by kernel_rfl)
      exact op_value ho (want_none rfl) (v := .slice (some ⟨W.heap.size, 0, none⟩) 1 1) (w' := W.alloc (.cells (rc (⟨inst, nb, 0, ⟨#[]⟩⟩ : Rc)) 23)) (by intro ρ hρ kc kf; rw [← hρ] at h67; clear hρ; simp [execOp, go_sem, h67, rc]) ⟨_, rfl, (fun h => by cases h), ⟨_, rfl, Blk.new W 23 _⟩, (Below.refl _ _).alloc (Nat.le_refl _) _, (fun h => absurd h (by decide))⟩
    · intro ho a W hW hd hx
      have h66 : a.eval (.tmp 66) = .agg (tc (begun (⟨inst, na, na, x⟩ : Rc) 0)) := hd 1 (by kernel_rfl)
      obtain ⟨g68, h68, r68⟩ : ∃ g, a.eval (.tmp 68) = .slice (some ⟨g, 0, none⟩) 1 1 ∧ Blk W g 23 (rc (⟨inst, nb, 0, ⟨#[]⟩⟩ : Rc)) := (hd 3 (by kernel_rfl))
      refine op_call ho (want_none rfl) (by intro ρ hρ kc kf; rw [← hρ] at h66 h68; clear hρ; simp [execOp, go_sem, kf, h66, h68]) (CU.out g68 W r68) ?_
      rintro e W2 ⟨rfl, k2⟩
      exact ⟨_, rfl, _, rfl, (fun h => by cases h), rfl, k2, (fun h => absurd h (by decide))⟩
    · intro ho a W hW hd hx
      exact op_value ho (want_none rfl) (v := ptr W.heap.size) (w' := W.alloc (.cells (tc zT) 30)) (by intro ρ hρ kc kf; clear hρ; simp [execOp, go_sem, ptr, tc, zT]) ⟨_, rfl, (fun h => by cases h), ⟨rfl, hW.size, Blk.new W 30 _⟩, (Below.refl _ _).alloc (Nat.le_refl _) _, (fun _ => ⟨_, rfl, Nat.le_refl _⟩)⟩
  intro vb W hW hv _
  have hx : vb 5 = ptr (gOf (vb 5)) ∧ w2.heap.size ≤ gOf (vb 5) ∧ Blk W (gOf (vb 5)) 30 (tc zT) := hv 5 (by decide)
  have hg := hx.1; have hl := hx.2.1; have hb := hx.2.2
  have h4 : vb 4 = .agg (tc (⟨inst, na, na, x, nb, false, true⟩ : Ty)) := hv 4 (by decide)
  simp only [List.take_succ_cons, List.take_zero, List.drop_succ_cons, List.drop_zero, fillL, wpTail, Act.put, List.setIfInBounds_toArray, List.set_cons_zero, List.set_cons_succ, Nat.reduceAdd]
  rw [hg, h4]
  refine tail_store_T (t := (⟨inst, na, na, x, nb, false, true⟩ : Ty)) rfl rfl hb rfl ?_
  intro w3 kb hgr
  have kw : Below w2.heap.size w2 w3 := hW.grown hgr hW.size (fun j hj => by injection hj with e; omega)
  have K15c := Lib.hid (K15b.out.below kw K15b.out.lt); have K16c := Lib.hid (K16b.out.below kw K16b.out.lt); have K17b := Lib.hid (K17.out.below kw K17.out.lt); have K18 := Lib.hid kb; have KW3 := Lib.hid (KW2.out.trans (kw.mono KW2.out.size)); have HD : Hid (gOf (va 5) ≠ gOf (vb 5)) := Lib.hid (by have := K17.out.lt; omega); have H18 : Hid (w.heap.size + 2 ≤ gOf (vb 5)) := Lib.hid (by have := K17.out.lt; have := H17.out; omega)
  clear hW hv hx hg hl h4 hb hgr kb kw
  go_upto_region 11 with fail
  refine wp_region_grows 13 ((fun q_ _ _ => q_ = .agg (tc (⟨inst, nb, na, x, nb, false, false⟩ : Ty))) :: (fun q_ _ _ => q_ = .bool false) :: (fun q_ _ _ => q_ = .agg (tc (⟨inst, na, na, x, nb, false, true⟩ : Ty))) :: (fun q_ _ _ => q_ = .bool true) :: (fun q_ _ _ => q_ = .bool false) :: (fun q_ _ _ => q_ = .bool false) :: (fun q_ _ _ => q_ = .agg (tc (⟨inst, nb, na, x, nb, false, false⟩ : Ty))) :: (fun q_ _ _ => q_ = .bool false) :: (fun q_ _ _ => q_ = .int .i64 na) :: (fun q_ _ _ => q_ = .int .i64 nb) :: (fun q_ _ _ => q_ = .bool false) :: (fun q_ _ _ => q_ = .bool false) :: (fun q_ _ _ => q_ = .bool false) :: []) (fun _ => false) (w3.heap.size) w3 (by kernel_rfl) (by kernel_rfl) (by kernel_rfl) (Below.refl _ _) (Nat.le_refl _) ?dStab (fun _ h => by cases h) ?dOps ?dFin
  case dStab => exact ⟨st_is _, st_is _, st_is _, st_is _, st_is _, st_is _, st_is _, st_is _, st_is _, st_is _, st_is _, st_is _, st_is _, trivial⟩
  case dOps =>
    intro Q
    refine ⟨?_, ?_, ?_, ?_, ?_, ?_, ?_, ?_, ?_, ?_, ?_, ?_, ?_, trivial⟩
    · intro ho a W hW hd hx
      have h17 : a.eval (.tmp 17) = .pointer (some ⟨(gOf (va 5)), 0, none⟩) := (hx 17 (dst_not (by kernel_rfl))).trans rfl
      exact op_value ho (want_none rfl) (v := .agg (tc (⟨inst, nb, na, x, nb, false, false⟩ : Ty))) (by intro ρ hρ kc kf; rw [← hρ] at h17; exact run_load_T h17 (K17b.out.below hW K17b.out.lt)) ⟨_, rfl, (fun h => by cases h), rfl, Below.refl _ _, (fun h => absurd h (by decide))⟩
    · intro ho a W hW hd hx
      have h83 : a.eval (.tmp 83) = .agg (tc (⟨inst, nb, na, x, nb, false, false⟩ : Ty)) := hd 0 (by kernel_rfl)
      refine op_call ho (want_none rfl) (by intro ρ hρ kc kf; rw [← hρ] at h83; clear hρ; simp [execOp, go_sem, kf, h83]) (stops_tc (⟨inst, nb, na, x, nb, false, false⟩ : Ty) W) ?_
      rintro e W2 ⟨rfl, k2⟩
      exact ⟨_, rfl, _, rfl, (fun h => by cases h), rfl, k2, (fun h => absurd h (by decide))⟩
    · intro ho a W hW hd hx
      have h18 : a.eval (.tmp 18) = .pointer (some ⟨(gOf (vb 5)), 0, none⟩) := (hx 18 (dst_not (by kernel_rfl))).trans rfl
      exact op_value ho (want_none rfl) (v := .agg (tc (⟨inst, na, na, x, nb, false, true⟩ : Ty))) (by intro ρ hρ kc kf; rw [← hρ] at h18; exact run_load_T h18 (K18.out.below hW K18.out.lt)) ⟨_, rfl, (fun h => by cases h), rfl, Below.refl _ _, (fun h => absurd h (by decide))⟩
    · intro ho a W hW hd hx
      have h85 : a.eval (.tmp 85) = .agg (tc (⟨inst, na, na, x, nb, false, true⟩ : Ty)) := hd 2 (by kernel_rfl)
      refine op_call ho (want_none rfl) (by intro ρ hρ kc kf; rw [← hρ] at h85; clear hρ; simp [execOp, go_sem, kf, h85]) (stops_tc (⟨inst, na, na, x, nb, false, true⟩ : Ty) W) ?_
      rintro e W2 ⟨rfl, k2⟩
      exact ⟨_, rfl, _, rfl, (fun h => by cases h), rfl, k2, (fun h => absurd h (by decide))⟩
    · intro ho a W hW hd hx
      have h84 : a.eval (.tmp 84) = .bool false := hd 1 (by kernel_rfl)
      have h86 : a.eval (.tmp 86) = .bool true := hd 3 (by kernel_rfl)
      exact op_value ho (want_none rfl) (v := .bool false) (by intro ρ hρ kc kf; rw [← hρ] at h84 h86; clear hρ; simp [execOp, go_sem, h84, h86]) ⟨_, rfl, (fun h => by cases h), rfl, Below.refl _ _, (fun h => absurd h (by decide))⟩
    · intro ho a W hW hd hx
      have h87 : a.eval (.tmp 87) = .bool false := hd 4 (by kernel_rfl)
      exact op_value ho (want_none rfl) (v := .bool false) (by intro ρ hρ kc kf; rw [← hρ] at h87; clear hρ; simp [execOp, go_sem, h87]) ⟨_, rfl, (fun h => by cases h), rfl, Below.refl _ _, (fun h => absurd h (by decide))⟩
    · intro ho a W hW hd hx
      have h88 : a.eval (.tmp 88) = .bool false := hd 5 (by kernel_rfl)
      have h17 : a.eval (.tmp 17) = .pointer (some ⟨(gOf (va 5)), 0, none⟩) := (hx 17 (dst_not (by kernel_rfl))).trans rfl
      exact op_value ho (want_yes rfl (show valAt _ a 5 = _ from h88)) (v := .agg (tc (⟨inst, nb, na, x, nb, false, false⟩ : Ty))) (by intro ρ hρ kc kf; rw [← hρ] at h17; exact run_load_T h17 (K17b.out.below hW K17b.out.lt)) ⟨_, rfl, (fun h => by cases h), rfl, Below.refl _ _, (fun h => absurd h (by decide))⟩
    · intro ho a W hW hd hx
      have h88 : a.eval (.tmp 88) = .bool false := hd 5 (by kernel_rfl)
      have h89 : a.eval (.tmp 89) = .agg (tc (⟨inst, nb, na, x, nb, false, false⟩ : Ty)) := hd 6 (by kernel_rfl)
      refine op_call ho (want_yes rfl (show valAt _ a 5 = _ from h88)) (by intro ρ hρ kc kf; rw [← hρ] at h89; clear hρ; simp [execOp, go_sem, kf, h89]) (stops_tc (⟨inst, nb, na, x, nb, false, false⟩ : Ty) W) ?_
      rintro e W2 ⟨rfl, k2⟩
      exact ⟨_, rfl, _, rfl, (fun h => by cases h), rfl, k2, (fun h => absurd h (by decide))⟩
    · intro ho a W hW hd hx
      have h88 : a.eval (.tmp 88) = .bool false := hd 5 (by kernel_rfl)
      have h0 : a.eval (.tmp 0) = .int .i64 na := (hx 0 (dst_not (by kernel_rfl))).trans rfl
      exact op_value ho (want_yes rfl (show valAt _ a 5 = _ from h88)) (v := .int .i64 na) (by intro ρ hρ kc kf; rw [← hρ] at h0; clear hρ; simp [execOp, go_sem, h0]) ⟨_, rfl, (fun h => by cases h), rfl, Below.refl _ _, (fun h => absurd h (by decide))⟩
    · intro ho a W hW hd hx
      have h88 : a.eval (.tmp 88) = .bool false := hd 5 (by kernel_rfl)
      have h1 : a.eval (.tmp 1) = .int .i64 nb := (hx 1 (dst_not (by kernel_rfl))).trans rfl
      exact op_value ho (want_yes rfl (show valAt _ a 5 = _ from h88)) (v := .int .i64 nb) (by intro ρ hρ kc kf; rw [← hρ] at h1; clear hρ; simp [execOp, go_sem, h1]) ⟨_, rfl, (fun h => by cases h), rfl, Below.refl _ _, (fun h => absurd h (by decide))⟩
    · intro ho a W hW hd hx
      have h88 : a.eval (.tmp 88) = .bool false := hd 5 (by kernel_rfl)
      have h91 : a.eval (.tmp 91) = .int .i64 na := hd 8 (by kernel_rfl)
      have h92 : a.eval (.tmp 92) = .int .i64 nb := hd 9 (by kernel_rfl)
      exact op_value ho (want_yes rfl (show valAt _ a 5 = _ from h88)) (v := .bool false) (by intro ρ hρ kc kf; rw [← hρ] at h91 h92; clear hρ; simp [execOp, go_sem, h91, h92, HO.out]) ⟨_, rfl, (fun h => by cases h), rfl, Below.refl _ _, (fun h => absurd h (by decide))⟩
    · intro ho a W hW hd hx
      have h88 : a.eval (.tmp 88) = .bool false := hd 5 (by kernel_rfl)
      have h90 : a.eval (.tmp 90) = .bool false := hd 7 (by kernel_rfl)
      have h93 : a.eval (.tmp 93) = .bool false := hd 10 (by kernel_rfl)
      exact op_value ho (want_yes rfl (show valAt _ a 5 = _ from h88)) (v := .bool false) (by intro ρ hρ kc kf; rw [← hρ] at h90 h93; clear hρ; simp [execOp, go_sem, h90, h93]) ⟨_, rfl, (fun h => by cases h), rfl, Below.refl _ _, (fun h => absurd h (by decide))⟩
    · intro ho a W hW hd hx
      have h88 : a.eval (.tmp 88) = .bool false := hd 5 (by kernel_rfl)
      have h94 : a.eval (.tmp 94) = .bool false := hd 11 (by kernel_rfl)
      exact op_value ho (want_none rfl) (v := .bool false) (by intro ρ hρ kc kf; rw [← hρ] at h88 h94; clear hρ; simp [execOp, go_sem, h88, h94]) ⟨_, rfl, (fun h => by cases h), rfl, Below.refl _ _, (fun h => absurd h (by decide))⟩
  intro vd w5 hW hv _
  have h12 : vd 12 = .bool false := hv 12 (by decide)
  simp only [List.take_succ_cons, List.take_zero, List.drop_succ_cons, List.drop_zero, fillL, wpTail, Act.put, List.setIfInBounds_toArray, List.set_cons_zero, List.set_cons_succ, Nat.reduceAdd]
  rw [h12]
  have K17e := Lib.hid (K17b.out.below hW K17b.out.lt); have K18e := Lib.hid (K18.out.below hW K18.out.lt); have KW5 := Lib.hid (KW3.out.trans (hW.mono KW3.out.size))
  clear hW hv h12
  go_upto_region 13 with fail
  refine wp_region_grows 32 ((fun q_ _ _ => q_ = .agg (tc (⟨inst, nb, na, x, nb, false, false⟩ : Ty))) :: (fun q_ _ _ => q_ = .string y) :: (fun q_ _ _ => q_ = .string x) :: (fun q_ _ _ => q_ = .string x) :: (fun q_ _ _ => q_ = .bool true) :: (fun q_ _ _ => q_ = .bool true) :: (fun q_ _ _ => q_ = .bool true) :: (fun q_ _ _ => q_ = undef) :: (fun q_ _ _ => q_ = undef) :: (fun q_ _ _ => q_ = undef) :: (fun q_ _ _ => q_ = .bool true) :: (fun q_ _ _ => q_ = .bool true) :: (fun q_ _ _ => q_ = .bool true) :: (fun q_ _ _ => q_ = .pointer (some ⟨(gOf (va 5)), 4, none⟩)) :: (fun q_ _ _ => q_ = .int .i64 nb) :: (fun q_ _ _ => q_ = .int .i64 na) :: (fun q_ _ _ => q_ = .int .i64 nb) :: (fun q_ _ _ => q_ = .int .i64 nb) :: (fun q_ _ _ => q_ = .bool true) :: (fun q_ _ _ => q_ = .bool true) :: (fun q_ _ _ => q_ = .bool true) :: (fun q_ _ _ => q_ = .pointer (some ⟨(gOf (vb 5)), 4, none⟩)) :: (fun q_ _ _ => q_ = .int .i64 nb) :: (fun q_ _ _ => q_ = .int .i64 na) :: (fun q_ _ _ => q_ = .int .i64 nb) :: (fun q_ _ _ => q_ = .int .i64 nb) :: (fun q_ _ _ => q_ = .bool true) :: (fun q_ _ _ => q_ = .bool true) :: (fun q_ _ _ => q_ = .bool true) :: (fun q_ _ _ => q_ = .bool true) :: (fun q_ _ _ => q_ = .bool true) :: (fun q_ _ _ => q_ = .bool true) :: []) (fun _ => false) (w5.heap.size) w5 (by kernel_rfl) (by kernel_rfl) (by kernel_rfl) (Below.refl _ _) (Nat.le_refl _) ?eStab (fun _ h => by cases h) ?eOps ?eFin
  case eStab => exact ⟨st_is _, st_is _, st_is _, st_is _, st_is _, st_is _, st_is _, st_is _, st_is _, st_is _, st_is _, st_is _, st_is _, st_is _, st_is _, st_is _, st_is _, st_is _, st_is _, st_is _, st_is _, st_is _, st_is _, st_is _, st_is _, st_is _, st_is _, st_is _, st_is _, st_is _, st_is _, st_is _, trivial⟩
  case eOps =>
    intro Q
    refine ⟨?_, ?_, ?_, ?_, ?_, ?_, ?_, ?_, ?_, ?_, ?_, ?_, ?_, ?_, ?_, ?_, ?_, ?_, ?_, ?_, ?_, ?_, ?_, ?_, ?_, ?_, ?_, ?_, ?_, ?_, ?_, ?_, trivial⟩
    · intro ho a W hW hd hx
      have h17 : a.eval (.tmp 17) = .pointer (some ⟨(gOf (va 5)), 0, none⟩) := (hx 17 (dst_not (by kernel_rfl))).trans rfl
      exact op_value ho (want_none rfl) (v := .agg (tc (⟨inst, nb, na, x, nb, false, false⟩ : Ty))) (by intro ρ hρ kc kf; rw [← hρ] at h17; exact run_load_T h17 (K17e.out.below hW K17e.out.lt)) ⟨_, rfl, (fun h => by cases h), rfl, Below.refl _ _, (fun h => absurd h (by decide))⟩
    · intro ho a W hW hd hx
      have h3 : a.eval (.tmp 3) = .string y := (hx 3 (dst_not (by kernel_rfl))).trans rfl
      exact op_value ho (want_none rfl) (v := .string y) (by intro ρ hρ kc kf; rw [← hρ] at h3; clear hρ; simp [execOp, go_sem, h3]) ⟨_, rfl, (fun h => by cases h), rfl, Below.refl _ _, (fun h => absurd h (by decide))⟩
    · intro ho a W hW hd hx
      have h96 : a.eval (.tmp 96) = .agg (tc (⟨inst, nb, na, x, nb, false, false⟩ : Ty)) := hd 0 (by kernel_rfl)
      have h97 : a.eval (.tmp 97) = .string y := hd 1 (by kernel_rfl)
      refine op_call ho (want_none rfl) (by intro ρ hρ kc kf; rw [← hρ] at h96 h97; clear hρ; simp [execOp, go_sem, kf, h96, h97]) (CV.out W) ?_
      rintro e W2 ⟨rfl, k2⟩
      exact ⟨_, rfl, _, rfl, (fun h => by cases h), rfl, k2, (fun h => absurd h (by decide))⟩
    · intro ho a W hW hd hx
      have h2 : a.eval (.tmp 2) = .string x := (hx 2 (dst_not (by kernel_rfl))).trans rfl
      exact op_value ho (want_none rfl) (v := .string x) (by intro ρ hρ kc kf; rw [← hρ] at h2; clear hρ; simp [execOp, go_sem, h2]) ⟨_, rfl, (fun h => by cases h), rfl, Below.refl _ _, (fun h => absurd h (by decide))⟩
    · intro ho a W hW hd hx
      have h98 : a.eval (.tmp 98) = .string x := hd 2 (by kernel_rfl)
      have h99 : a.eval (.tmp 99) = .string x := hd 3 (by kernel_rfl)
      exact op_value ho (want_none rfl) (v := .bool true) (by intro ρ hρ kc kf; rw [← hρ] at h98 h99; clear hρ; simp [execOp, go_sem, h98, h99]) ⟨_, rfl, (fun h => by cases h), rfl, Below.refl _ _, (fun h => absurd h (by decide))⟩
    · intro ho a W hW hd hx
      have h6 : a.eval (.tmp 6) = .bool true := (hx 6 (dst_not (by kernel_rfl))).trans rfl
      exact op_value ho (want_none rfl) (v := .bool true) (by intro ρ hρ kc kf; rw [← hρ] at h6; clear hρ; simp [execOp, go_sem, h6]) ⟨_, rfl, (fun h => by cases h), rfl, Below.refl _ _, (fun h => absurd h (by decide))⟩
    · intro ho a W hW hd hx
      have h101 : a.eval (.tmp 101) = .bool true := hd 5 (by kernel_rfl)
      exact op_value ho (want_none rfl) (v := .bool true) (by intro ρ hρ kc kf; rw [← hρ] at h101; clear hρ; simp [execOp, go_sem, h101]) ⟨_, rfl, (fun h => by cases h), rfl, Below.refl _ _, (fun h => absurd h (by decide))⟩
    · intro ho a W hW hd hx
      have h102 : a.eval (.tmp 102) = .bool true := hd 6 (by kernel_rfl)
      have h2 : a.eval (.tmp 2) = .string x := (hx 2 (dst_not (by kernel_rfl))).trans rfl
      exact op_none ho (want_no (c := true) rfl (show valAt _ a 6 = _ from h102) (by decide)) ⟨_, rfl, (fun h => by cases h), rfl, Below.refl _ _, (fun h => absurd h (by decide))⟩
    · intro ho a W hW hd hx
      have h102 : a.eval (.tmp 102) = .bool true := hd 6 (by kernel_rfl)
      have h3 : a.eval (.tmp 3) = .string y := (hx 3 (dst_not (by kernel_rfl))).trans rfl
      exact op_none ho (want_no (c := true) rfl (show valAt _ a 6 = _ from h102) (by decide)) ⟨_, rfl, (fun h => by cases h), rfl, Below.refl _ _, (fun h => absurd h (by decide))⟩
    · intro ho a W hW hd hx
      have h102 : a.eval (.tmp 102) = .bool true := hd 6 (by kernel_rfl)
      have h103 : a.eval (.tmp 103) = undef := hd 7 (by kernel_rfl)
      have h104 : a.eval (.tmp 104) = undef := hd 8 (by kernel_rfl)
      exact op_none ho (want_no (c := true) rfl (show valAt _ a 6 = _ from h102) (by decide)) ⟨_, rfl, (fun h => by cases h), rfl, Below.refl _ _, (fun h => absurd h (by decide))⟩
    · intro ho a W hW hd hx
      have h102 : a.eval (.tmp 102) = .bool true := hd 6 (by kernel_rfl)
      have h105 : a.eval (.tmp 105) = undef := hd 9 (by kernel_rfl)
      exact op_value ho (want_none rfl) (v := .bool true) (by intro ρ hρ kc kf; rw [← hρ] at h102; clear hρ; simp [execOp, go_sem, kc, h102]) ⟨_, rfl, (fun h => by cases h), rfl, Below.refl _ _, (fun h => absurd h (by decide))⟩
    · intro ho a W hW hd hx
      have h100 : a.eval (.tmp 100) = .bool true := hd 4 (by kernel_rfl)
      have h106 : a.eval (.tmp 106) = .bool true := hd 10 (by kernel_rfl)
      exact op_value ho (want_none rfl) (v := .bool true) (by intro ρ hρ kc kf; rw [← hρ] at h100 h106; clear hρ; simp [execOp, go_sem, h100, h106]) ⟨_, rfl, (fun h => by cases h), rfl, Below.refl _ _, (fun h => absurd h (by decide))⟩
    · intro ho a W hW hd hx
      have h107 : a.eval (.tmp 107) = .bool true := hd 11 (by kernel_rfl)
      exact op_value ho (want_none rfl) (v := .bool true) (by intro ρ hρ kc kf; rw [← hρ] at h107; clear hρ; simp [execOp, go_sem, h107]) ⟨_, rfl, (fun h => by cases h), rfl, Below.refl _ _, (fun h => absurd h (by decide))⟩
    · intro ho a W hW hd hx
      have h108 : a.eval (.tmp 108) = .bool true := hd 12 (by kernel_rfl)
      have h17 : a.eval (.tmp 17) = .pointer (some ⟨(gOf (va 5)), 0, none⟩) := (hx 17 (dst_not (by kernel_rfl))).trans rfl
      exact op_value ho (want_yes rfl (show valAt _ a 12 = _ from h108)) (v := .pointer (some ⟨(gOf (va 5)), 4, none⟩)) (by intro ρ hρ kc kf; rw [← hρ] at h17; clear hρ; simp [execOp, go_sem, h17]) ⟨_, rfl, (fun h => by cases h), rfl, Below.refl _ _, (fun h => absurd h (by decide))⟩
    · intro ho a W hW hd hx
      have h108 : a.eval (.tmp 108) = .bool true := hd 12 (by kernel_rfl)
      have h109 : a.eval (.tmp 109) = .pointer (some ⟨(gOf (va 5)), 4, none⟩) := hd 13 (by kernel_rfl)
      have hcell : W.cell? ⟨(gOf (va 5)), 4, none⟩ = some (.int .i64 nb) := by rw [(K17e.out.below hW K17e.out.lt).cell 4]; rfl
      exact op_value ho (want_yes rfl (show valAt _ a 12 = _ from h108)) (v := .int .i64 nb) (by intro ρ hρ kc kf; rw [← hρ] at h109; clear hρ; simp [execOp, go_sem, h109, hcell]) ⟨_, rfl, (fun h => by cases h), rfl, Below.refl _ _, (fun h => absurd h (by decide))⟩
    · intro ho a W hW hd hx
      have h108 : a.eval (.tmp 108) = .bool true := hd 12 (by kernel_rfl)
      have h0 : a.eval (.tmp 0) = .int .i64 na := (hx 0 (dst_not (by kernel_rfl))).trans rfl
      exact op_value ho (want_yes rfl (show valAt _ a 12 = _ from h108)) (v := .int .i64 na) (by intro ρ hρ kc kf; rw [← hρ] at h0; clear hρ; simp [execOp, go_sem, h0]) ⟨_, rfl, (fun h => by cases h), rfl, Below.refl _ _, (fun h => absurd h (by decide))⟩
    · intro ho a W hW hd hx
      have h108 : a.eval (.tmp 108) = .bool true := hd 12 (by kernel_rfl)
      have h1 : a.eval (.tmp 1) = .int .i64 nb := (hx 1 (dst_not (by kernel_rfl))).trans rfl
      exact op_value ho (want_yes rfl (show valAt _ a 12 = _ from h108)) (v := .int .i64 nb) (by intro ρ hρ kc kf; rw [← hρ] at h1; clear hρ; simp [execOp, go_sem, h1]) ⟨_, rfl, (fun h => by cases h), rfl, Below.refl _ _, (fun h => absurd h (by decide))⟩
    · intro ho a W hW hd hx
      have h108 : a.eval (.tmp 108) = .bool true := hd 12 (by kernel_rfl)
      have h111 : a.eval (.tmp 111) = .int .i64 na := hd 15 (by kernel_rfl)
      have h112 : a.eval (.tmp 112) = .int .i64 nb := hd 16 (by kernel_rfl)
      exact op_value ho (want_yes rfl (show valAt _ a 12 = _ from h108)) (v := .int .i64 nb) (by intro ρ hρ kc kf; rw [← hρ] at h111 h112; exact (run_max h111 h112).trans (by rw [HMX.out])) ⟨_, rfl, (fun h => by cases h), rfl, Below.refl _ _, (fun h => absurd h (by decide))⟩
    · intro ho a W hW hd hx
      have h108 : a.eval (.tmp 108) = .bool true := hd 12 (by kernel_rfl)
      have h110 : a.eval (.tmp 110) = .int .i64 nb := hd 14 (by kernel_rfl)
      have h113 : a.eval (.tmp 113) = .int .i64 nb := hd 17 (by kernel_rfl)
      exact op_value ho (want_yes rfl (show valAt _ a 12 = _ from h108)) (v := .bool true) (by intro ρ hρ kc kf; rw [← hρ] at h110 h113; clear hρ; simp [execOp, go_sem, h110, h113]) ⟨_, rfl, (fun h => by cases h), rfl, Below.refl _ _, (fun h => absurd h (by decide))⟩
    · intro ho a W hW hd hx
      have h108 : a.eval (.tmp 108) = .bool true := hd 12 (by kernel_rfl)
      have h114 : a.eval (.tmp 114) = .bool true := hd 18 (by kernel_rfl)
      exact op_value ho (want_none rfl) (v := .bool true) (by intro ρ hρ kc kf; rw [← hρ] at h108 h114; clear hρ; simp [execOp, go_sem, h108, h114]) ⟨_, rfl, (fun h => by cases h), rfl, Below.refl _ _, (fun h => absurd h (by decide))⟩
    · intro ho a W hW hd hx
      have h115 : a.eval (.tmp 115) = .bool true := hd 19 (by kernel_rfl)
      exact op_value ho (want_none rfl) (v := .bool true) (by intro ρ hρ kc kf; rw [← hρ] at h115; clear hρ; simp [execOp, go_sem, h115]) ⟨_, rfl, (fun h => by cases h), rfl, Below.refl _ _, (fun h => absurd h (by decide))⟩
    · intro ho a W hW hd hx
      have h116 : a.eval (.tmp 116) = .bool true := hd 20 (by kernel_rfl)
      have h18 : a.eval (.tmp 18) = .pointer (some ⟨(gOf (vb 5)), 0, none⟩) := (hx 18 (dst_not (by kernel_rfl))).trans rfl
      exact op_value ho (want_yes rfl (show valAt _ a 20 = _ from h116)) (v := .pointer (some ⟨(gOf (vb 5)), 4, none⟩)) (by intro ρ hρ kc kf; rw [← hρ] at h18; clear hρ; simp [execOp, go_sem, h18]) ⟨_, rfl, (fun h => by cases h), rfl, Below.refl _ _, (fun h => absurd h (by decide))⟩
    · intro ho a W hW hd hx
      have h116 : a.eval (.tmp 116) = .bool true := hd 20 (by kernel_rfl)
      have h117 : a.eval (.tmp 117) = .pointer (some ⟨(gOf (vb 5)), 4, none⟩) := hd 21 (by kernel_rfl)
      have hcell : W.cell? ⟨(gOf (vb 5)), 4, none⟩ = some (.int .i64 nb) := by rw [(K18e.out.below hW K18e.out.lt).cell 4]; rfl
      exact op_value ho (want_yes rfl (show valAt _ a 20 = _ from h116)) (v := .int .i64 nb) (by intro ρ hρ kc kf; rw [← hρ] at h117; clear hρ; simp [execOp, go_sem, h117, hcell]) ⟨_, rfl, (fun h => by cases h), rfl, Below.refl _ _, (fun h => absurd h (by decide))⟩
    · intro ho a W hW hd hx
      have h116 : a.eval (.tmp 116) = .bool true := hd 20 (by kernel_rfl)
      have h0 : a.eval (.tmp 0) = .int .i64 na := (hx 0 (dst_not (by kernel_rfl))).trans rfl
      exact op_value ho (want_yes rfl (show valAt _ a 20 = _ from h116)) (v := .int .i64 na) (by intro ρ hρ kc kf; rw [← hρ] at h0; clear hρ; simp [execOp, go_sem, h0]) ⟨_, rfl, (fun h => by cases h), rfl, Below.refl _ _, (fun h => absurd h (by decide))⟩
    · intro ho a W hW hd hx
      have h116 : a.eval (.tmp 116) = .bool true := hd 20 (by kernel_rfl)
      have h1 : a.eval (.tmp 1) = .int .i64 nb := (hx 1 (dst_not (by kernel_rfl))).trans rfl
      exact op_value ho (want_yes rfl (show valAt _ a 20 = _ from h116)) (v := .int .i64 nb) (by intro ρ hρ kc kf; rw [← hρ] at h1; clear hρ; simp [execOp, go_sem, h1]) ⟨_, rfl, (fun h => by cases h), rfl, Below.refl _ _, (fun h => absurd h (by decide))⟩
    · intro ho a W hW hd hx
      have h116 : a.eval (.tmp 116) = .bool true := hd 20 (by kernel_rfl)
      have h119 : a.eval (.tmp 119) = .int .i64 na := hd 23 (by kernel_rfl)
      have h120 : a.eval (.tmp 120) = .int .i64 nb := hd 24 (by kernel_rfl)
      exact op_value ho (want_yes rfl (show valAt _ a 20 = _ from h116)) (v := .int .i64 nb) (by intro ρ hρ kc kf; rw [← hρ] at h119 h120; exact (run_max h119 h120).trans (by rw [HMX.out])) ⟨_, rfl, (fun h => by cases h), rfl, Below.refl _ _, (fun h => absurd h (by decide))⟩
    · intro ho a W hW hd hx
      have h116 : a.eval (.tmp 116) = .bool true := hd 20 (by kernel_rfl)
      have h118 : a.eval (.tmp 118) = .int .i64 nb := hd 22 (by kernel_rfl)
      have h121 : a.eval (.tmp 121) = .int .i64 nb := hd 25 (by kernel_rfl)
      exact op_value ho (want_yes rfl (show valAt _ a 20 = _ from h116)) (v := .bool true) (by intro ρ hρ kc kf; rw [← hρ] at h118 h121; clear hρ; simp [execOp, go_sem, h118, h121]) ⟨_, rfl, (fun h => by cases h), rfl, Below.refl _ _, (fun h => absurd h (by decide))⟩
    · intro ho a W hW hd hx
      have h116 : a.eval (.tmp 116) = .bool true := hd 20 (by kernel_rfl)
      have h122 : a.eval (.tmp 122) = .bool true := hd 26 (by kernel_rfl)
      exact op_value ho (want_none rfl) (v := .bool true) (by intro ρ hρ kc kf; rw [← hρ] at h116 h122; clear hρ; simp [execOp, go_sem, h116, h122]) ⟨_, rfl, (fun h => by cases h), rfl, Below.refl _ _, (fun h => absurd h (by decide))⟩
    · intro ho a W hW hd hx
      have h123 : a.eval (.tmp 123) = .bool true := hd 27 (by kernel_rfl)
      exact op_value ho (want_none rfl) (v := .bool true) (by intro ρ hρ kc kf; rw [← hρ] at h123; clear hρ; simp [execOp, go_sem, h123]) ⟨_, rfl, (fun h => by cases h), rfl, Below.refl _ _, (fun h => absurd h (by decide))⟩
    · intro ho a W hW hd hx
      have h124 : a.eval (.tmp 124) = .bool true := hd 28 (by kernel_rfl)
      refine op_call ho (want_yes rfl (show valAt _ a 28 = _ from h124)) (by intro ρ hρ kc kf; clear hρ; simp [execOp, go_sem, kf]) (wakes_any W) ?_
      rintro e W2 ⟨rfl, k2⟩
      exact ⟨_, rfl, _, rfl, (fun h => by cases h), rfl, k2, (fun h => absurd h (by decide))⟩
    · intro ho a W hW hd hx
      have h124 : a.eval (.tmp 124) = .bool true := hd 28 (by kernel_rfl)
      have h125 : a.eval (.tmp 125) = .bool true := hd 29 (by kernel_rfl)
      exact op_value ho (want_none rfl) (v := .bool true) (by intro ρ hρ kc kf; rw [← hρ] at h124 h125; clear hρ; simp [execOp, go_sem, h124, h125]) ⟨_, rfl, (fun h => by cases h), rfl, Below.refl _ _, (fun h => absurd h (by decide))⟩
    · intro ho a W hW hd hx
      have h126 : a.eval (.tmp 126) = .bool true := hd 30 (by kernel_rfl)
      exact op_value ho (want_none rfl) (v := .bool true) (by intro ρ hρ kc kf; rw [← hρ] at h126; clear hρ; simp [execOp, go_sem, h126]) ⟨_, rfl, (fun h => by cases h), rfl, Below.refl _ _, (fun h => absurd h (by decide))⟩
  intro ve W hW hv _
  have hlast : ve 31 = .bool true := hv 31 (by decide)
  simp only [List.take_succ_cons, List.take_zero, List.drop_succ_cons, List.drop_zero, fillL, wpTail, Act.put, List.setIfInBounds_toArray, List.set_cons_zero, List.set_cons_succ, Nat.reduceAdd]
  rw [hlast]
  go_wp2
  go_ret
  exact ⟨rfl, KW5.out.trans (hW.mono KW5.out.size)⟩

set_option maxRecDepth 100000 in
set_option maxHeartbeats 4000000 in
theorem one_tng (na nb : Int) (x y : ByteArray) (inst : Int) (w : World) (ha : ¬ na < 1) (hb : ¬ nb < 1) (hlt : nb < na) (hx : x.size ≤ 100) (hy : y.size ≤ 100) :
    Calls Try.prog 5 #[.int .i64 na, .int .i64 nb, .string x, .string y, .int .i64 inst, .bool false, .bool true] w fun e w' => e = .returned (.bool true) ∧ Below w.heap.size w w' := by
  have hab : ¬ na = nb := by omega
  have hx' : ¬ (100 : Int) < (x.size : Int) := by omega
  have hy' : ¬ (100 : Int) < (y.size : Int) := by omega
  have hord : nb < na := by omega
  have hord2 : ¬ na < nb := by omega
  have eT : ∀ s, (s = 0 ∨ s = na) → oneT (begun (⟨inst, nb, 0, ⟨#[]⟩⟩ : Rc) s) (⟨inst, na, na, x⟩ : Rc) = (⟨inst, nb, na, x, na, false, true⟩ : Ty) := by
    intro s hs
    rcases hs with rfl | rfl <;> simp [oneT, begun, hereT, mx] <;> omega
  have eU : ∀ s, (s = 0 ∨ s = nb) → oneT (begun (⟨inst, na, na, x⟩ : Rc) s) (⟨inst, nb, 0, ⟨#[]⟩⟩ : Rc) = (⟨inst, na, na, x, na, false, false⟩ : Ty) := by
    intro s hs
    rcases hs with rfl | rfl <;> simp [oneT, begun, hereT, mx] <;> omega
  have cT := fun g W (h : Blk W g 23 (rc (⟨inst, na, na, x⟩ : Rc))) => count_blk (begun (⟨inst, nb, 0, ⟨#[]⟩⟩ : Rc) 0) g (⟨inst, na, na, x⟩ : Rc) W h
  have cU := fun g W (h : Blk W g 23 (rc (⟨inst, nb, 0, ⟨#[]⟩⟩ : Rc))) => count_blk (begun (⟨inst, na, na, x⟩ : Rc) 0) g (⟨inst, nb, 0, ⟨#[]⟩⟩ : Rc) W h
  have cT2 := fun g W (h : Blk W g 23 (rc (⟨inst, na, na, x⟩ : Rc))) => count_blk (begun (⟨inst, nb, 0, ⟨#[]⟩⟩ : Rc) na) g (⟨inst, na, na, x⟩ : Rc) W h
  have cU2 := fun g W (h : Blk W g 23 (rc (⟨inst, nb, 0, ⟨#[]⟩⟩ : Rc))) => count_blk (begun (⟨inst, na, na, x⟩ : Rc) nb) g (⟨inst, nb, 0, ⟨#[]⟩⟩ : Rc) W h
  rw [eT 0 (.inl rfl)] at cT; rw [eT na (.inr rfl)] at cT2; rw [eU 0 (.inl rfl)] at cU; rw [eU nb (.inr rfl)] at cU2
  have hV : valueT (⟨inst, nb, na, x, na, false, true⟩ : Ty) y = x := by exact if_pos (by show 0 < na; omega)
  have cV := fun W => value_tc (⟨inst, nb, na, x, na, false, true⟩ : Ty) y W
  rw [hV] at cV
  have CT := Lib.hid cT; have CU := Lib.hid cU; have CT2 := Lib.hid cT2; have CU2 := Lib.hid cU2; have CV := Lib.hid cV
  have K15a : Hid (Blk ((w.alloc (Obj.cells #[Value.int IntKind.i64 inst, Value.int IntKind.i64 na, Value.int IntKind.i64 na, Value.string x] 23)).alloc (Obj.cells #[Value.int IntKind.i64 inst, Value.int IntKind.i64 nb, Value.int IntKind.i64 0, Value.string { data := #[] }] 23)) w.heap.size 23 (rc (⟨inst, na, na, x⟩ : Rc))) := Lib.hid ((Blk.new w 23 _).alloc _)
  have k16 := Blk.new (w.alloc (Obj.cells #[Value.int IntKind.i64 inst, Value.int IntKind.i64 na, Value.int IntKind.i64 na, Value.string x] 23)) 23 (rc (⟨inst, nb, 0, ⟨#[]⟩⟩ : Rc))
  have K16a : Hid (Blk ((w.alloc (Obj.cells #[Value.int IntKind.i64 inst, Value.int IntKind.i64 na, Value.int IntKind.i64 na, Value.string x] 23)).alloc (Obj.cells #[Value.int IntKind.i64 inst, Value.int IntKind.i64 nb, Value.int IntKind.i64 0, Value.string { data := #[] }] 23)) (w.heap.size + 1) 23 (rc (⟨inst, nb, 0, ⟨#[]⟩⟩ : Rc))) := Lib.hid (by simpa [rc] using k16)
  have KW0 : Hid (Below w.heap.size w ((w.alloc (Obj.cells #[Value.int IntKind.i64 inst, Value.int IntKind.i64 na, Value.int IntKind.i64 na, Value.string x] 23)).alloc (Obj.cells #[Value.int IntKind.i64 inst, Value.int IntKind.i64 nb, Value.int IntKind.i64 0, Value.string { data := #[] }] 23))) := Lib.hid (((Below.refl _ _).alloc (Nat.le_refl _) _).alloc (by simp) _)
  have HZ0 : Hid ((((w.alloc (Obj.cells #[Value.int IntKind.i64 inst, Value.int IntKind.i64 na, Value.int IntKind.i64 na, Value.string x] 23)).alloc (Obj.cells #[Value.int IntKind.i64 inst, Value.int IntKind.i64 nb, Value.int IntKind.i64 0, Value.string { data := #[] }] 23))).heap.size = w.heap.size + 2) := Lib.hid (by simp)
  have HWK := Lib.hid (wakes_any w)
  clear cT cU cT2 cU2 cV hV eT eU k16
  have HO := Lib.hid hord; have HMX : Hid (mx na nb = na) := Lib.hid (if_neg hord2); have HL := Lib.hid hlt
  clear hord hord2 hlt
  go_enter Try.func5, Try.ntmps5
  go_wp2_with fail
  any_goals (go_at_call 9; refine HWK.out.mono ?_; rintro e w1 ⟨rfl, hb1⟩; go_wp2; go_ret; exact ⟨rfl, hb1⟩)
  obtain ⟨w1, hw1⟩ : ∃ w1, w1 = ((w.alloc (Obj.cells #[Value.int IntKind.i64 inst, Value.int IntKind.i64 na, Value.int IntKind.i64 na, Value.string x] 23)).alloc (Obj.cells #[Value.int IntKind.i64 inst, Value.int IntKind.i64 nb, Value.int IntKind.i64 0, Value.string { data := #[] }] 23)) := ⟨_, rfl⟩
  have K15 := K15a; have K16 := K16a; have KW1 := KW0; have HZ := HZ0
  rw [← hw1] at K15 K16 KW1 HZ ⊢
  clear K15a K16a KW0 HZ0 hw1
  refine wp_region_grows 6 ((fun q_ _ _ => q_ = .agg (rc (⟨inst, nb, 0, ⟨#[]⟩⟩ : Rc))) :: (fun q_ _ _ => q_ = .agg (tc (begun (⟨inst, nb, 0, ⟨#[]⟩⟩ : Rc) 0))) :: (fun q_ _ _ => q_ = .agg (rc (⟨inst, na, na, x⟩ : Rc))) :: (fun q_ _ W => ∃ g, q_ = .slice (some ⟨g, 0, none⟩) 1 1 ∧ Blk W g 23 (rc (⟨inst, na, na, x⟩ : Rc))) :: (fun q_ _ _ => q_ = .agg (tc (⟨inst, nb, na, x, na, false, true⟩ : Ty))) :: (fun q_ _ W => q_ = ptr (gOf q_) ∧ w1.heap.size ≤ gOf q_ ∧ Blk W (gOf q_) 30 (tc zT)) :: []) ((fun i => i == 5)) (w1.heap.size) w1 (by kernel_rfl) (by kernel_rfl) (by kernel_rfl) (Below.refl _ _) (Nat.le_refl _) ?aStab (fun i hi x W hx => by obtain rfl := eq_of_beq hi; exact ⟨_, hx.1, hx.2.2.lt⟩) ?aOps ?aFin
  case aStab => exact ⟨st_is _, st_is _, st_is _, st_slice _ _, st_is _, st_alloc _ _ _, trivial⟩
  case aOps =>
    intro Q
    refine ⟨?_, ?_, ?_, ?_, ?_, ?_, trivial⟩
    · intro ho a W hW hd hx
      have h16 : a.eval (.tmp 16) = .pointer (some ⟨(w.heap.size + 1), 0, none⟩) := (hx 16 (dst_not (by kernel_rfl))).trans rfl
      exact op_value ho (want_none rfl) (v := .agg (rc (⟨inst, nb, 0, ⟨#[]⟩⟩ : Rc))) (by intro ρ hρ kc kf; rw [← hρ] at h16; exact run_load_B h16 (K16.out.below hW K16.out.lt)) ⟨_, rfl, (fun h => by cases h), rfl, Below.refl _ _, (fun h => absurd h (by decide))⟩
    · intro ho a W hW hd hx
      have h60 : a.eval (.tmp 60) = .agg (rc (⟨inst, nb, 0, ⟨#[]⟩⟩ : Rc)) := hd 0 (by kernel_rfl)
      refine op_call ho (want_none rfl) (by intro ρ hρ kc kf; rw [← hρ] at h60; clear hρ; simp [execOp, go_sem, kc, kf, h60]) (begin_tc (⟨inst, nb, 0, ⟨#[]⟩⟩ : Rc) 0 W) ?_
      rintro e W2 ⟨rfl, k2⟩
      exact ⟨_, rfl, _, rfl, (fun h => by cases h), rfl, k2, (fun h => absurd h (by decide))⟩
    · intro ho a W hW hd hx
      have h15 : a.eval (.tmp 15) = .pointer (some ⟨w.heap.size, 0, none⟩) := (hx 15 (dst_not (by kernel_rfl))).trans rfl
      exact op_value ho (want_none rfl) (v := .agg (rc (⟨inst, na, na, x⟩ : Rc))) (by intro ρ hρ kc kf; rw [← hρ] at h15; exact run_load_B h15 (K15.out.below hW K15.out.lt)) ⟨_, rfl, (fun h => by cases h), rfl, Below.refl _ _, (fun h => absurd h (by decide))⟩
    · intro ho a W hW hd hx
      have h62 : a.eval (.tmp 62) = .agg (rc (⟨inst, na, na, x⟩ : Rc)) := hd 2 (by kernel_rfl)
      exact op_value ho (want_none rfl) (v := .slice (some ⟨W.heap.size, 0, none⟩) 1 1) (w' := W.alloc (.cells (rc (⟨inst, na, na, x⟩ : Rc)) 23)) (by intro ρ hρ kc kf; rw [← hρ] at h62; clear hρ; simp [execOp, go_sem, h62, rc]) ⟨_, rfl, (fun h => by cases h), ⟨_, rfl, Blk.new W 23 _⟩, (Below.refl _ _).alloc (Nat.le_refl _) _, (fun h => absurd h (by decide))⟩
    · intro ho a W hW hd hx
      have h61 : a.eval (.tmp 61) = .agg (tc (begun (⟨inst, nb, 0, ⟨#[]⟩⟩ : Rc) 0)) := hd 1 (by kernel_rfl)
      obtain ⟨g63, h63, r63⟩ : ∃ g, a.eval (.tmp 63) = .slice (some ⟨g, 0, none⟩) 1 1 ∧ Blk W g 23 (rc (⟨inst, na, na, x⟩ : Rc)) := (hd 3 (by kernel_rfl))
      refine op_call ho (want_none rfl) (by intro ρ hρ kc kf; rw [← hρ] at h61 h63; clear hρ; simp [execOp, go_sem, kf, h61, h63]) (CT.out g63 W r63) ?_
      rintro e W2 ⟨rfl, k2⟩
      exact ⟨_, rfl, _, rfl, (fun h => by cases h), rfl, k2, (fun h => absurd h (by decide))⟩
    · intro ho a W hW hd hx
      exact op_value ho (want_none rfl) (v := ptr W.heap.size) (w' := W.alloc (.cells (tc zT) 30)) (by intro ρ hρ kc kf; clear hρ; simp [execOp, go_sem, ptr, tc, zT]) ⟨_, rfl, (fun h => by cases h), ⟨rfl, hW.size, Blk.new W 30 _⟩, (Below.refl _ _).alloc (Nat.le_refl _) _, (fun _ => ⟨_, rfl, Nat.le_refl _⟩)⟩
  intro va W hW hv _
  have hx : va 5 = ptr (gOf (va 5)) ∧ w1.heap.size ≤ gOf (va 5) ∧ Blk W (gOf (va 5)) 30 (tc zT) := hv 5 (by decide)
  have hg := hx.1; have hl := hx.2.1; have hb := hx.2.2
  have h4 : va 4 = .agg (tc (⟨inst, nb, na, x, na, false, true⟩ : Ty)) := hv 4 (by decide)
  simp only [List.take_succ_cons, List.take_zero, List.drop_succ_cons, List.drop_zero, fillL, wpTail, Act.put, List.setIfInBounds_toArray, List.set_cons_zero, List.set_cons_succ, Nat.reduceAdd]
  rw [hg, h4]
  refine tail_store_T (t := (⟨inst, nb, na, x, na, false, true⟩ : Ty)) rfl rfl hb rfl ?_
  intro w2 kb hgr
  have kw : Below w1.heap.size w1 w2 := hW.grown hgr hW.size (fun j hj => by injection hj with e; omega)
  have K15b := Lib.hid (K15.out.below kw K15.out.lt); have K16b := Lib.hid (K16.out.below kw K16.out.lt); have K17 := Lib.hid kb; have KW2 := Lib.hid (KW1.out.trans (kw.mono KW1.out.size)); have H17 : Hid (w.heap.size + 2 ≤ gOf (va 5)) := Lib.hid (by have := HZ.out; omega)
  clear hW hv hx hg hl h4 hb hgr kb kw
  go_upto_region 8 with fail
  refine wp_region_grows 6 ((fun q_ _ _ => q_ = .agg (rc (⟨inst, na, na, x⟩ : Rc))) :: (fun q_ _ _ => q_ = .agg (tc (begun (⟨inst, na, na, x⟩ : Rc) 0))) :: (fun q_ _ _ => q_ = .agg (rc (⟨inst, nb, 0, ⟨#[]⟩⟩ : Rc))) :: (fun q_ _ W => ∃ g, q_ = .slice (some ⟨g, 0, none⟩) 1 1 ∧ Blk W g 23 (rc (⟨inst, nb, 0, ⟨#[]⟩⟩ : Rc))) :: (fun q_ _ _ => q_ = .agg (tc (⟨inst, na, na, x, na, false, false⟩ : Ty))) :: (fun q_ _ W => q_ = ptr (gOf q_) ∧ w2.heap.size ≤ gOf q_ ∧ Blk W (gOf q_) 30 (tc zT)) :: []) ((fun i => i == 5)) (w2.heap.size) w2 (by kernel_rfl) (by kernel_rfl) (by kernel_rfl) (Below.refl _ _) (Nat.le_refl _) ?bStab (fun i hi x W hx => by obtain rfl := eq_of_beq hi; exact ⟨_, hx.1, hx.2.2.lt⟩) ?bOps ?bFin
  case bStab => exact ⟨st_is _, st_is _, st_is _, st_slice _ _, st_is _, st_alloc _ _ _, trivial⟩
  case bOps =>
    intro Q
    refine ⟨?_, ?_, ?_, ?_, ?_, ?_, trivial⟩
    · intro ho a W hW hd hx
      have h15 : a.eval (.tmp 15) = .pointer (some ⟨w.heap.size, 0, none⟩) := (hx 15 (dst_not (by kernel_rfl))).trans rfl
      exact op_value ho (want_none rfl) (v := .agg (rc (⟨inst, na, na, x⟩ : Rc))) (by intro ρ hρ kc kf; rw [← hρ] at h15; exact run_load_B h15 (K15b.out.below hW K15b.out.lt)) ⟨_, rfl, (fun h => by cases h), rfl, Below.refl _ _, (fun h => absurd h (by decide))⟩
    · intro ho a W hW hd hx
      have h65 : a.eval (.tmp 65) = .agg (rc (⟨inst, na, na, x⟩ : Rc)) := hd 0 (by kernel_rfl)
      refine op_call ho (want_none rfl) (by intro ρ hρ kc kf; rw [← hρ] at h65; clear hρ; simp [execOp, go_sem, kc, kf, h65]) (begin_tc (⟨inst, na, na, x⟩ : Rc) 0 W) ?_
      rintro e W2 ⟨rfl, k2⟩
      exact ⟨_, rfl, _, rfl, (fun h => by cases h), rfl, k2, (fun h => absurd h (by decide))⟩
    · intro ho a W hW hd hx
      have h16 : a.eval (.tmp 16) = .pointer (some ⟨(w.heap.size + 1), 0, none⟩) := (hx 16 (dst_not (by kernel_rfl))).trans rfl
      exact op_value ho (want_none rfl) (v := .agg (rc (⟨inst, nb, 0, ⟨#[]⟩⟩ : Rc))) (by intro ρ hρ kc kf; rw [← hρ] at h16; exact run_load_B h16 (K16b.out.below hW K16b.out.lt)) ⟨_, rfl, (fun h => by cases h), rfl, Below.refl _ _, (fun h => absurd h (by decide))⟩
    · intro ho a W hW hd hx
      have h67 : a.eval (.tmp 67) = .agg (rc (⟨inst, nb, 0, ⟨#[]⟩⟩ : Rc)) := hd 2 (by kernel_rfl)
      exact op_value ho (want_none rfl) (v := .slice (some ⟨W.heap.size, 0, none⟩) 1 1) (w' := W.alloc (.cells (rc (⟨inst, nb, 0, ⟨#[]⟩⟩ : Rc)) 23)) (by intro ρ hρ kc kf; rw [← hρ] at h67; clear hρ; simp [execOp, go_sem, h67, rc]) ⟨_, rfl, (fun h => by cases h), ⟨_, rfl, Blk.new W 23 _⟩, (Below.refl _ _).alloc (Nat.le_refl _) _, (fun h => absurd h (by decide))⟩
    · intro ho a W hW hd hx
      have h66 : a.eval (.tmp 66) = .agg (tc (begun (⟨inst, na, na, x⟩ : Rc) 0)) := hd 1 (by kernel_rfl)
      obtain ⟨g68, h68, r68⟩ : ∃ g, a.eval (.tmp 68) = .slice (some ⟨g, 0, none⟩) 1 1 ∧ Blk W g 23 (rc (⟨inst, nb, 0, ⟨#[]⟩⟩ : Rc)) := (hd 3 (by kernel_rfl))
      refine op_call ho (want_none rfl) (by intro ρ hρ kc kf; rw [← hρ] at h66 h68; clear hρ; simp [execOp, go_sem, kf, h66, h68]) (CU.out g68 W r68) ?_
      rintro e W2 ⟨rfl, k2⟩
      exact ⟨_, rfl, _, rfl, (fun h => by cases h), rfl, k2, (fun h => absurd h (by decide))⟩
    · intro ho a W hW hd hx
      exact op_value ho (want_none rfl) (v := ptr W.heap.size) (w' := W.alloc (.cells (tc zT) 30)) (by intro ρ hρ kc kf; clear hρ; simp [execOp, go_sem, ptr, tc, zT]) ⟨_, rfl, (fun h => by cases h), ⟨rfl, hW.size, Blk.new W 30 _⟩, (Below.refl _ _).alloc (Nat.le_refl _) _, (fun _ => ⟨_, rfl, Nat.le_refl _⟩)⟩
  intro vb W hW hv _
  have hx : vb 5 = ptr (gOf (vb 5)) ∧ w2.heap.size ≤ gOf (vb 5) ∧ Blk W (gOf (vb 5)) 30 (tc zT) := hv 5 (by decide)
  have hg := hx.1; have hl := hx.2.1; have hb := hx.2.2
  have h4 : vb 4 = .agg (tc (⟨inst, na, na, x, na, false, false⟩ : Ty)) := hv 4 (by decide)
  simp only [List.take_succ_cons, List.take_zero, List.drop_succ_cons, List.drop_zero, fillL, wpTail, Act.put, List.setIfInBounds_toArray, List.set_cons_zero, List.set_cons_succ, Nat.reduceAdd]
  rw [hg, h4]
  refine tail_store_T (t := (⟨inst, na, na, x, na, false, false⟩ : Ty)) rfl rfl hb rfl ?_
  intro w3 kb hgr
  have kw : Below w2.heap.size w2 w3 := hW.grown hgr hW.size (fun j hj => by injection hj with e; omega)
  have K15c := Lib.hid (K15b.out.below kw K15b.out.lt); have K16c := Lib.hid (K16b.out.below kw K16b.out.lt); have K17b := Lib.hid (K17.out.below kw K17.out.lt); have K18 := Lib.hid kb; have KW3 := Lib.hid (KW2.out.trans (kw.mono KW2.out.size)); have HD : Hid (gOf (va 5) ≠ gOf (vb 5)) := Lib.hid (by have := K17.out.lt; omega); have H18 : Hid (w.heap.size + 2 ≤ gOf (vb 5)) := Lib.hid (by have := K17.out.lt; have := H17.out; omega)
  clear hW hv hx hg hl h4 hb hgr kb kw
  go_upto_region 11 with fail
  refine wp_region_grows 13 ((fun q_ _ _ => q_ = .agg (tc (⟨inst, nb, na, x, na, false, true⟩ : Ty))) :: (fun q_ _ _ => q_ = .bool true) :: (fun q_ _ _ => q_ = .agg (tc (⟨inst, na, na, x, na, false, false⟩ : Ty))) :: (fun q_ _ _ => q_ = .bool false) :: (fun q_ _ _ => q_ = .bool false) :: (fun q_ _ _ => q_ = .bool false) :: (fun q_ _ _ => q_ = .agg (tc (⟨inst, nb, na, x, na, false, true⟩ : Ty))) :: (fun q_ _ _ => q_ = .bool true) :: (fun q_ _ _ => q_ = .int .i64 na) :: (fun q_ _ _ => q_ = .int .i64 nb) :: (fun q_ _ _ => q_ = .bool true) :: (fun q_ _ _ => q_ = .bool false) :: (fun q_ _ _ => q_ = .bool false) :: []) (fun _ => false) (w3.heap.size) w3 (by kernel_rfl) (by kernel_rfl) (by kernel_rfl) (Below.refl _ _) (Nat.le_refl _) ?dStab (fun _ h => by cases h) ?dOps ?dFin
  case dStab => exact ⟨st_is _, st_is _, st_is _, st_is _, st_is _, st_is _, st_is _, st_is _, st_is _, st_is _, st_is _, st_is _, st_is _, trivial⟩
  case dOps =>
    intro Q
    refine ⟨?_, ?_, ?_, ?_, ?_, ?_, ?_, ?_, ?_, ?_, ?_, ?_, ?_, trivial⟩
    · intro ho a W hW hd hx
      have h17 : a.eval (.tmp 17) = .pointer (some ⟨(gOf (va 5)), 0, none⟩) := (hx 17 (dst_not (by kernel_rfl))).trans rfl
      exact op_value ho (want_none rfl) (v := .agg (tc (⟨inst, nb, na, x, na, false, true⟩ : Ty))) (by intro ρ hρ kc kf; rw [← hρ] at h17; exact run_load_T h17 (K17b.out.below hW K17b.out.lt)) ⟨_, rfl, (fun h => by cases h), rfl, Below.refl _ _, (fun h => absurd h (by decide))⟩
    · intro ho a W hW hd hx
      have h83 : a.eval (.tmp 83) = .agg (tc (⟨inst, nb, na, x, na, false, true⟩ : Ty)) := hd 0 (by kernel_rfl)
      refine op_call ho (want_none rfl) (by intro ρ hρ kc kf; rw [← hρ] at h83; clear hρ; simp [execOp, go_sem, kf, h83]) (stops_tc (⟨inst, nb, na, x, na, false, true⟩ : Ty) W) ?_
      rintro e W2 ⟨rfl, k2⟩
      exact ⟨_, rfl, _, rfl, (fun h => by cases h), rfl, k2, (fun h => absurd h (by decide))⟩
    · intro ho a W hW hd hx
      have h18 : a.eval (.tmp 18) = .pointer (some ⟨(gOf (vb 5)), 0, none⟩) := (hx 18 (dst_not (by kernel_rfl))).trans rfl
      exact op_value ho (want_none rfl) (v := .agg (tc (⟨inst, na, na, x, na, false, false⟩ : Ty))) (by intro ρ hρ kc kf; rw [← hρ] at h18; exact run_load_T h18 (K18.out.below hW K18.out.lt)) ⟨_, rfl, (fun h => by cases h), rfl, Below.refl _ _, (fun h => absurd h (by decide))⟩
    · intro ho a W hW hd hx
      have h85 : a.eval (.tmp 85) = .agg (tc (⟨inst, na, na, x, na, false, false⟩ : Ty)) := hd 2 (by kernel_rfl)
      refine op_call ho (want_none rfl) (by intro ρ hρ kc kf; rw [← hρ] at h85; clear hρ; simp [execOp, go_sem, kf, h85]) (stops_tc (⟨inst, na, na, x, na, false, false⟩ : Ty) W) ?_
      rintro e W2 ⟨rfl, k2⟩
      exact ⟨_, rfl, _, rfl, (fun h => by cases h), rfl, k2, (fun h => absurd h (by decide))⟩
    · intro ho a W hW hd hx
      have h84 : a.eval (.tmp 84) = .bool true := hd 1 (by kernel_rfl)
      have h86 : a.eval (.tmp 86) = .bool false := hd 3 (by kernel_rfl)
      exact op_value ho (want_none rfl) (v := .bool false) (by intro ρ hρ kc kf; rw [← hρ] at h84 h86; clear hρ; simp [execOp, go_sem, h84, h86]) ⟨_, rfl, (fun h => by cases h), rfl, Below.refl _ _, (fun h => absurd h (by decide))⟩
    · intro ho a W hW hd hx
      have h87 : a.eval (.tmp 87) = .bool false := hd 4 (by kernel_rfl)
      exact op_value ho (want_none rfl) (v := .bool false) (by intro ρ hρ kc kf; rw [← hρ] at h87; clear hρ; simp [execOp, go_sem, h87]) ⟨_, rfl, (fun h => by cases h), rfl, Below.refl _ _, (fun h => absurd h (by decide))⟩
    · intro ho a W hW hd hx
      have h88 : a.eval (.tmp 88) = .bool false := hd 5 (by kernel_rfl)
      have h17 : a.eval (.tmp 17) = .pointer (some ⟨(gOf (va 5)), 0, none⟩) := (hx 17 (dst_not (by kernel_rfl))).trans rfl
      exact op_value ho (want_yes rfl (show valAt _ a 5 = _ from h88)) (v := .agg (tc (⟨inst, nb, na, x, na, false, true⟩ : Ty))) (by intro ρ hρ kc kf; rw [← hρ] at h17; exact run_load_T h17 (K17b.out.below hW K17b.out.lt)) ⟨_, rfl, (fun h => by cases h), rfl, Below.refl _ _, (fun h => absurd h (by decide))⟩
    · intro ho a W hW hd hx
      have h88 : a.eval (.tmp 88) = .bool false := hd 5 (by kernel_rfl)
      have h89 : a.eval (.tmp 89) = .agg (tc (⟨inst, nb, na, x, na, false, true⟩ : Ty)) := hd 6 (by kernel_rfl)
      refine op_call ho (want_yes rfl (show valAt _ a 5 = _ from h88)) (by intro ρ hρ kc kf; rw [← hρ] at h89; clear hρ; simp [execOp, go_sem, kf, h89]) (stops_tc (⟨inst, nb, na, x, na, false, true⟩ : Ty) W) ?_
      rintro e W2 ⟨rfl, k2⟩
      exact ⟨_, rfl, _, rfl, (fun h => by cases h), rfl, k2, (fun h => absurd h (by decide))⟩
    · intro ho a W hW hd hx
      have h88 : a.eval (.tmp 88) = .bool false := hd 5 (by kernel_rfl)
      have h0 : a.eval (.tmp 0) = .int .i64 na := (hx 0 (dst_not (by kernel_rfl))).trans rfl
      exact op_value ho (want_yes rfl (show valAt _ a 5 = _ from h88)) (v := .int .i64 na) (by intro ρ hρ kc kf; rw [← hρ] at h0; clear hρ; simp [execOp, go_sem, h0]) ⟨_, rfl, (fun h => by cases h), rfl, Below.refl _ _, (fun h => absurd h (by decide))⟩
    · intro ho a W hW hd hx
      have h88 : a.eval (.tmp 88) = .bool false := hd 5 (by kernel_rfl)
      have h1 : a.eval (.tmp 1) = .int .i64 nb := (hx 1 (dst_not (by kernel_rfl))).trans rfl
      exact op_value ho (want_yes rfl (show valAt _ a 5 = _ from h88)) (v := .int .i64 nb) (by intro ρ hρ kc kf; rw [← hρ] at h1; clear hρ; simp [execOp, go_sem, h1]) ⟨_, rfl, (fun h => by cases h), rfl, Below.refl _ _, (fun h => absurd h (by decide))⟩
    · intro ho a W hW hd hx
      have h88 : a.eval (.tmp 88) = .bool false := hd 5 (by kernel_rfl)
      have h91 : a.eval (.tmp 91) = .int .i64 na := hd 8 (by kernel_rfl)
      have h92 : a.eval (.tmp 92) = .int .i64 nb := hd 9 (by kernel_rfl)
      exact op_value ho (want_yes rfl (show valAt _ a 5 = _ from h88)) (v := .bool true) (by intro ρ hρ kc kf; rw [← hρ] at h91 h92; clear hρ; simp [execOp, go_sem, h91, h92, HO.out]) ⟨_, rfl, (fun h => by cases h), rfl, Below.refl _ _, (fun h => absurd h (by decide))⟩
    · intro ho a W hW hd hx
      have h88 : a.eval (.tmp 88) = .bool false := hd 5 (by kernel_rfl)
      have h90 : a.eval (.tmp 90) = .bool true := hd 7 (by kernel_rfl)
      have h93 : a.eval (.tmp 93) = .bool true := hd 10 (by kernel_rfl)
      exact op_value ho (want_yes rfl (show valAt _ a 5 = _ from h88)) (v := .bool false) (by intro ρ hρ kc kf; rw [← hρ] at h90 h93; clear hρ; simp [execOp, go_sem, h90, h93]) ⟨_, rfl, (fun h => by cases h), rfl, Below.refl _ _, (fun h => absurd h (by decide))⟩
    · intro ho a W hW hd hx
      have h88 : a.eval (.tmp 88) = .bool false := hd 5 (by kernel_rfl)
      have h94 : a.eval (.tmp 94) = .bool false := hd 11 (by kernel_rfl)
      exact op_value ho (want_none rfl) (v := .bool false) (by intro ρ hρ kc kf; rw [← hρ] at h88 h94; clear hρ; simp [execOp, go_sem, h88, h94]) ⟨_, rfl, (fun h => by cases h), rfl, Below.refl _ _, (fun h => absurd h (by decide))⟩
  intro vd w5 hW hv _
  have h12 : vd 12 = .bool false := hv 12 (by decide)
  simp only [List.take_succ_cons, List.take_zero, List.drop_succ_cons, List.drop_zero, fillL, wpTail, Act.put, List.setIfInBounds_toArray, List.set_cons_zero, List.set_cons_succ, Nat.reduceAdd]
  rw [h12]
  have K17e := Lib.hid (K17b.out.below hW K17b.out.lt); have K18e := Lib.hid (K18.out.below hW K18.out.lt); have KW5 := Lib.hid (KW3.out.trans (hW.mono KW3.out.size))
  clear hW hv h12
  go_upto_region 13 with fail
  refine wp_region_grows 32 ((fun q_ _ _ => q_ = .agg (tc (⟨inst, nb, na, x, na, false, true⟩ : Ty))) :: (fun q_ _ _ => q_ = .string y) :: (fun q_ _ _ => q_ = .string x) :: (fun q_ _ _ => q_ = .string x) :: (fun q_ _ _ => q_ = .bool true) :: (fun q_ _ _ => q_ = .bool true) :: (fun q_ _ _ => q_ = .bool true) :: (fun q_ _ _ => q_ = undef) :: (fun q_ _ _ => q_ = undef) :: (fun q_ _ _ => q_ = undef) :: (fun q_ _ _ => q_ = .bool true) :: (fun q_ _ _ => q_ = .bool true) :: (fun q_ _ _ => q_ = .bool true) :: (fun q_ _ _ => q_ = .pointer (some ⟨(gOf (va 5)), 4, none⟩)) :: (fun q_ _ _ => q_ = .int .i64 na) :: (fun q_ _ _ => q_ = .int .i64 na) :: (fun q_ _ _ => q_ = .int .i64 nb) :: (fun q_ _ _ => q_ = .int .i64 na) :: (fun q_ _ _ => q_ = .bool true) :: (fun q_ _ _ => q_ = .bool true) :: (fun q_ _ _ => q_ = .bool true) :: (fun q_ _ _ => q_ = .pointer (some ⟨(gOf (vb 5)), 4, none⟩)) :: (fun q_ _ _ => q_ = .int .i64 na) :: (fun q_ _ _ => q_ = .int .i64 na) :: (fun q_ _ _ => q_ = .int .i64 nb) :: (fun q_ _ _ => q_ = .int .i64 na) :: (fun q_ _ _ => q_ = .bool true) :: (fun q_ _ _ => q_ = .bool true) :: (fun q_ _ _ => q_ = .bool true) :: (fun q_ _ _ => q_ = .bool true) :: (fun q_ _ _ => q_ = .bool true) :: (fun q_ _ _ => q_ = .bool true) :: []) (fun _ => false) (w5.heap.size) w5 (by kernel_rfl) (by kernel_rfl) (by kernel_rfl) (Below.refl _ _) (Nat.le_refl _) ?eStab (fun _ h => by cases h) ?eOps ?eFin
  case eStab => exact ⟨st_is _, st_is _, st_is _, st_is _, st_is _, st_is _, st_is _, st_is _, st_is _, st_is _, st_is _, st_is _, st_is _, st_is _, st_is _, st_is _, st_is _, st_is _, st_is _, st_is _, st_is _, st_is _, st_is _, st_is _, st_is _, st_is _, st_is _, st_is _, st_is _, st_is _, st_is _, st_is _, trivial⟩
  case eOps =>
    intro Q
    refine ⟨?_, ?_, ?_, ?_, ?_, ?_, ?_, ?_, ?_, ?_, ?_, ?_, ?_, ?_, ?_, ?_, ?_, ?_, ?_, ?_, ?_, ?_, ?_, ?_, ?_, ?_, ?_, ?_, ?_, ?_, ?_, ?_, trivial⟩
    · intro ho a W hW hd hx
      have h17 : a.eval (.tmp 17) = .pointer (some ⟨(gOf (va 5)), 0, none⟩) := (hx 17 (dst_not (by kernel_rfl))).trans rfl
      exact op_value ho (want_none rfl) (v := .agg (tc (⟨inst, nb, na, x, na, false, true⟩ : Ty))) (by intro ρ hρ kc kf; rw [← hρ] at h17; exact run_load_T h17 (K17e.out.below hW K17e.out.lt)) ⟨_, rfl, (fun h => by cases h), rfl, Below.refl _ _, (fun h => absurd h (by decide))⟩
    · intro ho a W hW hd hx
      have h3 : a.eval (.tmp 3) = .string y := (hx 3 (dst_not (by kernel_rfl))).trans rfl
      exact op_value ho (want_none rfl) (v := .string y) (by intro ρ hρ kc kf; rw [← hρ] at h3; clear hρ; simp [execOp, go_sem, h3]) ⟨_, rfl, (fun h => by cases h), rfl, Below.refl _ _, (fun h => absurd h (by decide))⟩
    · intro ho a W hW hd hx
      have h96 : a.eval (.tmp 96) = .agg (tc (⟨inst, nb, na, x, na, false, true⟩ : Ty)) := hd 0 (by kernel_rfl)
      have h97 : a.eval (.tmp 97) = .string y := hd 1 (by kernel_rfl)
      refine op_call ho (want_none rfl) (by intro ρ hρ kc kf; rw [← hρ] at h96 h97; clear hρ; simp [execOp, go_sem, kf, h96, h97]) (CV.out W) ?_
      rintro e W2 ⟨rfl, k2⟩
      exact ⟨_, rfl, _, rfl, (fun h => by cases h), rfl, k2, (fun h => absurd h (by decide))⟩
    · intro ho a W hW hd hx
      have h2 : a.eval (.tmp 2) = .string x := (hx 2 (dst_not (by kernel_rfl))).trans rfl
      exact op_value ho (want_none rfl) (v := .string x) (by intro ρ hρ kc kf; rw [← hρ] at h2; clear hρ; simp [execOp, go_sem, h2]) ⟨_, rfl, (fun h => by cases h), rfl, Below.refl _ _, (fun h => absurd h (by decide))⟩
    · intro ho a W hW hd hx
      have h98 : a.eval (.tmp 98) = .string x := hd 2 (by kernel_rfl)
      have h99 : a.eval (.tmp 99) = .string x := hd 3 (by kernel_rfl)
      exact op_value ho (want_none rfl) (v := .bool true) (by intro ρ hρ kc kf; rw [← hρ] at h98 h99; clear hρ; simp [execOp, go_sem, h98, h99]) ⟨_, rfl, (fun h => by cases h), rfl, Below.refl _ _, (fun h => absurd h (by decide))⟩
    · intro ho a W hW hd hx
      have h6 : a.eval (.tmp 6) = .bool true := (hx 6 (dst_not (by kernel_rfl))).trans rfl
      exact op_value ho (want_none rfl) (v := .bool true) (by intro ρ hρ kc kf; rw [← hρ] at h6; clear hρ; simp [execOp, go_sem, h6]) ⟨_, rfl, (fun h => by cases h), rfl, Below.refl _ _, (fun h => absurd h (by decide))⟩
    · intro ho a W hW hd hx
      have h101 : a.eval (.tmp 101) = .bool true := hd 5 (by kernel_rfl)
      exact op_value ho (want_none rfl) (v := .bool true) (by intro ρ hρ kc kf; rw [← hρ] at h101; clear hρ; simp [execOp, go_sem, h101]) ⟨_, rfl, (fun h => by cases h), rfl, Below.refl _ _, (fun h => absurd h (by decide))⟩
    · intro ho a W hW hd hx
      have h102 : a.eval (.tmp 102) = .bool true := hd 6 (by kernel_rfl)
      have h2 : a.eval (.tmp 2) = .string x := (hx 2 (dst_not (by kernel_rfl))).trans rfl
      exact op_none ho (want_no (c := true) rfl (show valAt _ a 6 = _ from h102) (by decide)) ⟨_, rfl, (fun h => by cases h), rfl, Below.refl _ _, (fun h => absurd h (by decide))⟩
    · intro ho a W hW hd hx
      have h102 : a.eval (.tmp 102) = .bool true := hd 6 (by kernel_rfl)
      have h3 : a.eval (.tmp 3) = .string y := (hx 3 (dst_not (by kernel_rfl))).trans rfl
      exact op_none ho (want_no (c := true) rfl (show valAt _ a 6 = _ from h102) (by decide)) ⟨_, rfl, (fun h => by cases h), rfl, Below.refl _ _, (fun h => absurd h (by decide))⟩
    · intro ho a W hW hd hx
      have h102 : a.eval (.tmp 102) = .bool true := hd 6 (by kernel_rfl)
      have h103 : a.eval (.tmp 103) = undef := hd 7 (by kernel_rfl)
      have h104 : a.eval (.tmp 104) = undef := hd 8 (by kernel_rfl)
      exact op_none ho (want_no (c := true) rfl (show valAt _ a 6 = _ from h102) (by decide)) ⟨_, rfl, (fun h => by cases h), rfl, Below.refl _ _, (fun h => absurd h (by decide))⟩
    · intro ho a W hW hd hx
      have h102 : a.eval (.tmp 102) = .bool true := hd 6 (by kernel_rfl)
      have h105 : a.eval (.tmp 105) = undef := hd 9 (by kernel_rfl)
      exact op_value ho (want_none rfl) (v := .bool true) (by intro ρ hρ kc kf; rw [← hρ] at h102; clear hρ; simp [execOp, go_sem, kc, h102]) ⟨_, rfl, (fun h => by cases h), rfl, Below.refl _ _, (fun h => absurd h (by decide))⟩
    · intro ho a W hW hd hx
      have h100 : a.eval (.tmp 100) = .bool true := hd 4 (by kernel_rfl)
      have h106 : a.eval (.tmp 106) = .bool true := hd 10 (by kernel_rfl)
      exact op_value ho (want_none rfl) (v := .bool true) (by intro ρ hρ kc kf; rw [← hρ] at h100 h106; clear hρ; simp [execOp, go_sem, h100, h106]) ⟨_, rfl, (fun h => by cases h), rfl, Below.refl _ _, (fun h => absurd h (by decide))⟩
    · intro ho a W hW hd hx
      have h107 : a.eval (.tmp 107) = .bool true := hd 11 (by kernel_rfl)
      exact op_value ho (want_none rfl) (v := .bool true) (by intro ρ hρ kc kf; rw [← hρ] at h107; clear hρ; simp [execOp, go_sem, h107]) ⟨_, rfl, (fun h => by cases h), rfl, Below.refl _ _, (fun h => absurd h (by decide))⟩
    · intro ho a W hW hd hx
      have h108 : a.eval (.tmp 108) = .bool true := hd 12 (by kernel_rfl)
      have h17 : a.eval (.tmp 17) = .pointer (some ⟨(gOf (va 5)), 0, none⟩) := (hx 17 (dst_not (by kernel_rfl))).trans rfl
      exact op_value ho (want_yes rfl (show valAt _ a 12 = _ from h108)) (v := .pointer (some ⟨(gOf (va 5)), 4, none⟩)) (by intro ρ hρ kc kf; rw [← hρ] at h17; clear hρ; simp [execOp, go_sem, h17]) ⟨_, rfl, (fun h => by cases h), rfl, Below.refl _ _, (fun h => absurd h (by decide))⟩
    · intro ho a W hW hd hx
      have h108 : a.eval (.tmp 108) = .bool true := hd 12 (by kernel_rfl)
      have h109 : a.eval (.tmp 109) = .pointer (some ⟨(gOf (va 5)), 4, none⟩) := hd 13 (by kernel_rfl)
      have hcell : W.cell? ⟨(gOf (va 5)), 4, none⟩ = some (.int .i64 na) := by rw [(K17e.out.below hW K17e.out.lt).cell 4]; rfl
      exact op_value ho (want_yes rfl (show valAt _ a 12 = _ from h108)) (v := .int .i64 na) (by intro ρ hρ kc kf; rw [← hρ] at h109; clear hρ; simp [execOp, go_sem, h109, hcell]) ⟨_, rfl, (fun h => by cases h), rfl, Below.refl _ _, (fun h => absurd h (by decide))⟩
    · intro ho a W hW hd hx
      have h108 : a.eval (.tmp 108) = .bool true := hd 12 (by kernel_rfl)
      have h0 : a.eval (.tmp 0) = .int .i64 na := (hx 0 (dst_not (by kernel_rfl))).trans rfl
      exact op_value ho (want_yes rfl (show valAt _ a 12 = _ from h108)) (v := .int .i64 na) (by intro ρ hρ kc kf; rw [← hρ] at h0; clear hρ; simp [execOp, go_sem, h0]) ⟨_, rfl, (fun h => by cases h), rfl, Below.refl _ _, (fun h => absurd h (by decide))⟩
    · intro ho a W hW hd hx
      have h108 : a.eval (.tmp 108) = .bool true := hd 12 (by kernel_rfl)
      have h1 : a.eval (.tmp 1) = .int .i64 nb := (hx 1 (dst_not (by kernel_rfl))).trans rfl
      exact op_value ho (want_yes rfl (show valAt _ a 12 = _ from h108)) (v := .int .i64 nb) (by intro ρ hρ kc kf; rw [← hρ] at h1; clear hρ; simp [execOp, go_sem, h1]) ⟨_, rfl, (fun h => by cases h), rfl, Below.refl _ _, (fun h => absurd h (by decide))⟩
    · intro ho a W hW hd hx
      have h108 : a.eval (.tmp 108) = .bool true := hd 12 (by kernel_rfl)
      have h111 : a.eval (.tmp 111) = .int .i64 na := hd 15 (by kernel_rfl)
      have h112 : a.eval (.tmp 112) = .int .i64 nb := hd 16 (by kernel_rfl)
      exact op_value ho (want_yes rfl (show valAt _ a 12 = _ from h108)) (v := .int .i64 na) (by intro ρ hρ kc kf; rw [← hρ] at h111 h112; exact (run_max h111 h112).trans (by rw [HMX.out])) ⟨_, rfl, (fun h => by cases h), rfl, Below.refl _ _, (fun h => absurd h (by decide))⟩
    · intro ho a W hW hd hx
      have h108 : a.eval (.tmp 108) = .bool true := hd 12 (by kernel_rfl)
      have h110 : a.eval (.tmp 110) = .int .i64 na := hd 14 (by kernel_rfl)
      have h113 : a.eval (.tmp 113) = .int .i64 na := hd 17 (by kernel_rfl)
      exact op_value ho (want_yes rfl (show valAt _ a 12 = _ from h108)) (v := .bool true) (by intro ρ hρ kc kf; rw [← hρ] at h110 h113; clear hρ; simp [execOp, go_sem, h110, h113]) ⟨_, rfl, (fun h => by cases h), rfl, Below.refl _ _, (fun h => absurd h (by decide))⟩
    · intro ho a W hW hd hx
      have h108 : a.eval (.tmp 108) = .bool true := hd 12 (by kernel_rfl)
      have h114 : a.eval (.tmp 114) = .bool true := hd 18 (by kernel_rfl)
      exact op_value ho (want_none rfl) (v := .bool true) (by intro ρ hρ kc kf; rw [← hρ] at h108 h114; clear hρ; simp [execOp, go_sem, h108, h114]) ⟨_, rfl, (fun h => by cases h), rfl, Below.refl _ _, (fun h => absurd h (by decide))⟩
    · intro ho a W hW hd hx
      have h115 : a.eval (.tmp 115) = .bool true := hd 19 (by kernel_rfl)
      exact op_value ho (want_none rfl) (v := .bool true) (by intro ρ hρ kc kf; rw [← hρ] at h115; clear hρ; simp [execOp, go_sem, h115]) ⟨_, rfl, (fun h => by cases h), rfl, Below.refl _ _, (fun h => absurd h (by decide))⟩
    · intro ho a W hW hd hx
      have h116 : a.eval (.tmp 116) = .bool true := hd 20 (by kernel_rfl)
      have h18 : a.eval (.tmp 18) = .pointer (some ⟨(gOf (vb 5)), 0, none⟩) := (hx 18 (dst_not (by kernel_rfl))).trans rfl
      exact op_value ho (want_yes rfl (show valAt _ a 20 = _ from h116)) (v := .pointer (some ⟨(gOf (vb 5)), 4, none⟩)) (by intro ρ hρ kc kf; rw [← hρ] at h18; clear hρ; simp [execOp, go_sem, h18]) ⟨_, rfl, (fun h => by cases h), rfl, Below.refl _ _, (fun h => absurd h (by decide))⟩
    · intro ho a W hW hd hx
      have h116 : a.eval (.tmp 116) = .bool true := hd 20 (by kernel_rfl)
      have h117 : a.eval (.tmp 117) = .pointer (some ⟨(gOf (vb 5)), 4, none⟩) := hd 21 (by kernel_rfl)
      have hcell : W.cell? ⟨(gOf (vb 5)), 4, none⟩ = some (.int .i64 na) := by rw [(K18e.out.below hW K18e.out.lt).cell 4]; rfl
      exact op_value ho (want_yes rfl (show valAt _ a 20 = _ from h116)) (v := .int .i64 na) (by intro ρ hρ kc kf; rw [← hρ] at h117; clear hρ; simp [execOp, go_sem, h117, hcell]) ⟨_, rfl, (fun h => by cases h), rfl, Below.refl _ _, (fun h => absurd h (by decide))⟩
    · intro ho a W hW hd hx
      have h116 : a.eval (.tmp 116) = .bool true := hd 20 (by kernel_rfl)
      have h0 : a.eval (.tmp 0) = .int .i64 na := (hx 0 (dst_not (by kernel_rfl))).trans rfl
      exact op_value ho (want_yes rfl (show valAt _ a 20 = _ from h116)) (v := .int .i64 na) (by intro ρ hρ kc kf; rw [← hρ] at h0; clear hρ; simp [execOp, go_sem, h0]) ⟨_, rfl, (fun h => by cases h), rfl, Below.refl _ _, (fun h => absurd h (by decide))⟩
    · intro ho a W hW hd hx
      have h116 : a.eval (.tmp 116) = .bool true := hd 20 (by kernel_rfl)
      have h1 : a.eval (.tmp 1) = .int .i64 nb := (hx 1 (dst_not (by kernel_rfl))).trans rfl
      exact op_value ho (want_yes rfl (show valAt _ a 20 = _ from h116)) (v := .int .i64 nb) (by intro ρ hρ kc kf; rw [← hρ] at h1; clear hρ; simp [execOp, go_sem, h1]) ⟨_, rfl, (fun h => by cases h), rfl, Below.refl _ _, (fun h => absurd h (by decide))⟩
    · intro ho a W hW hd hx
      have h116 : a.eval (.tmp 116) = .bool true := hd 20 (by kernel_rfl)
      have h119 : a.eval (.tmp 119) = .int .i64 na := hd 23 (by kernel_rfl)
      have h120 : a.eval (.tmp 120) = .int .i64 nb := hd 24 (by kernel_rfl)
      exact op_value ho (want_yes rfl (show valAt _ a 20 = _ from h116)) (v := .int .i64 na) (by intro ρ hρ kc kf; rw [← hρ] at h119 h120; exact (run_max h119 h120).trans (by rw [HMX.out])) ⟨_, rfl, (fun h => by cases h), rfl, Below.refl _ _, (fun h => absurd h (by decide))⟩
    · intro ho a W hW hd hx
      have h116 : a.eval (.tmp 116) = .bool true := hd 20 (by kernel_rfl)
      have h118 : a.eval (.tmp 118) = .int .i64 na := hd 22 (by kernel_rfl)
      have h121 : a.eval (.tmp 121) = .int .i64 na := hd 25 (by kernel_rfl)
      exact op_value ho (want_yes rfl (show valAt _ a 20 = _ from h116)) (v := .bool true) (by intro ρ hρ kc kf; rw [← hρ] at h118 h121; clear hρ; simp [execOp, go_sem, h118, h121]) ⟨_, rfl, (fun h => by cases h), rfl, Below.refl _ _, (fun h => absurd h (by decide))⟩
    · intro ho a W hW hd hx
      have h116 : a.eval (.tmp 116) = .bool true := hd 20 (by kernel_rfl)
      have h122 : a.eval (.tmp 122) = .bool true := hd 26 (by kernel_rfl)
      exact op_value ho (want_none rfl) (v := .bool true) (by intro ρ hρ kc kf; rw [← hρ] at h116 h122; clear hρ; simp [execOp, go_sem, h116, h122]) ⟨_, rfl, (fun h => by cases h), rfl, Below.refl _ _, (fun h => absurd h (by decide))⟩
    · intro ho a W hW hd hx
      have h123 : a.eval (.tmp 123) = .bool true := hd 27 (by kernel_rfl)
      exact op_value ho (want_none rfl) (v := .bool true) (by intro ρ hρ kc kf; rw [← hρ] at h123; clear hρ; simp [execOp, go_sem, h123]) ⟨_, rfl, (fun h => by cases h), rfl, Below.refl _ _, (fun h => absurd h (by decide))⟩
    · intro ho a W hW hd hx
      have h124 : a.eval (.tmp 124) = .bool true := hd 28 (by kernel_rfl)
      refine op_call ho (want_yes rfl (show valAt _ a 28 = _ from h124)) (by intro ρ hρ kc kf; clear hρ; simp [execOp, go_sem, kf]) (wakes_any W) ?_
      rintro e W2 ⟨rfl, k2⟩
      exact ⟨_, rfl, _, rfl, (fun h => by cases h), rfl, k2, (fun h => absurd h (by decide))⟩
    · intro ho a W hW hd hx
      have h124 : a.eval (.tmp 124) = .bool true := hd 28 (by kernel_rfl)
      have h125 : a.eval (.tmp 125) = .bool true := hd 29 (by kernel_rfl)
      exact op_value ho (want_none rfl) (v := .bool true) (by intro ρ hρ kc kf; rw [← hρ] at h124 h125; clear hρ; simp [execOp, go_sem, h124, h125]) ⟨_, rfl, (fun h => by cases h), rfl, Below.refl _ _, (fun h => absurd h (by decide))⟩
    · intro ho a W hW hd hx
      have h126 : a.eval (.tmp 126) = .bool true := hd 30 (by kernel_rfl)
      exact op_value ho (want_none rfl) (v := .bool true) (by intro ρ hρ kc kf; rw [← hρ] at h126; clear hρ; simp [execOp, go_sem, h126]) ⟨_, rfl, (fun h => by cases h), rfl, Below.refl _ _, (fun h => absurd h (by decide))⟩
  intro ve W hW hv _
  have hlast : ve 31 = .bool true := hv 31 (by decide)
  simp only [List.take_succ_cons, List.take_zero, List.drop_succ_cons, List.drop_zero, fillL, wpTail, Act.put, List.setIfInBounds_toArray, List.set_cons_zero, List.set_cons_succ, Nat.reduceAdd]
  rw [hlast]
  go_wp2
  go_ret
  exact ⟨rfl, KW5.out.trans (hW.mono KW5.out.size)⟩

set_option maxRecDepth 100000 in
set_option maxHeartbeats 4000000 in
theorem one_tfl (na nb : Int) (x y : ByteArray) (inst : Int) (w : World) (ha : ¬ na < 1) (hb : ¬ nb < 1) (hlt : na < nb) (hx : x.size ≤ 100) (hy : y.size ≤ 100) :
    Calls Try.prog 5 #[.int .i64 na, .int .i64 nb, .string x, .string y, .int .i64 inst, .bool true, .bool true] w fun e w' => e = .returned (.bool true) ∧ Below w.heap.size w w' := by
  have hab : ¬ na = nb := by omega
  have hx' : ¬ (100 : Int) < (x.size : Int) := by omega
  have hy' : ¬ (100 : Int) < (y.size : Int) := by omega
  have hord : ¬ nb < na := by omega
  have hord2 : na < nb := by omega
  have eT : ∀ s, (s = 0 ∨ s = na) → oneT (begun (⟨inst, nb, 0, ⟨#[]⟩⟩ : Rc) s) (⟨inst, na, na, x⟩ : Rc) = (⟨inst, nb, na, x, nb, false, false⟩ : Ty) := by
    intro s hs
    rcases hs with rfl | rfl <;> simp [oneT, begun, hereT, mx] <;> omega
  have eU : ∀ s, (s = 0 ∨ s = nb) → oneT (begun (⟨inst, na, na, x⟩ : Rc) s) (⟨inst, nb, 0, ⟨#[]⟩⟩ : Rc) = (⟨inst, na, na, x, nb, false, true⟩ : Ty) := by
    intro s hs
    rcases hs with rfl | rfl <;> simp [oneT, begun, hereT, mx] <;> omega
  have cT := fun g W (h : Blk W g 23 (rc (⟨inst, na, na, x⟩ : Rc))) => count_blk (begun (⟨inst, nb, 0, ⟨#[]⟩⟩ : Rc) 0) g (⟨inst, na, na, x⟩ : Rc) W h
  have cU := fun g W (h : Blk W g 23 (rc (⟨inst, nb, 0, ⟨#[]⟩⟩ : Rc))) => count_blk (begun (⟨inst, na, na, x⟩ : Rc) 0) g (⟨inst, nb, 0, ⟨#[]⟩⟩ : Rc) W h
  have cT2 := fun g W (h : Blk W g 23 (rc (⟨inst, na, na, x⟩ : Rc))) => count_blk (begun (⟨inst, nb, 0, ⟨#[]⟩⟩ : Rc) na) g (⟨inst, na, na, x⟩ : Rc) W h
  have cU2 := fun g W (h : Blk W g 23 (rc (⟨inst, nb, 0, ⟨#[]⟩⟩ : Rc))) => count_blk (begun (⟨inst, na, na, x⟩ : Rc) nb) g (⟨inst, nb, 0, ⟨#[]⟩⟩ : Rc) W h
  rw [eT 0 (.inl rfl)] at cT; rw [eT na (.inr rfl)] at cT2; rw [eU 0 (.inl rfl)] at cU; rw [eU nb (.inr rfl)] at cU2
  have hV : valueT (⟨inst, nb, na, x, nb, false, false⟩ : Ty) y = x := by exact if_pos (by show 0 < na; omega)
  have cV := fun W => value_tc (⟨inst, nb, na, x, nb, false, false⟩ : Ty) y W
  rw [hV] at cV
  have CT := Lib.hid cT; have CU := Lib.hid cU; have CT2 := Lib.hid cT2; have CU2 := Lib.hid cU2; have CV := Lib.hid cV
  have K15a : Hid (Blk ((w.alloc (Obj.cells #[Value.int IntKind.i64 inst, Value.int IntKind.i64 na, Value.int IntKind.i64 na, Value.string x] 23)).alloc (Obj.cells #[Value.int IntKind.i64 inst, Value.int IntKind.i64 nb, Value.int IntKind.i64 0, Value.string { data := #[] }] 23)) w.heap.size 23 (rc (⟨inst, na, na, x⟩ : Rc))) := Lib.hid ((Blk.new w 23 _).alloc _)
  have k16 := Blk.new (w.alloc (Obj.cells #[Value.int IntKind.i64 inst, Value.int IntKind.i64 na, Value.int IntKind.i64 na, Value.string x] 23)) 23 (rc (⟨inst, nb, 0, ⟨#[]⟩⟩ : Rc))
  have K16a : Hid (Blk ((w.alloc (Obj.cells #[Value.int IntKind.i64 inst, Value.int IntKind.i64 na, Value.int IntKind.i64 na, Value.string x] 23)).alloc (Obj.cells #[Value.int IntKind.i64 inst, Value.int IntKind.i64 nb, Value.int IntKind.i64 0, Value.string { data := #[] }] 23)) (w.heap.size + 1) 23 (rc (⟨inst, nb, 0, ⟨#[]⟩⟩ : Rc))) := Lib.hid (by simpa [rc] using k16)
  have KW0 : Hid (Below w.heap.size w ((w.alloc (Obj.cells #[Value.int IntKind.i64 inst, Value.int IntKind.i64 na, Value.int IntKind.i64 na, Value.string x] 23)).alloc (Obj.cells #[Value.int IntKind.i64 inst, Value.int IntKind.i64 nb, Value.int IntKind.i64 0, Value.string { data := #[] }] 23))) := Lib.hid (((Below.refl _ _).alloc (Nat.le_refl _) _).alloc (by simp) _)
  have HZ0 : Hid ((((w.alloc (Obj.cells #[Value.int IntKind.i64 inst, Value.int IntKind.i64 na, Value.int IntKind.i64 na, Value.string x] 23)).alloc (Obj.cells #[Value.int IntKind.i64 inst, Value.int IntKind.i64 nb, Value.int IntKind.i64 0, Value.string { data := #[] }] 23))).heap.size = w.heap.size + 2) := Lib.hid (by simp)
  have HWK := Lib.hid (wakes_any w)
  clear cT cU cT2 cU2 cV hV eT eU k16
  have HO := Lib.hid hord; have HMX : Hid (mx na nb = nb) := Lib.hid (if_pos hord2); have HL := Lib.hid hlt
  clear hord hord2 hlt
  go_enter Try.func5, Try.ntmps5
  go_wp2_with fail
  any_goals (go_at_call 9; refine HWK.out.mono ?_; rintro e w1 ⟨rfl, hb1⟩; go_wp2; go_ret; exact ⟨rfl, hb1⟩)
  obtain ⟨w1, hw1⟩ : ∃ w1, w1 = ((w.alloc (Obj.cells #[Value.int IntKind.i64 inst, Value.int IntKind.i64 na, Value.int IntKind.i64 na, Value.string x] 23)).alloc (Obj.cells #[Value.int IntKind.i64 inst, Value.int IntKind.i64 nb, Value.int IntKind.i64 0, Value.string { data := #[] }] 23)) := ⟨_, rfl⟩
  have K15 := K15a; have K16 := K16a; have KW1 := KW0; have HZ := HZ0
  rw [← hw1] at K15 K16 KW1 HZ ⊢
  clear K15a K16a KW0 HZ0 hw1
  refine wp_region_grows 6 ((fun q_ _ _ => q_ = .agg (rc (⟨inst, nb, 0, ⟨#[]⟩⟩ : Rc))) :: (fun q_ _ _ => q_ = .agg (tc (begun (⟨inst, nb, 0, ⟨#[]⟩⟩ : Rc) 0))) :: (fun q_ _ _ => q_ = .agg (rc (⟨inst, na, na, x⟩ : Rc))) :: (fun q_ _ W => ∃ g, q_ = .slice (some ⟨g, 0, none⟩) 1 1 ∧ Blk W g 23 (rc (⟨inst, na, na, x⟩ : Rc))) :: (fun q_ _ _ => q_ = .agg (tc (⟨inst, nb, na, x, nb, false, false⟩ : Ty))) :: (fun q_ _ W => q_ = ptr (gOf q_) ∧ w1.heap.size ≤ gOf q_ ∧ Blk W (gOf q_) 30 (tc zT)) :: []) ((fun i => i == 5)) (w1.heap.size) w1 (by kernel_rfl) (by kernel_rfl) (by kernel_rfl) (Below.refl _ _) (Nat.le_refl _) ?aStab (fun i hi x W hx => by obtain rfl := eq_of_beq hi; exact ⟨_, hx.1, hx.2.2.lt⟩) ?aOps ?aFin
  case aStab => exact ⟨st_is _, st_is _, st_is _, st_slice _ _, st_is _, st_alloc _ _ _, trivial⟩
  case aOps =>
    intro Q
    refine ⟨?_, ?_, ?_, ?_, ?_, ?_, trivial⟩
    · intro ho a W hW hd hx
      have h16 : a.eval (.tmp 16) = .pointer (some ⟨(w.heap.size + 1), 0, none⟩) := (hx 16 (dst_not (by kernel_rfl))).trans rfl
      exact op_value ho (want_none rfl) (v := .agg (rc (⟨inst, nb, 0, ⟨#[]⟩⟩ : Rc))) (by intro ρ hρ kc kf; rw [← hρ] at h16; exact run_load_B h16 (K16.out.below hW K16.out.lt)) ⟨_, rfl, (fun h => by cases h), rfl, Below.refl _ _, (fun h => absurd h (by decide))⟩
    · intro ho a W hW hd hx
      have h60 : a.eval (.tmp 60) = .agg (rc (⟨inst, nb, 0, ⟨#[]⟩⟩ : Rc)) := hd 0 (by kernel_rfl)
      refine op_call ho (want_none rfl) (by intro ρ hρ kc kf; rw [← hρ] at h60; clear hρ; simp [execOp, go_sem, kc, kf, h60]) (begin_tc (⟨inst, nb, 0, ⟨#[]⟩⟩ : Rc) 0 W) ?_
      rintro e W2 ⟨rfl, k2⟩
      exact ⟨_, rfl, _, rfl, (fun h => by cases h), rfl, k2, (fun h => absurd h (by decide))⟩
    · intro ho a W hW hd hx
      have h15 : a.eval (.tmp 15) = .pointer (some ⟨w.heap.size, 0, none⟩) := (hx 15 (dst_not (by kernel_rfl))).trans rfl
      exact op_value ho (want_none rfl) (v := .agg (rc (⟨inst, na, na, x⟩ : Rc))) (by intro ρ hρ kc kf; rw [← hρ] at h15; exact run_load_B h15 (K15.out.below hW K15.out.lt)) ⟨_, rfl, (fun h => by cases h), rfl, Below.refl _ _, (fun h => absurd h (by decide))⟩
    · intro ho a W hW hd hx
      have h62 : a.eval (.tmp 62) = .agg (rc (⟨inst, na, na, x⟩ : Rc)) := hd 2 (by kernel_rfl)
      exact op_value ho (want_none rfl) (v := .slice (some ⟨W.heap.size, 0, none⟩) 1 1) (w' := W.alloc (.cells (rc (⟨inst, na, na, x⟩ : Rc)) 23)) (by intro ρ hρ kc kf; rw [← hρ] at h62; clear hρ; simp [execOp, go_sem, h62, rc]) ⟨_, rfl, (fun h => by cases h), ⟨_, rfl, Blk.new W 23 _⟩, (Below.refl _ _).alloc (Nat.le_refl _) _, (fun h => absurd h (by decide))⟩
    · intro ho a W hW hd hx
      have h61 : a.eval (.tmp 61) = .agg (tc (begun (⟨inst, nb, 0, ⟨#[]⟩⟩ : Rc) 0)) := hd 1 (by kernel_rfl)
      obtain ⟨g63, h63, r63⟩ : ∃ g, a.eval (.tmp 63) = .slice (some ⟨g, 0, none⟩) 1 1 ∧ Blk W g 23 (rc (⟨inst, na, na, x⟩ : Rc)) := (hd 3 (by kernel_rfl))
      refine op_call ho (want_none rfl) (by intro ρ hρ kc kf; rw [← hρ] at h61 h63; clear hρ; simp [execOp, go_sem, kf, h61, h63]) (CT.out g63 W r63) ?_
      rintro e W2 ⟨rfl, k2⟩
      exact ⟨_, rfl, _, rfl, (fun h => by cases h), rfl, k2, (fun h => absurd h (by decide))⟩
    · intro ho a W hW hd hx
      exact op_value ho (want_none rfl) (v := ptr W.heap.size) (w' := W.alloc (.cells (tc zT) 30)) (by intro ρ hρ kc kf; clear hρ; simp [execOp, go_sem, ptr, tc, zT]) ⟨_, rfl, (fun h => by cases h), ⟨rfl, hW.size, Blk.new W 30 _⟩, (Below.refl _ _).alloc (Nat.le_refl _) _, (fun _ => ⟨_, rfl, Nat.le_refl _⟩)⟩
  intro va W hW hv _
  have hx : va 5 = ptr (gOf (va 5)) ∧ w1.heap.size ≤ gOf (va 5) ∧ Blk W (gOf (va 5)) 30 (tc zT) := hv 5 (by decide)
  have hg := hx.1; have hl := hx.2.1; have hb := hx.2.2
  have h4 : va 4 = .agg (tc (⟨inst, nb, na, x, nb, false, false⟩ : Ty)) := hv 4 (by decide)
  simp only [List.take_succ_cons, List.take_zero, List.drop_succ_cons, List.drop_zero, fillL, wpTail, Act.put, List.setIfInBounds_toArray, List.set_cons_zero, List.set_cons_succ, Nat.reduceAdd]
  rw [hg, h4]
  refine tail_store_T (t := (⟨inst, nb, na, x, nb, false, false⟩ : Ty)) rfl rfl hb rfl ?_
  intro w2 kb hgr
  have kw : Below w1.heap.size w1 w2 := hW.grown hgr hW.size (fun j hj => by injection hj with e; omega)
  have K15b := Lib.hid (K15.out.below kw K15.out.lt); have K16b := Lib.hid (K16.out.below kw K16.out.lt); have K17 := Lib.hid kb; have KW2 := Lib.hid (KW1.out.trans (kw.mono KW1.out.size)); have H17 : Hid (w.heap.size + 2 ≤ gOf (va 5)) := Lib.hid (by have := HZ.out; omega)
  clear hW hv hx hg hl h4 hb hgr kb kw
  go_upto_region 8 with fail
  refine wp_region_grows 6 ((fun q_ _ _ => q_ = .agg (rc (⟨inst, na, na, x⟩ : Rc))) :: (fun q_ _ _ => q_ = .agg (tc (begun (⟨inst, na, na, x⟩ : Rc) 0))) :: (fun q_ _ _ => q_ = .agg (rc (⟨inst, nb, 0, ⟨#[]⟩⟩ : Rc))) :: (fun q_ _ W => ∃ g, q_ = .slice (some ⟨g, 0, none⟩) 1 1 ∧ Blk W g 23 (rc (⟨inst, nb, 0, ⟨#[]⟩⟩ : Rc))) :: (fun q_ _ _ => q_ = .agg (tc (⟨inst, na, na, x, nb, false, true⟩ : Ty))) :: (fun q_ _ W => q_ = ptr (gOf q_) ∧ w2.heap.size ≤ gOf q_ ∧ Blk W (gOf q_) 30 (tc zT)) :: []) ((fun i => i == 5)) (w2.heap.size) w2 (by kernel_rfl) (by kernel_rfl) (by kernel_rfl) (Below.refl _ _) (Nat.le_refl _) ?bStab (fun i hi x W hx => by obtain rfl := eq_of_beq hi; exact ⟨_, hx.1, hx.2.2.lt⟩) ?bOps ?bFin
  case bStab => exact ⟨st_is _, st_is _, st_is _, st_slice _ _, st_is _, st_alloc _ _ _, trivial⟩
  case bOps =>
    intro Q
    refine ⟨?_, ?_, ?_, ?_, ?_, ?_, trivial⟩
    · intro ho a W hW hd hx
      have h15 : a.eval (.tmp 15) = .pointer (some ⟨w.heap.size, 0, none⟩) := (hx 15 (dst_not (by kernel_rfl))).trans rfl
      exact op_value ho (want_none rfl) (v := .agg (rc (⟨inst, na, na, x⟩ : Rc))) (by intro ρ hρ kc kf; rw [← hρ] at h15; exact run_load_B h15 (K15b.out.below hW K15b.out.lt)) ⟨_, rfl, (fun h => by cases h), rfl, Below.refl _ _, (fun h => absurd h (by decide))⟩
    · intro ho a W hW hd hx
      have h65 : a.eval (.tmp 65) = .agg (rc (⟨inst, na, na, x⟩ : Rc)) := hd 0 (by kernel_rfl)
      refine op_call ho (want_none rfl) (by intro ρ hρ kc kf; rw [← hρ] at h65; clear hρ; simp [execOp, go_sem, kc, kf, h65]) (begin_tc (⟨inst, na, na, x⟩ : Rc) 0 W) ?_
      rintro e W2 ⟨rfl, k2⟩
      exact ⟨_, rfl, _, rfl, (fun h => by cases h), rfl, k2, (fun h => absurd h (by decide))⟩
    · intro ho a W hW hd hx
      have h16 : a.eval (.tmp 16) = .pointer (some ⟨(w.heap.size + 1), 0, none⟩) := (hx 16 (dst_not (by kernel_rfl))).trans rfl
      exact op_value ho (want_none rfl) (v := .agg (rc (⟨inst, nb, 0, ⟨#[]⟩⟩ : Rc))) (by intro ρ hρ kc kf; rw [← hρ] at h16; exact run_load_B h16 (K16b.out.below hW K16b.out.lt)) ⟨_, rfl, (fun h => by cases h), rfl, Below.refl _ _, (fun h => absurd h (by decide))⟩
    · intro ho a W hW hd hx
      have h67 : a.eval (.tmp 67) = .agg (rc (⟨inst, nb, 0, ⟨#[]⟩⟩ : Rc)) := hd 2 (by kernel_rfl)
      exact op_value ho (want_none rfl) (v := .slice (some ⟨W.heap.size, 0, none⟩) 1 1) (w' := W.alloc (.cells (rc (⟨inst, nb, 0, ⟨#[]⟩⟩ : Rc)) 23)) (by intro ρ hρ kc kf; rw [← hρ] at h67; clear hρ; simp [execOp, go_sem, h67, rc]) ⟨_, rfl, (fun h => by cases h), ⟨_, rfl, Blk.new W 23 _⟩, (Below.refl _ _).alloc (Nat.le_refl _) _, (fun h => absurd h (by decide))⟩
    · intro ho a W hW hd hx
      have h66 : a.eval (.tmp 66) = .agg (tc (begun (⟨inst, na, na, x⟩ : Rc) 0)) := hd 1 (by kernel_rfl)
      obtain ⟨g68, h68, r68⟩ : ∃ g, a.eval (.tmp 68) = .slice (some ⟨g, 0, none⟩) 1 1 ∧ Blk W g 23 (rc (⟨inst, nb, 0, ⟨#[]⟩⟩ : Rc)) := (hd 3 (by kernel_rfl))
      refine op_call ho (want_none rfl) (by intro ρ hρ kc kf; rw [← hρ] at h66 h68; clear hρ; simp [execOp, go_sem, kf, h66, h68]) (CU.out g68 W r68) ?_
      rintro e W2 ⟨rfl, k2⟩
      exact ⟨_, rfl, _, rfl, (fun h => by cases h), rfl, k2, (fun h => absurd h (by decide))⟩
    · intro ho a W hW hd hx
      exact op_value ho (want_none rfl) (v := ptr W.heap.size) (w' := W.alloc (.cells (tc zT) 30)) (by intro ρ hρ kc kf; clear hρ; simp [execOp, go_sem, ptr, tc, zT]) ⟨_, rfl, (fun h => by cases h), ⟨rfl, hW.size, Blk.new W 30 _⟩, (Below.refl _ _).alloc (Nat.le_refl _) _, (fun _ => ⟨_, rfl, Nat.le_refl _⟩)⟩
  intro vb W hW hv _
  have hx : vb 5 = ptr (gOf (vb 5)) ∧ w2.heap.size ≤ gOf (vb 5) ∧ Blk W (gOf (vb 5)) 30 (tc zT) := hv 5 (by decide)
  have hg := hx.1; have hl := hx.2.1; have hb := hx.2.2
  have h4 : vb 4 = .agg (tc (⟨inst, na, na, x, nb, false, true⟩ : Ty)) := hv 4 (by decide)
  simp only [List.take_succ_cons, List.take_zero, List.drop_succ_cons, List.drop_zero, fillL, wpTail, Act.put, List.setIfInBounds_toArray, List.set_cons_zero, List.set_cons_succ, Nat.reduceAdd]
  rw [hg, h4]
  refine tail_store_T (t := (⟨inst, na, na, x, nb, false, true⟩ : Ty)) rfl rfl hb rfl ?_
  intro w3 kb hgr
  have kw : Below w2.heap.size w2 w3 := hW.grown hgr hW.size (fun j hj => by injection hj with e; omega)
  have K15c := Lib.hid (K15b.out.below kw K15b.out.lt); have K16c := Lib.hid (K16b.out.below kw K16b.out.lt); have K17b := Lib.hid (K17.out.below kw K17.out.lt); have K18 := Lib.hid kb; have KW3 := Lib.hid (KW2.out.trans (kw.mono KW2.out.size)); have HD : Hid (gOf (va 5) ≠ gOf (vb 5)) := Lib.hid (by have := K17.out.lt; omega); have H18 : Hid (w.heap.size + 2 ≤ gOf (vb 5)) := Lib.hid (by have := K17.out.lt; have := H17.out; omega)
  clear hW hv hx hg hl h4 hb hgr kb kw
  go_upto_region 10 with fail
  refine wp_region_grows 12 ((fun q_ _ _ => q_ = .agg (rc (⟨inst, nb, 0, ⟨#[]⟩⟩ : Rc))) :: (fun q_ _ _ => q_ = .int .i64 na) :: (fun q_ _ _ => q_ = .agg (tc (begun (⟨inst, nb, 0, ⟨#[]⟩⟩ : Rc) na))) :: (fun q_ _ _ => q_ = .agg (rc (⟨inst, na, na, x⟩ : Rc))) :: (fun q_ _ W => ∃ g, q_ = .slice (some ⟨g, 0, none⟩) 1 1 ∧ Blk W g 23 (rc (⟨inst, na, na, x⟩ : Rc))) :: (fun q_ _ _ => q_ = .agg (tc (⟨inst, nb, na, x, nb, false, false⟩ : Ty))) :: (fun q_ _ _ => q_ = .agg (rc (⟨inst, na, na, x⟩ : Rc))) :: (fun q_ _ _ => q_ = .int .i64 nb) :: (fun q_ _ _ => q_ = .agg (tc (begun (⟨inst, na, na, x⟩ : Rc) nb))) :: (fun q_ _ _ => q_ = .agg (rc (⟨inst, nb, 0, ⟨#[]⟩⟩ : Rc))) :: (fun q_ _ W => ∃ g, q_ = .slice (some ⟨g, 0, none⟩) 1 1 ∧ Blk W g 23 (rc (⟨inst, nb, 0, ⟨#[]⟩⟩ : Rc))) :: (fun q_ _ _ => q_ = .agg (tc (⟨inst, na, na, x, nb, false, true⟩ : Ty))) :: []) (fun _ => false) (w3.heap.size) w3 (by kernel_rfl) (by kernel_rfl) (by kernel_rfl) (Below.refl _ _) (Nat.le_refl _) ?cStab (fun _ h => by cases h) ?cOps ?cFin
  case cStab => exact ⟨st_is _, st_is _, st_is _, st_is _, st_slice _ _, st_is _, st_is _, st_is _, st_is _, st_is _, st_slice _ _, st_is _, trivial⟩
  case cOps =>
    intro Q
    refine ⟨?_, ?_, ?_, ?_, ?_, ?_, ?_, ?_, ?_, ?_, ?_, ?_, trivial⟩
    · intro ho a W hW hd hx
      have h16 : a.eval (.tmp 16) = .pointer (some ⟨(w.heap.size + 1), 0, none⟩) := (hx 16 (dst_not (by kernel_rfl))).trans rfl
      exact op_value ho (want_none rfl) (v := .agg (rc (⟨inst, nb, 0, ⟨#[]⟩⟩ : Rc))) (by intro ρ hρ kc kf; rw [← hρ] at h16; exact run_load_B h16 (K16c.out.below hW K16c.out.lt)) ⟨_, rfl, (fun h => by cases h), rfl, Below.refl _ _, (fun h => absurd h (by decide))⟩
    · intro ho a W hW hd hx
      have h0 : a.eval (.tmp 0) = .int .i64 na := (hx 0 (dst_not (by kernel_rfl))).trans rfl
      exact op_value ho (want_none rfl) (v := .int .i64 na) (by intro ρ hρ kc kf; rw [← hρ] at h0; clear hρ; simp [execOp, go_sem, h0]) ⟨_, rfl, (fun h => by cases h), rfl, Below.refl _ _, (fun h => absurd h (by decide))⟩
    · intro ho a W hW hd hx
      have h71 : a.eval (.tmp 71) = .agg (rc (⟨inst, nb, 0, ⟨#[]⟩⟩ : Rc)) := hd 0 (by kernel_rfl)
      have h72 : a.eval (.tmp 72) = .int .i64 na := hd 1 (by kernel_rfl)
      refine op_call ho (want_none rfl) (by intro ρ hρ kc kf; rw [← hρ] at h71 h72; clear hρ; simp [execOp, go_sem, kf, h71, h72]) (begin_tc (⟨inst, nb, 0, ⟨#[]⟩⟩ : Rc) na W) ?_
      rintro e W2 ⟨rfl, k2⟩
      exact ⟨_, rfl, _, rfl, (fun h => by cases h), rfl, k2, (fun h => absurd h (by decide))⟩
    · intro ho a W hW hd hx
      have h15 : a.eval (.tmp 15) = .pointer (some ⟨w.heap.size, 0, none⟩) := (hx 15 (dst_not (by kernel_rfl))).trans rfl
      exact op_value ho (want_none rfl) (v := .agg (rc (⟨inst, na, na, x⟩ : Rc))) (by intro ρ hρ kc kf; rw [← hρ] at h15; exact run_load_B h15 (K15c.out.below hW K15c.out.lt)) ⟨_, rfl, (fun h => by cases h), rfl, Below.refl _ _, (fun h => absurd h (by decide))⟩
    · intro ho a W hW hd hx
      have h74 : a.eval (.tmp 74) = .agg (rc (⟨inst, na, na, x⟩ : Rc)) := hd 3 (by kernel_rfl)
      exact op_value ho (want_none rfl) (v := .slice (some ⟨W.heap.size, 0, none⟩) 1 1) (w' := W.alloc (.cells (rc (⟨inst, na, na, x⟩ : Rc)) 23)) (by intro ρ hρ kc kf; rw [← hρ] at h74; clear hρ; simp [execOp, go_sem, h74, rc]) ⟨_, rfl, (fun h => by cases h), ⟨_, rfl, Blk.new W 23 _⟩, (Below.refl _ _).alloc (Nat.le_refl _) _, (fun h => absurd h (by decide))⟩
    · intro ho a W hW hd hx
      have h73 : a.eval (.tmp 73) = .agg (tc (begun (⟨inst, nb, 0, ⟨#[]⟩⟩ : Rc) na)) := hd 2 (by kernel_rfl)
      obtain ⟨g75, h75, r75⟩ : ∃ g, a.eval (.tmp 75) = .slice (some ⟨g, 0, none⟩) 1 1 ∧ Blk W g 23 (rc (⟨inst, na, na, x⟩ : Rc)) := (hd 4 (by kernel_rfl))
      refine op_call ho (want_none rfl) (by intro ρ hρ kc kf; rw [← hρ] at h73 h75; clear hρ; simp [execOp, go_sem, kf, h73, h75]) (CT2.out g75 W r75) ?_
      rintro e W2 ⟨rfl, k2⟩
      exact ⟨_, rfl, _, rfl, (fun h => by cases h), rfl, k2, (fun h => absurd h (by decide))⟩
    · intro ho a W hW hd hx
      have h15 : a.eval (.tmp 15) = .pointer (some ⟨w.heap.size, 0, none⟩) := (hx 15 (dst_not (by kernel_rfl))).trans rfl
      exact op_value ho (want_none rfl) (v := .agg (rc (⟨inst, na, na, x⟩ : Rc))) (by intro ρ hρ kc kf; rw [← hρ] at h15; exact run_load_B h15 (K15c.out.below hW K15c.out.lt)) ⟨_, rfl, (fun h => by cases h), rfl, Below.refl _ _, (fun h => absurd h (by decide))⟩
    · intro ho a W hW hd hx
      have h1 : a.eval (.tmp 1) = .int .i64 nb := (hx 1 (dst_not (by kernel_rfl))).trans rfl
      exact op_value ho (want_none rfl) (v := .int .i64 nb) (by intro ρ hρ kc kf; rw [← hρ] at h1; clear hρ; simp [execOp, go_sem, h1]) ⟨_, rfl, (fun h => by cases h), rfl, Below.refl _ _, (fun h => absurd h (by decide))⟩
    · intro ho a W hW hd hx
      have h77 : a.eval (.tmp 77) = .agg (rc (⟨inst, na, na, x⟩ : Rc)) := hd 6 (by kernel_rfl)
      have h78 : a.eval (.tmp 78) = .int .i64 nb := hd 7 (by kernel_rfl)
      refine op_call ho (want_none rfl) (by intro ρ hρ kc kf; rw [← hρ] at h77 h78; clear hρ; simp [execOp, go_sem, kf, h77, h78]) (begin_tc (⟨inst, na, na, x⟩ : Rc) nb W) ?_
      rintro e W2 ⟨rfl, k2⟩
      exact ⟨_, rfl, _, rfl, (fun h => by cases h), rfl, k2, (fun h => absurd h (by decide))⟩
    · intro ho a W hW hd hx
      have h16 : a.eval (.tmp 16) = .pointer (some ⟨(w.heap.size + 1), 0, none⟩) := (hx 16 (dst_not (by kernel_rfl))).trans rfl
      exact op_value ho (want_none rfl) (v := .agg (rc (⟨inst, nb, 0, ⟨#[]⟩⟩ : Rc))) (by intro ρ hρ kc kf; rw [← hρ] at h16; exact run_load_B h16 (K16c.out.below hW K16c.out.lt)) ⟨_, rfl, (fun h => by cases h), rfl, Below.refl _ _, (fun h => absurd h (by decide))⟩
    · intro ho a W hW hd hx
      have h80 : a.eval (.tmp 80) = .agg (rc (⟨inst, nb, 0, ⟨#[]⟩⟩ : Rc)) := hd 9 (by kernel_rfl)
      exact op_value ho (want_none rfl) (v := .slice (some ⟨W.heap.size, 0, none⟩) 1 1) (w' := W.alloc (.cells (rc (⟨inst, nb, 0, ⟨#[]⟩⟩ : Rc)) 23)) (by intro ρ hρ kc kf; rw [← hρ] at h80; clear hρ; simp [execOp, go_sem, h80, rc]) ⟨_, rfl, (fun h => by cases h), ⟨_, rfl, Blk.new W 23 _⟩, (Below.refl _ _).alloc (Nat.le_refl _) _, (fun h => absurd h (by decide))⟩
    · intro ho a W hW hd hx
      have h79 : a.eval (.tmp 79) = .agg (tc (begun (⟨inst, na, na, x⟩ : Rc) nb)) := hd 8 (by kernel_rfl)
      obtain ⟨g81, h81, r81⟩ : ∃ g, a.eval (.tmp 81) = .slice (some ⟨g, 0, none⟩) 1 1 ∧ Blk W g 23 (rc (⟨inst, nb, 0, ⟨#[]⟩⟩ : Rc)) := (hd 10 (by kernel_rfl))
      refine op_call ho (want_none rfl) (by intro ρ hρ kc kf; rw [← hρ] at h79 h81; clear hρ; simp [execOp, go_sem, kf, h79, h81]) (CU2.out g81 W r81) ?_
      rintro e W2 ⟨rfl, k2⟩
      exact ⟨_, rfl, _, rfl, (fun h => by cases h), rfl, k2, (fun h => absurd h (by decide))⟩
  intro vc W hW hv _
  have h5 : vc 5 = .agg (tc (⟨inst, nb, na, x, nb, false, false⟩ : Ty)) := hv 5 (by decide)
  have h11 : vc 11 = .agg (tc (⟨inst, na, na, x, nb, false, true⟩ : Ty)) := hv 11 (by decide)
  simp only [List.take_succ_cons, List.take_zero, List.drop_succ_cons, List.drop_zero, fillL, wpTail, Act.put, List.setIfInBounds_toArray, List.set_cons_zero, List.set_cons_succ, Nat.reduceAdd]
  rw [h5, h11]
  have kb7 := K17b.out.below hW K17b.out.lt
  have kb8 := K18.out.below hW K18.out.lt
  have kw : Below w.heap.size w W := KW3.out.trans (hW.mono KW3.out.size)
  have l7 := H17.out; have l8 := H18.out
  refine tail_store_T (t := (⟨inst, nb, na, x, nb, false, false⟩ : Ty)) rfl rfl kb7 rfl ?_
  intro wa kb hgr
  have hb3 := kb8.other hgr (Ne.symm HD.out)
  have kw2 : Below w.heap.size w wa := kw.grown hgr kw.size (fun j hj => by injection hj with e; omega)
  refine tail_store_T (t := (⟨inst, na, na, x, nb, false, true⟩ : Ty)) rfl rfl hb3 rfl ?_
  intro w4 kb2 hgr2
  have K17d := Lib.hid (kb.other hgr2 HD.out); have K18d := Lib.hid kb2
  have KW4 : Hid (Below w.heap.size w w4) := Lib.hid (kw2.grown hgr2 kw2.size (fun j hj => by injection hj with e; omega))
  clear hW hv h5 h11 kb7 kb8 kw hgr hgr2 hb3 kw2 kb kb2 l7 l8
  go_upto_region 11 with fail
  refine wp_region_grows 13 ((fun q_ _ _ => q_ = .agg (tc (⟨inst, nb, na, x, nb, false, false⟩ : Ty))) :: (fun q_ _ _ => q_ = .bool false) :: (fun q_ _ _ => q_ = .agg (tc (⟨inst, na, na, x, nb, false, true⟩ : Ty))) :: (fun q_ _ _ => q_ = .bool true) :: (fun q_ _ _ => q_ = .bool false) :: (fun q_ _ _ => q_ = .bool false) :: (fun q_ _ _ => q_ = .agg (tc (⟨inst, nb, na, x, nb, false, false⟩ : Ty))) :: (fun q_ _ _ => q_ = .bool false) :: (fun q_ _ _ => q_ = .int .i64 na) :: (fun q_ _ _ => q_ = .int .i64 nb) :: (fun q_ _ _ => q_ = .bool false) :: (fun q_ _ _ => q_ = .bool false) :: (fun q_ _ _ => q_ = .bool false) :: []) (fun _ => false) (w4.heap.size) w4 (by kernel_rfl) (by kernel_rfl) (by kernel_rfl) (Below.refl _ _) (Nat.le_refl _) ?dStab (fun _ h => by cases h) ?dOps ?dFin
  case dStab => exact ⟨st_is _, st_is _, st_is _, st_is _, st_is _, st_is _, st_is _, st_is _, st_is _, st_is _, st_is _, st_is _, st_is _, trivial⟩
  case dOps =>
    intro Q
    refine ⟨?_, ?_, ?_, ?_, ?_, ?_, ?_, ?_, ?_, ?_, ?_, ?_, ?_, trivial⟩
    · intro ho a W hW hd hx
      have h17 : a.eval (.tmp 17) = .pointer (some ⟨(gOf (va 5)), 0, none⟩) := (hx 17 (dst_not (by kernel_rfl))).trans rfl
      exact op_value ho (want_none rfl) (v := .agg (tc (⟨inst, nb, na, x, nb, false, false⟩ : Ty))) (by intro ρ hρ kc kf; rw [← hρ] at h17; exact run_load_T h17 (K17d.out.below hW K17d.out.lt)) ⟨_, rfl, (fun h => by cases h), rfl, Below.refl _ _, (fun h => absurd h (by decide))⟩
    · intro ho a W hW hd hx
      have h83 : a.eval (.tmp 83) = .agg (tc (⟨inst, nb, na, x, nb, false, false⟩ : Ty)) := hd 0 (by kernel_rfl)
      refine op_call ho (want_none rfl) (by intro ρ hρ kc kf; rw [← hρ] at h83; clear hρ; simp [execOp, go_sem, kf, h83]) (stops_tc (⟨inst, nb, na, x, nb, false, false⟩ : Ty) W) ?_
      rintro e W2 ⟨rfl, k2⟩
      exact ⟨_, rfl, _, rfl, (fun h => by cases h), rfl, k2, (fun h => absurd h (by decide))⟩
    · intro ho a W hW hd hx
      have h18 : a.eval (.tmp 18) = .pointer (some ⟨(gOf (vb 5)), 0, none⟩) := (hx 18 (dst_not (by kernel_rfl))).trans rfl
      exact op_value ho (want_none rfl) (v := .agg (tc (⟨inst, na, na, x, nb, false, true⟩ : Ty))) (by intro ρ hρ kc kf; rw [← hρ] at h18; exact run_load_T h18 (K18d.out.below hW K18d.out.lt)) ⟨_, rfl, (fun h => by cases h), rfl, Below.refl _ _, (fun h => absurd h (by decide))⟩
    · intro ho a W hW hd hx
      have h85 : a.eval (.tmp 85) = .agg (tc (⟨inst, na, na, x, nb, false, true⟩ : Ty)) := hd 2 (by kernel_rfl)
      refine op_call ho (want_none rfl) (by intro ρ hρ kc kf; rw [← hρ] at h85; clear hρ; simp [execOp, go_sem, kf, h85]) (stops_tc (⟨inst, na, na, x, nb, false, true⟩ : Ty) W) ?_
      rintro e W2 ⟨rfl, k2⟩
      exact ⟨_, rfl, _, rfl, (fun h => by cases h), rfl, k2, (fun h => absurd h (by decide))⟩
    · intro ho a W hW hd hx
      have h84 : a.eval (.tmp 84) = .bool false := hd 1 (by kernel_rfl)
      have h86 : a.eval (.tmp 86) = .bool true := hd 3 (by kernel_rfl)
      exact op_value ho (want_none rfl) (v := .bool false) (by intro ρ hρ kc kf; rw [← hρ] at h84 h86; clear hρ; simp [execOp, go_sem, h84, h86]) ⟨_, rfl, (fun h => by cases h), rfl, Below.refl _ _, (fun h => absurd h (by decide))⟩
    · intro ho a W hW hd hx
      have h87 : a.eval (.tmp 87) = .bool false := hd 4 (by kernel_rfl)
      exact op_value ho (want_none rfl) (v := .bool false) (by intro ρ hρ kc kf; rw [← hρ] at h87; clear hρ; simp [execOp, go_sem, h87]) ⟨_, rfl, (fun h => by cases h), rfl, Below.refl _ _, (fun h => absurd h (by decide))⟩
    · intro ho a W hW hd hx
      have h88 : a.eval (.tmp 88) = .bool false := hd 5 (by kernel_rfl)
      have h17 : a.eval (.tmp 17) = .pointer (some ⟨(gOf (va 5)), 0, none⟩) := (hx 17 (dst_not (by kernel_rfl))).trans rfl
      exact op_value ho (want_yes rfl (show valAt _ a 5 = _ from h88)) (v := .agg (tc (⟨inst, nb, na, x, nb, false, false⟩ : Ty))) (by intro ρ hρ kc kf; rw [← hρ] at h17; exact run_load_T h17 (K17d.out.below hW K17d.out.lt)) ⟨_, rfl, (fun h => by cases h), rfl, Below.refl _ _, (fun h => absurd h (by decide))⟩
    · intro ho a W hW hd hx
      have h88 : a.eval (.tmp 88) = .bool false := hd 5 (by kernel_rfl)
      have h89 : a.eval (.tmp 89) = .agg (tc (⟨inst, nb, na, x, nb, false, false⟩ : Ty)) := hd 6 (by kernel_rfl)
      refine op_call ho (want_yes rfl (show valAt _ a 5 = _ from h88)) (by intro ρ hρ kc kf; rw [← hρ] at h89; clear hρ; simp [execOp, go_sem, kf, h89]) (stops_tc (⟨inst, nb, na, x, nb, false, false⟩ : Ty) W) ?_
      rintro e W2 ⟨rfl, k2⟩
      exact ⟨_, rfl, _, rfl, (fun h => by cases h), rfl, k2, (fun h => absurd h (by decide))⟩
    · intro ho a W hW hd hx
      have h88 : a.eval (.tmp 88) = .bool false := hd 5 (by kernel_rfl)
      have h0 : a.eval (.tmp 0) = .int .i64 na := (hx 0 (dst_not (by kernel_rfl))).trans rfl
      exact op_value ho (want_yes rfl (show valAt _ a 5 = _ from h88)) (v := .int .i64 na) (by intro ρ hρ kc kf; rw [← hρ] at h0; clear hρ; simp [execOp, go_sem, h0]) ⟨_, rfl, (fun h => by cases h), rfl, Below.refl _ _, (fun h => absurd h (by decide))⟩
    · intro ho a W hW hd hx
      have h88 : a.eval (.tmp 88) = .bool false := hd 5 (by kernel_rfl)
      have h1 : a.eval (.tmp 1) = .int .i64 nb := (hx 1 (dst_not (by kernel_rfl))).trans rfl
      exact op_value ho (want_yes rfl (show valAt _ a 5 = _ from h88)) (v := .int .i64 nb) (by intro ρ hρ kc kf; rw [← hρ] at h1; clear hρ; simp [execOp, go_sem, h1]) ⟨_, rfl, (fun h => by cases h), rfl, Below.refl _ _, (fun h => absurd h (by decide))⟩
    · intro ho a W hW hd hx
      have h88 : a.eval (.tmp 88) = .bool false := hd 5 (by kernel_rfl)
      have h91 : a.eval (.tmp 91) = .int .i64 na := hd 8 (by kernel_rfl)
      have h92 : a.eval (.tmp 92) = .int .i64 nb := hd 9 (by kernel_rfl)
      exact op_value ho (want_yes rfl (show valAt _ a 5 = _ from h88)) (v := .bool false) (by intro ρ hρ kc kf; rw [← hρ] at h91 h92; clear hρ; simp [execOp, go_sem, h91, h92, HO.out]) ⟨_, rfl, (fun h => by cases h), rfl, Below.refl _ _, (fun h => absurd h (by decide))⟩
    · intro ho a W hW hd hx
      have h88 : a.eval (.tmp 88) = .bool false := hd 5 (by kernel_rfl)
      have h90 : a.eval (.tmp 90) = .bool false := hd 7 (by kernel_rfl)
      have h93 : a.eval (.tmp 93) = .bool false := hd 10 (by kernel_rfl)
      exact op_value ho (want_yes rfl (show valAt _ a 5 = _ from h88)) (v := .bool false) (by intro ρ hρ kc kf; rw [← hρ] at h90 h93; clear hρ; simp [execOp, go_sem, h90, h93]) ⟨_, rfl, (fun h => by cases h), rfl, Below.refl _ _, (fun h => absurd h (by decide))⟩
    · intro ho a W hW hd hx
      have h88 : a.eval (.tmp 88) = .bool false := hd 5 (by kernel_rfl)
      have h94 : a.eval (.tmp 94) = .bool false := hd 11 (by kernel_rfl)
      exact op_value ho (want_none rfl) (v := .bool false) (by intro ρ hρ kc kf; rw [← hρ] at h88 h94; clear hρ; simp [execOp, go_sem, h88, h94]) ⟨_, rfl, (fun h => by cases h), rfl, Below.refl _ _, (fun h => absurd h (by decide))⟩
  intro vd w5 hW hv _
  have h12 : vd 12 = .bool false := hv 12 (by decide)
  simp only [List.take_succ_cons, List.take_zero, List.drop_succ_cons, List.drop_zero, fillL, wpTail, Act.put, List.setIfInBounds_toArray, List.set_cons_zero, List.set_cons_succ, Nat.reduceAdd]
  rw [h12]
  have K17e := Lib.hid (K17d.out.below hW K17d.out.lt); have K18e := Lib.hid (K18d.out.below hW K18d.out.lt); have KW5 := Lib.hid (KW4.out.trans (hW.mono KW4.out.size))
  clear hW hv h12
  go_upto_region 13 with fail
  refine wp_region_grows 32 ((fun q_ _ _ => q_ = .agg (tc (⟨inst, nb, na, x, nb, false, false⟩ : Ty))) :: (fun q_ _ _ => q_ = .string y) :: (fun q_ _ _ => q_ = .string x) :: (fun q_ _ _ => q_ = .string x) :: (fun q_ _ _ => q_ = .bool true) :: (fun q_ _ _ => q_ = .bool true) :: (fun q_ _ _ => q_ = .bool true) :: (fun q_ _ _ => q_ = undef) :: (fun q_ _ _ => q_ = undef) :: (fun q_ _ _ => q_ = undef) :: (fun q_ _ _ => q_ = .bool true) :: (fun q_ _ _ => q_ = .bool true) :: (fun q_ _ _ => q_ = .bool true) :: (fun q_ _ _ => q_ = .pointer (some ⟨(gOf (va 5)), 4, none⟩)) :: (fun q_ _ _ => q_ = .int .i64 nb) :: (fun q_ _ _ => q_ = .int .i64 na) :: (fun q_ _ _ => q_ = .int .i64 nb) :: (fun q_ _ _ => q_ = .int .i64 nb) :: (fun q_ _ _ => q_ = .bool true) :: (fun q_ _ _ => q_ = .bool true) :: (fun q_ _ _ => q_ = .bool true) :: (fun q_ _ _ => q_ = .pointer (some ⟨(gOf (vb 5)), 4, none⟩)) :: (fun q_ _ _ => q_ = .int .i64 nb) :: (fun q_ _ _ => q_ = .int .i64 na) :: (fun q_ _ _ => q_ = .int .i64 nb) :: (fun q_ _ _ => q_ = .int .i64 nb) :: (fun q_ _ _ => q_ = .bool true) :: (fun q_ _ _ => q_ = .bool true) :: (fun q_ _ _ => q_ = .bool true) :: (fun q_ _ _ => q_ = .bool true) :: (fun q_ _ _ => q_ = .bool true) :: (fun q_ _ _ => q_ = .bool true) :: []) (fun _ => false) (w5.heap.size) w5 (by kernel_rfl) (by kernel_rfl) (by kernel_rfl) (Below.refl _ _) (Nat.le_refl _) ?eStab (fun _ h => by cases h) ?eOps ?eFin
  case eStab => exact ⟨st_is _, st_is _, st_is _, st_is _, st_is _, st_is _, st_is _, st_is _, st_is _, st_is _, st_is _, st_is _, st_is _, st_is _, st_is _, st_is _, st_is _, st_is _, st_is _, st_is _, st_is _, st_is _, st_is _, st_is _, st_is _, st_is _, st_is _, st_is _, st_is _, st_is _, st_is _, st_is _, trivial⟩
  case eOps =>
    intro Q
    refine ⟨?_, ?_, ?_, ?_, ?_, ?_, ?_, ?_, ?_, ?_, ?_, ?_, ?_, ?_, ?_, ?_, ?_, ?_, ?_, ?_, ?_, ?_, ?_, ?_, ?_, ?_, ?_, ?_, ?_, ?_, ?_, ?_, trivial⟩
    · intro ho a W hW hd hx
      have h17 : a.eval (.tmp 17) = .pointer (some ⟨(gOf (va 5)), 0, none⟩) := (hx 17 (dst_not (by kernel_rfl))).trans rfl
      exact op_value ho (want_none rfl) (v := .agg (tc (⟨inst, nb, na, x, nb, false, false⟩ : Ty))) (by intro ρ hρ kc kf; rw [← hρ] at h17; exact run_load_T h17 (K17e.out.below hW K17e.out.lt)) ⟨_, rfl, (fun h => by cases h), rfl, Below.refl _ _, (fun h => absurd h (by decide))⟩
    · intro ho a W hW hd hx
      have h3 : a.eval (.tmp 3) = .string y := (hx 3 (dst_not (by kernel_rfl))).trans rfl
      exact op_value ho (want_none rfl) (v := .string y) (by intro ρ hρ kc kf; rw [← hρ] at h3; clear hρ; simp [execOp, go_sem, h3]) ⟨_, rfl, (fun h => by cases h), rfl, Below.refl _ _, (fun h => absurd h (by decide))⟩
    · intro ho a W hW hd hx
      have h96 : a.eval (.tmp 96) = .agg (tc (⟨inst, nb, na, x, nb, false, false⟩ : Ty)) := hd 0 (by kernel_rfl)
      have h97 : a.eval (.tmp 97) = .string y := hd 1 (by kernel_rfl)
      refine op_call ho (want_none rfl) (by intro ρ hρ kc kf; rw [← hρ] at h96 h97; clear hρ; simp [execOp, go_sem, kf, h96, h97]) (CV.out W) ?_
      rintro e W2 ⟨rfl, k2⟩
      exact ⟨_, rfl, _, rfl, (fun h => by cases h), rfl, k2, (fun h => absurd h (by decide))⟩
    · intro ho a W hW hd hx
      have h2 : a.eval (.tmp 2) = .string x := (hx 2 (dst_not (by kernel_rfl))).trans rfl
      exact op_value ho (want_none rfl) (v := .string x) (by intro ρ hρ kc kf; rw [← hρ] at h2; clear hρ; simp [execOp, go_sem, h2]) ⟨_, rfl, (fun h => by cases h), rfl, Below.refl _ _, (fun h => absurd h (by decide))⟩
    · intro ho a W hW hd hx
      have h98 : a.eval (.tmp 98) = .string x := hd 2 (by kernel_rfl)
      have h99 : a.eval (.tmp 99) = .string x := hd 3 (by kernel_rfl)
      exact op_value ho (want_none rfl) (v := .bool true) (by intro ρ hρ kc kf; rw [← hρ] at h98 h99; clear hρ; simp [execOp, go_sem, h98, h99]) ⟨_, rfl, (fun h => by cases h), rfl, Below.refl _ _, (fun h => absurd h (by decide))⟩
    · intro ho a W hW hd hx
      have h6 : a.eval (.tmp 6) = .bool true := (hx 6 (dst_not (by kernel_rfl))).trans rfl
      exact op_value ho (want_none rfl) (v := .bool true) (by intro ρ hρ kc kf; rw [← hρ] at h6; clear hρ; simp [execOp, go_sem, h6]) ⟨_, rfl, (fun h => by cases h), rfl, Below.refl _ _, (fun h => absurd h (by decide))⟩
    · intro ho a W hW hd hx
      have h101 : a.eval (.tmp 101) = .bool true := hd 5 (by kernel_rfl)
      exact op_value ho (want_none rfl) (v := .bool true) (by intro ρ hρ kc kf; rw [← hρ] at h101; clear hρ; simp [execOp, go_sem, h101]) ⟨_, rfl, (fun h => by cases h), rfl, Below.refl _ _, (fun h => absurd h (by decide))⟩
    · intro ho a W hW hd hx
      have h102 : a.eval (.tmp 102) = .bool true := hd 6 (by kernel_rfl)
      have h2 : a.eval (.tmp 2) = .string x := (hx 2 (dst_not (by kernel_rfl))).trans rfl
      exact op_none ho (want_no (c := true) rfl (show valAt _ a 6 = _ from h102) (by decide)) ⟨_, rfl, (fun h => by cases h), rfl, Below.refl _ _, (fun h => absurd h (by decide))⟩
    · intro ho a W hW hd hx
      have h102 : a.eval (.tmp 102) = .bool true := hd 6 (by kernel_rfl)
      have h3 : a.eval (.tmp 3) = .string y := (hx 3 (dst_not (by kernel_rfl))).trans rfl
      exact op_none ho (want_no (c := true) rfl (show valAt _ a 6 = _ from h102) (by decide)) ⟨_, rfl, (fun h => by cases h), rfl, Below.refl _ _, (fun h => absurd h (by decide))⟩
    · intro ho a W hW hd hx
      have h102 : a.eval (.tmp 102) = .bool true := hd 6 (by kernel_rfl)
      have h103 : a.eval (.tmp 103) = undef := hd 7 (by kernel_rfl)
      have h104 : a.eval (.tmp 104) = undef := hd 8 (by kernel_rfl)
      exact op_none ho (want_no (c := true) rfl (show valAt _ a 6 = _ from h102) (by decide)) ⟨_, rfl, (fun h => by cases h), rfl, Below.refl _ _, (fun h => absurd h (by decide))⟩
    · intro ho a W hW hd hx
      have h102 : a.eval (.tmp 102) = .bool true := hd 6 (by kernel_rfl)
      have h105 : a.eval (.tmp 105) = undef := hd 9 (by kernel_rfl)
      exact op_value ho (want_none rfl) (v := .bool true) (by intro ρ hρ kc kf; rw [← hρ] at h102; clear hρ; simp [execOp, go_sem, kc, h102]) ⟨_, rfl, (fun h => by cases h), rfl, Below.refl _ _, (fun h => absurd h (by decide))⟩
    · intro ho a W hW hd hx
      have h100 : a.eval (.tmp 100) = .bool true := hd 4 (by kernel_rfl)
      have h106 : a.eval (.tmp 106) = .bool true := hd 10 (by kernel_rfl)
      exact op_value ho (want_none rfl) (v := .bool true) (by intro ρ hρ kc kf; rw [← hρ] at h100 h106; clear hρ; simp [execOp, go_sem, h100, h106]) ⟨_, rfl, (fun h => by cases h), rfl, Below.refl _ _, (fun h => absurd h (by decide))⟩
    · intro ho a W hW hd hx
      have h107 : a.eval (.tmp 107) = .bool true := hd 11 (by kernel_rfl)
      exact op_value ho (want_none rfl) (v := .bool true) (by intro ρ hρ kc kf; rw [← hρ] at h107; clear hρ; simp [execOp, go_sem, h107]) ⟨_, rfl, (fun h => by cases h), rfl, Below.refl _ _, (fun h => absurd h (by decide))⟩
    · intro ho a W hW hd hx
      have h108 : a.eval (.tmp 108) = .bool true := hd 12 (by kernel_rfl)
      have h17 : a.eval (.tmp 17) = .pointer (some ⟨(gOf (va 5)), 0, none⟩) := (hx 17 (dst_not (by kernel_rfl))).trans rfl
      exact op_value ho (want_yes rfl (show valAt _ a 12 = _ from h108)) (v := .pointer (some ⟨(gOf (va 5)), 4, none⟩)) (by intro ρ hρ kc kf; rw [← hρ] at h17; clear hρ; simp [execOp, go_sem, h17]) ⟨_, rfl, (fun h => by cases h), rfl, Below.refl _ _, (fun h => absurd h (by decide))⟩
    · intro ho a W hW hd hx
      have h108 : a.eval (.tmp 108) = .bool true := hd 12 (by kernel_rfl)
      have h109 : a.eval (.tmp 109) = .pointer (some ⟨(gOf (va 5)), 4, none⟩) := hd 13 (by kernel_rfl)
      have hcell : W.cell? ⟨(gOf (va 5)), 4, none⟩ = some (.int .i64 nb) := by rw [(K17e.out.below hW K17e.out.lt).cell 4]; rfl
      exact op_value ho (want_yes rfl (show valAt _ a 12 = _ from h108)) (v := .int .i64 nb) (by intro ρ hρ kc kf; rw [← hρ] at h109; clear hρ; simp [execOp, go_sem, h109, hcell]) ⟨_, rfl, (fun h => by cases h), rfl, Below.refl _ _, (fun h => absurd h (by decide))⟩
    · intro ho a W hW hd hx
      have h108 : a.eval (.tmp 108) = .bool true := hd 12 (by kernel_rfl)
      have h0 : a.eval (.tmp 0) = .int .i64 na := (hx 0 (dst_not (by kernel_rfl))).trans rfl
      exact op_value ho (want_yes rfl (show valAt _ a 12 = _ from h108)) (v := .int .i64 na) (by intro ρ hρ kc kf; rw [← hρ] at h0; clear hρ; simp [execOp, go_sem, h0]) ⟨_, rfl, (fun h => by cases h), rfl, Below.refl _ _, (fun h => absurd h (by decide))⟩
    · intro ho a W hW hd hx
      have h108 : a.eval (.tmp 108) = .bool true := hd 12 (by kernel_rfl)
      have h1 : a.eval (.tmp 1) = .int .i64 nb := (hx 1 (dst_not (by kernel_rfl))).trans rfl
      exact op_value ho (want_yes rfl (show valAt _ a 12 = _ from h108)) (v := .int .i64 nb) (by intro ρ hρ kc kf; rw [← hρ] at h1; clear hρ; simp [execOp, go_sem, h1]) ⟨_, rfl, (fun h => by cases h), rfl, Below.refl _ _, (fun h => absurd h (by decide))⟩
    · intro ho a W hW hd hx
      have h108 : a.eval (.tmp 108) = .bool true := hd 12 (by kernel_rfl)
      have h111 : a.eval (.tmp 111) = .int .i64 na := hd 15 (by kernel_rfl)
      have h112 : a.eval (.tmp 112) = .int .i64 nb := hd 16 (by kernel_rfl)
      exact op_value ho (want_yes rfl (show valAt _ a 12 = _ from h108)) (v := .int .i64 nb) (by intro ρ hρ kc kf; rw [← hρ] at h111 h112; exact (run_max h111 h112).trans (by rw [HMX.out])) ⟨_, rfl, (fun h => by cases h), rfl, Below.refl _ _, (fun h => absurd h (by decide))⟩
    · intro ho a W hW hd hx
      have h108 : a.eval (.tmp 108) = .bool true := hd 12 (by kernel_rfl)
      have h110 : a.eval (.tmp 110) = .int .i64 nb := hd 14 (by kernel_rfl)
      have h113 : a.eval (.tmp 113) = .int .i64 nb := hd 17 (by kernel_rfl)
      exact op_value ho (want_yes rfl (show valAt _ a 12 = _ from h108)) (v := .bool true) (by intro ρ hρ kc kf; rw [← hρ] at h110 h113; clear hρ; simp [execOp, go_sem, h110, h113]) ⟨_, rfl, (fun h => by cases h), rfl, Below.refl _ _, (fun h => absurd h (by decide))⟩
    · intro ho a W hW hd hx
      have h108 : a.eval (.tmp 108) = .bool true := hd 12 (by kernel_rfl)
      have h114 : a.eval (.tmp 114) = .bool true := hd 18 (by kernel_rfl)
      exact op_value ho (want_none rfl) (v := .bool true) (by intro ρ hρ kc kf; rw [← hρ] at h108 h114; clear hρ; simp [execOp, go_sem, h108, h114]) ⟨_, rfl, (fun h => by cases h), rfl, Below.refl _ _, (fun h => absurd h (by decide))⟩
    · intro ho a W hW hd hx
      have h115 : a.eval (.tmp 115) = .bool true := hd 19 (by kernel_rfl)
      exact op_value ho (want_none rfl) (v := .bool true) (by intro ρ hρ kc kf; rw [← hρ] at h115; clear hρ; simp [execOp, go_sem, h115]) ⟨_, rfl, (fun h => by cases h), rfl, Below.refl _ _, (fun h => absurd h (by decide))⟩
    · intro ho a W hW hd hx
      have h116 : a.eval (.tmp 116) = .bool true := hd 20 (by kernel_rfl)
      have h18 : a.eval (.tmp 18) = .pointer (some ⟨(gOf (vb 5)), 0, none⟩) := (hx 18 (dst_not (by kernel_rfl))).trans rfl
      exact op_value ho (want_yes rfl (show valAt _ a 20 = _ from h116)) (v := .pointer (some ⟨(gOf (vb 5)), 4, none⟩)) (by intro ρ hρ kc kf; rw [← hρ] at h18; clear hρ; simp [execOp, go_sem, h18]) ⟨_, rfl, (fun h => by cases h), rfl, Below.refl _ _, (fun h => absurd h (by decide))⟩
    · intro ho a W hW hd hx
      have h116 : a.eval (.tmp 116) = .bool true := hd 20 (by kernel_rfl)
      have h117 : a.eval (.tmp 117) = .pointer (some ⟨(gOf (vb 5)), 4, none⟩) := hd 21 (by kernel_rfl)
      have hcell : W.cell? ⟨(gOf (vb 5)), 4, none⟩ = some (.int .i64 nb) := by rw [(K18e.out.below hW K18e.out.lt).cell 4]; rfl
      exact op_value ho (want_yes rfl (show valAt _ a 20 = _ from h116)) (v := .int .i64 nb) (by intro ρ hρ kc kf; rw [← hρ] at h117; clear hρ; simp [execOp, go_sem, h117, hcell]) ⟨_, rfl, (fun h => by cases h), rfl, Below.refl _ _, (fun h => absurd h (by decide))⟩
    · intro ho a W hW hd hx
      have h116 : a.eval (.tmp 116) = .bool true := hd 20 (by kernel_rfl)
      have h0 : a.eval (.tmp 0) = .int .i64 na := (hx 0 (dst_not (by kernel_rfl))).trans rfl
      exact op_value ho (want_yes rfl (show valAt _ a 20 = _ from h116)) (v := .int .i64 na) (by intro ρ hρ kc kf; rw [← hρ] at h0; clear hρ; simp [execOp, go_sem, h0]) ⟨_, rfl, (fun h => by cases h), rfl, Below.refl _ _, (fun h => absurd h (by decide))⟩
    · intro ho a W hW hd hx
      have h116 : a.eval (.tmp 116) = .bool true := hd 20 (by kernel_rfl)
      have h1 : a.eval (.tmp 1) = .int .i64 nb := (hx 1 (dst_not (by kernel_rfl))).trans rfl
      exact op_value ho (want_yes rfl (show valAt _ a 20 = _ from h116)) (v := .int .i64 nb) (by intro ρ hρ kc kf; rw [← hρ] at h1; clear hρ; simp [execOp, go_sem, h1]) ⟨_, rfl, (fun h => by cases h), rfl, Below.refl _ _, (fun h => absurd h (by decide))⟩
    · intro ho a W hW hd hx
      have h116 : a.eval (.tmp 116) = .bool true := hd 20 (by kernel_rfl)
      have h119 : a.eval (.tmp 119) = .int .i64 na := hd 23 (by kernel_rfl)
      have h120 : a.eval (.tmp 120) = .int .i64 nb := hd 24 (by kernel_rfl)
      exact op_value ho (want_yes rfl (show valAt _ a 20 = _ from h116)) (v := .int .i64 nb) (by intro ρ hρ kc kf; rw [← hρ] at h119 h120; exact (run_max h119 h120).trans (by rw [HMX.out])) ⟨_, rfl, (fun h => by cases h), rfl, Below.refl _ _, (fun h => absurd h (by decide))⟩
    · intro ho a W hW hd hx
      have h116 : a.eval (.tmp 116) = .bool true := hd 20 (by kernel_rfl)
      have h118 : a.eval (.tmp 118) = .int .i64 nb := hd 22 (by kernel_rfl)
      have h121 : a.eval (.tmp 121) = .int .i64 nb := hd 25 (by kernel_rfl)
      exact op_value ho (want_yes rfl (show valAt _ a 20 = _ from h116)) (v := .bool true) (by intro ρ hρ kc kf; rw [← hρ] at h118 h121; clear hρ; simp [execOp, go_sem, h118, h121]) ⟨_, rfl, (fun h => by cases h), rfl, Below.refl _ _, (fun h => absurd h (by decide))⟩
    · intro ho a W hW hd hx
      have h116 : a.eval (.tmp 116) = .bool true := hd 20 (by kernel_rfl)
      have h122 : a.eval (.tmp 122) = .bool true := hd 26 (by kernel_rfl)
      exact op_value ho (want_none rfl) (v := .bool true) (by intro ρ hρ kc kf; rw [← hρ] at h116 h122; clear hρ; simp [execOp, go_sem, h116, h122]) ⟨_, rfl, (fun h => by cases h), rfl, Below.refl _ _, (fun h => absurd h (by decide))⟩
    · intro ho a W hW hd hx
      have h123 : a.eval (.tmp 123) = .bool true := hd 27 (by kernel_rfl)
      exact op_value ho (want_none rfl) (v := .bool true) (by intro ρ hρ kc kf; rw [← hρ] at h123; clear hρ; simp [execOp, go_sem, h123]) ⟨_, rfl, (fun h => by cases h), rfl, Below.refl _ _, (fun h => absurd h (by decide))⟩
    · intro ho a W hW hd hx
      have h124 : a.eval (.tmp 124) = .bool true := hd 28 (by kernel_rfl)
      refine op_call ho (want_yes rfl (show valAt _ a 28 = _ from h124)) (by intro ρ hρ kc kf; clear hρ; simp [execOp, go_sem, kf]) (wakes_any W) ?_
      rintro e W2 ⟨rfl, k2⟩
      exact ⟨_, rfl, _, rfl, (fun h => by cases h), rfl, k2, (fun h => absurd h (by decide))⟩
    · intro ho a W hW hd hx
      have h124 : a.eval (.tmp 124) = .bool true := hd 28 (by kernel_rfl)
      have h125 : a.eval (.tmp 125) = .bool true := hd 29 (by kernel_rfl)
      exact op_value ho (want_none rfl) (v := .bool true) (by intro ρ hρ kc kf; rw [← hρ] at h124 h125; clear hρ; simp [execOp, go_sem, h124, h125]) ⟨_, rfl, (fun h => by cases h), rfl, Below.refl _ _, (fun h => absurd h (by decide))⟩
    · intro ho a W hW hd hx
      have h126 : a.eval (.tmp 126) = .bool true := hd 30 (by kernel_rfl)
      exact op_value ho (want_none rfl) (v := .bool true) (by intro ρ hρ kc kf; rw [← hρ] at h126; clear hρ; simp [execOp, go_sem, h126]) ⟨_, rfl, (fun h => by cases h), rfl, Below.refl _ _, (fun h => absurd h (by decide))⟩
  intro ve W hW hv _
  have hlast : ve 31 = .bool true := hv 31 (by decide)
  simp only [List.take_succ_cons, List.take_zero, List.drop_succ_cons, List.drop_zero, fillL, wpTail, Act.put, List.setIfInBounds_toArray, List.set_cons_zero, List.set_cons_succ, Nat.reduceAdd]
  rw [hlast]
  go_wp2
  go_ret
  exact ⟨rfl, KW5.out.trans (hW.mono KW5.out.size)⟩

set_option maxRecDepth 100000 in
set_option maxHeartbeats 4000000 in
theorem one_tfg (na nb : Int) (x y : ByteArray) (inst : Int) (w : World) (ha : ¬ na < 1) (hb : ¬ nb < 1) (hlt : nb < na) (hx : x.size ≤ 100) (hy : y.size ≤ 100) :
    Calls Try.prog 5 #[.int .i64 na, .int .i64 nb, .string x, .string y, .int .i64 inst, .bool true, .bool true] w fun e w' => e = .returned (.bool true) ∧ Below w.heap.size w w' := by
  have hab : ¬ na = nb := by omega
  have hx' : ¬ (100 : Int) < (x.size : Int) := by omega
  have hy' : ¬ (100 : Int) < (y.size : Int) := by omega
  have hord : nb < na := by omega
  have hord2 : ¬ na < nb := by omega
  have eT : ∀ s, (s = 0 ∨ s = na) → oneT (begun (⟨inst, nb, 0, ⟨#[]⟩⟩ : Rc) s) (⟨inst, na, na, x⟩ : Rc) = (⟨inst, nb, na, x, na, false, true⟩ : Ty) := by
    intro s hs
    rcases hs with rfl | rfl <;> simp [oneT, begun, hereT, mx] <;> omega
  have eU : ∀ s, (s = 0 ∨ s = nb) → oneT (begun (⟨inst, na, na, x⟩ : Rc) s) (⟨inst, nb, 0, ⟨#[]⟩⟩ : Rc) = (⟨inst, na, na, x, na, false, false⟩ : Ty) := by
    intro s hs
    rcases hs with rfl | rfl <;> simp [oneT, begun, hereT, mx] <;> omega
  have cT := fun g W (h : Blk W g 23 (rc (⟨inst, na, na, x⟩ : Rc))) => count_blk (begun (⟨inst, nb, 0, ⟨#[]⟩⟩ : Rc) 0) g (⟨inst, na, na, x⟩ : Rc) W h
  have cU := fun g W (h : Blk W g 23 (rc (⟨inst, nb, 0, ⟨#[]⟩⟩ : Rc))) => count_blk (begun (⟨inst, na, na, x⟩ : Rc) 0) g (⟨inst, nb, 0, ⟨#[]⟩⟩ : Rc) W h
  have cT2 := fun g W (h : Blk W g 23 (rc (⟨inst, na, na, x⟩ : Rc))) => count_blk (begun (⟨inst, nb, 0, ⟨#[]⟩⟩ : Rc) na) g (⟨inst, na, na, x⟩ : Rc) W h
  have cU2 := fun g W (h : Blk W g 23 (rc (⟨inst, nb, 0, ⟨#[]⟩⟩ : Rc))) => count_blk (begun (⟨inst, na, na, x⟩ : Rc) nb) g (⟨inst, nb, 0, ⟨#[]⟩⟩ : Rc) W h
  rw [eT 0 (.inl rfl)] at cT; rw [eT na (.inr rfl)] at cT2; rw [eU 0 (.inl rfl)] at cU; rw [eU nb (.inr rfl)] at cU2
  have hV : valueT (⟨inst, nb, na, x, na, false, true⟩ : Ty) y = x := by exact if_pos (by show 0 < na; omega)
  have cV := fun W => value_tc (⟨inst, nb, na, x, na, false, true⟩ : Ty) y W
  rw [hV] at cV
  have CT := Lib.hid cT; have CU := Lib.hid cU; have CT2 := Lib.hid cT2; have CU2 := Lib.hid cU2; have CV := Lib.hid cV
  have K15a : Hid (Blk ((w.alloc (Obj.cells #[Value.int IntKind.i64 inst, Value.int IntKind.i64 na, Value.int IntKind.i64 na, Value.string x] 23)).alloc (Obj.cells #[Value.int IntKind.i64 inst, Value.int IntKind.i64 nb, Value.int IntKind.i64 0, Value.string { data := #[] }] 23)) w.heap.size 23 (rc (⟨inst, na, na, x⟩ : Rc))) := Lib.hid ((Blk.new w 23 _).alloc _)
  have k16 := Blk.new (w.alloc (Obj.cells #[Value.int IntKind.i64 inst, Value.int IntKind.i64 na, Value.int IntKind.i64 na, Value.string x] 23)) 23 (rc (⟨inst, nb, 0, ⟨#[]⟩⟩ : Rc))
  have K16a : Hid (Blk ((w.alloc (Obj.cells #[Value.int IntKind.i64 inst, Value.int IntKind.i64 na, Value.int IntKind.i64 na, Value.string x] 23)).alloc (Obj.cells #[Value.int IntKind.i64 inst, Value.int IntKind.i64 nb, Value.int IntKind.i64 0, Value.string { data := #[] }] 23)) (w.heap.size + 1) 23 (rc (⟨inst, nb, 0, ⟨#[]⟩⟩ : Rc))) := Lib.hid (by simpa [rc] using k16)
  have KW0 : Hid (Below w.heap.size w ((w.alloc (Obj.cells #[Value.int IntKind.i64 inst, Value.int IntKind.i64 na, Value.int IntKind.i64 na, Value.string x] 23)).alloc (Obj.cells #[Value.int IntKind.i64 inst, Value.int IntKind.i64 nb, Value.int IntKind.i64 0, Value.string { data := #[] }] 23))) := Lib.hid (((Below.refl _ _).alloc (Nat.le_refl _) _).alloc (by simp) _)
  have HZ0 : Hid ((((w.alloc (Obj.cells #[Value.int IntKind.i64 inst, Value.int IntKind.i64 na, Value.int IntKind.i64 na, Value.string x] 23)).alloc (Obj.cells #[Value.int IntKind.i64 inst, Value.int IntKind.i64 nb, Value.int IntKind.i64 0, Value.string { data := #[] }] 23))).heap.size = w.heap.size + 2) := Lib.hid (by simp)
  have HWK := Lib.hid (wakes_any w)
  clear cT cU cT2 cU2 cV hV eT eU k16
  have HO := Lib.hid hord; have HMX : Hid (mx na nb = na) := Lib.hid (if_neg hord2); have HL := Lib.hid hlt
  clear hord hord2 hlt
  go_enter Try.func5, Try.ntmps5
  go_wp2_with fail
  any_goals (go_at_call 9; refine HWK.out.mono ?_; rintro e w1 ⟨rfl, hb1⟩; go_wp2; go_ret; exact ⟨rfl, hb1⟩)
  obtain ⟨w1, hw1⟩ : ∃ w1, w1 = ((w.alloc (Obj.cells #[Value.int IntKind.i64 inst, Value.int IntKind.i64 na, Value.int IntKind.i64 na, Value.string x] 23)).alloc (Obj.cells #[Value.int IntKind.i64 inst, Value.int IntKind.i64 nb, Value.int IntKind.i64 0, Value.string { data := #[] }] 23)) := ⟨_, rfl⟩
  have K15 := K15a; have K16 := K16a; have KW1 := KW0; have HZ := HZ0
  rw [← hw1] at K15 K16 KW1 HZ ⊢
  clear K15a K16a KW0 HZ0 hw1
  refine wp_region_grows 6 ((fun q_ _ _ => q_ = .agg (rc (⟨inst, nb, 0, ⟨#[]⟩⟩ : Rc))) :: (fun q_ _ _ => q_ = .agg (tc (begun (⟨inst, nb, 0, ⟨#[]⟩⟩ : Rc) 0))) :: (fun q_ _ _ => q_ = .agg (rc (⟨inst, na, na, x⟩ : Rc))) :: (fun q_ _ W => ∃ g, q_ = .slice (some ⟨g, 0, none⟩) 1 1 ∧ Blk W g 23 (rc (⟨inst, na, na, x⟩ : Rc))) :: (fun q_ _ _ => q_ = .agg (tc (⟨inst, nb, na, x, na, false, true⟩ : Ty))) :: (fun q_ _ W => q_ = ptr (gOf q_) ∧ w1.heap.size ≤ gOf q_ ∧ Blk W (gOf q_) 30 (tc zT)) :: []) ((fun i => i == 5)) (w1.heap.size) w1 (by kernel_rfl) (by kernel_rfl) (by kernel_rfl) (Below.refl _ _) (Nat.le_refl _) ?aStab (fun i hi x W hx => by obtain rfl := eq_of_beq hi; exact ⟨_, hx.1, hx.2.2.lt⟩) ?aOps ?aFin
  case aStab => exact ⟨st_is _, st_is _, st_is _, st_slice _ _, st_is _, st_alloc _ _ _, trivial⟩
  case aOps =>
    intro Q
    refine ⟨?_, ?_, ?_, ?_, ?_, ?_, trivial⟩
    · intro ho a W hW hd hx
      have h16 : a.eval (.tmp 16) = .pointer (some ⟨(w.heap.size + 1), 0, none⟩) := (hx 16 (dst_not (by kernel_rfl))).trans rfl
      exact op_value ho (want_none rfl) (v := .agg (rc (⟨inst, nb, 0, ⟨#[]⟩⟩ : Rc))) (by intro ρ hρ kc kf; rw [← hρ] at h16; exact run_load_B h16 (K16.out.below hW K16.out.lt)) ⟨_, rfl, (fun h => by cases h), rfl, Below.refl _ _, (fun h => absurd h (by decide))⟩
    · intro ho a W hW hd hx
      have h60 : a.eval (.tmp 60) = .agg (rc (⟨inst, nb, 0, ⟨#[]⟩⟩ : Rc)) := hd 0 (by kernel_rfl)
      refine op_call ho (want_none rfl) (by intro ρ hρ kc kf; rw [← hρ] at h60; clear hρ; simp [execOp, go_sem, kc, kf, h60]) (begin_tc (⟨inst, nb, 0, ⟨#[]⟩⟩ : Rc) 0 W) ?_
      rintro e W2 ⟨rfl, k2⟩
      exact ⟨_, rfl, _, rfl, (fun h => by cases h), rfl, k2, (fun h => absurd h (by decide))⟩
    · intro ho a W hW hd hx
      have h15 : a.eval (.tmp 15) = .pointer (some ⟨w.heap.size, 0, none⟩) := (hx 15 (dst_not (by kernel_rfl))).trans rfl
      exact op_value ho (want_none rfl) (v := .agg (rc (⟨inst, na, na, x⟩ : Rc))) (by intro ρ hρ kc kf; rw [← hρ] at h15; exact run_load_B h15 (K15.out.below hW K15.out.lt)) ⟨_, rfl, (fun h => by cases h), rfl, Below.refl _ _, (fun h => absurd h (by decide))⟩
    · intro ho a W hW hd hx
      have h62 : a.eval (.tmp 62) = .agg (rc (⟨inst, na, na, x⟩ : Rc)) := hd 2 (by kernel_rfl)
      exact op_value ho (want_none rfl) (v := .slice (some ⟨W.heap.size, 0, none⟩) 1 1) (w' := W.alloc (.cells (rc (⟨inst, na, na, x⟩ : Rc)) 23)) (by intro ρ hρ kc kf; rw [← hρ] at h62; clear hρ; simp [execOp, go_sem, h62, rc]) ⟨_, rfl, (fun h => by cases h), ⟨_, rfl, Blk.new W 23 _⟩, (Below.refl _ _).alloc (Nat.le_refl _) _, (fun h => absurd h (by decide))⟩
    · intro ho a W hW hd hx
      have h61 : a.eval (.tmp 61) = .agg (tc (begun (⟨inst, nb, 0, ⟨#[]⟩⟩ : Rc) 0)) := hd 1 (by kernel_rfl)
      obtain ⟨g63, h63, r63⟩ : ∃ g, a.eval (.tmp 63) = .slice (some ⟨g, 0, none⟩) 1 1 ∧ Blk W g 23 (rc (⟨inst, na, na, x⟩ : Rc)) := (hd 3 (by kernel_rfl))
      refine op_call ho (want_none rfl) (by intro ρ hρ kc kf; rw [← hρ] at h61 h63; clear hρ; simp [execOp, go_sem, kf, h61, h63]) (CT.out g63 W r63) ?_
      rintro e W2 ⟨rfl, k2⟩
      exact ⟨_, rfl, _, rfl, (fun h => by cases h), rfl, k2, (fun h => absurd h (by decide))⟩
    · intro ho a W hW hd hx
      exact op_value ho (want_none rfl) (v := ptr W.heap.size) (w' := W.alloc (.cells (tc zT) 30)) (by intro ρ hρ kc kf; clear hρ; simp [execOp, go_sem, ptr, tc, zT]) ⟨_, rfl, (fun h => by cases h), ⟨rfl, hW.size, Blk.new W 30 _⟩, (Below.refl _ _).alloc (Nat.le_refl _) _, (fun _ => ⟨_, rfl, Nat.le_refl _⟩)⟩
  intro va W hW hv _
  have hx : va 5 = ptr (gOf (va 5)) ∧ w1.heap.size ≤ gOf (va 5) ∧ Blk W (gOf (va 5)) 30 (tc zT) := hv 5 (by decide)
  have hg := hx.1; have hl := hx.2.1; have hb := hx.2.2
  have h4 : va 4 = .agg (tc (⟨inst, nb, na, x, na, false, true⟩ : Ty)) := hv 4 (by decide)
  simp only [List.take_succ_cons, List.take_zero, List.drop_succ_cons, List.drop_zero, fillL, wpTail, Act.put, List.setIfInBounds_toArray, List.set_cons_zero, List.set_cons_succ, Nat.reduceAdd]
  rw [hg, h4]
  refine tail_store_T (t := (⟨inst, nb, na, x, na, false, true⟩ : Ty)) rfl rfl hb rfl ?_
  intro w2 kb hgr
  have kw : Below w1.heap.size w1 w2 := hW.grown hgr hW.size (fun j hj => by injection hj with e; omega)
  have K15b := Lib.hid (K15.out.below kw K15.out.lt); have K16b := Lib.hid (K16.out.below kw K16.out.lt); have K17 := Lib.hid kb; have KW2 := Lib.hid (KW1.out.trans (kw.mono KW1.out.size)); have H17 : Hid (w.heap.size + 2 ≤ gOf (va 5)) := Lib.hid (by have := HZ.out; omega)
  clear hW hv hx hg hl h4 hb hgr kb kw
  go_upto_region 8 with fail
  refine wp_region_grows 6 ((fun q_ _ _ => q_ = .agg (rc (⟨inst, na, na, x⟩ : Rc))) :: (fun q_ _ _ => q_ = .agg (tc (begun (⟨inst, na, na, x⟩ : Rc) 0))) :: (fun q_ _ _ => q_ = .agg (rc (⟨inst, nb, 0, ⟨#[]⟩⟩ : Rc))) :: (fun q_ _ W => ∃ g, q_ = .slice (some ⟨g, 0, none⟩) 1 1 ∧ Blk W g 23 (rc (⟨inst, nb, 0, ⟨#[]⟩⟩ : Rc))) :: (fun q_ _ _ => q_ = .agg (tc (⟨inst, na, na, x, na, false, false⟩ : Ty))) :: (fun q_ _ W => q_ = ptr (gOf q_) ∧ w2.heap.size ≤ gOf q_ ∧ Blk W (gOf q_) 30 (tc zT)) :: []) ((fun i => i == 5)) (w2.heap.size) w2 (by kernel_rfl) (by kernel_rfl) (by kernel_rfl) (Below.refl _ _) (Nat.le_refl _) ?bStab (fun i hi x W hx => by obtain rfl := eq_of_beq hi; exact ⟨_, hx.1, hx.2.2.lt⟩) ?bOps ?bFin
  case bStab => exact ⟨st_is _, st_is _, st_is _, st_slice _ _, st_is _, st_alloc _ _ _, trivial⟩
  case bOps =>
    intro Q
    refine ⟨?_, ?_, ?_, ?_, ?_, ?_, trivial⟩
    · intro ho a W hW hd hx
      have h15 : a.eval (.tmp 15) = .pointer (some ⟨w.heap.size, 0, none⟩) := (hx 15 (dst_not (by kernel_rfl))).trans rfl
      exact op_value ho (want_none rfl) (v := .agg (rc (⟨inst, na, na, x⟩ : Rc))) (by intro ρ hρ kc kf; rw [← hρ] at h15; exact run_load_B h15 (K15b.out.below hW K15b.out.lt)) ⟨_, rfl, (fun h => by cases h), rfl, Below.refl _ _, (fun h => absurd h (by decide))⟩
    · intro ho a W hW hd hx
      have h65 : a.eval (.tmp 65) = .agg (rc (⟨inst, na, na, x⟩ : Rc)) := hd 0 (by kernel_rfl)
      refine op_call ho (want_none rfl) (by intro ρ hρ kc kf; rw [← hρ] at h65; clear hρ; simp [execOp, go_sem, kc, kf, h65]) (begin_tc (⟨inst, na, na, x⟩ : Rc) 0 W) ?_
      rintro e W2 ⟨rfl, k2⟩
      exact ⟨_, rfl, _, rfl, (fun h => by cases h), rfl, k2, (fun h => absurd h (by decide))⟩
    · intro ho a W hW hd hx
      have h16 : a.eval (.tmp 16) = .pointer (some ⟨(w.heap.size + 1), 0, none⟩) := (hx 16 (dst_not (by kernel_rfl))).trans rfl
      exact op_value ho (want_none rfl) (v := .agg (rc (⟨inst, nb, 0, ⟨#[]⟩⟩ : Rc))) (by intro ρ hρ kc kf; rw [← hρ] at h16; exact run_load_B h16 (K16b.out.below hW K16b.out.lt)) ⟨_, rfl, (fun h => by cases h), rfl, Below.refl _ _, (fun h => absurd h (by decide))⟩
    · intro ho a W hW hd hx
      have h67 : a.eval (.tmp 67) = .agg (rc (⟨inst, nb, 0, ⟨#[]⟩⟩ : Rc)) := hd 2 (by kernel_rfl)
      exact op_value ho (want_none rfl) (v := .slice (some ⟨W.heap.size, 0, none⟩) 1 1) (w' := W.alloc (.cells (rc (⟨inst, nb, 0, ⟨#[]⟩⟩ : Rc)) 23)) (by intro ρ hρ kc kf; rw [← hρ] at h67; clear hρ; simp [execOp, go_sem, h67, rc]) ⟨_, rfl, (fun h => by cases h), ⟨_, rfl, Blk.new W 23 _⟩, (Below.refl _ _).alloc (Nat.le_refl _) _, (fun h => absurd h (by decide))⟩
    · intro ho a W hW hd hx
      have h66 : a.eval (.tmp 66) = .agg (tc (begun (⟨inst, na, na, x⟩ : Rc) 0)) := hd 1 (by kernel_rfl)
      obtain ⟨g68, h68, r68⟩ : ∃ g, a.eval (.tmp 68) = .slice (some ⟨g, 0, none⟩) 1 1 ∧ Blk W g 23 (rc (⟨inst, nb, 0, ⟨#[]⟩⟩ : Rc)) := (hd 3 (by kernel_rfl))
      refine op_call ho (want_none rfl) (by intro ρ hρ kc kf; rw [← hρ] at h66 h68; clear hρ; simp [execOp, go_sem, kf, h66, h68]) (CU.out g68 W r68) ?_
      rintro e W2 ⟨rfl, k2⟩
      exact ⟨_, rfl, _, rfl, (fun h => by cases h), rfl, k2, (fun h => absurd h (by decide))⟩
    · intro ho a W hW hd hx
      exact op_value ho (want_none rfl) (v := ptr W.heap.size) (w' := W.alloc (.cells (tc zT) 30)) (by intro ρ hρ kc kf; clear hρ; simp [execOp, go_sem, ptr, tc, zT]) ⟨_, rfl, (fun h => by cases h), ⟨rfl, hW.size, Blk.new W 30 _⟩, (Below.refl _ _).alloc (Nat.le_refl _) _, (fun _ => ⟨_, rfl, Nat.le_refl _⟩)⟩
  intro vb W hW hv _
  have hx : vb 5 = ptr (gOf (vb 5)) ∧ w2.heap.size ≤ gOf (vb 5) ∧ Blk W (gOf (vb 5)) 30 (tc zT) := hv 5 (by decide)
  have hg := hx.1; have hl := hx.2.1; have hb := hx.2.2
  have h4 : vb 4 = .agg (tc (⟨inst, na, na, x, na, false, false⟩ : Ty)) := hv 4 (by decide)
  simp only [List.take_succ_cons, List.take_zero, List.drop_succ_cons, List.drop_zero, fillL, wpTail, Act.put, List.setIfInBounds_toArray, List.set_cons_zero, List.set_cons_succ, Nat.reduceAdd]
  rw [hg, h4]
  refine tail_store_T (t := (⟨inst, na, na, x, na, false, false⟩ : Ty)) rfl rfl hb rfl ?_
  intro w3 kb hgr
  have kw : Below w2.heap.size w2 w3 := hW.grown hgr hW.size (fun j hj => by injection hj with e; omega)
  have K15c := Lib.hid (K15b.out.below kw K15b.out.lt); have K16c := Lib.hid (K16b.out.below kw K16b.out.lt); have K17b := Lib.hid (K17.out.below kw K17.out.lt); have K18 := Lib.hid kb; have KW3 := Lib.hid (KW2.out.trans (kw.mono KW2.out.size)); have HD : Hid (gOf (va 5) ≠ gOf (vb 5)) := Lib.hid (by have := K17.out.lt; omega); have H18 : Hid (w.heap.size + 2 ≤ gOf (vb 5)) := Lib.hid (by have := K17.out.lt; have := H17.out; omega)
  clear hW hv hx hg hl h4 hb hgr kb kw
  go_upto_region 10 with fail
  refine wp_region_grows 12 ((fun q_ _ _ => q_ = .agg (rc (⟨inst, nb, 0, ⟨#[]⟩⟩ : Rc))) :: (fun q_ _ _ => q_ = .int .i64 na) :: (fun q_ _ _ => q_ = .agg (tc (begun (⟨inst, nb, 0, ⟨#[]⟩⟩ : Rc) na))) :: (fun q_ _ _ => q_ = .agg (rc (⟨inst, na, na, x⟩ : Rc))) :: (fun q_ _ W => ∃ g, q_ = .slice (some ⟨g, 0, none⟩) 1 1 ∧ Blk W g 23 (rc (⟨inst, na, na, x⟩ : Rc))) :: (fun q_ _ _ => q_ = .agg (tc (⟨inst, nb, na, x, na, false, true⟩ : Ty))) :: (fun q_ _ _ => q_ = .agg (rc (⟨inst, na, na, x⟩ : Rc))) :: (fun q_ _ _ => q_ = .int .i64 nb) :: (fun q_ _ _ => q_ = .agg (tc (begun (⟨inst, na, na, x⟩ : Rc) nb))) :: (fun q_ _ _ => q_ = .agg (rc (⟨inst, nb, 0, ⟨#[]⟩⟩ : Rc))) :: (fun q_ _ W => ∃ g, q_ = .slice (some ⟨g, 0, none⟩) 1 1 ∧ Blk W g 23 (rc (⟨inst, nb, 0, ⟨#[]⟩⟩ : Rc))) :: (fun q_ _ _ => q_ = .agg (tc (⟨inst, na, na, x, na, false, false⟩ : Ty))) :: []) (fun _ => false) (w3.heap.size) w3 (by kernel_rfl) (by kernel_rfl) (by kernel_rfl) (Below.refl _ _) (Nat.le_refl _) ?cStab (fun _ h => by cases h) ?cOps ?cFin
  case cStab => exact ⟨st_is _, st_is _, st_is _, st_is _, st_slice _ _, st_is _, st_is _, st_is _, st_is _, st_is _, st_slice _ _, st_is _, trivial⟩
  case cOps =>
    intro Q
    refine ⟨?_, ?_, ?_, ?_, ?_, ?_, ?_, ?_, ?_, ?_, ?_, ?_, trivial⟩
    · intro ho a W hW hd hx
      have h16 : a.eval (.tmp 16) = .pointer (some ⟨(w.heap.size + 1), 0, none⟩) := (hx 16 (dst_not (by kernel_rfl))).trans rfl
      exact op_value ho (want_none rfl) (v := .agg (rc (⟨inst, nb, 0, ⟨#[]⟩⟩ : Rc))) (by intro ρ hρ kc kf; rw [← hρ] at h16; exact run_load_B h16 (K16c.out.below hW K16c.out.lt)) ⟨_, rfl, (fun h => by cases h), rfl, Below.refl _ _, (fun h => absurd h (by decide))⟩
    · intro ho a W hW hd hx
      have h0 : a.eval (.tmp 0) = .int .i64 na := (hx 0 (dst_not (by kernel_rfl))).trans rfl
      exact op_value ho (want_none rfl) (v := .int .i64 na) (by intro ρ hρ kc kf; rw [← hρ] at h0; clear hρ; simp [execOp, go_sem, h0]) ⟨_, rfl, (fun h => by cases h), rfl, Below.refl _ _, (fun h => absurd h (by decide))⟩
    · intro ho a W hW hd hx
      have h71 : a.eval (.tmp 71) = .agg (rc (⟨inst, nb, 0, ⟨#[]⟩⟩ : Rc)) := hd 0 (by kernel_rfl)
      have h72 : a.eval (.tmp 72) = .int .i64 na := hd 1 (by kernel_rfl)
      refine op_call ho (want_none rfl) (by intro ρ hρ kc kf; rw [← hρ] at h71 h72; clear hρ; simp [execOp, go_sem, kf, h71, h72]) (begin_tc (⟨inst, nb, 0, ⟨#[]⟩⟩ : Rc) na W) ?_
      rintro e W2 ⟨rfl, k2⟩
      exact ⟨_, rfl, _, rfl, (fun h => by cases h), rfl, k2, (fun h => absurd h (by decide))⟩
    · intro ho a W hW hd hx
      have h15 : a.eval (.tmp 15) = .pointer (some ⟨w.heap.size, 0, none⟩) := (hx 15 (dst_not (by kernel_rfl))).trans rfl
      exact op_value ho (want_none rfl) (v := .agg (rc (⟨inst, na, na, x⟩ : Rc))) (by intro ρ hρ kc kf; rw [← hρ] at h15; exact run_load_B h15 (K15c.out.below hW K15c.out.lt)) ⟨_, rfl, (fun h => by cases h), rfl, Below.refl _ _, (fun h => absurd h (by decide))⟩
    · intro ho a W hW hd hx
      have h74 : a.eval (.tmp 74) = .agg (rc (⟨inst, na, na, x⟩ : Rc)) := hd 3 (by kernel_rfl)
      exact op_value ho (want_none rfl) (v := .slice (some ⟨W.heap.size, 0, none⟩) 1 1) (w' := W.alloc (.cells (rc (⟨inst, na, na, x⟩ : Rc)) 23)) (by intro ρ hρ kc kf; rw [← hρ] at h74; clear hρ; simp [execOp, go_sem, h74, rc]) ⟨_, rfl, (fun h => by cases h), ⟨_, rfl, Blk.new W 23 _⟩, (Below.refl _ _).alloc (Nat.le_refl _) _, (fun h => absurd h (by decide))⟩
    · intro ho a W hW hd hx
      have h73 : a.eval (.tmp 73) = .agg (tc (begun (⟨inst, nb, 0, ⟨#[]⟩⟩ : Rc) na)) := hd 2 (by kernel_rfl)
      obtain ⟨g75, h75, r75⟩ : ∃ g, a.eval (.tmp 75) = .slice (some ⟨g, 0, none⟩) 1 1 ∧ Blk W g 23 (rc (⟨inst, na, na, x⟩ : Rc)) := (hd 4 (by kernel_rfl))
      refine op_call ho (want_none rfl) (by intro ρ hρ kc kf; rw [← hρ] at h73 h75; clear hρ; simp [execOp, go_sem, kf, h73, h75]) (CT2.out g75 W r75) ?_
      rintro e W2 ⟨rfl, k2⟩
      exact ⟨_, rfl, _, rfl, (fun h => by cases h), rfl, k2, (fun h => absurd h (by decide))⟩
    · intro ho a W hW hd hx
      have h15 : a.eval (.tmp 15) = .pointer (some ⟨w.heap.size, 0, none⟩) := (hx 15 (dst_not (by kernel_rfl))).trans rfl
      exact op_value ho (want_none rfl) (v := .agg (rc (⟨inst, na, na, x⟩ : Rc))) (by intro ρ hρ kc kf; rw [← hρ] at h15; exact run_load_B h15 (K15c.out.below hW K15c.out.lt)) ⟨_, rfl, (fun h => by cases h), rfl, Below.refl _ _, (fun h => absurd h (by decide))⟩
    · intro ho a W hW hd hx
      have h1 : a.eval (.tmp 1) = .int .i64 nb := (hx 1 (dst_not (by kernel_rfl))).trans rfl
      exact op_value ho (want_none rfl) (v := .int .i64 nb) (by intro ρ hρ kc kf; rw [← hρ] at h1; clear hρ; simp [execOp, go_sem, h1]) ⟨_, rfl, (fun h => by cases h), rfl, Below.refl _ _, (fun h => absurd h (by decide))⟩
    · intro ho a W hW hd hx
      have h77 : a.eval (.tmp 77) = .agg (rc (⟨inst, na, na, x⟩ : Rc)) := hd 6 (by kernel_rfl)
      have h78 : a.eval (.tmp 78) = .int .i64 nb := hd 7 (by kernel_rfl)
      refine op_call ho (want_none rfl) (by intro ρ hρ kc kf; rw [← hρ] at h77 h78; clear hρ; simp [execOp, go_sem, kf, h77, h78]) (begin_tc (⟨inst, na, na, x⟩ : Rc) nb W) ?_
      rintro e W2 ⟨rfl, k2⟩
      exact ⟨_, rfl, _, rfl, (fun h => by cases h), rfl, k2, (fun h => absurd h (by decide))⟩
    · intro ho a W hW hd hx
      have h16 : a.eval (.tmp 16) = .pointer (some ⟨(w.heap.size + 1), 0, none⟩) := (hx 16 (dst_not (by kernel_rfl))).trans rfl
      exact op_value ho (want_none rfl) (v := .agg (rc (⟨inst, nb, 0, ⟨#[]⟩⟩ : Rc))) (by intro ρ hρ kc kf; rw [← hρ] at h16; exact run_load_B h16 (K16c.out.below hW K16c.out.lt)) ⟨_, rfl, (fun h => by cases h), rfl, Below.refl _ _, (fun h => absurd h (by decide))⟩
    · intro ho a W hW hd hx
      have h80 : a.eval (.tmp 80) = .agg (rc (⟨inst, nb, 0, ⟨#[]⟩⟩ : Rc)) := hd 9 (by kernel_rfl)
      exact op_value ho (want_none rfl) (v := .slice (some ⟨W.heap.size, 0, none⟩) 1 1) (w' := W.alloc (.cells (rc (⟨inst, nb, 0, ⟨#[]⟩⟩ : Rc)) 23)) (by intro ρ hρ kc kf; rw [← hρ] at h80; clear hρ; simp [execOp, go_sem, h80, rc]) ⟨_, rfl, (fun h => by cases h), ⟨_, rfl, Blk.new W 23 _⟩, (Below.refl _ _).alloc (Nat.le_refl _) _, (fun h => absurd h (by decide))⟩
    · intro ho a W hW hd hx
      have h79 : a.eval (.tmp 79) = .agg (tc (begun (⟨inst, na, na, x⟩ : Rc) nb)) := hd 8 (by kernel_rfl)
      obtain ⟨g81, h81, r81⟩ : ∃ g, a.eval (.tmp 81) = .slice (some ⟨g, 0, none⟩) 1 1 ∧ Blk W g 23 (rc (⟨inst, nb, 0, ⟨#[]⟩⟩ : Rc)) := (hd 10 (by kernel_rfl))
      refine op_call ho (want_none rfl) (by intro ρ hρ kc kf; rw [← hρ] at h79 h81; clear hρ; simp [execOp, go_sem, kf, h79, h81]) (CU2.out g81 W r81) ?_
      rintro e W2 ⟨rfl, k2⟩
      exact ⟨_, rfl, _, rfl, (fun h => by cases h), rfl, k2, (fun h => absurd h (by decide))⟩
  intro vc W hW hv _
  have h5 : vc 5 = .agg (tc (⟨inst, nb, na, x, na, false, true⟩ : Ty)) := hv 5 (by decide)
  have h11 : vc 11 = .agg (tc (⟨inst, na, na, x, na, false, false⟩ : Ty)) := hv 11 (by decide)
  simp only [List.take_succ_cons, List.take_zero, List.drop_succ_cons, List.drop_zero, fillL, wpTail, Act.put, List.setIfInBounds_toArray, List.set_cons_zero, List.set_cons_succ, Nat.reduceAdd]
  rw [h5, h11]
  have kb7 := K17b.out.below hW K17b.out.lt
  have kb8 := K18.out.below hW K18.out.lt
  have kw : Below w.heap.size w W := KW3.out.trans (hW.mono KW3.out.size)
  have l7 := H17.out; have l8 := H18.out
  refine tail_store_T (t := (⟨inst, nb, na, x, na, false, true⟩ : Ty)) rfl rfl kb7 rfl ?_
  intro wa kb hgr
  have hb3 := kb8.other hgr (Ne.symm HD.out)
  have kw2 : Below w.heap.size w wa := kw.grown hgr kw.size (fun j hj => by injection hj with e; omega)
  refine tail_store_T (t := (⟨inst, na, na, x, na, false, false⟩ : Ty)) rfl rfl hb3 rfl ?_
  intro w4 kb2 hgr2
  have K17d := Lib.hid (kb.other hgr2 HD.out); have K18d := Lib.hid kb2
  have KW4 : Hid (Below w.heap.size w w4) := Lib.hid (kw2.grown hgr2 kw2.size (fun j hj => by injection hj with e; omega))
  clear hW hv h5 h11 kb7 kb8 kw hgr hgr2 hb3 kw2 kb kb2 l7 l8
  go_upto_region 11 with fail
  refine wp_region_grows 13 ((fun q_ _ _ => q_ = .agg (tc (⟨inst, nb, na, x, na, false, true⟩ : Ty))) :: (fun q_ _ _ => q_ = .bool true) :: (fun q_ _ _ => q_ = .agg (tc (⟨inst, na, na, x, na, false, false⟩ : Ty))) :: (fun q_ _ _ => q_ = .bool false) :: (fun q_ _ _ => q_ = .bool false) :: (fun q_ _ _ => q_ = .bool false) :: (fun q_ _ _ => q_ = .agg (tc (⟨inst, nb, na, x, na, false, true⟩ : Ty))) :: (fun q_ _ _ => q_ = .bool true) :: (fun q_ _ _ => q_ = .int .i64 na) :: (fun q_ _ _ => q_ = .int .i64 nb) :: (fun q_ _ _ => q_ = .bool true) :: (fun q_ _ _ => q_ = .bool false) :: (fun q_ _ _ => q_ = .bool false) :: []) (fun _ => false) (w4.heap.size) w4 (by kernel_rfl) (by kernel_rfl) (by kernel_rfl) (Below.refl _ _) (Nat.le_refl _) ?dStab (fun _ h => by cases h) ?dOps ?dFin
  case dStab => exact ⟨st_is _, st_is _, st_is _, st_is _, st_is _, st_is _, st_is _, st_is _, st_is _, st_is _, st_is _, st_is _, st_is _, trivial⟩
  case dOps =>
    intro Q
    refine ⟨?_, ?_, ?_, ?_, ?_, ?_, ?_, ?_, ?_, ?_, ?_, ?_, ?_, trivial⟩
    · intro ho a W hW hd hx
      have h17 : a.eval (.tmp 17) = .pointer (some ⟨(gOf (va 5)), 0, none⟩) := (hx 17 (dst_not (by kernel_rfl))).trans rfl
      exact op_value ho (want_none rfl) (v := .agg (tc (⟨inst, nb, na, x, na, false, true⟩ : Ty))) (by intro ρ hρ kc kf; rw [← hρ] at h17; exact run_load_T h17 (K17d.out.below hW K17d.out.lt)) ⟨_, rfl, (fun h => by cases h), rfl, Below.refl _ _, (fun h => absurd h (by decide))⟩
    · intro ho a W hW hd hx
      have h83 : a.eval (.tmp 83) = .agg (tc (⟨inst, nb, na, x, na, false, true⟩ : Ty)) := hd 0 (by kernel_rfl)
      refine op_call ho (want_none rfl) (by intro ρ hρ kc kf; rw [← hρ] at h83; clear hρ; simp [execOp, go_sem, kf, h83]) (stops_tc (⟨inst, nb, na, x, na, false, true⟩ : Ty) W) ?_
      rintro e W2 ⟨rfl, k2⟩
      exact ⟨_, rfl, _, rfl, (fun h => by cases h), rfl, k2, (fun h => absurd h (by decide))⟩
    · intro ho a W hW hd hx
      have h18 : a.eval (.tmp 18) = .pointer (some ⟨(gOf (vb 5)), 0, none⟩) := (hx 18 (dst_not (by kernel_rfl))).trans rfl
      exact op_value ho (want_none rfl) (v := .agg (tc (⟨inst, na, na, x, na, false, false⟩ : Ty))) (by intro ρ hρ kc kf; rw [← hρ] at h18; exact run_load_T h18 (K18d.out.below hW K18d.out.lt)) ⟨_, rfl, (fun h => by cases h), rfl, Below.refl _ _, (fun h => absurd h (by decide))⟩
    · intro ho a W hW hd hx
      have h85 : a.eval (.tmp 85) = .agg (tc (⟨inst, na, na, x, na, false, false⟩ : Ty)) := hd 2 (by kernel_rfl)
      refine op_call ho (want_none rfl) (by intro ρ hρ kc kf; rw [← hρ] at h85; clear hρ; simp [execOp, go_sem, kf, h85]) (stops_tc (⟨inst, na, na, x, na, false, false⟩ : Ty) W) ?_
      rintro e W2 ⟨rfl, k2⟩
      exact ⟨_, rfl, _, rfl, (fun h => by cases h), rfl, k2, (fun h => absurd h (by decide))⟩
    · intro ho a W hW hd hx
      have h84 : a.eval (.tmp 84) = .bool true := hd 1 (by kernel_rfl)
      have h86 : a.eval (.tmp 86) = .bool false := hd 3 (by kernel_rfl)
      exact op_value ho (want_none rfl) (v := .bool false) (by intro ρ hρ kc kf; rw [← hρ] at h84 h86; clear hρ; simp [execOp, go_sem, h84, h86]) ⟨_, rfl, (fun h => by cases h), rfl, Below.refl _ _, (fun h => absurd h (by decide))⟩
    · intro ho a W hW hd hx
      have h87 : a.eval (.tmp 87) = .bool false := hd 4 (by kernel_rfl)
      exact op_value ho (want_none rfl) (v := .bool false) (by intro ρ hρ kc kf; rw [← hρ] at h87; clear hρ; simp [execOp, go_sem, h87]) ⟨_, rfl, (fun h => by cases h), rfl, Below.refl _ _, (fun h => absurd h (by decide))⟩
    · intro ho a W hW hd hx
      have h88 : a.eval (.tmp 88) = .bool false := hd 5 (by kernel_rfl)
      have h17 : a.eval (.tmp 17) = .pointer (some ⟨(gOf (va 5)), 0, none⟩) := (hx 17 (dst_not (by kernel_rfl))).trans rfl
      exact op_value ho (want_yes rfl (show valAt _ a 5 = _ from h88)) (v := .agg (tc (⟨inst, nb, na, x, na, false, true⟩ : Ty))) (by intro ρ hρ kc kf; rw [← hρ] at h17; exact run_load_T h17 (K17d.out.below hW K17d.out.lt)) ⟨_, rfl, (fun h => by cases h), rfl, Below.refl _ _, (fun h => absurd h (by decide))⟩
    · intro ho a W hW hd hx
      have h88 : a.eval (.tmp 88) = .bool false := hd 5 (by kernel_rfl)
      have h89 : a.eval (.tmp 89) = .agg (tc (⟨inst, nb, na, x, na, false, true⟩ : Ty)) := hd 6 (by kernel_rfl)
      refine op_call ho (want_yes rfl (show valAt _ a 5 = _ from h88)) (by intro ρ hρ kc kf; rw [← hρ] at h89; clear hρ; simp [execOp, go_sem, kf, h89]) (stops_tc (⟨inst, nb, na, x, na, false, true⟩ : Ty) W) ?_
      rintro e W2 ⟨rfl, k2⟩
      exact ⟨_, rfl, _, rfl, (fun h => by cases h), rfl, k2, (fun h => absurd h (by decide))⟩
    · intro ho a W hW hd hx
      have h88 : a.eval (.tmp 88) = .bool false := hd 5 (by kernel_rfl)
      have h0 : a.eval (.tmp 0) = .int .i64 na := (hx 0 (dst_not (by kernel_rfl))).trans rfl
      exact op_value ho (want_yes rfl (show valAt _ a 5 = _ from h88)) (v := .int .i64 na) (by intro ρ hρ kc kf; rw [← hρ] at h0; clear hρ; simp [execOp, go_sem, h0]) ⟨_, rfl, (fun h => by cases h), rfl, Below.refl _ _, (fun h => absurd h (by decide))⟩
    · intro ho a W hW hd hx
      have h88 : a.eval (.tmp 88) = .bool false := hd 5 (by kernel_rfl)
      have h1 : a.eval (.tmp 1) = .int .i64 nb := (hx 1 (dst_not (by kernel_rfl))).trans rfl
      exact op_value ho (want_yes rfl (show valAt _ a 5 = _ from h88)) (v := .int .i64 nb) (by intro ρ hρ kc kf; rw [← hρ] at h1; clear hρ; simp [execOp, go_sem, h1]) ⟨_, rfl, (fun h => by cases h), rfl, Below.refl _ _, (fun h => absurd h (by decide))⟩
    · intro ho a W hW hd hx
      have h88 : a.eval (.tmp 88) = .bool false := hd 5 (by kernel_rfl)
      have h91 : a.eval (.tmp 91) = .int .i64 na := hd 8 (by kernel_rfl)
      have h92 : a.eval (.tmp 92) = .int .i64 nb := hd 9 (by kernel_rfl)
      exact op_value ho (want_yes rfl (show valAt _ a 5 = _ from h88)) (v := .bool true) (by intro ρ hρ kc kf; rw [← hρ] at h91 h92; clear hρ; simp [execOp, go_sem, h91, h92, HO.out]) ⟨_, rfl, (fun h => by cases h), rfl, Below.refl _ _, (fun h => absurd h (by decide))⟩
    · intro ho a W hW hd hx
      have h88 : a.eval (.tmp 88) = .bool false := hd 5 (by kernel_rfl)
      have h90 : a.eval (.tmp 90) = .bool true := hd 7 (by kernel_rfl)
      have h93 : a.eval (.tmp 93) = .bool true := hd 10 (by kernel_rfl)
      exact op_value ho (want_yes rfl (show valAt _ a 5 = _ from h88)) (v := .bool false) (by intro ρ hρ kc kf; rw [← hρ] at h90 h93; clear hρ; simp [execOp, go_sem, h90, h93]) ⟨_, rfl, (fun h => by cases h), rfl, Below.refl _ _, (fun h => absurd h (by decide))⟩
    · intro ho a W hW hd hx
      have h88 : a.eval (.tmp 88) = .bool false := hd 5 (by kernel_rfl)
      have h94 : a.eval (.tmp 94) = .bool false := hd 11 (by kernel_rfl)
      exact op_value ho (want_none rfl) (v := .bool false) (by intro ρ hρ kc kf; rw [← hρ] at h88 h94; clear hρ; simp [execOp, go_sem, h88, h94]) ⟨_, rfl, (fun h => by cases h), rfl, Below.refl _ _, (fun h => absurd h (by decide))⟩
  intro vd w5 hW hv _
  have h12 : vd 12 = .bool false := hv 12 (by decide)
  simp only [List.take_succ_cons, List.take_zero, List.drop_succ_cons, List.drop_zero, fillL, wpTail, Act.put, List.setIfInBounds_toArray, List.set_cons_zero, List.set_cons_succ, Nat.reduceAdd]
  rw [h12]
  have K17e := Lib.hid (K17d.out.below hW K17d.out.lt); have K18e := Lib.hid (K18d.out.below hW K18d.out.lt); have KW5 := Lib.hid (KW4.out.trans (hW.mono KW4.out.size))
  clear hW hv h12
  go_upto_region 13 with fail
  refine wp_region_grows 32 ((fun q_ _ _ => q_ = .agg (tc (⟨inst, nb, na, x, na, false, true⟩ : Ty))) :: (fun q_ _ _ => q_ = .string y) :: (fun q_ _ _ => q_ = .string x) :: (fun q_ _ _ => q_ = .string x) :: (fun q_ _ _ => q_ = .bool true) :: (fun q_ _ _ => q_ = .bool true) :: (fun q_ _ _ => q_ = .bool true) :: (fun q_ _ _ => q_ = undef) :: (fun q_ _ _ => q_ = undef) :: (fun q_ _ _ => q_ = undef) :: (fun q_ _ _ => q_ = .bool true) :: (fun q_ _ _ => q_ = .bool true) :: (fun q_ _ _ => q_ = .bool true) :: (fun q_ _ _ => q_ = .pointer (some ⟨(gOf (va 5)), 4, none⟩)) :: (fun q_ _ _ => q_ = .int .i64 na) :: (fun q_ _ _ => q_ = .int .i64 na) :: (fun q_ _ _ => q_ = .int .i64 nb) :: (fun q_ _ _ => q_ = .int .i64 na) :: (fun q_ _ _ => q_ = .bool true) :: (fun q_ _ _ => q_ = .bool true) :: (fun q_ _ _ => q_ = .bool true) :: (fun q_ _ _ => q_ = .pointer (some ⟨(gOf (vb 5)), 4, none⟩)) :: (fun q_ _ _ => q_ = .int .i64 na) :: (fun q_ _ _ => q_ = .int .i64 na) :: (fun q_ _ _ => q_ = .int .i64 nb) :: (fun q_ _ _ => q_ = .int .i64 na) :: (fun q_ _ _ => q_ = .bool true) :: (fun q_ _ _ => q_ = .bool true) :: (fun q_ _ _ => q_ = .bool true) :: (fun q_ _ _ => q_ = .bool true) :: (fun q_ _ _ => q_ = .bool true) :: (fun q_ _ _ => q_ = .bool true) :: []) (fun _ => false) (w5.heap.size) w5 (by kernel_rfl) (by kernel_rfl) (by kernel_rfl) (Below.refl _ _) (Nat.le_refl _) ?eStab (fun _ h => by cases h) ?eOps ?eFin
  case eStab => exact ⟨st_is _, st_is _, st_is _, st_is _, st_is _, st_is _, st_is _, st_is _, st_is _, st_is _, st_is _, st_is _, st_is _, st_is _, st_is _, st_is _, st_is _, st_is _, st_is _, st_is _, st_is _, st_is _, st_is _, st_is _, st_is _, st_is _, st_is _, st_is _, st_is _, st_is _, st_is _, st_is _, trivial⟩
  case eOps =>
    intro Q
    refine ⟨?_, ?_, ?_, ?_, ?_, ?_, ?_, ?_, ?_, ?_, ?_, ?_, ?_, ?_, ?_, ?_, ?_, ?_, ?_, ?_, ?_, ?_, ?_, ?_, ?_, ?_, ?_, ?_, ?_, ?_, ?_, ?_, trivial⟩
    · intro ho a W hW hd hx
      have h17 : a.eval (.tmp 17) = .pointer (some ⟨(gOf (va 5)), 0, none⟩) := (hx 17 (dst_not (by kernel_rfl))).trans rfl
      exact op_value ho (want_none rfl) (v := .agg (tc (⟨inst, nb, na, x, na, false, true⟩ : Ty))) (by intro ρ hρ kc kf; rw [← hρ] at h17; exact run_load_T h17 (K17e.out.below hW K17e.out.lt)) ⟨_, rfl, (fun h => by cases h), rfl, Below.refl _ _, (fun h => absurd h (by decide))⟩
    · intro ho a W hW hd hx
      have h3 : a.eval (.tmp 3) = .string y := (hx 3 (dst_not (by kernel_rfl))).trans rfl
      exact op_value ho (want_none rfl) (v := .string y) (by intro ρ hρ kc kf; rw [← hρ] at h3; clear hρ; simp [execOp, go_sem, h3]) ⟨_, rfl, (fun h => by cases h), rfl, Below.refl _ _, (fun h => absurd h (by decide))⟩
    · intro ho a W hW hd hx
      have h96 : a.eval (.tmp 96) = .agg (tc (⟨inst, nb, na, x, na, false, true⟩ : Ty)) := hd 0 (by kernel_rfl)
      have h97 : a.eval (.tmp 97) = .string y := hd 1 (by kernel_rfl)
      refine op_call ho (want_none rfl) (by intro ρ hρ kc kf; rw [← hρ] at h96 h97; clear hρ; simp [execOp, go_sem, kf, h96, h97]) (CV.out W) ?_
      rintro e W2 ⟨rfl, k2⟩
      exact ⟨_, rfl, _, rfl, (fun h => by cases h), rfl, k2, (fun h => absurd h (by decide))⟩
    · intro ho a W hW hd hx
      have h2 : a.eval (.tmp 2) = .string x := (hx 2 (dst_not (by kernel_rfl))).trans rfl
      exact op_value ho (want_none rfl) (v := .string x) (by intro ρ hρ kc kf; rw [← hρ] at h2; clear hρ; simp [execOp, go_sem, h2]) ⟨_, rfl, (fun h => by cases h), rfl, Below.refl _ _, (fun h => absurd h (by decide))⟩
    · intro ho a W hW hd hx
      have h98 : a.eval (.tmp 98) = .string x := hd 2 (by kernel_rfl)
      have h99 : a.eval (.tmp 99) = .string x := hd 3 (by kernel_rfl)
      exact op_value ho (want_none rfl) (v := .bool true) (by intro ρ hρ kc kf; rw [← hρ] at h98 h99; clear hρ; simp [execOp, go_sem, h98, h99]) ⟨_, rfl, (fun h => by cases h), rfl, Below.refl _ _, (fun h => absurd h (by decide))⟩
    · intro ho a W hW hd hx
      have h6 : a.eval (.tmp 6) = .bool true := (hx 6 (dst_not (by kernel_rfl))).trans rfl
      exact op_value ho (want_none rfl) (v := .bool true) (by intro ρ hρ kc kf; rw [← hρ] at h6; clear hρ; simp [execOp, go_sem, h6]) ⟨_, rfl, (fun h => by cases h), rfl, Below.refl _ _, (fun h => absurd h (by decide))⟩
    · intro ho a W hW hd hx
      have h101 : a.eval (.tmp 101) = .bool true := hd 5 (by kernel_rfl)
      exact op_value ho (want_none rfl) (v := .bool true) (by intro ρ hρ kc kf; rw [← hρ] at h101; clear hρ; simp [execOp, go_sem, h101]) ⟨_, rfl, (fun h => by cases h), rfl, Below.refl _ _, (fun h => absurd h (by decide))⟩
    · intro ho a W hW hd hx
      have h102 : a.eval (.tmp 102) = .bool true := hd 6 (by kernel_rfl)
      have h2 : a.eval (.tmp 2) = .string x := (hx 2 (dst_not (by kernel_rfl))).trans rfl
      exact op_none ho (want_no (c := true) rfl (show valAt _ a 6 = _ from h102) (by decide)) ⟨_, rfl, (fun h => by cases h), rfl, Below.refl _ _, (fun h => absurd h (by decide))⟩
    · intro ho a W hW hd hx
      have h102 : a.eval (.tmp 102) = .bool true := hd 6 (by kernel_rfl)
      have h3 : a.eval (.tmp 3) = .string y := (hx 3 (dst_not (by kernel_rfl))).trans rfl
      exact op_none ho (want_no (c := true) rfl (show valAt _ a 6 = _ from h102) (by decide)) ⟨_, rfl, (fun h => by cases h), rfl, Below.refl _ _, (fun h => absurd h (by decide))⟩
    · intro ho a W hW hd hx
      have h102 : a.eval (.tmp 102) = .bool true := hd 6 (by kernel_rfl)
      have h103 : a.eval (.tmp 103) = undef := hd 7 (by kernel_rfl)
      have h104 : a.eval (.tmp 104) = undef := hd 8 (by kernel_rfl)
      exact op_none ho (want_no (c := true) rfl (show valAt _ a 6 = _ from h102) (by decide)) ⟨_, rfl, (fun h => by cases h), rfl, Below.refl _ _, (fun h => absurd h (by decide))⟩
    · intro ho a W hW hd hx
      have h102 : a.eval (.tmp 102) = .bool true := hd 6 (by kernel_rfl)
      have h105 : a.eval (.tmp 105) = undef := hd 9 (by kernel_rfl)
      exact op_value ho (want_none rfl) (v := .bool true) (by intro ρ hρ kc kf; rw [← hρ] at h102; clear hρ; simp [execOp, go_sem, kc, h102]) ⟨_, rfl, (fun h => by cases h), rfl, Below.refl _ _, (fun h => absurd h (by decide))⟩
    · intro ho a W hW hd hx
      have h100 : a.eval (.tmp 100) = .bool true := hd 4 (by kernel_rfl)
      have h106 : a.eval (.tmp 106) = .bool true := hd 10 (by kernel_rfl)
      exact op_value ho (want_none rfl) (v := .bool true) (by intro ρ hρ kc kf; rw [← hρ] at h100 h106; clear hρ; simp [execOp, go_sem, h100, h106]) ⟨_, rfl, (fun h => by cases h), rfl, Below.refl _ _, (fun h => absurd h (by decide))⟩
    · intro ho a W hW hd hx
      have h107 : a.eval (.tmp 107) = .bool true := hd 11 (by kernel_rfl)
      exact op_value ho (want_none rfl) (v := .bool true) (by intro ρ hρ kc kf; rw [← hρ] at h107; clear hρ; simp [execOp, go_sem, h107]) ⟨_, rfl, (fun h => by cases h), rfl, Below.refl _ _, (fun h => absurd h (by decide))⟩
    · intro ho a W hW hd hx
      have h108 : a.eval (.tmp 108) = .bool true := hd 12 (by kernel_rfl)
      have h17 : a.eval (.tmp 17) = .pointer (some ⟨(gOf (va 5)), 0, none⟩) := (hx 17 (dst_not (by kernel_rfl))).trans rfl
      exact op_value ho (want_yes rfl (show valAt _ a 12 = _ from h108)) (v := .pointer (some ⟨(gOf (va 5)), 4, none⟩)) (by intro ρ hρ kc kf; rw [← hρ] at h17; clear hρ; simp [execOp, go_sem, h17]) ⟨_, rfl, (fun h => by cases h), rfl, Below.refl _ _, (fun h => absurd h (by decide))⟩
    · intro ho a W hW hd hx
      have h108 : a.eval (.tmp 108) = .bool true := hd 12 (by kernel_rfl)
      have h109 : a.eval (.tmp 109) = .pointer (some ⟨(gOf (va 5)), 4, none⟩) := hd 13 (by kernel_rfl)
      have hcell : W.cell? ⟨(gOf (va 5)), 4, none⟩ = some (.int .i64 na) := by rw [(K17e.out.below hW K17e.out.lt).cell 4]; rfl
      exact op_value ho (want_yes rfl (show valAt _ a 12 = _ from h108)) (v := .int .i64 na) (by intro ρ hρ kc kf; rw [← hρ] at h109; clear hρ; simp [execOp, go_sem, h109, hcell]) ⟨_, rfl, (fun h => by cases h), rfl, Below.refl _ _, (fun h => absurd h (by decide))⟩
    · intro ho a W hW hd hx
      have h108 : a.eval (.tmp 108) = .bool true := hd 12 (by kernel_rfl)
      have h0 : a.eval (.tmp 0) = .int .i64 na := (hx 0 (dst_not (by kernel_rfl))).trans rfl
      exact op_value ho (want_yes rfl (show valAt _ a 12 = _ from h108)) (v := .int .i64 na) (by intro ρ hρ kc kf; rw [← hρ] at h0; clear hρ; simp [execOp, go_sem, h0]) ⟨_, rfl, (fun h => by cases h), rfl, Below.refl _ _, (fun h => absurd h (by decide))⟩
    · intro ho a W hW hd hx
      have h108 : a.eval (.tmp 108) = .bool true := hd 12 (by kernel_rfl)
      have h1 : a.eval (.tmp 1) = .int .i64 nb := (hx 1 (dst_not (by kernel_rfl))).trans rfl
      exact op_value ho (want_yes rfl (show valAt _ a 12 = _ from h108)) (v := .int .i64 nb) (by intro ρ hρ kc kf; rw [← hρ] at h1; clear hρ; simp [execOp, go_sem, h1]) ⟨_, rfl, (fun h => by cases h), rfl, Below.refl _ _, (fun h => absurd h (by decide))⟩
    · intro ho a W hW hd hx
      have h108 : a.eval (.tmp 108) = .bool true := hd 12 (by kernel_rfl)
      have h111 : a.eval (.tmp 111) = .int .i64 na := hd 15 (by kernel_rfl)
      have h112 : a.eval (.tmp 112) = .int .i64 nb := hd 16 (by kernel_rfl)
      exact op_value ho (want_yes rfl (show valAt _ a 12 = _ from h108)) (v := .int .i64 na) (by intro ρ hρ kc kf; rw [← hρ] at h111 h112; exact (run_max h111 h112).trans (by rw [HMX.out])) ⟨_, rfl, (fun h => by cases h), rfl, Below.refl _ _, (fun h => absurd h (by decide))⟩
    · intro ho a W hW hd hx
      have h108 : a.eval (.tmp 108) = .bool true := hd 12 (by kernel_rfl)
      have h110 : a.eval (.tmp 110) = .int .i64 na := hd 14 (by kernel_rfl)
      have h113 : a.eval (.tmp 113) = .int .i64 na := hd 17 (by kernel_rfl)
      exact op_value ho (want_yes rfl (show valAt _ a 12 = _ from h108)) (v := .bool true) (by intro ρ hρ kc kf; rw [← hρ] at h110 h113; clear hρ; simp [execOp, go_sem, h110, h113]) ⟨_, rfl, (fun h => by cases h), rfl, Below.refl _ _, (fun h => absurd h (by decide))⟩
    · intro ho a W hW hd hx
      have h108 : a.eval (.tmp 108) = .bool true := hd 12 (by kernel_rfl)
      have h114 : a.eval (.tmp 114) = .bool true := hd 18 (by kernel_rfl)
      exact op_value ho (want_none rfl) (v := .bool true) (by intro ρ hρ kc kf; rw [← hρ] at h108 h114; clear hρ; simp [execOp, go_sem, h108, h114]) ⟨_, rfl, (fun h => by cases h), rfl, Below.refl _ _, (fun h => absurd h (by decide))⟩
    · intro ho a W hW hd hx
      have h115 : a.eval (.tmp 115) = .bool true := hd 19 (by kernel_rfl)
      exact op_value ho (want_none rfl) (v := .bool true) (by intro ρ hρ kc kf; rw [← hρ] at h115; clear hρ; simp [execOp, go_sem, h115]) ⟨_, rfl, (fun h => by cases h), rfl, Below.refl _ _, (fun h => absurd h (by decide))⟩
    · intro ho a W hW hd hx
      have h116 : a.eval (.tmp 116) = .bool true := hd 20 (by kernel_rfl)
      have h18 : a.eval (.tmp 18) = .pointer (some ⟨(gOf (vb 5)), 0, none⟩) := (hx 18 (dst_not (by kernel_rfl))).trans rfl
      exact op_value ho (want_yes rfl (show valAt _ a 20 = _ from h116)) (v := .pointer (some ⟨(gOf (vb 5)), 4, none⟩)) (by intro ρ hρ kc kf; rw [← hρ] at h18; clear hρ; simp [execOp, go_sem, h18]) ⟨_, rfl, (fun h => by cases h), rfl, Below.refl _ _, (fun h => absurd h (by decide))⟩
    · intro ho a W hW hd hx
      have h116 : a.eval (.tmp 116) = .bool true := hd 20 (by kernel_rfl)
      have h117 : a.eval (.tmp 117) = .pointer (some ⟨(gOf (vb 5)), 4, none⟩) := hd 21 (by kernel_rfl)
      have hcell : W.cell? ⟨(gOf (vb 5)), 4, none⟩ = some (.int .i64 na) := by rw [(K18e.out.below hW K18e.out.lt).cell 4]; rfl
      exact op_value ho (want_yes rfl (show valAt _ a 20 = _ from h116)) (v := .int .i64 na) (by intro ρ hρ kc kf; rw [← hρ] at h117; clear hρ; simp [execOp, go_sem, h117, hcell]) ⟨_, rfl, (fun h => by cases h), rfl, Below.refl _ _, (fun h => absurd h (by decide))⟩
    · intro ho a W hW hd hx
      have h116 : a.eval (.tmp 116) = .bool true := hd 20 (by kernel_rfl)
      have h0 : a.eval (.tmp 0) = .int .i64 na := (hx 0 (dst_not (by kernel_rfl))).trans rfl
      exact op_value ho (want_yes rfl (show valAt _ a 20 = _ from h116)) (v := .int .i64 na) (by intro ρ hρ kc kf; rw [← hρ] at h0; clear hρ; simp [execOp, go_sem, h0]) ⟨_, rfl, (fun h => by cases h), rfl, Below.refl _ _, (fun h => absurd h (by decide))⟩
    · intro ho a W hW hd hx
      have h116 : a.eval (.tmp 116) = .bool true := hd 20 (by kernel_rfl)
      have h1 : a.eval (.tmp 1) = .int .i64 nb := (hx 1 (dst_not (by kernel_rfl))).trans rfl
      exact op_value ho (want_yes rfl (show valAt _ a 20 = _ from h116)) (v := .int .i64 nb) (by intro ρ hρ kc kf; rw [← hρ] at h1; clear hρ; simp [execOp, go_sem, h1]) ⟨_, rfl, (fun h => by cases h), rfl, Below.refl _ _, (fun h => absurd h (by decide))⟩
    · intro ho a W hW hd hx
      have h116 : a.eval (.tmp 116) = .bool true := hd 20 (by kernel_rfl)
      have h119 : a.eval (.tmp 119) = .int .i64 na := hd 23 (by kernel_rfl)
      have h120 : a.eval (.tmp 120) = .int .i64 nb := hd 24 (by kernel_rfl)
      exact op_value ho (want_yes rfl (show valAt _ a 20 = _ from h116)) (v := .int .i64 na) (by intro ρ hρ kc kf; rw [← hρ] at h119 h120; exact (run_max h119 h120).trans (by rw [HMX.out])) ⟨_, rfl, (fun h => by cases h), rfl, Below.refl _ _, (fun h => absurd h (by decide))⟩
    · intro ho a W hW hd hx
      have h116 : a.eval (.tmp 116) = .bool true := hd 20 (by kernel_rfl)
      have h118 : a.eval (.tmp 118) = .int .i64 na := hd 22 (by kernel_rfl)
      have h121 : a.eval (.tmp 121) = .int .i64 na := hd 25 (by kernel_rfl)
      exact op_value ho (want_yes rfl (show valAt _ a 20 = _ from h116)) (v := .bool true) (by intro ρ hρ kc kf; rw [← hρ] at h118 h121; clear hρ; simp [execOp, go_sem, h118, h121]) ⟨_, rfl, (fun h => by cases h), rfl, Below.refl _ _, (fun h => absurd h (by decide))⟩
    · intro ho a W hW hd hx
      have h116 : a.eval (.tmp 116) = .bool true := hd 20 (by kernel_rfl)
      have h122 : a.eval (.tmp 122) = .bool true := hd 26 (by kernel_rfl)
      exact op_value ho (want_none rfl) (v := .bool true) (by intro ρ hρ kc kf; rw [← hρ] at h116 h122; clear hρ; simp [execOp, go_sem, h116, h122]) ⟨_, rfl, (fun h => by cases h), rfl, Below.refl _ _, (fun h => absurd h (by decide))⟩
    · intro ho a W hW hd hx
      have h123 : a.eval (.tmp 123) = .bool true := hd 27 (by kernel_rfl)
      exact op_value ho (want_none rfl) (v := .bool true) (by intro ρ hρ kc kf; rw [← hρ] at h123; clear hρ; simp [execOp, go_sem, h123]) ⟨_, rfl, (fun h => by cases h), rfl, Below.refl _ _, (fun h => absurd h (by decide))⟩
    · intro ho a W hW hd hx
      have h124 : a.eval (.tmp 124) = .bool true := hd 28 (by kernel_rfl)
      refine op_call ho (want_yes rfl (show valAt _ a 28 = _ from h124)) (by intro ρ hρ kc kf; clear hρ; simp [execOp, go_sem, kf]) (wakes_any W) ?_
      rintro e W2 ⟨rfl, k2⟩
      exact ⟨_, rfl, _, rfl, (fun h => by cases h), rfl, k2, (fun h => absurd h (by decide))⟩
    · intro ho a W hW hd hx
      have h124 : a.eval (.tmp 124) = .bool true := hd 28 (by kernel_rfl)
      have h125 : a.eval (.tmp 125) = .bool true := hd 29 (by kernel_rfl)
      exact op_value ho (want_none rfl) (v := .bool true) (by intro ρ hρ kc kf; rw [← hρ] at h124 h125; clear hρ; simp [execOp, go_sem, h124, h125]) ⟨_, rfl, (fun h => by cases h), rfl, Below.refl _ _, (fun h => absurd h (by decide))⟩
    · intro ho a W hW hd hx
      have h126 : a.eval (.tmp 126) = .bool true := hd 30 (by kernel_rfl)
      exact op_value ho (want_none rfl) (v := .bool true) (by intro ρ hρ kc kf; rw [← hρ] at h126; clear hρ; simp [execOp, go_sem, h126]) ⟨_, rfl, (fun h => by cases h), rfl, Below.refl _ _, (fun h => absurd h (by decide))⟩
  intro ve W hW hv _
  have hlast : ve 31 = .bool true := hv 31 (by decide)
  simp only [List.take_succ_cons, List.take_zero, List.drop_succ_cons, List.drop_zero, fillL, wpTail, Act.put, List.setIfInBounds_toArray, List.set_cons_zero, List.set_cons_succ, Nat.reduceAdd]
  rw [hlast]
  go_wp2
  go_ret
  exact ⟨rfl, KW5.out.trans (hW.mono KW5.out.size)⟩

end Go.Proofs.Ytilpcoebpinmfaa
