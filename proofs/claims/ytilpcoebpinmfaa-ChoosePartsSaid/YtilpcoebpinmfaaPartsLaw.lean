/-
  The walk of breakwaterlaw13.ChooseParts. (The regions' lines are printed by choose_parts.py.)
-/
import Derived.Test.YtilpcoebpinmfaaLawLib
import Derived.Test.YtilpcoebpinmfaaTwice
namespace Go.Proofs.Ytilpcoebpinmfaa
open Go.RowKit

theorem RdR.drop {w : World} {B n d : Nat} {A A2 : Option Addr} {l : List Rc} (h : RdR w B A n l) (h2 : 0 < n - d → ∃ ad, A = some ad ∧ A2 = some (ad.add (d * 4))) : RdR w B A2 (n - d) (l.drop d) := by
  refine ⟨by rw [List.length_drop, h.1], fun hn => ?_⟩
  obtain ⟨ad, e1, e2⟩ := h2 hn
  obtain ⟨ad', e3, hb, hc⟩ := h.2 (by omega)
  rw [e1] at e3
  injection e3 with e3
  subst e3
  refine ⟨_, e2, by rw [blk_add]; exact hb, fun k r hr => ?_⟩
  rw [List.getElem?_drop] at hr
  obtain ⟨q0, q1, q2, q3⟩ := hc _ r hr
  simp only [add_two]
  rw [show d * 4 + k * 4 = (d + k) * 4 from by omega, show d * 4 + (k * 4 + 1) = (d + k) * 4 + 1 from by omega, show d * 4 + (k * 4 + 2) = (d + k) * 4 + 2 from by omega, show d * 4 + (k * 4 + 3) = (d + k) * 4 + 3 from by omega]
  exact ⟨q0, q1, q2, q3⟩
theorem RdR.take {w : World} {B n d : Nat} {A : Option Addr} {l : List Rc} (h : RdR w B A n l) (hd : d ≤ n) : RdR w B A d (l.take d) := by
  refine ⟨by rw [List.length_take, h.1]; omega, fun hn => ?_⟩
  obtain ⟨ad, e, hb, hc⟩ := h.2 (by omega)
  refine ⟨ad, e, hb, fun k r hr => hc k r ?_⟩
  have hk : k < d := by
    have := (List.getElem?_eq_some_iff.1 hr).1
    simp at this; omega
  rw [← hr, List.getElem?_take_of_lt hk]

set_option maxRecDepth 100000 in
set_option maxHeartbeats 4000000 in
theorem parts_main (own : Rc) (A : Option Addr) (n c : Nat) (l : List Rc) (cut : Int) (w : World) (hl : RdR w w.heap.size A n l) (hn : n ≤ 60) (hs : Sl A n c) (hg : grB l = false) (ho : grB [own] = false) :
    Calls Try.prog 7 #[.agg (rc own), .slice A n c, .int .i64 cut] w fun e w' => e = .returned (.bool true) ∧ Below w.heap.size w w' := by
  change Calls Try.prog 7 #[.agg #[.int .i64 own.inst, .int .i64 own.mbal, .int .i64 own.bal, .string own.val], .slice A n c, .int .i64 cut] w _
  obtain ⟨d, hd, hcut⟩ := cut_in cut n hn
  obtain ⟨A2, c2, hR, hA2⟩ : ∃ A2 c2, (∀ (ρ : Operand → Value) (W : World) (x y : Nat) (dst : Option Tmp) (ty : TypeId) (pos : String) (af : Array Edge) (gd : Option (Nat × Bool)), ρ (.tmp x) = .slice A n c → ρ (.tmp y) = .int .i64 (d : Int) →
      (execOp ρ ⟨dst, .slice 24 (.tmp x) (some (.tmp y)) none none, ty, pos, af, gd⟩).run Try.prog W = .ok (.value (.slice A2 (n - d) c2)) W) ∧ (0 < n - d → ∃ ad, A = some ad ∧ A2 = some (ad.add (d * 4))) := by
    obtain ⟨A2, c2, h1, h2⟩ := run_cut_los hs hd
    exact ⟨A2, c2, fun ρ W x y dst ty pos af gd => h1, h2⟩
  obtain ⟨T, hT⟩ : ∃ T, T = countT (begun own 0) l := ⟨_, rfl⟩
  obtain ⟨TM, hTM⟩ : ∃ TM, TM = countT (begun own 0) (l.take d) := ⟨_, rfl⟩
  have cA := fun W (h : Below w.heap.size w W) => count_any (begun own 0) A n c w.heap.size l W (hl.below h) h.size (by omega)
  have cB := fun W (h : Below w.heap.size w W) => count_any (begun own 0) A d c w.heap.size (l.take d) W ((hl.take hd).below h) h.size (by omega)
  have cC := fun W (h : Below w.heap.size w W) => count_any TM A2 (n - d) c2 w.heap.size (l.drop d) W ((hl.drop hA2).below h) h.size (by omega)
  have cD := fun W (h : Below w.heap.size w W) => count_any T A n c w.heap.size l W (hl.below h) h.size (by omega)
  rw [hTM, count_parts, ← hTM, ← hT] at cC
  rw [hT, count_twice, ← hT] at cD
  rw [← hT] at cA
  rw [← hTM] at cB
  have kb0 : Blk (w.alloc (Obj.cells #[Value.int IntKind.i64 own.inst, Value.int IntKind.i64 own.mbal, Value.int IntKind.i64 own.bal, Value.string own.val] 23)) w.heap.size 23 (rc own) := Blk.new w 23 _
  have C1 := Lib.hid (great_c A n c w.heap.size l (w.alloc (Obj.cells #[Value.int IntKind.i64 own.inst, Value.int IntKind.i64 own.mbal, Value.int IntKind.i64 own.bal, Value.string own.val] 23)) (hl.below ((Below.refl _ _).alloc (Nat.le_refl _) _)) (by omega) hg)
  have k1 := Blk.new (w.alloc (Obj.cells #[Value.int IntKind.i64 own.inst, Value.int IntKind.i64 own.mbal, Value.int IntKind.i64 own.bal, Value.string own.val] 23)) 23 (rc own)
  have C2 : Hid (Calls Try.prog 8 #[.slice (some ⟨w.heap.size + 1, 0, none⟩) 1 1] ((w.alloc (Obj.cells #[Value.int IntKind.i64 own.inst, Value.int IntKind.i64 own.mbal, Value.int IntKind.i64 own.bal, Value.string own.val] 23)).alloc (Obj.cells #[Value.int IntKind.i64 own.inst, Value.int IntKind.i64 own.mbal, Value.int IntKind.i64 own.bal, Value.string own.val] 23)) _) := Lib.hid (great_one (w.heap.size + 1) own _ (by simpa [rc] using k1) ho)
  have KO0 : Hid (Blk ((w.alloc (Obj.cells #[Value.int IntKind.i64 own.inst, Value.int IntKind.i64 own.mbal, Value.int IntKind.i64 own.bal, Value.string own.val] 23)).alloc (Obj.cells #[Value.int IntKind.i64 own.inst, Value.int IntKind.i64 own.mbal, Value.int IntKind.i64 own.bal, Value.string own.val] 23)) w.heap.size 23 (rc own)) := Lib.hid (kb0.alloc _)
  have KW0 : Hid (Below w.heap.size w ((w.alloc (Obj.cells #[Value.int IntKind.i64 own.inst, Value.int IntKind.i64 own.mbal, Value.int IntKind.i64 own.bal, Value.string own.val] 23)).alloc (Obj.cells #[Value.int IntKind.i64 own.inst, Value.int IntKind.i64 own.mbal, Value.int IntKind.i64 own.bal, Value.string own.val] 23))) := Lib.hid (((Below.refl _ _).alloc (Nat.le_refl _) _).alloc (by simp) _)
  have CA := Lib.hid cA; have CB := Lib.hid cB; have CC := Lib.hid cC; have CD := Lib.hid cD; have HS := Lib.hid hs; have HD := Lib.hid hd; have HR := Lib.hid hR; have HCUT := Lib.hid hcut
  clear hl hg ho kb0 k1 cA cB cC cD hT hTM hs hd hR hA2 hcut
  go_enter Try.func7, Try.ntmps7
  go_wp2_with fail
  refine C1.out.mono ?_
  rintro e w1 ⟨rfl, rfl⟩
  go_wp2_with fail
  refine C2.out.mono ?_
  rintro e w1 ⟨rfl, rfl⟩
  go_upto_region 4 with fail
  rw [HCUT.out]
  obtain ⟨w1, hw1⟩ : ∃ w1, w1 = (w.alloc (Obj.cells #[Value.int IntKind.i64 own.inst, Value.int IntKind.i64 own.mbal, Value.int IntKind.i64 own.bal, Value.string own.val] 23)).alloc (Obj.cells #[Value.int IntKind.i64 own.inst, Value.int IntKind.i64 own.mbal, Value.int IntKind.i64 own.bal, Value.string own.val] 23) := ⟨_, rfl⟩
  have KO := KO0; have KW1 := KW0
  rw [← hw1] at KO KW1 ⊢
  clear KO0 KW0 C1 C2 hw1
  refine wp_region_grows 5 ((fun q_ _ _ => q_ = .agg (rc own)) :: (fun q_ _ _ => q_ = .agg (tc (begun own 0))) :: (fun q_ _ _ => q_ = .slice A n c) :: (fun q_ _ _ => q_ = .agg (tc T)) :: (fun q_ _ W => q_ = ptr (gOf q_) ∧ w1.heap.size ≤ gOf q_ ∧ Blk W (gOf q_) 30 (tc zT)) :: []) ((fun i => i == 4)) (w1.heap.size) w1 (by kernel_rfl) (by kernel_rfl) (by kernel_rfl) (Below.refl _ _) (Nat.le_refl _) ?aStab (fun i hi x W hx => by obtain rfl := eq_of_beq hi; exact ⟨_, hx.1, hx.2.2.lt⟩) ?aOps ?aFin
  case aStab => exact ⟨st_is _, st_is _, st_is _, st_is _, st_alloc _ _ _, trivial⟩
  case aOps =>
    intro Q
    refine ⟨?_, ?_, ?_, ?_, ?_, trivial⟩
    · intro ho a W hW hd hx
      have h3 : a.eval (.tmp 3) = .pointer (some ⟨w.heap.size, 0, none⟩) := (hx 3 (dst_not (by kernel_rfl))).trans rfl
      exact op_value ho (want_none rfl) (v := .agg (rc own)) (by intro ρ hρ kc kf; rw [← hρ] at h3; exact run_load_B h3 (KO.out.below hW KO.out.lt)) ⟨_, rfl, (fun h => by cases h), rfl, Below.refl _ _, (fun h => absurd h (by decide))⟩
    · intro ho a W hW hd hx
      have h31 : a.eval (.tmp 31) = .agg (rc own) := hd 0 (by kernel_rfl)
      refine op_call ho (want_none rfl) (by intro ρ hρ kc kf; rw [← hρ] at h31; clear hρ; simp [execOp, go_sem, kc, kf, h31]) (begin_tc own 0 W) ?_
      rintro e W2 ⟨rfl, k2⟩
      exact ⟨_, rfl, _, rfl, (fun h => by cases h), rfl, k2, (fun h => absurd h (by decide))⟩
    · intro ho a W hW hd hx
      have h1 : a.eval (.tmp 1) = .slice A n c := (hx 1 (dst_not (by kernel_rfl))).trans rfl
      exact op_value ho (want_none rfl) (v := .slice A n c) (by intro ρ hρ kc kf; rw [← hρ] at h1; clear hρ; simp [execOp, go_sem, h1]) ⟨_, rfl, (fun h => by cases h), rfl, Below.refl _ _, (fun h => absurd h (by decide))⟩
    · intro ho a W hW hd hx
      have h32 : a.eval (.tmp 32) = .agg (tc (begun own 0)) := hd 1 (by kernel_rfl)
      have h33 : a.eval (.tmp 33) = .slice A n c := hd 2 (by kernel_rfl)
      refine op_call ho (want_none rfl) (by intro ρ hρ kc kf; rw [← hρ] at h32 h33; clear hρ; simp [execOp, go_sem, kf, h32, h33]) (CA.out W (KW1.out.trans (hW.mono KW1.out.size))) ?_
      rintro e W2 ⟨rfl, k2⟩
      exact ⟨_, rfl, _, rfl, (fun h => by cases h), rfl, k2, (fun h => absurd h (by decide))⟩
    · intro ho a W hW hd hx
      exact op_value ho (want_none rfl) (v := ptr W.heap.size) (w' := W.alloc (.cells (tc zT) 30)) (by intro ρ hρ kc kf; clear hρ; simp [execOp, go_sem, ptr, tc, zT]) ⟨_, rfl, (fun h => by cases h), ⟨rfl, hW.size, Blk.new W 30 _⟩, (Below.refl _ _).alloc (Nat.le_refl _) _, (fun _ => ⟨_, rfl, Nat.le_refl _⟩)⟩
  intro va W hW hv _
  have hx : va 4 = ptr (gOf (va 4)) ∧ w1.heap.size ≤ gOf (va 4) ∧ Blk W (gOf (va 4)) 30 (tc zT) := hv 4 (by decide)
  have hg := hx.1; have hl := hx.2.1; have hb := hx.2.2
  have h4 : va 3 = .agg (tc T) := hv 3 (by decide)
  simp only [List.take_succ_cons, List.take_zero, List.drop_succ_cons, List.drop_zero, fillL, wpTail, Act.put, List.setIfInBounds_toArray, List.set_cons_zero, List.set_cons_succ, Nat.reduceAdd]
  rw [hg, h4]
  refine tail_store_T (t := T) rfl rfl hb rfl ?_
  intro w2 kb hgr
  have kw : Below w1.heap.size w1 w2 := hW.grown hgr hW.size (fun j hj => by injection hj with e; omega)
  have K7 := Lib.hid kb; have KO2 := Lib.hid (KO.out.below kw KO.out.lt); have KW2 := Lib.hid (KW1.out.trans (kw.mono KW1.out.size))
  clear hW hv hx hg hl h4 hb hgr kb kw
  go_upto_region 5 with fail
  refine wp_region_grows 11 ((fun q_ _ _ => q_ = .agg (rc own)) :: (fun q_ _ _ => q_ = .agg (tc (begun own 0))) :: (fun q_ _ _ => q_ = .slice A n c) :: (fun q_ _ _ => q_ = .int .i64 (d : Int)) :: (fun q_ _ _ => q_ = .slice A d c) :: (fun q_ _ _ => q_ = .agg (tc TM)) :: (fun q_ _ _ => q_ = .slice A n c) :: (fun q_ _ _ => q_ = .int .i64 (d : Int)) :: (fun q_ _ _ => q_ = .slice A2 (n - d) c2) :: (fun q_ _ _ => q_ = .agg (tc T)) :: (fun q_ _ W => q_ = ptr (gOf q_) ∧ w2.heap.size ≤ gOf q_ ∧ Blk W (gOf q_) 30 (tc zT)) :: []) ((fun i => i == 10)) (w2.heap.size) w2 (by kernel_rfl) (by kernel_rfl) (by kernel_rfl) (Below.refl _ _) (Nat.le_refl _) ?bStab (fun i hi x W hx => by obtain rfl := eq_of_beq hi; exact ⟨_, hx.1, hx.2.2.lt⟩) ?bOps ?bFin
  case bStab => exact ⟨st_is _, st_is _, st_is _, st_is _, st_is _, st_is _, st_is _, st_is _, st_is _, st_is _, st_alloc _ _ _, trivial⟩
  case bOps =>
    intro Q
    refine ⟨?_, ?_, ?_, ?_, ?_, ?_, ?_, ?_, ?_, ?_, ?_, trivial⟩
    · intro ho a W hW hd hx
      have h3 : a.eval (.tmp 3) = .pointer (some ⟨w.heap.size, 0, none⟩) := (hx 3 (dst_not (by kernel_rfl))).trans rfl
      exact op_value ho (want_none rfl) (v := .agg (rc own)) (by intro ρ hρ kc kf; rw [← hρ] at h3; exact run_load_B h3 (KO2.out.below hW KO2.out.lt)) ⟨_, rfl, (fun h => by cases h), rfl, Below.refl _ _, (fun h => absurd h (by decide))⟩
    · intro ho a W hW hd hx
      have h35 : a.eval (.tmp 35) = .agg (rc own) := hd 0 (by kernel_rfl)
      refine op_call ho (want_none rfl) (by intro ρ hρ kc kf; rw [← hρ] at h35; clear hρ; simp [execOp, go_sem, kc, kf, h35]) (begin_tc own 0 W) ?_
      rintro e W2 ⟨rfl, k2⟩
      exact ⟨_, rfl, _, rfl, (fun h => by cases h), rfl, k2, (fun h => absurd h (by decide))⟩
    · intro ho a W hW hd hx
      have h1 : a.eval (.tmp 1) = .slice A n c := (hx 1 (dst_not (by kernel_rfl))).trans rfl
      exact op_value ho (want_none rfl) (v := .slice A n c) (by intro ρ hρ kc kf; rw [← hρ] at h1; clear hρ; simp [execOp, go_sem, h1]) ⟨_, rfl, (fun h => by cases h), rfl, Below.refl _ _, (fun h => absurd h (by decide))⟩
    · intro ho a W hW hd hx
      have h2 : a.eval (.tmp 2) = .int .i64 (d : Int) := (hx 2 (dst_not (by kernel_rfl))).trans rfl
      exact op_value ho (want_none rfl) (v := .int .i64 (d : Int)) (by intro ρ hρ kc kf; rw [← hρ] at h2; clear hρ; simp [execOp, go_sem, h2]) ⟨_, rfl, (fun h => by cases h), rfl, Below.refl _ _, (fun h => absurd h (by decide))⟩
    · intro ho a W hW hd hx
      have h37 : a.eval (.tmp 37) = .slice A n c := hd 2 (by kernel_rfl)
      have h38 : a.eval (.tmp 38) = .int .i64 (d : Int) := hd 3 (by kernel_rfl)
      exact op_value ho (want_none rfl) (v := .slice A d c) (by intro ρ hρ kc kf; rw [← hρ] at h37 h38; exact run_cut_hi HS.out HD.out h37 h38) ⟨_, rfl, (fun h => by cases h), rfl, Below.refl _ _, (fun h => absurd h (by decide))⟩
    · intro ho a W hW hd hx
      have h36 : a.eval (.tmp 36) = .agg (tc (begun own 0)) := hd 1 (by kernel_rfl)
      have h39 : a.eval (.tmp 39) = .slice A d c := hd 4 (by kernel_rfl)
      refine op_call ho (want_none rfl) (by intro ρ hρ kc kf; rw [← hρ] at h36 h39; clear hρ; simp [execOp, go_sem, kf, h36, h39]) (CB.out W (KW2.out.trans (hW.mono KW2.out.size))) ?_
      rintro e W2 ⟨rfl, k2⟩
      exact ⟨_, rfl, _, rfl, (fun h => by cases h), rfl, k2, (fun h => absurd h (by decide))⟩
    · intro ho a W hW hd hx
      have h1 : a.eval (.tmp 1) = .slice A n c := (hx 1 (dst_not (by kernel_rfl))).trans rfl
      exact op_value ho (want_none rfl) (v := .slice A n c) (by intro ρ hρ kc kf; rw [← hρ] at h1; clear hρ; simp [execOp, go_sem, h1]) ⟨_, rfl, (fun h => by cases h), rfl, Below.refl _ _, (fun h => absurd h (by decide))⟩
    · intro ho a W hW hd hx
      have h2 : a.eval (.tmp 2) = .int .i64 (d : Int) := (hx 2 (dst_not (by kernel_rfl))).trans rfl
      exact op_value ho (want_none rfl) (v := .int .i64 (d : Int)) (by intro ρ hρ kc kf; rw [← hρ] at h2; clear hρ; simp [execOp, go_sem, h2]) ⟨_, rfl, (fun h => by cases h), rfl, Below.refl _ _, (fun h => absurd h (by decide))⟩
    · intro ho a W hW hd hx
      have h41 : a.eval (.tmp 41) = .slice A n c := hd 6 (by kernel_rfl)
      have h42 : a.eval (.tmp 42) = .int .i64 (d : Int) := hd 7 (by kernel_rfl)
      exact op_value ho (want_none rfl) (v := .slice A2 (n - d) c2) (by intro ρ hρ kc kf; rw [← hρ] at h41 h42; exact HR.out ρ W 41 42 _ _ _ _ _ h41 h42) ⟨_, rfl, (fun h => by cases h), rfl, Below.refl _ _, (fun h => absurd h (by decide))⟩
    · intro ho a W hW hd hx
      have h40 : a.eval (.tmp 40) = .agg (tc TM) := hd 5 (by kernel_rfl)
      have h43 : a.eval (.tmp 43) = .slice A2 (n - d) c2 := hd 8 (by kernel_rfl)
      refine op_call ho (want_none rfl) (by intro ρ hρ kc kf; rw [← hρ] at h40 h43; clear hρ; simp [execOp, go_sem, kf, h40, h43]) (CC.out W (KW2.out.trans (hW.mono KW2.out.size))) ?_
      rintro e W2 ⟨rfl, k2⟩
      exact ⟨_, rfl, _, rfl, (fun h => by cases h), rfl, k2, (fun h => absurd h (by decide))⟩
    · intro ho a W hW hd hx
      exact op_value ho (want_none rfl) (v := ptr W.heap.size) (w' := W.alloc (.cells (tc zT) 30)) (by intro ρ hρ kc kf; clear hρ; simp [execOp, go_sem, ptr, tc, zT]) ⟨_, rfl, (fun h => by cases h), ⟨rfl, hW.size, Blk.new W 30 _⟩, (Below.refl _ _).alloc (Nat.le_refl _) _, (fun _ => ⟨_, rfl, Nat.le_refl _⟩)⟩
  intro vb W hW hv _
  have hx : vb 10 = ptr (gOf (vb 10)) ∧ w2.heap.size ≤ gOf (vb 10) ∧ Blk W (gOf (vb 10)) 30 (tc zT) := hv 10 (by decide)
  have hg := hx.1; have hl := hx.2.1; have hb := hx.2.2
  have h4 : vb 9 = .agg (tc T) := hv 9 (by decide)
  simp only [List.take_succ_cons, List.take_zero, List.drop_succ_cons, List.drop_zero, fillL, wpTail, Act.put, List.setIfInBounds_toArray, List.set_cons_zero, List.set_cons_succ, Nat.reduceAdd]
  rw [hg, h4]
  refine tail_store_T (t := T) rfl rfl hb rfl ?_
  intro w3 kb hgr
  have kw : Below w2.heap.size w2 w3 := hW.grown hgr hW.size (fun j hj => by injection hj with e; omega)
  have K8 := Lib.hid kb; have K7b := Lib.hid (K7.out.below kw K7.out.lt); have KW3 := Lib.hid (KW2.out.trans (kw.mono KW2.out.size))
  clear hW hv hx hg hl h4 hb hgr kb kw
  go_upto_region 6 with fail
  refine wp_region_grows 4 ((fun q_ _ _ => q_ = .agg (tc T)) :: (fun q_ _ _ => q_ = .slice A n c) :: (fun q_ _ _ => q_ = .agg (tc T)) :: (fun q_ _ W => q_ = ptr (gOf q_) ∧ w3.heap.size ≤ gOf q_ ∧ Blk W (gOf q_) 30 (tc zT)) :: []) ((fun i => i == 3)) (w3.heap.size) w3 (by kernel_rfl) (by kernel_rfl) (by kernel_rfl) (Below.refl _ _) (Nat.le_refl _) ?cStab (fun i hi x W hx => by obtain rfl := eq_of_beq hi; exact ⟨_, hx.1, hx.2.2.lt⟩) ?cOps ?cFin
  case cStab => exact ⟨st_is _, st_is _, st_is _, st_alloc _ _ _, trivial⟩
  case cOps =>
    intro Q
    refine ⟨?_, ?_, ?_, ?_, trivial⟩
    · intro ho a W hW hd hx
      have h7 : a.eval (.tmp 7) = .pointer (some ⟨(gOf (va 4)), 0, none⟩) := (hx 7 (dst_not (by kernel_rfl))).trans rfl
      exact op_value ho (want_none rfl) (v := .agg (tc T)) (by intro ρ hρ kc kf; rw [← hρ] at h7; exact run_load_T h7 (K7b.out.below hW K7b.out.lt)) ⟨_, rfl, (fun h => by cases h), rfl, Below.refl _ _, (fun h => absurd h (by decide))⟩
    · intro ho a W hW hd hx
      have h1 : a.eval (.tmp 1) = .slice A n c := (hx 1 (dst_not (by kernel_rfl))).trans rfl
      exact op_value ho (want_none rfl) (v := .slice A n c) (by intro ρ hρ kc kf; rw [← hρ] at h1; clear hρ; simp [execOp, go_sem, h1]) ⟨_, rfl, (fun h => by cases h), rfl, Below.refl _ _, (fun h => absurd h (by decide))⟩
    · intro ho a W hW hd hx
      have h45 : a.eval (.tmp 45) = .agg (tc T) := hd 0 (by kernel_rfl)
      have h46 : a.eval (.tmp 46) = .slice A n c := hd 1 (by kernel_rfl)
      refine op_call ho (want_none rfl) (by intro ρ hρ kc kf; rw [← hρ] at h45 h46; clear hρ; simp [execOp, go_sem, kf, h45, h46]) (CD.out W (KW3.out.trans (hW.mono KW3.out.size))) ?_
      rintro e W2 ⟨rfl, k2⟩
      exact ⟨_, rfl, _, rfl, (fun h => by cases h), rfl, k2, (fun h => absurd h (by decide))⟩
    · intro ho a W hW hd hx
      exact op_value ho (want_none rfl) (v := ptr W.heap.size) (w' := W.alloc (.cells (tc zT) 30)) (by intro ρ hρ kc kf; clear hρ; simp [execOp, go_sem, ptr, tc, zT]) ⟨_, rfl, (fun h => by cases h), ⟨rfl, hW.size, Blk.new W 30 _⟩, (Below.refl _ _).alloc (Nat.le_refl _) _, (fun _ => ⟨_, rfl, Nat.le_refl _⟩)⟩
  intro vc W hW hv _
  have hx : vc 3 = ptr (gOf (vc 3)) ∧ w3.heap.size ≤ gOf (vc 3) ∧ Blk W (gOf (vc 3)) 30 (tc zT) := hv 3 (by decide)
  have hg := hx.1; have hl := hx.2.1; have hb := hx.2.2
  have h4 : vc 2 = .agg (tc T) := hv 2 (by decide)
  simp only [List.take_succ_cons, List.take_zero, List.drop_succ_cons, List.drop_zero, fillL, wpTail, Act.put, List.setIfInBounds_toArray, List.set_cons_zero, List.set_cons_succ, Nat.reduceAdd]
  rw [hg, h4]
  refine tail_store_T (t := T) rfl rfl hb rfl ?_
  intro w4 kb hgr
  have kw : Below w3.heap.size w3 w4 := hW.grown hgr hW.size (fun j hj => by injection hj with e; omega)
  have K9 := Lib.hid kb; have K7c := Lib.hid (K7b.out.below kw K7b.out.lt); have K8c := Lib.hid (K8.out.below kw K8.out.lt); have KW4 := Lib.hid (KW3.out.trans (kw.mono KW3.out.size))
  clear hW hv hx hg hl h4 hb hgr kb kw
  go_upto_region 7 with fail
  refine wp_region_grows 18 ((fun q_ _ _ => q_ = .agg (tc T)) :: (fun q_ _ _ => q_ = .agg (tc T)) :: (fun q_ _ _ => q_ = .bool true) :: (fun q_ _ _ => q_ = .bool true) :: (fun q_ _ _ => q_ = .agg (tc T)) :: (fun q_ _ _ => q_ = .agg (tc T)) :: (fun q_ _ _ => q_ = .bool true) :: (fun q_ _ _ => q_ = .bool true) :: (fun q_ _ _ => q_ = .bool true) :: (fun q_ _ _ => q_ = .agg (tc T)) :: (fun q_ _ _ => q_ = .agg (tc T)) :: (fun q_ _ _ => q_ = .agg (tc T)) :: (fun q_ _ _ => q_ = .bool true) :: (fun q_ _ _ => q_ = .bool true) :: (fun q_ _ _ => q_ = .bool true) :: (fun q_ _ _ => q_ = .bool true) :: (fun q_ _ _ => q_ = .bool true) :: (fun q_ _ _ => q_ = .bool true) :: []) (fun _ => false) (w4.heap.size) w4 (by kernel_rfl) (by kernel_rfl) (by kernel_rfl) (Below.refl _ _) (Nat.le_refl _) ?dStab (fun _ h => by cases h) ?dOps ?dFin
  case dStab => exact ⟨st_is _, st_is _, st_is _, st_is _, st_is _, st_is _, st_is _, st_is _, st_is _, st_is _, st_is _, st_is _, st_is _, st_is _, st_is _, st_is _, st_is _, st_is _, trivial⟩
  case dOps =>
    intro Q
    refine ⟨?_, ?_, ?_, ?_, ?_, ?_, ?_, ?_, ?_, ?_, ?_, ?_, ?_, ?_, ?_, ?_, ?_, ?_, trivial⟩
    · intro ho a W hW hd hx
      have h8 : a.eval (.tmp 8) = .pointer (some ⟨(gOf (vb 10)), 0, none⟩) := (hx 8 (dst_not (by kernel_rfl))).trans rfl
      exact op_value ho (want_none rfl) (v := .agg (tc T)) (by intro ρ hρ kc kf; rw [← hρ] at h8; exact run_load_T h8 (K8c.out.below hW K8c.out.lt)) ⟨_, rfl, (fun h => by cases h), rfl, Below.refl _ _, (fun h => absurd h (by decide))⟩
    · intro ho a W hW hd hx
      have h7 : a.eval (.tmp 7) = .pointer (some ⟨(gOf (va 4)), 0, none⟩) := (hx 7 (dst_not (by kernel_rfl))).trans rfl
      exact op_value ho (want_none rfl) (v := .agg (tc T)) (by intro ρ hρ kc kf; rw [← hρ] at h7; exact run_load_T h7 (K7c.out.below hW K7c.out.lt)) ⟨_, rfl, (fun h => by cases h), rfl, Below.refl _ _, (fun h => absurd h (by decide))⟩
    · intro ho a W hW hd hx
      have h48 : a.eval (.tmp 48) = .agg (tc T) := hd 0 (by kernel_rfl)
      have h49 : a.eval (.tmp 49) = .agg (tc T) := hd 1 (by kernel_rfl)
      exact op_value ho (want_none rfl) (v := .bool true) (by intro ρ hρ kc kf; rw [← hρ] at h48 h49; exact run_eq_op h48 h49) ⟨_, rfl, (fun h => by cases h), rfl, Below.refl _ _, (fun h => absurd h (by decide))⟩
    · intro ho a W hW hd hx
      have h50 : a.eval (.tmp 50) = .bool true := hd 2 (by kernel_rfl)
      exact op_value ho (want_none rfl) (v := .bool true) (by intro ρ hρ kc kf; rw [← hρ] at h50; clear hρ; simp [execOp, go_sem, h50]) ⟨_, rfl, (fun h => by cases h), rfl, Below.refl _ _, (fun h => absurd h (by decide))⟩
    · intro ho a W hW hd hx
      have h51 : a.eval (.tmp 51) = .bool true := hd 3 (by kernel_rfl)
      have h9 : a.eval (.tmp 9) = .pointer (some ⟨(gOf (vc 3)), 0, none⟩) := (hx 9 (dst_not (by kernel_rfl))).trans rfl
      exact op_value ho (want_yes rfl (show valAt _ a 3 = _ from h51)) (v := .agg (tc T)) (by intro ρ hρ kc kf; rw [← hρ] at h9; exact run_load_T h9 (K9.out.below hW K9.out.lt)) ⟨_, rfl, (fun h => by cases h), rfl, Below.refl _ _, (fun h => absurd h (by decide))⟩
    · intro ho a W hW hd hx
      have h51 : a.eval (.tmp 51) = .bool true := hd 3 (by kernel_rfl)
      have h7 : a.eval (.tmp 7) = .pointer (some ⟨(gOf (va 4)), 0, none⟩) := (hx 7 (dst_not (by kernel_rfl))).trans rfl
      exact op_value ho (want_yes rfl (show valAt _ a 3 = _ from h51)) (v := .agg (tc T)) (by intro ρ hρ kc kf; rw [← hρ] at h7; exact run_load_T h7 (K7c.out.below hW K7c.out.lt)) ⟨_, rfl, (fun h => by cases h), rfl, Below.refl _ _, (fun h => absurd h (by decide))⟩
    · intro ho a W hW hd hx
      have h51 : a.eval (.tmp 51) = .bool true := hd 3 (by kernel_rfl)
      have h52 : a.eval (.tmp 52) = .agg (tc T) := hd 4 (by kernel_rfl)
      have h53 : a.eval (.tmp 53) = .agg (tc T) := hd 5 (by kernel_rfl)
      exact op_value ho (want_yes rfl (show valAt _ a 3 = _ from h51)) (v := .bool true) (by intro ρ hρ kc kf; rw [← hρ] at h52 h53; exact run_eq_op h52 h53) ⟨_, rfl, (fun h => by cases h), rfl, Below.refl _ _, (fun h => absurd h (by decide))⟩
    · intro ho a W hW hd hx
      have h51 : a.eval (.tmp 51) = .bool true := hd 3 (by kernel_rfl)
      have h54 : a.eval (.tmp 54) = .bool true := hd 6 (by kernel_rfl)
      exact op_value ho (want_none rfl) (v := .bool true) (by intro ρ hρ kc kf; rw [← hρ] at h51 h54; clear hρ; simp [execOp, go_sem, kc, h51, h54]) ⟨_, rfl, (fun h => by cases h), rfl, Below.refl _ _, (fun h => absurd h (by decide))⟩
    · intro ho a W hW hd hx
      have h55 : a.eval (.tmp 55) = .bool true := hd 7 (by kernel_rfl)
      exact op_value ho (want_none rfl) (v := .bool true) (by intro ρ hρ kc kf; rw [← hρ] at h55; clear hρ; simp [execOp, go_sem, h55]) ⟨_, rfl, (fun h => by cases h), rfl, Below.refl _ _, (fun h => absurd h (by decide))⟩
    · intro ho a W hW hd hx
      have h56 : a.eval (.tmp 56) = .bool true := hd 8 (by kernel_rfl)
      have h7 : a.eval (.tmp 7) = .pointer (some ⟨(gOf (va 4)), 0, none⟩) := (hx 7 (dst_not (by kernel_rfl))).trans rfl
      exact op_value ho (want_yes rfl (show valAt _ a 8 = _ from h56)) (v := .agg (tc T)) (by intro ρ hρ kc kf; rw [← hρ] at h7; exact run_load_T h7 (K7c.out.below hW K7c.out.lt)) ⟨_, rfl, (fun h => by cases h), rfl, Below.refl _ _, (fun h => absurd h (by decide))⟩
    · intro ho a W hW hd hx
      have h56 : a.eval (.tmp 56) = .bool true := hd 8 (by kernel_rfl)
      have h57 : a.eval (.tmp 57) = .agg (tc T) := hd 9 (by kernel_rfl)
      refine op_call ho (want_yes rfl (show valAt _ a 8 = _ from h56)) (by intro ρ hρ kc kf; rw [← hρ] at h57; clear hρ; simp [execOp, go_sem, kc, kf, h57]) (count_none T W) ?_
      rintro e W2 ⟨rfl, k2⟩
      exact ⟨_, rfl, _, rfl, (fun h => by cases h), rfl, k2, (fun h => absurd h (by decide))⟩
    · intro ho a W hW hd hx
      have h56 : a.eval (.tmp 56) = .bool true := hd 8 (by kernel_rfl)
      have h7 : a.eval (.tmp 7) = .pointer (some ⟨(gOf (va 4)), 0, none⟩) := (hx 7 (dst_not (by kernel_rfl))).trans rfl
      exact op_value ho (want_yes rfl (show valAt _ a 8 = _ from h56)) (v := .agg (tc T)) (by intro ρ hρ kc kf; rw [← hρ] at h7; exact run_load_T h7 (K7c.out.below hW K7c.out.lt)) ⟨_, rfl, (fun h => by cases h), rfl, Below.refl _ _, (fun h => absurd h (by decide))⟩
    · intro ho a W hW hd hx
      have h56 : a.eval (.tmp 56) = .bool true := hd 8 (by kernel_rfl)
      have h58 : a.eval (.tmp 58) = .agg (tc T) := hd 10 (by kernel_rfl)
      have h59 : a.eval (.tmp 59) = .agg (tc T) := hd 11 (by kernel_rfl)
      exact op_value ho (want_yes rfl (show valAt _ a 8 = _ from h56)) (v := .bool true) (by intro ρ hρ kc kf; rw [← hρ] at h58 h59; exact run_eq_op h58 h59) ⟨_, rfl, (fun h => by cases h), rfl, Below.refl _ _, (fun h => absurd h (by decide))⟩
    · intro ho a W hW hd hx
      have h56 : a.eval (.tmp 56) = .bool true := hd 8 (by kernel_rfl)
      have h60 : a.eval (.tmp 60) = .bool true := hd 12 (by kernel_rfl)
      exact op_value ho (want_none rfl) (v := .bool true) (by intro ρ hρ kc kf; rw [← hρ] at h56 h60; clear hρ; simp [execOp, go_sem, kc, h56, h60]) ⟨_, rfl, (fun h => by cases h), rfl, Below.refl _ _, (fun h => absurd h (by decide))⟩
    · intro ho a W hW hd hx
      have h61 : a.eval (.tmp 61) = .bool true := hd 13 (by kernel_rfl)
      exact op_value ho (want_none rfl) (v := .bool true) (by intro ρ hρ kc kf; rw [← hρ] at h61; clear hρ; simp [execOp, go_sem, h61]) ⟨_, rfl, (fun h => by cases h), rfl, Below.refl _ _, (fun h => absurd h (by decide))⟩
    · intro ho a W hW hd hx
      have h62 : a.eval (.tmp 62) = .bool true := hd 14 (by kernel_rfl)
      refine op_call ho (want_yes rfl (show valAt _ a 14 = _ from h62)) (by intro ρ hρ kc kf; clear hρ; simp [execOp, go_sem, kf]) (wakes_any W) ?_
      rintro e W2 ⟨rfl, k2⟩
      exact ⟨_, rfl, _, rfl, (fun h => by cases h), rfl, k2, (fun h => absurd h (by decide))⟩
    · intro ho a W hW hd hx
      have h62 : a.eval (.tmp 62) = .bool true := hd 14 (by kernel_rfl)
      have h63 : a.eval (.tmp 63) = .bool true := hd 15 (by kernel_rfl)
      exact op_value ho (want_none rfl) (v := .bool true) (by intro ρ hρ kc kf; rw [← hρ] at h62 h63; clear hρ; simp [execOp, go_sem, kc, h62, h63]) ⟨_, rfl, (fun h => by cases h), rfl, Below.refl _ _, (fun h => absurd h (by decide))⟩
    · intro ho a W hW hd hx
      have h64 : a.eval (.tmp 64) = .bool true := hd 16 (by kernel_rfl)
      exact op_value ho (want_none rfl) (v := .bool true) (by intro ρ hρ kc kf; rw [← hρ] at h64; clear hρ; simp [execOp, go_sem, h64]) ⟨_, rfl, (fun h => by cases h), rfl, Below.refl _ _, (fun h => absurd h (by decide))⟩
  intro vd W hW hv _
  have hlast : vd 17 = .bool true := hv 17 (by decide)
  simp only [List.take_succ_cons, List.take_zero, List.drop_succ_cons, List.drop_zero, fillL, wpTail, Act.put, List.setIfInBounds_toArray, List.set_cons_zero, List.set_cons_succ, Nat.reduceAdd]
  rw [hlast]
  go_wp2
  go_ret
  exact ⟨rfl, KW4.out.trans (hW.mono KW4.out.size)⟩

theorem parts_great (own : Rc) (A : Option Addr) (n c : Nat) (l : List Rc) (cut : Int) (w : World) (hl : RdR w w.heap.size A n l) (hn : n ≤ 9223372036854775807) (hg : grB l = true) :
    Calls Try.prog 7 #[.agg (rc own), .slice A n c, .int .i64 cut] w fun e w' => e = .returned (.bool true) ∧ Below w.heap.size w w' := by
  change Calls Try.prog 7 #[.agg #[.int .i64 own.inst, .int .i64 own.mbal, .int .i64 own.bal, .string own.val], .slice A n c, .int .i64 cut] w _
  have C1 := Lib.hid (great_c A n c w.heap.size l (w.alloc (Obj.cells #[Value.int IntKind.i64 own.inst, Value.int IntKind.i64 own.mbal, Value.int IntKind.i64 own.bal, Value.string own.val] 23)) (hl.below ((Below.refl _ _).alloc (Nat.le_refl _) _)) hn hg)
  have KW0 : Hid (Below w.heap.size w (w.alloc (Obj.cells #[Value.int IntKind.i64 own.inst, Value.int IntKind.i64 own.mbal, Value.int IntKind.i64 own.bal, Value.string own.val] 23))) := Lib.hid ((Below.refl _ _).alloc (Nat.le_refl _) _)
  have CW := Lib.hid (wakes_any (w.alloc (Obj.cells #[Value.int IntKind.i64 own.inst, Value.int IntKind.i64 own.mbal, Value.int IntKind.i64 own.bal, Value.string own.val] 23)))
  clear hl hg
  go_enter Try.func7, Try.ntmps7
  go_wp2_with fail
  refine C1.out.mono ?_
  rintro e w1 ⟨rfl, rfl⟩
  go_wp2_with fail
  refine CW.out.mono ?_
  rintro e w1 ⟨rfl, hb⟩
  go_wp2
  go_ret
  exact ⟨rfl, KW0.out.trans (hb.mono KW0.out.size)⟩

theorem parts_own (own : Rc) (A : Option Addr) (n c : Nat) (l : List Rc) (cut : Int) (w : World) (hl : RdR w w.heap.size A n l) (hn : n ≤ 9223372036854775807) (hg : grB l = false) (ho : grB [own] = true) :
    Calls Try.prog 7 #[.agg (rc own), .slice A n c, .int .i64 cut] w fun e w' => e = .returned (.bool true) ∧ Below w.heap.size w w' := by
  change Calls Try.prog 7 #[.agg #[.int .i64 own.inst, .int .i64 own.mbal, .int .i64 own.bal, .string own.val], .slice A n c, .int .i64 cut] w _
  have C1 := Lib.hid (great_c A n c w.heap.size l (w.alloc (Obj.cells #[Value.int IntKind.i64 own.inst, Value.int IntKind.i64 own.mbal, Value.int IntKind.i64 own.bal, Value.string own.val] 23)) (hl.below ((Below.refl _ _).alloc (Nat.le_refl _) _)) hn hg)
  have k1 := Blk.new (w.alloc (Obj.cells #[Value.int IntKind.i64 own.inst, Value.int IntKind.i64 own.mbal, Value.int IntKind.i64 own.bal, Value.string own.val] 23)) 23 (rc own)
  have C2 : Hid (Calls Try.prog 8 #[.slice (some ⟨w.heap.size + 1, 0, none⟩) 1 1] ((w.alloc (Obj.cells #[Value.int IntKind.i64 own.inst, Value.int IntKind.i64 own.mbal, Value.int IntKind.i64 own.bal, Value.string own.val] 23)).alloc (Obj.cells #[Value.int IntKind.i64 own.inst, Value.int IntKind.i64 own.mbal, Value.int IntKind.i64 own.bal, Value.string own.val] 23)) _) := Lib.hid (great_one (w.heap.size + 1) own _ (by simpa [rc] using k1) ho)
  have KW0 : Hid (Below w.heap.size w ((w.alloc (Obj.cells #[Value.int IntKind.i64 own.inst, Value.int IntKind.i64 own.mbal, Value.int IntKind.i64 own.bal, Value.string own.val] 23)).alloc (Obj.cells #[Value.int IntKind.i64 own.inst, Value.int IntKind.i64 own.mbal, Value.int IntKind.i64 own.bal, Value.string own.val] 23))) := Lib.hid (((Below.refl _ _).alloc (Nat.le_refl _) _).alloc (by simp) _)
  have CW := Lib.hid (wakes_any ((w.alloc (Obj.cells #[Value.int IntKind.i64 own.inst, Value.int IntKind.i64 own.mbal, Value.int IntKind.i64 own.bal, Value.string own.val] 23)).alloc (Obj.cells #[Value.int IntKind.i64 own.inst, Value.int IntKind.i64 own.mbal, Value.int IntKind.i64 own.bal, Value.string own.val] 23)))
  clear hl hg k1 ho
  go_enter Try.func7, Try.ntmps7
  go_wp2_with fail
  refine C1.out.mono ?_
  rintro e w1 ⟨rfl, rfl⟩
  go_wp2_with fail
  refine C2.out.mono ?_
  rintro e w1 ⟨rfl, rfl⟩
  go_wp2_with fail
  refine CW.out.mono ?_
  rintro e w1 ⟨rfl, hb⟩
  go_wp2
  go_ret
  exact ⟨rfl, KW0.out.trans (hb.mono KW0.out.size)⟩

theorem parts_any (own : Rc) (A : Option Addr) (n c : Nat) (l : List Rc) (cut : Int) (w : World) (hl : RdR w w.heap.size A n l) (hn : n ≤ maxLen) (hs : Sl A n c) :
    Calls Try.prog 7 #[.agg (rc own), .slice A n c, .int .i64 cut] w fun e w' => e = .returned (.bool true) ∧ Below w.heap.size w w' := by
  unfold maxLen at hn
  cases hg : grB l with
  | true => exact parts_great own A n c l cut w hl (by omega) hg
  | false =>
    cases ho : grB [own] with
    | true => exact parts_own own A n c l cut w hl (by omega) hg ho
    | false => exact parts_main own A n c l cut w hl (by have := (gr_false hg).1; have := hl.1; omega) hs hg ho

end Go.Proofs.Ytilpcoebpinmfaa
