/-
  Contracts of commands: Bytes. (Printed by cmd_bytes.py.)
-/
import Derived.Test.YtnoojlgefpekiaaCmdJ
import Derived.Test.YtnoojlgefpekiaaCmdL
import Derived.Test.YtnoojlgefpekiaaCmdM
import Derived.Deep.Cut
namespace Go.Proofs.Ytnoojlgefpekiaa
open Go.RowKit

theorem fits1 (z : Int) (h : 0 ≤ z) (h2 : z ≤ 255) : fitsB z 1 = true := by simp [fitsB, mostN]; omega
theorem fits4 (z : Int) (h : 0 ≤ z) (h2 : z ≤ 2147483648) : fitsB z 4 = true := by simp [fitsB, mostN]; omega
theorem fits6 (z : Int) (h : 0 ≤ z) (h2 : z ≤ 1099511627776) : fitsB z 6 = true := by simp [fitsB, mostN]; omega

/-- what the numbers behind the third one are -/
def moreC (c : Cm) : List UInt8 := if c.kind = 2 then putL 1 [c.lo, c.hi, c.mode] else if c.kind = 3 then putL 1 [c.lo, c.hi] else if c.kind = 4 then putL 6 [c.dead, c.was] else if c.kind = 5 then putL 6 [c.dead] else []
theorem bytes_more (c : Cm) (l : List UInt8) (h : moreC c = l) : bytesC c = putL 1 [c.kind] ++ putL 6 [c.node] ++ putL 4 [c.serial] ++ l := by rw [← h]; rfl

set_option maxRecDepth 100000 in
set_option maxHeartbeats 4000000 in
theorem bytes_yes (c : Cm) (w : World) (hm : mayC c = true) (ck : IntKind.i64.wrap c.kind = c.kind) (cm : IntKind.i64.wrap c.mode = c.mode) :
    Calls Try.prog 24 #[.agg (cC c)] w fun e w' => e = .returned (.tuple #[.string ⟨(bytesC c).toArray⟩, .int .i64 0]) ∧ Below w.heap.size w w' := by
  change Calls Try.prog 24 #[.agg #[Value.int IntKind.i8 c.kind, Value.int IntKind.i64 c.node, Value.int IntKind.i64 c.serial, Value.int IntKind.i64 c.dead, Value.int IntKind.i64 c.was, Value.int IntKind.i64 c.lo, Value.int IntKind.i64 c.hi, Value.int IntKind.i8 c.mode]] w _
  have kb := Blk.new (w.alloc (Obj.cells #[Value.int IntKind.i8 c.kind, Value.int IntKind.i64 c.node, Value.int IntKind.i64 c.serial, Value.int IntKind.i64 c.dead, Value.int IntKind.i64 c.was, Value.int IntKind.i64 c.lo, Value.int IntKind.i64 c.hi, Value.int IntKind.i8 c.mode] 42)) 60 (cO c (.slice none 0 0))
  have kb1 : Blk ((w.alloc (Obj.cells #[Value.int IntKind.i8 c.kind, Value.int IntKind.i64 c.node, Value.int IntKind.i64 c.serial, Value.int IntKind.i64 c.dead, Value.int IntKind.i64 c.was, Value.int IntKind.i64 c.lo, Value.int IntKind.i64 c.hi, Value.int IntKind.i8 c.mode] 42)).alloc (Obj.cells #[Value.int IntKind.i8 c.kind, Value.int IntKind.i64 c.node, Value.int IntKind.i64 c.serial, Value.int IntKind.i64 c.dead, Value.int IntKind.i64 c.was, Value.int IntKind.i64 c.lo, Value.int IntKind.i64 c.hi, Value.int IntKind.i8 c.mode, Value.slice none 0 0] 60)) (w.heap.size + 1) 60 (cO c (.slice none 0 0)) := by simpa [cO] using kb
  have hy := may_any (w.heap.size + 1) 60 c (.slice none 0 0) ((w.alloc (Obj.cells #[Value.int IntKind.i8 c.kind, Value.int IntKind.i64 c.node, Value.int IntKind.i64 c.serial, Value.int IntKind.i64 c.dead, Value.int IntKind.i64 c.was, Value.int IntKind.i64 c.lo, Value.int IntKind.i64 c.hi, Value.int IntKind.i8 c.mode] 42)).alloc (Obj.cells #[Value.int IntKind.i8 c.kind, Value.int IntKind.i64 c.node, Value.int IntKind.i64 c.serial, Value.int IntKind.i64 c.dead, Value.int IntKind.i64 c.was, Value.int IntKind.i64 c.lo, Value.int IntKind.i64 c.hi, Value.int IntKind.i8 c.mode, Value.slice none 0 0] 60)) kb1
  rw [hm] at hy
  obtain ⟨⟨b1, b2⟩, ⟨s1, s2⟩, hk⟩ := may_has c hm
  have HK := Lib.hid hk; clear hk
  have FK : Hid ([c.kind].all (fitsB · 1) = true) := Lib.hid (by
    have hk := HK.out
    have k0 : 0 ≤ c.kind := by omega
    have k5 : c.kind ≤ 255 := by omega
    simp [fits1 _ k0 k5])
  have FB : Hid ([c.node].all (fitsB · 6) = true) := Lib.hid (by simp [fits6 c.node (by omega) b2])
  have FS : Hid ([c.serial].all (fitsB · 4) = true) := Lib.hid (by simp [fits4 c.serial (by omega) s2])
  have KBw0 := Lib.hid kb1
  have KW0 : Hid (Below w.heap.size w ((w.alloc (Obj.cells #[Value.int IntKind.i8 c.kind, Value.int IntKind.i64 c.node, Value.int IntKind.i64 c.serial, Value.int IntKind.i64 c.dead, Value.int IntKind.i64 c.was, Value.int IntKind.i64 c.lo, Value.int IntKind.i64 c.hi, Value.int IntKind.i8 c.mode] 42)).alloc (Obj.cells #[Value.int IntKind.i8 c.kind, Value.int IntKind.i64 c.node, Value.int IntKind.i64 c.serial, Value.int IntKind.i64 c.dead, Value.int IntKind.i64 c.was, Value.int IntKind.i64 c.lo, Value.int IntKind.i64 c.hi, Value.int IntKind.i8 c.mode, Value.slice none 0 0] 60))) := Lib.hid (((Below.refl _ _).alloc (Nat.le_refl _) _).alloc (by simp) _)
  have HY := Lib.hid hy
  have CV_kind := Lib.hid ck
  have CV_mode := Lib.hid cm
  clear kb kb1 hy hm ck cm b1 b2 s1 s2
  go_enter Try.func24, Try.ntmps24
  go_wp2_with fail
  refine HY.out.mono ?_
  rintro e w1 ⟨rfl, hb1⟩
  have KBw1 := Lib.hid (KBw0.out.below hb1 KBw0.out.lt); have KWw1 := Lib.hid (KW0.out.trans (hb1.mono KW0.out.size))
  have KRw1 : Hid (Rd w1 w1.heap.size none 0 (cB [])) := Lib.hid Rd.nil
  have HLw1 : Hid (([] : List UInt8).length ≤ 100) := Lib.hid (by decide)
  clear hb1 KBw0 KW0 HY
  go_upto_region 4 with fail
  refine wp_region_grows 8 ((fun q_ _ _ => q_ = .pointer (some ⟨(w.heap.size + 1), 0, none⟩)) :: (fun q_ _ _ => q_ = .pointer (some ⟨(w.heap.size + 1), 0, none⟩)) :: (fun q_ _ _ => q_ = .pointer (some ⟨(w.heap.size + 1), 0, none⟩)) :: (fun q_ _ _ => q_ = .pointer (some ⟨(w.heap.size + 1), 0, none⟩)) :: (fun q_ _ _ => q_ = .pointer (some ⟨(w.heap.size + 1), 0, none⟩)) :: (fun q_ _ _ => q_ = .int .i8 c.kind) :: (fun q_ _ _ => q_ = .int .i64 c.kind) :: (fun q_ _ W => q_ = .slice (some ⟨sOf q_, 0, none⟩) 1 1 ∧ Blk W (sOf q_) 3 #[.int .i64 c.kind]) :: []) (fun _ => false) (w1.heap.size) w1 (by kernel_rfl) (by kernel_rfl) (by kernel_rfl) (Below.refl _ _) (Nat.le_refl _) ?aStab (fun _ h => by cases h) ?aOps ?aFin
  case aStab => exact ⟨st_is _, st_is _, st_is _, st_is _, st_is _, st_is _, st_is _, st_row _ _ _, trivial⟩
  case aOps =>
    intro Q
    refine ⟨?_, ?_, ?_, ?_, ?_, ?_, ?_, ?_, trivial⟩
    · intro ho a W hW hd hx
      have h4 : a.eval (.tmp 4) = .pointer (some ⟨(w.heap.size + 1), 0, none⟩) := (hx 4 (dst_not (by kernel_rfl))).trans rfl
      exact op_v ho (.pointer (some ⟨(w.heap.size + 1), 0, none⟩)) rfl (by intro ρ hρ kc kf; rw [← hρ] at h4; clear hρ; simp [execOp, go_sem, h4]) rfl rfl
    · intro ho a W hW hd hx
      have h4 : a.eval (.tmp 4) = .pointer (some ⟨(w.heap.size + 1), 0, none⟩) := (hx 4 (dst_not (by kernel_rfl))).trans rfl
      exact op_v ho (.pointer (some ⟨(w.heap.size + 1), 0, none⟩)) rfl (by intro ρ hρ kc kf; rw [← hρ] at h4; clear hρ; simp [execOp, go_sem, h4]) rfl rfl
    · intro ho a W hW hd hx
      have h12 : a.eval (.tmp 12) = .pointer (some ⟨(w.heap.size + 1), 0, none⟩) := hd 1 (by kernel_rfl)
      exact op_v ho (.pointer (some ⟨(w.heap.size + 1), 0, none⟩)) rfl (by intro ρ hρ kc kf; rw [← hρ] at h12; clear hρ; simp [execOp, go_sem, h12]) rfl rfl
    · intro ho a W hW hd hx
      have h13 : a.eval (.tmp 13) = .pointer (some ⟨(w.heap.size + 1), 0, none⟩) := hd 2 (by kernel_rfl)
      exact op_v ho (.pointer (some ⟨(w.heap.size + 1), 0, none⟩)) rfl (by intro ρ hρ kc kf; rw [← hρ] at h13; clear hρ; simp [execOp, go_sem, h13]) rfl rfl
    · intro ho a W hW hd hx
      have h14 : a.eval (.tmp 14) = .pointer (some ⟨(w.heap.size + 1), 0, none⟩) := hd 3 (by kernel_rfl)
      exact op_v ho (.pointer (some ⟨(w.heap.size + 1), 0, none⟩)) rfl (by intro ρ hρ kc kf; rw [← hρ] at h14; clear hρ; simp [execOp, go_sem, h14]) rfl rfl
    · intro ho a W hW hd hx
      have h15 : a.eval (.tmp 15) = .pointer (some ⟨(w.heap.size + 1), 0, none⟩) := hd 4 (by kernel_rfl)
      have hcell : W.cell? ⟨(w.heap.size + 1), 0, none⟩ = some (.int .i8 c.kind) := by rw [(KBw1.out.below hW KBw1.out.lt).cell 0]; rfl
      exact op_v ho (.int .i8 c.kind) rfl (by intro ρ hρ kc kf; rw [← hρ] at h15; clear hρ; simp [execOp, go_sem, h15, hcell]) rfl rfl
    · intro ho a W hW hd hx
      have h16 : a.eval (.tmp 16) = .int .i8 c.kind := hd 5 (by kernel_rfl)
      exact op_v ho (.int .i64 c.kind) rfl (by intro ρ hρ kc kf; rw [← hρ] at h16; clear hρ; simp [execOp, go_sem, h16, CV_kind.out]) rfl rfl
    · intro ho a W hW hd hx
      have h17 : a.eval (.tmp 17) = .int .i64 c.kind := hd 6 (by kernel_rfl)
      exact op_value ho (want_none rfl) (v := .slice (some ⟨W.heap.size, 0, none⟩) 1 1) (w' := W.alloc (.cells #[.int .i64 c.kind] 3)) (by intro ρ hρ kc kf; rw [← hρ] at h17; clear hρ; simp [execOp, go_sem, h17]) ⟨_, rfl, (fun h => by cases h), ⟨rfl, Blk.new W 3 _⟩, (Below.refl _ _).alloc (Nat.le_refl _) _, (fun h => absurd h (by decide))⟩
  intro va W hW hv _
  have hs : va 7 = .slice (some ⟨sOf (va 7), 0, none⟩) 1 1 ∧ Blk W (sOf (va 7)) 3 #[.int .i64 c.kind] := hv 7 (by decide)
  have hsa := hs.1
  have h0 : va 0 = .pointer (some ⟨(w.heap.size + 1), 0, none⟩) := hv 0 (by decide)
  simp only [List.take_succ_cons, List.take_zero, List.drop_succ_cons, List.drop_zero, fillL, wpTail, Act.put, List.setIfInBounds_toArray, List.set_cons_zero, List.set_cons_succ, Nat.reduceAdd]
  rw [hsa, h0]
  have kb := KBw1.out.below hW KBw1.out.lt
  have kr := (KRw1.out.below hW).more hW.size
  have kz : Rd W W.heap.size (some ⟨sOf (va 7), 0, none⟩) 1 (cI [c.kind]) := Blk.rd (zs := [c.kind]) hs.2
  have kw := KWw1.out.trans (hW.mono KWw1.out.size)
  refine tail_call (f := 34) (args := #[.pointer (some ⟨(w.heap.size + 1), 0, none⟩), .int .i64 (1 : Nat), .slice (some ⟨sOf (va 7), 0, none⟩) 1 1]) (W' := W) (by simp [go_sem]) (oput_ok (w.heap.size + 1) 60 c none 0 0 [] 1 _ 1 1 [c.kind] w W (Nat.le_succ _) kw kb kr kz HLw1.out (by decide) (by decide) (by decide) FK.out) ?_
  rintro e w2 ⟨rfl, Aw2, nw2, cw2, bsw2, hew2, kb2, kr2, kw2⟩
  refine ⟨_, rfl, ?_⟩
  have HLw2 : Hid (bsw2.length ≤ 100) := Lib.hid (by rw [hew2, List.nil_append]; simp [length_putL])
  have HEw2 : Hid (bsw2 = putL 1 [c.kind]) := Lib.hid (by rw [hew2, List.nil_append])
  have KBw2 := Lib.hid kb2; have KRw2 := Lib.hid kr2; have KWw2 := Lib.hid kw2
  clear kb2 kr2 kw2 kb kr kz kw hew2 hs hsa h0 hW hv KBw1 KRw1 KWw1 HLw1
  go_upto_region 5 with fail
  refine wp_region_grows 7 ((fun q_ _ _ => q_ = .pointer (some ⟨(w.heap.size + 1), 0, none⟩)) :: (fun q_ _ _ => q_ = .pointer (some ⟨(w.heap.size + 1), 0, none⟩)) :: (fun q_ _ _ => q_ = .pointer (some ⟨(w.heap.size + 1), 0, none⟩)) :: (fun q_ _ _ => q_ = .pointer (some ⟨(w.heap.size + 1), 0, none⟩)) :: (fun q_ _ _ => q_ = .pointer (some ⟨(w.heap.size + 1), 1, none⟩)) :: (fun q_ _ _ => q_ = .int .i64 c.node) :: (fun q_ _ W => q_ = .slice (some ⟨sOf q_, 0, none⟩) 1 1 ∧ Blk W (sOf q_) 3 #[.int .i64 c.node]) :: []) (fun _ => false) (w2.heap.size) w2 (by kernel_rfl) (by kernel_rfl) (by kernel_rfl) (Below.refl _ _) (Nat.le_refl _) ?bStab (fun _ h => by cases h) ?bOps ?bFin
  case bStab => exact ⟨st_is _, st_is _, st_is _, st_is _, st_is _, st_is _, st_row _ _ _, trivial⟩
  case bOps =>
    intro Q
    refine ⟨?_, ?_, ?_, ?_, ?_, ?_, ?_, trivial⟩
    · intro ho a W hW hd hx
      have h4 : a.eval (.tmp 4) = .pointer (some ⟨(w.heap.size + 1), 0, none⟩) := (hx 4 (dst_not (by kernel_rfl))).trans rfl
      exact op_v ho (.pointer (some ⟨(w.heap.size + 1), 0, none⟩)) rfl (by intro ρ hρ kc kf; rw [← hρ] at h4; clear hρ; simp [execOp, go_sem, h4]) rfl rfl
    · intro ho a W hW hd hx
      have h4 : a.eval (.tmp 4) = .pointer (some ⟨(w.heap.size + 1), 0, none⟩) := (hx 4 (dst_not (by kernel_rfl))).trans rfl
      exact op_v ho (.pointer (some ⟨(w.heap.size + 1), 0, none⟩)) rfl (by intro ρ hρ kc kf; rw [← hρ] at h4; clear hρ; simp [execOp, go_sem, h4]) rfl rfl
    · intro ho a W hW hd hx
      have h21 : a.eval (.tmp 21) = .pointer (some ⟨(w.heap.size + 1), 0, none⟩) := hd 1 (by kernel_rfl)
      exact op_v ho (.pointer (some ⟨(w.heap.size + 1), 0, none⟩)) rfl (by intro ρ hρ kc kf; rw [← hρ] at h21; clear hρ; simp [execOp, go_sem, h21]) rfl rfl
    · intro ho a W hW hd hx
      have h22 : a.eval (.tmp 22) = .pointer (some ⟨(w.heap.size + 1), 0, none⟩) := hd 2 (by kernel_rfl)
      exact op_v ho (.pointer (some ⟨(w.heap.size + 1), 0, none⟩)) rfl (by intro ρ hρ kc kf; rw [← hρ] at h22; clear hρ; simp [execOp, go_sem, h22]) rfl rfl
    · intro ho a W hW hd hx
      have h23 : a.eval (.tmp 23) = .pointer (some ⟨(w.heap.size + 1), 0, none⟩) := hd 3 (by kernel_rfl)
      exact op_v ho (.pointer (some ⟨(w.heap.size + 1), 1, none⟩)) rfl (by intro ρ hρ kc kf; rw [← hρ] at h23; clear hρ; simp [execOp, go_sem, h23]) rfl rfl
    · intro ho a W hW hd hx
      have h24 : a.eval (.tmp 24) = .pointer (some ⟨(w.heap.size + 1), 1, none⟩) := hd 4 (by kernel_rfl)
      have hcell : W.cell? ⟨(w.heap.size + 1), 1, none⟩ = some (.int .i64 c.node) := by rw [(KBw2.out.below hW KBw2.out.lt).cell 1]; rfl
      exact op_v ho (.int .i64 c.node) rfl (by intro ρ hρ kc kf; rw [← hρ] at h24; clear hρ; simp [execOp, go_sem, h24, hcell]) rfl rfl
    · intro ho a W hW hd hx
      have h25 : a.eval (.tmp 25) = .int .i64 c.node := hd 5 (by kernel_rfl)
      exact op_value ho (want_none rfl) (v := .slice (some ⟨W.heap.size, 0, none⟩) 1 1) (w' := W.alloc (.cells #[.int .i64 c.node] 3)) (by intro ρ hρ kc kf; rw [← hρ] at h25; clear hρ; simp [execOp, go_sem, h25]) ⟨_, rfl, (fun h => by cases h), ⟨rfl, Blk.new W 3 _⟩, (Below.refl _ _).alloc (Nat.le_refl _) _, (fun h => absurd h (by decide))⟩
  intro vb W hW hv _
  have hs : vb 6 = .slice (some ⟨sOf (vb 6), 0, none⟩) 1 1 ∧ Blk W (sOf (vb 6)) 3 #[.int .i64 c.node] := hv 6 (by decide)
  have hsa := hs.1
  have h0 : vb 0 = .pointer (some ⟨(w.heap.size + 1), 0, none⟩) := hv 0 (by decide)
  simp only [List.take_succ_cons, List.take_zero, List.drop_succ_cons, List.drop_zero, fillL, wpTail, Act.put, List.setIfInBounds_toArray, List.set_cons_zero, List.set_cons_succ, Nat.reduceAdd]
  rw [hsa, h0]
  have kb := KBw2.out.below hW KBw2.out.lt
  have kr := (KRw2.out.below hW).more hW.size
  have kz : Rd W W.heap.size (some ⟨sOf (vb 6), 0, none⟩) 1 (cI [c.node]) := Blk.rd (zs := [c.node]) hs.2
  have kw := KWw2.out.trans (hW.mono KWw2.out.size)
  refine tail_call (f := 34) (args := #[.pointer (some ⟨(w.heap.size + 1), 0, none⟩), .int .i64 (6 : Nat), .slice (some ⟨sOf (vb 6), 0, none⟩) 1 1]) (W' := W) (by simp [go_sem]) (oput_ok (w.heap.size + 1) 60 c Aw2 nw2 cw2 bsw2 6 _ 1 1 [c.node] w W (Nat.le_succ _) kw kb kr kz HLw2.out (by decide) (by decide) (by decide) FB.out) ?_
  rintro e w3 ⟨rfl, Aw3, nw3, cw3, bsw3, hew3, kb2, kr2, kw2⟩
  refine ⟨_, rfl, ?_⟩
  have HLw3 : Hid (bsw3.length ≤ 100) := Lib.hid (by rw [hew3, HEw2.out]; simp [length_putL])
  have HEw3 : Hid (bsw3 = putL 1 [c.kind] ++ putL 6 [c.node]) := Lib.hid (by rw [hew3, HEw2.out])
  have KBw3 := Lib.hid kb2; have KRw3 := Lib.hid kr2; have KWw3 := Lib.hid kw2
  clear kb2 kr2 kw2 kb kr kz kw hew3 hs hsa h0 hW hv KBw2 KRw2 KWw2 HLw2 HEw2
  go_upto_region 6 with fail
  refine wp_region_grows 7 ((fun q_ _ _ => q_ = .pointer (some ⟨(w.heap.size + 1), 0, none⟩)) :: (fun q_ _ _ => q_ = .pointer (some ⟨(w.heap.size + 1), 0, none⟩)) :: (fun q_ _ _ => q_ = .pointer (some ⟨(w.heap.size + 1), 0, none⟩)) :: (fun q_ _ _ => q_ = .pointer (some ⟨(w.heap.size + 1), 0, none⟩)) :: (fun q_ _ _ => q_ = .pointer (some ⟨(w.heap.size + 1), 2, none⟩)) :: (fun q_ _ _ => q_ = .int .i64 c.serial) :: (fun q_ _ W => q_ = .slice (some ⟨sOf q_, 0, none⟩) 1 1 ∧ Blk W (sOf q_) 3 #[.int .i64 c.serial]) :: []) (fun _ => false) (w3.heap.size) w3 (by kernel_rfl) (by kernel_rfl) (by kernel_rfl) (Below.refl _ _) (Nat.le_refl _) ?dStab (fun _ h => by cases h) ?dOps ?dFin
  case dStab => exact ⟨st_is _, st_is _, st_is _, st_is _, st_is _, st_is _, st_row _ _ _, trivial⟩
  case dOps =>
    intro Q
    refine ⟨?_, ?_, ?_, ?_, ?_, ?_, ?_, trivial⟩
    · intro ho a W hW hd hx
      have h4 : a.eval (.tmp 4) = .pointer (some ⟨(w.heap.size + 1), 0, none⟩) := (hx 4 (dst_not (by kernel_rfl))).trans rfl
      exact op_v ho (.pointer (some ⟨(w.heap.size + 1), 0, none⟩)) rfl (by intro ρ hρ kc kf; rw [← hρ] at h4; clear hρ; simp [execOp, go_sem, h4]) rfl rfl
    · intro ho a W hW hd hx
      have h4 : a.eval (.tmp 4) = .pointer (some ⟨(w.heap.size + 1), 0, none⟩) := (hx 4 (dst_not (by kernel_rfl))).trans rfl
      exact op_v ho (.pointer (some ⟨(w.heap.size + 1), 0, none⟩)) rfl (by intro ρ hρ kc kf; rw [← hρ] at h4; clear hρ; simp [execOp, go_sem, h4]) rfl rfl
    · intro ho a W hW hd hx
      have h29 : a.eval (.tmp 29) = .pointer (some ⟨(w.heap.size + 1), 0, none⟩) := hd 1 (by kernel_rfl)
      exact op_v ho (.pointer (some ⟨(w.heap.size + 1), 0, none⟩)) rfl (by intro ρ hρ kc kf; rw [← hρ] at h29; clear hρ; simp [execOp, go_sem, h29]) rfl rfl
    · intro ho a W hW hd hx
      have h30 : a.eval (.tmp 30) = .pointer (some ⟨(w.heap.size + 1), 0, none⟩) := hd 2 (by kernel_rfl)
      exact op_v ho (.pointer (some ⟨(w.heap.size + 1), 0, none⟩)) rfl (by intro ρ hρ kc kf; rw [← hρ] at h30; clear hρ; simp [execOp, go_sem, h30]) rfl rfl
    · intro ho a W hW hd hx
      have h31 : a.eval (.tmp 31) = .pointer (some ⟨(w.heap.size + 1), 0, none⟩) := hd 3 (by kernel_rfl)
      exact op_v ho (.pointer (some ⟨(w.heap.size + 1), 2, none⟩)) rfl (by intro ρ hρ kc kf; rw [← hρ] at h31; clear hρ; simp [execOp, go_sem, h31]) rfl rfl
    · intro ho a W hW hd hx
      have h32 : a.eval (.tmp 32) = .pointer (some ⟨(w.heap.size + 1), 2, none⟩) := hd 4 (by kernel_rfl)
      have hcell : W.cell? ⟨(w.heap.size + 1), 2, none⟩ = some (.int .i64 c.serial) := by rw [(KBw3.out.below hW KBw3.out.lt).cell 2]; rfl
      exact op_v ho (.int .i64 c.serial) rfl (by intro ρ hρ kc kf; rw [← hρ] at h32; clear hρ; simp [execOp, go_sem, h32, hcell]) rfl rfl
    · intro ho a W hW hd hx
      have h33 : a.eval (.tmp 33) = .int .i64 c.serial := hd 5 (by kernel_rfl)
      exact op_value ho (want_none rfl) (v := .slice (some ⟨W.heap.size, 0, none⟩) 1 1) (w' := W.alloc (.cells #[.int .i64 c.serial] 3)) (by intro ρ hρ kc kf; rw [← hρ] at h33; clear hρ; simp [execOp, go_sem, h33]) ⟨_, rfl, (fun h => by cases h), ⟨rfl, Blk.new W 3 _⟩, (Below.refl _ _).alloc (Nat.le_refl _) _, (fun h => absurd h (by decide))⟩
  intro vd W hW hv _
  have hs : vd 6 = .slice (some ⟨sOf (vd 6), 0, none⟩) 1 1 ∧ Blk W (sOf (vd 6)) 3 #[.int .i64 c.serial] := hv 6 (by decide)
  have hsa := hs.1
  have h0 : vd 0 = .pointer (some ⟨(w.heap.size + 1), 0, none⟩) := hv 0 (by decide)
  simp only [List.take_succ_cons, List.take_zero, List.drop_succ_cons, List.drop_zero, fillL, wpTail, Act.put, List.setIfInBounds_toArray, List.set_cons_zero, List.set_cons_succ, Nat.reduceAdd]
  rw [hsa, h0]
  have kb := KBw3.out.below hW KBw3.out.lt
  have kr := (KRw3.out.below hW).more hW.size
  have kz : Rd W W.heap.size (some ⟨sOf (vd 6), 0, none⟩) 1 (cI [c.serial]) := Blk.rd (zs := [c.serial]) hs.2
  have kw := KWw3.out.trans (hW.mono KWw3.out.size)
  refine tail_call (f := 34) (args := #[.pointer (some ⟨(w.heap.size + 1), 0, none⟩), .int .i64 (4 : Nat), .slice (some ⟨sOf (vd 6), 0, none⟩) 1 1]) (W' := W) (by simp [go_sem]) (oput_ok (w.heap.size + 1) 60 c Aw3 nw3 cw3 bsw3 4 _ 1 1 [c.serial] w W (Nat.le_succ _) kw kb kr kz HLw3.out (by decide) (by decide) (by decide) FS.out) ?_
  rintro e w4 ⟨rfl, Aw4, nw4, cw4, bsw4, hew4, kb2, kr2, kw2⟩
  refine ⟨_, rfl, ?_⟩
  have HLw4 : Hid (bsw4.length ≤ 100) := Lib.hid (by rw [hew4, HEw3.out]; simp [length_putL])
  have HEw4 : Hid (bsw4 = putL 1 [c.kind] ++ putL 6 [c.node] ++ putL 4 [c.serial]) := Lib.hid (by rw [hew4, HEw3.out])
  have KBw4 := Lib.hid kb2; have KRw4 := Lib.hid kr2; have KWw4 := Lib.hid kw2
  clear kb2 kr2 kw2 kb kr kz kw hew4 hs hsa h0 hW hv KBw3 KRw3 KWw3 HLw3 HEw3
  have c0 : w4.cell? ⟨w.heap.size + 1, 0, none⟩ = some (.int .i8 c.kind) := by rw [KBw4.out.cell 0]; rfl
  refine Or.elim HK.out (fun hk => ?_) (fun hk => ?_)
  · clear HK
    have k2 : (c.kind == 2) = false := by have := hk.1; simp; omega
    have k3 : (c.kind == 3) = false := by have := hk.1; simp; omega
    have k4 : (c.kind == 4) = false := by have := hk.1; simp; omega
    have k5 : (c.kind == 5) = false := by have := hk.1; simp; omega
    have KN : Hid (moreC c = []) := Lib.hid (by have := hk.1; unfold moreC; rw [if_neg (by omega), if_neg (by omega), if_neg (by omega), if_neg (by omega)])
    clear hk
    have c8 : w4.cell? ⟨w.heap.size + 1, 8, none⟩ = some (.slice Aw4 nw4 cw4) := by rw [KBw4.out.cell 8]; rfl
    have hst := run_str cw4 KRw4.out
    obtain ⟨X, hX⟩ : ∃ X : ByteArray, X = ⟨bsw4.toArray⟩ := ⟨_, rfl⟩
    rw [← hX] at hst
    have HX := Lib.hid hX; clear hX
    go_wp2
    go_ret2
    have eX : X = ⟨(bytesC c).toArray⟩ := by rw [HX.out, HEw4.out, bytes_more c _ KN.out, List.append_nil]
    rw [← eX]
    exact ⟨rfl, KWw4.out⟩
  refine Or.elim hk (fun hk => ?_) (fun hk => ?_)
  · clear HK
    have ho := (only_iff c _ _ _ _).1 hk.2
    simp only [if_true, Bool.false_eq_true, if_false] at ho
    have sp := (span_iff c).1 ho.1
    have FM : Hid ([c.lo, c.hi, c.mode].all (fitsB · 1) = true) := Lib.hid (by simp [fits1 c.lo sp.1 (by omega), fits1 c.hi (by omega) (by omega), fits1 c.mode (by have := ho.2.1; omega) (by have := ho.2.1; omega)])
    clear sp ho
    have kk : c.kind = 2 := hk.1
    have KN : Hid (moreC c = putL 1 [c.lo, c.hi, c.mode]) := Lib.hid (by unfold moreC; rw [if_pos kk])
    clear hk
    go_upto_region 9 with fail
    refine wp_region_grows 20 ((fun q_ _ _ => q_ = .pointer (some ⟨(w.heap.size + 1), 0, none⟩)) :: (fun q_ _ _ => q_ = .pointer (some ⟨(w.heap.size + 1), 0, none⟩)) :: (fun q_ _ _ => q_ = .pointer (some ⟨(w.heap.size + 1), 0, none⟩)) :: (fun q_ _ _ => q_ = .pointer (some ⟨(w.heap.size + 1), 0, none⟩)) :: (fun q_ _ _ => q_ = .pointer (some ⟨(w.heap.size + 1), 5, none⟩)) :: (fun q_ _ _ => q_ = .pointer (some ⟨(w.heap.size + 1), 5, none⟩)) :: (fun q_ _ _ => q_ = .int .i64 c.lo) :: (fun q_ _ _ => q_ = .pointer (some ⟨(w.heap.size + 1), 0, none⟩)) :: (fun q_ _ _ => q_ = .pointer (some ⟨(w.heap.size + 1), 0, none⟩)) :: (fun q_ _ _ => q_ = .pointer (some ⟨(w.heap.size + 1), 0, none⟩)) :: (fun q_ _ _ => q_ = .pointer (some ⟨(w.heap.size + 1), 5, none⟩)) :: (fun q_ _ _ => q_ = .pointer (some ⟨(w.heap.size + 1), 6, none⟩)) :: (fun q_ _ _ => q_ = .int .i64 c.hi) :: (fun q_ _ _ => q_ = .pointer (some ⟨(w.heap.size + 1), 0, none⟩)) :: (fun q_ _ _ => q_ = .pointer (some ⟨(w.heap.size + 1), 0, none⟩)) :: (fun q_ _ _ => q_ = .pointer (some ⟨(w.heap.size + 1), 0, none⟩)) :: (fun q_ _ _ => q_ = .pointer (some ⟨(w.heap.size + 1), 7, none⟩)) :: (fun q_ _ _ => q_ = .int .i8 c.mode) :: (fun q_ _ _ => q_ = .int .i64 c.mode) :: (fun q_ _ W => q_ = .slice (some ⟨sOf q_, 0, none⟩) 3 3 ∧ Blk W (sOf q_) 3 #[.int .i64 c.lo, .int .i64 c.hi, .int .i64 c.mode]) :: []) (fun _ => false) (w4.heap.size) w4 (by kernel_rfl) (by kernel_rfl) (by kernel_rfl) (Below.refl _ _) (Nat.le_refl _) ?e2Stab (fun _ h => by cases h) ?e2Ops ?e2Fin
    case e2Stab => exact ⟨st_is _, st_is _, st_is _, st_is _, st_is _, st_is _, st_is _, st_is _, st_is _, st_is _, st_is _, st_is _, st_is _, st_is _, st_is _, st_is _, st_is _, st_is _, st_is _, st_row _ _ _, trivial⟩
    case e2Ops =>
      intro Q
      refine ⟨?_, ?_, ?_, ?_, ?_, ?_, ?_, ?_, ?_, ?_, ?_, ?_, ?_, ?_, ?_, ?_, ?_, ?_, ?_, ?_, trivial⟩
      · intro ho a W hW hd hx
        have h4 : a.eval (.tmp 4) = .pointer (some ⟨(w.heap.size + 1), 0, none⟩) := (hx 4 (dst_not (by kernel_rfl))).trans rfl
        exact op_v ho (.pointer (some ⟨(w.heap.size + 1), 0, none⟩)) rfl (by intro ρ hρ kc kf; rw [← hρ] at h4; clear hρ; simp [execOp, go_sem, h4]) rfl rfl
      · intro ho a W hW hd hx
        have h4 : a.eval (.tmp 4) = .pointer (some ⟨(w.heap.size + 1), 0, none⟩) := (hx 4 (dst_not (by kernel_rfl))).trans rfl
        exact op_v ho (.pointer (some ⟨(w.heap.size + 1), 0, none⟩)) rfl (by intro ρ hρ kc kf; rw [← hρ] at h4; clear hρ; simp [execOp, go_sem, h4]) rfl rfl
      · intro ho a W hW hd hx
        have h44 : a.eval (.tmp 44) = .pointer (some ⟨(w.heap.size + 1), 0, none⟩) := hd 1 (by kernel_rfl)
        exact op_v ho (.pointer (some ⟨(w.heap.size + 1), 0, none⟩)) rfl (by intro ρ hρ kc kf; rw [← hρ] at h44; clear hρ; simp [execOp, go_sem, h44]) rfl rfl
      · intro ho a W hW hd hx
        have h45 : a.eval (.tmp 45) = .pointer (some ⟨(w.heap.size + 1), 0, none⟩) := hd 2 (by kernel_rfl)
        exact op_v ho (.pointer (some ⟨(w.heap.size + 1), 0, none⟩)) rfl (by intro ρ hρ kc kf; rw [← hρ] at h45; clear hρ; simp [execOp, go_sem, h45]) rfl rfl
      · intro ho a W hW hd hx
        have h46 : a.eval (.tmp 46) = .pointer (some ⟨(w.heap.size + 1), 0, none⟩) := hd 3 (by kernel_rfl)
        exact op_v ho (.pointer (some ⟨(w.heap.size + 1), 5, none⟩)) rfl (by intro ρ hρ kc kf; rw [← hρ] at h46; clear hρ; simp [execOp, go_sem, h46]) rfl rfl
      · intro ho a W hW hd hx
        have h47 : a.eval (.tmp 47) = .pointer (some ⟨(w.heap.size + 1), 5, none⟩) := hd 4 (by kernel_rfl)
        exact op_v ho (.pointer (some ⟨(w.heap.size + 1), 5, none⟩)) rfl (by intro ρ hρ kc kf; rw [← hρ] at h47; clear hρ; simp [execOp, go_sem, h47]) rfl rfl
      · intro ho a W hW hd hx
        have h48 : a.eval (.tmp 48) = .pointer (some ⟨(w.heap.size + 1), 5, none⟩) := hd 5 (by kernel_rfl)
        have hcell : W.cell? ⟨(w.heap.size + 1), 5, none⟩ = some (.int .i64 c.lo) := by rw [(KBw4.out.below hW KBw4.out.lt).cell 5]; rfl
        exact op_v ho (.int .i64 c.lo) rfl (by intro ρ hρ kc kf; rw [← hρ] at h48; clear hρ; simp [execOp, go_sem, h48, hcell]) rfl rfl
      · intro ho a W hW hd hx
        have h4 : a.eval (.tmp 4) = .pointer (some ⟨(w.heap.size + 1), 0, none⟩) := (hx 4 (dst_not (by kernel_rfl))).trans rfl
        exact op_v ho (.pointer (some ⟨(w.heap.size + 1), 0, none⟩)) rfl (by intro ρ hρ kc kf; rw [← hρ] at h4; clear hρ; simp [execOp, go_sem, h4]) rfl rfl
      · intro ho a W hW hd hx
        have h50 : a.eval (.tmp 50) = .pointer (some ⟨(w.heap.size + 1), 0, none⟩) := hd 7 (by kernel_rfl)
        exact op_v ho (.pointer (some ⟨(w.heap.size + 1), 0, none⟩)) rfl (by intro ρ hρ kc kf; rw [← hρ] at h50; clear hρ; simp [execOp, go_sem, h50]) rfl rfl
      · intro ho a W hW hd hx
        have h51 : a.eval (.tmp 51) = .pointer (some ⟨(w.heap.size + 1), 0, none⟩) := hd 8 (by kernel_rfl)
        exact op_v ho (.pointer (some ⟨(w.heap.size + 1), 0, none⟩)) rfl (by intro ρ hρ kc kf; rw [← hρ] at h51; clear hρ; simp [execOp, go_sem, h51]) rfl rfl
      · intro ho a W hW hd hx
        have h52 : a.eval (.tmp 52) = .pointer (some ⟨(w.heap.size + 1), 0, none⟩) := hd 9 (by kernel_rfl)
        exact op_v ho (.pointer (some ⟨(w.heap.size + 1), 5, none⟩)) rfl (by intro ρ hρ kc kf; rw [← hρ] at h52; clear hρ; simp [execOp, go_sem, h52]) rfl rfl
      · intro ho a W hW hd hx
        have h53 : a.eval (.tmp 53) = .pointer (some ⟨(w.heap.size + 1), 5, none⟩) := hd 10 (by kernel_rfl)
        exact op_v ho (.pointer (some ⟨(w.heap.size + 1), 6, none⟩)) rfl (by intro ρ hρ kc kf; rw [← hρ] at h53; clear hρ; simp [execOp, go_sem, h53]) rfl rfl
      · intro ho a W hW hd hx
        have h54 : a.eval (.tmp 54) = .pointer (some ⟨(w.heap.size + 1), 6, none⟩) := hd 11 (by kernel_rfl)
        have hcell : W.cell? ⟨(w.heap.size + 1), 6, none⟩ = some (.int .i64 c.hi) := by rw [(KBw4.out.below hW KBw4.out.lt).cell 6]; rfl
        exact op_v ho (.int .i64 c.hi) rfl (by intro ρ hρ kc kf; rw [← hρ] at h54; clear hρ; simp [execOp, go_sem, h54, hcell]) rfl rfl
      · intro ho a W hW hd hx
        have h4 : a.eval (.tmp 4) = .pointer (some ⟨(w.heap.size + 1), 0, none⟩) := (hx 4 (dst_not (by kernel_rfl))).trans rfl
        exact op_v ho (.pointer (some ⟨(w.heap.size + 1), 0, none⟩)) rfl (by intro ρ hρ kc kf; rw [← hρ] at h4; clear hρ; simp [execOp, go_sem, h4]) rfl rfl
      · intro ho a W hW hd hx
        have h56 : a.eval (.tmp 56) = .pointer (some ⟨(w.heap.size + 1), 0, none⟩) := hd 13 (by kernel_rfl)
        exact op_v ho (.pointer (some ⟨(w.heap.size + 1), 0, none⟩)) rfl (by intro ρ hρ kc kf; rw [← hρ] at h56; clear hρ; simp [execOp, go_sem, h56]) rfl rfl
      · intro ho a W hW hd hx
        have h57 : a.eval (.tmp 57) = .pointer (some ⟨(w.heap.size + 1), 0, none⟩) := hd 14 (by kernel_rfl)
        exact op_v ho (.pointer (some ⟨(w.heap.size + 1), 0, none⟩)) rfl (by intro ρ hρ kc kf; rw [← hρ] at h57; clear hρ; simp [execOp, go_sem, h57]) rfl rfl
      · intro ho a W hW hd hx
        have h58 : a.eval (.tmp 58) = .pointer (some ⟨(w.heap.size + 1), 0, none⟩) := hd 15 (by kernel_rfl)
        exact op_v ho (.pointer (some ⟨(w.heap.size + 1), 7, none⟩)) rfl (by intro ρ hρ kc kf; rw [← hρ] at h58; clear hρ; simp [execOp, go_sem, h58]) rfl rfl
      · intro ho a W hW hd hx
        have h59 : a.eval (.tmp 59) = .pointer (some ⟨(w.heap.size + 1), 7, none⟩) := hd 16 (by kernel_rfl)
        have hcell : W.cell? ⟨(w.heap.size + 1), 7, none⟩ = some (.int .i8 c.mode) := by rw [(KBw4.out.below hW KBw4.out.lt).cell 7]; rfl
        exact op_v ho (.int .i8 c.mode) rfl (by intro ρ hρ kc kf; rw [← hρ] at h59; clear hρ; simp [execOp, go_sem, h59, hcell]) rfl rfl
      · intro ho a W hW hd hx
        have h60 : a.eval (.tmp 60) = .int .i8 c.mode := hd 17 (by kernel_rfl)
        exact op_v ho (.int .i64 c.mode) rfl (by intro ρ hρ kc kf; rw [← hρ] at h60; clear hρ; simp [execOp, go_sem, h60, CV_mode.out]) rfl rfl
      · intro ho a W hW hd hx
        have h49 : a.eval (.tmp 49) = .int .i64 c.lo := hd 6 (by kernel_rfl)
        have h55 : a.eval (.tmp 55) = .int .i64 c.hi := hd 12 (by kernel_rfl)
        have h61 : a.eval (.tmp 61) = .int .i64 c.mode := hd 18 (by kernel_rfl)
        exact op_value ho (want_none rfl) (v := .slice (some ⟨W.heap.size, 0, none⟩) 3 3) (w' := W.alloc (.cells #[.int .i64 c.lo, .int .i64 c.hi, .int .i64 c.mode] 3)) (by intro ρ hρ kc kf; rw [← hρ] at h49 h55 h61; clear hρ; simp [execOp, go_sem, h49, h55, h61]) ⟨_, rfl, (fun h => by cases h), ⟨rfl, Blk.new W 3 _⟩, (Below.refl _ _).alloc (Nat.le_refl _) _, (fun h => absurd h (by decide))⟩
    intro ve2 W hW hv _
    have hs : ve2 19 = .slice (some ⟨sOf (ve2 19), 0, none⟩) 3 3 ∧ Blk W (sOf (ve2 19)) 3 #[.int .i64 c.lo, .int .i64 c.hi, .int .i64 c.mode] := hv 19 (by decide)
    have hsa := hs.1
    have h0 : ve2 0 = .pointer (some ⟨(w.heap.size + 1), 0, none⟩) := hv 0 (by decide)
    simp only [List.take_succ_cons, List.take_zero, List.drop_succ_cons, List.drop_zero, fillL, wpTail, Act.put, List.setIfInBounds_toArray, List.set_cons_zero, List.set_cons_succ, Nat.reduceAdd]
    rw [hsa, h0]
    have kb := KBw4.out.below hW KBw4.out.lt
    have kr := (KRw4.out.below hW).more hW.size
    have kz : Rd W W.heap.size (some ⟨sOf (ve2 19), 0, none⟩) 3 (cI [c.lo, c.hi, c.mode]) := Blk.rd (zs := [c.lo, c.hi, c.mode]) hs.2
    have kw := KWw4.out.trans (hW.mono KWw4.out.size)
    refine tail_call (f := 34) (args := #[.pointer (some ⟨(w.heap.size + 1), 0, none⟩), .int .i64 (1 : Nat), .slice (some ⟨sOf (ve2 19), 0, none⟩) 3 3]) (W' := W) (by simp [go_sem]) (oput_ok (w.heap.size + 1) 60 c Aw4 nw4 cw4 bsw4 1 _ 3 3 [c.lo, c.hi, c.mode] w W (Nat.le_succ _) kw kb kr kz HLw4.out (by decide) (by decide) (by decide) FM.out) ?_
    rintro e w5 ⟨rfl, Aw5, nw5, cw5, bsw5, hew5, kb2, kr2, kw2⟩
    refine ⟨_, rfl, ?_⟩
    have HLw5 : Hid (bsw5.length ≤ 100) := Lib.hid (by rw [hew5, HEw4.out]; simp [length_putL])
    have HEw5 : Hid (bsw5 = putL 1 [c.kind] ++ putL 6 [c.node] ++ putL 4 [c.serial] ++ putL 1 [c.lo, c.hi, c.mode]) := Lib.hid (by rw [hew5, HEw4.out])
    have KBw5 := Lib.hid kb2; have KRw5 := Lib.hid kr2; have KWw5 := Lib.hid kw2
    clear kb2 kr2 kw2 kb kr kz kw hew5 hs hsa h0 hW hv KBw4 KRw4 KWw4 HLw4 HEw4
    have c8 : w5.cell? ⟨w.heap.size + 1, 8, none⟩ = some (.slice Aw5 nw5 cw5) := by rw [KBw5.out.cell 8]; rfl
    have hst := run_str cw5 KRw5.out
    obtain ⟨X, hX⟩ : ∃ X : ByteArray, X = ⟨bsw5.toArray⟩ := ⟨_, rfl⟩
    rw [← hX] at hst
    have HX := Lib.hid hX; clear hX
    go_wp2
    go_ret2
    have eX : X = ⟨(bytesC c).toArray⟩ := by rw [HX.out, HEw5.out, bytes_more c _ KN.out]
    rw [← eX]
    exact ⟨rfl, KWw5.out⟩
  refine Or.elim hk (fun hk => ?_) (fun hk => ?_)
  · clear HK
    have ho := (only_iff c _ _ _ _).1 hk.2
    simp only [if_true, Bool.false_eq_true, if_false] at ho
    have sp := (span_iff c).1 ho.1
    have FM : Hid ([c.lo, c.hi].all (fitsB · 1) = true) := Lib.hid (by simp [fits1 c.lo sp.1 (by omega), fits1 c.hi (by omega) (by omega)])
    clear sp ho
    have k2 : (c.kind == 2) = false := by rw [hk.1]; rfl
    have kk : c.kind = 3 := hk.1
    have KN : Hid (moreC c = putL 1 [c.lo, c.hi]) := Lib.hid (by unfold moreC; rw [if_neg (by omega), if_pos kk])
    clear hk
    go_upto_region 11 with fail
    refine wp_region_grows 14 ((fun q_ _ _ => q_ = .pointer (some ⟨(w.heap.size + 1), 0, none⟩)) :: (fun q_ _ _ => q_ = .pointer (some ⟨(w.heap.size + 1), 0, none⟩)) :: (fun q_ _ _ => q_ = .pointer (some ⟨(w.heap.size + 1), 0, none⟩)) :: (fun q_ _ _ => q_ = .pointer (some ⟨(w.heap.size + 1), 0, none⟩)) :: (fun q_ _ _ => q_ = .pointer (some ⟨(w.heap.size + 1), 5, none⟩)) :: (fun q_ _ _ => q_ = .pointer (some ⟨(w.heap.size + 1), 5, none⟩)) :: (fun q_ _ _ => q_ = .int .i64 c.lo) :: (fun q_ _ _ => q_ = .pointer (some ⟨(w.heap.size + 1), 0, none⟩)) :: (fun q_ _ _ => q_ = .pointer (some ⟨(w.heap.size + 1), 0, none⟩)) :: (fun q_ _ _ => q_ = .pointer (some ⟨(w.heap.size + 1), 0, none⟩)) :: (fun q_ _ _ => q_ = .pointer (some ⟨(w.heap.size + 1), 5, none⟩)) :: (fun q_ _ _ => q_ = .pointer (some ⟨(w.heap.size + 1), 6, none⟩)) :: (fun q_ _ _ => q_ = .int .i64 c.hi) :: (fun q_ _ W => q_ = .slice (some ⟨sOf q_, 0, none⟩) 2 2 ∧ Blk W (sOf q_) 3 #[.int .i64 c.lo, .int .i64 c.hi]) :: []) (fun _ => false) (w4.heap.size) w4 (by kernel_rfl) (by kernel_rfl) (by kernel_rfl) (Below.refl _ _) (Nat.le_refl _) ?e3Stab (fun _ h => by cases h) ?e3Ops ?e3Fin
    case e3Stab => exact ⟨st_is _, st_is _, st_is _, st_is _, st_is _, st_is _, st_is _, st_is _, st_is _, st_is _, st_is _, st_is _, st_is _, st_row _ _ _, trivial⟩
    case e3Ops =>
      intro Q
      refine ⟨?_, ?_, ?_, ?_, ?_, ?_, ?_, ?_, ?_, ?_, ?_, ?_, ?_, ?_, trivial⟩
      · intro ho a W hW hd hx
        have h4 : a.eval (.tmp 4) = .pointer (some ⟨(w.heap.size + 1), 0, none⟩) := (hx 4 (dst_not (by kernel_rfl))).trans rfl
        exact op_v ho (.pointer (some ⟨(w.heap.size + 1), 0, none⟩)) rfl (by intro ρ hρ kc kf; rw [← hρ] at h4; clear hρ; simp [execOp, go_sem, h4]) rfl rfl
      · intro ho a W hW hd hx
        have h4 : a.eval (.tmp 4) = .pointer (some ⟨(w.heap.size + 1), 0, none⟩) := (hx 4 (dst_not (by kernel_rfl))).trans rfl
        exact op_v ho (.pointer (some ⟨(w.heap.size + 1), 0, none⟩)) rfl (by intro ρ hρ kc kf; rw [← hρ] at h4; clear hρ; simp [execOp, go_sem, h4]) rfl rfl
      · intro ho a W hW hd hx
        have h67 : a.eval (.tmp 67) = .pointer (some ⟨(w.heap.size + 1), 0, none⟩) := hd 1 (by kernel_rfl)
        exact op_v ho (.pointer (some ⟨(w.heap.size + 1), 0, none⟩)) rfl (by intro ρ hρ kc kf; rw [← hρ] at h67; clear hρ; simp [execOp, go_sem, h67]) rfl rfl
      · intro ho a W hW hd hx
        have h68 : a.eval (.tmp 68) = .pointer (some ⟨(w.heap.size + 1), 0, none⟩) := hd 2 (by kernel_rfl)
        exact op_v ho (.pointer (some ⟨(w.heap.size + 1), 0, none⟩)) rfl (by intro ρ hρ kc kf; rw [← hρ] at h68; clear hρ; simp [execOp, go_sem, h68]) rfl rfl
      · intro ho a W hW hd hx
        have h69 : a.eval (.tmp 69) = .pointer (some ⟨(w.heap.size + 1), 0, none⟩) := hd 3 (by kernel_rfl)
        exact op_v ho (.pointer (some ⟨(w.heap.size + 1), 5, none⟩)) rfl (by intro ρ hρ kc kf; rw [← hρ] at h69; clear hρ; simp [execOp, go_sem, h69]) rfl rfl
      · intro ho a W hW hd hx
        have h70 : a.eval (.tmp 70) = .pointer (some ⟨(w.heap.size + 1), 5, none⟩) := hd 4 (by kernel_rfl)
        exact op_v ho (.pointer (some ⟨(w.heap.size + 1), 5, none⟩)) rfl (by intro ρ hρ kc kf; rw [← hρ] at h70; clear hρ; simp [execOp, go_sem, h70]) rfl rfl
      · intro ho a W hW hd hx
        have h71 : a.eval (.tmp 71) = .pointer (some ⟨(w.heap.size + 1), 5, none⟩) := hd 5 (by kernel_rfl)
        have hcell : W.cell? ⟨(w.heap.size + 1), 5, none⟩ = some (.int .i64 c.lo) := by rw [(KBw4.out.below hW KBw4.out.lt).cell 5]; rfl
        exact op_v ho (.int .i64 c.lo) rfl (by intro ρ hρ kc kf; rw [← hρ] at h71; clear hρ; simp [execOp, go_sem, h71, hcell]) rfl rfl
      · intro ho a W hW hd hx
        have h4 : a.eval (.tmp 4) = .pointer (some ⟨(w.heap.size + 1), 0, none⟩) := (hx 4 (dst_not (by kernel_rfl))).trans rfl
        exact op_v ho (.pointer (some ⟨(w.heap.size + 1), 0, none⟩)) rfl (by intro ρ hρ kc kf; rw [← hρ] at h4; clear hρ; simp [execOp, go_sem, h4]) rfl rfl
      · intro ho a W hW hd hx
        have h73 : a.eval (.tmp 73) = .pointer (some ⟨(w.heap.size + 1), 0, none⟩) := hd 7 (by kernel_rfl)
        exact op_v ho (.pointer (some ⟨(w.heap.size + 1), 0, none⟩)) rfl (by intro ρ hρ kc kf; rw [← hρ] at h73; clear hρ; simp [execOp, go_sem, h73]) rfl rfl
      · intro ho a W hW hd hx
        have h74 : a.eval (.tmp 74) = .pointer (some ⟨(w.heap.size + 1), 0, none⟩) := hd 8 (by kernel_rfl)
        exact op_v ho (.pointer (some ⟨(w.heap.size + 1), 0, none⟩)) rfl (by intro ρ hρ kc kf; rw [← hρ] at h74; clear hρ; simp [execOp, go_sem, h74]) rfl rfl
      · intro ho a W hW hd hx
        have h75 : a.eval (.tmp 75) = .pointer (some ⟨(w.heap.size + 1), 0, none⟩) := hd 9 (by kernel_rfl)
        exact op_v ho (.pointer (some ⟨(w.heap.size + 1), 5, none⟩)) rfl (by intro ρ hρ kc kf; rw [← hρ] at h75; clear hρ; simp [execOp, go_sem, h75]) rfl rfl
      · intro ho a W hW hd hx
        have h76 : a.eval (.tmp 76) = .pointer (some ⟨(w.heap.size + 1), 5, none⟩) := hd 10 (by kernel_rfl)
        exact op_v ho (.pointer (some ⟨(w.heap.size + 1), 6, none⟩)) rfl (by intro ρ hρ kc kf; rw [← hρ] at h76; clear hρ; simp [execOp, go_sem, h76]) rfl rfl
      · intro ho a W hW hd hx
        have h77 : a.eval (.tmp 77) = .pointer (some ⟨(w.heap.size + 1), 6, none⟩) := hd 11 (by kernel_rfl)
        have hcell : W.cell? ⟨(w.heap.size + 1), 6, none⟩ = some (.int .i64 c.hi) := by rw [(KBw4.out.below hW KBw4.out.lt).cell 6]; rfl
        exact op_v ho (.int .i64 c.hi) rfl (by intro ρ hρ kc kf; rw [← hρ] at h77; clear hρ; simp [execOp, go_sem, h77, hcell]) rfl rfl
      · intro ho a W hW hd hx
        have h72 : a.eval (.tmp 72) = .int .i64 c.lo := hd 6 (by kernel_rfl)
        have h78 : a.eval (.tmp 78) = .int .i64 c.hi := hd 12 (by kernel_rfl)
        exact op_value ho (want_none rfl) (v := .slice (some ⟨W.heap.size, 0, none⟩) 2 2) (w' := W.alloc (.cells #[.int .i64 c.lo, .int .i64 c.hi] 3)) (by intro ρ hρ kc kf; rw [← hρ] at h72 h78; clear hρ; simp [execOp, go_sem, h72, h78]) ⟨_, rfl, (fun h => by cases h), ⟨rfl, Blk.new W 3 _⟩, (Below.refl _ _).alloc (Nat.le_refl _) _, (fun h => absurd h (by decide))⟩
    intro ve3 W hW hv _
    have hs : ve3 13 = .slice (some ⟨sOf (ve3 13), 0, none⟩) 2 2 ∧ Blk W (sOf (ve3 13)) 3 #[.int .i64 c.lo, .int .i64 c.hi] := hv 13 (by decide)
    have hsa := hs.1
    have h0 : ve3 0 = .pointer (some ⟨(w.heap.size + 1), 0, none⟩) := hv 0 (by decide)
    simp only [List.take_succ_cons, List.take_zero, List.drop_succ_cons, List.drop_zero, fillL, wpTail, Act.put, List.setIfInBounds_toArray, List.set_cons_zero, List.set_cons_succ, Nat.reduceAdd]
    rw [hsa, h0]
    have kb := KBw4.out.below hW KBw4.out.lt
    have kr := (KRw4.out.below hW).more hW.size
    have kz : Rd W W.heap.size (some ⟨sOf (ve3 13), 0, none⟩) 2 (cI [c.lo, c.hi]) := Blk.rd (zs := [c.lo, c.hi]) hs.2
    have kw := KWw4.out.trans (hW.mono KWw4.out.size)
    refine tail_call (f := 34) (args := #[.pointer (some ⟨(w.heap.size + 1), 0, none⟩), .int .i64 (1 : Nat), .slice (some ⟨sOf (ve3 13), 0, none⟩) 2 2]) (W' := W) (by simp [go_sem]) (oput_ok (w.heap.size + 1) 60 c Aw4 nw4 cw4 bsw4 1 _ 2 2 [c.lo, c.hi] w W (Nat.le_succ _) kw kb kr kz HLw4.out (by decide) (by decide) (by decide) FM.out) ?_
    rintro e w5 ⟨rfl, Aw5, nw5, cw5, bsw5, hew5, kb2, kr2, kw2⟩
    refine ⟨_, rfl, ?_⟩
    have HLw5 : Hid (bsw5.length ≤ 100) := Lib.hid (by rw [hew5, HEw4.out]; simp [length_putL])
    have HEw5 : Hid (bsw5 = putL 1 [c.kind] ++ putL 6 [c.node] ++ putL 4 [c.serial] ++ putL 1 [c.lo, c.hi]) := Lib.hid (by rw [hew5, HEw4.out])
    have KBw5 := Lib.hid kb2; have KRw5 := Lib.hid kr2; have KWw5 := Lib.hid kw2
    clear kb2 kr2 kw2 kb kr kz kw hew5 hs hsa h0 hW hv KBw4 KRw4 KWw4 HLw4 HEw4
    have c8 : w5.cell? ⟨w.heap.size + 1, 8, none⟩ = some (.slice Aw5 nw5 cw5) := by rw [KBw5.out.cell 8]; rfl
    have hst := run_str cw5 KRw5.out
    obtain ⟨X, hX⟩ : ∃ X : ByteArray, X = ⟨bsw5.toArray⟩ := ⟨_, rfl⟩
    rw [← hX] at hst
    have HX := Lib.hid hX; clear hX
    go_wp2
    go_ret2
    have eX : X = ⟨(bytesC c).toArray⟩ := by rw [HX.out, HEw5.out, bytes_more c _ KN.out]
    rw [← eX]
    exact ⟨rfl, KWw5.out⟩
  refine Or.elim hk (fun hk => ?_) (fun hk => ?_)
  · clear HK
    have ho := (only_iff c _ _ _ _).1 hk.2
    simp only [if_true, Bool.false_eq_true, if_false] at ho
    have sp := (key_iff _).1 ho.2.2.1
    have sw : 0 ≤ c.was ∧ c.was ≤ 1099511627776 := by
      rcases ho.2.2.2 with h | ⟨_, h⟩
      · omega
      · have := (key_iff _).1 h; omega
    have FM : Hid ([c.dead, c.was].all (fitsB · 6) = true) := Lib.hid (by simp [fits6 c.dead (by omega) sp.2, fits6 c.was sw.1 sw.2])
    clear sw
    clear sp ho
    have k2 : (c.kind == 2) = false := by rw [hk.1]; rfl
    have k3 : (c.kind == 3) = false := by rw [hk.1]; rfl
    have kk : c.kind = 4 := hk.1
    have KN : Hid (moreC c = putL 6 [c.dead, c.was]) := Lib.hid (by unfold moreC; rw [if_neg (by omega), if_neg (by omega), if_pos kk])
    clear hk
    go_upto_region 13 with fail
    refine wp_region_grows 12 ((fun q_ _ _ => q_ = .pointer (some ⟨(w.heap.size + 1), 0, none⟩)) :: (fun q_ _ _ => q_ = .pointer (some ⟨(w.heap.size + 1), 0, none⟩)) :: (fun q_ _ _ => q_ = .pointer (some ⟨(w.heap.size + 1), 0, none⟩)) :: (fun q_ _ _ => q_ = .pointer (some ⟨(w.heap.size + 1), 0, none⟩)) :: (fun q_ _ _ => q_ = .pointer (some ⟨(w.heap.size + 1), 3, none⟩)) :: (fun q_ _ _ => q_ = .int .i64 c.dead) :: (fun q_ _ _ => q_ = .pointer (some ⟨(w.heap.size + 1), 0, none⟩)) :: (fun q_ _ _ => q_ = .pointer (some ⟨(w.heap.size + 1), 0, none⟩)) :: (fun q_ _ _ => q_ = .pointer (some ⟨(w.heap.size + 1), 0, none⟩)) :: (fun q_ _ _ => q_ = .pointer (some ⟨(w.heap.size + 1), 4, none⟩)) :: (fun q_ _ _ => q_ = .int .i64 c.was) :: (fun q_ _ W => q_ = .slice (some ⟨sOf q_, 0, none⟩) 2 2 ∧ Blk W (sOf q_) 3 #[.int .i64 c.dead, .int .i64 c.was]) :: []) (fun _ => false) (w4.heap.size) w4 (by kernel_rfl) (by kernel_rfl) (by kernel_rfl) (Below.refl _ _) (Nat.le_refl _) ?e4Stab (fun _ h => by cases h) ?e4Ops ?e4Fin
    case e4Stab => exact ⟨st_is _, st_is _, st_is _, st_is _, st_is _, st_is _, st_is _, st_is _, st_is _, st_is _, st_is _, st_row _ _ _, trivial⟩
    case e4Ops =>
      intro Q
      refine ⟨?_, ?_, ?_, ?_, ?_, ?_, ?_, ?_, ?_, ?_, ?_, ?_, trivial⟩
      · intro ho a W hW hd hx
        have h4 : a.eval (.tmp 4) = .pointer (some ⟨(w.heap.size + 1), 0, none⟩) := (hx 4 (dst_not (by kernel_rfl))).trans rfl
        exact op_v ho (.pointer (some ⟨(w.heap.size + 1), 0, none⟩)) rfl (by intro ρ hρ kc kf; rw [← hρ] at h4; clear hρ; simp [execOp, go_sem, h4]) rfl rfl
      · intro ho a W hW hd hx
        have h4 : a.eval (.tmp 4) = .pointer (some ⟨(w.heap.size + 1), 0, none⟩) := (hx 4 (dst_not (by kernel_rfl))).trans rfl
        exact op_v ho (.pointer (some ⟨(w.heap.size + 1), 0, none⟩)) rfl (by intro ρ hρ kc kf; rw [← hρ] at h4; clear hρ; simp [execOp, go_sem, h4]) rfl rfl
      · intro ho a W hW hd hx
        have h84 : a.eval (.tmp 84) = .pointer (some ⟨(w.heap.size + 1), 0, none⟩) := hd 1 (by kernel_rfl)
        exact op_v ho (.pointer (some ⟨(w.heap.size + 1), 0, none⟩)) rfl (by intro ρ hρ kc kf; rw [← hρ] at h84; clear hρ; simp [execOp, go_sem, h84]) rfl rfl
      · intro ho a W hW hd hx
        have h85 : a.eval (.tmp 85) = .pointer (some ⟨(w.heap.size + 1), 0, none⟩) := hd 2 (by kernel_rfl)
        exact op_v ho (.pointer (some ⟨(w.heap.size + 1), 0, none⟩)) rfl (by intro ρ hρ kc kf; rw [← hρ] at h85; clear hρ; simp [execOp, go_sem, h85]) rfl rfl
      · intro ho a W hW hd hx
        have h86 : a.eval (.tmp 86) = .pointer (some ⟨(w.heap.size + 1), 0, none⟩) := hd 3 (by kernel_rfl)
        exact op_v ho (.pointer (some ⟨(w.heap.size + 1), 3, none⟩)) rfl (by intro ρ hρ kc kf; rw [← hρ] at h86; clear hρ; simp [execOp, go_sem, h86]) rfl rfl
      · intro ho a W hW hd hx
        have h87 : a.eval (.tmp 87) = .pointer (some ⟨(w.heap.size + 1), 3, none⟩) := hd 4 (by kernel_rfl)
        have hcell : W.cell? ⟨(w.heap.size + 1), 3, none⟩ = some (.int .i64 c.dead) := by rw [(KBw4.out.below hW KBw4.out.lt).cell 3]; rfl
        exact op_v ho (.int .i64 c.dead) rfl (by intro ρ hρ kc kf; rw [← hρ] at h87; clear hρ; simp [execOp, go_sem, h87, hcell]) rfl rfl
      · intro ho a W hW hd hx
        have h4 : a.eval (.tmp 4) = .pointer (some ⟨(w.heap.size + 1), 0, none⟩) := (hx 4 (dst_not (by kernel_rfl))).trans rfl
        exact op_v ho (.pointer (some ⟨(w.heap.size + 1), 0, none⟩)) rfl (by intro ρ hρ kc kf; rw [← hρ] at h4; clear hρ; simp [execOp, go_sem, h4]) rfl rfl
      · intro ho a W hW hd hx
        have h89 : a.eval (.tmp 89) = .pointer (some ⟨(w.heap.size + 1), 0, none⟩) := hd 6 (by kernel_rfl)
        exact op_v ho (.pointer (some ⟨(w.heap.size + 1), 0, none⟩)) rfl (by intro ρ hρ kc kf; rw [← hρ] at h89; clear hρ; simp [execOp, go_sem, h89]) rfl rfl
      · intro ho a W hW hd hx
        have h90 : a.eval (.tmp 90) = .pointer (some ⟨(w.heap.size + 1), 0, none⟩) := hd 7 (by kernel_rfl)
        exact op_v ho (.pointer (some ⟨(w.heap.size + 1), 0, none⟩)) rfl (by intro ρ hρ kc kf; rw [← hρ] at h90; clear hρ; simp [execOp, go_sem, h90]) rfl rfl
      · intro ho a W hW hd hx
        have h91 : a.eval (.tmp 91) = .pointer (some ⟨(w.heap.size + 1), 0, none⟩) := hd 8 (by kernel_rfl)
        exact op_v ho (.pointer (some ⟨(w.heap.size + 1), 4, none⟩)) rfl (by intro ρ hρ kc kf; rw [← hρ] at h91; clear hρ; simp [execOp, go_sem, h91]) rfl rfl
      · intro ho a W hW hd hx
        have h92 : a.eval (.tmp 92) = .pointer (some ⟨(w.heap.size + 1), 4, none⟩) := hd 9 (by kernel_rfl)
        have hcell : W.cell? ⟨(w.heap.size + 1), 4, none⟩ = some (.int .i64 c.was) := by rw [(KBw4.out.below hW KBw4.out.lt).cell 4]; rfl
        exact op_v ho (.int .i64 c.was) rfl (by intro ρ hρ kc kf; rw [← hρ] at h92; clear hρ; simp [execOp, go_sem, h92, hcell]) rfl rfl
      · intro ho a W hW hd hx
        have h88 : a.eval (.tmp 88) = .int .i64 c.dead := hd 5 (by kernel_rfl)
        have h93 : a.eval (.tmp 93) = .int .i64 c.was := hd 10 (by kernel_rfl)
        exact op_value ho (want_none rfl) (v := .slice (some ⟨W.heap.size, 0, none⟩) 2 2) (w' := W.alloc (.cells #[.int .i64 c.dead, .int .i64 c.was] 3)) (by intro ρ hρ kc kf; rw [← hρ] at h88 h93; clear hρ; simp [execOp, go_sem, h88, h93]) ⟨_, rfl, (fun h => by cases h), ⟨rfl, Blk.new W 3 _⟩, (Below.refl _ _).alloc (Nat.le_refl _) _, (fun h => absurd h (by decide))⟩
    intro ve4 W hW hv _
    have hs : ve4 11 = .slice (some ⟨sOf (ve4 11), 0, none⟩) 2 2 ∧ Blk W (sOf (ve4 11)) 3 #[.int .i64 c.dead, .int .i64 c.was] := hv 11 (by decide)
    have hsa := hs.1
    have h0 : ve4 0 = .pointer (some ⟨(w.heap.size + 1), 0, none⟩) := hv 0 (by decide)
    simp only [List.take_succ_cons, List.take_zero, List.drop_succ_cons, List.drop_zero, fillL, wpTail, Act.put, List.setIfInBounds_toArray, List.set_cons_zero, List.set_cons_succ, Nat.reduceAdd]
    rw [hsa, h0]
    have kb := KBw4.out.below hW KBw4.out.lt
    have kr := (KRw4.out.below hW).more hW.size
    have kz : Rd W W.heap.size (some ⟨sOf (ve4 11), 0, none⟩) 2 (cI [c.dead, c.was]) := Blk.rd (zs := [c.dead, c.was]) hs.2
    have kw := KWw4.out.trans (hW.mono KWw4.out.size)
    refine tail_call (f := 34) (args := #[.pointer (some ⟨(w.heap.size + 1), 0, none⟩), .int .i64 (6 : Nat), .slice (some ⟨sOf (ve4 11), 0, none⟩) 2 2]) (W' := W) (by simp [go_sem]) (oput_ok (w.heap.size + 1) 60 c Aw4 nw4 cw4 bsw4 6 _ 2 2 [c.dead, c.was] w W (Nat.le_succ _) kw kb kr kz HLw4.out (by decide) (by decide) (by decide) FM.out) ?_
    rintro e w5 ⟨rfl, Aw5, nw5, cw5, bsw5, hew5, kb2, kr2, kw2⟩
    refine ⟨_, rfl, ?_⟩
    have HLw5 : Hid (bsw5.length ≤ 100) := Lib.hid (by rw [hew5, HEw4.out]; simp [length_putL])
    have HEw5 : Hid (bsw5 = putL 1 [c.kind] ++ putL 6 [c.node] ++ putL 4 [c.serial] ++ putL 6 [c.dead, c.was]) := Lib.hid (by rw [hew5, HEw4.out])
    have KBw5 := Lib.hid kb2; have KRw5 := Lib.hid kr2; have KWw5 := Lib.hid kw2
    clear kb2 kr2 kw2 kb kr kz kw hew5 hs hsa h0 hW hv KBw4 KRw4 KWw4 HLw4 HEw4
    have c8 : w5.cell? ⟨w.heap.size + 1, 8, none⟩ = some (.slice Aw5 nw5 cw5) := by rw [KBw5.out.cell 8]; rfl
    have hst := run_str cw5 KRw5.out
    obtain ⟨X, hX⟩ : ∃ X : ByteArray, X = ⟨bsw5.toArray⟩ := ⟨_, rfl⟩
    rw [← hX] at hst
    have HX := Lib.hid hX; clear hX
    go_wp2
    go_ret2
    have eX : X = ⟨(bytesC c).toArray⟩ := by rw [HX.out, HEw5.out, bytes_more c _ KN.out]
    rw [← eX]
    exact ⟨rfl, KWw5.out⟩
  · clear HK
    have ho := (only_iff c _ _ _ _).1 hk.2
    simp only [if_true, Bool.false_eq_true, if_false] at ho
    have sp := (key_iff _).1 ho.2.2.1
    have FM : Hid ([c.dead].all (fitsB · 6) = true) := Lib.hid (by simp [fits6 c.dead (by omega) sp.2])
    clear sp ho
    have k2 : (c.kind == 2) = false := by rw [hk.1]; rfl
    have k3 : (c.kind == 3) = false := by rw [hk.1]; rfl
    have k4 : (c.kind == 4) = false := by rw [hk.1]; rfl
    have kk : c.kind = 5 := hk.1
    have KN : Hid (moreC c = putL 6 [c.dead]) := Lib.hid (by unfold moreC; rw [if_neg (by omega), if_neg (by omega), if_neg (by omega), if_pos kk])
    clear hk
    go_upto_region 15 with fail
    refine wp_region_grows 7 ((fun q_ _ _ => q_ = .pointer (some ⟨(w.heap.size + 1), 0, none⟩)) :: (fun q_ _ _ => q_ = .pointer (some ⟨(w.heap.size + 1), 0, none⟩)) :: (fun q_ _ _ => q_ = .pointer (some ⟨(w.heap.size + 1), 0, none⟩)) :: (fun q_ _ _ => q_ = .pointer (some ⟨(w.heap.size + 1), 0, none⟩)) :: (fun q_ _ _ => q_ = .pointer (some ⟨(w.heap.size + 1), 3, none⟩)) :: (fun q_ _ _ => q_ = .int .i64 c.dead) :: (fun q_ _ W => q_ = .slice (some ⟨sOf q_, 0, none⟩) 1 1 ∧ Blk W (sOf q_) 3 #[.int .i64 c.dead]) :: []) (fun _ => false) (w4.heap.size) w4 (by kernel_rfl) (by kernel_rfl) (by kernel_rfl) (Below.refl _ _) (Nat.le_refl _) ?e5Stab (fun _ h => by cases h) ?e5Ops ?e5Fin
    case e5Stab => exact ⟨st_is _, st_is _, st_is _, st_is _, st_is _, st_is _, st_row _ _ _, trivial⟩
    case e5Ops =>
      intro Q
      refine ⟨?_, ?_, ?_, ?_, ?_, ?_, ?_, trivial⟩
      · intro ho a W hW hd hx
        have h4 : a.eval (.tmp 4) = .pointer (some ⟨(w.heap.size + 1), 0, none⟩) := (hx 4 (dst_not (by kernel_rfl))).trans rfl
        exact op_v ho (.pointer (some ⟨(w.heap.size + 1), 0, none⟩)) rfl (by intro ρ hρ kc kf; rw [← hρ] at h4; clear hρ; simp [execOp, go_sem, h4]) rfl rfl
      · intro ho a W hW hd hx
        have h4 : a.eval (.tmp 4) = .pointer (some ⟨(w.heap.size + 1), 0, none⟩) := (hx 4 (dst_not (by kernel_rfl))).trans rfl
        exact op_v ho (.pointer (some ⟨(w.heap.size + 1), 0, none⟩)) rfl (by intro ρ hρ kc kf; rw [← hρ] at h4; clear hρ; simp [execOp, go_sem, h4]) rfl rfl
      · intro ho a W hW hd hx
        have h99 : a.eval (.tmp 99) = .pointer (some ⟨(w.heap.size + 1), 0, none⟩) := hd 1 (by kernel_rfl)
        exact op_v ho (.pointer (some ⟨(w.heap.size + 1), 0, none⟩)) rfl (by intro ρ hρ kc kf; rw [← hρ] at h99; clear hρ; simp [execOp, go_sem, h99]) rfl rfl
      · intro ho a W hW hd hx
        have h100 : a.eval (.tmp 100) = .pointer (some ⟨(w.heap.size + 1), 0, none⟩) := hd 2 (by kernel_rfl)
        exact op_v ho (.pointer (some ⟨(w.heap.size + 1), 0, none⟩)) rfl (by intro ρ hρ kc kf; rw [← hρ] at h100; clear hρ; simp [execOp, go_sem, h100]) rfl rfl
      · intro ho a W hW hd hx
        have h101 : a.eval (.tmp 101) = .pointer (some ⟨(w.heap.size + 1), 0, none⟩) := hd 3 (by kernel_rfl)
        exact op_v ho (.pointer (some ⟨(w.heap.size + 1), 3, none⟩)) rfl (by intro ρ hρ kc kf; rw [← hρ] at h101; clear hρ; simp [execOp, go_sem, h101]) rfl rfl
      · intro ho a W hW hd hx
        have h102 : a.eval (.tmp 102) = .pointer (some ⟨(w.heap.size + 1), 3, none⟩) := hd 4 (by kernel_rfl)
        have hcell : W.cell? ⟨(w.heap.size + 1), 3, none⟩ = some (.int .i64 c.dead) := by rw [(KBw4.out.below hW KBw4.out.lt).cell 3]; rfl
        exact op_v ho (.int .i64 c.dead) rfl (by intro ρ hρ kc kf; rw [← hρ] at h102; clear hρ; simp [execOp, go_sem, h102, hcell]) rfl rfl
      · intro ho a W hW hd hx
        have h103 : a.eval (.tmp 103) = .int .i64 c.dead := hd 5 (by kernel_rfl)
        exact op_value ho (want_none rfl) (v := .slice (some ⟨W.heap.size, 0, none⟩) 1 1) (w' := W.alloc (.cells #[.int .i64 c.dead] 3)) (by intro ρ hρ kc kf; rw [← hρ] at h103; clear hρ; simp [execOp, go_sem, h103]) ⟨_, rfl, (fun h => by cases h), ⟨rfl, Blk.new W 3 _⟩, (Below.refl _ _).alloc (Nat.le_refl _) _, (fun h => absurd h (by decide))⟩
    intro ve5 W hW hv _
    have hs : ve5 6 = .slice (some ⟨sOf (ve5 6), 0, none⟩) 1 1 ∧ Blk W (sOf (ve5 6)) 3 #[.int .i64 c.dead] := hv 6 (by decide)
    have hsa := hs.1
    have h0 : ve5 0 = .pointer (some ⟨(w.heap.size + 1), 0, none⟩) := hv 0 (by decide)
    simp only [List.take_succ_cons, List.take_zero, List.drop_succ_cons, List.drop_zero, fillL, wpTail, Act.put, List.setIfInBounds_toArray, List.set_cons_zero, List.set_cons_succ, Nat.reduceAdd]
    rw [hsa, h0]
    have kb := KBw4.out.below hW KBw4.out.lt
    have kr := (KRw4.out.below hW).more hW.size
    have kz : Rd W W.heap.size (some ⟨sOf (ve5 6), 0, none⟩) 1 (cI [c.dead]) := Blk.rd (zs := [c.dead]) hs.2
    have kw := KWw4.out.trans (hW.mono KWw4.out.size)
    refine tail_call (f := 34) (args := #[.pointer (some ⟨(w.heap.size + 1), 0, none⟩), .int .i64 (6 : Nat), .slice (some ⟨sOf (ve5 6), 0, none⟩) 1 1]) (W' := W) (by simp [go_sem]) (oput_ok (w.heap.size + 1) 60 c Aw4 nw4 cw4 bsw4 6 _ 1 1 [c.dead] w W (Nat.le_succ _) kw kb kr kz HLw4.out (by decide) (by decide) (by decide) FM.out) ?_
    rintro e w5 ⟨rfl, Aw5, nw5, cw5, bsw5, hew5, kb2, kr2, kw2⟩
    refine ⟨_, rfl, ?_⟩
    have HLw5 : Hid (bsw5.length ≤ 100) := Lib.hid (by rw [hew5, HEw4.out]; simp [length_putL])
    have HEw5 : Hid (bsw5 = putL 1 [c.kind] ++ putL 6 [c.node] ++ putL 4 [c.serial] ++ putL 6 [c.dead]) := Lib.hid (by rw [hew5, HEw4.out])
    have KBw5 := Lib.hid kb2; have KRw5 := Lib.hid kr2; have KWw5 := Lib.hid kw2
    clear kb2 kr2 kw2 kb kr kz kw hew5 hs hsa h0 hW hv KBw4 KRw4 KWw4 HLw4 HEw4
    have c8 : w5.cell? ⟨w.heap.size + 1, 8, none⟩ = some (.slice Aw5 nw5 cw5) := by rw [KBw5.out.cell 8]; rfl
    have hst := run_str cw5 KRw5.out
    obtain ⟨X, hX⟩ : ∃ X : ByteArray, X = ⟨bsw5.toArray⟩ := ⟨_, rfl⟩
    rw [← hX] at hst
    have HX := Lib.hid hX; clear hX
    go_wp2
    go_ret2
    have eX : X = ⟨(bytesC c).toArray⟩ := by rw [HX.out, HEw5.out, bytes_more c _ KN.out]
    rw [← eX]
    exact ⟨rfl, KWw5.out⟩

end Go.Proofs.Ytnoojlgefpekiaa
