/-
  Contracts of choose's Count. (The regions' lines are printed by choose_count.py.)
-/
import Derived.Test.YtilpcoebpinmfaaRefC
import Derived.Deep.QuietTactic
import Derived.BigQuiet
namespace Go.Proofs.Ytilpcoebpinmfaa
open Go.RowKit

def zT : Ty := ⟨0, 0, 0, ⟨#[]⟩, 0, false, false⟩
def seenT (t : Ty) (m : Int) : Ty := { t with seen := mx t.seen m }

theorem one_ahead (t : Ty) (r : Rc) (h : t.inst < r.inst) : oneT t r = { seenT t r.mbal with ahead := true } := by simp [oneT, seenT, h]
theorem one_here (t : Ty) (r : Rc) (h : r.inst = t.inst) : oneT t r = hereT (seenT t r.mbal) r := by simp [oneT, seenT, h]
theorem one_else (t : Ty) (r : Rc) (h1 : ¬ t.inst < r.inst) (h2 : ¬ r.inst = t.inst) : oneT t r = seenT t r.mbal := by simp [oneT, seenT, h1, h2]

theorem sees_tc (g : Nat) (T : TypeId) (t : Ty) (m : Int) (ad : Addr) (cp : Nat) (w : World) (hb : Blk w g T (tc t)) (hc : w.cell? ad = some (.int .i64 m)) :
    Calls Try.prog 20 #[.pointer (some ⟨g, 0, none⟩), .slice (some ad) 1 cp] w fun e w' => e = .returned (.tuple #[]) ∧ Blk w' g T (tc (seenT t m)) ∧ w.grownBy w' (some g) :=
  sees_one g T _ _ _ _ m _ _ _ ad cp w hb hc
theorem here_tc (g : Nat) (T : TypeId) (t : Ty) (r : Rc) (w : World) (hb : Blk w g T (tc t)) :
    Calls Try.prog 23 #[.pointer (some ⟨g, 0, none⟩), .agg (rc r)] w fun e w' => e = .returned (.tuple #[]) ∧ Blk w' g T (tc (hereT t r)) ∧ w.grownBy w' (some g) :=
  here_any g T _ _ _ _ _ _ _ _ _ _ _ w hb

set_option maxRecDepth 100000 in
set_option maxHeartbeats 4000000 in
/-- count -/
theorem counts_any (g : Nat) (T : TypeId) (t : Ty) (A : Option Addr) (n c B : Nat) (l : List Rc) (w : World) (hb : Blk w g T (tc t)) (hl : RdR w B A n l) (hB : B ≤ g) (hn : n ≤ 1000000) :
    Calls Try.prog 21 #[.pointer (some ⟨g, 0, none⟩), .slice A n c] w fun e w' => e = .returned (.agg (tc (countT t l))) ∧ Below B w w' := by
  have HL := Lib.hid hl; have KG := Lib.hid hb; clear hl hb
  go_enter Try.func21, Try.ntmps21
  go_wp2
  have hz0 : Blk (w.alloc (Obj.cells (tc zT) 30)) w.heap.size 30 (tc zT) := Blk.new w 30 _
  go_loopw [9] (fun i wr => ∃ (k : Nat), k ≤ n ∧ i = .int .i64 k ∧ Blk wr g T (tc (countT t (l.take k))) ∧ Blk wr w.heap.size 30 (tc zT) ∧ Below B w wr) (fun i _ => n - (intOf i).toNat)
  case atStart => exact ⟨0, by omega, rfl, KG.out.alloc _, hz0, (Below.refl _ _).alloc (by have := KG.out.lt; omega) _⟩
  case round =>
    obtain ⟨k, hk, rfl, hbk, hzk, hwk⟩ := hrel
    clear hz0
    have hgl := KG.out.lt
    by_cases hkn : k < n
    · have hlen := HL.out.1
      obtain ⟨ad, rfl, hab, hcs⟩ := HL.out.2 (by omega)
      obtain ⟨r, hlk⟩ : ∃ r, l[k]? = some r := ⟨_, List.getElem?_eq_getElem (by omega)⟩
      have hT := count_take t l k r hlk
      obtain ⟨T1, hT1⟩ : ∃ T1, T1 = countT t (l.take k) := ⟨_, rfl⟩
      rw [← hT1] at hbk hT
      obtain ⟨p0, p1, p2, p3⟩ := hcs k _ hlk
      have hc : ∀ j, wr.cell? (ad.add j) = w.cell? (ad.add j) := fun j => hwk.cell (by rw [blk_add]; omega)
      have q0 := (hc _).trans p0
      have q1 : wr.cell? ⟨(ad.add (k * 4)).block, (ad.add (k * 4)).off + 1, none⟩ = some (.int .i64 r.mbal) := by
        have := (hc _).trans p1
        rw [← add_two] at this; exact this
      have q2 : wr.cell? ⟨(ad.add (k * 4)).block, (ad.add (k * 4)).off + 2, none⟩ = some (.int .i64 r.bal) := by
        have := (hc _).trans p2
        rw [← add_two] at this; exact this
      have q3 : wr.cell? ⟨(ad.add (k * 4)).block, (ad.add (k * 4)).off + 3, none⟩ = some (.string r.val) := by
        have := (hc _).trans p3
        rw [← add_two] at this; exact this
      have ix1 : (0 : Int) ≤ (k : Int) := by omega
      have ix2 : (k : Int) < (n : Int) := by omega
      have KB := Lib.hid hbk; have KZ := Lib.hid hzk; have HT := Lib.hid hT; have HK := Lib.hid hwk; have HLEN := Lib.hid hlen
      clear hbk hzk hT hT1 hcs hlk hlen hwk p0 p1 p2 p3 hc
      go_wp2
      obtain ⟨W1, hW1⟩ : ∃ W1, W1 = wr.alloc (Obj.cells (rc r) 23) := ⟨_, rfl⟩
      have kr : Blk W1 wr.heap.size 23 (rc r) := by rw [hW1]; exact Blk.new wr 23 _
      have kb : Blk W1 g T (tc T1) := by rw [hW1]; exact KB.out.alloc _
      have kz : Blk W1 w.heap.size 30 (tc zT) := by rw [hW1]; exact KZ.out.alloc _
      have kw : Below B w W1 := by rw [hW1]; exact HK.out.alloc (by have := KB.out.lt; omega) _
      obtain ⟨G, hG⟩ : ∃ G, G = wr.heap.size := ⟨_, rfl⟩
      change Code.wp _ _ _ _ (wr.alloc (Obj.cells (rc r) 23))
      rw [← hW1]
      rw [← hG] at kr ⊢
      have hgG : g ≠ G := by have := KB.out.lt; omega
      have hzG : w.heap.size ≠ G := by have := KZ.out.lt; omega
      have KR := Lib.hid kr; have KB1 := Lib.hid kb; have KZ1 := Lib.hid kz; have KW1 := Lib.hid kw
      clear kr kb kz kw hW1 hG KB KZ HK q0 q1 q2 q3
      refine wp_region_grows 6 ((fun q_ _ _ => q_ = .pointer (some ⟨g, 0, none⟩)) :: (fun q_ _ _ => q_ = .pointer (some ⟨g, 0, none⟩)) :: (fun q_ _ _ => q_ = .pointer (some ⟨g, 0, none⟩)) :: (fun q_ _ _ => q_ = .pointer (some ⟨G, 1, none⟩)) :: (fun q_ _ _ => q_ = .int .i64 r.mbal) :: (fun q_ _ W => ∃ g, q_ = .slice (some ⟨g, 0, none⟩) 1 1 ∧ Blk W g 3 #[.int .i64 r.mbal]) :: []) (fun _ => false) (W1.heap.size) W1 (by kernel_rfl) (by kernel_rfl) (by kernel_rfl) (Below.refl _ _) (Nat.le_refl _) ?aStab (fun _ h => by cases h) ?aOps ?aFin
      case aStab => exact ⟨st_is _, st_is _, st_is _, st_is _, st_is _, st_slice _ _, trivial⟩
      case aOps =>
        intro Q
        refine ⟨?_, ?_, ?_, ?_, ?_, ?_, trivial⟩
        · intro ho a W hW hd hx
          have h0 : a.eval (.tmp 0) = .pointer (some ⟨g, 0, none⟩) := (hx 0 (dst_not (by kernel_rfl))).trans rfl
          exact op_value ho (want_none rfl) (v := .pointer (some ⟨g, 0, none⟩)) (by intro ρ hρ kc kf; rw [← hρ] at h0; clear hρ; simp [execOp, go_sem, h0]) ⟨_, rfl, (fun h => by cases h), rfl, Below.refl _ _, (fun h => absurd h (by decide))⟩
        · intro ho a W hW hd hx
          have h13 : a.eval (.tmp 13) = .pointer (some ⟨g, 0, none⟩) := hd 0 (by kernel_rfl)
          exact op_value ho (want_none rfl) (v := .pointer (some ⟨g, 0, none⟩)) (by intro ρ hρ kc kf; rw [← hρ] at h13; clear hρ; simp [execOp, go_sem, h13]) ⟨_, rfl, (fun h => by cases h), rfl, Below.refl _ _, (fun h => absurd h (by decide))⟩
        · intro ho a W hW hd hx
          have h14 : a.eval (.tmp 14) = .pointer (some ⟨g, 0, none⟩) := hd 1 (by kernel_rfl)
          exact op_value ho (want_none rfl) (v := .pointer (some ⟨g, 0, none⟩)) (by intro ρ hρ kc kf; rw [← hρ] at h14; clear hρ; simp [execOp, go_sem, h14]) ⟨_, rfl, (fun h => by cases h), rfl, Below.refl _ _, (fun h => absurd h (by decide))⟩
        · intro ho a W hW hd hx
          have h6 : a.eval (.tmp 6) = .pointer (some ⟨G, 0, none⟩) := (hx 6 (dst_not (by kernel_rfl))).trans rfl
          exact op_value ho (want_none rfl) (v := .pointer (some ⟨G, 1, none⟩)) (by intro ρ hρ kc kf; rw [← hρ] at h6; clear hρ; simp [execOp, go_sem, h6]) ⟨_, rfl, (fun h => by cases h), rfl, Below.refl _ _, (fun h => absurd h (by decide))⟩
        · intro ho a W hW hd hx
          have h16 : a.eval (.tmp 16) = .pointer (some ⟨G, 1, none⟩) := hd 3 (by kernel_rfl)
          have hcell : W.cell? ⟨G, 1, none⟩ = some (.int .i64 r.mbal) := by rw [(KR.out.below hW KR.out.lt).cell 1]; rfl
          exact op_value ho (want_none rfl) (v := .int .i64 r.mbal) (by intro ρ hρ kc kf; rw [← hρ] at h16; clear hρ; simp [execOp, go_sem, h16, hcell]) ⟨_, rfl, (fun h => by cases h), rfl, Below.refl _ _, (fun h => absurd h (by decide))⟩
        · intro ho a W hW hd hx
          have h17 : a.eval (.tmp 17) = .int .i64 r.mbal := hd 4 (by kernel_rfl)
          exact op_value ho (want_none rfl) (v := .slice (some ⟨W.heap.size, 0, none⟩) 1 1) (w' := W.alloc (.cells #[.int .i64 r.mbal] 3)) (by intro ρ hρ kc kf; rw [← hρ] at h17; clear hρ; simp [execOp, go_sem, h17]) ⟨_, rfl, (fun h => by cases h), ⟨_, rfl, Blk.new W 3 _⟩, (Below.refl _ _).alloc (Nat.le_refl _) _, (fun h => absurd h (by decide))⟩
      case aFin =>
        intro v W hW hv _
        obtain ⟨g5, h5, r5⟩ : ∃ g, v 5 = .slice (some ⟨g, 0, none⟩) 1 1 ∧ Blk W g 3 #[.int .i64 r.mbal] := hv 5 (by decide)
        have h2 : v 2 = .pointer (some ⟨g, 0, none⟩) := hv 2 (by decide)
        have kr := KR.out.below hW KR.out.lt
        have kb := KB1.out.below hW KB1.out.lt
        have kz := KZ1.out.below hW KZ1.out.lt
        have kw : Below B w W := KW1.out.trans (hW.mono (by have := KB1.out.lt; omega))
        simp only [List.take_succ_cons, List.take_zero, List.drop_succ_cons, List.drop_zero, fillL, wpTail, Act.put, List.setIfInBounds_toArray, List.set_cons_zero, List.set_cons_succ, Nat.reduceAdd]
        rw [h5, h2]
        refine tail_call (f := 20) (args := #[.pointer (some ⟨g, 0, none⟩), .slice (some ⟨g5, 0, none⟩) 1 1]) (W' := W) (by simp [go_sem]) (sees_tc g T T1 r.mbal ⟨g5, 0, none⟩ 1 W kb (by rw [r5.cell 0]; rfl)) ?_
        rintro e W2 ⟨rfl, kb2, hg2⟩
        refine ⟨_, rfl, ?_⟩
        have kr2 := kr.other hg2 (Ne.symm hgG)
        have kz2 := kz.other hg2 (by omega)
        have kw2 : Below B w W2 := kw.grown hg2 (by have := kb.lt; omega) (fun j hj => by injection hj with e; omega)
        have e0 : W2.cell? ⟨G, 0, none⟩ = some (.int .i64 r.inst) := by rw [kr2.cell 0]; rfl
        have e1 : W2.cell? ⟨g, 0, none⟩ = some (.int .i64 T1.inst) := by rw [kb2.cell 0]; rfl
        have f5 := kb2.frozen 5
        have c5 : W2.cell? ⟨g, 5, none⟩ = some (.bool T1.ahead) := by rw [kb2.cell 5]; rfl
        have KR2 := Lib.hid kr2; have KB2 := Lib.hid kb2; have KZ2 := Lib.hid kz2; have KW2 := Lib.hid kw2
        clear kr kb kz kw kr2 kb2 kz2 kw2 hg2 h5 h2 r5 hv hW
        by_cases ha : T1.inst < r.inst
        · have HA := Lib.hid (one_ahead T1 r ha)
          go_wp2
          go_quiet (fail)
          go_wp2
          have kb4 : Blk ((W2.drewN nq).setCell ⟨g, 5, none⟩ (.bool true)) g T (tc (oneT T1 r)) := by rw [HA.out]; exact ((KB2.out.drewN nq).set_ 5 (.bool true))
          have kz4 := (KZ2.out.drewN nq).set_other (g' := g) (by omega) 5 (.bool true)
          have kw4 := (bdrew KW2.out nq).setCell (p := ⟨g, 5, none⟩) hB (.bool true)
          go_roundw
          case rel => exact ⟨k + 1, by omega, by go_num, by rw [HT.out]; exact kb4, kz4, kw4⟩
          case measure => simp [intOf]; omega
        · by_cases he : r.inst = T1.inst
          · have HA := Lib.hid (one_here T1 r he)
            have t1 : ¬ T1.inst < r.inst := ha
            go_wp2
            go_quiet (fail)
            go_wp2
            go_quiet (fail)
            go_wp2
            clear e0 e1 f5 c5
            refine wp_region_grows 4 ((fun q_ _ _ => q_ = .pointer (some ⟨g, 0, none⟩)) :: (fun q_ _ _ => q_ = .pointer (some ⟨g, 0, none⟩)) :: (fun q_ _ _ => q_ = .pointer (some ⟨g, 0, none⟩)) :: (fun q_ _ _ => q_ = .agg (rc r)) :: []) (fun _ => false) (W2.heap.size) W2 (by kernel_rfl) (by kernel_rfl) (by kernel_rfl) (bdrew (bdrew (Below.refl _ _) _) _) (Nat.le_refl _) ?bStab (fun _ h => by cases h) ?bOps ?bFin
            case bStab => exact ⟨st_is _, st_is _, st_is _, st_is _, trivial⟩
            case bOps =>
              intro Q
              refine ⟨?_, ?_, ?_, ?_, trivial⟩
              · intro ho a W hW hd hx
                have h0 : a.eval (.tmp 0) = .pointer (some ⟨g, 0, none⟩) := (hx 0 (dst_not (by kernel_rfl))).trans rfl
                exact op_value ho (want_none rfl) (v := .pointer (some ⟨g, 0, none⟩)) (by intro ρ hρ kc kf; rw [← hρ] at h0; clear hρ; simp [execOp, go_sem, h0]) ⟨_, rfl, (fun h => by cases h), rfl, Below.refl _ _, (fun h => absurd h (by decide))⟩
              · intro ho a W hW hd hx
                have h45 : a.eval (.tmp 45) = .pointer (some ⟨g, 0, none⟩) := hd 0 (by kernel_rfl)
                exact op_value ho (want_none rfl) (v := .pointer (some ⟨g, 0, none⟩)) (by intro ρ hρ kc kf; rw [← hρ] at h45; clear hρ; simp [execOp, go_sem, h45]) ⟨_, rfl, (fun h => by cases h), rfl, Below.refl _ _, (fun h => absurd h (by decide))⟩
              · intro ho a W hW hd hx
                have h46 : a.eval (.tmp 46) = .pointer (some ⟨g, 0, none⟩) := hd 1 (by kernel_rfl)
                exact op_value ho (want_none rfl) (v := .pointer (some ⟨g, 0, none⟩)) (by intro ρ hρ kc kf; rw [← hρ] at h46; clear hρ; simp [execOp, go_sem, h46]) ⟨_, rfl, (fun h => by cases h), rfl, Below.refl _ _, (fun h => absurd h (by decide))⟩
              · intro ho a W hW hd hx
                have h6 : a.eval (.tmp 6) = .pointer (some ⟨G, 0, none⟩) := (hx 6 (dst_not (by kernel_rfl))).trans rfl
                exact op_value ho (want_none rfl) (v := .agg (rc r)) (by intro ρ hρ kc kf; rw [← hρ] at h6; exact run_load_B h6 (KR2.out.below hW KR2.out.lt)) ⟨_, rfl, (fun h => by cases h), rfl, Below.refl _ _, (fun h => absurd h (by decide))⟩
            case bFin =>
              intro v W hW hv _
              have h2 : v 2 = .pointer (some ⟨g, 0, none⟩) := hv 2 (by decide)
              have h3 : v 3 = .agg (rc r) := hv 3 (by decide)
              have kb := KB2.out.below hW KB2.out.lt
              have kz := KZ2.out.below hW KZ2.out.lt
              have kw : Below B w W := KW2.out.trans (hW.mono (by have := KB2.out.lt; omega))
              simp only [List.take_succ_cons, List.take_zero, List.drop_succ_cons, List.drop_zero, fillL, wpTail, Act.put, List.setIfInBounds_toArray, List.set_cons_zero, List.set_cons_succ, Nat.reduceAdd]
              rw [h3, h2]
              refine tail_call (f := 23) (args := #[.pointer (some ⟨g, 0, none⟩), .agg (rc r)]) (W' := W) (by simp [go_sem]) (here_tc g T (seenT T1 r.mbal) r W kb) ?_
              rintro e W5 ⟨rfl, kb5, hg5⟩
              refine ⟨_, rfl, ?_⟩
              have kz5 := kz.other hg5 (by omega)
              have kw5 : Below B w W5 := kw.grown hg5 (by have := kb.lt; omega) (fun j hj => by injection hj with e; omega)
              have KB5 := Lib.hid kb5; have KZ5 := Lib.hid kz5; have KW5 := Lib.hid kw5
              clear kb kz kw kb5 kz5 kw5 hg5 h2 h3 hv hW
              go_wp2
              go_roundw
              case rel => exact ⟨k + 1, by omega, by go_num, by rw [HT.out, HA.out]; exact KB5.out, KZ5.out, KW5.out⟩
              case measure => simp [intOf]; omega
          · have HA := Lib.hid (one_else T1 r ha he)
            go_wp2
            go_quiet (fail)
            go_wp2
            go_quiet (fail)
            go_wp2
            go_roundw
            case rel => exact ⟨k + 1, by omega, by go_num, by rw [HT.out, HA.out]; exact KB2.out, KZ2.out, bdrew KW2.out _⟩
            case measure => simp [intOf]; omega
    · have hkn2 : l.take k = l := List.take_of_length_le (by have := HL.out.1; omega)
      rw [hkn2] at hbk
      obtain ⟨U, hU⟩ : ∃ U, U = countT t l := ⟨_, rfl⟩
      rw [← hU] at hbk
      have HUU := Lib.hid hU
      have HB := Lib.hid hbk; have HZ := Lib.hid hzk; have HW := Lib.hid hwk
      have r0 : wr.cell? ⟨g, 0, none⟩ = some (Value.int IntKind.i64 U.inst) := by rw [hbk.cell 0]; rfl
      have r1 : wr.cell? ⟨g, 1, none⟩ = some (Value.int IntKind.i64 U.mbal) := by rw [hbk.cell 1]; rfl
      have r2 : wr.cell? ⟨g, 2, none⟩ = some (Value.int IntKind.i64 U.best) := by rw [hbk.cell 2]; rfl
      have r3 : wr.cell? ⟨g, 3, none⟩ = some (Value.string U.val) := by rw [hbk.cell 3]; rfl
      have r4 : wr.cell? ⟨g, 4, none⟩ = some (Value.int IntKind.i64 U.seen) := by rw [hbk.cell 4]; rfl
      have r5 : wr.cell? ⟨g, 5, none⟩ = some (Value.bool U.ahead) := by rw [hbk.cell 5]; rfl
      have r6 : wr.cell? ⟨g, 6, none⟩ = some (Value.bool U.lost) := by rw [hbk.cell 6]; rfl
      have z0 : wr.cell? ⟨w.heap.size, 0, none⟩ = some (Value.int IntKind.i64 0) := by rw [hzk.cell 0]; rfl
      have f0 := hzk.frozen 0
      have z1 : wr.cell? ⟨w.heap.size, 1, none⟩ = some (Value.int IntKind.i64 0) := by rw [hzk.cell 1]; rfl
      have f1 := hzk.frozen 1
      have z2 : wr.cell? ⟨w.heap.size, 2, none⟩ = some (Value.int IntKind.i64 0) := by rw [hzk.cell 2]; rfl
      have f2 := hzk.frozen 2
      have z3 : wr.cell? ⟨w.heap.size, 3, none⟩ = some (Value.string ⟨#[]⟩) := by rw [hzk.cell 3]; rfl
      have f3 := hzk.frozen 3
      have z4 : wr.cell? ⟨w.heap.size, 4, none⟩ = some (Value.int IntKind.i64 0) := by rw [hzk.cell 4]; rfl
      have f4 := hzk.frozen 4
      have z5 : wr.cell? ⟨w.heap.size, 5, none⟩ = some (Value.bool false) := by rw [hzk.cell 5]; rfl
      have f5 := hzk.frozen 5
      have z6 : wr.cell? ⟨w.heap.size, 6, none⟩ = some (Value.bool false) := by rw [hzk.cell 6]; rfl
      have f6 := hzk.frozen 6
      clear hbk hzk hwk hkn2 hU
      have hf := (((((((HZ.out.set_ 0 (Value.int IntKind.i64 U.inst)).set_ 1 (Value.int IntKind.i64 U.mbal)).set_ 2 (Value.int IntKind.i64 U.best)).set_ 3 (Value.string U.val)).set_ 4 (Value.int IntKind.i64 U.seen)).set_ 5 (Value.bool U.ahead)).set_ 6 (Value.bool U.lost))
      have hB1 : Below B w (((((((wr.setCell ⟨w.heap.size, 0, none⟩ (Value.int IntKind.i64 U.inst)).setCell ⟨w.heap.size, 1, none⟩ (Value.int IntKind.i64 U.mbal)).setCell ⟨w.heap.size, 2, none⟩ (Value.int IntKind.i64 U.best)).setCell ⟨w.heap.size, 3, none⟩ (Value.string U.val)).setCell ⟨w.heap.size, 4, none⟩ (Value.int IntKind.i64 U.seen)).setCell ⟨w.heap.size, 5, none⟩ (Value.bool U.ahead)).setCell ⟨w.heap.size, 6, none⟩ (Value.bool U.lost)) := (((((((HW.out.setCell (by show B ≤ w.heap.size; omega) _).setCell (by show B ≤ w.heap.size; omega) _).setCell (by show B ≤ w.heap.size; omega) _).setCell (by show B ≤ w.heap.size; omega) _).setCell (by show B ≤ w.heap.size; omega) _).setCell (by show B ≤ w.heap.size; omega) _).setCell (by show B ≤ w.heap.size; omega) _)
      have HF := Lib.hid hf; have HB1 := Lib.hid hB1
      clear hf hB1
      go_wp2
      have hf := HF.out; have hB1 := HB1.out
      obtain ⟨Wf, hWf⟩ : ∃ Wf, Wf = (((((((wr.setCell ⟨w.heap.size, 0, none⟩ (Value.int IntKind.i64 U.inst)).setCell ⟨w.heap.size, 1, none⟩ (Value.int IntKind.i64 U.mbal)).setCell ⟨w.heap.size, 2, none⟩ (Value.int IntKind.i64 U.best)).setCell ⟨w.heap.size, 3, none⟩ (Value.string U.val)).setCell ⟨w.heap.size, 4, none⟩ (Value.int IntKind.i64 U.seen)).setCell ⟨w.heap.size, 5, none⟩ (Value.bool U.ahead)).setCell ⟨w.heap.size, 6, none⟩ (Value.bool U.lost)) := ⟨_, rfl⟩
      rw [← hWf] at hf hB1 ⊢
      have hf : Blk Wf w.heap.size 30 (tc U) := by simpa [tc, zT] using hf
      have y0 : Wf.cell? ⟨w.heap.size, 0, none⟩ = some (Value.int IntKind.i64 U.inst) := by rw [hf.cell 0]; rfl
      have y1 : Wf.cell? ⟨w.heap.size, 1, none⟩ = some (Value.int IntKind.i64 U.mbal) := by rw [hf.cell 1]; rfl
      have y2 : Wf.cell? ⟨w.heap.size, 2, none⟩ = some (Value.int IntKind.i64 U.best) := by rw [hf.cell 2]; rfl
      have y3 : Wf.cell? ⟨w.heap.size, 3, none⟩ = some (Value.string U.val) := by rw [hf.cell 3]; rfl
      have y4 : Wf.cell? ⟨w.heap.size, 4, none⟩ = some (Value.int IntKind.i64 U.seen) := by rw [hf.cell 4]; rfl
      have y5 : Wf.cell? ⟨w.heap.size, 5, none⟩ = some (Value.bool U.ahead) := by rw [hf.cell 5]; rfl
      have y6 : Wf.cell? ⟨w.heap.size, 6, none⟩ = some (Value.bool U.lost) := by rw [hf.cell 6]; rfl
      clear hWf hf
      refine bodyPost_ret (v := .agg (tc U)) (by simp [results, Try.results21, go_sem, y0, y1, y2, y3, y4, y5, y6, tc]) rfl ⟨by rw [HUU.out], hB1⟩

end Go.Proofs.Ytilpcoebpinmfaa
