/-
  Contract of the reference's Count. (The region's lines are printed by choose_refc.py.)
-/
import Derived.Test.YtilpcoebpinmfaaLoad
namespace Go.Proofs.Ytilpcoebpinmfaa
open Go.RowKit

theorem rone_tc (t : Ty) (r : Rc) (w : World) : Calls Try.prog 22 #[.agg (tc t), .agg (rc r)] w fun e w' => e = .returned (.agg (tc (oneT t r))) ∧ Below w.heap.size w w' :=
  rone_any t.inst t.mbal t.best t.seen r.inst r.mbal r.bal t.val r.val t.ahead t.lost w

theorem count_take (t : Ty) (l : List Rc) (k : Nat) (r : Rc) (h : l[k]? = some r) : countT t (l.take (k + 1)) = oneT (countT t (l.take k)) r := by
  unfold countT
  rw [List.take_add_one, h, List.foldl_append]
  rfl

set_option maxRecDepth 100000 in
set_option maxHeartbeats 2000000 in
/-- the reference's Count -/
theorem rcount_any (t : Ty) (A : Option Addr) (n c B : Nat) (l : List Rc) (w : World) (hl : RdR w B A n l) (hB : B ≤ w.heap.size) (hn : n ≤ 1000000) :
    Calls Try.prog 13 #[.agg (tc t), .slice A n c] w fun e w' => e = .returned (.agg (tc (countT t l))) ∧ Below w.heap.size w w' := by
  have HL := Lib.hid hl; clear hl
  change Calls Try.prog 13 #[.agg #[.int .i64 t.inst, .int .i64 t.mbal, .int .i64 t.best, .string t.val, .int .i64 t.seen, .bool t.ahead, .bool t.lost], .slice A n c] w _
  go_enter Try.func13, Try.ntmps13
  go_wp2
  have hb0 : Blk ((w.alloc (Obj.cells (tc t) 30)).alloc (Obj.cells (tc ⟨0, 0, 0, ⟨#[]⟩, 0, false, false⟩) 30)) w.heap.size 30 (tc t) := (Blk.new w 30 _).alloc _
  have hz0 : Blk ((w.alloc (Obj.cells (tc t) 30)).alloc (Obj.cells (tc ⟨0, 0, 0, ⟨#[]⟩, 0, false, false⟩) 30)) (w.heap.size + 1) 30 (tc ⟨0, 0, 0, ⟨#[]⟩, 0, false, false⟩) := by
    have := Blk.new (w.alloc (Obj.cells (tc t) 30)) 30 (tc ⟨0, 0, 0, ⟨#[]⟩, 0, false, false⟩)
    simpa using this
  go_loopw [5] (fun i wr => ∃ (k : Nat), k ≤ n ∧ i = .int .i64 k ∧ Blk wr w.heap.size 30 (tc (countT t (l.take k))) ∧ Blk wr (w.heap.size + 1) 30 (tc ⟨0, 0, 0, ⟨#[]⟩, 0, false, false⟩) ∧ Below w.heap.size w wr) (fun i _ => n - (intOf i).toNat)
  case atStart => exact ⟨0, by omega, rfl, hb0, hz0, ((Below.refl _ _).alloc (Nat.le_refl _) _).alloc (by simp) _⟩
  case round =>
    obtain ⟨k, hk, rfl, hbk, hzk, hwk⟩ := hrel
    clear hb0 hz0
    by_cases hkn : k < n
    · have hlen := HL.out.1
      obtain ⟨ad, rfl, hab, hcs⟩ := HL.out.2 (by omega)
      obtain ⟨r, hlk⟩ : ∃ r, l[k]? = some r := ⟨_, List.getElem?_eq_getElem (by omega)⟩
      have hT := count_take t l k r hlk
      obtain ⟨T1, hT1⟩ : ∃ T1, T1 = countT t (l.take k) := ⟨_, rfl⟩
      rw [← hT1] at hbk hT
      have kr : ∀ W, Below wr.heap.size wr W → W.cell? (ad.add (k * 4)) = some (.int .i64 r.inst) ∧ W.cell? ((ad.add (k * 4)).add 1) = some (.int .i64 r.mbal) ∧ W.cell? ((ad.add (k * 4)).add 2) = some (.int .i64 r.bal) ∧ W.cell? ((ad.add (k * 4)).add 3) = some (.string r.val) := by
        intro W hW
        obtain ⟨q0, q1, q2, q3⟩ := hcs k _ hlk
        have hs := hwk.size
        have hc : ∀ j, W.cell? (ad.add j) = w.cell? (ad.add j) := fun j => (hW.cell (by rw [blk_add]; omega)).trans (hwk.cell (by rw [blk_add]; omega))
        refine ⟨(hc _).trans q0, ?_, ?_, ?_⟩
        · rw [add_two]; exact (hc _).trans q1
        · rw [add_two]; exact (hc _).trans q2
        · rw [add_two]; exact (hc _).trans q3
      have ix1 : (0 : Int) ≤ (k : Int) := by omega
      have ix2 : (k : Int) < (n : Int) := by omega
      have KR := Lib.hid kr; have KB := Lib.hid hbk; have KZ := Lib.hid hzk; have HT := Lib.hid hT; have HK := Lib.hid hwk; have HLEN := Lib.hid hlen
      clear kr hbk hzk hT hT1 hcs hlk hlen hwk
      go_wp2
      refine wp_region_grows 6 ((fun q_ _ _ => q_ = .agg (tc T1)) :: (fun q_ _ _ => q_ = .slice (some ad) n c) :: (fun q_ _ _ => q_ = .int .i64 (k : Int)) :: (fun q_ _ _ => q_ = .pointer (some (ad.add (k * 4)))) :: (fun q_ _ _ => q_ = .agg (rc r)) :: (fun q_ _ _ => q_ = .agg (tc (oneT T1 r))) :: []) (fun _ => false) (wr.heap.size) wr (by kernel_rfl) (by kernel_rfl) (by kernel_rfl) (Below.refl _ _) (Nat.le_refl _) ?zStab (fun _ h => by cases h) ?zOps ?zFin
      case zStab => exact ⟨st_is _, st_is _, st_is _, st_is _, st_is _, st_is _, trivial⟩
      case zOps =>
        intro Q
        refine ⟨?_, ?_, ?_, ?_, ?_, ?_, trivial⟩
        · intro ho a W hW hd hx
          have h2 : a.eval (.tmp 2) = .pointer (some ⟨w.heap.size, 0, none⟩) := (hx 2 (dst_not (by kernel_rfl))).trans rfl
          exact op_value ho (want_none rfl) (v := .agg (tc T1)) (by intro ρ hρ kc kf; rw [← hρ] at h2; exact run_load_T h2 (KB.out.below hW (by have := KB.out.lt; omega))) ⟨_, rfl, (fun h => by cases h), rfl, Below.refl _ _, (fun h => absurd h (by decide))⟩
        · intro ho a W hW hd hx
          have h1 : a.eval (.tmp 1) = .slice (some ad) n c := (hx 1 (dst_not (by kernel_rfl))).trans rfl
          exact op_value ho (want_none rfl) (v := .slice (some ad) n c) (by intro ρ hρ kc kf; rw [← hρ] at h1; clear hρ; simp [execOp, go_sem, h1]) ⟨_, rfl, (fun h => by cases h), rfl, Below.refl _ _, (fun h => absurd h (by decide))⟩
        · intro ho a W hW hd hx
          have h5 : a.eval (.tmp 5) = .int .i64 (k : Int) := (hx 5 (dst_not (by kernel_rfl))).trans rfl
          exact op_value ho (want_none rfl) (v := .int .i64 (k : Int)) (by intro ρ hρ kc kf; rw [← hρ] at h5; clear hρ; simp [execOp, go_sem, h5]) ⟨_, rfl, (fun h => by cases h), rfl, Below.refl _ _, (fun h => absurd h (by decide))⟩
        · intro ho a W hW hd hx
          have h13 : a.eval (.tmp 13) = .slice (some ad) n c := hd 1 (by kernel_rfl)
          have h14 : a.eval (.tmp 14) = .int .i64 (k : Int) := hd 2 (by kernel_rfl)
          exact op_value ho (want_none rfl) (v := .pointer (some (ad.add (k * 4)))) (by intro ρ hρ kc kf; rw [← hρ] at h13 h14; clear hρ; simp [execOp, go_sem, h13, h14, ix1, ix2]) ⟨_, rfl, (fun h => by cases h), rfl, Below.refl _ _, (fun h => absurd h (by decide))⟩
        · intro ho a W hW hd hx
          have h15 : a.eval (.tmp 15) = .pointer (some (ad.add (k * 4))) := hd 3 (by kernel_rfl)
          obtain ⟨q0, q1, q2, q3⟩ := KR.out W hW
          exact op_value ho (want_none rfl) (v := .agg (rc r)) (by intro ρ hρ kc kf; rw [← hρ] at h15; exact run_load_R h15 q0 q1 q2 q3) ⟨_, rfl, (fun h => by cases h), rfl, Below.refl _ _, (fun h => absurd h (by decide))⟩
        · intro ho a W hW hd hx
          have h12 : a.eval (.tmp 12) = .agg (tc T1) := hd 0 (by kernel_rfl)
          have h16 : a.eval (.tmp 16) = .agg (rc r) := hd 4 (by kernel_rfl)
          refine op_call ho (want_none rfl) (by intro ρ hρ kc kf; rw [← hρ] at h12 h16; clear hρ; simp [execOp, go_sem, kf, h12, h16]) (rone_tc T1 r W) ?_
          rintro e W2 ⟨rfl, k2⟩
          exact ⟨_, rfl, _, rfl, (fun h => by cases h), rfl, k2, (fun h => absurd h (by decide))⟩
      case zFin =>
        intro v W hW hv _
        have h0 := hv 0 (by decide)
        have h5 : v 5 = .agg (tc (oneT T1 r)) := hv 5 (by decide)
        simp only [List.take_succ_cons, List.take_zero, List.drop_succ_cons, List.drop_zero, fillL, wpTail, Act.put, List.setIfInBounds_toArray, List.set_cons_zero, List.set_cons_succ, Nat.reduceAdd]
        rw [h5]
        have kb := KB.out.below hW KB.out.lt
        have kz := KZ.out.below hW KZ.out.lt
        refine tail_store_T (t := oneT T1 r) rfl rfl kb rfl ?_
        intro W2 kb2 hg2
        have kz2 := kz.other hg2 (by omega)
        have kw : Below w.heap.size w W2 := (HK.out.trans (hW.mono HK.out.size)).grown hg2 (Nat.le_trans HK.out.size hW.size) (fun j hj => by injection hj with e; omega)
        have KB2 := Lib.hid kb2; have KZ2 := Lib.hid kz2; have KW := Lib.hid kw
        clear kb kz kb2 hg2 kz2 kw h0 h5 hv
        go_wp2
        go_roundw
        case rel => exact ⟨k + 1, by omega, by go_num, by rw [HT.out]; exact KB2.out, KZ2.out, KW.out⟩
        case measure => simp [intOf]; omega
    · have hkn2 : l.take k = l := List.take_of_length_le (by have := HL.out.1; omega)
      rw [hkn2] at hbk
      obtain ⟨T, hT⟩ : ∃ T, T = countT t l := ⟨_, rfl⟩
      rw [← hT] at hbk
      have HTT := Lib.hid hT
      have HB := Lib.hid hbk; have HZ := Lib.hid hzk; have HW := Lib.hid hwk
      have r0 : wr.cell? ⟨w.heap.size, 0, none⟩ = some (.int .i64 T.inst) := by rw [hbk.cell 0]; rfl
      have r1 : wr.cell? ⟨w.heap.size, 1, none⟩ = some (.int .i64 T.mbal) := by rw [hbk.cell 1]; rfl
      have r2 : wr.cell? ⟨w.heap.size, 2, none⟩ = some (.int .i64 T.best) := by rw [hbk.cell 2]; rfl
      have r3 : wr.cell? ⟨w.heap.size, 3, none⟩ = some (.string T.val) := by rw [hbk.cell 3]; rfl
      have r4 : wr.cell? ⟨w.heap.size, 4, none⟩ = some (.int .i64 T.seen) := by rw [hbk.cell 4]; rfl
      have r5 : wr.cell? ⟨w.heap.size, 5, none⟩ = some (.bool T.ahead) := by rw [hbk.cell 5]; rfl
      have r6 : wr.cell? ⟨w.heap.size, 6, none⟩ = some (.bool T.lost) := by rw [hbk.cell 6]; rfl
      have z0 : wr.cell? ⟨w.heap.size + 1, 0, none⟩ = some (.int .i64 0) := by rw [hzk.cell 0]; rfl
      have f0 := hzk.frozen 0
      have z1 : wr.cell? ⟨w.heap.size + 1, 1, none⟩ = some (.int .i64 0) := by rw [hzk.cell 1]; rfl
      have f1 := hzk.frozen 1
      have z2 : wr.cell? ⟨w.heap.size + 1, 2, none⟩ = some (.int .i64 0) := by rw [hzk.cell 2]; rfl
      have f2 := hzk.frozen 2
      have z3 : wr.cell? ⟨w.heap.size + 1, 3, none⟩ = some (.string ⟨#[]⟩) := by rw [hzk.cell 3]; rfl
      have f3 := hzk.frozen 3
      have z4 : wr.cell? ⟨w.heap.size + 1, 4, none⟩ = some (.int .i64 0) := by rw [hzk.cell 4]; rfl
      have f4 := hzk.frozen 4
      have z5 : wr.cell? ⟨w.heap.size + 1, 5, none⟩ = some (.bool false) := by rw [hzk.cell 5]; rfl
      have f5 := hzk.frozen 5
      have z6 : wr.cell? ⟨w.heap.size + 1, 6, none⟩ = some (.bool false) := by rw [hzk.cell 6]; rfl
      have f6 := hzk.frozen 6
      have hb1 := hbk.lt
      clear hbk hzk hwk hkn2 hT
      have hf := (((((((HZ.out.set_ 0 (Value.int IntKind.i64 T.inst)).set_ 1 (Value.int IntKind.i64 T.mbal)).set_ 2 (Value.int IntKind.i64 T.best)).set_ 3 (Value.string T.val)).set_ 4 (Value.int IntKind.i64 T.seen)).set_ 5 (Value.bool T.ahead)).set_ 6 (Value.bool T.lost))
      have hB1 : Below w.heap.size w (((((((wr.setCell ⟨w.heap.size + 1, 0, none⟩ (Value.int IntKind.i64 T.inst)).setCell ⟨w.heap.size + 1, 1, none⟩ (Value.int IntKind.i64 T.mbal)).setCell ⟨w.heap.size + 1, 2, none⟩ (Value.int IntKind.i64 T.best)).setCell ⟨w.heap.size + 1, 3, none⟩ (Value.string T.val)).setCell ⟨w.heap.size + 1, 4, none⟩ (Value.int IntKind.i64 T.seen)).setCell ⟨w.heap.size + 1, 5, none⟩ (Value.bool T.ahead)).setCell ⟨w.heap.size + 1, 6, none⟩ (Value.bool T.lost)) := (((((((HW.out.setCell (by show w.heap.size ≤ w.heap.size + 1; omega) _).setCell (by show w.heap.size ≤ w.heap.size + 1; omega) _).setCell (by show w.heap.size ≤ w.heap.size + 1; omega) _).setCell (by show w.heap.size ≤ w.heap.size + 1; omega) _).setCell (by show w.heap.size ≤ w.heap.size + 1; omega) _).setCell (by show w.heap.size ≤ w.heap.size + 1; omega) _).setCell (by show w.heap.size ≤ w.heap.size + 1; omega) _)
      have HF := Lib.hid hf; have HB1 := Lib.hid hB1
      clear hf hB1
      go_wp2
      have hf := HF.out; have hB1 := HB1.out
      obtain ⟨Wf, hWf⟩ : ∃ Wf, Wf = (((((((wr.setCell ⟨w.heap.size + 1, 0, none⟩ (Value.int IntKind.i64 T.inst)).setCell ⟨w.heap.size + 1, 1, none⟩ (Value.int IntKind.i64 T.mbal)).setCell ⟨w.heap.size + 1, 2, none⟩ (Value.int IntKind.i64 T.best)).setCell ⟨w.heap.size + 1, 3, none⟩ (Value.string T.val)).setCell ⟨w.heap.size + 1, 4, none⟩ (Value.int IntKind.i64 T.seen)).setCell ⟨w.heap.size + 1, 5, none⟩ (Value.bool T.ahead)).setCell ⟨w.heap.size + 1, 6, none⟩ (Value.bool T.lost)) := ⟨_, rfl⟩
      rw [← hWf] at hf hB1 ⊢
      have hf : Blk Wf (w.heap.size + 1) 30 (tc T) := by simpa [tc] using hf
      have y0 : Wf.cell? ⟨w.heap.size + 1, 0, none⟩ = some (Value.int IntKind.i64 T.inst) := by rw [hf.cell 0]; rfl
      have y1 : Wf.cell? ⟨w.heap.size + 1, 1, none⟩ = some (Value.int IntKind.i64 T.mbal) := by rw [hf.cell 1]; rfl
      have y2 : Wf.cell? ⟨w.heap.size + 1, 2, none⟩ = some (Value.int IntKind.i64 T.best) := by rw [hf.cell 2]; rfl
      have y3 : Wf.cell? ⟨w.heap.size + 1, 3, none⟩ = some (Value.string T.val) := by rw [hf.cell 3]; rfl
      have y4 : Wf.cell? ⟨w.heap.size + 1, 4, none⟩ = some (Value.int IntKind.i64 T.seen) := by rw [hf.cell 4]; rfl
      have y5 : Wf.cell? ⟨w.heap.size + 1, 5, none⟩ = some (Value.bool T.ahead) := by rw [hf.cell 5]; rfl
      have y6 : Wf.cell? ⟨w.heap.size + 1, 6, none⟩ = some (Value.bool T.lost) := by rw [hf.cell 6]; rfl
      clear hWf hf
      refine bodyPost_ret (v := .agg (tc T)) (by simp [results, Try.results13, go_sem, y0, y1, y2, y3, y4, y5, y6, tc]) rfl ⟨by rw [HTT.out], hB1⟩

end Go.Proofs.Ytilpcoebpinmfaa
