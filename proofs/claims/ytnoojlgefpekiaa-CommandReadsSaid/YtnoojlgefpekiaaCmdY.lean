/-
  The reference's Bytes. (Printed by cmd_rbytes.py.)
-/
import Derived.Test.YtnoojlgefpekiaaCmdX
import Derived.Test.YtnoojlgefpekiaaRefE
namespace Go.Proofs.Ytnoojlgefpekiaa
open Go.RowKit

/-- numbers that are bytes, as cells -/
theorem cells_bytes (zs : List Int) (h : ∀ z ∈ zs, 0 ≤ z ∧ z ≤ 255) : cB (putL 1 zs) = zs.map (Value.int .u8) := by
  induction zs with
  | nil => rfl
  | cons z r ih =>
    have hz := h z (List.mem_cons_self ..)
    have e : putL 1 (z :: r) = bytesN 1 z.toNat ++ putL 1 r := by simp [putL]
    rw [e, bytesN_cons]
    have e2 : ((UInt8.ofNat z.toNat).toNat : Int) = z := by simp only [UInt8.toNat_ofNat']; omega
    have e3 := ih (fun y hy => h y (List.mem_cons_of_mem _ hy))
    simp only [cB] at e3 ⊢
    simp only [bytesN, List.range_zero, List.map_nil, List.nil_append, List.cons_append, List.map_cons, e2, e3]
theorem all_one (x : Nat) (z : Int) (h : fitsB z x = true) : [z].all (fitsB · x) = true := by simp [h]
theorem all_two (x : Nat) (z y : Int) (h : fitsB z x = true) (h2 : fitsB y x = true) : [z, y].all (fitsB · x) = true := by simp [h, h2]
theorem row_one (w : World) (xs : List Value) (t : TypeId) : Rd (w.alloc (.cells xs.toArray t)) (w.alloc (.cells xs.toArray t)).heap.size (some ⟨w.heap.size, 0, none⟩) xs.length xs :=
  (Rd.new w t xs).more (by simp)
theorem row_fst (w : World) (xs ys : List Value) (t u : TypeId) : Rd ((w.alloc (.cells xs.toArray t)).alloc (.cells ys.toArray u)) ((w.alloc (.cells xs.toArray t)).alloc (.cells ys.toArray u)).heap.size (some ⟨w.heap.size, 0, none⟩) xs.length xs :=
  ((Rd.new w t xs).alloc (by simp) _).more (by simp)
theorem row_snd (w : World) (xs ys : List Value) (t u : TypeId) : Rd ((w.alloc (.cells xs.toArray t)).alloc (.cells ys.toArray u)) ((w.alloc (.cells xs.toArray t)).alloc (.cells ys.toArray u)).heap.size (some ⟨w.heap.size + 1, 0, none⟩) ys.length ys := by
  have := row_one (w.alloc (.cells xs.toArray t)) ys u
  simpa using this
/-- the part of a Put that fits -/
theorem rput_ok {Ab Al : Option Addr} {nb cb m cl : Nat} (wd : Nat) (bs : List UInt8) (zs : List Int) {w : World} (h1 : 1 ≤ wd) (h6 : wd ≤ 6) (hf : zs.all (fitsB · wd) = true) (hb : Rd w w.heap.size Ab nb (cB bs)) (hl : Rd w w.heap.size Al m (cI zs)) (hn : bs.length ≤ 1000) (hz : zs.length ≤ 10) :
    Calls Try.prog 15 #[.slice Ab nb cb, .int .i64 (wd : Int), .slice Al m cl] w fun e w' => ∃ A n c, e = .returned (.tuple #[.slice A n c, .int .i64 0]) ∧ n ≤ c ∧ w'.ownsRow w.heap.size 5 1 (.slice A n c) n (cB (bs ++ putL wd zs)) ∧ Below w.heap.size w w' := by
  have e1 := hb.1
  have e2 := hl.1
  simp only [cB, cI, List.length_map] at e1 e2
  refine (rput_own Ab Al nb cb m cl wd bs zs w h1 h6 (by omega) (by omega) hb hl).mono ?_
  rintro e w' (⟨_, h⟩ | ⟨h, _⟩)
  · exact h
  · rw [hf] at h; cases h

set_option maxHeartbeats 4000000 in
theorem rb_yes (c : Cm) (w : World) (hm : mayC c = true) :
    Calls Try.prog 32 #[.agg (cC c)] w fun e w2 => e = .returned (.tuple #[.string ⟨(bytesC c).toArray⟩, .int .i64 0]) ∧ Below w.heap.size w w2 := by
  obtain ⟨i0, hi, hz0, hz1, hz2⟩ := info_parts Try.info5
  obtain ⟨⟨b1, b2⟩, ⟨s1, s2⟩, hk⟩ := may_has c hm
  have hn : keyB c.node = true := (key_iff _).2 ⟨b1, b2⟩
  have k0 : 0 ≤ c.kind := by omega
  have k5 : c.kind ≤ 5 := by omega
  obtain ⟨W0, hW0⟩ : ∃ W0, W0 = w.alloc (Obj.cells (cC c) 42) := ⟨_, rfl⟩
  have kc : Blk W0 w.heap.size 42 (cC c) := by rw [hW0]; exact Blk.new w 42 (cC c)
  have kw : Below w.heap.size w W0 := by rw [hW0]; exact (Below.refl _ _).alloc (Nat.le_refl _) _
  have m1 := rm_yes c W0 hn s1 s2
  rw [hm] at m1
  have M1 := Lib.hid m1
  have KC0 := Lib.hid kc; have KW0 := Lib.hid kw; have HW0 := Lib.hid hW0; have HK := Lib.hid hk
  have FB := Lib.hid (all_one 6 c.node (fits6 _ (by omega) b2)); have FS := Lib.hid (all_one 4 c.serial (fits4 _ (by omega) s2))
  have HB0 : Hid (cB (putL 1 [c.kind]) = [Value.int .u8 c.kind]) := Lib.hid (cells_bytes [c.kind] (by simp; omega))
  clear kc kw hW0 m1 hk hn b1 b2 s1 s2 hm
  simp only [cC] at HW0
  change Calls Try.prog 32 #[.agg #[Value.int IntKind.i8 c.kind, Value.int IntKind.i64 c.node, Value.int IntKind.i64 c.serial, Value.int IntKind.i64 c.dead, Value.int IntKind.i64 c.was, Value.int IntKind.i64 c.lo, Value.int IntKind.i64 c.hi, Value.int IntKind.i8 c.mode]] w _
  go_enter Try.func32, Try.ntmps32
  go_wp2_with fail
  rw [← HW0.out]
  refine M1.out.mono ?_
  rintro e w1 ⟨rfl, b1⟩
  have KC1 : Hid (Blk w1 w.heap.size 42 (cC c)) := Lib.hid (KC0.out.below b1 KC0.out.lt)
  have KW1 : Hid (Below w.heap.size w w1) := Lib.hid (KW0.out.trans (b1.mono KW0.out.size))
  clear b1 KC0 KW0 HW0 M1
  have hlt := KC1.out.lt
  have p0 : w1.cell? ⟨w.heap.size, 0, none⟩ = some (.int .i8 c.kind) := by rw [KC1.out.cell 0]; rfl
  have p1 : w1.cell? ⟨w.heap.size, 1, none⟩ = some (.int .i64 c.node) := by rw [KC1.out.cell 1]; rfl
  go_wp2_with fail
  have ra := row_fst w1 [Value.int .u8 c.kind] [Value.int .i64 c.node] 5 3
  have rb := row_snd w1 [Value.int .u8 c.kind] [Value.int .i64 c.node] 5 3
  rw [← HB0.out] at ra
  have bel : Below w.heap.size w ((w1.alloc (Obj.cells #[Value.int .u8 c.kind] 5)).alloc (Obj.cells #[Value.int .i64 c.node] 3)) := (KW1.out.alloc KW1.out.size _).alloc (by rw [World.size_alloc]; have := KW1.out.size; omega) _
  have kc2 := (KC1.out.alloc (Obj.cells #[Value.int .u8 c.kind] 5)).alloc (Obj.cells #[Value.int .i64 c.node] 3)
  obtain ⟨W2, hW2⟩ : ∃ W, W = ((w1.alloc (Obj.cells #[Value.int .u8 c.kind] 5)).alloc (Obj.cells #[Value.int .i64 c.node] 3)) := ⟨_, rfl⟩
  rw [HB0.out] at ra
  have ra' : Rd W2 W2.heap.size (some ⟨w1.heap.size, 0, none⟩) 1 (cB (putL 1 [c.kind])) := by rw [hW2, HB0.out]; exact ra
  have rb' : Rd W2 W2.heap.size (some ⟨w1.heap.size + 1, 0, none⟩) 1 (cI [c.node]) := by rw [hW2]; exact rb
  rw [← hW2] at bel kc2 ⊢
  refine (rput_ok 6 (putL 1 [c.kind]) [c.node] (by decide) (by decide) FB.out ra' rb' (by simp [length_putL]) (by simp)).mono ?_
  rintro e w3 ⟨A3, n3, c3, rfl, hn3, ho3, hb3⟩
  have KC3 : Hid (Blk w3 w.heap.size 42 (cC c)) := Lib.hid (kc2.below hb3 kc2.lt)
  have KW3 : Hid (Below w.heap.size w w3) := Lib.hid (bel.trans (hb3.mono bel.size))
  have RD3 : Hid (Rd w3 w3.heap.size A3 n3 (cB (putL 1 [c.kind] ++ putL 6 [c.node]))) := Lib.hid (Rd.of_own ho3)
  clear ra rb ra' rb' bel kc2 hW2 ho3 hb3 hn3 KC1 KW1 HB0 hlt p0 p1
  have hlt := KC3.out.lt
  have p2 : w3.cell? ⟨w.heap.size, 2, none⟩ = some (.int .i64 c.serial) := by rw [KC3.out.cell 2]; rfl
  go_wp2_with fail
  have rb := row_one w3 [Value.int .i64 c.serial] 3
  have bel : Below w.heap.size w (w3.alloc (Obj.cells #[Value.int .i64 c.serial] 3)) := KW3.out.alloc KW3.out.size _
  have kc2 := KC3.out.alloc (Obj.cells #[Value.int .i64 c.serial] 3)
  have ra := (RD3.out.alloc (Nat.le_refl _) (Obj.cells #[Value.int .i64 c.serial] 3)).more (show w3.heap.size ≤ (w3.alloc (Obj.cells #[Value.int .i64 c.serial] 3)).heap.size by simp)
  obtain ⟨W4, hW4⟩ : ∃ W, W = (w3.alloc (Obj.cells #[Value.int .i64 c.serial] 3)) := ⟨_, rfl⟩
  have rb' : Rd W4 W4.heap.size (some ⟨w3.heap.size, 0, none⟩) 1 (cI [c.serial]) := by rw [hW4]; exact rb
  rw [← hW4] at bel kc2 ra ⊢
  refine (rput_ok 4 (putL 1 [c.kind] ++ putL 6 [c.node]) [c.serial] (by decide) (by decide) FS.out ra rb' (by simp [length_putL]) (by simp)).mono ?_
  rintro e w5 ⟨A5, n5, c5, rfl, hn5, ho5, hb5⟩
  obtain ⟨bs, hbs⟩ : ∃ bs, bs = putL 1 [c.kind] ++ putL 6 [c.node] ++ putL 4 [c.serial] := ⟨_, rfl⟩
  rw [← hbs] at ho5
  have HBS := Lib.hid hbs
  have HL5 : Hid (n5 = 11) := Lib.hid (by have := (Rd.of_own ho5).1; rw [hbs] at this; simp [cB, length_putL] at this; omega)
  have KC5 : Hid (Blk w5 w.heap.size 42 (cC c)) := Lib.hid (kc2.below hb5 kc2.lt)
  have KW5 : Hid (Below w.heap.size w w5) := Lib.hid (bel.trans (hb5.mono bel.size))
  have HO5 := Lib.hid ho5; have HS5 := Lib.hid hb5.size; have HS4 := Lib.hid bel.size
  clear rb rb' ra bel kc2 hW4 ho5 hb5 hbs KC3 KW3 RD3 hlt p2
  have hlt := KC5.out.lt
  have p0 : w5.cell? ⟨w.heap.size, 0, none⟩ = some (.int .i8 c.kind) := by rw [KC5.out.cell 0]; rfl
  have p1 : w5.cell? ⟨w.heap.size, 1, none⟩ = some (.int .i64 c.node) := by rw [KC5.out.cell 1]; rfl
  have p2 : w5.cell? ⟨w.heap.size, 2, none⟩ = some (.int .i64 c.serial) := by rw [KC5.out.cell 2]; rfl
  have p3 : w5.cell? ⟨w.heap.size, 3, none⟩ = some (.int .i64 c.dead) := by rw [KC5.out.cell 3]; rfl
  have p4 : w5.cell? ⟨w.heap.size, 4, none⟩ = some (.int .i64 c.was) := by rw [KC5.out.cell 4]; rfl
  have p5 : w5.cell? ⟨w.heap.size, 5, none⟩ = some (.int .i64 c.lo) := by rw [KC5.out.cell 5]; rfl
  have p6 : w5.cell? ⟨w.heap.size, 6, none⟩ = some (.int .i64 c.hi) := by rw [KC5.out.cell 6]; rfl
  have p7 : w5.cell? ⟨w.heap.size, 7, none⟩ = some (.int .i8 c.mode) := by rw [KC5.out.cell 7]; rfl
  go_upto_region 6 with fail
  refine Or.elim HK.out (fun hk => ?_) (fun hk => ?_)
  · clear HK
    have k2 : (c.kind == 2) = false := by have := hk.1; simp; omega
    have k3 : (c.kind == 3) = false := by have := hk.1; simp; omega
    have k4 : (c.kind == 4) = false := by have := hk.1; simp; omega
    have k5 : (c.kind == 5) = false := by have := hk.1; simp; omega
    have KN : Hid (moreC c = []) := Lib.hid (by have := hk.1; unfold moreC; rw [if_neg (by omega), if_neg (by omega), if_neg (by omega), if_neg (by omega)])
    clear hk
    have hst := run_str (B := _) c5 (Rd.of_own HO5.out)
    obtain ⟨X, hX⟩ : ∃ X : ByteArray, X = ⟨(bs).toArray⟩ := ⟨_, rfl⟩
    rw [← hX] at hst
    have HX := Lib.hid hX; clear hX
    go_wp2_with fail
    go_ret2
    have eX : X = ⟨(bytesC c).toArray⟩ := by rw [HX.out, HBS.out, bytes_more c _ KN.out, List.append_nil]
    rw [← eX]
    exact ⟨rfl, KW5.out⟩
  refine Or.elim hk (fun hk => ?_) (fun hk => ?_)
  · clear HK
    have ho := (only_iff c _ _ _ _).1 hk.2
    simp only [if_true, Bool.false_eq_true, if_false] at ho
    have sp := (span_iff c).1 ho.1
    have q0 : 0 ≤ c.lo := sp.1
    have q1 : c.lo ≤ 255 := by omega
    have q2 : 0 ≤ c.hi := by omega
    have q3 : c.hi ≤ 255 := by omega
    have q4 : 0 ≤ c.mode := by have := ho.2.1; omega
    have q5 : c.mode ≤ 127 := by have := ho.2.1; omega
    have k2 : (c.kind == 2) = true := by rw [hk.1]; rfl
    have kk : c.kind = 2 := hk.1
    have KN : Hid (moreC c = putL 1 [c.lo, c.hi, c.mode]) := Lib.hid (by unfold moreC; rw [if_pos kk])
    have HBM : Hid (cB (putL 1 [c.lo, c.hi, c.mode]) = [Value.int .u8 c.lo, Value.int .u8 c.hi, Value.int .u8 c.mode]) := Lib.hid (cells_bytes [c.lo, c.hi, c.mode] (by simp; omega))
    have RN := Lib.hid (row_one w5 [Value.int .u8 c.lo, Value.int .u8 c.hi, Value.int .u8 c.mode] 5)
    have BL : Hid (Below w.heap.size w (w5.alloc (Obj.cells [Value.int .u8 c.lo, Value.int .u8 c.hi, Value.int .u8 c.mode].toArray 5))) := Lib.hid (KW5.out.alloc KW5.out.size _)
    clear hk ho sp kk
    go_wp2_with (first
      | (at_builtin
         refine wpList_app_rd _ rfl (.tmp 32) (.tmp 44) 24 rfl W4.heap.size 5 i0 _ 1 Try.underlying24 hi hz0 hz1 hz2 rfl (.slice A5 n5 c5) n5 (cB bs) rfl (HO5.out.alloc _) _ _ 3 3 [Value.int .u8 c.lo, Value.int .u8 c.hi, Value.int .u8 c.mode] rfl RN.out (by intro u hu; simp at hu; rcases hu with rfl | rfl | rfl <;> rfl) (by have := HL5.out; unfold maxLen; omega) (by have := HL5.out; omega) (by have := HS5.out; simp; omega) _ (Below.refl _ _) ?_
         intro A6 c6 w6 hc6 ho6 hb6
         have ho7 : w6.ownsRow W4.heap.size 5 1 (.slice A6 (n5 + 3) c6) (n5 + 3) (cB (bs ++ putL 1 [c.lo, c.hi, c.mode])) := by
           have e : cB (bs ++ putL 1 [c.lo, c.hi, c.mode]) = cB bs ++ [Value.int .u8 c.lo, Value.int .u8 c.hi, Value.int .u8 c.mode] := by rw [← HBM.out]; simp [cB]
           rw [e]; exact ho6
         have hst := run_str c6 (Rd.of_own ho7)
         obtain ⟨X, hX⟩ : ∃ X : ByteArray, X = ⟨(bs ++ putL 1 [c.lo, c.hi, c.mode]).toArray⟩ := ⟨_, rfl⟩
         rw [← hX] at hst
         have HX := Lib.hid hX; have HB6 := Lib.hid hb6; clear hX ho6 ho7 hb6))
    go_ret2
    have eX : X = ⟨(bytesC c).toArray⟩ := by rw [HX.out, HBS.out, bytes_more c _ KN.out]
    rw [← eX]
    exact ⟨rfl, BL.out.trans (HB6.out.mono HS4.out)⟩
  refine Or.elim hk (fun hk => ?_) (fun hk => ?_)
  · clear HK
    have ho := (only_iff c _ _ _ _).1 hk.2
    simp only [if_true, Bool.false_eq_true, if_false] at ho
    have sp := (span_iff c).1 ho.1
    have q0 : 0 ≤ c.lo := sp.1
    have q1 : c.lo ≤ 255 := by omega
    have q2 : 0 ≤ c.hi := by omega
    have q3 : c.hi ≤ 255 := by omega
    have k2 : (c.kind == 2) = false := by rw [hk.1]; rfl
    have k3 : (c.kind == 3) = true := by rw [hk.1]; rfl
    have kk : c.kind = 3 := hk.1
    have KN : Hid (moreC c = putL 1 [c.lo, c.hi]) := Lib.hid (by unfold moreC; rw [if_neg (by omega), if_pos kk])
    have HBM : Hid (cB (putL 1 [c.lo, c.hi]) = [Value.int .u8 c.lo, Value.int .u8 c.hi]) := Lib.hid (cells_bytes [c.lo, c.hi] (by simp; omega))
    have RN := Lib.hid (row_one w5 [Value.int .u8 c.lo, Value.int .u8 c.hi] 5)
    have BL : Hid (Below w.heap.size w (w5.alloc (Obj.cells [Value.int .u8 c.lo, Value.int .u8 c.hi].toArray 5))) := Lib.hid (KW5.out.alloc KW5.out.size _)
    clear hk ho sp kk
    go_wp2_with (first
      | (at_builtin
         refine wpList_app_rd _ rfl (.tmp 48) (.tmp 57) 24 rfl W4.heap.size 5 i0 _ 1 Try.underlying24 hi hz0 hz1 hz2 rfl (.slice A5 n5 c5) n5 (cB bs) rfl (HO5.out.alloc _) _ _ 2 2 [Value.int .u8 c.lo, Value.int .u8 c.hi] rfl RN.out (by intro u hu; simp at hu; rcases hu with rfl | rfl <;> rfl) (by have := HL5.out; unfold maxLen; omega) (by have := HL5.out; omega) (by have := HS5.out; simp; omega) _ (Below.refl _ _) ?_
         intro A6 c6 w6 hc6 ho6 hb6
         have ho7 : w6.ownsRow W4.heap.size 5 1 (.slice A6 (n5 + 2) c6) (n5 + 2) (cB (bs ++ putL 1 [c.lo, c.hi])) := by
           have e : cB (bs ++ putL 1 [c.lo, c.hi]) = cB bs ++ [Value.int .u8 c.lo, Value.int .u8 c.hi] := by rw [← HBM.out]; simp [cB]
           rw [e]; exact ho6
         have hst := run_str c6 (Rd.of_own ho7)
         obtain ⟨X, hX⟩ : ∃ X : ByteArray, X = ⟨(bs ++ putL 1 [c.lo, c.hi]).toArray⟩ := ⟨_, rfl⟩
         rw [← hX] at hst
         have HX := Lib.hid hX; have HB6 := Lib.hid hb6; clear hX ho6 ho7 hb6))
    go_ret2
    have eX : X = ⟨(bytesC c).toArray⟩ := by rw [HX.out, HBS.out, bytes_more c _ KN.out]
    rw [← eX]
    exact ⟨rfl, BL.out.trans (HB6.out.mono HS4.out)⟩
  refine Or.elim hk (fun hk => ?_) (fun hk => ?_)
  · clear HK
    have ho := (only_iff c _ _ _ _).1 hk.2
    simp only [if_true, Bool.false_eq_true, if_false] at ho
    have sp := (key_iff _).1 ho.2.2.1
    have sw : 0 ≤ c.was ∧ c.was ≤ 1099511627776 := by
      rcases ho.2.2.2 with h | ⟨_, h⟩
      · omega
      · have := (key_iff _).1 h; omega
    have FM : Hid ([c.dead, c.was].all (fitsB · 6) = true) := Lib.hid (all_two 6 _ _ (fits6 _ (by omega) sp.2) (fits6 _ sw.1 sw.2))
    have k2 : (c.kind == 2) = false := by rw [hk.1]; rfl
    have k3 : (c.kind == 3) = false := by rw [hk.1]; rfl
    have k4 : (c.kind == 4) = true := by rw [hk.1]; rfl
    have kk : c.kind = 4 := hk.1
    have KN : Hid (moreC c = putL 6 [c.dead, c.was]) := Lib.hid (by unfold moreC; rw [if_neg (by omega), if_neg (by omega), if_pos kk])
    clear hk ho sp sw kk
    go_wp2_with fail
    have rb := row_one w5 [Value.int .i64 c.dead, Value.int .i64 c.was] 3
    have bel : Below w.heap.size w (w5.alloc (Obj.cells [Value.int .i64 c.dead, Value.int .i64 c.was].toArray 3)) := KW5.out.alloc KW5.out.size _
    have ra := ((Rd.of_own HO5.out).alloc (Nat.le_refl _) (Obj.cells [Value.int .i64 c.dead, Value.int .i64 c.was].toArray 3)).more (show w5.heap.size ≤ (w5.alloc (Obj.cells [Value.int .i64 c.dead, Value.int .i64 c.was].toArray 3)).heap.size by simp)
    obtain ⟨W6, hW6⟩ : ∃ W, W = (w5.alloc (Obj.cells #[Value.int .i64 c.dead, Value.int .i64 c.was] 3)) := ⟨_, rfl⟩
    have rb' : Rd W6 W6.heap.size (some ⟨w5.heap.size, 0, none⟩) 2 (cI [c.dead, c.was]) := by rw [hW6]; exact rb
    have ra' : Rd W6 W6.heap.size A5 n5 (cB bs) := by rw [hW6]; exact ra
    have bel' : Below w.heap.size w W6 := by rw [hW6]; exact bel
    rw [← hW6]
    refine (rput_ok 6 bs [c.dead, c.was] (by decide) (by decide) FM.out ra' rb' (by rw [HBS.out]; simp [length_putL]) (by simp)).mono ?_
    rintro e w7 ⟨A7, n7, c7, rfl, hn7, ho7, hb7⟩
    have hst := run_str c7 (Rd.of_own ho7)
    obtain ⟨X, hX⟩ : ∃ X : ByteArray, X = ⟨(bs ++ putL 6 [c.dead, c.was]).toArray⟩ := ⟨_, rfl⟩
    rw [← hX] at hst
    have HX := Lib.hid hX
    have KW7 : Hid (Below w.heap.size w w7) := Lib.hid (bel'.trans (hb7.mono bel'.size))
    clear rb ra bel rb' ra' bel' hW6 ho7 hb7 hX
    go_wp2_with fail
    go_ret2
    have eX : X = ⟨(bytesC c).toArray⟩ := by rw [HX.out, HBS.out, bytes_more c _ KN.out]
    rw [← eX]
    exact ⟨rfl, KW7.out⟩
  · clear HK
    have ho := (only_iff c _ _ _ _).1 hk.2
    simp only [if_true, Bool.false_eq_true, if_false] at ho
    have sp := (key_iff _).1 ho.2.2.1
    have FM : Hid ([c.dead].all (fitsB · 6) = true) := Lib.hid (all_one 6 _ (fits6 _ (by omega) sp.2))
    have k2 : (c.kind == 2) = false := by rw [hk.1]; rfl
    have k3 : (c.kind == 3) = false := by rw [hk.1]; rfl
    have k4 : (c.kind == 4) = false := by rw [hk.1]; rfl
    have k5 : (c.kind == 5) = true := by rw [hk.1]; rfl
    have kk : c.kind = 5 := hk.1
    have KN : Hid (moreC c = putL 6 [c.dead]) := Lib.hid (by unfold moreC; rw [if_neg (by omega), if_neg (by omega), if_neg (by omega), if_pos kk])
    clear hk ho sp kk
    go_wp2_with fail
    have rb := row_one w5 [Value.int .i64 c.dead] 3
    have bel : Below w.heap.size w (w5.alloc (Obj.cells [Value.int .i64 c.dead].toArray 3)) := KW5.out.alloc KW5.out.size _
    have ra := ((Rd.of_own HO5.out).alloc (Nat.le_refl _) (Obj.cells [Value.int .i64 c.dead].toArray 3)).more (show w5.heap.size ≤ (w5.alloc (Obj.cells [Value.int .i64 c.dead].toArray 3)).heap.size by simp)
    obtain ⟨W6, hW6⟩ : ∃ W, W = (w5.alloc (Obj.cells #[Value.int .i64 c.dead] 3)) := ⟨_, rfl⟩
    have rb' : Rd W6 W6.heap.size (some ⟨w5.heap.size, 0, none⟩) 1 (cI [c.dead]) := by rw [hW6]; exact rb
    have ra' : Rd W6 W6.heap.size A5 n5 (cB bs) := by rw [hW6]; exact ra
    have bel' : Below w.heap.size w W6 := by rw [hW6]; exact bel
    rw [← hW6]
    refine (rput_ok 6 bs [c.dead] (by decide) (by decide) FM.out ra' rb' (by rw [HBS.out]; simp [length_putL]) (by simp)).mono ?_
    rintro e w7 ⟨A7, n7, c7, rfl, hn7, ho7, hb7⟩
    have hst := run_str c7 (Rd.of_own ho7)
    obtain ⟨X, hX⟩ : ∃ X : ByteArray, X = ⟨(bs ++ putL 6 [c.dead]).toArray⟩ := ⟨_, rfl⟩
    rw [← hX] at hst
    have HX := Lib.hid hX
    have KW7 : Hid (Below w.heap.size w w7) := Lib.hid (bel'.trans (hb7.mono bel'.size))
    clear rb ra bel rb' ra' bel' hW6 ho7 hb7 hX
    go_wp2_with fail
    go_ret2
    have eX : X = ⟨(bytesC c).toArray⟩ := by rw [HX.out, HBS.out, bytes_more c _ KN.out]
    rw [← eX]
    exact ⟨rfl, KW7.out⟩

set_option maxHeartbeats 1000000 in
theorem rb_no (c : Cm) (w : World) (hm : Calls Try.prog 36 #[.agg (cC c)] (w.alloc (Obj.cells (cC c) 42)) fun e w2 => e = .returned (.bool false) ∧ Below (w.alloc (Obj.cells (cC c) 42)).heap.size (w.alloc (Obj.cells (cC c) 42)) w2) :
    Calls Try.prog 32 #[.agg (cC c)] w fun e w2 => e = .returned (.tuple #[.string ⟨#[]⟩, .int .i64 2]) ∧ Below w.heap.size w w2 := by
  have M1 := Lib.hid hm
  have KW : Hid (Below w.heap.size w (w.alloc (Obj.cells (cC c) 42))) := Lib.hid ((Below.refl _ _).alloc (Nat.le_refl _) _)
  clear hm
  simp only [cC] at M1 KW
  change Calls Try.prog 32 #[.agg #[Value.int IntKind.i8 c.kind, Value.int IntKind.i64 c.node, Value.int IntKind.i64 c.serial, Value.int IntKind.i64 c.dead, Value.int IntKind.i64 c.was, Value.int IntKind.i64 c.lo, Value.int IntKind.i64 c.hi, Value.int IntKind.i8 c.mode]] w _
  go_enter Try.func32, Try.ntmps32
  go_wp2_with fail
  refine M1.out.mono ?_
  rintro e w1 ⟨rfl, b1⟩
  go_wp2_with fail
  go_ret2
  exact ⟨rfl, KW.out.trans (b1.mono KW.out.size)⟩

end Go.Proofs.Ytnoojlgefpekiaa
