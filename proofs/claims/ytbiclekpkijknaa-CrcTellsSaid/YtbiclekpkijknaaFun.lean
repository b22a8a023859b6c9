/-
  Contracts of the exported functions of package crc: Add, Sum, Move, Back, Both.
-/
import Derived.Test.YtbiclekpkijknaaPut
namespace Go.Proofs.Ytbiclekpkijknaa
open Go.RowKit

/-- going on with a sum -/
def addB (x : BitVec 32) (l : List UInt8) : BitVec 32 := ~~~ (puts (~~~ x) l)

theorem Sm.blk {w : World} {g : Nat} {x : BitVec 32} (h : Sm w g x) : ∃ cs, Blk w g 44 cs ∧ cs[0]? = some (U x) := by
  obtain ⟨cs, hb, _, h0, _⟩ := h
  exact ⟨cs, hb, h0⟩

theorem add_any (A : Option Addr) (n c B : Nat) (l : List UInt8) (s : Int) (w : World) (hl : Rd w B A n (cB l)) (hB : B ≤ w.heap.size) (hn : n ≤ 1000000) :
    Calls Try.prog 11 #[.int .i64 s, .slice A n c] w fun e w' => e = .returned (.int .i64 ((addB (BitVec.ofInt 32 s) l).toNat : Int)) ∧ Below w.heap.size w w' := by
  go_enter Try.func11, Try.ntmps11
  go_wp2_with fail
  refine (begin_any s _).mono ?_
  rintro e w1 ⟨g, rfl, hg, hs, hb1⟩
  go_wp2_with fail
  refine (put_any g A n c B l _ w1 hs (hl.below (hb1.mono hB)) (by omega) hn).mono ?_
  rintro e w2 ⟨rfl, hs2, hg2⟩
  obtain ⟨cs, hbk, h0⟩ := hs2.blk
  have hw2 : Below w.heap.size w w2 := hb1.grown hg2 hb1.size (fun k hk => by injection hk with e; omega)
  have ht := turned_any g 44 cs _ _ hbk h0
  obtain ⟨V, hV⟩ : ∃ V, V = (~~~ (puts (~~~ BitVec.ofInt 32 s) l)).toNat := ⟨_, rfl⟩
  rw [← hV] at ht
  have HT := Lib.hid ht; have HV := Lib.hid hV
  clear hs2 hs hl hV ht hbk h0
  go_wp2_with fail
  refine HT.out.mono ?_
  rintro e w3 ⟨rfl, rfl⟩
  go_wp2
  go_ret
  refine ⟨?_, hw2⟩
  show Ending.returned (.int .i64 (V : Int)) = _
  rw [HV.out]; rfl

theorem sum_any (A : Option Addr) (n c B : Nat) (l : List UInt8) (w : World) (hl : Rd w B A n (cB l)) (hB : B ≤ w.heap.size) (hn : n ≤ 1000000) :
    Calls Try.prog 9 #[.slice A n c] w fun e w' => e = .returned (.int .i64 ((sumB l).toNat : Int)) ∧ Below w.heap.size w w' := by
  have h0 : addB (BitVec.ofInt 32 0) l = sumB l := rfl
  have ha := add_any A n c B l 0 w hl hB hn
  rw [h0] at ha
  have HA := Lib.hid ha; clear ha h0 hl
  go_enter Try.func9, Try.ntmps9
  go_wp2_with fail
  refine HA.out.mono ?_
  rintro e w1 ⟨rfl, hb⟩
  go_wp2
  go_ret
  exact ⟨rfl, hb⟩

set_option maxHeartbeats 400000 in
theorem cmove_any (x n : Int) (w : World) (hn2 : -9223372036854775808 ≤ n) (hn3 : n ≤ 9223372036854775807) :
    Calls Try.prog 13 #[.int .i64 x, .int .i64 n] w fun e w' => e = .returned (.int .i64 ((steps (8 * n.toNat) (BitVec.ofInt 32 x)).toNat : Int)) ∧ Below w.heap.size w w' := by
  have e0 : Value.int .u32 (x % 4294967296) = U (BitVec.ofInt 32 x) := by
    have e : x % 4294967296 = ((BitVec.ofInt 32 x).toNat : Int) := by rw [BitVec.toNat_ofInt]; omega
    rw [e]; rfl
  have hbk := Blk.new w 41 #[Value.int .u32 (x % 4294967296)]
  have hc := move_any w.heap.size 41 _ (BitVec.ofInt 32 x) n _ hbk (by rw [← e0]; rfl) hn2 hn3
  have HC := Lib.hid hc; clear hc hbk e0
  go_enter Try.func13, Try.ntmps13
  go_wp2_with fail
  refine HC.out.mono ?_
  rintro e w1 ⟨rfl, hb, hg⟩
  obtain ⟨V, hV⟩ : ∃ V, V = (steps (8 * n.toNat) (BitVec.ofInt 32 x)).toNat := ⟨_, rfl⟩
  have h0 : w1.cell? ⟨w.heap.size, 0, none⟩ = some (.int .u32 (V : Int)) := by rw [hb.cell 0, hV]; rfl
  have hVl : V < 4294967296 := by rw [hV]; exact BitVec.isLt _
  have HV := Lib.hid hV
  have hw1 : Below w.heap.size w w1 := ((Below.refl _ _).alloc (Nat.le_refl _) _).grown hg (by simp) (fun k hk => by injection hk with e; omega)
  clear hb hg hV
  go_wp2
  go_ret
  refine ⟨?_, hw1⟩
  show Ending.returned (.int .i64 (V : Int)) = _
  rw [HV.out]

set_option maxHeartbeats 400000 in
theorem cback_any (x n : Int) (w : World) (hn2 : -9223372036854775808 ≤ n) (hn3 : n ≤ 9223372036854775807) :
    Calls Try.prog 14 #[.int .i64 x, .int .i64 n] w fun e w' => e = .returned (.int .i64 ((bsteps (8 * n.toNat) (BitVec.ofInt 32 x)).toNat : Int)) ∧ Below w.heap.size w w' := by
  have e0 : Value.int .u32 (x % 4294967296) = U (BitVec.ofInt 32 x) := by
    have e : x % 4294967296 = ((BitVec.ofInt 32 x).toNat : Int) := by rw [BitVec.toNat_ofInt]; omega
    rw [e]; rfl
  have hbk := Blk.new w 41 #[Value.int .u32 (x % 4294967296)]
  have hc := back_any w.heap.size 41 _ (BitVec.ofInt 32 x) n _ hbk (by rw [← e0]; rfl) hn2 hn3
  have HC := Lib.hid hc; clear hc hbk e0
  go_enter Try.func14, Try.ntmps14
  go_wp2_with fail
  refine HC.out.mono ?_
  rintro e w1 ⟨rfl, hb, hg⟩
  obtain ⟨V, hV⟩ : ∃ V, V = (bsteps (8 * n.toNat) (BitVec.ofInt 32 x)).toNat := ⟨_, rfl⟩
  have h0 : w1.cell? ⟨w.heap.size, 0, none⟩ = some (.int .u32 (V : Int)) := by rw [hb.cell 0, hV]; rfl
  have hVl : V < 4294967296 := by rw [hV]; exact BitVec.isLt _
  have HV := Lib.hid hV
  have hw1 : Below w.heap.size w w1 := ((Below.refl _ _).alloc (Nat.le_refl _) _).grown hg (by simp) (fun k hk => by injection hk with e; omega)
  clear hb hg hV
  go_wp2
  go_ret
  refine ⟨?_, hw1⟩
  show Ending.returned (.int .i64 (V : Int)) = _
  rw [HV.out]

theorem xor_nat64 (a b : Nat) (ha : a < 9223372036854775808) (hb : b < 9223372036854775808) : bits .xor .i64 (a : Int) (b : Int) = ((a ^^^ b : Nat) : Int) := by
  have hx : a ^^^ b < 2 ^ 63 := Nat.xor_lt_two_pow (by omega) (by omega)
  show IntKind.i64.wrap ((BitVec.ofInt 64 (a : Int) ^^^ BitVec.ofInt 64 (b : Int)).toNat : Int) = _
  rw [BitVec.toNat_xor, ofInt_nat64 a ha, ofInt_nat64 b hb, IntKind.wrap_i64]
  omega
theorem xor_words (x y : BitVec 32) : bits .xor .i64 (x.toNat : Int) (y.toNat : Int) = ((x ^^^ y).toNat : Int) := by
  have := x.isLt; have := y.isLt
  rw [xor_nat64 _ _ (by omega) (by omega), BitVec.toNat_xor]
theorem ofInt_mod (s : Int) : s % 4294967296 = ((BitVec.ofInt 32 s).toNat : Int) := by rw [BitVec.toNat_ofInt]; omega

theorem both_any (a b n : Int) (w : World) (hn2 : -9223372036854775808 ≤ n) (hn3 : n ≤ 9223372036854775807) :
    Calls Try.prog 10 #[.int .i64 a, .int .i64 b, .int .i64 n] w fun e w' => e = .returned (.int .i64 ((steps (8 * n.toNat) (BitVec.ofInt 32 a) ^^^ BitVec.ofInt 32 b).toNat : Int)) ∧ Below w.heap.size w w' := by
  have hc := cmove_any a n w hn2 hn3
  obtain ⟨V, hV⟩ : ∃ V, V = (steps (8 * n.toNat) (BitVec.ofInt 32 a)).toNat := ⟨_, rfl⟩
  rw [← hV] at hc
  have HV := Lib.hid hV; have HC := Lib.hid hc; clear hV hc
  go_enter Try.func10, Try.ntmps10
  go_wp2_with fail
  refine HC.out.mono ?_
  rintro e w1 ⟨rfl, hb⟩
  go_wp2
  go_ret
  refine ⟨?_, hb⟩
  show Ending.returned (.int .i64 (bits BinOp.xor IntKind.i64 (V : Int) (b % 4294967296))) = _
  rw [HV.out, ofInt_mod, xor_words]

/-- the four bytes of a word, the lowest first -/
def bytes4 (x : BitVec 32) : List UInt8 := [UInt8.ofNat x.toNat, UInt8.ofNat (x.toNat / 256), UInt8.ofNat (x.toNat / 65536), UInt8.ofNat (x.toNat / 16777216)]

theorem u8_cell (v : Nat) : ((UInt8.ofNat v).toNat : Int) = (v : Int) % 256 := by
  simp only [UInt8.toNat_ofNat']
  omega

/-- what makes a sum -/
def closeB (l : List UInt8) (want : BitVec 32) : BitVec 32 := bsteps 32 (~~~ want) ^^^ puts (~~~ 0#32) l

set_option maxHeartbeats 400000 in
theorem close_any (A : Option Addr) (n c B : Nat) (l : List UInt8) (s : Int) (w : World) (hl : Rd w B A n (cB l)) (hB : B ≤ w.heap.size) (hn : n ≤ 1000000) :
    Calls Try.prog 12 #[.slice A n c, .int .i64 s] w fun e w' => ∃ A', e = .returned (.slice A' 4 4) ∧ Rd w' w'.heap.size A' 4 (cB (bytes4 (closeB l (BitVec.ofInt 32 s)))) ∧ Below w.heap.size w w' := by
  go_enter Try.func12, Try.ntmps12
  go_wp2_with fail
  refine (begin_any s _).mono ?_
  rintro e w1 ⟨g, rfl, hg, hs, hb1⟩
  obtain ⟨cs, hbk, h0⟩ := hs.blk
  go_wp2_with fail
  refine (back_any g 44 cs _ 4 w1 hbk h0 (by omega) (by omega)).mono ?_
  rintro e w2 ⟨rfl, hbk2, hg2⟩
  have hw2 : Below w.heap.size w w2 := hb1.grown hg2 hb1.size (fun k hk => by injection hk with e; omega)
  have hlg := hs.lt
  obtain ⟨v, hv⟩ : ∃ v, v = (bsteps 32 (~~~ BitVec.ofInt 32 s)).toNat := ⟨_, rfl⟩
  have c0 : w2.cell? ⟨g, 0, none⟩ = some (.int .u32 (v : Int)) := by
    have hsz : 0 < cs.size := (Array.getElem?_eq_some_iff.1 h0).1
    rw [hbk2.cell 0, Array.getElem?_setIfInBounds_self_of_lt hsz, hv]; rfl
  have hvl : v < 4294967296 := by rw [hv]; exact BitVec.isLt _
  have hl2 := hl.below (hw2.mono hB)
  have HV := Lib.hid hv
  clear hbk hbk2 hs hg2 hv h0
  go_wp2_with fail
  refine (begin_any 0 _).mono ?_
  rintro e w3 ⟨g3, rfl, hg3, hs3, hb3⟩
  have hw3 : Below w.heap.size w w3 := hw2.trans (hb3.mono hw2.size)
  go_wp2_with fail
  refine (put_any g3 A n c B l _ w3 hs3 (hl2.below (hb3.mono (Nat.le_trans hB hw2.size))) (Nat.le_trans hB (Nat.le_trans hw2.size hg3)) hn).mono ?_
  rintro e w4 ⟨rfl, hs4, hg4⟩
  have hw4 : Below w.heap.size w w4 := hw3.grown hg4 hw3.size (fun k hk => by injection hk with e; have := hw2.size; omega)
  obtain ⟨u, hu⟩ : ∃ u, u = (puts (~~~ BitVec.ofInt 32 0) l).toNat := ⟨_, rfl⟩
  have c4 := hs4.cell0
  rw [← hu] at c4
  have hul : u < 4294967296 := by rw [hu]; exact BitVec.isLt _
  obtain ⟨z, hz⟩ : ∃ z, z = (closeB l (BitVec.ofInt 32 s)).toNat := ⟨_, rfl⟩
  have hzl : z < 4294967296 := by rw [hz]; exact BitVec.isLt _
  have hx : bits BinOp.xor IntKind.u32 (v : Int) (u : Int) = (z : Int) := by rw [HV.out, hu, xor_u32, hz]; rfl
  have HU := Lib.hid hu; have HZ := Lib.hid hz
  clear hs4 hs3 hl2 hl c0 hu hz hg4
  go_wp2
  go_ret
  refine ⟨_, rfl, ?_, hw4.alloc hw4.size _⟩
  have hr := Rd.new w4 5 [Value.int .u8 ((z : Int) % 256), Value.int .u8 ((z : Int) / 256 % 256), Value.int .u8 ((z : Int) / 65536 % 256), Value.int .u8 ((z : Int) / 16777216)]
  have e : cB (bytes4 (closeB l (BitVec.ofInt 32 s))) = [Value.int .u8 ((z : Int) % 256), Value.int .u8 ((z : Int) / 256 % 256), Value.int .u8 ((z : Int) / 65536 % 256), Value.int .u8 ((z : Int) / 16777216)] := by
    simp only [cB, bytes4, List.map_cons, List.map_nil, u8_cell, ← HZ.out]
    have e1 : ((z / 16777216 : Nat) : Int) % 256 = (z : Int) / 16777216 := by omega
    have e2 : ((z / 256 : Nat) : Int) % 256 = (z : Int) / 256 % 256 := by omega
    have e3 : ((z / 65536 : Nat) : Int) % 256 = (z : Int) / 65536 % 256 := by omega
    rw [e1, e2, e3]
  rw [e]
  simpa using hr

end Go.Proofs.Ytbiclekpkijknaa
