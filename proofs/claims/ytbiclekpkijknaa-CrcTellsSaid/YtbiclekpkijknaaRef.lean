/-
  Contracts of the reference's functions on sums.
-/
import Derived.Test.YtbiclekpkijknaaBackLaw
namespace Go.Proofs.Ytbiclekpkijknaa
open Go.RowKit

theorem half_nat (x : BitVec 32) : (x.toNat : Int) / (2 : Int) = ((x >>> 1).toNat : Int) := half_u32 x

/-- one step of the reference -/
theorem rstep_any (x : BitVec 32) (w : World) : Calls Try.prog 26 #[.int .i64 (x.toNat : Int)] w fun e w' => e = .returned (.int .i64 ((step x).toNat : Int)) ∧ w = w' := by
  obtain ⟨v, hv⟩ : ∃ v, v = x.toNat := ⟨_, rfl⟩
  have bv : (v : Int) < 4294967296 := by have := x.isLt; omega
  have e1 : bits BinOp.and IntKind.i64 (v : Int) 1 = if x.getLsbD 0 then 1 else 0 := by
    have h : bits BinOp.and IntKind.i64 (x.toNat : Int) ((1#32 : BitVec 32).toNat : Int) = ((x &&& 1#32).toNat : Int) := by
      rw [and_nat64 _ _ (by have := x.isLt; omega) (by decide), BitVec.toNat_and]
    rw [show (((1#32 : BitVec 32).toNat : Nat) : Int) = 1 from rfl] at h
    rw [hv, h, and_one]
    cases x.getLsbD 0 <;> rfl
  have hx : ∀ y : BitVec 32, y = x >>> 1 → bits BinOp.xor IntKind.i64 ((v : Int) / 2) 2197175160 = ((y ^^^ poly).toNat : Int) := by
    intro y hy
    rw [hv, half_u32, ← hy]
    exact xor_words y poly
  cases hb : x.getLsbD 0
  · have e2 : bits BinOp.and IntKind.i64 (v : Int) 1 = 0 := by rw [e1, hb]; rfl
    have es : ((step x).toNat : Int) = (v : Int) / 2 := by
      rw [step_even x hb, hv, half_u32]
    rw [← hv, es]
    clear e1 hx es hv
    go_enter Try.func26, Try.ntmps26
    go_wp2
    go_ret
    exact ⟨rfl, rfl⟩
  · have e2 : bits BinOp.and IntKind.i64 (v : Int) 1 = 1 := by rw [e1, hb]; rfl
    have es : ((step x).toNat : Int) = bits BinOp.xor IntKind.i64 ((v : Int) / 2) 2197175160 := by
      rw [hx (x >>> 1) rfl]
      unfold step
      rw [hb]; rfl
    rw [← hv, es]
    clear e1 hx es hv
    go_enter Try.func26, Try.ntmps26
    go_wp2
    go_ret
    exact ⟨rfl, rfl⟩

set_option maxHeartbeats 400000 in
theorem rmove_any (x n : Int) (w : World) (hn3 : n ≤ 1000000) :
    Calls Try.prog 17 #[.int .i64 x, .int .i64 n] w fun e w' => e = .returned (.int .i64 ((steps (8 * n.toNat) (BitVec.ofInt 32 x)).toNat : Int)) ∧ w = w' := by
  obtain ⟨X, hX⟩ : ∃ X, X = BitVec.ofInt 32 x := ⟨_, rfl⟩
  obtain ⟨V, hV⟩ : ∃ V, V = X.toNat := ⟨_, rfl⟩
  have hm : bits BinOp.and IntKind.i64 x 4294967295 = (V : Int) := by rw [mask_i64, hV, hX]
  rw [← hX]
  have HV := Lib.hid hV; clear hX hV
  go_enter Try.func17, Try.ntmps17
  go_wp2
  go_loop [0, 5] (fun y i => ∃ (k v : Nat), i = .int .i64 k ∧ (k : Int) ≤ 1000000 ∧ Hid (k ≤ n.toNat) ∧ y = .int .i64 v ∧ Hid (v = (steps (8 * k) X).toNat)) (fun _ i => (n - intOf i).toNat)
  case atStart => exact ⟨0, V, rfl, by omega, by simp [Hid], rfl, by
    show V = _
    rw [HV.out]; rfl⟩
  case round =>
    obtain ⟨k, v, rfl, hk1, HK, rfl, HW⟩ := hrel
    by_cases hkn : (k : Int) < n
    · go_wp2
      go_loop [0, 6] (fun y j => ∃ (q v2 : Nat), q ≤ 8 ∧ j = .int .i64 q ∧ y = .int .i64 v2 ∧ Hid (v2 = (steps (8 * k + q) X).toNat)) (fun _ j => 8 - (intOf j).toNat)
      case atStart => exact ⟨0, v, by omega, rfl, rfl, HW.out⟩
      case round =>
        obtain ⟨q, v2, hq, rfl, rfl, HV2⟩ := hrel
        by_cases hq8 : q < 8
        · have hs := rstep_any (steps (8 * k + q) X) w
          rw [← HV2.out, ← steps_succ] at hs
          obtain ⟨v3, hv3⟩ : ∃ v3, v3 = (steps (8 * k + q + 1) X).toNat := ⟨_, rfl⟩
          rw [← hv3] at hs
          have HS := Lib.hid hs; have HV3 := Lib.hid hv3; clear hs hv3
          go_wp2_with (first | (go_at_call 26; refine HS.out.mono ?_; rintro e w' ⟨rfl, rfl⟩))
          go_round
          case rel => exact ⟨q + 1, v3, by omega, by go_num, rfl, HV3.out⟩
          case measure => simp [intOf]; omega
        · have hq' : q = 8 := by omega
          have HQ := Lib.hid hq'; clear hq'
          go_wp2
          go_round
          case rel =>
            refine ⟨k + 1, v2, by go_num, by omega, ?_, rfl, ?_⟩
            · show k + 1 ≤ n.toNat
              omega
            · show v2 = _
              rw [HV2.out, HQ.out, Nat.mul_succ]
          case measure => simp [intOf]; omega
    · have hke : k = n.toNat := by have := HK.out; omega
      have HE := Lib.hid hke; clear hke
      go_wp2
      go_ret
      refine ⟨?_, rfl⟩
      show Ending.returned (.int .i64 (v : Int)) = _
      rw [HW.out, HE.out]

theorem bstep_no (x : BitVec 32) (h : x.getLsbD 31 = false) : (bstep x).toNat = x.toNat * 2 ∧ x.toNat < 2147483648 := by
  have ht := top_u32 x
  rw [h] at ht
  have hlt : x.toNat < 2147483648 := by
    have := x.isLt
    simp at ht
    omega
  refine ⟨?_, hlt⟩
  unfold bstep
  rw [h, if_neg (by decide), BitVec.toNat_shiftLeft, Nat.shiftLeft_eq]
  omega

theorem bstep_yes (x : BitVec 32) (h : x.getLsbD 31 = true) : ∃ u : Nat, u < 2147483648 ∧ bits BinOp.xor IntKind.i64 (x.toNat : Int) 2197175160 = (u : Int) ∧ bits BinOp.or IntKind.i64 ((u : Int) * 2) 1 = ((bstep x).toNat : Int) := by
  have hp := xor_words x poly
  have hb : (x ^^^ poly).getLsbD 31 = false := by rw [BitVec.getLsbD_xor, h, poly_top]; rfl
  have ht := top_u32 (x ^^^ poly)
  rw [hb] at ht
  have hlt : (x ^^^ poly).toNat < 2147483648 := by
    have := (x ^^^ poly).isLt
    simp only [Bool.false_eq_true, if_false] at ht
    omega
  refine ⟨(x ^^^ poly).toNat, hlt, hp, ?_⟩
  rw [show (((x ^^^ poly).toNat : Int) * 2) = (((x ^^^ poly).toNat * 2 : Nat) : Int) from by omega, show (1 : Int) = ((1 : Nat) : Int) from rfl, or_nat64 _ _ (by omega) (by omega)]
  unfold bstep
  rw [h, if_pos rfl, BitVec.toNat_or, BitVec.toNat_shiftLeft, Nat.shiftLeft_eq]
  have e : (x ^^^ poly).toNat * 2 ^ 1 % 2 ^ 32 = (x ^^^ poly).toNat * 2 := by omega
  rw [e]
  rfl

set_option maxHeartbeats 400000 in
theorem rback_any (x n : Int) (w : World) (hn3 : n ≤ 1000000) :
    Calls Try.prog 18 #[.int .i64 x, .int .i64 n] w fun e w' => e = .returned (.int .i64 ((bsteps (8 * n.toNat) (BitVec.ofInt 32 x)).toNat : Int)) ∧ w = w' := by
  obtain ⟨X, hX⟩ : ∃ X, X = BitVec.ofInt 32 x := ⟨_, rfl⟩
  obtain ⟨V, hV⟩ : ∃ V, V = X.toNat := ⟨_, rfl⟩
  have hm : bits BinOp.and IntKind.i64 x 4294967295 = (V : Int) := by rw [mask_i64, hV, hX]
  rw [← hX]
  have HV := Lib.hid hV; clear hX hV
  go_enter Try.func18, Try.ntmps18
  go_wp2
  go_loop [0, 5] (fun y i => ∃ (k v : Nat), i = .int .i64 k ∧ (k : Int) ≤ 1000000 ∧ Hid (k ≤ n.toNat) ∧ y = .int .i64 v ∧ Hid (v = (bsteps (8 * k) X).toNat)) (fun _ i => (n - intOf i).toNat)
  case atStart => exact ⟨0, V, rfl, by omega, by simp [Hid], rfl, by
    show V = _
    rw [HV.out]; rfl⟩
  case round =>
    obtain ⟨k, v, rfl, hk1, HK, rfl, HW⟩ := hrel
    by_cases hkn : (k : Int) < n
    · go_wp2
      go_loop [0, 6] (fun y j => ∃ (q v2 : Nat), q ≤ 8 ∧ j = .int .i64 q ∧ y = .int .i64 v2 ∧ Hid (v2 = (bsteps (8 * k + q) X).toNat)) (fun _ j => 8 - (intOf j).toNat)
      case atStart => exact ⟨0, v, by omega, rfl, rfl, HW.out⟩
      case round =>
        obtain ⟨q, v2, hq, rfl, rfl, HV2⟩ := hrel
        by_cases hq8 : q < 8
        · obtain ⟨y, hy⟩ : ∃ y, y = bsteps (8 * k + q) X := ⟨_, rfl⟩
          have hv2 : v2 = y.toNat := by rw [HV2.out, hy]
          have hn : bsteps (8 * k + (q + 1)) X = bstep y := by rw [hy, ← Nat.add_assoc, bsteps_succ]
          have HN := Lib.hid hn; clear hn hy
          have ht := top_u32 y
          rw [← hv2] at ht
          cases hb : y.getLsbD 31
          · obtain ⟨b1, b2⟩ := bstep_no y hb
            rw [← hv2] at b1 b2
            have t1 : ((v2 : Int) / 2147483648 == 1) = false := by rw [ht, hb]; rfl
            have HB := Lib.hid b1
            clear ht hv2 hb b1
            go_wp2
            go_round
            case rel =>
              refine ⟨q + 1, v2 * 2, by omega, by go_num, by go_num, ?_⟩
              show v2 * 2 = _
              rw [HN.out, HB.out]
            case measure => simp [intOf]; omega
          · obtain ⟨u, b1, b2, b3⟩ := bstep_yes y hb
            rw [← hv2] at b2
            have t1 : ((v2 : Int) / 2147483648 == 1) = true := by rw [ht, hb]; rfl
            obtain ⟨z, hz⟩ : ∃ z, z = (bstep y).toNat := ⟨_, rfl⟩
            rw [← hz] at b3
            have HZ := Lib.hid hz
            clear ht hv2 hb hz
            go_wp2
            go_round
            case rel =>
              refine ⟨q + 1, z, by omega, by go_num, rfl, ?_⟩
              show z = _
              rw [HN.out, HZ.out]
            case measure => simp [intOf]; omega
        · have hq' : q = 8 := by omega
          have HQ := Lib.hid hq'; clear hq'
          go_wp2
          go_round
          case rel =>
            refine ⟨k + 1, v2, by go_num, by omega, ?_, rfl, ?_⟩
            · show k + 1 ≤ n.toNat
              omega
            · show v2 = _
              rw [HV2.out, HQ.out, Nat.mul_succ]
          case measure => simp [intOf]; omega
    · have hke : k = n.toNat := by have := HK.out; omega
      have HE := Lib.hid hke; clear hke
      go_wp2
      go_ret
      refine ⟨?_, rfl⟩
      show Ending.returned (.int .i64 (v : Int)) = _
      rw [HW.out, HE.out]

theorem not_i64 (x : BitVec 32) : bits BinOp.xor IntKind.i64 (x.toNat : Int) 4294967295 = ((~~~ x).toNat : Int) := by
  have h := xor_words x (BitVec.allOnes 32)
  rw [show (((BitVec.allOnes 32 : BitVec 32).toNat : Nat) : Int) = 4294967295 from rfl] at h
  rw [h, BitVec.xor_allOnes]

set_option maxHeartbeats 400000 in
theorem radd_any (A : Option Addr) (n c B : Nat) (l : List UInt8) (s : Int) (w : World) (hl : Rd w B A n (cB l)) (hn : n ≤ 1000000) :
    Calls Try.prog 16 #[.int .i64 s, .slice A n c] w fun e w' => e = .returned (.int .i64 ((addB (BitVec.ofInt 32 s) l).toNat : Int)) ∧ w = w' := by
  obtain ⟨X, hX⟩ : ∃ X, X = BitVec.ofInt 32 s := ⟨_, rfl⟩
  obtain ⟨V, hV⟩ : ∃ V, V = X.toNat := ⟨_, rfl⟩
  obtain ⟨U1, hU1⟩ : ∃ U1, U1 = (~~~ X).toNat := ⟨_, rfl⟩
  have hm : bits BinOp.and IntKind.i64 s 4294967295 = (V : Int) := by rw [mask_i64, hV, hX]
  have hm2 : bits BinOp.xor IntKind.i64 (V : Int) 4294967295 = (U1 : Int) := by rw [hV, not_i64, hU1]
  rw [← hX]
  have HU1 := Lib.hid hU1; clear hX hV hU1
  go_enter Try.func16, Try.ntmps16
  go_wp2
  go_loop [5, 6] (fun y i => ∃ (k v : Nat), k ≤ n ∧ i = .int .i64 k ∧ y = .int .i64 v ∧ Hid (v = (puts (~~~ X) (l.take k)).toNat)) (fun _ i => n - (intOf i).toNat)
  case atStart => exact ⟨0, U1, Nat.zero_le _, rfl, rfl, HU1.out⟩
  case round =>
    obtain ⟨k, v, hk, rfl, rfl, HW⟩ := hrel
    clear hm hm2
    by_cases hkn : k < n
    · obtain ⟨ad, u, rfl, had, hu, hc⟩ := hl.at_ hkn
      simp only [cB, List.getElem?_map] at hu
      obtain ⟨b, hb, rfl⟩ := Option.map_eq_some_iff.1 hu
      obtain ⟨y, hy⟩ : ∃ y, y = puts (~~~ X) (l.take k) := ⟨_, rfl⟩
      obtain ⟨bn, hbn⟩ : ∃ bn, bn = b.toNat := ⟨_, rfl⟩
      have g1 : bn < 256 := by rw [hbn]; exact b.toNat_lt
      rw [← hbn] at hc
      obtain ⟨z, hz⟩ : ∃ z, z = (y ^^^ wB b).toNat := ⟨_, rfl⟩
      have e1 : bits BinOp.xor IntKind.i64 (v : Int) (bn : Int) = (z : Int) := by
        rw [HW.out, ← hy, hbn, hz]
        have e : (b.toNat : Int) = ((wB b).toNat : Int) := by
          have := b.toNat_lt
          unfold wB
          rw [BitVec.toNat_ofNat, Nat.mod_eq_of_lt (by omega)]
        rw [e, xor_words]
      have hmv := rmove_any (z : Int) 1 w (by decide)
      obtain ⟨q, hq⟩ : ∃ q, q = (puts (~~~ X) (l.take (k + 1))).toNat := ⟨_, rfl⟩
      have e2 : steps (8 * (1 : Int).toNat) (BitVec.ofInt 32 (z : Int)) = puts (~~~ X) (l.take (k + 1)) := by
        rw [hz, ofInt_u32, List.take_add_one, hb, puts_append, ← hy]; rfl
      rw [e2, ← hq] at hmv
      have HM := Lib.hid hmv; have HQ := Lib.hid hq
      clear hl hu hb hy hbn hz hmv e2 hq
      go_wp2_with (first | (go_at_call 17; refine HM.out.mono ?_; rintro e w' ⟨rfl, rfl⟩))
      go_round
      case rel => exact ⟨k + 1, q, by omega, by go_num, rfl, HQ.out⟩
      case measure => simp [intOf]; omega
    · have e : l.take k = l := List.take_of_length_le (by have := hl.1; simp [cB] at this; omega)
      have hv : v = (puts (~~~ X) l).toNat := by rw [HW.out, e]
      have e1 : bits BinOp.xor IntKind.i64 (v : Int) 4294967295 = ((addB X l).toNat : Int) := by rw [hv, not_i64]; rfl
      obtain ⟨q, hq⟩ : ∃ q, q = (addB X l).toNat := ⟨_, rfl⟩
      rw [← hq] at e1
      have HQ := Lib.hid hq
      clear hl e hv hq
      go_wp2
      go_ret
      refine ⟨?_, rfl⟩
      show Ending.returned (.int .i64 (q : Int)) = _
      rw [HQ.out]

theorem rsum_any (A : Option Addr) (n c B : Nat) (l : List UInt8) (w : World) (hl : Rd w B A n (cB l)) (hn : n ≤ 1000000) :
    Calls Try.prog 15 #[.slice A n c] w fun e w' => e = .returned (.int .i64 ((sumB l).toNat : Int)) ∧ w = w' := by
  have h0 : addB (BitVec.ofInt 32 0) l = sumB l := rfl
  have ha := radd_any A n c B l 0 w hl hn
  rw [h0] at ha
  have HA := Lib.hid ha; clear ha h0 hl
  go_enter Try.func15, Try.ntmps15
  go_wp2_with fail
  refine HA.out.mono ?_
  rintro e w1 ⟨rfl, rfl⟩
  go_wp2
  go_ret
  exact ⟨rfl, rfl⟩

theorem rboth_any (a b n : Int) (w : World) (hn3 : n ≤ 1000000) :
    Calls Try.prog 19 #[.int .i64 a, .int .i64 b, .int .i64 n] w fun e w' => e = .returned (.int .i64 ((steps (8 * n.toNat) (BitVec.ofInt 32 a) ^^^ BitVec.ofInt 32 b).toNat : Int)) ∧ w = w' := by
  have hc := rmove_any a n w hn3
  obtain ⟨V, hV⟩ : ∃ V, V = (steps (8 * n.toNat) (BitVec.ofInt 32 a)).toNat := ⟨_, rfl⟩
  obtain ⟨Vb, hVb⟩ : ∃ Vb, Vb = (BitVec.ofInt 32 b).toNat := ⟨_, rfl⟩
  obtain ⟨Z, hZ⟩ : ∃ Z, Z = (steps (8 * n.toNat) (BitVec.ofInt 32 a) ^^^ BitVec.ofInt 32 b).toNat := ⟨_, rfl⟩
  have e1 : bits BinOp.and IntKind.i64 b 4294967295 = (Vb : Int) := by rw [mask_i64, hVb]
  have e2 : bits BinOp.xor IntKind.i64 (V : Int) (Vb : Int) = (Z : Int) := by rw [hV, hVb, hZ, xor_words]
  rw [← hV] at hc
  rw [← hZ]
  have HC := Lib.hid hc; clear hV hc hVb hZ
  go_enter Try.func19, Try.ntmps19
  go_wp2_with fail
  refine HC.out.mono ?_
  rintro e w1 ⟨rfl, rfl⟩
  go_wp2
  go_ret
  exact ⟨rfl, rfl⟩

set_option maxHeartbeats 400000 in
theorem rclose_any (A : Option Addr) (n c B : Nat) (l : List UInt8) (s : Int) (w : World) (hl : Rd w B A n (cB l)) (hn : n ≤ 1000000) :
    Calls Try.prog 20 #[.slice A n c, .int .i64 s] w fun e w' => ∃ A', e = .returned (.slice A' 4 4) ∧ Rd w' w'.heap.size A' 4 (cB (bytes4 (closeB l (BitVec.ofInt 32 s)))) ∧ Below w.heap.size w w' := by
  obtain ⟨S, hS⟩ : ∃ S, S = BitVec.ofInt 32 s := ⟨_, rfl⟩
  obtain ⟨V1, hV1⟩ : ∃ V, V = (sumB l).toNat := ⟨_, rfl⟩
  obtain ⟨V2, hV2⟩ : ∃ V, V = (~~~ sumB l).toNat := ⟨_, rfl⟩
  obtain ⟨V3, hV3⟩ : ∃ V, V = S.toNat := ⟨_, rfl⟩
  obtain ⟨V4, hV4⟩ : ∃ V, V = (~~~ S).toNat := ⟨_, rfl⟩
  obtain ⟨V5, hV5⟩ : ∃ V, V = (bsteps 32 (~~~ S)).toNat := ⟨_, rfl⟩
  obtain ⟨z, hz⟩ : ∃ z, z = (closeB l S).toNat := ⟨_, rfl⟩
  have hzl : (z : Int) < 4294967296 := by have := (closeB l S).isLt; omega
  have h1 := rsum_any A n c B l w hl hn
  rw [← hV1] at h1
  have e2 : bits BinOp.xor IntKind.i64 (V1 : Int) 4294967295 = (V2 : Int) := by rw [hV1, not_i64, hV2]
  have e3 : bits BinOp.and IntKind.i64 s 4294967295 = (V3 : Int) := by rw [mask_i64, hV3, hS]
  have e4 : bits BinOp.xor IntKind.i64 (V3 : Int) 4294967295 = (V4 : Int) := by rw [hV3, not_i64, hV4]
  have h5 := rback_any (V4 : Int) 4 w (by decide)
  rw [hV4, ofInt_u32, ← hV4, show 8 * (4 : Int).toNat = 32 from rfl, ← hV5] at h5
  have e6 : bits BinOp.xor IntKind.i64 (V2 : Int) (V5 : Int) = (z : Int) := by
    have e : ~~~ sumB l ^^^ bsteps 32 (~~~ S) = closeB l S := by
      unfold closeB sumB
      rw [BitVec.not_not, BitVec.xor_comm]
    rw [hV2, hV5, xor_words, e, hz]
  rw [← hS]
  have H1 := Lib.hid h1; have H5 := Lib.hid h5; have HZ := Lib.hid hz
  clear h1 h5 hS hV1 hV2 hV3 hV4 hV5 hz hl
  go_enter Try.func20, Try.ntmps20
  go_wp2_with fail
  refine H1.out.mono ?_
  rintro e w1 ⟨rfl, rfl⟩
  go_wp2_with fail
  refine H5.out.mono ?_
  rintro e w2 ⟨rfl, rfl⟩
  go_wp2
  go_ret
  refine ⟨_, rfl, ?_, (Below.refl _ _).alloc (Nat.le_refl _) _⟩
  have hr := Rd.new w 5 [Value.int .u8 ((z : Int) % 256), Value.int .u8 ((z : Int) / 256 % 256), Value.int .u8 ((z : Int) / 65536 % 256), Value.int .u8 ((z : Int) / 16777216)]
  have e : cB (bytes4 (closeB l S)) = [Value.int .u8 ((z : Int) % 256), Value.int .u8 ((z : Int) / 256 % 256), Value.int .u8 ((z : Int) / 65536 % 256), Value.int .u8 ((z : Int) / 16777216)] := by
    simp only [cB, bytes4, List.map_cons, List.map_nil, u8_cell, ← HZ.out]
    have e1 : ((z / 16777216 : Nat) : Int) % 256 = (z : Int) / 16777216 := by omega
    have e2 : ((z / 256 : Nat) : Int) % 256 = (z : Int) / 256 % 256 := by omega
    have e3 : ((z / 65536 : Nat) : Int) % 256 = (z : Int) / 65536 % 256 := by omega
    rw [e1, e2, e3]
  rw [e]
  simpa using hr

end Go.Proofs.Ytbiclekpkijknaa
