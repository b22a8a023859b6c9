/-
  The walk of breakwaterlaw02.CrcBurst.
-/
import Derived.Test.YtbiclekpkijknaaCloseLaw
import Derived.Test.YtbiclekpkijknaaPlain4
namespace Go.Proofs.Ytbiclekpkijknaa
open Go.RowKit

theorem bu_many (A : Option Addr) (n c : Nat) (x y : Int) (w : World) (h : n = 0 ∨ 2000 < n) :
    Calls Try.prog 3 #[.slice A n c, .int .i64 x, .int .u32 y] w fun e w' => e = .returned (.bool true) ∧ Below w.heap.size w w' := by
  rcases h with rfl | h
  · go_enter Try.func3, Try.ntmps3
    go_wp2_with (first | (go_at_call 8; refine (wakes_any _).mono ?_; rintro e w6 ⟨rfl, hb7⟩))
    go_ret
    exact ⟨rfl, hb7⟩
  · go_enter Try.func3, Try.ntmps3
    go_wp2_with (first | (go_at_call 8; refine (wakes_any _).mono ?_; rintro e w6 ⟨rfl, hb7⟩))
    go_ret
    exact ⟨rfl, hb7⟩

theorem tmod_bd (x m : Int) (h : 0 < m) : -m < x.tmod m ∧ x.tmod m < m := by
  rcases Int.le_total 0 x with h1 | h1
  · have h2 := Int.tmod_nonneg m h1
    have h3 := Int.tmod_lt_of_pos x h
    omega
  · have h2 := Int.tmod_nonneg m (show 0 ≤ -x by omega)
    have h3 := Int.tmod_lt_of_pos (-x) h
    rw [Int.neg_tmod] at h2 h3
    omega

theorem bit_walk (B k : Nat) (h : B < 4294967296) : bits BinOp.and IntKind.u32 ((B : Int) / 2 ^ k) 1 = if B.testBit k then 1 else 0 := by
  have e : ((B : Int) / 2 ^ k) = (((BitVec.ofNat 32 (B / 2 ^ k)).toNat : Nat) : Int) := by
    have hle : B / 2 ^ k ≤ B := Nat.div_le_self _ _
    rw [BitVec.toNat_ofNat, Nat.mod_eq_of_lt (by omega), Int.natCast_ediv, Int.natCast_pow]; rfl
  have h1 := and_u32 (BitVec.ofNat 32 (B / 2 ^ k)) 1#32
  rw [show (((1#32 : BitVec 32).toNat : Nat) : Int) = 1 from rfl] at h1
  rw [e, h1, and_one]
  have e2 : (BitVec.ofNat 32 (B / 2 ^ k)).getLsbD 0 = B.testBit k := by
    rw [BitVec.getLsbD_ofNat, Nat.testBit_div_two_pow]; simp
  rw [e2]
  cases B.testBit k <;> rfl

set_option maxRecDepth 100000 in
set_option maxHeartbeats 1000000 in
theorem bu_all (A : Option Addr) (n c : Nat) (l : List UInt8) (x : Int) (B : Nat) (w : World) (ha : Rd w w.heap.size A n (cB l)) (h0 : 0 < n) (hn : n ≤ 2000) (hB : B < 4294967296) :
    Calls Try.prog 3 #[.slice A n c, .int .i64 x, .int .u32 (B : Int)] w fun e w' => e = .returned (.bool true) ∧ Below w.heap.size w w' := by
  obtain ⟨i0, hi, hz0, hz1, hz2⟩ := info_parts Try.info5
  obtain ⟨t1, t2⟩ := tmod_bd x (8 * (n : Int)) (by omega)
  obtain ⟨F, hF⟩ : ∃ F : Nat, (x.tmod (8 * (n : Int)) + 8 * (n : Int)) % (8 * (n : Int)) = (F : Int) := by
    have := Int.emod_nonneg (x.tmod (8 * (n : Int)) + 8 * (n : Int)) (show (8 * (n : Int)) ≠ 0 by omega)
    exact ⟨((x.tmod (8 * (n : Int)) + 8 * (n : Int)) % (8 * (n : Int))).toNat, by omega⟩
  have hFl : F < 8 * n := by
    have := Int.emod_lt_of_pos (x.tmod (8 * (n : Int)) + 8 * (n : Int)) (show 0 < 8 * (n : Int) by omega)
    omega
  have hll : l.length = n := by have := ha.1; simpa [cB] using this
  have HL := Lib.hid hll; clear hll
  have hb3 : Below w.heap.size w (w.alloc (.cells #[] 5)) := (Below.refl _ _).alloc (Nat.le_refl _) _
  have hA3 := ha.below hb3
  have q0 : ((n : Int) == 0) = false := by rw [beq_eq_false_iff_ne]; omega
  go_enter Try.func3, Try.ntmps3
  go_wp2_with (at_builtin
               refine wpList_app_rd _ rfl (.tmp 31) (.tmp 32) 22 rfl w.heap.size 5 i0 _ 1 Try.underlying22 hi hz0 hz1 hz2 rfl _ 0 [] rfl (own_empty w 5) w.heap.size A n c (cB l) rfl hA3 (one_cB _) (by unfold maxLen; omega) (by omega) hb3.size w hb3 ?_
               intro A3 c3 w3 hc3 hown3 hb4
               simp only [Nat.zero_add, List.nil_append] at hown3 hc3)
  obtain ⟨g, rfl⟩ : ∃ g, A3 = some ⟨g, 0, none⟩ := by
    rcases hown3.2 with ⟨hv, h9⟩ | ⟨g, cap, cur, hv, _⟩
    · omega
    · injection hv with e1
      exact ⟨g, e1⟩
  have hg0 := (hown3.lt g rfl).1
  go_loopw [9, 10] (fun chv i wr => ∃ (k : Nat) (cl : List UInt8) (ch : Bool), k ≤ 32 ∧ F + k ≤ 8 * n ∧ i = .int .i64 k ∧ chv = .bool ch ∧ Hid (cl.length = n) ∧
      Hid (∀ i, i < 8 * n → (bitAt cl i ^^ bitAt l i) = (decide (F ≤ i ∧ i < F + k) && B.testBit (i - F))) ∧ Hid (ch = true ↔ ∃ j, j < k ∧ B.testBit j = true) ∧
      wr.ownsRow w.heap.size 5 1 (.slice (some ⟨g, 0, none⟩) n c3) n (cB cl) ∧ Below w.heap.size w wr) (fun _ i _ => 32 - (intOf i).toNat)
  case atStart =>
    refine ⟨0, l, false, by omega, by omega, rfl, rfl, HL.out, fun i _ => ?_, ?_, hown3, hb4⟩
    · have : ¬ (F ≤ i ∧ i < F + 0) := by omega
      rw [decide_eq_false this]; simp
    · show (false = true ↔ _)
      simp
  case round =>
    obtain ⟨k, cl, ch, hk, hFk, rfl, rfl, HC, HD, HE, hown, hnx⟩ := hrel
    clear hown3 hb4 hb3 hA3 t1 t2
    by_cases hgo : k < 32 ∧ F + k < 8 * n
    · obtain ⟨hk32, hkn⟩ := hgo
      have hbw := bit_walk B k hB
      by_cases hbit : B.testBit k = true
      · rw [hbit, if_pos rfl] at hbw
        have hix : (F + k) / 8 < n := by omega
        obtain ⟨b, hb⟩ : ∃ b, cl[(F + k) / 8]? = some b := ⟨_, List.getElem?_eq_getElem (by rw [HC.out]; exact hix)⟩
        obtain ⟨bn, hbn⟩ : ∃ bn, bn = b.toNat := ⟨_, rfl⟩
        have hc : wr.cell? ⟨g, (F + k) / 8, none⟩ = some (.int .u8 (bn : Int)) := by
          rw [hown.cellAt ((F + k) / 8) (by omega)]
          simp [cB, hb, hbn]
        have hf := hown.frozenAt ((F + k) / 8)
        have g1 : bn < 256 := by rw [hbn]; exact b.toNat_lt
        have HBB := Lib.hid hb; have HBN := Lib.hid hbn; clear hb hbn
        go_wp2_with fail
        go_roundw
        case rel =>
          have hv : Value.int IntKind.u8 (bits BinOp.xor IntKind.u8 (bn : Int) (2 ^ ((F + k) % 8) % 256)) = Value.int .u8 (((cl.getD ((F + k) / 8) 0 ^^^ UInt8.ofNat (2 ^ ((F + k) % 8))).toNat : Nat) : Int) := by
            have e1 : (2 : Int) ^ ((F + k) % 8) % 256 = (((UInt8.ofNat (2 ^ ((F + k) % 8))).toNat : Nat) : Int) := by
              rw [UInt8.toNat_ofNat', Int.natCast_emod, Int.natCast_pow]; rfl
            have e2 : cl.getD ((F + k) / 8) 0 = b := by rw [List.getD_eq_getElem?_getD, HBB.out]; rfl
            rw [e1, HBN.out, byte_u8, e2]
          have hst := hown.stored ((F + k) / 8) (Value.int IntKind.u8 (bits BinOp.xor IntKind.u8 (bn : Int) (2 ^ ((F + k) % 8) % 256)))
          refine ⟨k + 1, cl.set ((F + k) / 8) (cl.getD ((F + k) / 8) 0 ^^^ UInt8.ofNat (2 ^ ((F + k) % 8))), true, by omega, by omega, by go_num, rfl, ?_, ?_, ?_, ?_, hnx.setCell hg0 _⟩
          · show (cl.set _ _).length = n
            rw [List.length_set]; exact HC.out
          · intro i hi
            rw [set_bit cl (F + k) (by rw [HC.out]; exact hkn) i, Bool.xor_assoc, Bool.xor_comm (decide (i = F + k)), ← Bool.xor_assoc, HD.out i hi]
            by_cases e : i = F + k
            · subst e
              have a1 : ¬ (F ≤ F + k ∧ F + k < F + k) := by omega
              have a2 : F ≤ F + k ∧ F + k < F + (k + 1) := by omega
              rw [decide_eq_false a1, decide_eq_true a2, Nat.add_sub_cancel_left, hbit]; simp
            · have a1 : decide (F ≤ i ∧ i < F + k) = decide (F ≤ i ∧ i < F + (k + 1)) := by rw [decide_eq_decide]; omega
              rw [a1, decide_eq_false e]; simp
          · show (true = true ↔ _)
            exact ⟨fun _ => ⟨k, by omega, hbit⟩, fun _ => rfl⟩
          · have e : cB (cl.set ((F + k) / 8) (cl.getD ((F + k) / 8) 0 ^^^ UInt8.ofNat (2 ^ ((F + k) % 8)))) = (cB cl).set ((F + k) / 8) (Value.int IntKind.u8 (bits BinOp.xor IntKind.u8 (bn : Int) (2 ^ ((F + k) % 8) % 256))) := by
              rw [hv]; simp [cB, List.map_set]
            rw [e]
            exact hst.1
        case measure => simp [intOf]; omega
      · have hb0 : B.testBit k = false := by simpa using hbit
        rw [hb0, if_neg (by decide)] at hbw
        go_wp2_with fail
        go_roundw
        case rel =>
          refine ⟨k + 1, cl, ch, by omega, by omega, by go_num, rfl, HC.out, ?_, ?_, hown, hnx⟩
          · intro i hi
            rw [HD.out i hi]
            by_cases e : i = F + k
            · subst e
              rw [Nat.add_sub_cancel_left, hb0]; simp
            · have a1 : decide (F ≤ i ∧ i < F + k) = decide (F ≤ i ∧ i < F + (k + 1)) := by rw [decide_eq_decide]; omega
              rw [a1]
          · show (ch = true ↔ _)
            rw [HE.out]
            constructor
            · rintro ⟨j, hj, hb⟩; exact ⟨j, by omega, hb⟩
            · rintro ⟨j, hj, hb⟩
              by_cases e : j = k
              · subst e; rw [hb0] at hb; cases hb
              · exact ⟨j, by omega, hb⟩
        case measure => simp [intOf]; omega
    · have hrd := Rd.of_own hown
      obtain ⟨V1, hV1⟩ : ∃ V, V = (sumB cl).toNat := ⟨_, rfl⟩
      obtain ⟨V2, hV2⟩ : ∃ V, V = (sumB l).toNat := ⟨_, rfl⟩
      have s1 := sum_lit (some ⟨g, 0, none⟩) n c3 _ cl (V1 : Int) wr (by rw [hV1]) hrd (Nat.le_refl _) (by omega)
      have s2 := fun W (h : Below w.heap.size w W) => sum_lit A n c w.heap.size l (V2 : Int) W (by rw [hV2]) (ha.below h) h.size (by omega)
      have hcase : (ch = true ∧ ((V1 : Int) == (V2 : Int)) = false) ∨ (ch = false ∧ V1 = V2) := by
        cases hch : ch
        · right
          refine ⟨rfl, ?_⟩
          have hno : ∀ j, j < k → B.testBit j = false := by
            intro j hj
            cases hb : B.testBit j
            · rfl
            · have := HE.out.2 ⟨j, hj, hb⟩
              rw [hch] at this; cases this
          have hbits : ∀ i, i < 8 * n → bitAt cl i = bitAt l i := by
            intro i hi
            have hd := HD.out i hi
            have : (decide (F ≤ i ∧ i < F + k) && B.testBit (i - F)) = false := by
              by_cases a : F ≤ i ∧ i < F + k
              · rw [hno (i - F) (by omega)]; simp
              · rw [decide_eq_false a]; simp
            rw [this] at hd
            revert hd
            cases bitAt cl i <;> cases bitAt l i <;> simp
          have hbl : bitsL cl = bitsL l := by
            unfold bitsL
            rw [HC.out, HL.out]
            exact List.map_congr_left fun i hi => hbits i (List.mem_range.1 hi)
          rw [hV1, hV2]
          unfold sumB
          rw [puts_bits, puts_bits, hbl]
        · left
          refine ⟨rfl, ?_⟩
          have hne := sum_burst l cl (by rw [HC.out, HL.out]) F k (8 * n - F - k) hk (by rw [HL.out]; omega) (fun j => B.testBit j) (by rw [HL.out]; exact HD.out) (HE.out.1 hch)
          rw [beq_eq_false_iff_ne]
          intro e
          apply hne
          apply BitVec.eq_of_toNat_eq
          rw [hV1, hV2] at e
          omega
      have S1 := Lib.hid s1; have S2 := Lib.hid s2
      clear s1 s2 hrd hown ha hV1 hV2
      have hex : ¬ (k < 32) ∨ (k < 32 ∧ ¬ (F + k < 8 * n)) := by omega
      clear hgo
      rcases hex with hex | ⟨hex, hex2⟩
      all_goals
        rcases hcase with ⟨rfl, hne⟩ | ⟨rfl, rfl⟩
        all_goals
          go_wp2_with fail
          refine S1.out.mono ?_
          rintro e w5 ⟨rfl, hb5⟩
          have k5 := hnx.trans (hb5.mono hnx.size)
          go_wp2_with fail
          refine (S2.out w5 k5).mono ?_
          rintro e w6 ⟨rfl, hb6⟩
          have k6 := k5.trans (hb6.mono k5.size)
          go_wp2_with fail
          refine (wakes_any _).mono ?_
          rintro e w7 ⟨rfl, hb7⟩
          go_wp2
          go_ret
          exact ⟨rfl, k6.trans (hb7.mono k6.size)⟩

theorem bu_any (A : Option Addr) (n c : Nat) (l : List UInt8) (x : Int) (B : Nat) (w : World) (ha : Rd w w.heap.size A n (cB l)) (hB : B < 4294967296) :
    Calls Try.prog 3 #[.slice A n c, .int .i64 x, .int .u32 (B : Int)] w fun e w' => e = .returned (.bool true) ∧ Below w.heap.size w w' := by
  by_cases h : 0 < n ∧ n ≤ 2000
  · exact bu_all A n c l x B w ha h.1 h.2 hB
  · exact bu_many A n c x B w (by omega)

end Go.Proofs.Ytbiclekpkijknaa
