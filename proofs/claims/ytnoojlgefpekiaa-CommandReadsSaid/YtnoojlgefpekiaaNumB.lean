/-
  The contract of num.Put: the bytes behind the bytes, in new memory; or ErrArg.
-/
import Derived.Test.YtnoojlgefpekiaaNumA
import Derived.Test.YtnoojlgefpekiaaMem
import Derived.Laws.CopyOwn
import Derived.Laws.MakeOwn
namespace Go.Proofs.Ytnoojlgefpekiaa
open Go.RowKit

theorem Try.info5 : (Try.prog.info? 5).map (fun i => (i.zero, i.size, i.bytes)) = some (some (.int .u8 0), 1, 1) := by kernel_rfl
theorem Try.size5 : (Try.prog.info? 5).map (·.size) = some 1 := by kernel_rfl

/-- make([]byte, n, c) -/
theorem make_bytes (n C : Nat) (x : Int) (hx : x = (C : Int)) (hn : n ≤ C) (hC : C ≤ 1000000) : ∃ Z : List Value, Z.length = C ∧ ∀ W : World,
    (Instr.makeSlice 24 (.int .i64 (n : Int)) (.int .i64 x)).run Try.prog W = .ok (.slice (some ⟨W.heap.size, 0, none⟩) n C) (W.alloc (.cells Z.toArray 5)) := by
  obtain ⟨i, hi, hz0, hz1, hz2⟩ := info_parts Try.info5
  subst hx
  refine ⟨(madeCells (Value.int .u8 0).cells (C * i.size)).toList, by simp [size_madeCells, hz1], fun W => ?_⟩
  have h := run_make (P := Try.prog) W 24 5 i (.int .u8 0) Try.underlying24 hi hz0 .i64 .i64 (n : Int) (C : Int) (by omega) (by omega) (by rw [hz2]; omega) (by omega)
  simpa using h

/-- what Put comes to -/
def PutPost (w : World) (bs : List UInt8) (wd : Nat) (zs : List Int) (e : Ending) (w' : World) : Prop :=
  (zs.all (fitsB · wd) = true ∧ ∃ A n c, e = .returned (.tuple #[.slice A n c, .int .i64 0]) ∧ n ≤ c ∧ Rd w' w'.heap.size A n (cB (bs ++ putL wd zs)) ∧ Below w.heap.size w w') ∨
  (zs.all (fitsB · wd) = false ∧ e = .returned (.tuple #[.slice none 0 0, .int .i64 2]) ∧ Below w.heap.size w w')

set_option maxHeartbeats 1000000 in
theorem put_any (Ab Al : Option Addr) (nb cb m cl wd : Nat) (bs : List UInt8) (zs : List Int) (w : World) (h1 : 1 ≤ wd) (h6 : wd ≤ 6) (hnb : nb ≤ 10000) (hm : m ≤ 10000)
    (hb : Rd w w.heap.size Ab nb (cB bs)) (hl : Rd w w.heap.size Al m (cI zs)) :
    Calls Try.prog 12 #[.slice Ab nb cb, .int .i64 (wd : Int), .slice Al m cl] w (PutPost w bs wd zs) := by
  obtain ⟨i0, hi, hz0, hz1, hz2⟩ := info_parts Try.info5
  have hp : wd * m ≤ 60000 := Nat.le_trans (Nat.mul_le_mul h6 hm) (by omega)
  obtain ⟨C, hC⟩ : ∃ C : Nat, C = nb + wd * m := ⟨_, rfl⟩
  obtain ⟨Z, hZ, hmk⟩ := make_bytes nb C ((nb : Int) + (wd : Int) * (m : Int)) (by rw [hC]; simp) (by omega) (by omega)
  have q1 : 0 ≤ (wd : Int) * (m : Int) := by rw [← Int.natCast_mul]; omega
  have q2 : (wd : Int) * (m : Int) ≤ 60000 := by rw [← Int.natCast_mul]; omega
  have HC := Lib.hid hC; clear hC
  have HZ := Lib.hid hZ; clear hZ
  have g1 : (1 : Int) ≤ (wd : Int) := by omega
  have g6 : (wd : Int) ≤ 6 := by omega
  go_enter Try.func12, Try.ntmps12
  go_wp2_with (first
    | (go_at_call 26; refine (may_yes _ _ g1 g6).mono ?_; rintro e w' ⟨rfl, rfl⟩)
    | (with_reducible refine wpList_copy_splice (o := ⟨some 27, _, _, _, _, _⟩) ?hgd (.tmp 25) (.tmp 26) 24 24 ?ho 5 Try.underlying24 Try.size5 (some ⟨w.heap.size, 0, none⟩) Ab nb C nb cb ?hd ?hs w.heap.size 0 Z 5 ?hg (cB bs) ?hcn ?hpos ?hfit ?h1c w.heap.size w ?hb (Nat.le_refl _) ?hK))
  case hgd => rfl
  case ho => rfl
  case hd => rfl
  case hs => rfl
  case hg => exact heap_alloc_new w _
  case hcn => rw [hb.1]; simp
  case hpos =>
    intro h0
    obtain ⟨ad, e1, e2, e3⟩ := (hb.alloc (Nat.le_refl _) (.cells Z.toArray 5)).2 (by rw [← hb.1]; exact h0)
    first | exact ⟨rfl, ad, e1, e3⟩ | exact ⟨ad, e1, e3⟩
  case hfit => have := HC.out; have := HZ.out; have := hb.1; omega
  case h1c =>
    intro u hu
    obtain ⟨_, _, rfl⟩ := List.mem_map.1 hu
    rfl
  case hb => exact (Below.refl _ _).alloc (Nat.le_refl _) _
  intro w1 hg1 hb1
  have hown1 : w1.ownsRow w.heap.size 5 1 (.slice (some ⟨w.heap.size, 0, none⟩) nb C) nb (cB bs) := by
    have h1 := HC.out
    have h2 := HZ.out
    have h3 := hb.1
    refine ⟨by simpa using h3, .inr ⟨w.heap.size, C, _, rfl, Nat.le_refl _, hg1.out, by omega, by unfold maxLen; omega, ?_, ?_⟩⟩
    · simp [splice]; omega
    · simp [splice, ← h3]
  clear hg1 hb hmk
  go_wp2
  go_loopw [8, 30] (fun out i wr => ∃ (k n : Nat), k ≤ m ∧ i = .int .i64 k ∧ out = .slice (some ⟨w.heap.size, 0, none⟩) n C ∧ Hid (n = nb + wd * k) ∧
      wr.ownsRow w.heap.size 5 1 (.slice (some ⟨w.heap.size, 0, none⟩) n C) n (cB (bs ++ putL wd (zs.take k))) ∧ Below w.heap.size w wr ∧ Hid ((zs.take k).all (fitsB · wd) = true))
    (fun _ i _ => m - (intOf i).toNat)
  case atStart => exact ⟨0, nb, Nat.zero_le _, rfl, rfl, by simp [Hid], by simpa [putL] using hown1, hb1, by simp [Hid]⟩
  case round =>
    obtain ⟨k, n, hk, rfl, rfl, HN, hown, hnx, hall⟩ := hrel
    clear hown1 hb1
    have hlr := hl.below hnx
    by_cases hkm : k < m
    · obtain ⟨ad, z, rfl, had, hz, hc⟩ := hlr.int hkm
      have HZk := Lib.hid hz; clear hz
      by_cases hf : fitsB z wd = true
      · have hf' : 0 ≤ z ∧ z ≤ (mostN wd : Nat) := by simpa [fitsB] using hf
        obtain ⟨z0, z1⟩ := hf'
        obtain ⟨zn, rfl⟩ := Int.eq_ofNat_of_zero_le z0
        have z2 : zn ≤ 1099511627776 := by have := mostN_le wd h1 h6; omega
        have HF := Lib.hid hf; clear hf
        clear hlr hl
        go_wp2_with (first
          | (go_at_call 14; refine (fits_yes _ _ _ g1 g6 z0 (by simpa using z1)).mono ?_; rintro e w' ⟨rfl, rfl⟩))
        obtain ⟨wo, rfl⟩ : ∃ wo : World, wo = wr := ⟨_, rfl⟩
        go_loopw [8, 39] (fun out j wr => ∃ (q n2 : Nat), q ≤ wd ∧ j = .int .i64 q ∧ out = .slice (some ⟨w.heap.size, 0, none⟩) n2 C ∧ Hid (n2 = n + q) ∧
            wr.ownsRow w.heap.size 5 1 (.slice (some ⟨w.heap.size, 0, none⟩) n2 C) n2 (cB (bs ++ putL wd (zs.take k) ++ (List.range q).map (byteN zn))) ∧ Below w.heap.size w wr)
          (fun _ j _ => wd - (intOf j).toNat)
        case atStart => exact ⟨0, n, Nat.zero_le _, rfl, rfl, by simp [Hid], by simpa using hown, hnx⟩
        case round =>
          obtain ⟨q, n2, hq, rfl, rfl, HN2, hown2, hnx2⟩ := hrel
          clear hown hnx hc
          by_cases hqw : q < wd
          · have hroom : n2 + 1 ≤ C := by
              have a1 := HN2.out; have a2 := HN.out; have a3 := HC.out
              have a4 : wd * (k + 1) ≤ wd * m := Nat.mul_le_mul (Nat.le_refl _) hkm
              rw [Nat.mul_succ] at a4
              omega
            have hB := byte_walk zn q z2
            go_wp2_with (at_builtin; refine wpList_append_fits _ rfl (.tmp 42) (.tmp 49) 24 rfl w.heap.size 5 i0 1 Try.underlying24 hi hz1 w.heap.size n2 C _ rfl (hown2.alloc _) ⟨wr.heap.size, 0, none⟩ 1 1 [.int .u8 ((byteN zn q).toNat : Int)] rfl rfl ?c1 ?c2 hroom ?c3)
            case c1 =>
              intro j u hj
              match j, hj with
              | 0, hj => simp at hj; subst hj; simp [Addr.add]
            case c2 => intro u hu; simp at hu; subst hu; rfl
            intro w2 hown3 hgrow
            go_wp2
            go_roundw
            case rel => exact ⟨q + 1, n2 + 1, by omega, by go_num, rfl, by have := HN2.out; simp [Hid]; omega, by simpa [cB, List.range_succ] using hown3, (hnx2.alloc hnx2.size _).grown hgrow (by simp; have := hnx2.size; omega) (fun k hk => by cases hk; exact Nat.le_refl _)⟩
            case measure => simp [intOf]; omega
          · have hqe : q = wd := by omega
            have HE := Lib.hid hqe; clear hqe
            go_wp2
            go_roundw
            case rel => 
              refine ⟨k + 1, n2, by omega, by go_num, rfl, ?_, ?_, hnx2, ?_⟩
              · have a1 := HN2.out; have a2 := HN.out; have a3 := HE.out
                simp only [Hid, Nat.mul_succ]; omega
              · have e : zs.take (k + 1) = zs.take k ++ [(zn : Int)] := by rw [List.take_add_one, HZk.out]; rfl
                have e2 : bytesN wd ((zn : Int)).toNat = (List.range q).map (byteN zn) := by rw [HE.out]; rfl
                rw [e, putL_snoc, e2, ← List.append_assoc]
                exact hown2
              · have e : zs.take (k + 1) = zs.take k ++ [(zn : Int)] := by rw [List.take_add_one, HZk.out]; rfl
                show (List.all (zs.take (k + 1)) _) = true
                rw [e, List.all_append, hall.out]
                simpa using HF.out
            case measure => simp [intOf]; omega
      · have hz1 : z < 0 ∨ (mostN wd : Nat) < z := by
          have : ¬ (0 ≤ z ∧ z ≤ (mostN wd : Nat)) := by simpa [fitsB] using hf
          omega
        have HF := Lib.hid hf; clear hf
        have hnx' := hnx
        clear hlr hl hnx hown
        go_wp2_with (first
          | (go_at_call 14; refine (fits_no _ _ _ (by rcases hz1 with h | h <;> simp <;> omega)).mono ?_; rintro e w' ⟨rfl, rfl⟩))
        go_ret2
        refine .inr ⟨?_, rfl, hnx'⟩
        rw [List.all_eq_false]
        exact ⟨z, List.mem_of_getElem? HZk.out, HF.out⟩
    · have hke : k = m := by omega
      have HE := Lib.hid hke; clear hke
      have hlen : zs.length = m := by simpa [cI] using hl.1
      have HL := Lib.hid hlen; clear hlen
      clear hlr hl
      go_wp2
      go_ret2
      have e : zs.take k = zs := List.take_of_length_le (by rw [HE.out, HL.out]; exact Nat.le_refl _)
      refine .inl ⟨by rw [← e]; exact hall.out, _, _, _, rfl, ?_, ?_, hnx⟩
      · have a1 := HN.out; have a3 := HC.out
        have a4 : wd * k ≤ wd * m := Nat.mul_le_mul (Nat.le_refl _) hk
        omega
      · rw [e] at hown
        exact Rd.of_own hown

theorem put_ok (Ab Al : Option Addr) (nb cb m cl wd : Nat) (bs : List UInt8) (zs : List Int) (w : World) (h1 : 1 ≤ wd) (h6 : wd ≤ 6) (hnb : nb ≤ 10000) (hm : m ≤ 10000)
    (hb : Rd w w.heap.size Ab nb (cB bs)) (hl : Rd w w.heap.size Al m (cI zs)) (hall : zs.all (fitsB · wd) = true) :
    Calls Try.prog 12 #[.slice Ab nb cb, .int .i64 (wd : Int), .slice Al m cl] w fun e w' =>
      ∃ A n c, e = .returned (.tuple #[.slice A n c, .int .i64 0]) ∧ n ≤ c ∧ Rd w' w'.heap.size A n (cB (bs ++ putL wd zs)) ∧ Below w.heap.size w w' :=
  (put_any Ab Al nb cb m cl wd bs zs w h1 h6 hnb hm hb hl).mono fun e w' h => by
    rcases h with ⟨_, h⟩ | ⟨h, _⟩
    · exact h
    · rw [hall] at h; cases h

theorem put_bad (Ab Al : Option Addr) (nb cb m cl wd : Nat) (bs : List UInt8) (zs : List Int) (w : World) (h1 : 1 ≤ wd) (h6 : wd ≤ 6) (hnb : nb ≤ 10000) (hm : m ≤ 10000)
    (hb : Rd w w.heap.size Ab nb (cB bs)) (hl : Rd w w.heap.size Al m (cI zs)) (hall : zs.all (fitsB · wd) = false) :
    Calls Try.prog 12 #[.slice Ab nb cb, .int .i64 (wd : Int), .slice Al m cl] w fun e w' =>
      e = .returned (.tuple #[.slice none 0 0, .int .i64 2]) ∧ Below w.heap.size w w' :=
  (put_any Ab Al nb cb m cl wd bs zs w h1 h6 hnb hm hb hl).mono fun e w' h => by
    rcases h with ⟨h, _⟩ | ⟨_, h⟩
    · rw [hall] at h; cases h
    · exact h

/-- Put where there is no such width. -/
theorem put_width (b l : Value) (x : Int) (w : World) (h : x < 1 ∨ 6 < x) :
    Calls Try.prog 12 #[b, .int .i64 x, l] w fun e w' => e = .returned (.tuple #[.slice none 0 0, .int .i64 2]) ∧ w = w' := by
  go_enter Try.func12, Try.ntmps12
  go_wp2_with (first
    | (go_at_call 26; refine (may_no _ _ h).mono ?_; rintro e w' ⟨rfl, rfl⟩))
  go_ret2
  exact ⟨rfl, rfl⟩

end Go.Proofs.Ytnoojlgefpekiaa
