/-
  Contracts of the summer: begin, put, turned.
-/
import Derived.Test.YtbiclekpkijknaaMove
namespace Go.Proofs.Ytbiclekpkijknaa
open Go.RowKit

/-- the table of four bits -/
def tab (i : Nat) : BitVec 32 := steps 4 (BitVec.ofNat 32 i)

/-- block g is a summer whose register is x -/
def Sm (w : World) (g : Nat) (x : BitVec 32) : Prop :=
  ∃ cs, Blk w g 44 cs ∧ cs.size = 17 ∧ cs[0]? = some (U x) ∧ ∀ i, i < 16 → cs[1 + i]? = some (U (tab i))

theorem not_walk (x : BitVec 32) : bits BinOp.xor IntKind.u32 IntKind.u32.max (x.toNat : Int) = ((~~~ x).toNat : Int) := by
  have := xor_u32 (BitVec.allOnes 32) x
  rw [show (((BitVec.allOnes 32).toNat : Nat) : Int) = IntKind.u32.max from rfl] at this
  rw [this, BitVec.allOnes_xor]

theorem turned_any (g : Nat) (T : TypeId) (cs : Array Value) (x : BitVec 32) (w : World) (hb : Blk w g T cs) (h0 : cs[0]? = some (U x)) :
    Calls Try.prog 23 #[.pointer (some ⟨g, 0, none⟩)] w fun e w' => e = .returned (.int .i64 ((~~~ x).toNat : Int)) ∧ w = w' := by
  obtain ⟨v, hv⟩ : ∃ v, v = x.toNat := ⟨_, rfl⟩
  have hc : w.cell? ⟨g, 0, none⟩ = some (.int .u32 (v : Int)) := by rw [hb.cell 0, h0, hv]; rfl
  have hvl : v < 4294967296 := by rw [hv]; exact x.isLt
  have hu : IntKind.u32.signed = false := rfl
  have HV := Lib.hid hv; clear hv
  go_enter Try.func23, Try.ntmps23
  go_wp2
  go_ret
  refine ⟨?_, rfl⟩
  show Ending.returned (.int .i64 (wrap64 (bits BinOp.xor IntKind.u32 IntKind.u32.max (v : Int)))) = _
  rw [HV.out, not_walk]
  have := (~~~ x).isLt
  rw [IntWalk.wrap64_in _ ⟨by omega, by omega⟩]

set_option maxHeartbeats 400000 in
theorem begin_any (s : Int) (w : World) :
    Calls Try.prog 21 #[.int .i64 s] w fun e w' => ∃ g, e = .returned (.pointer (some ⟨g, 0, none⟩)) ∧ w.heap.size ≤ g ∧ Sm w' g (~~~ BitVec.ofInt 32 s) ∧ Below w.heap.size w w' := by
  have hu : IntKind.u32.signed = false := rfl
  go_enter Try.func21, Try.ntmps21
  go_wp2
  have hx0 : Value.int IntKind.u32 (bits BinOp.xor IntKind.u32 IntKind.u32.max (s % 4294967296)) = U (~~~ BitVec.ofInt 32 s) := by
    have e : s % 4294967296 = ((BitVec.ofInt 32 s).toNat : Int) := by
      rw [BitVec.toNat_ofInt]; omega
    rw [e, not_walk]; rfl
  rw [hx0]
  have hb0 := Blk.new w 44 #[U (~~~ BitVec.ofInt 32 s), Value.int IntKind.u32 0, Value.int IntKind.u32 0, Value.int IntKind.u32 0, Value.int IntKind.u32 0, Value.int IntKind.u32 0,
      Value.int IntKind.u32 0, Value.int IntKind.u32 0, Value.int IntKind.u32 0, Value.int IntKind.u32 0, Value.int IntKind.u32 0, Value.int IntKind.u32 0, Value.int IntKind.u32 0, Value.int IntKind.u32 0,
      Value.int IntKind.u32 0, Value.int IntKind.u32 0, Value.int IntKind.u32 0]
  have hw0 : Below w.heap.size w (w.alloc (Obj.cells #[U (~~~ BitVec.ofInt 32 s), Value.int IntKind.u32 0, Value.int IntKind.u32 0, Value.int IntKind.u32 0, Value.int IntKind.u32 0, Value.int IntKind.u32 0,
      Value.int IntKind.u32 0, Value.int IntKind.u32 0, Value.int IntKind.u32 0, Value.int IntKind.u32 0, Value.int IntKind.u32 0, Value.int IntKind.u32 0, Value.int IntKind.u32 0, Value.int IntKind.u32 0,
      Value.int IntKind.u32 0, Value.int IntKind.u32 0, Value.int IntKind.u32 0] 44)) := (Below.refl _ _).alloc (Nat.le_refl _) _
  clear hx0
  go_loopw [12] (fun i wr => ∃ (k : Nat) (cs : Array Value), k ≤ 16 ∧ i = .int .i64 k ∧ Blk wr w.heap.size 44 cs ∧ Hid (cs.size = 17) ∧ Hid (cs[0]? = some (U (~~~ BitVec.ofInt 32 s))) ∧ Hid (∀ i, i < k → cs[1 + i]? = some (U (tab i))) ∧ Below w.heap.size w wr) (fun i _ => 16 - (intOf i).toNat)
  case atStart => exact ⟨0, _, Nat.zero_le _, rfl, hb0, rfl, rfl, fun i hi => absurd hi (by omega), hw0⟩
  case round =>
    obtain ⟨k, cs, hk, rfl, hbk, HS, H0, HT, hnx⟩ := hrel
    clear hb0 hw0
    by_cases hk16 : k < 16
    · go_wp2
      go_loop [5, 17] (fun x j => ∃ (q v : Nat), q ≤ 4 ∧ j = .int .i64 q ∧ x = .int .u32 v ∧ Hid (v = (steps q (BitVec.ofNat 32 k)).toNat) ∧ v < 4294967296) (fun _ j => 4 - (intOf j).toNat)
      case atStart => exact ⟨0, k, by omega, rfl, by first | rfl | go_num, by
        show k = (BitVec.ofNat 32 k).toNat
        rw [BitVec.toNat_ofNat]; omega, by omega⟩
      case round =>
        obtain ⟨q, v, hq, rfl, rfl, HV, hv⟩ := hrel
        by_cases hq4 : q < 4
        · go_wp2
          go_round
          case rel =>
            refine ⟨q + 1, (step (steps q (BitVec.ofNat 32 k))).toNat, by omega, by go_num, ?_, ?_, (step _).isLt⟩
            · show Value.int .u32 (bits BinOp.xor IntKind.u32 ((v : Int) / 2) (bits BinOp.and IntKind.u32 2197175160 (-bits BinOp.and IntKind.u32 (v : Int) 1 % 4294967296))) = _
              rw [HV.out, step_walk]
            · rw [steps_succ]; rfl
          case measure => simp [intOf]; omega
        · have hq' : q = 4 := by omega
          have HQ := Lib.hid hq'; clear hq'
          have hcl : wr.cell? ⟨w.heap.size, 1 + k, none⟩ = some (cs[1 + k]'(by rw [HS.out]; omega)) := by
            rw [hbk.cell (1 + k)]; exact Array.getElem?_eq_getElem _
          obtain ⟨u, hu2⟩ : ∃ u, wr.cell? ⟨w.heap.size, 1 + k, none⟩ = some u := ⟨_, hcl⟩
          clear hcl
          have hfz := hbk.frozen (1 + k)
          go_wp2
          go_roundw
          case rel =>
            refine ⟨k + 1, cs.setIfInBounds (1 + k) (Value.int .u32 v), by omega, by go_num, hbk.set_ (1 + k) _, ?_, ?_, ?_, hnx.setCell (Nat.le_refl _) _⟩
            · show (cs.setIfInBounds (1 + k) (Value.int .u32 v)).size = 17
              rw [Array.size_setIfInBounds]; exact HS.out
            · show (cs.setIfInBounds (1 + k) (Value.int .u32 v))[0]? = _
              rw [Array.getElem?_setIfInBounds_ne (by omega)]; exact H0.out
            · intro i hi
              have hsz := HS.out
              by_cases hik : i = k
              · subst hik
                rw [Array.getElem?_setIfInBounds_self_of_lt (by omega)]
                have := HV.out
                rw [HQ.out] at this
                rw [this]; rfl
              · rw [Array.getElem?_setIfInBounds_ne (by omega)]
                exact HT.out i (by omega)
          case measure => simp [intOf]; omega
    · go_wp2
      go_ret
      have : k = 16 := by omega
      subst this
      exact ⟨w.heap.size, rfl, Nat.le_refl _, ⟨cs, hbk, HS.out, H0.out, HT.out⟩, hnx⟩

end Go.Proofs.Ytbiclekpkijknaa
