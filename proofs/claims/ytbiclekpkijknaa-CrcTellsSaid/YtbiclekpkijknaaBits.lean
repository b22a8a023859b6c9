/-
  The operations on uint32 as the walk spells them, said of words of 32 bits.
-/
import Derived.Test.YtbiclekpkijknaaMem
import Derived.Test.YtbiclekpkijknaaPlain
namespace Go.Proofs.Ytbiclekpkijknaa
open Go.RowKit

/-- a register's value -/
def U (x : BitVec 32) : Value := .int .u32 (x.toNat : Int)

theorem wrap_u32 (x : BitVec 32) : IntKind.u32.wrap (x.toNat : Int) = (x.toNat : Int) := by
  have := x.isLt
  show ((x.toNat : Int) % 2 ^ 32) = _
  omega
theorem ofInt_u32 (x : BitVec 32) : BitVec.ofInt 32 (x.toNat : Int) = x := by
  rw [BitVec.ofInt_natCast, BitVec.ofNat_toNat, BitVec.setWidth_eq]
theorem and_u32 (x y : BitVec 32) : bits .and .u32 (x.toNat : Int) (y.toNat : Int) = ((x &&& y).toNat : Int) := by
  show IntKind.u32.wrap ((BitVec.ofInt 32 (x.toNat : Int) &&& BitVec.ofInt 32 (y.toNat : Int)).toNat : Int) = _
  rw [ofInt_u32, ofInt_u32, wrap_u32]
theorem xor_u32 (x y : BitVec 32) : bits .xor .u32 (x.toNat : Int) (y.toNat : Int) = ((x ^^^ y).toNat : Int) := by
  show IntKind.u32.wrap ((BitVec.ofInt 32 (x.toNat : Int) ^^^ BitVec.ofInt 32 (y.toNat : Int)).toNat : Int) = _
  rw [ofInt_u32, ofInt_u32, wrap_u32]
theorem or_u32 (x y : BitVec 32) : bits .or .u32 (x.toNat : Int) (y.toNat : Int) = ((x ||| y).toNat : Int) := by
  show IntKind.u32.wrap ((BitVec.ofInt 32 (x.toNat : Int) ||| BitVec.ofInt 32 (y.toNat : Int)).toNat : Int) = _
  rw [ofInt_u32, ofInt_u32, wrap_u32]

theorem and_one (x : BitVec 32) : x &&& 1#32 = if x.getLsbD 0 then 1#32 else 0#32 := by
  apply BitVec.eq_of_getLsbD_eq
  intro i hi
  rw [BitVec.getLsbD_and]
  by_cases h : i = 0
  · subst h
    cases x.getLsbD 0 <;> decide
  · have h2 : (1#32).getLsbD i = false := by
      rw [show (1#32) = BitVec.ofNat 32 1 from rfl, BitVec.getLsbD_ofNat]
      have : Nat.testBit 1 i = false := Nat.testBit_lt_two_pow (Nat.lt_of_lt_of_le (show 1 < 2 ^ 1 by decide) (Nat.pow_le_pow_right (by decide) (by omega)))
      simp [this]
    rw [h2, Bool.and_false]
    split
    · exact h2.symm
    · rw [BitVec.getLsbD_zero]

theorem half_u32 (x : BitVec 32) : (x.toNat : Int) / (2 : Int) = ((x >>> 1).toNat : Int) := by
  rw [BitVec.toNat_ushiftRight, Nat.shiftRight_eq_div_pow]
  omega

/-- poly where a bit stands -/
theorem mask_walk (b : Bool) (z : Int) (hz : z = if b then 1 else 0) : bits BinOp.and IntKind.u32 2197175160 (-z % 4294967296) = (((if b then poly else 0#32) : BitVec 32).toNat : Int) := by
  subst hz
  cases b <;> decide +kernel

/-- one step, as the walk spells it -/
theorem step_walk (x : BitVec 32) : bits BinOp.xor IntKind.u32 ((x.toNat : Int) / 2) (bits BinOp.and IntKind.u32 2197175160 (-bits BinOp.and IntKind.u32 (x.toNat : Int) 1 % 4294967296)) = ((step x).toNat : Int) := by
  have e1 : bits BinOp.and IntKind.u32 (x.toNat : Int) 1 = if x.getLsbD 0 then 1 else 0 := by
    have := and_u32 x 1#32
    rw [show (((1#32 : BitVec 32).toNat : Nat) : Int) = 1 from rfl] at this
    rw [this, and_one]
    cases x.getLsbD 0 <;> rfl
  rw [mask_walk (x.getLsbD 0) _ e1, half_u32, xor_u32]
  rfl

theorem top_u32 (x : BitVec 32) : (x.toNat : Int) / (2147483648 : Int) = if x.getLsbD 31 then 1 else 0 := by
  have hlt := x.isLt
  have e : x.getLsbD 31 = decide (2147483648 ≤ x.toNat) := by
    have := BitVec.msb_eq_decide x
    rw [BitVec.msb_eq_getLsbD_last] at this
    simpa using this
  rw [e]
  by_cases h : 2147483648 ≤ x.toNat
  · rw [if_pos (by simpa using h)]; omega
  · rw [if_neg (by simpa using h)]; omega

theorem shl_u32 (x : BitVec 32) : (x.toNat : Int) * (2 : Int) % (4294967296 : Int) = ((x <<< 1).toNat : Int) := by
  rw [BitVec.toNat_shiftLeft, Nat.shiftLeft_eq]
  omega

/-- one step back, as the walk spells it -/
theorem bstep_walk (x : BitVec 32) (t : Int) (ht : t = (x.toNat : Int) / 2147483648) : bits BinOp.or IntKind.u32 (bits BinOp.xor IntKind.u32 (x.toNat : Int) (bits BinOp.and IntKind.u32 2197175160 (-t % 4294967296)) * 2 % 4294967296) t = ((bstep x).toNat : Int) := by
  rw [top_u32] at ht
  rw [mask_walk (x.getLsbD 31) t ht, xor_u32, shl_u32]
  unfold bstep
  subst ht
  cases x.getLsbD 31
  · have := or_u32 ((x ^^^ 0#32) <<< 1) 0#32
    rw [show (((0#32 : BitVec 32).toNat : Nat) : Int) = 0 from rfl] at this
    simp only [if_false, Bool.false_eq_true]
    rw [this]; simp
  · have := or_u32 ((x ^^^ poly) <<< 1) 1#32
    rw [show (((1#32 : BitVec 32).toNat : Nat) : Int) = 1 from rfl] at this
    simp only [if_true]
    rw [this]

end Go.Proofs.Ytbiclekpkijknaa
