/-
  Plain laws of four bytes that close a sum.
-/
import Derived.Test.YtbiclekpkijknaaPlain2
namespace Go.Proofs.Ytbiclekpkijknaa

/-- the four bytes of a number, the lowest first -/
def bytesOf (n : Nat) : List UInt8 := [UInt8.ofNat n, UInt8.ofNat (n / 256), UInt8.ofNat (n / 65536), UInt8.ofNat (n / 16777216)]

/-- bytes as a word, the lowest first -/
def wordL : List UInt8 → BitVec 32
  | [] => 0#32
  | b :: r => wB b ^^^ (wordL r <<< 8)

theorem high_bit (z : BitVec 32) (m i : Nat) (h : z.toNat < 2 ^ m) (hi : m ≤ i) : z.getLsbD i = false := by
  rw [← BitVec.testBit_toNat]
  exact Nat.testBit_lt_two_pow (Nat.lt_of_lt_of_le h (Nat.pow_le_pow_right (by decide) hi))

theorem step_shl (z : BitVec 32) (k : Nat) (h : z.toNat < 2 ^ (31 - k)) : step (z <<< (k + 1)) = z <<< k := by
  rw [step_even _ (by simp)]
  apply BitVec.eq_of_getLsbD_eq
  intro i hi
  simp only [BitVec.getLsbD_shiftLeft, BitVec.getLsbD_ushiftRight]
  by_cases h1 : 1 + i < 32
  · by_cases h2 : i < k
    · have : 1 + i < k + 1 := by omega
      simp [h1, h2, this]
    · have h3 : ¬ (1 + i < k + 1) := by omega
      have h4 : 1 + i - (k + 1) = i - k := by omega
      simp [h1, h2, h3, h4, hi]
  · have h5 : i = 31 := by omega
    subst h5
    rw [high_bit z (31 - k) (31 - k) h (Nat.le_refl _)]
    simp

theorem steps_shl (k : Nat) (z : BitVec 32) (h : z.toNat < 2 ^ (32 - k)) (hk : k ≤ 32) : steps k (z <<< k) = z := by
  induction k with
  | zero => simp [steps]
  | succ k ih =>
    simp only [steps]
    rw [step_shl z k (by have : 32 - (k + 1) = 31 - k := by omega
                         rw [this] at h; exact h)]
    exact ih (Nat.lt_of_lt_of_le h (Nat.pow_le_pow_right (by decide) (by omega))) (by omega)

theorem wB_bit (b : UInt8) (i : Nat) : (wB b).getLsbD i = b.toNat.testBit i := by
  unfold wB
  rw [BitVec.getLsbD_ofNat]
  by_cases h : i < 32
  · simp [h]
  · have : b.toNat.testBit i = false := Nat.testBit_lt_two_pow (Nat.lt_of_lt_of_le (b.toNat_lt) (Nat.pow_le_pow_right (by decide) (by omega)))
    simp [h, this]

theorem wB_high (b : UInt8) (i : Nat) (h : 8 ≤ i) : (wB b).getLsbD i = false := by
  rw [wB_bit]
  exact Nat.testBit_lt_two_pow (Nat.lt_of_lt_of_le (b.toNat_lt) (Nat.pow_le_pow_right (by decide) h))

theorem wordL_high (l : List UInt8) (i : Nat) (h : 8 * l.length ≤ i) : (wordL l).getLsbD i = false := by
  induction l generalizing i with
  | nil => simp [wordL]
  | cons b r ih =>
    rw [List.length_cons, Nat.mul_succ] at h
    simp only [wordL, BitVec.getLsbD_xor, BitVec.getLsbD_shiftLeft]
    rw [wB_high b i (by omega), ih (i - 8) (by omega)]
    simp

theorem lt_of_high (z : BitVec 32) (m : Nat) (h : ∀ i, m ≤ i → z.getLsbD i = false) : z.toNat < 2 ^ m := by
  apply Nat.lt_pow_two_of_testBit
  intro i hi
  rw [BitVec.testBit_toNat]
  exact h i hi

theorem puts_word (l : List UInt8) (h : l.length ≤ 4) (x : BitVec 32) : puts x l = steps (8 * l.length) (x ^^^ wordL l) := by
  induction l generalizing x with
  | nil => simp [puts, steps, wordL]
  | cons b r ih =>
    rw [List.length_cons] at h ⊢
    show puts (put1 x b) r = _
    rw [ih (by omega)]
    have e : steps 8 (wordL r <<< 8) = wordL r := steps_shl 8 _ (Nat.lt_of_lt_of_le (lt_of_high _ (8 * r.length) (fun i hi => wordL_high r i hi)) (Nat.pow_le_pow_right (by decide) (by omega))) (by decide)
    rw [Nat.mul_succ, Nat.add_comm, steps_add]
    simp only [wordL]
    rw [← BitVec.xor_assoc, steps_xor 8, e]
    rfl

theorem byte_bit (n k j : Nat) : (wB (UInt8.ofNat (n / 2 ^ k))).getLsbD j = (decide (j < 8) && n.testBit (j + k)) := by
  rw [wB_bit, UInt8.toNat_ofNat', Nat.testBit_mod_two_pow, Nat.testBit_div_two_pow]

theorem word_bytes (x : BitVec 32) : wordL (bytesOf x.toNat) = x := by
  apply BitVec.eq_of_getLsbD_eq
  intro i hi
  have b0 := byte_bit x.toNat 0
  have b1 := byte_bit x.toNat 8
  have b2 := byte_bit x.toNat 16
  have b3 := byte_bit x.toNat 24
  simp only [Nat.pow_zero, Nat.div_one, Nat.add_zero] at b0
  rw [show (2 : Nat) ^ 8 = 256 from rfl] at b1
  rw [show (2 : Nat) ^ 16 = 65536 from rfl] at b2
  rw [show (2 : Nat) ^ 24 = 16777216 from rfl] at b3
  rw [show x.getLsbD i = x.toNat.testBit i from (BitVec.testBit_toNat x).symm]
  simp only [bytesOf, wordL, BitVec.getLsbD_xor, BitVec.getLsbD_shiftLeft, b0, b1, b2, b3, BitVec.getLsbD_zero]
  by_cases h1 : i < 8
  · simp [h1]
  · by_cases h2 : i < 16
    · have e1 : i - 8 < 8 := by omega
      have e2 : i - 8 + 8 = i := by omega
      have e3 : i - 8 < 32 := by omega
      simp [h1, hi, e1, e2]
    · by_cases h3 : i < 24
      · have e1 : ¬ i - 8 < 8 := by omega
        have e2 : i - 8 - 8 < 8 := by omega
        have e3 : i - 8 - 8 + 16 = i := by omega
        have e4 : i - 8 < 32 := by omega
        simp [h1, hi, e1, e2, e3, e4]
      · have e1 : ¬ i - 8 < 8 := by omega
        have e2 : ¬ i - 8 - 8 < 8 := by omega
        have e3 : i - 8 - 8 - 8 + 24 = i := by omega
        have e4 : i - 8 < 32 := by omega
        have e5 : i - 8 - 8 < 32 := by omega
        have e6 : i - 8 - 8 - 8 < 8 := by omega
        simp [h1, hi, e1, e2, e3, e4, e5, e6]

theorem xor_byte (a b k : Nat) : UInt8.ofNat (a / 2 ^ k) ^^^ UInt8.ofNat (b / 2 ^ k) = UInt8.ofNat ((a ^^^ b) / 2 ^ k) := by
  apply UInt8.toNat_inj.1
  rw [UInt8.toNat_xor, UInt8.toNat_ofNat', UInt8.toNat_ofNat', UInt8.toNat_ofNat']
  apply Nat.eq_of_testBit_eq
  intro i
  simp only [Nat.testBit_xor, Nat.testBit_mod_two_pow, Nat.testBit_div_two_pow]
  cases decide (i < 8) <;> simp

theorem xor_bytes (x y : BitVec 32) : List.zipWith (· ^^^ ·) (bytesOf x.toNat) (bytesOf y.toNat) = bytesOf (x ^^^ y).toNat := by
  have b0 := xor_byte x.toNat y.toNat 0
  have b1 := xor_byte x.toNat y.toNat 8
  have b2 := xor_byte x.toNat y.toNat 16
  have b3 := xor_byte x.toNat y.toNat 24
  simp only [Nat.pow_zero, Nat.div_one] at b0
  rw [show (2 : Nat) ^ 8 = 256 from rfl] at b1
  rw [show (2 : Nat) ^ 16 = 65536 from rfl] at b2
  rw [show (2 : Nat) ^ 24 = 16777216 from rfl] at b3
  simp only [bytesOf, List.zipWith_cons_cons, List.zipWith_nil_left, b0, b1, b2, b3, BitVec.toNat_xor]

/-- the sum of bytes and four more -/
theorem sum_four (l : List UInt8) (z : BitVec 32) : sumB (l ++ bytesOf z.toNat) = ~~~ (steps 32 (puts (~~~ 0#32) l ^^^ z)) := by
  unfold sumB
  rw [puts_append, puts_word _ (by simp [bytesOf]), word_bytes]
  rfl

theorem close_sum (l : List UInt8) (want c : BitVec 32) : sumB (l ++ bytesOf ((bsteps 32 (~~~ want) ^^^ puts (~~~ 0#32) l) ^^^ c).toNat) = want ^^^ steps 32 c := by
  rw [sum_four]
  have e : puts (~~~ 0#32) l ^^^ ((bsteps 32 (~~~ want) ^^^ puts (~~~ 0#32) l) ^^^ c) = bsteps 32 (~~~ want) ^^^ c := by
    apply BitVec.eq_of_getLsbD_eq
    intro i _
    simp only [BitVec.getLsbD_xor]
    cases (puts (~~~ 0#32) l).getLsbD i <;> cases (bsteps 32 (~~~ want)).getLsbD i <;> cases c.getLsbD i <;> rfl
  rw [e, steps_xor, steps_back, not_xor_not, BitVec.not_not]

theorem close_exact (l : List UInt8) (want : BitVec 32) : sumB (l ++ bytesOf (bsteps 32 (~~~ want) ^^^ puts (~~~ 0#32) l).toNat) = want := by
  have := close_sum l want 0#32
  rw [BitVec.xor_zero, steps_zero, BitVec.xor_zero] at this
  exact this

theorem xor_ne (x y : BitVec 32) (h : y ≠ 0#32) : x ^^^ y ≠ x := by
  intro e
  apply h
  have : x ^^^ (x ^^^ y) = x ^^^ x := by rw [e]
  rw [← BitVec.xor_assoc, BitVec.xor_self, BitVec.zero_xor] at this
  exact this

end Go.Proofs.Ytbiclekpkijknaa
