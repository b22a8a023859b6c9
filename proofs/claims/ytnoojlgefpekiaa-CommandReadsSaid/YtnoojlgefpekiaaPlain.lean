/-
  Plain mathematics of package num, with no program in sight: the bytes of a number, the number of bytes, which numbers fit.
-/
import Init
namespace Go.Proofs.Ytnoojlgefpekiaa

/-- the greatest number of a width -/
def mostN (w : Nat) : Nat := if w ≤ 5 then 256 ^ w - 1 else 1099511627776

/-- does a number fit a width? -/
def fitsB (n : Int) (w : Nat) : Bool := decide (0 ≤ n ∧ n ≤ (mostN w : Int))

/-- the k-th byte of a number -/
def byteN (n k : Nat) : UInt8 := UInt8.ofNat (n / 256 ^ k)

/-- the bytes of a number of a width -/
def bytesN (w n : Nat) : List UInt8 := (List.range w).map (byteN n)

/-- the bytes of numbers of a width -/
def putL (w : Nat) (l : List Int) : List UInt8 := l.flatMap fun n => bytesN w n.toNat

/-- the number of bytes, the lowest first -/
def leval : List UInt8 → Nat
  | [] => 0
  | b :: r => b.toNat + 256 * leval r

theorem length_bytesN (w n : Nat) : (bytesN w n).length = w := by simp [bytesN]

theorem length_putL (w : Nat) (l : List Int) : (putL w l).length = w * l.length := by
  induction l with
  | nil => simp [putL]
  | cons n r ih =>
    have e : putL w (n :: r) = bytesN w n.toNat ++ putL w r := by simp [putL]
    rw [e, List.length_append, length_bytesN, ih, List.length_cons, Nat.mul_succ]
    omega

theorem putL_append (w : Nat) (l m : List Int) : putL w (l ++ m) = putL w l ++ putL w m := by simp [putL]

theorem putL_snoc (w : Nat) (l : List Int) (n : Int) : putL w (l ++ [n]) = putL w l ++ bytesN w n.toNat := by simp [putL]

theorem bytesN_succ (w n : Nat) : bytesN (w + 1) n = bytesN w n ++ [byteN n w] := by simp [bytesN, List.range_succ]

theorem bytesN_cons (w n : Nat) : bytesN (w + 1) n = UInt8.ofNat n :: bytesN w (n / 256) := by
  unfold bytesN
  rw [List.range_succ_eq_map]
  simp only [List.map_cons, List.map_map]
  congr 1
  · simp [byteN]
  · apply List.map_congr_left
    intro k _
    simp only [Function.comp, byteN]
    rw [Nat.div_div_eq_div_mul, Nat.pow_succ, Nat.mul_comm 256]

theorem leval_bytesN (w n : Nat) : leval (bytesN w n) = n % 256 ^ w := by
  induction w generalizing n with
  | zero => simp [bytesN, leval, Nat.mod_one]
  | succ w ih =>
    rw [bytesN_cons]
    simp only [leval, ih]
    rw [Nat.pow_succ, Nat.mul_comm (256 ^ w), Nat.mod_mul]
    simp

theorem leval_lt (l : List UInt8) : leval l < 256 ^ l.length := by
  induction l with
  | nil => simp [leval]
  | cons b r ih =>
    have hb := b.toNat_lt
    simp only [leval, List.length_cons, Nat.pow_succ]
    omega

theorem leval_append (a b : List UInt8) : leval (a ++ b) = leval a + 256 ^ a.length * leval b := by
  induction a with
  | nil => simp [leval]
  | cons x r ih =>
    simp only [List.cons_append, leval, ih, List.length_cons, Nat.pow_succ]
    rw [Nat.mul_add, ← Nat.mul_assoc, Nat.mul_comm 256 (256 ^ r.length)]
    omega

theorem bytesN_leval (l : List UInt8) : bytesN l.length (leval l) = l := by
  induction l with
  | nil => simp [bytesN]
  | cons b r ih =>
    rw [List.length_cons, bytesN_cons]
    have h1 : (leval (b :: r)) / 256 = leval r := by
      have hb := b.toNat_lt
      simp only [leval]; omega
    have h2 : UInt8.ofNat (leval (b :: r)) = b := by
      apply UInt8.toNat_inj.1
      have hb := b.toNat_lt
      simp only [leval, UInt8.toNat_ofNat']
      omega
    rw [h1, h2, ih]

theorem mostN_lt (w : Nat) (h1 : 1 ≤ w) (h6 : w ≤ 6) : mostN w < 256 ^ w := by
  rcases (show w = 1 ∨ w = 2 ∨ w = 3 ∨ w = 4 ∨ w = 5 ∨ w = 6 from by omega) with rfl | rfl | rfl | rfl | rfl | rfl <;> decide

theorem mostN_le (w : Nat) (h1 : 1 ≤ w) (h6 : w ≤ 6) : mostN w ≤ 1099511627776 := by
  rcases (show w = 1 ∨ w = 2 ∨ w = 3 ∨ w = 4 ∨ w = 5 ∨ w = 6 from by omega) with rfl | rfl | rfl | rfl | rfl | rfl <;> decide

/-- a value of w bytes that is at most 2^40 fits -/
theorem fits_of_lt (w n : Nat) (h1 : 1 ≤ w) (h6 : w ≤ 6) (hn : n < 256 ^ w) (hm : n ≤ 1099511627776) : fitsB n w = true := by
  rcases (show w = 1 ∨ w = 2 ∨ w = 3 ∨ w = 4 ∨ w = 5 ∨ w = 6 from by omega) with rfl | rfl | rfl | rfl | rfl | rfl <;>
    simp [fitsB, mostN] at * <;> omega

end Go.Proofs.Ytnoojlgefpekiaa
