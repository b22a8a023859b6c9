/-
  Plain mathematics of the sum of bytes, with no program in sight: a register of 32 bits, its steps, that they are linear and can be undone, and what bytes do to it.
-/
import Init
namespace Go.Proofs.Ytbiclekpkijknaa

def poly : BitVec 32 := 0x82F63B78#32

/-- one step: the lowest bit is taken off; if it was 1, the rest is turned about where poly has ones -/
def step (x : BitVec 32) : BitVec 32 := (x >>> 1) ^^^ (if x.getLsbD 0 then poly else 0#32)

def steps : Nat → BitVec 32 → BitVec 32
  | 0, x => x
  | n + 1, x => steps n (step x)

/-- a step undone -/
def bstep (x : BitVec 32) : BitVec 32 := if x.getLsbD 31 then ((x ^^^ poly) <<< 1) ||| 1#32 else x <<< 1

def bsteps : Nat → BitVec 32 → BitVec 32
  | 0, x => x
  | n + 1, x => bsteps n (bstep x)

theorem step_bit (x : BitVec 32) (i : Nat) : (step x).getLsbD i = (x.getLsbD (i + 1) ^^ (x.getLsbD 0 && poly.getLsbD i)) := by
  unfold step
  cases hx : x.getLsbD 0
  · rw [if_neg (by decide), BitVec.getLsbD_xor, BitVec.getLsbD_ushiftRight, BitVec.getLsbD_zero, Nat.add_comm]
    simp
  · rw [if_pos rfl, BitVec.getLsbD_xor, BitVec.getLsbD_ushiftRight, Nat.add_comm, Bool.true_and]

theorem step_xor (x y : BitVec 32) : step (x ^^^ y) = step x ^^^ step y := by
  apply BitVec.eq_of_getLsbD_eq
  intro i _
  simp only [BitVec.getLsbD_xor, step_bit]
  cases x.getLsbD 0 <;> cases y.getLsbD 0 <;> cases x.getLsbD (i + 1) <;> cases y.getLsbD (i + 1) <;> cases poly.getLsbD i <;> rfl

theorem step_zero : step 0#32 = 0#32 := by decide

theorem steps_xor (n : Nat) (x y : BitVec 32) : steps n (x ^^^ y) = steps n x ^^^ steps n y := by
  induction n generalizing x y with
  | zero => rfl
  | succ n ih => simp only [steps, step_xor, ih]

theorem steps_zero (n : Nat) : steps n 0#32 = 0#32 := by
  induction n with
  | zero => rfl
  | succ n ih => simp only [steps, step_zero, ih]

theorem steps_add (n m : Nat) (x : BitVec 32) : steps (n + m) x = steps m (steps n x) := by
  induction n generalizing x with
  | zero => simp [steps]
  | succ n ih => rw [Nat.succ_add]; simp only [steps, ih]

theorem bsteps_add (n m : Nat) (x : BitVec 32) : bsteps (n + m) x = bsteps m (bsteps n x) := by
  induction n generalizing x with
  | zero => simp [bsteps]
  | succ n ih => rw [Nat.succ_add]; simp only [bsteps, ih]

theorem poly_top : poly.getLsbD 31 = true := by decide

theorem bstep_bit (x : BitVec 32) (i : Nat) (hi : i < 32) : (bstep x).getLsbD i = if i = 0 then x.getLsbD 31 else (x.getLsbD (i - 1) ^^ (x.getLsbD 31 && poly.getLsbD (i - 1))) := by
  unfold bstep
  cases hx : x.getLsbD 31
  · rw [if_neg (by decide), BitVec.getLsbD_shiftLeft]
    by_cases h : i = 0
    · subst h; rfl
    · rw [if_neg h]
      have : ¬ i < 1 := by omega
      simp [hi, this]
  · rw [if_pos rfl, BitVec.getLsbD_or, BitVec.getLsbD_shiftLeft, BitVec.getLsbD_xor]
    by_cases h : i = 0
    · subst h; rfl
    · rw [if_neg h]
      have h1 : ¬ i < 1 := by omega
      have h2 : (1#32).getLsbD i = false := by
        rw [show (1#32) = BitVec.ofNat 32 1 from rfl, BitVec.getLsbD_ofNat]
        have : Nat.testBit 1 i = false := Nat.testBit_lt_two_pow (Nat.lt_of_lt_of_le (show 1 < 2 ^ 1 by decide) (Nat.pow_le_pow_right (by decide) (by omega)))
        simp [this]
      rw [h2]
      simp [hi, h1]

theorem back_step (x : BitVec 32) : bstep (step x) = x := by
  apply BitVec.eq_of_getLsbD_eq
  intro i hi
  rw [bstep_bit _ _ hi]
  have h32 : x.getLsbD 32 = false := BitVec.getLsbD_of_ge _ _ (by omega)
  by_cases h : i = 0
  · subst h
    rw [if_pos rfl, step_bit, poly_top, h32]; simp
  · rw [if_neg h]
    have e : i - 1 + 1 = i := by omega
    simp only [step_bit, poly_top, h32, e]
    cases x.getLsbD 0 <;> cases x.getLsbD i <;> cases poly.getLsbD (i - 1) <;> rfl

theorem step_back (x : BitVec 32) : step (bstep x) = x := by
  apply BitVec.eq_of_getLsbD_eq
  intro i hi
  rw [step_bit, bstep_bit _ 0 (by omega), if_pos rfl]
  by_cases h : i = 31
  · subst h
    rw [BitVec.getLsbD_of_ge _ 32 (by omega), poly_top]; simp
  · rw [bstep_bit _ (i + 1) (by omega), if_neg (by omega), Nat.add_sub_cancel]
    cases x.getLsbD 31 <;> cases x.getLsbD i <;> cases poly.getLsbD i <;> rfl

theorem back_steps (n : Nat) (x : BitVec 32) : bsteps n (steps n x) = x := by
  induction n generalizing x with
  | zero => rfl
  | succ n ih =>
    rw [steps_add n 1, Nat.add_comm n 1, bsteps_add 1 n]
    simp only [steps, bsteps, back_step, ih]

theorem steps_back (n : Nat) (x : BitVec 32) : steps n (bsteps n x) = x := by
  induction n generalizing x with
  | zero => rfl
  | succ n ih =>
    rw [bsteps_add n 1, Nat.add_comm n 1, steps_add 1 n]
    simp only [steps, bsteps, step_back, ih]

theorem steps_inj (n : Nat) (x y : BitVec 32) (h : steps n x = steps n y) : x = y := by
  rw [← back_steps n x, h, back_steps]

theorem steps_ne (n : Nat) (x : BitVec 32) (h : x ≠ 0#32) : steps n x ≠ 0#32 := by
  intro e
  rw [← steps_zero n] at e
  exact h (steps_inj n _ _ e)

/-- a byte as a word -/
def wB (b : UInt8) : BitVec 32 := BitVec.ofNat 32 b.toNat

/-- a byte is taken in -/
def put1 (x : BitVec 32) (b : UInt8) : BitVec 32 := steps 8 (x ^^^ wB b)
def puts (x : BitVec 32) (l : List UInt8) : BitVec 32 := l.foldl put1 x

theorem puts_append (x : BitVec 32) (a b : List UInt8) : puts x (a ++ b) = puts (puts x a) b := by simp [puts]

theorem puts_lin (l : List UInt8) (x y : BitVec 32) : puts (x ^^^ y) l = steps (8 * l.length) x ^^^ puts y l := by
  induction l generalizing x y with
  | nil => simp [puts, steps]
  | cons b r ih =>
    have e : put1 (x ^^^ y) b = steps 8 x ^^^ put1 y b := by
      unfold put1
      rw [BitVec.xor_assoc, steps_xor]
    show puts (put1 (x ^^^ y) b) r = _ ^^^ puts (put1 y b) r
    rw [e, ih, List.length_cons, Nat.mul_succ, Nat.add_comm, steps_add]

/-- the sum of bytes -/
def sumB (l : List UInt8) : BitVec 32 := ~~~ (puts (~~~ 0#32) l)

/-- four bits at once, by a table -/
theorem step_even (x : BitVec 32) (h : x.getLsbD 0 = false) : step x = x >>> 1 := by
  unfold step; rw [h]; simp

theorem four_bits (x : BitVec 32) : steps 4 x = (x >>> 4) ^^^ steps 4 (x &&& 15#32) := by
  have e : x = ((x >>> 4) <<< 4) ^^^ (x &&& 15#32) := by
    apply BitVec.eq_of_getLsbD_eq
    intro i hi
    simp only [BitVec.getLsbD_xor, BitVec.getLsbD_shiftLeft, BitVec.getLsbD_ushiftRight, BitVec.getLsbD_and]
    by_cases h : i < 4
    · have : (15#32).getLsbD i = true := by
        rcases (show i = 0 ∨ i = 1 ∨ i = 2 ∨ i = 3 from by omega) with rfl | rfl | rfl | rfl <;> decide
      simp [h, this]
    · have h15 : (15#32).getLsbD i = false := by
        rw [show (15#32) = BitVec.ofNat 32 15 from rfl, BitVec.getLsbD_ofNat]
        have : Nat.testBit 15 i = false := Nat.testBit_lt_two_pow (Nat.lt_of_lt_of_le (show 15 < 2 ^ 4 by decide) (Nat.pow_le_pow_right (by decide) (by omega)))
        simp [this]
      have h4 : 4 + (i - 4) = i := by omega
      rw [h15, h4]
      simp [h, hi]
  have h0 : steps 4 ((x >>> 4) <<< 4) = x >>> 4 := by
    have a : ∀ k, (k + 1 ≤ 4) → step ((x >>> 4) <<< (k + 1)) = (x >>> 4) <<< k := by
      intro k hk
      rw [step_even _ (by simp)]
      apply BitVec.eq_of_getLsbD_eq
      intro i hi
      simp only [BitVec.getLsbD_shiftLeft, BitVec.getLsbD_ushiftRight]
      by_cases h1 : 1 + i < 32
      · by_cases h2 : i < k
        · have : 1 + i < k + 1 := by omega
          simp [h1, h2, this]
        · have h3 : ¬ (1 + i < k + 1) := by omega
          have h4 : 1 + i - (k + 1) = i - k := by omega
          simp [h1, h2, h3, h4, hi]
      · have h5 : i = 31 := by omega
        subst h5
        have : x.getLsbD (4 + (31 - k)) = false := BitVec.getLsbD_of_ge _ _ (by omega)
        simp [this]
    show step (step (step (step ((x >>> 4) <<< 4)))) = _
    rw [a 3 (by omega), a 2 (by omega), a 1 (by omega), a 0 (by omega)]
    simp
  conv => lhs; rw [e]
  rw [steps_xor, h0]

end Go.Proofs.Ytbiclekpkijknaa
