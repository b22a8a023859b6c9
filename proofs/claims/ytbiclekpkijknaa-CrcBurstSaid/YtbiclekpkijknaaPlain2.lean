/-
  Plain laws of sums: two sums together, what closes a sum.
-/
import Derived.Test.YtbiclekpkijknaaPlain
namespace Go.Proofs.Ytbiclekpkijknaa

theorem not_xor_not (x y : BitVec 32) : ~~~ (x ^^^ y) = ~~~ x ^^^ y := by
  apply BitVec.eq_of_getLsbD_eq
  intro i hi
  simp only [BitVec.getLsbD_not, BitVec.getLsbD_xor]
  cases x.getLsbD i <;> cases y.getLsbD i <;> simp [hi]

theorem xor_cancel (x y z : BitVec 32) : (x ^^^ y) ^^^ (x ^^^ z) = y ^^^ z := by
  apply BitVec.eq_of_getLsbD_eq
  intro i _
  simp only [BitVec.getLsbD_xor]
  cases x.getLsbD i <;> cases y.getLsbD i <;> cases z.getLsbD i <;> rfl

theorem puts_zero (l : List UInt8) (x : BitVec 32) : puts x l = steps (8 * l.length) x ^^^ puts 0#32 l := by
  have := puts_lin l x 0#32
  rw [BitVec.xor_zero] at this
  exact this

theorem not_eq_xor (x : BitVec 32) : ~~~ x = (~~~ 0#32) ^^^ x := by
  apply BitVec.eq_of_getLsbD_eq
  intro i hi
  simp only [BitVec.getLsbD_not, BitVec.getLsbD_xor, BitVec.getLsbD_zero]
  cases x.getLsbD i <;> simp [hi]

/-- the sum of two rows of bytes out of their sums -/
theorem both_sum (a b : List UInt8) : steps (8 * b.length) (sumB a) ^^^ sumB b = sumB (a ++ b) := by
  unfold sumB
  rw [puts_append, puts_zero b (puts _ a), puts_zero b (~~~ 0#32), not_eq_xor (puts _ a), steps_xor, not_xor_not, not_xor_not]
  rw [not_eq_xor (steps _ (~~~ 0#32)), not_eq_xor (steps _ (puts _ a))]
  apply BitVec.eq_of_getLsbD_eq
  intro i _
  simp only [BitVec.getLsbD_xor]
  cases (steps (8 * b.length) (~~~ 0#32)).getLsbD i <;> cases (steps (8 * b.length) (puts (~~~ 0#32) a)).getLsbD i <;> cases (puts 0#32 b).getLsbD i <;> cases (~~~ 0#32 : BitVec 32).getLsbD i <;> rfl

theorem sum_add (a b : List UInt8) : ~~~ (puts (~~~ sumB a) b) = sumB (a ++ b) := by
  unfold sumB
  rw [BitVec.not_not, puts_append]

end Go.Proofs.Ytbiclekpkijknaa
