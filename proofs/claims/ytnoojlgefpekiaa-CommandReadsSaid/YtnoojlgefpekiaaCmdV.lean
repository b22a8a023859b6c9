/-
  The reference's May: plain. (Printed by cmd_rmay.py.)
-/
import Derived.Test.YtnoojlgefpekiaaCmdR
namespace Go.Proofs.Ytnoojlgefpekiaa
open Go.RowKit

/-- whether two commands are the same -/
def eqC (c d : Cm) : Bool := decide (c.kind = d.kind) && decide (c.node = d.node) && decide (c.serial = d.serial) && decide (c.dead = d.dead) && decide (c.was = d.was) && decide (c.lo = d.lo) && decide (c.hi = d.hi) && decide (c.mode = d.mode)
theorem eqC_iff (c d : Cm) : eqC c d = true ↔ c = d := by
  rcases c with ⟨a0, a1, a2, a3, a4, a5, a6, a7⟩
  rcases d with ⟨b0, b1, b2, b3, b4, b5, b6, b7⟩
  simp [eqC, and_assoc]
theorem eqC_self (c : Cm) : eqC c c = true := (eqC_iff c c).2 rfl

set_option maxHeartbeats 1000000 in
theorem run_eqC (c d : Cm) (w : World) : (binOp .eql 42 (.agg (cC c)) (.agg (cC d))).run Try.prog w = .ok (.bool (eqC c d)) w := by
  simp only [cC, eqC]
  generalize c.kind = a0, c.node = a1, c.serial = a2, c.dead = a3, c.was = a4, c.lo = a5, c.hi = a6, c.mode = a7
  generalize d.kind = b0, d.node = b1, d.serial = b2, d.dead = b3, d.was = b4, d.lo = b5, d.hi = b6, d.mode = b7
  simp [go_sem]
  by_cases h0 : a0 = b0
  case neg => simp [h0]
  subst h0
  simp only [if_true, decide_true, Bool.true_and]
  by_cases h1 : a1 = b1
  case neg => simp [h1]
  subst h1
  simp only [if_true, decide_true, Bool.true_and]
  by_cases h2 : a2 = b2
  case neg => simp [h2]
  subst h2
  simp only [if_true, decide_true, Bool.true_and]
  by_cases h3 : a3 = b3
  case neg => simp [h3]
  subst h3
  simp only [if_true, decide_true, Bool.true_and]
  by_cases h4 : a4 = b4
  case neg => simp [h4]
  subst h4
  simp only [if_true, decide_true, Bool.true_and]
  by_cases h5 : a5 = b5
  case neg => simp [h5]
  subst h5
  simp only [if_true, decide_true, Bool.true_and]
  by_cases h6 : a6 = b6
  case neg => simp [h6]
  subst h6
  simp only [if_true, decide_true, Bool.true_and]
  by_cases h7 : a7 = b7
  case neg => simp [h7]
  subst h7
  simp only [if_true, decide_true]

theorem may_0 (c : Cm) (hk : c.kind = 0) (hn : keyB c.node = true) (h1 : 1 ≤ c.serial) (h2 : c.serial ≤ 2147483648) : mayC c = (eqC c ⟨c.kind, c.node, c.serial, 0, 0, 0, 0, 0⟩) := by
  have e : mayC c = onlyB c false false false false := by
    unfold mayC
    simp [hn, h1, h2, hk]
  rw [e]
  simp only [onlyB, eqC, spanB]
  rw [Bool.eq_iff_iff]
  simp
  try omega

theorem may_1 (c : Cm) (hk : c.kind = 1) (hn : keyB c.node = true) (h1 : 1 ≤ c.serial) (h2 : c.serial ≤ 2147483648) : mayC c = (eqC c ⟨c.kind, c.node, c.serial, 0, 0, 0, 0, 0⟩) := by
  have e : mayC c = onlyB c false false false false := by
    unfold mayC
    simp [hn, h1, h2, hk]
  rw [e]
  simp only [onlyB, eqC, spanB]
  rw [Bool.eq_iff_iff]
  simp
  try omega

theorem may_2 (c : Cm) (hk : c.kind = 2) (hn : keyB c.node = true) (h1 : 1 ≤ c.serial) (h2 : c.serial ≤ 2147483648) : mayC c = (eqC c ⟨c.kind, c.node, c.serial, 0, 0, c.lo, c.hi, c.mode⟩ && (spanB c && (decide (c.mode = 1) || decide (c.mode = 2)))) := by
  have e : mayC c = onlyB c true true false false := by
    unfold mayC
    simp [hn, h1, h2, hk]
  rw [e]
  simp only [onlyB, eqC, spanB]
  rw [Bool.eq_iff_iff]
  simp
  try omega

theorem may_3 (c : Cm) (hk : c.kind = 3) (hn : keyB c.node = true) (h1 : 1 ≤ c.serial) (h2 : c.serial ≤ 2147483648) : mayC c = (eqC c ⟨c.kind, c.node, c.serial, 0, 0, c.lo, c.hi, 0⟩ && spanB c) := by
  have e : mayC c = onlyB c true false false false := by
    unfold mayC
    simp [hn, h1, h2, hk]
  rw [e]
  simp only [onlyB, eqC, spanB]
  rw [Bool.eq_iff_iff]
  simp
  try omega

theorem may_4 (c : Cm) (hk : c.kind = 4) (hn : keyB c.node = true) (h1 : 1 ≤ c.serial) (h2 : c.serial ≤ 2147483648) : mayC c = (eqC c ⟨c.kind, c.node, c.serial, c.dead, c.was, 0, 0, 0⟩ && (keyB c.dead && (decide (c.was = 0) || keyB c.was))) := by
  have e : mayC c = onlyB c false false true true := by
    unfold mayC
    simp [hn, h1, h2, hk]
  rw [e]
  simp only [onlyB, eqC, spanB]
  generalize keyB c.dead = d, keyB c.was = u
  cases d <;> cases u <;> (rw [Bool.eq_iff_iff]; simp <;> omega)

theorem may_5 (c : Cm) (hk : c.kind = 5) (hn : keyB c.node = true) (h1 : 1 ≤ c.serial) (h2 : c.serial ≤ 2147483648) : mayC c = (eqC c ⟨c.kind, c.node, c.serial, c.dead, 0, 0, 0, 0⟩ && keyB c.dead) := by
  have e : mayC c = onlyB c false false true false := by
    unfold mayC
    simp [hn, h1, h2, hk]
  rw [e]
  simp only [onlyB, eqC, spanB]
  generalize keyB c.dead = d, keyB c.was = u
  cases d <;> (rw [Bool.eq_iff_iff]; simp <;> omega)

theorem may_other (c : Cm) (h0 : ¬ c.kind = 0) (h1 : ¬ c.kind = 1) (h2 : ¬ c.kind = 2) (h3 : ¬ c.kind = 3) (h4 : ¬ c.kind = 4) (h5 : ¬ c.kind = 5) : mayC c = false := by
  unfold mayC
  simp [h0, h1, h2, h3, h4, h5]
theorem bool_or (b : Bool) : b = true ∨ b = false := by cases b <;> simp

end Go.Proofs.Ytnoojlgefpekiaa
