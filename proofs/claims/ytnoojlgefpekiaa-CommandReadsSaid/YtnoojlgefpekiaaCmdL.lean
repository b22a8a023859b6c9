/-
  Plain mathematics of commands: what a command that may be has.
-/
import Derived.Test.YtnoojlgefpekiaaCmdPlain
namespace Go.Proofs.Ytnoojlgefpekiaa

theorem key_iff (k : Int) : keyB k = true ↔ 16 ≤ k ∧ k ≤ 1099511627776 := by simp [keyB]
theorem span_iff (c : Cm) : spanB c = true ↔ 0 ≤ c.lo ∧ c.lo ≤ c.hi ∧ c.hi < 64 := by simp [spanB, and_assoc]

theorem only_iff (c : Cm) (s m d k : Bool) : onlyB c s m d k = true ↔
    (if s then spanB c = true else c.lo = 0 ∧ c.hi = 0) ∧ (if m then c.mode = 1 ∨ c.mode = 2 else c.mode = 0) ∧ (if d then keyB c.dead = true else c.dead = 0) ∧ (c.was = 0 ∨ (k = true ∧ keyB c.was = true)) := by
  unfold onlyB
  cases s <;> cases m <;> cases d <;> cases k <;> simp [and_assoc]

/-- what a command that may be has -/
theorem may_has (c : Cm) (h : mayC c = true) : (16 ≤ c.node ∧ c.node ≤ 1099511627776) ∧ (1 ≤ c.serial ∧ c.serial ≤ 2147483648) ∧
    ((c.kind = 0 ∨ c.kind = 1) ∧ onlyB c false false false false = true ∨ c.kind = 2 ∧ onlyB c true true false false = true ∨ c.kind = 3 ∧ onlyB c true false false false = true ∨
      c.kind = 4 ∧ onlyB c false false true true = true ∨ c.kind = 5 ∧ onlyB c false false true false = true) := by
  unfold mayC at h
  simp only [Bool.and_eq_true, decide_eq_true_eq] at h
  obtain ⟨⟨⟨h1, h2⟩, h3⟩, h4⟩ := h
  refine ⟨(key_iff _).1 h1, ⟨h2, h3⟩, ?_⟩
  by_cases k0 : c.kind = 0 ∨ c.kind = 1
  · rw [if_pos k0] at h4; exact .inl ⟨k0, h4⟩
  · rw [if_neg k0] at h4
    by_cases k2 : c.kind = 2
    · rw [if_pos k2] at h4; exact .inr (.inl ⟨k2, h4⟩)
    · rw [if_neg k2] at h4
      by_cases k3 : c.kind = 3
      · rw [if_pos k3] at h4; exact .inr (.inr (.inl ⟨k3, h4⟩))
      · rw [if_neg k3] at h4
        by_cases k4 : c.kind = 4
        · rw [if_pos k4] at h4; exact .inr (.inr (.inr (.inl ⟨k4, h4⟩)))
        · rw [if_neg k4] at h4
          by_cases k5 : c.kind = 5
          · rw [if_pos k5] at h4; exact .inr (.inr (.inr (.inr ⟨k5, h4⟩)))
          · rw [if_neg k5] at h4; cases h4

end Go.Proofs.Ytnoojlgefpekiaa
