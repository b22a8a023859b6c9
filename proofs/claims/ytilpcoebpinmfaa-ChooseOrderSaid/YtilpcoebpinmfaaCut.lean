/-
  A row of records cut in two.
-/
import Derived.Test.YtilpcoebpinmfaaLoad
import Derived.WalkSpells
namespace Go.Proofs.Ytilpcoebpinmfaa
open Go.RowKit

section
variable {ρ : Operand → Value} {dst : Option Tmp} {ty : TypeId} {pos : String} {af : Array Edge} {gd : Option (Nat × Bool)} {w : World} {x y n c d : Nat} {A : Option Addr}

/-- a slice's own form -/
def Sl (A : Option Addr) (n c : Nat) : Prop := (A = none ∧ n = 0 ∧ c = 0) ∨ (∃ ad, A = some ad ∧ n ≤ c ∧ c ≤ 9223372036854775807)

theorem run_cut_hi (hs : Sl A n c) (hd : d ≤ n) (h1 : ρ (.tmp x) = .slice A n c) (h2 : ρ (.tmp y) = .int .i64 (d : Int)) :
    (execOp ρ ⟨dst, .slice 24 (.tmp x) none (some (.tmp y)) none, ty, pos, af, gd⟩).run Try.prog w = .ok (.value (.slice A d c)) w := by
  rcases hs with ⟨rfl, rfl, rfl⟩ | ⟨ad, rfl, hnc, hc⟩
  · obtain rfl : d = 0 := by omega
    simp [execOp, go_sem, h1, h2]
  · have e1 : (0 : Int) ≤ (d : Int) := by omega
    have e2 : (d : Int) ≤ (c : Int) := by omega
    simp [execOp, go_sem, h1, h2, e1, e2]

theorem run_cut_lo (hs : Sl A n c) (hd : d ≤ n) (h1 : ρ (.tmp x) = .slice A n c) (h2 : ρ (.tmp y) = .int .i64 (d : Int)) :
    ∃ A2 c2, (execOp ρ ⟨dst, .slice 24 (.tmp x) (some (.tmp y)) none none, ty, pos, af, gd⟩).run Try.prog w = .ok (.value (.slice A2 (n - d) c2)) w ∧ (0 < n - d → ∃ ad, A = some ad ∧ A2 = some (ad.add (d * 4))) := by
  rcases hs with ⟨rfl, rfl, rfl⟩ | ⟨ad, rfl, hnc, hc⟩
  · obtain rfl : d = 0 := by omega
    refine ⟨none, 0, ?_, fun h => absurd h (by omega)⟩
    simp [execOp, go_sem, h1, h2]
  · have e1 : (0 : Int) ≤ (d : Int) := by omega
    have e2 : (d : Int) ≤ (n : Int) := by omega
    by_cases hdc : c = d
    · refine ⟨some ad, 0, ?_, fun h => absurd h (by omega)⟩
      subst hdc
      obtain rfl : n = c := by omega
      simp [execOp, go_sem, h1, h2]
    · refine ⟨some (ad.add (d * 4)), c - d, ?_, fun _ => ⟨ad, rfl, rfl⟩⟩
      simp [execOp, go_sem, h1, h2, e1, e2, hdc]
end

theorem wrap_in (x : Int) (h1 : -9223372036854775808 ≤ x) (h2 : x ≤ 9223372036854775807) : wrap64 x = x := by
  unfold wrap64
  omega

theorem cut_in (cut : Int) (n : Nat) (hn : n ≤ 60) : ∃ d : Nat, d ≤ n ∧ (wrap64 (wrap64 (cut.tmod ((n : Int) + 1) + n) + 1)).tmod ((n : Int) + 1) = (d : Int) := by
  have h1 := Int.tmod_lt_of_pos cut (show (0 : Int) < (n : Int) + 1 by omega)
  have h2 := Int.lt_tmod_of_pos cut (show (0 : Int) < (n : Int) + 1 by omega)
  rw [wrap_in (cut.tmod ((n : Int) + 1) + n) (by omega) (by omega), wrap_in (cut.tmod ((n : Int) + 1) + n + 1) (by omega) (by omega), Int.tmod_eq_emod_of_nonneg (by omega)]
  have h3 := Int.emod_nonneg (cut.tmod ((n : Int) + 1) + n + 1) (show (n : Int) + 1 ≠ 0 by omega)
  have h4 := Int.emod_lt_of_pos (cut.tmod ((n : Int) + 1) + n + 1) (show (0 : Int) < (n : Int) + 1 by omega)
  exact ⟨((cut.tmod ((n : Int) + 1) + n + 1) % ((n : Int) + 1)).toNat, by omega, by omega⟩

end Go.Proofs.Ytilpcoebpinmfaa
