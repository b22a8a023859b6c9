/-
  What the laws on tallies share.
-/
import Derived.Test.YtilpcoebpinmfaaWakes
import Derived.Test.YtilpcoebpinmfaaEq
import Derived.Test.YtilpcoebpinmfaaCut
namespace Go.Proofs.Ytilpcoebpinmfaa
open Go.RowKit

theorem great_c {b : Bool} (A : Option Addr) (n c B : Nat) (l : List Rc) (w : World) (hl : RdR w B A n l) (hn : n ≤ 9223372036854775807) (hb : grB l = b) :
    Calls Try.prog 8 #[.slice A n c] w fun e w' => e = .returned (.bool b) ∧ w = w' := by rw [← hb]; exact great_any A n c B l w hl hn
theorem great_one {b : Bool} (g : Nat) (r : Rc) (w : World) (h : Blk w g 23 (rc r)) (hb : grB [r] = b) :
    Calls Try.prog 8 #[.slice (some ⟨g, 0, none⟩) 1 1] w fun e w' => e = .returned (.bool b) ∧ w = w' := great_c _ 1 1 _ [r] w (RdR.one h) (by decide) hb
theorem RdR.below {w w' : World} {B n : Nat} {A : Option Addr} {l : List Rc} (h : RdR w B A n l) (hb : Below B w w') : RdR w' B A n l := by
  refine ⟨h.1, fun hn => ?_⟩
  obtain ⟨ad, e, hl, hc⟩ := h.2 hn
  have hk : ∀ j, w'.cell? (ad.add j) = w.cell? (ad.add j) := fun j => hb.cell (by rw [blk_add]; exact hl)
  refine ⟨ad, e, hl, fun k r hr => ?_⟩
  obtain ⟨q0, q1, q2, q3⟩ := hc k r hr
  exact ⟨(hk _).trans q0, (hk _).trans q1, (hk _).trans q2, (hk _).trans q3⟩

theorem count_none (t : Ty) (w : World) : Calls Try.prog 12 #[.agg (tc t), .slice none 0 0] w fun e w' => e = .returned (.agg (tc t)) ∧ Below w.heap.size w w' :=
  count_any t none 0 0 w.heap.size [] w ⟨rfl, fun h => absurd h (by omega)⟩ (Nat.le_refl _) (by decide)

section
variable {ρ : Operand → Value} {dst : Option Tmp} {ty : TypeId} {pos : String} {af : Array Edge} {gd : Option (Nat × Bool)} {w : World} {x y : Nat} {t : Ty}
theorem run_eq_op (h1 : ρ (.tmp x) = .agg (tc t)) (h2 : ρ (.tmp y) = .agg (tc t)) : (execOp ρ ⟨dst, .binOp .eql 30 (.tmp x) (.tmp y) 30, ty, pos, af, gd⟩).run Try.prog w = .ok (.value (.bool true)) w := by
  simp [execOp, go_sem, h1, h2, tc]
theorem run_ne_op (h1 : ρ (.tmp x) = .agg (tc t)) (h2 : ρ (.tmp y) = .agg (tc t)) : (execOp ρ ⟨dst, .binOp .neq 30 (.tmp x) (.tmp y) 30, ty, pos, af, gd⟩).run Try.prog w = .ok (.value (.bool false)) w := by
  simp [execOp, go_sem, h1, h2, tc]
end

theorem run_cut_los {A : Option Addr} {n c d : Nat} (hs : Sl A n c) (hd : d ≤ n) : ∃ A2 c2, (∀ {ρ : Operand → Value} {W : World} {x y : Nat} {dst : Option Tmp} {ty : TypeId} {pos : String} {af : Array Edge} {gd : Option (Nat × Bool)}, ρ (.tmp x) = .slice A n c → ρ (.tmp y) = .int .i64 (d : Int) →
      (execOp ρ ⟨dst, .slice 24 (.tmp x) (some (.tmp y)) none none, ty, pos, af, gd⟩).run Try.prog W = .ok (.value (.slice A2 (n - d) c2)) W) ∧ (0 < n - d → ∃ ad, A = some ad ∧ A2 = some (ad.add (d * 4))) := by
  rcases hs with ⟨rfl, rfl, rfl⟩ | ⟨ad, rfl, hnc, hc⟩
  · obtain rfl : d = 0 := by omega
    refine ⟨none, 0, ?_, fun h => absurd h (by omega)⟩
    intros; rename_i h1 h2
    simp [execOp, go_sem, h1, h2]
  · have e1 : (0 : Int) ≤ (d : Int) := by omega
    have e2 : (d : Int) ≤ (n : Int) := by omega
    by_cases hdc : c = d
    · refine ⟨some ad, 0, ?_, fun h => absurd h (by omega)⟩
      subst hdc
      obtain rfl : n = c := by omega
      intros; rename_i h1 h2
      simp [execOp, go_sem, h1, h2]
    · refine ⟨some (ad.add (d * 4)), c - d, ?_, fun _ => ⟨ad, rfl, rfl⟩⟩
      intros; rename_i h1 h2
      simp [execOp, go_sem, h1, h2, e1, e2, hdc]

end Go.Proofs.Ytilpcoebpinmfaa
