/-
  Helpers for commands' regions: the ends of regions, rows of ints.
-/
import Derived.Test.YtnoojlgefpekiaaCmdF
import Derived.Test.YtnoojlgefpekiaaCmdG
import Derived.Test.YtnoojlgefpekiaaCmdI
namespace Go.Proofs.Ytnoojlgefpekiaa
open Go.RowKit

/-- a call, at the end of a region -/
theorem tail_call {P : Program} {o : Oper} {a : Act} {W W' : World} {K : Act → World → Prop} {Q : Exit → Act → World → Prop} {f : FuncId} {args : Array Value} {R : Ending → World → Prop}
    (hr : (execOp a.eval o).run P W = .ok (.enter f args) W') (hc : Calls P f args W' R) (h : ∀ e w'', R e w'' → ∃ v, e = .returned v ∧ K (a.put o.dst v) w'') : o.wp P a W K Q := by
  unfold Oper.wp
  rw [hr]
  exact hc.mono fun e w'' he => by
    obtain ⟨v, rfl, hk⟩ := h e w'' he
    exact hk

/-- the block that a slice leads to -/
def sOf : Value → Nat
  | .slice (some a) _ _ => a.block
  | _ => 0
theorem st_row (n : Nat) (t : TypeId) (cs : Array Value) : Stable (fun q_ _ W => q_ = .slice (some ⟨sOf q_, 0, none⟩) n n ∧ Blk W (sOf q_) t cs) := by
  rintro x y W W' hb ⟨hx, hr⟩
  exact ⟨hx, hr.below hb hr.lt⟩
/-- a block of ints reads as a row -/
theorem Blk.rd {w : World} {g : Nat} {t : TypeId} {zs : List Int} (h : Blk w g t (cI zs).toArray) : Rd w w.heap.size (some ⟨g, 0, none⟩) zs.length (cI zs) := by
  refine ⟨by simp [cI], fun _ => ⟨_, rfl, h.lt, fun j u hu => ?_⟩⟩
  have e : (⟨g, 0, none⟩ : Addr).add j = ⟨g, j, none⟩ := by unfold Addr.add; split <;> simp_all
  rw [e, h.cell j]
  simpa using hu

end Go.Proofs.Ytnoojlgefpekiaa
