/-
  Contracts of commands: only, joined. (Printed by cmd_may.py.)
-/
import Derived.Test.YtnoojlgefpekiaaCmdC0
import Derived.Test.YtnoojlgefpekiaaCmdC1
import Derived.Test.YtnoojlgefpekiaaCmdC2
import Derived.Test.YtnoojlgefpekiaaCmdC3
import Derived.Test.YtnoojlgefpekiaaCmdC4
namespace Go.Proofs.Ytnoojlgefpekiaa
open Go.RowKit

theorem only_ffff (g : Nat) (T : TypeId) (c : Cm) (b : Value) (w : World) (hb : Blk w g T (cO c b)) :
    Calls Try.prog 37 #[.pointer (some ⟨g, 0, none⟩), .bool false, .bool false, .bool false, .bool false] w fun e w' => e = .returned (.bool (onlyB c false false false false)) ∧ Below w.heap.size w w' := by
  by_cases hL : c.lo = 0
  · skip
    by_cases hH : c.hi = 0
    · skip
      by_cases hM : c.mode = 0
      · skip
        by_cases hD : c.dead = 0
        · skip
          by_cases hW : c.was = 0
          · skip
            exact on_ffff_ttttt g T c b w hb hL hH hM hD hW
          · skip
            exact on_ffff_ttttf g T c b w hb hL hH hM hD hW
        · skip
          exact on_ffff_tttf g T c b w hb hL hH hM hD
      · skip
        exact on_ffff_ttf g T c b w hb hL hH hM
    · skip
      exact on_ffff_tf g T c b w hb hL hH
  · skip
    exact on_ffff_f g T c b w hb hL

theorem only_ttff (g : Nat) (T : TypeId) (c : Cm) (b : Value) (w : World) (hb : Blk w g T (cO c b)) :
    Calls Try.prog 37 #[.pointer (some ⟨g, 0, none⟩), .bool true, .bool true, .bool false, .bool false] w fun e w' => e = .returned (.bool (onlyB c true true false false)) ∧ Below w.heap.size w w' := by
  cases hS : spanB c with
  | true =>
    by_cases hM : c.mode = 1
    · skip
      by_cases hD : c.dead = 0
      · skip
        by_cases hW : c.was = 0
        · skip
          exact on_ttff_tttt g T c b w hb hS hM hD hW
        · skip
          exact on_ttff_tttf g T c b w hb hS hM hD hW
      · skip
        exact on_ttff_ttf g T c b w hb hS hM hD
    · skip
      by_cases hM2 : c.mode = 2
      · skip
        by_cases hD : c.dead = 0
        · skip
          by_cases hW : c.was = 0
          · skip
            exact on_ttff_tfttt g T c b w hb hS hM hM2 hD hW
          · skip
            exact on_ttff_tfttf g T c b w hb hS hM hM2 hD hW
        · skip
          exact on_ttff_tftf g T c b w hb hS hM hM2 hD
      · skip
        exact on_ttff_tff g T c b w hb hS hM hM2
  | false =>
    exact on_ttff_f g T c b w hb hS

theorem only_tfff (g : Nat) (T : TypeId) (c : Cm) (b : Value) (w : World) (hb : Blk w g T (cO c b)) :
    Calls Try.prog 37 #[.pointer (some ⟨g, 0, none⟩), .bool true, .bool false, .bool false, .bool false] w fun e w' => e = .returned (.bool (onlyB c true false false false)) ∧ Below w.heap.size w w' := by
  cases hS : spanB c with
  | true =>
    by_cases hM : c.mode = 0
    · skip
      by_cases hD : c.dead = 0
      · skip
        by_cases hW : c.was = 0
        · skip
          exact on_tfff_tttt g T c b w hb hS hM hD hW
        · skip
          exact on_tfff_tttf g T c b w hb hS hM hD hW
      · skip
        exact on_tfff_ttf g T c b w hb hS hM hD
    · skip
      exact on_tfff_tf g T c b w hb hS hM
  | false =>
    exact on_tfff_f g T c b w hb hS

theorem only_fftt (g : Nat) (T : TypeId) (c : Cm) (b : Value) (w : World) (hb : Blk w g T (cO c b)) :
    Calls Try.prog 37 #[.pointer (some ⟨g, 0, none⟩), .bool false, .bool false, .bool true, .bool true] w fun e w' => e = .returned (.bool (onlyB c false false true true)) ∧ Below w.heap.size w w' := by
  by_cases hL : c.lo = 0
  · skip
    by_cases hH : c.hi = 0
    · skip
      by_cases hM : c.mode = 0
      · skip
        cases hD : keyB c.dead with
        | true =>
          by_cases hW : c.was = 0
          · skip
            exact on_fftt_ttttt g T c b w hb hL hH hM hD hW
          · skip
            cases hK : keyB c.was with
            | true =>
              exact on_fftt_ttttft g T c b w hb hL hH hM hD hW hK
            | false =>
              exact on_fftt_ttttff g T c b w hb hL hH hM hD hW hK
        | false =>
          exact on_fftt_tttf g T c b w hb hL hH hM hD
      · skip
        exact on_fftt_ttf g T c b w hb hL hH hM
    · skip
      exact on_fftt_tf g T c b w hb hL hH
  · skip
    exact on_fftt_f g T c b w hb hL

theorem only_fftf (g : Nat) (T : TypeId) (c : Cm) (b : Value) (w : World) (hb : Blk w g T (cO c b)) :
    Calls Try.prog 37 #[.pointer (some ⟨g, 0, none⟩), .bool false, .bool false, .bool true, .bool false] w fun e w' => e = .returned (.bool (onlyB c false false true false)) ∧ Below w.heap.size w w' := by
  by_cases hL : c.lo = 0
  · skip
    by_cases hH : c.hi = 0
    · skip
      by_cases hM : c.mode = 0
      · skip
        cases hD : keyB c.dead with
        | true =>
          by_cases hW : c.was = 0
          · skip
            exact on_fftf_ttttt g T c b w hb hL hH hM hD hW
          · skip
            exact on_fftf_ttttf g T c b w hb hL hH hM hD hW
        | false =>
          exact on_fftf_tttf g T c b w hb hL hH hM hD
      · skip
        exact on_fftf_ttf g T c b w hb hL hH hM
    · skip
      exact on_fftf_tf g T c b w hb hL hH
  · skip
    exact on_fftf_f g T c b w hb hL

end Go.Proofs.Ytnoojlgefpekiaa
