/-
  Arguments that are commands, opened to cells.
-/
import Derived.Test.YtnoojlgefpekiaaCmdO
import Derived.Lib.SmallJoins
import Derived.Deep.Slices
import Derived.Deep.Fields
import Derived.ChangeSame
namespace Go.Proofs.Ytnoojlgefpekiaa
open Go.Joins Go.ChangeShapes Go.WideShapes Go.RowKit Go.Deep

section
variable {H : Type} {enc : TypeId × Value → H} {w : World} {base : Nat} {spare : Nat → Bool} {held : Bool}

theorem cells42 : Try.prog.cellsOf 42 = 8 := by kernel_rfl
theorem cells40 : Try.prog.cellsOf 40 = 2 := by kernel_rfl
theorem cells38 : Try.prog.cellsOf 38 = 1 := by kernel_rfl
theorem cells3 : Try.prog.cellsOf 3 = 1 := by kernel_rfl

theorem wf8 {n : Int} (h : (Lit.int .i8 n).wf = true) : -128 ≤ n ∧ n ≤ 127 := by
  simp [Lit.wf, IntKind.min, IntKind.max, IntKind.signed, IntKind.bits] at h
  omega

/-- a command that came in -/
theorem open_cmd {r : Reach} {b0 : Nat} {v : Value} {d : DataW H} {p : List MemPlace} (hv : Value.okWide Try.prog w r b0 42 v) (h : DataW.Trod enc Try.prog w base spare held 42 v d p) :
    ∃ c : Cm, v = .agg (cC c) ∧ Wf c := by
  obtain ⟨cs, rfl, hsz⟩ := okWide_struct Try.underlying42 hv
  obtain ⟨l⟩ := cs
  match l, hsz.trans cells42 with
  | [c0, c1, c2, c3, c4, c5, c6, c7], _ =>
    obtain ⟨fuel, hf⟩ := h
    obtain ⟨xs, n, _, hx, _, hlen, hg⟩ := DataW.trod_struct Try.underlying42 hf
    match xs, hlen with
    | [y0, y1, y2, y3, y4, y5, y6], _ =>
      have g0 : DataW.trod enc Try.prog w base spare held n 38 [c0] = some y0 := by
        have g := hg 0 _ rfl
        change DataW.trod enc Try.prog w base spare held n 38 ((([c0, c1, c2, c3, c4, c5, c6, c7] : List Value).drop 0).take (Try.prog.cellsOf 38)) = some y0 at g
        rw [cells38] at g
        exact g
      have g1 : DataW.trod enc Try.prog w base spare held n 3 [c1] = some y1 := by
        have g := hg 1 _ rfl
        change DataW.trod enc Try.prog w base spare held n 3 ((([c0, c1, c2, c3, c4, c5, c6, c7] : List Value).drop 1).take (Try.prog.cellsOf 3)) = some y1 at g
        rw [cells3] at g
        exact g
      have g2 : DataW.trod enc Try.prog w base spare held n 3 [c2] = some y2 := by
        have g := hg 2 _ rfl
        change DataW.trod enc Try.prog w base spare held n 3 ((([c0, c1, c2, c3, c4, c5, c6, c7] : List Value).drop 2).take (Try.prog.cellsOf 3)) = some y2 at g
        rw [cells3] at g
        exact g
      have g3 : DataW.trod enc Try.prog w base spare held n 3 [c3] = some y3 := by
        have g := hg 3 _ rfl
        change DataW.trod enc Try.prog w base spare held n 3 ((([c0, c1, c2, c3, c4, c5, c6, c7] : List Value).drop 3).take (Try.prog.cellsOf 3)) = some y3 at g
        rw [cells3] at g
        exact g
      have g4 : DataW.trod enc Try.prog w base spare held n 3 [c4] = some y4 := by
        have g := hg 4 _ rfl
        change DataW.trod enc Try.prog w base spare held n 3 ((([c0, c1, c2, c3, c4, c5, c6, c7] : List Value).drop 4).take (Try.prog.cellsOf 3)) = some y4 at g
        rw [cells3] at g
        exact g
      have g5 : DataW.trod enc Try.prog w base spare held n 40 [c5, c6] = some y5 := by
        have g := hg 5 _ rfl
        change DataW.trod enc Try.prog w base spare held n 40 ((([c0, c1, c2, c3, c4, c5, c6, c7] : List Value).drop 5).take (Try.prog.cellsOf 40)) = some y5 at g
        rw [cells40] at g
        exact g
      have g6 : DataW.trod enc Try.prog w base spare held n 38 [c7] = some y6 := by
        have g := hg 6 _ rfl
        change DataW.trod enc Try.prog w base spare held n 38 ((([c0, c1, c2, c3, c4, c5, c6, c7] : List Value).drop 7).take (Try.prog.cellsOf 38)) = some y6 at g
        rw [cells38] at g
        exact g
      obtain ⟨z0, z1, m, _, _, s0, s1⟩ := trod_struct2 Try.underlying40 g5
      have q0 : DataW.trod enc Try.prog w base spare held m 3 [c5] = some z0 := by
        change DataW.trod enc Try.prog w base spare held m 3 ((([c5, c6] : List Value).drop 0).take (Try.prog.cellsOf 3)) = some z0 at s0
        rw [cells3] at s0
        exact s0
      have q1 : DataW.trod enc Try.prog w base spare held m 3 [c6] = some z1 := by
        change DataW.trod enc Try.prog w base spare held m 3 ((([c5, c6] : List Value).drop 1).take (Try.prog.cellsOf 3)) = some z1 at s1
        rw [cells3] at s1
        exact s1
      obtain ⟨k, ek, _, wk⟩ := DataW.trod_int Try.underlying38 g0
      obtain ⟨b, eb, _, wb⟩ := DataW.trod_int Try.underlying3 g1
      obtain ⟨s, es, _, ws⟩ := DataW.trod_int Try.underlying3 g2
      obtain ⟨dd, edd, _, wdd⟩ := DataW.trod_int Try.underlying3 g3
      obtain ⟨ws, ews, _, wws⟩ := DataW.trod_int Try.underlying3 g4
      obtain ⟨lo, elo, _, wlo⟩ := DataW.trod_int Try.underlying3 q0
      obtain ⟨hi, ehi, _, whi⟩ := DataW.trod_int Try.underlying3 q1
      obtain ⟨md, emd, _, wmd⟩ := DataW.trod_int Try.underlying38 g6
      injection ek with ek; injection eb with eb; injection es with es; injection edd with edd; injection ews with ews; injection elo with elo; injection ehi with ehi; injection emd with emd
      subst ek; subst eb; subst es; subst edd; subst ews; subst elo; subst ehi; subst emd
      exact ⟨⟨k, b, s, dd, ws, lo, hi, md⟩, rfl, wf8 wk, wf8 wmd⟩
end
end Go.Proofs.Ytnoojlgefpekiaa
