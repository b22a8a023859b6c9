/-
  Arguments that are structs, or rows of structs, opened to cells.
-/
import Derived.Test.YtilpcoebpinmfaaCut
import Derived.Lib.SmallJoins
import Derived.Deep.Slices
import Derived.Deep.Fields
import Derived.ChangeSame
namespace Go.Proofs.Ytilpcoebpinmfaa
open Go.Joins Go.ChangeShapes Go.WideShapes Go.RowKit Go.Deep

section
variable {H : Type} {enc : TypeId × Value → H} {P : Program} {w : World} {base : Nat} {spare : Nat → Bool} {held : Bool}
theorem open_agg8 {r : Reach} {b0 : Nat} {t : TypeId} {f0 f1 f2 f3 f4 f5 f6 f7 : Field} {v : Value} {d : DataW H} {p : List MemPlace} (hs : P.underlying t = some (.struct #[f0, f1, f2, f3, f4, f5, f6, f7]))
    (hone : oneCellFields P #[f0, f1, f2, f3, f4, f5, f6, f7] = true) (hC : P.cellsOf t = 8)
    (hv : Value.okWide P w r b0 t v) (h : DataW.Trod enc P w base spare held t v d p) :
    ∃ (v0 v1 v2 v3 v4 v5 v6 v7 : Value) (y0 y1 y2 y3 y4 y5 y6 y7 : DataW H × List MemPlace) (n : Nat), v = .agg #[v0, v1, v2, v3, v4, v5, v6, v7] ∧ DataW.trod enc P w base spare held n f0.type [v0] = some y0 ∧ DataW.trod enc P w base spare held n f1.type [v1] = some y1 ∧ DataW.trod enc P w base spare held n f2.type [v2] = some y2 ∧ DataW.trod enc P w base spare held n f3.type [v3] = some y3 ∧ DataW.trod enc P w base spare held n f4.type [v4] = some y4 ∧ DataW.trod enc P w base spare held n f5.type [v5] = some y5 ∧ DataW.trod enc P w base spare held n f6.type [v6] = some y6 ∧ DataW.trod enc P w base spare held n f7.type [v7] = some y7 := by
  obtain ⟨cs, rfl, hsz⟩ := okWide_struct hs hv
  obtain ⟨l⟩ := cs
  match l, hsz.trans hC with
  | [c0, c1, c2, c3, c4, c5, c6, c7], _ =>
    obtain ⟨fuel, hf⟩ := h
    obtain ⟨xs, n, _, hx, _, hlen, hg⟩ := DataW.trod_struct hs hf
    obtain ⟨o0, k0⟩ := hone_of hone 0 f0 rfl
    obtain ⟨o1, k1⟩ := hone_of hone 1 f1 rfl
    obtain ⟨o2, k2⟩ := hone_of hone 2 f2 rfl
    obtain ⟨o3, k3⟩ := hone_of hone 3 f3 rfl
    obtain ⟨o4, k4⟩ := hone_of hone 4 f4 rfl
    obtain ⟨o5, k5⟩ := hone_of hone 5 f5 rfl
    obtain ⟨o6, k6⟩ := hone_of hone 6 f6 rfl
    obtain ⟨o7, k7⟩ := hone_of hone 7 f7 rfl
    match xs, hlen with
    | [y0, y1, y2, y3, y4, y5, y6, y7], _ =>
      exact ⟨c0, c1, c2, c3, c4, c5, c6, c7, y0, y1, y2, y3, y4, y5, y6, y7, n, rfl, by simpa [Value.cells, o0, k0] using hg 0 f0 rfl, by simpa [Value.cells, o1, k1] using hg 1 f1 rfl, by simpa [Value.cells, o2, k2] using hg 2 f2 rfl, by simpa [Value.cells, o3, k3] using hg 3 f3 rfl, by simpa [Value.cells, o4, k4] using hg 4 f4 rfl, by simpa [Value.cells, o5, k5] using hg 5 f5 rfl, by simpa [Value.cells, o6, k6] using hg 6 f6 rfl, by simpa [Value.cells, o7, k7] using hg 7 f7 rfl⟩
end

section
variable {H : Type} {enc : TypeId × Value → H} {w : World} {base : Nat} {spare : Nat → Bool} {held : Bool}

/-- a record that came in -/
theorem open_rec {r : Reach} {b0 : Nat} {v : Value} {d : DataW H} {p : List MemPlace} (hv : Value.okWide Try.prog w r b0 23 v) (h : DataW.Trod enc Try.prog w base spare held 23 v d p) : ∃ x : Rc, v = .agg (rc x) := by
  obtain ⟨c0, c1, c2, c3, y0, y1, y2, y3, m, rfl, rfl, rfl, h0, h1, h2, h3⟩ := open_agg4 Try.underlying23 (by kernel_rfl) (by kernel_rfl) hv h
  obtain ⟨a, ha, _⟩ := DataW.trod_int Try.underlying3 h0
  obtain ⟨b, hb, _⟩ := DataW.trod_int Try.underlying3 h1
  obtain ⟨c, hc, _⟩ := DataW.trod_int Try.underlying3 h2
  obtain ⟨s, hs, _⟩ := DataW.trod_string Try.underlying9 h3
  injection ha with ha; injection hb with hb; injection hc with hc; injection hs with hs
  subst ha; subst hb; subst hc; subst hs
  exact ⟨⟨a, b, c, s⟩, rfl⟩

/-- a geometry that came in -/
theorem open_geo {r : Reach} {b0 : Nat} {v : Value} {d : DataW H} {p : List MemPlace} (hv : Value.okWide Try.prog w r b0 26 v) (h : DataW.Trod enc Try.prog w base spare held 26 v d p) :
    ∃ a0 a1 a2 a3 a4 a5 a6 a7 : Int, v = .agg #[.int .i64 a0, .int .i64 a1, .int .i64 a2, .int .i64 a3, .int .i64 a4, .int .i64 a5, .int .i64 a6, .int .i64 a7] ∧ a0 < 9223372036854775808 := by
  obtain ⟨c0, c1, c2, c3, c4, c5, c6, c7, y0, y1, y2, y3, y4, y5, y6, y7, m, rfl, h0, h1, h2, h3, h4, h5, h6, h7⟩ := open_agg8 Try.underlying26 (by kernel_rfl) (by kernel_rfl) hv h
  obtain ⟨a0, e0, _, w0⟩ := DataW.trod_int Try.underlying3 h0
  obtain ⟨a1, e1, _, w1⟩ := DataW.trod_int Try.underlying3 h1
  obtain ⟨a2, e2, _, w2⟩ := DataW.trod_int Try.underlying3 h2
  obtain ⟨a3, e3, _, w3⟩ := DataW.trod_int Try.underlying3 h3
  obtain ⟨a4, e4, _, w4⟩ := DataW.trod_int Try.underlying3 h4
  obtain ⟨a5, e5, _, w5⟩ := DataW.trod_int Try.underlying3 h5
  obtain ⟨a6, e6, _, w6⟩ := DataW.trod_int Try.underlying3 h6
  obtain ⟨a7, e7, _, w7⟩ := DataW.trod_int Try.underlying3 h7
  injection e0 with e0; subst e0; injection e1 with e1; subst e1; injection e2 with e2; subst e2; injection e3 with e3; subst e3; injection e4 with e4; subst e4; injection e5 with e5; subst e5; injection e6 with e6; subst e6; injection e7 with e7; subst e7
  refine ⟨a0, a1, a2, a3, a4, a5, a6, a7, rfl, ?_⟩
  simp [Lit.wf, IntKind.min, IntKind.max, IntKind.signed, IntKind.bits] at w0
  omega

theorem rec_one {fs : Array Field} (hs : Try.prog.underlying 23 = some (.struct fs)) : oneCellFields Try.prog fs = true := by
  rw [Try.underlying23] at hs
  cases hs
  kernel_rfl

/-- records that came in -/
theorem open_recs {fuel : Nat} {A : Option Addr} {n c : Nat} {x : DataW H × List MemPlace} (h : DataW.trod enc Try.prog w base spare held fuel 24 [.slice A n c] = some x) :
    ∃ l : List Rc, RdR w w.heap.size A n l ∧ n ≤ maxLen ∧ Sl A n c := by
  rcases open_slice Try.underlying24 h with ⟨hcs, _⟩ | ⟨a, len, cap, m, k, D, Pl, hcs, _, hl, hm, hmm, _, hi⟩
  · injection hcs with hcs
    injection hcs with e1 e2 e3
    subst e1; subst e2
    subst e3
    exact ⟨[], ⟨rfl, fun h => absurd h (by omega)⟩, by unfold maxLen; omega, .inl ⟨rfl, rfl, rfl⟩⟩
  · injection hcs with hcs
    injection hcs with e1 e2 e3
    subst e1; subst e2; subst e3
    have hlm : n ≤ m := by rw [hmm]; split <;> omega
    have key : ∀ i, i < n → ∃ r : Rc, w.cell? (a.add (i * 4)) = some (.int .i64 r.inst) ∧ w.cell? (a.add (i * 4 + 1)) = some (.int .i64 r.mbal) ∧ w.cell? (a.add (i * 4 + 2)) = some (.int .i64 r.bal) ∧ w.cell? (a.add (i * 4 + 3)) = some (.string r.val) := by
      intro i hin
      obtain ⟨cs', hc, ht'⟩ := hi i (by omega)
      rw [show Try.prog.cellsOf 23 = 4 from by kernel_rfl] at hc
      obtain ⟨ys, n', hn', hy, hlen, hyl, hf⟩ := DataW.trod_struct Try.underlying23 ht'
      obtain ⟨_, hcl, hat⟩ := World.cells?_some hc
      match cs', hcl with
      | [c0, c1, c2, c3], _ =>
        have one := hone_of (rec_one Try.underlying23)
        have q0 := hat (i := 0) (by simp)
        have q1 := hat (i := 1) (by simp)
        have q2 := hat (i := 2) (by simp)
        have q3 := hat (i := 3) (by simp)
        have z0 := hf 0 _ rfl
        have z1 := hf 1 _ rfl
        have z2 := hf 2 _ rfl
        have z3 := hf 3 _ rfl
        rw [(one 0 _ rfl).1, (one 0 _ rfl).2] at z0
        rw [(one 1 _ rfl).1, (one 1 _ rfl).2] at z1
        rw [(one 2 _ rfl).1, (one 2 _ rfl).2] at z2
        rw [(one 3 _ rfl).1, (one 3 _ rfl).2] at z3
        have y0 := List.getElem?_eq_getElem (l := ys) (i := 0) (by rw [hyl]; decide)
        have y1 := List.getElem?_eq_getElem (l := ys) (i := 1) (by rw [hyl]; decide)
        have y2 := List.getElem?_eq_getElem (l := ys) (i := 2) (by rw [hyl]; decide)
        have y3 := List.getElem?_eq_getElem (l := ys) (i := 3) (by rw [hyl]; decide)
        obtain ⟨r0, e0, _⟩ := DataW.trod_int Try.underlying3 (z0.trans y0)
        obtain ⟨r1, e1, _⟩ := DataW.trod_int Try.underlying3 (z1.trans y1)
        obtain ⟨r2, e2, _⟩ := DataW.trod_int Try.underlying3 (z2.trans y2)
        obtain ⟨r3, e3, _⟩ := DataW.trod_string Try.underlying9 (z3.trans y3)
        simp at e0 e1 e2 e3
        subst e0; subst e1; subst e2; subst e3
        rw [add_two] at q0 q1 q2 q3
        exact ⟨⟨r0, r1, r2, r3⟩, q0, q1, q2, q3⟩
    have mk : ∀ t, t ≤ n → ∃ l : List Rc, l.length = t ∧ ∀ i r, l[i]? = some r → w.cell? (a.add (i * 4)) = some (.int .i64 r.inst) ∧ w.cell? (a.add (i * 4 + 1)) = some (.int .i64 r.mbal) ∧ w.cell? (a.add (i * 4 + 2)) = some (.int .i64 r.bal) ∧ w.cell? (a.add (i * 4 + 3)) = some (.string r.val) := by
      intro t
      induction t with
      | zero => intro _; exact ⟨[], rfl, fun i r h => by simp at h⟩
      | succ t ih =>
        intro ht
        obtain ⟨l, hl', hc⟩ := ih (by omega)
        obtain ⟨r, hr⟩ := key t (by omega)
        refine ⟨l ++ [r], by simp [hl'], fun i r' hi' => ?_⟩
        rcases Nat.lt_or_ge i t with h | h
        · exact hc i r' (by rw [← hi', List.getElem?_append_left (by omega)])
        · have hit : i = t := by
            have := (List.getElem?_eq_some_iff.1 hi').1
            simp at this; omega
          subst hit
          rw [List.getElem?_append_right (by omega), hl'] at hi'
          simp at hi'
          subst hi'
          exact hr
    obtain ⟨l, hll, hc⟩ := mk n (Nat.le_refl _)
    refine ⟨l, ⟨hll, fun hn => ⟨a, rfl, ?_, hc⟩⟩, by omega, .inr ⟨a, rfl, hl, by unfold maxLen at hm; omega⟩⟩
    obtain ⟨r, hr⟩ := key 0 hn
    have := World.block_lt_of_cell? w _ hr.1
    rwa [blk_add] at this
end

end Go.Proofs.Ytilpcoebpinmfaa
