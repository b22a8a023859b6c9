/-
  Rows of records of the call's own: append, and reading back.
-/
import Derived.Test.YtilpcoebpinmfaaLawLib
import Derived.Laws.AppendOwn
namespace Go.Proofs.Ytilpcoebpinmfaa
open Go.RowKit

/-- records as cells -/
def cR : List Rc → List Value
  | [] => []
  | r :: l => .int .i64 r.inst :: .int .i64 r.mbal :: .int .i64 r.bal :: .string r.val :: cR l

theorem cR_len : ∀ l : List Rc, (cR l).length = l.length * 4
  | [] => rfl
  | r :: l => by simp [cR, cR_len l]; omega
theorem cR_append : ∀ l m : List Rc, cR (l ++ m) = cR l ++ cR m
  | [], _ => rfl
  | r :: l, m => by simp [cR, cR_append l m]
theorem cR_one (l : List Rc) : ∀ u ∈ cR l, u.oneCell' = true := by
  induction l with
  | nil => intro u hu; cases hu
  | cons r l ih =>
    intro u hu
    simp only [cR, List.mem_cons] at hu
    rcases hu with rfl | rfl | rfl | rfl | h
    · rfl
    · rfl
    · rfl
    · rfl
    · exact ih u h
theorem cR_at : ∀ (l : List Rc) (k : Nat) (r : Rc), l[k]? = some r → (cR l)[k * 4]? = some (.int .i64 r.inst) ∧ (cR l)[k * 4 + 1]? = some (.int .i64 r.mbal) ∧ (cR l)[k * 4 + 2]? = some (.int .i64 r.bal) ∧ (cR l)[k * 4 + 3]? = some (.string r.val)
  | [], k, r, h => by simp at h
  | s :: l, 0, r, h => by
    simp at h; subst h
    exact ⟨rfl, rfl, rfl, rfl⟩
  | s :: l, k + 1, r, h => by
    obtain ⟨h0, h1, h2, h3⟩ := cR_at l k r (by simpa using h)
    rw [show (k + 1) * 4 = k * 4 + 4 from by omega]
    exact ⟨h0, h1, h2, h3⟩
theorem cR_of : ∀ (l : List Rc) (j : Nat) (u : Value), (cR l)[j]? = some u → ∃ k r, l[k]? = some r ∧ ((j = k * 4 ∧ u = .int .i64 r.inst) ∨ (j = k * 4 + 1 ∧ u = .int .i64 r.mbal) ∨ (j = k * 4 + 2 ∧ u = .int .i64 r.bal) ∨ (j = k * 4 + 3 ∧ u = .string r.val))
  | [], j, u, h => by simp [cR] at h
  | s :: l, 0, u, h => by simp [cR] at h; exact ⟨0, s, rfl, .inl ⟨rfl, h.symm⟩⟩
  | s :: l, 1, u, h => by simp [cR] at h; exact ⟨0, s, rfl, .inr (.inl ⟨rfl, h.symm⟩)⟩
  | s :: l, 2, u, h => by simp [cR] at h; exact ⟨0, s, rfl, .inr (.inr (.inl ⟨rfl, h.symm⟩))⟩
  | s :: l, 3, u, h => by simp [cR] at h; exact ⟨0, s, rfl, .inr (.inr (.inr ⟨rfl, h.symm⟩))⟩
  | s :: l, j + 4, u, h => by
    obtain ⟨k, r, hk, hh⟩ := cR_of l j u (by simpa [cR] using h)
    refine ⟨k + 1, r, by simpa using hk, ?_⟩
    rcases hh with ⟨a, b⟩ | ⟨a, b⟩ | ⟨a, b⟩ | ⟨a, b⟩
    · exact .inl ⟨by omega, b⟩
    · exact .inr (.inl ⟨by omega, b⟩)
    · exact .inr (.inr (.inl ⟨by omega, b⟩))
    · exact .inr (.inr (.inr ⟨by omega, b⟩))

theorem RdR.cell {w : World} {B n : Nat} {ad : Addr} {l : List Rc} (h : RdR w B (some ad) n l) (hn : 0 < n) : ∀ j u, (cR l)[j]? = some u → w.cell? (ad.add j) = some u := by
  intro j u hj
  obtain ⟨ad', e, _, hc⟩ := h.2 hn
  injection e with e
  subst e
  obtain ⟨k, r, hk, hh⟩ := cR_of l j u hj
  obtain ⟨q0, q1, q2, q3⟩ := hc k r hk
  rcases hh with ⟨rfl, rfl⟩ | ⟨rfl, rfl⟩ | ⟨rfl, rfl⟩ | ⟨rfl, rfl⟩
  · exact q0
  · exact q1
  · exact q2
  · exact q3

/-- a row of records of the call's own -/
def OwnR (w : World) (base : Nat) (v : Value) (l : List Rc) : Prop := w.ownsRow base 23 4 v l.length (cR l)

theorem OwnR.shape {w : World} {base : Nat} {v : Value} {l : List Rc} (h : OwnR w base v l) : ∃ A c, v = .slice A l.length c ∧ RdR w w.heap.size A l.length l ∧ Sl A l.length c := by
  obtain ⟨h1, h2⟩ := h
  rcases h2 with ⟨rfl, h0⟩ | ⟨g, cap, cur, rfl, hb, hh, hnc, hcap, hcs, ht⟩
  · rw [h0]
    exact ⟨none, 0, rfl, ⟨h0, fun h => absurd h (by omega)⟩, .inl ⟨rfl, rfl, rfl⟩⟩
  · refine ⟨_, cap, rfl, ⟨rfl, fun _ => ⟨_, rfl, (Array.getElem?_eq_some_iff.1 hh).1, fun k r hk => ?_⟩⟩, .inr ⟨_, rfl, hnc, by unfold maxLen at hcap; omega⟩⟩
    have key : ∀ j u, (cR l)[j]? = some u → w.cell? ((⟨g, 0, none⟩ : Addr).add j) = some u := by
      intro j u hj
      have e : (⟨g, 0, none⟩ : Addr).add j = ⟨g, j, none⟩ := by unfold Addr.add; split <;> simp_all
      rw [e, cell_of_row w g j cur 23 (0, 0) hh, ← Array.getElem?_toList]
      rw [← ht] at hj
      have hlt : j < l.length * 4 := by
        have := (List.getElem?_eq_some_iff.1 hj).1
        simp at this; omega
      rwa [List.getElem?_take_of_lt hlt] at hj
    obtain ⟨q0, q1, q2, q3⟩ := cR_at l k r hk
    exact ⟨key _ _ q0, key _ _ q1, key _ _ q2, key _ _ q3⟩

theorem OwnR.nil {w : World} {base : Nat} : OwnR w base (.slice none 0 0) [] := ⟨rfl, .inl ⟨rfl, rfl⟩⟩
theorem OwnR.below {w w' : World} {base : Nat} {v : Value} {l : List Rc} (h : OwnR w base v l) (hb : Below w.heap.size w w') : OwnR w' base v l := by
  refine ⟨h.1, ?_⟩
  rcases h.2 with h2 | ⟨g, cap, cur, hv, h3, hh, r⟩
  · exact .inl h2
  · exact .inr ⟨g, cap, cur, hv, h3, (hb.block g (Array.getElem?_eq_some_iff.1 hh).1).trans hh, r⟩

theorem Try.info23 : (Try.prog.info? 23).map (fun i => (i.zero, i.size, i.bytes)) = some (some (.agg #[.int .i64 0, .int .i64 0, .int .i64 0, .string ⟨#[]⟩]), 4, 40) := by kernel_rfl

/-- append -/
theorem run_appR {w : World} {base : Nat} {v : Value} {l m : List Rc} {A : Option Addr} {k c B : Nat} (ty : TypeId) (hown : OwnR w base v l) (hr : RdR w B A k m) (hs : Sl A k c) (hn : l.length + k ≤ 1000) (hbase : base ≤ w.heap.size) :
    ∃ v' w', (Builtin.append_ #[24, 24] ty #[v, .slice A k c]).run Try.prog w = .ok v' w' ∧ OwnR w' base v' (l ++ m) ∧ w.grownBy w' v.ownBlock := by
  obtain ⟨i, hi, hz0, hz1, hz2⟩ := info_parts Try.info23
  have h63 : l.length + k ≤ maxLen := by unfold maxLen; omega
  rcases Nat.eq_zero_or_pos k with h0 | h0
  · subst h0
    have hm : m = [] := List.eq_nil_of_length_eq_zero hr.1
    subst hm
    rcases hs with ⟨rfl, _, rfl⟩ | ⟨ad, rfl, _, _⟩
    · refine ⟨v, w, ?_, by simpa using hown, World.grownBy.refl w _⟩
      rcases hown.2 with ⟨rfl, h1⟩ | ⟨g, cap, cur, rfl, _, _, hnc, _⟩
      · simp [Builtin.append_, run_underlying Try.underlying24, sizeOf, typeInfo, hi, Builtin.lenOf, Builtin.firstCells]
      · simp [Builtin.append_, run_underlying Try.underlying24, sizeOf, typeInfo, hi, Builtin.lenOf, Builtin.firstCells, hnc, storeCells]
    · obtain ⟨v', w', hrun, h2, h3, _⟩ := run_append_own (P := Try.prog) w base 24 ty 23 i _ 4 40 Try.underlying24 hi hz0 hz1 hz2 rfl (by omega) v l.length (cR l) hown ad 0 c [] rfl (by simp) (by simp) h63 (by omega) hbase
      exact ⟨v', w', hrun, by simpa [OwnR] using h2, h3⟩
  · obtain ⟨ad, rfl, _, _⟩ := hr.2 h0
    obtain ⟨v', w', hrun, h2, h3, _⟩ := run_append_own (P := Try.prog) w base 24 ty 23 i _ 4 40 Try.underlying24 hi hz0 hz1 hz2 rfl (by omega) v l.length (cR l) hown ad k c (cR m) (by rw [cR_len, hr.1]) (hr.cell h0) (cR_one m) h63 (by omega) hbase
    refine ⟨v', w', hrun, ?_, h3⟩
    unfold OwnR
    rw [List.length_append, hr.1, cR_append]
    exact h2

end Go.Proofs.Ytilpcoebpinmfaa
