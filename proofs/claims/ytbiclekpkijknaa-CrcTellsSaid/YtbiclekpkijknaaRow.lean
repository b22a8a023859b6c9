/-
  From what a row says of a slice that came in to the word 'Rd'.
-/
import Derived.Test.YtbiclekpkijknaaMem
namespace Go.Proofs.Ytbiclekpkijknaa
open Go.RowKit

theorem Rd.of_row_k {k : IntKind} {w : World} {a : Option Addr} {len cap : Nat} {zs : List Int}
    (h : (a = none ∧ len = 0 ∧ cap = 0 ∧ zs = []) ∨
      ∃ x, a = some x ∧ len ≤ cap ∧ cap ≤ maxLen ∧ zs.length = cap ∧ (∀ i, i < zs.length → w.cell? (x.add i) = some (.int k (zs.getD i 0))) ∧ ∀ n ∈ zs, (Lit.int k n).wf = true) :
    Rd w w.heap.size a len ((zs.take len).map (Value.int k)) := by
  rcases h with ⟨rfl, rfl, rfl, rfl⟩ | ⟨x, rfl, hl, _, hz, hc, _⟩
  · exact Rd.nil
  · refine ⟨by simp; omega, fun h0 => ⟨x, rfl, ?_, fun j u hu => ?_⟩⟩
    · have := World.block_lt_of_cell? w _ (hc 0 (by omega))
      rwa [blk_add] at this
    · have hj : j < len := by
        have := (List.getElem?_eq_some_iff.1 hu).1
        simp at this; omega
      rw [hc j (by omega), ← hu]
      simp [hj, List.getElem?_eq_getElem (show j < zs.length by omega)]

theorem Rd.of_row {w : World} {a : Option Addr} {len cap : Nat} {zs : List Int}
    (h : (a = none ∧ len = 0 ∧ cap = 0 ∧ zs = []) ∨
      ∃ x, a = some x ∧ len ≤ cap ∧ cap ≤ maxLen ∧ zs.length = cap ∧ (∀ i, i < zs.length → w.cell? (x.add i) = some (.int .i64 (zs.getD i 0))) ∧ ∀ n ∈ zs, (Lit.int .i64 n).wf = true) :
    Rd w w.heap.size a len (cI (zs.take len)) := Rd.of_row_k h

theorem bytes_of_wf : ∀ zs : List Int, (∀ n ∈ zs, (Lit.int .u8 n).wf = true) → ∃ bs : List UInt8, zs.map (Value.int .u8) = cB bs
  | [], _ => ⟨[], rfl⟩
  | z :: r, h => by
    obtain ⟨bs, hb⟩ := bytes_of_wf r (fun n hn => h n (List.mem_cons_of_mem _ hn))
    have hz : 0 ≤ z ∧ z ≤ 255 := by
      have := h z (List.mem_cons_self ..)
      simpa [Lit.wf, IntKind.min, IntKind.max, IntKind.signed, IntKind.bits] using this
    refine ⟨UInt8.ofNat z.toNat :: bs, ?_⟩
    simp only [cB, List.map_cons] at hb ⊢
    rw [hb]
    have e : ((UInt8.ofNat z.toNat).toNat : Int) = z := by
      simp only [UInt8.toNat_ofNat']
      omega
    rw [e]

theorem Rd.of_row_b {w : World} {a : Option Addr} {len cap : Nat} {zs : List Int}
    (h : (a = none ∧ len = 0 ∧ cap = 0 ∧ zs = []) ∨
      ∃ x, a = some x ∧ len ≤ cap ∧ cap ≤ maxLen ∧ zs.length = cap ∧ (∀ i, i < zs.length → w.cell? (x.add i) = some (.int .u8 (zs.getD i 0))) ∧ ∀ n ∈ zs, (Lit.int .u8 n).wf = true) :
    ∃ bs : List UInt8, Rd w w.heap.size a len (cB bs) := by
  have hr := Rd.of_row_k h
  have hw : ∀ n ∈ zs.take len, (Lit.int .u8 n).wf = true := by
    intro n hn
    have hm := List.mem_of_mem_take hn
    rcases h with ⟨_, _, _, rfl⟩ | ⟨_, _, _, _, _, _, hwf⟩
    · cases hm
    · exact hwf n hm
  obtain ⟨bs, hb⟩ := bytes_of_wf _ hw
  rw [hb] at hr
  exact ⟨bs, hr⟩

end Go.Proofs.Ytbiclekpkijknaa
