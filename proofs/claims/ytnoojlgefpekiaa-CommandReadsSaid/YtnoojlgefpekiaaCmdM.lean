/-
  Helpers for Bytes: put of what fits; worlds one behind the other.
-/
import Derived.Test.YtnoojlgefpekiaaCmdG
import Derived.Test.YtnoojlgefpekiaaCmdI
namespace Go.Proofs.Ytnoojlgefpekiaa
open Go.RowKit

theorem putR_ok (bs : List UInt8) (x : Nat) (zs : List Int) (h1 : 1 ≤ x) (h6 : x ≤ 6) (hf : zs.all (fitsB · x) = true) : putR bs x zs = (bs ++ putL x zs, 0) := by
  unfold putR; rw [if_pos ⟨by omega, by omega, by simpa using hf⟩]; simp

/-- put of numbers that fit -/
theorem oput_ok (g : Nat) (T : TypeId) (c : Cm) (A : Option Addr) (n cb : Nat) (bs : List UInt8) (x : Nat) (Al : Option Addr) (m cl : Nat) (zs : List Int) (w0 w : World) (hB : w0.heap.size ≤ g) (h0 : Below w0.heap.size w0 w) (hb : Blk w g T (cO c (.slice A n cb))) (hr : Rd w w.heap.size A n (cB bs)) (hz : Rd w w.heap.size Al m (cI zs)) (hn : bs.length ≤ 100) (hm : m ≤ 10) (h1 : 1 ≤ x) (h6 : x ≤ 6) (hf : zs.all (fitsB · x) = true) :
    Calls Try.prog 34 #[.pointer (some ⟨g, 0, none⟩), .int .i64 (x : Int), .slice Al m cl] w fun e w' => e = .returned (.tuple #[]) ∧ ∃ A' n' c' bs', bs' = bs ++ putL x zs ∧ Blk w' g T (cO c (.slice A' n' c')) ∧ Rd w' w'.heap.size A' n' (cB bs') ∧ Below w0.heap.size w0 w' := by
  have hl : n ≤ 10000 := by have := hr.1; simp [cB] at this; omega
  refine (oput_any g T c A n cb bs x Al m cl zs w hb hr hz hl (by omega)).mono ?_
  rintro e w' ⟨he, A', n', c', k1, k2, k3⟩
  rw [putR_ok bs x zs h1 h6 hf] at k2
  refine ⟨he, A', n', c', _, rfl, k1, k2, ?_⟩
  exact ⟨k3.os.trans h0.os, k3.tape.trans h0.tape, k3.output.trans h0.output, Nat.le_trans h0.size k3.size, fun k hk => (k3.block k (Nat.lt_of_lt_of_le hk h0.size) (fun e => by injection e; omega)).trans (h0.block k hk)⟩

end Go.Proofs.Ytnoojlgefpekiaa
