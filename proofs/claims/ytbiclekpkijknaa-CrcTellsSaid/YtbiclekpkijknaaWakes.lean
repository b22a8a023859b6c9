/-
  What each statement of package crc asks besides: the document's sums.
-/
import Derived.Test.YtbiclekpkijknaaFun
import Derived.Lib.SlBytesConst
namespace Go.Proofs.Ytbiclekpkijknaa
open Go.RowKit

theorem sum_lit (A : Option Addr) (n c B : Nat) (l : List UInt8) (V : Int) (w : World) (hV : ((sumB l).toNat : Int) = V) (hl : Rd w B A n (cB l)) (hB : B ≤ w.heap.size) (hn : n ≤ 1000000) :
    Calls Try.prog 9 #[.slice A n c] w fun e w' => e = .returned (.int .i64 V) ∧ Below w.heap.size w w' := by
  have h := sum_any A n c B l w hl hB hn
  rw [hV] at h
  exact h

theorem Rd.newm (w : World) (t : TypeId) (xs : List Value) (m : Nat × Nat) : Rd (w.alloc (.cells xs.toArray t m)) (w.heap.size + 1) (some ⟨w.heap.size, 0, none⟩) xs.length xs := by
  refine ⟨rfl, fun _ => ⟨_, rfl, by simp, fun j u hu => ?_⟩⟩
  have e : (⟨w.heap.size, 0, none⟩ : Addr).add j = ⟨w.heap.size, j, none⟩ := by unfold Addr.add; split <;> simp_all
  rw [e, cell_of_row _ _ _ xs.toArray t m (heap_alloc_new w _)]
  simpa using hu

theorem lit9 (w : World) : Rd (w.alloc (Obj.cells #[Value.int IntKind.u8 49, Value.int IntKind.u8 50, Value.int IntKind.u8 51, Value.int IntKind.u8 52, Value.int IntKind.u8 53, Value.int IntKind.u8 54, Value.int IntKind.u8 55, Value.int IntKind.u8 56, Value.int IntKind.u8 57] 5 (9, 10))) (w.heap.size + 1) (some ⟨w.heap.size, 0, none⟩) 9 (cB [49, 50, 51, 52, 53, 54, 55, 56, 57]) := by
  have := Rd.newm w 5 (cB [49, 50, 51, 52, 53, 54, 55, 56, 57]) (9, 10)
  simpa [cB] using this
theorem lit4 (w : World) : Rd (w.alloc (Obj.cells #[Value.int IntKind.u8 49, Value.int IntKind.u8 50, Value.int IntKind.u8 51, Value.int IntKind.u8 52] 5 (4, 5))) (w.heap.size + 1) (some ⟨w.heap.size, 0, none⟩) 4 (cB [49, 50, 51, 52]) := by
  have := Rd.newm w 5 (cB [49, 50, 51, 52]) (4, 5)
  simpa [cB] using this
theorem lit6 (w : World) : Rd (w.alloc (Obj.cells #[Value.int IntKind.u8 49, Value.int IntKind.u8 50, Value.int IntKind.u8 51, Value.int IntKind.u8 52, Value.int IntKind.u8 53, Value.int IntKind.u8 54] 5 (6, 7))) (w.heap.size + 1) (some ⟨w.heap.size, 0, none⟩) 6 (cB [49, 50, 51, 52, 53, 54]) := by
  have := Rd.newm w 5 (cB [49, 50, 51, 52, 53, 54]) (6, 7)
  simpa [cB] using this

theorem lit2 (w : World) : Rd (w.alloc (Obj.cells #[Value.int IntKind.u8 53, Value.int IntKind.u8 54] 5)) (w.heap.size + 1) (some ⟨w.heap.size, 0, none⟩) 2 (cB [53, 54]) := by
  have := Rd.new w 5 (cB [53, 54])
  simpa [cB] using this

theorem add_lit (A : Option Addr) (n c B : Nat) (l : List UInt8) (s V : Int) (w : World) (hV : ((addB (BitVec.ofInt 32 s) l).toNat : Int) = V) (hl : Rd w B A n (cB l)) (hB : B ≤ w.heap.size) (hn : n ≤ 1000000) :
    Calls Try.prog 11 #[.int .i64 s, .slice A n c] w fun e w' => e = .returned (.int .i64 V) ∧ Below w.heap.size w w' := by
  have h := add_any A n c B l s w hl hB hn
  rw [hV] at h
  exact h

set_option maxHeartbeats 400000 in
theorem wakes_any (w : World) : Calls Try.prog 8 #[] w fun e w' => e = .returned (.bool true) ∧ Below w.heap.size w w' := by
  have kc := fun (w : World) (C : Array Value) (n c : Nat) => Lib.run_convert_bytes_const (P := Try.prog) w 22 5 C n c Try.underlying22 Try.underlying5
  go_enter Try.func8, Try.ntmps8
  go_wp2_with fail
  refine (sum_lit none 0 0 0 [] 0 _ (by decide +kernel) Rd.nil (Nat.zero_le _) (by decide)).mono ?_
  rintro e w1 ⟨rfl, hb1⟩
  go_wp2_with fail
  refine (sum_lit _ 9 9 _ _ 3808858755 _ (by decide +kernel) (lit9 w1) (by simp) (by decide)).mono ?_
  rintro e w2 ⟨rfl, hb2⟩
  have hw2 : Below w.heap.size w w2 := (hb1.alloc hb1.size _).trans (hb2.mono (by have := hb1.size; simp; omega))
  go_wp2_with fail
  refine (sum_lit _ 4 4 _ _ 4131058926 _ (by decide +kernel) (lit4 w2) (by simp) (by decide)).mono ?_
  rintro e w3 ⟨rfl, hb3⟩
  have hw3 : Below w.heap.size w w3 := (hw2.alloc hw2.size _).trans (hb3.mono (by have := hw2.size; simp; omega))
  go_wp2_with fail
  refine (add_lit _ 2 2 _ _ _ 1094021510 _ (by decide +kernel) (lit2 w3) (by simp) (by decide)).mono ?_
  rintro e w4 ⟨rfl, hb4⟩
  have hw4 : Below w.heap.size w w4 := (hw3.alloc hw3.size _).trans (hb4.mono (by have := hw3.size; simp; omega))
  go_wp2_with fail
  refine (sum_lit _ 6 6 _ _ 1094021510 _ (by decide +kernel) (lit6 w4) (by simp) (by decide)).mono ?_
  rintro e w5 ⟨rfl, hb5⟩
  have hw5 : Below w.heap.size w w5 := (hw4.alloc hw4.size _).trans (hb5.mono (by have := hw4.size; simp; omega))
  go_wp2
  go_ret
  exact ⟨rfl, hw5⟩

end Go.Proofs.Ytbiclekpkijknaa
