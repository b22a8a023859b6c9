/-
  Contracts of commands: put.
-/
import Derived.Test.YtnoojlgefpekiaaCmdB
import Derived.Test.YtnoojlgefpekiaaRefB
namespace Go.Proofs.Ytnoojlgefpekiaa
open Go.RowKit

/-- bytes do not lie in an order's block -/
theorem rd_ne {w : World} {B n g : Nat} {T : TypeId} {c : Cm} {A0 : Option Addr} {n0 c0 : Nat} {A : Option Addr} {bs : List UInt8} (h : Rd w B A n (cB bs)) (hb : Blk w g T (cO c (.slice A0 n0 c0))) (hn : 0 < n) : ∀ ad, A = some ad → ad.block ≠ g := by
  intro ad hA e
  obtain ⟨ad', u, hA', _, hx, hc⟩ := h.at_ hn
  rw [hA] at hA'
  injection hA' with hA'
  subst hA'
  rw [show ad.add 0 = ad from rfl] at hc
  simp only [cB, List.getElem?_map] at hx
  obtain ⟨b, _, rfl⟩ := Option.map_eq_some_iff.1 hx
  unfold World.cell? at hc
  rw [e, hb] at hc
  simp only at hc
  split at hc
  · cases hc
  · have hs := (Array.getElem?_eq_some_iff.1 hc).1
    have ho : ad.off < 9 := hs
    have : ad.off = 0 ∨ ad.off = 1 ∨ ad.off = 2 ∨ ad.off = 3 ∨ ad.off = 4 ∨ ad.off = 5 ∨ ad.off = 6 ∨ ad.off = 7 ∨ ad.off = 8 := by omega
    rcases this with h | h | h | h | h | h | h | h | h <;> (rw [h] at hc; simp [cO] at hc)

/-- bytes of an order's own slice, outside its block -/
theorem rd_set {w : World} {n g i : Nat} {T : TypeId} {c : Cm} {A0 : Option Addr} {n0 c0 : Nat} {A : Option Addr} {bs : List UInt8} (h : Rd w w.heap.size A n (cB bs)) (hb : Blk w g T (cO c (.slice A0 n0 c0))) (u : Value) :
    Rd (w.setCell ⟨g, i, none⟩ u) w.heap.size A n (cB bs) := by
  refine ⟨h.1, fun hn => ?_⟩
  obtain ⟨ad, e, hl, hc⟩ := h.2 hn
  have hne := rd_ne h hb hn ad e
  refine ⟨ad, e, hl, fun j v hv => ?_⟩
  rw [World.cell?_of_block (w := w) (Below.heap_setCell w ⟨g, i, none⟩ u (ad.add j).block (by rw [blk_add]; exact hne))]
  exact hc j v hv

set_option maxHeartbeats 1000000 in
/-- put -/
theorem oput_any (g : Nat) (T : TypeId) (c : Cm) (A : Option Addr) (n cb : Nat) (bs : List UInt8) (x : Int) (Al : Option Addr) (m cl : Nat) (zs : List Int) (w : World) (hb : Blk w g T (cO c (.slice A n cb))) (hr : Rd w w.heap.size A n (cB bs)) (hz : Rd w w.heap.size Al m (cI zs)) (hn : n ≤ 10000) (hm : m ≤ 10000) :
    Calls Try.prog 34 #[.pointer (some ⟨g, 0, none⟩), .int .i64 x, .slice Al m cl] w fun e w' => e = .returned (.tuple #[]) ∧ ∃ A' n' c', Blk w' g T (cO c (.slice A' n' c')) ∧ Rd w' w'.heap.size A' n' (cB (putR bs x zs).1) ∧ w.grownBy w' (some g) := by
  have hp := put_gen A Al n cb m cl x bs zs w hn hm hr hz
  have c8 : w.cell? ⟨g, 8, none⟩ = some (.slice A n cb) := by rw [hb.cell 8]; rfl
  have HP := Lib.hid hp; have HB := Lib.hid hb
  clear hp hb hr hz
  go_enter Try.func34, Try.ntmps34
  go_wp2_with fail
  refine HP.out.mono ?_
  rintro e w1 ⟨A', n', c', rfl, hnc, hr1, hb1⟩
  have kb1 := HB.out.below hb1 HB.out.lt
  have c81 : w1.cell? ⟨g, 8, none⟩ = some (.slice A n cb) := by rw [kb1.cell 8]; rfl
  have f81 := kb1.frozen 8
  have hset := kb1.set_ 8 (.slice A' n' c')
  have hrd := rd_set (i := 8) hr1 kb1 (.slice A' n' c')
  have HS := Lib.hid hset; have HR := Lib.hid hrd; have HB1 := Lib.hid hb1
  clear hr1 hb1 kb1 hset hrd
  go_wp2
  go_end0
  refine ⟨rfl, A', n', c', HS.out, HR.out.more (by simp [World.setCell]), ?_⟩
  exact ⟨HB1.out.os, HB1.out.tape, HB1.out.output, by simpa [World.setCell] using HB1.out.size, fun k hk hne => (Below.heap_setCell w1 _ _ k (fun e => hne (by rw [e]))).trans (HB1.out.block k hk)⟩

end Go.Proofs.Ytnoojlgefpekiaa
