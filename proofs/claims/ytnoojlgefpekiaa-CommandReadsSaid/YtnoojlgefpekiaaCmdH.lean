/-
  Contracts of commands: take.
-/
import Derived.Test.YtnoojlgefpekiaaCmdB
import Derived.Test.YtnoojlgefpekiaaRefC
namespace Go.Proofs.Ytnoojlgefpekiaa
open Go.RowKit

/-- what a taker is behind a number -/
def takeT (s : ByteArray) (bad : Bool) (x : Nat) : ByteArray × Bool := if (getR s 0 x).2 = 0 then (s.extract x s.size, bad) else (s, true)
def takeV (s : ByteArray) (x : Nat) : Int := if (getR s 0 x).2 = 0 then (getR s 0 x).1 else 0

theorem get_room {s : ByteArray} {x : Nat} (h : (getR s 0 x).2 = 0) : x ≤ s.size := by
  unfold getR at h
  split at h
  · cases h
  · split at h
    · cases h
    · omega

set_option maxHeartbeats 1000000 in
/-- take -/
theorem take_any (g : Nat) (T : TypeId) (s : ByteArray) (bad : Bool) (x : Nat) (w : World) (hb : Blk w g T #[.string s, .bool bad]) (hs : s.size ≤ 1000) :
    Calls Try.prog 31 #[.pointer (some ⟨g, 0, none⟩), .int .i64 (x : Int)] w fun e w' => e = .returned (.int .i64 (takeV s x)) ∧ Blk w' g T #[.string (takeT s bad x).1, .bool (takeT s bad x).2] ∧ w.grownBy w' (some g) := by
  have hg := get_gen s 0 x w (by unfold maxLen; omega)
  have c0 : w.cell? ⟨g, 0, none⟩ = some (.string s) := by rw [hb.cell 0]; rfl
  have c1 : w.cell? ⟨g, 1, none⟩ = some (.bool bad) := by rw [hb.cell 1]; rfl
  have f0 := hb.frozen 0
  have f1 := hb.frozen 1
  obtain ⟨v, hv⟩ : ∃ v, v = (getR s 0 x).1 := ⟨_, rfl⟩
  obtain ⟨r, hr⟩ : ∃ r, r = (getR s 0 x).2 := ⟨_, rfl⟩
  rw [← hv, ← hr] at hg
  have HG := Lib.hid hg
  by_cases h0 : r = 0
  · have e1 : takeT s bad x = (s.extract x s.size, bad) := if_pos (by rw [← hr]; exact h0)
    have e2 : takeV s x = v := (if_pos (by rw [← hr]; exact h0)).trans hv.symm
    have hx : x ≤ s.size := get_room (by rw [← hr]; exact h0)
    rw [e1, e2]
    have x1 : (0 : Int) ≤ (x : Int) := by omega
    have x2 : (x : Int) ≤ (s.size : Int) := by omega
    have hset := hb.set_ 0 (.string (s.extract x s.size))
    have HB := Lib.hid hset
    have HO : Hid (w.grownBy (w.setCell ⟨g, 0, none⟩ (.string (s.extract x s.size))) (some g)) := Lib.hid ⟨rfl, rfl, rfl, by simp [World.setCell], fun k _ hne => Below.heap_setCell w _ _ k (fun e => hne (by rw [e]))⟩
    clear e1 e2 hb hset hg hv hr
    go_enter Try.func31, Try.ntmps31
    go_wp2_with fail
    refine HG.out.mono ?_
    rintro e w1 ⟨rfl, rfl⟩
    go_wp2
    go_ret
    exact ⟨rfl, HB.out, HO.out⟩
  · have e1 : takeT s bad x = (s, true) := if_neg (by rw [← hr]; exact h0)
    have e2 : takeV s x = 0 := if_neg (by rw [← hr]; exact h0)
    rw [e1, e2]
    have x1 : (r == 0) = false := by simp [h0]
    have hset := hb.set_ 1 (.bool true)
    have HB := Lib.hid hset
    have HO : Hid (w.grownBy (w.setCell ⟨g, 1, none⟩ (.bool true)) (some g)) := Lib.hid ⟨rfl, rfl, rfl, by simp [World.setCell], fun k _ hne => Below.heap_setCell w _ _ k (fun e => hne (by rw [e]))⟩
    clear e1 e2 hb hset hg hv hr
    go_enter Try.func31, Try.ntmps31
    go_wp2_with fail
    refine HG.out.mono ?_
    rintro e w1 ⟨rfl, rfl⟩
    go_wp2
    go_ret
    exact ⟨rfl, HB.out, HO.out⟩

end Go.Proofs.Ytnoojlgefpekiaa
