/-
  Contracts of the tally's methods: sees, here.
-/
import Derived.Test.YtilpcoebpinmfaaMem
import Derived.Test.YtilpcoebpinmfaaPlain
import Derived.RegionTactic
import Derived.BigRegion
namespace Go.Proofs.Ytilpcoebpinmfaa
open Go.RowKit

/-- a tally's cells -/
def tc (t : Ty) : Array Value := #[.int .i64 t.inst, .int .i64 t.mbal, .int .i64 t.best, .string t.val, .int .i64 t.seen, .bool t.ahead, .bool t.lost]

/-- sees, of one number -/
theorem sees_one (g : Nat) (T : TypeId) (a b c s m : Int) (v : ByteArray) (x y : Bool) (ad : Addr) (cp : Nat) (w : World) (hb : Blk w g T #[.int .i64 a, .int .i64 b, .int .i64 c, .string v, .int .i64 s, .bool x, .bool y])
    (hc : w.cell? ad = some (.int .i64 m)) :
    Calls Try.prog 20 #[.pointer (some ⟨g, 0, none⟩), .slice (some ad) 1 cp] w fun e w' => e = .returned (.tuple #[]) ∧ Blk w' g T #[.int .i64 a, .int .i64 b, .int .i64 c, .string v, .int .i64 (mx s m), .bool x, .bool y] ∧ w.grownBy w' (some g) := by
  have h4 : w.cell? ⟨g, 4, none⟩ = some (.int .i64 s) := by rw [hb.cell 4]; rfl
  have hf := hb.frozen 4
  have hset := fun u => hb.set_ 4 u
  have ho := fun u => only_set (World.grownBy.refl w (some g)) 4 u
  have HS := Lib.hid hset; have HO := Lib.hid ho; clear hset ho hb
  by_cases hsm : s < m
  · have e : mx s m = m := if_pos hsm
    rw [e]; clear e
    go_enter Try.func20, Try.ntmps20
    go_wp2
    refine wp_loop_rounds 2 ?_
    rw [rounds_succ]
    go_wp2
    rw [rounds_succ]
    go_wp2
    go_end0
    exact ⟨rfl, HS.out _, HO.out _⟩
  · have e : mx s m = s := if_neg hsm
    rw [e]; clear e
    go_enter Try.func20, Try.ntmps20
    go_wp2
    refine wp_loop_rounds 2 ?_
    rw [rounds_succ]
    go_wp2
    rw [rounds_succ]
    go_wp2
    go_end0
    exact ⟨rfl, HS.out _, HO.out _⟩

theorem only_alloc {a w : World} {row : Option Nat} (h : a.grownBy w row) (o : Obj) : a.grownBy (w.alloc o) row :=
  ⟨h.os, h.tape, h.output, Nat.le_trans h.size (by simp), fun k hk hne => (Below.heap_alloc w o k (Nat.lt_of_lt_of_le hk h.size)).trans (h.block k hk hne)⟩

set_option maxHeartbeats 1000000 in
/-- here -/
theorem here_any (g : Nat) (T : TypeId) (a b c s i m l : Int) (v z : ByteArray) (x y : Bool) (w : World) (hb : Blk w g T #[.int .i64 a, .int .i64 b, .int .i64 c, .string v, .int .i64 s, .bool x, .bool y]) :
    Calls Try.prog 23 #[.pointer (some ⟨g, 0, none⟩), .agg #[.int .i64 i, .int .i64 m, .int .i64 l, .string z]] w fun e w' => e = .returned (.tuple #[]) ∧
      Blk w' g T #[.int .i64 a, .int .i64 b, .int .i64 (if c < l then l else c), .string (if c < l then z else v), .int .i64 s, .bool x, .bool (y || decide (b < m))] ∧ w.grownBy w' (some g) := by
  have hlt := hb.lt
  have c1 : w.cell? ⟨g, 1, none⟩ = some (.int .i64 b) := by rw [hb.cell 1]; rfl
  have c2 : w.cell? ⟨g, 2, none⟩ = some (.int .i64 c) := by rw [hb.cell 2]; rfl
  have c3 : w.cell? ⟨g, 3, none⟩ = some (.string v) := by rw [hb.cell 3]; rfl
  have c6 : w.cell? ⟨g, 6, none⟩ = some (.bool y) := by rw [hb.cell 6]; rfl
  have f2 := hb.frozen 2
  have f3 := hb.frozen 3
  have f6 := hb.frozen 6
  have o1 := World.grownBy.refl w (some g)
  have K1 := Lib.hid hb; have O1 := Lib.hid o1; clear hb o1
  by_cases hcl : c < l
  · rw [if_pos hcl, if_pos hcl]
    cases y
    all_goals
      by_cases hbm : b < m
      all_goals
        go_enter Try.func23, Try.ntmps23
        go_wp2
        go_region
        go_wp2
        go_region
        go_wp2
        go_region
        go_wp2
        go_end0
        refine ⟨rfl, ?_, ?_⟩
        · first
            | (rw [Bool.true_or]; exact (((((K1.out.set_ 6 _).set_ 2 _).set_ 3 _).alloc _).drew.drew.drew))
            | (rw [show (false || decide (b < m)) = true from by simp [hbm]]; exact (((((K1.out.set_ 6 _).set_ 2 _).set_ 3 _).alloc _).drew.drew.drew))
            | (rw [Bool.false_or]; exact (((((K1.out.set_ 6 _).set_ 2 _).set_ 3 _).alloc _).drew.drew.drew))
        · exact only_drew (only_drew (only_drew (only_alloc (only_set (only_set (only_set O1.out 6 _) 2 _) 3 _) _)))
  · rw [if_neg hcl, if_neg hcl]
    cases y
    all_goals
      by_cases hbm : b < m
      all_goals
        go_enter Try.func23, Try.ntmps23
        go_wp2
        go_region
        go_wp2
        go_region
        go_wp2
        go_end0
        refine ⟨rfl, ?_, ?_⟩
        · first
            | (rw [Bool.true_or]; exact (((K1.out.set_ 6 _).alloc _).drew.drew))
            | (rw [show (false || decide (b < m)) = true from by simp [hbm]]; exact (((K1.out.set_ 6 _).alloc _).drew.drew))
            | (rw [Bool.false_or]; exact (((K1.out.set_ 6 _).alloc _).drew.drew))
        · exact only_drew (only_drew (only_alloc (only_set O1.out 6 _) _))

end Go.Proofs.Ytilpcoebpinmfaa
