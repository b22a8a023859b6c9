/-
  Contracts of commands: span.
-/
import Derived.Test.YtnoojlgefpekiaaCmdA
import Derived.Test.YtnoojlgefpekiaaReg
namespace Go.Proofs.Ytnoojlgefpekiaa
open Go.RowKit

/-- a command's cells -/
def cC (c : Cm) : Array Value := #[.int .i8 c.kind, .int .i64 c.node, .int .i64 c.serial, .int .i64 c.dead, .int .i64 c.was, .int .i64 c.lo, .int .i64 c.hi, .int .i8 c.mode]
/-- an order's cells: a command and its bytes -/
def cO (c : Cm) (b : Value) : Array Value := #[.int .i8 c.kind, .int .i64 c.node, .int .i64 c.serial, .int .i64 c.dead, .int .i64 c.was, .int .i64 c.lo, .int .i64 c.hi, .int .i8 c.mode, b]

/-- a block that is known whole -/
def Blk (w : World) (g : Nat) (t : TypeId) (cs : Array Value) : Prop := w.heap[g]? = some (.cells cs t (0, 0))
section
variable {w w' : World} {g : Nat} {t : TypeId} {cs : Array Value}
theorem Blk.lt (h : Blk w g t cs) : g < w.heap.size := (Array.getElem?_eq_some_iff.1 h).1
theorem Blk.cell (h : Blk w g t cs) (i : Nat) : w.cell? ⟨g, i, none⟩ = cs[i]? := cell_of_row w g i cs t (0, 0) h
theorem Blk.frozen (h : Blk w g t cs) (i : Nat) : w.frozen? ⟨g, i, none⟩ = false := by
  unfold Blk at h
  simp [World.frozen?, h]
theorem Blk.new (w : World) (t : TypeId) (cs : Array Value) : Blk (w.alloc (.cells cs t)) w.heap.size t cs := heap_alloc_new w _
theorem Blk.alloc (h : Blk w g t cs) (o : Obj) : Blk (w.alloc o) g t cs := (Below.heap_alloc w o g h.lt).trans h
theorem Blk.set_ (h : Blk w g t cs) (i : Nat) (u : Value) : Blk (w.setCell ⟨g, i, none⟩ u) g t (cs.setIfInBounds i u) := by
  unfold Blk at h ⊢
  simp [World.setCell, Array.getElem?_modify, h]
theorem Blk.below {B : Nat} (h : Blk w g t cs) (hb : Below B w w') (hg : g < B) : Blk w' g t cs := (hb.block g hg).trans h
theorem Blk.drewN (h : Blk w g t cs) (n : Nat) : Blk (w.drewN n) g t cs := h
theorem Blk.other {g' : Nat} (h : Blk w g t cs) (hb : w.grownBy w' (some g')) (hg : g ≠ g') : Blk w' g t cs := (hb.block g h.lt (fun e => hg (by injection e))).trans h
end

set_option maxHeartbeats 1000000 in
/-- span -/
theorem span_any (g : Nat) (T : TypeId) (c : Cm) (b : Value) (w : World) (hb : Blk w g T (cO c b)) :
    Calls Try.prog 39 #[.pointer (some ⟨g, 0, none⟩)] w fun e w' => e = .returned (.bool (spanB c)) ∧ ∃ n, w' = w.drewN n := by
  have c5 : w.cell? ⟨g, 5, none⟩ = some (.int .i64 c.lo) := by rw [hb.cell 5]; rfl
  have c6 : w.cell? ⟨g, 6, none⟩ = some (.int .i64 c.hi) := by rw [hb.cell 6]; rfl
  clear hb
  by_cases h1 : 0 ≤ c.lo
  · by_cases h2 : c.lo ≤ c.hi
    · by_cases h3 : c.hi < 64
      · have e : spanB c = true := by simp [spanB, h1, h2, h3]
        rw [e]; clear e
        go_enter Try.func39, Try.ntmps39
        go_wp2
        go_quiet (fail)
        go_wp2
        go_ret
        exact ⟨rfl, _, rfl⟩
      · have e : spanB c = false := by simp [spanB, h3]
        rw [e]; clear e
        have d3 : decide (c.hi < 64) = false := by simpa using h3
        go_enter Try.func39, Try.ntmps39
        go_wp2
        go_quiet (fail)
        go_wp2
        go_ret
        exact ⟨rfl, _, rfl⟩
    · have e : spanB c = false := by simp [spanB, h2]
      rw [e]; clear e
      have d2 : decide (c.lo ≤ c.hi) = false := by simpa using h2
      go_enter Try.func39, Try.ntmps39
      go_wp2
      go_quiet (fail)
      go_wp2
      go_ret
      exact ⟨rfl, _, rfl⟩
  · have e : spanB c = false := by simp [spanB, h1]
    rw [e]; clear e
    have d1 : decide (0 ≤ c.lo) = false := by simpa using h1
    go_enter Try.func39, Try.ntmps39
    go_wp2
    go_quiet (fail)
    go_wp2
    go_ret
    exact ⟨rfl, _, rfl⟩

theorem bdrew {B : Nat} {a w : World} (h : Below B a w) (n : Nat) : Below B a (w.drewN n) := ⟨h.os, h.tape, h.output, h.size, h.block⟩
theorem span_below (g : Nat) (T : TypeId) (c : Cm) (b : Value) (w : World) (hb : Blk w g T (cO c b)) :
    Calls Try.prog 39 #[.pointer (some ⟨g, 0, none⟩)] w fun e w' => e = .returned (.bool (spanB c)) ∧ Below w.heap.size w w' :=
  (span_any g T c b w hb).mono fun _ _ ⟨h1, n, h2⟩ => ⟨h1, h2 ▸ bdrew (Below.refl _ _) n⟩
theorem key_below (k : Int) (w : World) : Calls Try.prog 35 #[.int .i64 k] w fun e w' => e = .returned (.bool (keyB k)) ∧ Below w.heap.size w w' :=
  (key_any k w).mono fun _ _ ⟨h1, h2⟩ => ⟨h1, h2 ▸ Below.refl _ _⟩
/-- a guard that yields nothing -/
theorem want_undef {ops : Array Oper} {o : Oper} {a : Act} {g : Nat} {b : Bool} (hg : o.guard = some (g, b)) (h : valAt ops a g = undef) : Region.wanted o (yielded ops a.tmps) = false := by
  unfold Region.wanted
  rw [hg]
  unfold valAt dstOf at h
  unfold yielded
  cases hd : (ops[g]?).bind (·.dst) with
  | none => simp [hd]
  | some d =>
    rw [hd] at h
    simp only [Act.eval] at h
    cases ht : a.tmps[d]? with
    | none => simp [hd, ht]
    | some u =>
      have : u = undef := by simpa [ht] using h
      subst this
      simp [hd, ht, undef]

section
variable {P : Program} {Q : Exit → Act → World → Prop} {l : List Oper} {Vs : List (Value → Value → World → Prop)} {i : Nat} {o : Oper} {a : Act} {W w' : World} {v : Value}
/-- what an obligation asks behind an operation -/
def Post (Vs : List (Value → Value → World → Prop)) (i : Nat) (o : Oper) (a : Act) (W : World) (a' : Act) (w' : World) : Prop :=
  ∃ x, a' = a.put o.dst x ∧ (o.dst = none → x = undef) ∧ Vs.getD i (fun _ _ _ => True) x x w' ∧ Below W.heap.size W w' ∧ ((fun _ : Nat => false) i = true → ∃ g, x = ptr g ∧ W.heap.size ≤ g)
/-- an operation that reads at most -/
theorem op_v (ho : l.toArray[i]? = some o) (v : Value) (hg : o.guard = none) (hr : Runs P o a W (.ok (.value v) W)) (hV : Vs.getD i (fun _ _ _ => True) v v W) (hd : o.dst.isSome = true) : wpOp P l.toArray Q i (Post Vs i o a W) a W :=
  op_value ho (want_none hg) hr ⟨v, rfl, (fun h => by rw [h] at hd; cases hd), hV, Below.refl _ _, fun h => by cases h⟩
/-- the same under a guard that says yes -/
theorem op_vg (ho : l.toArray[i]? = some o) (v : Value) {g : Nat} {b : Bool} (hg : o.guard = some (g, b)) (hb : valAt l.toArray a g = .bool b) (hr : Runs P o a W (.ok (.value v) W)) (hV : Vs.getD i (fun _ _ _ => True) v v W) (hd : o.dst.isSome = true) : wpOp P l.toArray Q i (Post Vs i o a W) a W :=
  op_value ho (want_yes hg hb) hr ⟨v, rfl, (fun h => by rw [h] at hd; cases hd), hV, Below.refl _ _, fun h => by cases h⟩
/-- one whose guard says no -/
theorem op_off (ho : l.toArray[i]? = some o) {g : Nat} {b c : Bool} (hg : o.guard = some (g, b)) (hb : valAt l.toArray a g = .bool c) (hn : c ≠ b) (hV : Vs.getD i (fun _ _ _ => True) undef undef W) : wpOp P l.toArray Q i (Post Vs i o a W) a W :=
  op_none ho (want_no hg hb hn) ⟨undef, rfl, fun _ => rfl, hV, Below.refl _ _, fun h => by cases h⟩
/-- one whose guard was not asked -/
theorem op_un (ho : l.toArray[i]? = some o) {g : Nat} {b : Bool} (hg : o.guard = some (g, b)) (hb : valAt l.toArray a g = undef) (hV : Vs.getD i (fun _ _ _ => True) undef undef W) : wpOp P l.toArray Q i (Post Vs i o a W) a W :=
  op_none ho (want_undef hg hb) ⟨undef, rfl, fun _ => rfl, hV, Below.refl _ _, fun h => by cases h⟩
end

end Go.Proofs.Ytnoojlgefpekiaa
