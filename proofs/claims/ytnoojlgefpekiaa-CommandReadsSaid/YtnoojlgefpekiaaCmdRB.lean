/-
  The reference's Read. (Printed by cmd_rread.py.)
-/
import Derived.Test.YtnoojlgefpekiaaCmdZ
import Derived.Test.YtnoojlgefpekiaaCmdQ
import Derived.Test.YtnoojlgefpekiaaCmdRA
import Derived.Test.YtnoojlgefpekiaaRefF
namespace Go.Proofs.Ytnoojlgefpekiaa
open Go.RowKit

/-- where a reading stands: the cell of the result, the command's block -/
structure Rt (w0 W : World) (P : Nat) (cs : Array Value) : Prop where
  r : Blk W w0.heap.size 42 (cC cZ)
  b : Below w0.heap.size w0 W
  p : Blk W P 42 cs
  hp : w0.heap.size < P
theorem Rt.start (w : World) (cs : Array Value) : Rt w ((w.alloc (Obj.cells (cC cZ) 42)).alloc (Obj.cells cs 42)) (w.heap.size + 1) cs :=
  ⟨(Blk.new w 42 (cC cZ)).alloc _, ((Below.refl _ _).alloc (Nat.le_refl _) _).alloc (by simp) _, by simpa using Blk.new (w.alloc (Obj.cells (cC cZ) 42)) 42 cs, Nat.lt_succ_self _⟩
theorem Rt.drew {w0 W : World} {P : Nat} {cs : Array Value} (h : Rt w0 W P cs) : Rt w0 W.drew P cs := ⟨h.r, h.b.drew, h.p, h.hp⟩
theorem Rt.set_ {w0 W : World} {P : Nat} {cs : Array Value} (h : Rt w0 W P cs) (i : Nat) (u : Value) : Rt w0 (W.setCell ⟨P, i, none⟩ u) P (cs.setIfInBounds i u) := by
  have hp := h.hp
  exact ⟨(Below.heap_setCell W _ _ _ (by show _ ≠ P; omega)).trans h.r, h.b.setCell (Nat.le_of_lt hp) _, h.p.set_ i u, hp⟩
theorem Rt.below {w0 W W' : World} {P : Nat} {cs : Array Value} (h : Rt w0 W P cs) (hb : Below W.heap.size W W') : Rt w0 W' P cs :=
  ⟨h.r.below hb h.r.lt, h.b.trans (hb.mono h.b.size), h.p.below hb h.p.lt, h.hp⟩

theorem bytes_or (c : Cm) : (bytesE c = 0 ∧ mayC c = true ∧ bytesS c = strB (bytesC c)) ∨ (bytesE c = 2 ∧ mayC c = false) := by
  unfold bytesE bytesS
  cases mayC c <;> simp

theorem rrow_bad (s : ByteArray) (ls : List Int) (eg : Int) (w : World) (hs : s.size ≤ 1000) (h : rowR s.data.toList 6 = (ls, eg)) :
    Calls Try.prog 18 #[.string s, .int .i64 6] w fun e w' => ∃ A n c, e = .returned (.tuple #[.slice A n c, .int .i64 eg]) ∧ Below w.heap.size w w' := by
  refine (rrow_gen s 6 w (by omega)).mono ?_
  rintro e w' ⟨A, n, c, h1, _, _, h4⟩
  rw [h] at h1
  exact ⟨A, n, c, h1, h4⟩
theorem rrow_nil (s : ByteArray) (w : World) (hs : s.size ≤ 1000) (h : rowR s.data.toList 6 = ([], 0)) :
    Calls Try.prog 18 #[.string s, .int .i64 6] w fun e w' => ∃ A c, e = .returned (.tuple #[.slice A 0 c, .int .i64 0]) ∧ Below w.heap.size w w' := by
  refine (rrow_gen s 6 w (by omega)).mono ?_
  rintro e w' ⟨A, n, c, h1, _, h3, h4⟩
  rw [h] at h1 h3
  obtain rfl : n = 0 := h3.1.symm
  exact ⟨A, c, h1, h4⟩
theorem rrow_cons (s : ByteArray) (z0 : Int) (zs : List Int) (w : World) (hs : s.size ≤ 1000) (h : rowR s.data.toList 6 = (z0 :: zs, 0)) :
    Calls Try.prog 18 #[.string s, .int .i64 6] w fun e w' => ∃ g n c, e = .returned (.tuple #[.slice (some ⟨g, 0, none⟩) n c, .int .i64 0]) ∧ n = zs.length + 1 ∧ w.heap.size ≤ g ∧ w'.cell? ⟨g, 0, none⟩ = some (.int .i64 z0) ∧ (∀ z1, zs = [z1] → w'.cell? ⟨g, 1, none⟩ = some (.int .i64 z1)) ∧ Below w.heap.size w w' := by
  have t6 : Int.toNat 6 = 6 := rfl
  refine (rrow_own s 6 w (by decide) (by decide) (by omega)).mono ?_
  rintro e w' (⟨hok, A, n, c, h1, _, h3, h4⟩ | ⟨hno, _⟩)
  · unfold rowR at h
    rw [if_neg (by omega), t6, if_pos hok] at h
    injection h with h _
    rw [h] at h3
    have hn : zs.length + 1 = n := by have := (Rd.of_own h3).1; simpa [cI] using this
    rcases h3.2 with ⟨_, h0⟩ | ⟨g, cap, cur, hv, hg, hh, _, _, _, hx⟩
    · omega
    · injection hv with hv _ _
      subst hv
      have hc : ∀ (k : Nat) u, (cI (z0 :: zs))[k]? = some u → w'.cell? ⟨g, k, none⟩ = some u := by
        intro k u hu
        obtain ⟨ad, e1, _, hcc⟩ := (Rd.of_own h3).2 (by omega)
        injection e1 with e1
        have e2 : (⟨g, 0, none⟩ : Addr).add k = ⟨g, k, none⟩ := by unfold Addr.add; split <;> simp_all
        rw [← e2, e1]
        exact hcc k u hu
      exact ⟨g, n, c, h1, hn.symm, hg, hc 0 _ rfl, fun z1 hz => hc 1 _ (by subst hz; rfl), h4⟩
  · unfold rowR at h
    rw [if_neg (by omega), t6, if_neg hno] at h
    cases h

/-- what is known of a text, if it is a command's bytes -/
def Known (s : ByteArray) (v1 e1 v2 e2 : Int) (b : Nat) (R : ByteArray) : Prop :=
  ∀ d, mayC d = true → strB (bytesC d) = s → e1 = 0 ∧ v1 = d.node ∧ e2 = 0 ∧ v2 = d.serial ∧ (b : Int) = d.kind ∧ R = strB (moreC d)

section
variable {s R : ByteArray} {v1 e1 v2 e2 : Int} {b : Nat} (K : Known s v1 e1 v2 e2 b R)
include K
theorem uq_0 (h2 : ((b : Int) == 2) = false) (h3 : ((b : Int) == 3) = false) (h4 : ((b : Int) == 4) = false) (h5 : ((b : Int) == 5) = false) :
    ∀ d, mayC d = true → strB (bytesC d) = s → d = ⟨b, v1, v2, 0, 0, 0, 0, 0⟩ := by
  intro d hm hs
  obtain ⟨_, a1, _, a2, a3, _⟩ := K d hm hs
  have n2 := ne_of_beq_false h2; have n3 := ne_of_beq_false h3; have n4 := ne_of_beq_false h4; have n5 := ne_of_beq_false h5
  obtain ⟨x1, x2, x3, x4, x5⟩ := more_0 hm (by omega) (by omega) (by omega) (by omega)
  rw [cm_eq d, ← a3, ← a1, ← a2, x1, x2, x3, x4, x5]
theorem rd_size (k : Int) (hk : ((b : Int) == k) = true) (h : k = 2 ∨ k = 3) (hz : R.size < 2) : readC s = (cZ, 100) :=
  err_of s fun d hm hs => by
    obtain ⟨_, _, _, _, a3, a4⟩ := K d hm hs
    have e := eq_of_beq hk
    rcases h with rfl | rfl
    · have := (more_2 hm (by omega)).1
      rw [a4, this, str_size] at hz
      simp at hz
    · have := (more_3 hm (by omega)).1
      rw [a4, this, str_size] at hz
      simp at hz
theorem uq_2 (hk : ((b : Int) == 2) = true) (hz : R.size = 3) (r0 r1 r2 : Nat) (h0 : (R[0]'(by omega)).toNat = r0) (h1 : (R[1]'(by omega)).toNat = r1) (h2 : (R[2]'(by omega)).toNat = r2) (m : Int) (hm2 : IntKind.i8.wrap (bits BinOp.and IntKind.u8 (r2 : Int) 127) = m) :
    ∀ d, mayC d = true → strB (bytesC d) = s → d = ⟨b, v1, v2, 0, 0, r0, r1, m⟩ := by
  intro d hm hs
  obtain ⟨_, a1, _, a2, a3, a4⟩ := K d hm hs
  obtain ⟨x0, x1, x2, x3, x4, x5⟩ := more_2 hm (by have := eq_of_beq hk; omega)
  have y : R.data.toList = [UInt8.ofNat d.lo.toNat, UInt8.ofNat d.hi.toNat, UInt8.ofNat d.mode.toNat] := by rw [a4, x0]; rfl
  rw [get_at R 0 _ (by rw [y]; rfl)] at h0
  rw [get_at R 1 _ (by rw [y]; rfl)] at h1
  rw [get_at R 2 _ (by rw [y]; rfl)] at h2
  simp only [UInt8.toNat_ofNat'] at h0 h1 h2
  have q0 : (r0 : Int) = d.lo := by omega
  have q1 : (r1 : Int) = d.hi := by omega
  have q2 : m = d.mode := by
    rcases x3 with x3 | x3
    · have : r2 = 1 := by omega
      rw [← hm2, this, x3]; decide
    · have : r2 = 2 := by omega
      rw [← hm2, this, x3]; decide
  rw [cm_eq d, ← a3, ← a1, ← a2, x4, x5, q0, q1, q2]
theorem uq_2n (hk : ((b : Int) == 2) = true) (hz : ((R.size : Int) == 3) = false) (c : Cm) : ∀ d, mayC d = true → strB (bytesC d) = s → d = c := by
  intro d hm hs
  obtain ⟨_, _, _, _, a3, a4⟩ := K d hm hs
  have x0 := (more_2 hm (by have := eq_of_beq hk; omega)).1
  exact absurd (by rw [a4, x0]; rfl) (ne_of_beq_false hz)
theorem uq_3 (hk : ((b : Int) == 3) = true) (hz : 2 ≤ R.size) (r0 r1 : Nat) (h0 : (R[0]'(by omega)).toNat = r0) (h1 : (R[1]'(by omega)).toNat = r1) :
    ∀ d, mayC d = true → strB (bytesC d) = s → d = ⟨b, v1, v2, 0, 0, r0, r1, 0⟩ := by
  intro d hm hs
  obtain ⟨_, a1, _, a2, a3, a4⟩ := K d hm hs
  obtain ⟨x0, x1, x2, x3, x4, x5⟩ := more_3 hm (by have := eq_of_beq hk; omega)
  have y : R.data.toList = [UInt8.ofNat d.lo.toNat, UInt8.ofNat d.hi.toNat] := by rw [a4, x0]; rfl
  rw [get_at R 0 _ (by rw [y]; rfl)] at h0
  rw [get_at R 1 _ (by rw [y]; rfl)] at h1
  simp only [UInt8.toNat_ofNat'] at h0 h1
  have q0 : (r0 : Int) = d.lo := by omega
  have q1 : (r1 : Int) = d.hi := by omega
  rw [cm_eq d, ← a3, ← a1, ← a2, x3, x4, x5, q0, q1]
theorem row_err (k : Int) (hk : ((b : Int) == k) = true) (h : k = 4 ∨ k = 5) (ls : List Int) (eg : Int) (hr : rowR R.data.toList 6 = (ls, eg)) (hz : ls = [] ∨ (eg == 0) = false) : readC s = (cZ, 100) :=
  err_of s fun d hm hs => by
    obtain ⟨_, _, _, _, a3, a4⟩ := K d hm hs
    have e := eq_of_beq hk
    rw [a4, str_list] at hr
    rcases h with rfl | rfl
    · rw [(more_4 hm (by omega)).1] at hr
      injection hr with r1 r2
      rcases hz with hz | hz
      · rw [hz] at r1; cases r1
      · rw [← r2] at hz; cases hz
    · rw [(more_5 hm (by omega)).1] at hr
      injection hr with r1 r2
      rcases hz with hz | hz
      · rw [hz] at r1; cases r1
      · rw [← r2] at hz; cases hz
theorem uq_4 (hk : ((b : Int) == 4) = true) (z0 z1 : Int) (hr : rowR R.data.toList 6 = ([z0, z1], 0)) : ∀ d, mayC d = true → strB (bytesC d) = s → d = ⟨b, v1, v2, z0, z1, 0, 0, 0⟩ := by
  intro d hm hs
  obtain ⟨_, a1, _, a2, a3, a4⟩ := K d hm hs
  obtain ⟨x0, x1, x2, x3⟩ := more_4 hm (by have := eq_of_beq hk; omega)
  rw [a4, str_list, x0] at hr
  injection hr with r1 _
  injection r1 with q0 r1
  injection r1 with q1 _
  rw [cm_eq d, ← a3, ← a1, ← a2, x1, x2, x3, q0, q1]
theorem uq_4n (hk : ((b : Int) == 4) = true) (z0 : Int) (zs : List Int) (hr : rowR R.data.toList 6 = (z0 :: zs, 0)) (hz : zs.length ≠ 1) (c : Cm) : ∀ d, mayC d = true → strB (bytesC d) = s → d = c := by
  intro d hm hs
  obtain ⟨_, a1, _, a2, a3, a4⟩ := K d hm hs
  obtain ⟨x0, x1, x2, x3⟩ := more_4 hm (by have := eq_of_beq hk; omega)
  rw [a4, str_list, x0] at hr
  injection hr with r1 _
  injection r1 with q0 r1
  rw [← r1] at hz
  exact absurd rfl hz
theorem uq_5 (hk : ((b : Int) == 5) = true) (z0 : Int) (zs : List Int) (hr : rowR R.data.toList 6 = (z0 :: zs, 0)) : ∀ d, mayC d = true → strB (bytesC d) = s → d = ⟨b, v1, v2, z0, 0, 0, 0, 0⟩ := by
  intro d hm hs
  obtain ⟨_, a1, _, a2, a3, a4⟩ := K d hm hs
  obtain ⟨x0, x1, x2, x3, x4⟩ := more_5 hm (by have := eq_of_beq hk; omega)
  rw [a4, str_list, x0] at hr
  injection hr with r1 _
  injection r1 with q0 r1
  rw [cm_eq d, ← a3, ← a1, ← a2, x1, x2, x3, x4, q0]
end

end Go.Proofs.Ytnoojlgefpekiaa
