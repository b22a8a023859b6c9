/-
  Words for memory: a slice value that reads as a row of cells, whatever its address.
-/
import Derived.Test.YtnoojlgefpekiaaRows
import Derived.WalkKit
import Derived.WalkSpells
import Derived.WalkLawsBesides
import Derived.Lib.Hide
import Derived.Deep.Draws
import Derived.Laws.IdiomStrings
import Derived.Lib.BufferRead
import Derived.Laws.BitsAllLaws
import Derived.Laws.BitsLemmas
import Derived.Test.YtnoojlgefpekiaaPlain
namespace Go.Proofs.Ytnoojlgefpekiaa
open Go.RowKit

theorem blk_add (a : Addr) (n : Nat) : (a.add n).block = a.block := by unfold Addr.add; split <;> rfl
theorem add_two (a : Addr) (i j : Nat) : (a.add i).add j = a.add (i + j) := by
  unfold Addr.add
  by_cases hi : i = 0 <;> by_cases hj : j = 0 <;> simp [hi, hj, Nat.add_assoc]

/-- bytes as cells -/
def cB (l : List UInt8) : List Value := l.map fun b => Value.int .u8 (b.toNat : Int)
/-- numbers as cells -/
def cI (l : List Int) : List Value := l.map (Value.int .i64)

/-- A slice of the address A and the length n reads as the cells xs, below block B. -/
def Rd (w : World) (B : Nat) (A : Option Addr) (n : Nat) (xs : List Value) : Prop :=
  xs.length = n ∧ (0 < n → ∃ ad, A = some ad ∧ ad.block < B ∧ ∀ j u, xs[j]? = some u → w.cell? (ad.add j) = some u)

section
variable {w w' : World} {B B' n : Nat} {A : Option Addr} {xs : List Value}
theorem Rd.nil : Rd w B A 0 [] := ⟨rfl, fun h => absurd h (by omega)⟩
theorem Rd.at_ {k : Nat} (h : Rd w B A n xs) (hk : k < n) : ∃ ad u, A = some ad ∧ ad.block < B ∧ xs[k]? = some u ∧ w.cell? (ad.add k) = some u := by
  obtain ⟨ad, e, hb, hc⟩ := h.2 (by omega)
  have hl : k < xs.length := by have := h.1; omega
  exact ⟨ad, xs[k], e, hb, List.getElem?_eq_getElem hl, hc k _ (List.getElem?_eq_getElem hl)⟩
theorem Rd.keep (h : Rd w B A n xs) (hk : ∀ p : Addr, p.block < B → w'.cell? p = w.cell? p) : Rd w' B A n xs :=
  ⟨h.1, fun hn => by
    obtain ⟨ad, e, hb, hc⟩ := h.2 hn
    exact ⟨ad, e, hb, fun j u hu => (hk _ (by rw [blk_add]; exact hb)).trans (hc j u hu)⟩⟩
theorem Rd.more (h : Rd w B A n xs) (hB : B ≤ B') : Rd w B' A n xs :=
  ⟨h.1, fun hn => by
    obtain ⟨ad, e, hb, hc⟩ := h.2 hn
    exact ⟨ad, e, by omega, hc⟩⟩
theorem Rd.below (h : Rd w B A n xs) (hb : Below B w w') : Rd w' B A n xs := h.keep fun _ hp => hb.cell hp
theorem Rd.drew (h : Rd w B A n xs) : Rd w.drew B A n xs := h
theorem Rd.alloc (h : Rd w B A n xs) (hB : B ≤ w.heap.size) (o : Obj) : Rd (w.alloc o) B A n xs := h.keep fun p hp => World.cell?_alloc_lt w o p (by omega)
theorem Rd.setCell (h : Rd w B A n xs) {p : Addr} (hB : B ≤ p.block) (u : Value) : Rd (w.setCell p u) B A n xs :=
  h.keep fun q hq => World.cell?_setCell_other w p q u (fun e => by subst e; omega)
theorem Rd.grown (h : Rd w B A n xs) {row : Option Nat} (hg : w.grownBy w' row) (hB : B ≤ w.heap.size) (hr : ∀ g, row = some g → B ≤ g) : Rd w' B A n xs :=
  h.keep fun p hp => World.cell?_of_block (hg.block p.block (by omega) (fun e => by have := hr _ e.symm; omega))
theorem Rd.int {k : Nat} {zs : List Int} (h : Rd w B A n (cI zs)) (hk : k < n) : ∃ ad z, A = some ad ∧ ad.block < B ∧ zs[k]? = some z ∧ w.cell? (ad.add k) = some (.int .i64 z) := by
  obtain ⟨ad, u, e, hb, hx, hc⟩ := h.at_ hk
  simp only [cI, List.getElem?_map] at hx
  obtain ⟨z, hz, rfl⟩ := Option.map_eq_some_iff.1 hx
  exact ⟨ad, z, e, hb, hz, hc⟩
/-- what the call owns it can read -/
theorem Rd.of_own {base : Nat} {e : TypeId} {c : Nat} (h : w.ownsRow base e 1 (.slice A n c) n xs) : Rd w w.heap.size A n xs := by
  refine ⟨by simpa using h.1, fun hn => ?_⟩
  rcases h.2 with ⟨hv, h0⟩ | ⟨g, cap, cur, hv, _, hh, _⟩
  · omega
  · have hA : A = some ⟨g, 0, none⟩ := by injection hv
    subst hA
    exact ⟨_, rfl, (Array.getElem?_eq_some_iff.1 hh).1, h.cells (g := g) rfl⟩
end

/-- a fresh block reads as its cells -/
theorem Rd.new (w : World) (t : TypeId) (xs : List Value) : Rd (w.alloc (.cells xs.toArray t)) (w.heap.size + 1) (some ⟨w.heap.size, 0, none⟩) xs.length xs := by
  refine ⟨rfl, fun _ => ⟨_, rfl, by simp, fun j u hu => ?_⟩⟩
  have e : (⟨w.heap.size, 0, none⟩ : Addr).add j = ⟨w.heap.size, j, none⟩ := by unfold Addr.add; split <;> simp_all
  rw [e, cell_of_row _ _ _ xs.toArray t (0, 0) (heap_alloc_new w _)]
  simpa using hu

/-- string(b) -/
theorem run_str {w : World} {B n : Nat} {A : Option Addr} {l : List UInt8} (c : Nat) (h : Rd w B A n (cB l)) :
    (convert 24 9 (.slice A n c)).run Try.prog w = .ok (.string ⟨l.toArray⟩) w := by
  have hl : l.length = n := by have := h.1; simpa [cB] using this
  rcases A with _ | ad
  · have h0 : n = 0 := by
      rcases Nat.eq_zero_or_pos n with h0 | h0
      · exact h0
      · obtain ⟨ad, e, _⟩ := h.2 h0
        cases e
    subst h0
    obtain rfl : l = [] := List.eq_nil_of_length_eq_zero hl
    have := Lib.run_convert_nil_bytes (P := Try.prog) w 24 9 5 c Try.underlying24 Try.underlying5 Try.underlying9
    rw [this]
  · subst hl
    refine run_convert_bytes_back (P := Try.prog) w 24 9 5 ad c l Try.underlying24 Try.underlying5 Try.underlying9 (fun j hj => ?_)
    obtain ⟨ad', e, _, hc⟩ := h.2 (by omega)
    injection e with e
    subst e
    exact hc j _ (by simp [cB, hj])

theorem ofInt_nat64 (a : Nat) (ha : a < 9223372036854775808) : (BitVec.ofInt 64 (a : Int)).toNat = a := by
  rw [BitVec.ofInt_natCast, BitVec.toNat_ofNat]; exact Nat.mod_eq_of_lt (by omega)
theorem and_nat64 (a b : Nat) (ha : a < 9223372036854775808) (hb : b < 9223372036854775808) : bits .and .i64 (a : Int) (b : Int) = ((a &&& b : Nat) : Int) := by
  have hx : a &&& b < 2 ^ 63 := Nat.and_lt_two_pow _ (by omega)
  show IntKind.i64.wrap ((BitVec.ofInt 64 (a : Int) &&& BitVec.ofInt 64 (b : Int)).toNat : Int) = _
  rw [BitVec.toNat_and, ofInt_nat64 a ha, ofInt_nat64 b hb, IntKind.wrap_i64]
  omega
theorem or_nat64 (a b : Nat) (ha : a < 9223372036854775808) (hb : b < 9223372036854775808) : bits .or .i64 (a : Int) (b : Int) = ((a ||| b : Nat) : Int) := by
  have hx : a ||| b < 2 ^ 63 := Nat.or_lt_two_pow (by omega) (by omega)
  show IntKind.i64.wrap ((BitVec.ofInt 64 (a : Int) ||| BitVec.ofInt 64 (b : Int)).toNat : Int) = _
  rw [BitVec.toNat_or, ofInt_nat64 a ha, ofInt_nat64 b hb, IntKind.wrap_i64]
  omega

theorem pow_256 (q : Nat) : 2 ^ (8 * q) = 256 ^ q := by rw [Nat.pow_mul]

/-- a byte of a number, as the walk spells it -/
theorem byte_walk (zn q : Nat) (h : zn ≤ 1099511627776) : bits BinOp.and IntKind.i64 ((zn : Int) / 2 ^ (8 * q)) 255 % 256 = ((byteN zn q).toNat : Int) := by
  have e : ((zn : Int) / 2 ^ (8 * q)) = ((zn / 256 ^ q : Nat) : Int) := by
    rw [← pow_256, Int.natCast_ediv, Int.natCast_pow]; rfl
  have hlt : zn / 256 ^ q ≤ zn := Nat.div_le_self _ _
  rw [e, show (255 : Int) = ((255 : Nat) : Int) from rfl, and_nat64 _ _ (by omega) (by omega)]
  have h2 : zn / 256 ^ q &&& 255 = zn / 256 ^ q % 256 := Nat.and_two_pow_sub_one_eq_mod _ 8
  rw [h2]
  simp only [byteN, UInt8.toNat_ofNat']
  omega

/-- a byte laid over a number -/
theorem or_num (a b k : Nat) (ha : a < 256 ^ k) (hb : b < 256) (hk : k ≤ 5) :
    bits BinOp.or IntKind.i64 (a : Int) (wrap64 (wrap64 (b : Int) * 2 ^ (8 * k))) = ((a + 256 ^ k * b : Nat) : Int) := by
  have e1 : wrap64 (b : Int) = (b : Int) := IntWalk.wrap64_in _ ⟨by omega, by omega⟩
  have e2 : ((b : Int) * 2 ^ (8 * k)) = ((256 ^ k * b : Nat) : Int) := by
    rw [← pow_256, Int.natCast_mul, Int.natCast_pow, Int.mul_comm]; rfl
  have hpk : 256 ^ k ≤ 1099511627776 := by
    have := Nat.pow_le_pow_right (n := 256) (by omega) hk
    omega
  have hbk : 256 ^ k * b ≤ 1099511627776 * 255 := Nat.mul_le_mul hpk (by omega)
  have e4 : a ||| 256 ^ k * b = a + 256 ^ k * b := by
    have := Nat.shiftLeft_add_eq_or_of_lt (b := a) (i := 8 * k) (by rw [pow_256]; exact ha) b
    rw [Nat.shiftLeft_eq, pow_256, Nat.mul_comm] at this
    rw [Nat.or_comm, ← this, Nat.add_comm]
  rw [e1, e2]
  generalize 256 ^ k * b = c at *
  generalize 256 ^ k = d at *
  have e3 : wrap64 (c : Int) = (c : Int) := IntWalk.wrap64_in _ ⟨by omega, by omega⟩
  rw [e3, or_nat64 _ _ (by omega) (by omega), e4]

end Go.Proofs.Ytnoojlgefpekiaa
