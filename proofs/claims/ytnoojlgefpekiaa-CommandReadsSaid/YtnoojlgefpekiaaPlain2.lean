/-
  Plain mathematics of rows of numbers: the numbers that stand one behind the other, and that putting them gives the bytes back.
-/
import Derived.Test.YtnoojlgefpekiaaPlain
namespace Go.Proofs.Ytnoojlgefpekiaa

/-- the bytes of the number i of a width -/
def chunk (l : List UInt8) (wd i : Nat) : List UInt8 := (l.drop (i * wd)).take wd

/-- the numbers that stand one behind the other -/
def rowN (l : List UInt8) (wd q : Nat) : List Int := (List.range q).map fun i => ((leval (chunk l wd i) : Nat) : Int)

/-- are these bytes just numbers of that width? -/
def RowOk (l : List UInt8) (wd : Nat) : Prop := l.length % wd = 0 ∧ ∀ i, i < l.length / wd → leval (chunk l wd i) ≤ 1099511627776

theorem length_rowN (l : List UInt8) (wd q : Nat) : (rowN l wd q).length = q := by simp [rowN]
theorem rowN_succ (l : List UInt8) (wd q : Nat) : rowN l wd (q + 1) = rowN l wd q ++ [((leval (chunk l wd q) : Nat) : Int)] := by simp [rowN, List.range_succ]

theorem length_chunk (l : List UInt8) (wd i : Nat) (h : i * wd + wd ≤ l.length) : (chunk l wd i).length = wd := by simp [chunk]; omega

theorem put_rowN (l : List UInt8) (wd q : Nat) (h : q * wd ≤ l.length) : putL wd (rowN l wd q) = l.take (q * wd) := by
  induction q with
  | zero => simp [rowN, putL]
  | succ q ih =>
    rw [Nat.succ_mul] at h ⊢
    rw [rowN_succ, putL_snoc, ih (by omega), Int.toNat_natCast]
    have hl := length_chunk l wd q h
    have e : bytesN wd (leval (chunk l wd q)) = chunk l wd q := by
      conv => lhs; rw [← hl]
      rw [hl]
      have := bytesN_leval (chunk l wd q)
      rw [hl] at this
      exact this
    rw [e, List.take_add, chunk]

theorem put_rowN_all (l : List UInt8) (wd : Nat) (h : RowOk l wd) : putL wd (rowN l wd (l.length / wd)) = l := by
  have h1 : l.length / wd * wd = l.length := Nat.div_mul_cancel (Nat.dvd_of_mod_eq_zero h.1)
  rw [put_rowN l wd _ (by omega), h1, List.take_length]

theorem fits_rowN (l : List UInt8) (wd : Nat) (h1 : 1 ≤ wd) (h6 : wd ≤ 6) (h : RowOk l wd) : (rowN l wd (l.length / wd)).all (fitsB · wd) = true := by
  have h2 : l.length / wd * wd = l.length := Nat.div_mul_cancel (Nat.dvd_of_mod_eq_zero h.1)
  rw [List.all_eq_true]
  intro z hz
  obtain ⟨i, hi, rfl⟩ := List.mem_map.1 hz
  have hi' : i < l.length / wd := List.mem_range.1 hi
  have hm : (i + 1) * wd ≤ l.length := Nat.le_trans (Nat.mul_le_mul hi' (Nat.le_refl _)) (by omega)
  rw [Nat.succ_mul] at hm
  have hlt := leval_lt (chunk l wd i)
  rw [length_chunk l wd i hm] at hlt
  exact fits_of_lt wd _ h1 h6 hlt (h.2 i hi')

theorem put_window (a b : List UInt8) (zs : List Int) (wd i : Nat) (z : Int) (h : zs[i]? = some z) :
    ((a ++ putL wd zs ++ b).drop (a.length + i * wd)).take wd = bytesN wd z.toNat := by
  have hi : i < zs.length := (List.getElem?_eq_some_iff.1 h).1
  have e : zs = zs.take i ++ z :: zs.drop (i + 1) := by
    have hz : zs[i] = z := (List.getElem?_eq_some_iff.1 h).2
    rw [← hz, ← List.drop_eq_getElem_cons hi, List.take_append_drop]
  have e1 : putL wd zs = putL wd (zs.take i) ++ (bytesN wd z.toNat ++ putL wd (zs.drop (i + 1))) := by
    conv => lhs; rw [e]
    simp [putL]
  have hl : (a ++ putL wd (zs.take i)).length = a.length + i * wd := by
    rw [List.length_append, length_putL, List.length_take, Nat.min_eq_left (by omega), Nat.mul_comm]
  have e2 : a ++ putL wd zs ++ b = (a ++ putL wd (zs.take i)) ++ (bytesN wd z.toNat ++ (putL wd (zs.drop (i + 1)) ++ b)) := by
    rw [e1]; simp only [List.append_assoc]
  rw [e2, ← hl, List.drop_left]
  exact List.take_left' (length_bytesN wd z.toNat)

theorem fits_leval (wd : Nat) (z : Int) (h1 : 1 ≤ wd) (h6 : wd ≤ 6) (h : fitsB z wd = true) : leval (bytesN wd z.toNat) = z.toNat ∧ z.toNat ≤ 1099511627776 ∧ 0 ≤ z := by
  have hf : 0 ≤ z ∧ z ≤ (mostN wd : Nat) := by simpa [fitsB] using h
  have a1 := mostN_lt wd h1 h6
  have a2 := mostN_le wd h1 h6
  refine ⟨?_, by omega, hf.1⟩
  rw [leval_bytesN, Nat.mod_eq_of_lt (by omega)]

theorem chunk_put (zs : List Int) (wd i : Nat) (z : Int) (h : zs[i]? = some z) : chunk (putL wd zs) wd i = bytesN wd z.toNat := by
  have := put_window [] [] zs wd i z h
  simpa [chunk] using this

/-- what was put is just numbers, and these are they -/
theorem row_put (zs : List Int) (wd : Nat) (h1 : 1 ≤ wd) (h6 : wd ≤ 6) (h : zs.all (fitsB · wd) = true) : RowOk (putL wd zs) wd ∧ rowN (putL wd zs) wd ((putL wd zs).length / wd) = zs := by
  have hq : (putL wd zs).length / wd = zs.length := by rw [length_putL, Nat.mul_div_cancel_left _ (by omega)]
  have hz : ∀ i z, zs[i]? = some z → fitsB z wd = true := fun i z hz => List.all_eq_true.1 h z (List.mem_of_getElem? hz)
  refine ⟨⟨by rw [length_putL, Nat.mul_mod_right], fun i hi => ?_⟩, ?_⟩
  · rw [hq] at hi
    have e := List.getElem?_eq_getElem hi
    rw [chunk_put zs wd i _ e, (fits_leval wd _ h1 h6 (hz i _ e)).1]
    exact (fits_leval wd _ h1 h6 (hz i _ e)).2.1
  · rw [hq]
    apply List.ext_getElem
    · rw [length_rowN]
    · intro i hi1 hi2
      have e := List.getElem?_eq_getElem hi2
      have l := fits_leval wd _ h1 h6 (hz i _ e)
      simp only [rowN, List.getElem_map, List.getElem_range]
      rw [chunk_put zs wd i _ e, l.1]
      omega

end Go.Proofs.Ytnoojlgefpekiaa
