/-
  Plain law of bursts: bytes that differ in up to 32 bits side by side have another sum.
-/
import Derived.Test.YtbiclekpkijknaaPlain3
namespace Go.Proofs.Ytbiclekpkijknaa

/-- a bit is taken in -/
def pbit (x : BitVec 32) (e : Bool) : BitVec 32 := step (x ^^^ (if e then 1#32 else 0#32))
def pbits (x : BitVec 32) (es : List Bool) : BitVec 32 := es.foldl pbit x
/-- bits as a word, the lowest first -/
def wordB : List Bool → BitVec 32
  | [] => 0#32
  | e :: r => (if e then 1#32 else 0#32) ^^^ (wordB r <<< 1)

/-- the bit k of a row of bytes -/
def bitAt (l : List UInt8) (k : Nat) : Bool := (l.getD (k / 8) 0).toNat.testBit (k % 8)
def bitsL (l : List UInt8) : List Bool := (List.range (8 * l.length)).map (bitAt l)

theorem one_bit (i : Nat) : (1#32).getLsbD i = decide (i = 0) := by
  rw [show (1#32) = BitVec.ofNat 32 1 from rfl, BitVec.getLsbD_ofNat]
  by_cases h : i = 0
  · subst h; rfl
  · have : Nat.testBit 1 i = false := Nat.testBit_lt_two_pow (Nat.lt_of_lt_of_le (show 1 < 2 ^ 1 by decide) (Nat.pow_le_pow_right (by decide) (by omega)))
    simp [this, h]

theorem wordB_bit (es : List Bool) (h : es.length ≤ 32) (i : Nat) : (wordB es).getLsbD i = es.getD i false := by
  induction es generalizing i with
  | nil => simp [wordB]
  | cons e r ih =>
    rw [List.length_cons] at h
    simp only [wordB, BitVec.getLsbD_xor, BitVec.getLsbD_shiftLeft]
    rcases Nat.eq_zero_or_pos i with rfl | hi
    · cases e <;> simp
    · obtain ⟨j, rfl⟩ : ∃ j, i = j + 1 := ⟨i - 1, by omega⟩
      rw [Nat.add_sub_cancel, ih (by omega)]
      have e1 : (if e = true then 1#32 else 0#32 : BitVec 32).getLsbD (j + 1) = false := by
        cases e
        · simp
        · simp only [if_true]; rw [one_bit]; simp
      rw [e1, List.getD_cons_succ]
      by_cases hj : j + 1 < 32
      · simp [hj]
      · have : r.getD j false = false := by
          rw [List.getD_eq_getElem?_getD, List.getElem?_eq_none (by omega)]; rfl
        rw [this]; simp

theorem wordB_lt (es : List Bool) (h : es.length ≤ 32) : (wordB es).toNat < 2 ^ es.length := by
  apply lt_of_high
  intro i hi
  rw [wordB_bit es h, List.getD_eq_getElem?_getD, List.getElem?_eq_none hi]; rfl

theorem pbits_word (es : List Bool) (h : es.length ≤ 32) (x : BitVec 32) : pbits x es = steps es.length (x ^^^ wordB es) := by
  induction es generalizing x with
  | nil => simp [pbits, steps, wordB]
  | cons e r ih =>
    rw [List.length_cons] at h ⊢
    show pbits (pbit x e) r = _
    rw [ih (by omega)]
    have e1 : step (wordB r <<< 1) = wordB r := by
      have h2 := step_shl (wordB r) 0 (Nat.lt_of_lt_of_le (wordB_lt r (by omega)) (Nat.pow_le_pow_right (by decide) (by omega)))
      simpa using h2
    simp only [steps, wordB]
    rw [← BitVec.xor_assoc, step_xor, e1]
    rfl

theorem byte_word : ∀ n, n < 256 → wordB ((List.range 8).map fun i => (UInt8.ofNat n).toNat.testBit i) = wB (UInt8.ofNat n) := by decide +kernel

theorem put_bits (x : BitVec 32) (b : UInt8) : put1 x b = pbits x ((List.range 8).map fun i => b.toNat.testBit i) := by
  rw [pbits_word _ (by simp)]
  have h := byte_word b.toNat b.toNat_lt
  have e : UInt8.ofNat b.toNat = b := by
    apply UInt8.toNat_inj.1
    simp
  rw [e] at h
  rw [h]
  simp [put1]

theorem bitsL_cons (b : UInt8) (r : List UInt8) : bitsL (b :: r) = ((List.range 8).map fun i => b.toNat.testBit i) ++ bitsL r := by
  unfold bitsL
  rw [List.length_cons, Nat.mul_succ, Nat.add_comm, List.range_add, List.map_append, List.map_map]
  have e0 : List.map (bitAt (b :: r)) (List.range 8) = (List.range 8).map fun i => b.toNat.testBit i := by
    apply List.map_congr_left
    intro i hi
    have hi8 : i < 8 := List.mem_range.1 hi
    unfold bitAt
    rw [Nat.div_eq_of_lt hi8, Nat.mod_eq_of_lt hi8]; rfl
  rw [e0]
  refine congrArg _ (List.map_congr_left fun i _ => ?_)
  simp only [Function.comp, bitAt]
  have e1 : (8 + i) / 8 = i / 8 + 1 := by omega
  have e2 : (8 + i) % 8 = i % 8 := by omega
  rw [e1, e2, List.getD_cons_succ]

theorem puts_bits (l : List UInt8) (x : BitVec 32) : puts x l = pbits x (bitsL l) := by
  induction l generalizing x with
  | nil => rfl
  | cons b r ih =>
    rw [bitsL_cons]
    show puts (put1 x b) r = _
    rw [ih, put_bits]
    simp [pbits]

theorem pbits_xor (es fs : List Bool) (h : es.length = fs.length) (x y : BitVec 32) : pbits x es ^^^ pbits y fs = pbits (x ^^^ y) (List.zipWith (fun a b => a ^^ b) es fs) := by
  induction es generalizing fs x y with
  | nil =>
    cases fs with
    | nil => rfl
    | cons => simp at h
  | cons e r ih =>
    cases fs with
    | nil => simp at h
    | cons f t =>
      simp only [List.length_cons, Nat.add_right_cancel_iff] at h
      show pbits (pbit x e) r ^^^ pbits (pbit y f) t = pbits (pbit (x ^^^ y) (e ^^ f)) _
      rw [ih t h]
      congr 1
      unfold pbit
      rw [← step_xor]
      congr 1
      cases e <;> cases f <;> apply BitVec.eq_of_getLsbD_eq <;> intro i _ <;> simp only [BitVec.getLsbD_xor] <;> cases x.getLsbD i <;> cases y.getLsbD i <;> simp

theorem pbits_false (n : Nat) (x : BitVec 32) : pbits x (List.replicate n false) = steps n x := by
  induction n generalizing x with
  | zero => rfl
  | succ n ih =>
    rw [List.replicate_succ]
    show pbits (pbit x false) _ = _
    rw [ih]
    simp [pbit, steps]

theorem pbits_append (x : BitVec 32) (a b : List Bool) : pbits x (a ++ b) = pbits (pbits x a) b := by simp [pbits]

/-- a burst of up to 32 bits, one of which is 1, is not lost -/
theorem burst_ne (f r : Nat) (es : List Bool) (h : es.length ≤ 32) (ht : true ∈ es) : pbits 0#32 (List.replicate f false ++ (es ++ List.replicate r false)) ≠ 0#32 := by
  rw [pbits_append, pbits_append, pbits_false, pbits_false, steps_zero, pbits_word es h, BitVec.zero_xor]
  apply steps_ne
  apply steps_ne
  intro e
  obtain ⟨i, hi, he⟩ := List.getElem_of_mem ht
  have hb := wordB_bit es h i
  rw [e, List.getD_eq_getElem?_getD, List.getElem?_eq_getElem hi, he] at hb
  simp at hb

theorem sum_burst (l m : List UInt8) (hlen : l.length = m.length) (f k r : Nat) (hk : k ≤ 32) (hn : f + k + r = 8 * l.length) (g : Nat → Bool)
    (hd : ∀ i, i < 8 * l.length → (bitAt m i ^^ bitAt l i) = (decide (f ≤ i ∧ i < f + k) && g (i - f))) (ht : ∃ j, j < k ∧ g j = true) : sumB m ≠ sumB l := by
  intro e
  unfold sumB at e
  have e2 : puts (~~~ 0#32) m = puts (~~~ 0#32) l := by
    have h2 := congrArg (fun z => ~~~ z) e
    simpa only [BitVec.not_not] using h2
  rw [puts_bits, puts_bits] at e2
  have hx : pbits (~~~ 0#32) (bitsL m) ^^^ pbits (~~~ 0#32) (bitsL l) = 0#32 := by rw [e2, BitVec.xor_self]
  rw [pbits_xor _ _ (by simp [bitsL, hlen]), BitVec.xor_self] at hx
  have hz : List.zipWith (fun a b => a ^^ b) (bitsL m) (bitsL l) = List.replicate f false ++ ((List.range k).map g ++ List.replicate r false) := by
    apply List.ext_getElem
    · simp [bitsL, hlen]; omega
    · intro i h1 h2
      have hi : i < 8 * l.length := by simp [bitsL, hlen] at h1; omega
      rw [List.getElem_zipWith]
      simp only [bitsL, List.getElem_map, List.getElem_range]
      rw [hd i hi]
      by_cases a1 : i < f
      · rw [List.getElem_append_left (by simpa using a1)]
        have : ¬ (f ≤ i ∧ i < f + k) := by omega
        simp [this]
      · rw [List.getElem_append_right (by simpa using a1)]
        by_cases a2 : i < f + k
        · rw [List.getElem_append_left (by simp; omega)]
          have : f ≤ i ∧ i < f + k := by omega
          simp [this]
        · rw [List.getElem_append_right (by simp; omega)]
          have : ¬ (f ≤ i ∧ i < f + k) := by omega
          simp [this]
  rw [hz] at hx
  obtain ⟨j, hj, hg⟩ := ht
  exact burst_ne f r _ (by simpa using hk) (List.mem_map.2 ⟨j, List.mem_range.2 hj, hg⟩) hx

/-- a byte with a bit turned -/
theorem set_bit (l : List UInt8) (k : Nat) (hk : k < 8 * l.length) (i : Nat) :
    bitAt (l.set (k / 8) (l.getD (k / 8) 0 ^^^ UInt8.ofNat (2 ^ (k % 8)))) i = (bitAt l i ^^ decide (i = k)) := by
  unfold bitAt
  have hlt : k / 8 < l.length := by omega
  by_cases h : i / 8 = k / 8
  · rw [h, List.getD_eq_getElem?_getD, List.getElem?_set_self hlt, Option.getD_some, UInt8.toNat_xor, Nat.testBit_xor, UInt8.toNat_ofNat']
    have h8 : 2 ^ (k % 8) < 2 ^ 8 := Nat.pow_lt_pow_right (by decide) (by omega)
    rw [Nat.mod_eq_of_lt h8, Nat.testBit_two_pow]
    have : decide (k % 8 = i % 8) = decide (i = k) := by
      rw [decide_eq_decide]; omega
    rw [this]
  · rw [List.getD_eq_getElem?_getD, List.getElem?_set_ne (by omega), ← List.getD_eq_getElem?_getD]
    have : decide (i = k) = false := decide_eq_false (by rintro rfl; exact h rfl)
    rw [this]; simp

end Go.Proofs.Ytbiclekpkijknaa
