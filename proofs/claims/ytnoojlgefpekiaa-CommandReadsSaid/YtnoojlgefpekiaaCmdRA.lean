/-
  Plain mathematics of commands: what the reference's Read finds in a command's bytes.
-/
import Derived.Test.YtnoojlgefpekiaaCmdK
import Derived.Test.YtnoojlgefpekiaaCmdN
namespace Go.Proofs.Ytnoojlgefpekiaa
open Go.RowKit

theorem get_head (s : ByteArray) (x : UInt8) (r : List UInt8) (h : s.data.toList = x :: r) (h0 : 0 < s.size) : s[0]'h0 = x := by
  have e : s[0]'h0 = s.data.toList[0]'(by rw [h]; simp) := rfl
  rw [e]; simp [h]
theorem get_at (s : ByteArray) (i : Nat) (x : UInt8) (h : s.data.toList[i]? = some x) (hi : i < s.size) : s[i]'hi = x := by
  have hl : i < s.data.toList.length := hi
  have e : s[i]'hi = s.data.toList[i]'hl := rfl
  rw [e]
  rw [List.getElem?_eq_getElem hl] at h
  exact Option.some.inj h

theorem byte_one (n : Nat) : bytesN 1 n = [UInt8.ofNat n] := by rw [bytesN_cons]; simp [bytesN]

theorem bytes_split (d : Cm) : bytesC d = bytesN 1 d.kind.toNat ++ (bytesN 6 d.node.toNat ++ (bytesN 4 d.serial.toNat ++ moreC d)) := by
  rw [bytes_more d _ rfl, put1, put1, put1]
  simp only [List.append_assoc]

/-- what a command's bytes have in front -/
theorem like (d : Cm) (hm : mayC d = true) (s : ByteArray) (hs : strB (bytesC d) = s) :
    11 ≤ s.size ∧ getR s 1 6 = (d.node, 0) ∧ getR s 7 4 = (d.serial, 0) ∧ (∀ h0 : 0 < s.size, (((s[0]'h0).toNat : Nat) : Int) = d.kind) ∧ s.extract 11 s.size = strB (moreC d) := by
  obtain ⟨⟨b1, b2⟩, ⟨s1, s2⟩, hk⟩ := may_has d hm
  have hl := bytes_split d
  have hsl : s.data.toList = bytesC d := by rw [← hs]; rfl
  have hsz : s.size = (bytesC d).length := by rw [← hs]; rfl
  have h11 := (len_bytes d).1
  have f1 := fits_leval 6 d.node (by decide) (by decide) (fit6 _ (by omega) b2)
  have f2 := fits_leval 4 d.serial (by decide) (by decide) (fit4 _ (by omega) s2)
  have w1 : win s 1 6 = bytesN 6 d.node.toNat := by
    unfold win
    rw [hsl, hl, List.drop_left' (length_bytesN 1 _), List.take_left' (length_bytesN 6 _)]
  have w2 : win s 7 4 = bytesN 4 d.serial.toNat := by
    unfold win
    rw [hsl, hl, ← List.append_assoc, List.drop_left' (by rw [List.length_append, length_bytesN, length_bytesN]), List.take_left' (length_bytesN 4 _)]
  refine ⟨by omega, ?_, ?_, ?_, ?_⟩
  · have := getR_ok s 1 6 (by decide) (by decide) (by omega) (by rw [w1, f1.1]; exact f1.2.1)
    rw [w1, f1.1] at this
    rw [show getR s 1 6 = getR s (1 : Nat) (6 : Nat) from rfl, this]
    congr 1
    omega
  · have := getR_ok s 7 4 (by decide) (by decide) (by omega) (by rw [w2, f2.1]; exact f2.2.1)
    rw [w2, f2.1] at this
    rw [show getR s 7 4 = getR s (7 : Nat) (4 : Nat) from rfl, this]
    congr 1
    omega
  · intro h0
    obtain ⟨r, hr⟩ := head_kind d
    rw [get_head s _ r (by rw [hsl, hr]) h0]
    simp only [UInt8.toNat_ofNat']
    omega
  · rw [← str_of (s.extract 11 s.size), ext_list, hsl, hl]
    rw [← List.append_assoc, ← List.append_assoc, List.drop_left' (by simp only [List.length_append, length_bytesN])]

theorem err_of (s : ByteArray) (h : ∀ d, mayC d = true → strB (bytesC d) = s → False) : readC s = (cZ, 100) := by
  rcases readC_or s with hr | hr
  · obtain ⟨m1, m2⟩ := read_back s hr
    exact (h _ m1 m2).elim
  · exact hr
theorem fin_may (s : ByteArray) (c : Cm) (hm : mayC c = false) (h : ∀ d, mayC d = true → strB (bytesC d) = s → d = c) : readC s = (cZ, 100) :=
  err_of s fun d h1 h2 => by
    rw [h d h1 h2, hm] at h1
    cases h1
theorem fin_ne (s : ByteArray) (c : Cm) (hb : ¬ strB (bytesC c) = s) (h : ∀ d, mayC d = true → strB (bytesC d) = s → d = c) : readC s = (cZ, 100) :=
  err_of s fun d h1 h2 => by
    rw [h d h1 h2] at h2
    exact hb h2
theorem fin_ok (s : ByteArray) (c : Cm) (hm : mayC c = true) (hb : strB (bytesC c) = s) : readC s = (c, 0) := by
  rw [← hb]; exact read_bytes c hm

theorem rows_ok (zs : List Int) (h : zs.all (fitsB · 6) = true) : rowR (putL 6 zs) 6 = (zs, 0) := by
  obtain ⟨h1, h2⟩ := row_put zs 6 (by decide) (by decide) h
  unfold rowR
  have t6 : Int.toNat 6 = 6 := rfl
  rw [if_neg (by omega), t6, if_pos h1]
  show (rowN (putL 6 zs) 6 ((putL 6 zs).length / 6), (0 : Int)) = _
  rw [h2]

section
variable {d : Cm} (hm : mayC d = true)
include hm
/-- what stands behind, by kind -/
theorem more_2 (hk : d.kind = 2) : moreC d = [UInt8.ofNat d.lo.toNat, UInt8.ofNat d.hi.toNat, UInt8.ofNat d.mode.toNat] ∧ (0 ≤ d.lo ∧ d.lo < 64) ∧ (0 ≤ d.hi ∧ d.hi < 64) ∧ (d.mode = 1 ∨ d.mode = 2) ∧ d.dead = 0 ∧ d.was = 0 := by
  obtain ⟨_, _, h⟩ := may_has d hm
  have ho : onlyB d true true false false = true := by
    rcases h with ⟨h, _⟩ | ⟨_, h⟩ | ⟨h, _⟩ | ⟨h, _⟩ | ⟨h, _⟩ <;> first | exact h | omega
  have hh := (only_iff d _ _ _ _).1 ho
  simp only [if_true, Bool.false_eq_true, if_false, false_and, or_false] at hh
  have sp := (span_iff d).1 hh.1
  refine ⟨?_, by omega, by omega, hh.2.1, hh.2.2⟩
  unfold moreC
  rw [if_pos hk, put3, byte_one, byte_one, byte_one]
  rfl
theorem more_3 (hk : d.kind = 3) : moreC d = [UInt8.ofNat d.lo.toNat, UInt8.ofNat d.hi.toNat] ∧ (0 ≤ d.lo ∧ d.lo < 64) ∧ (0 ≤ d.hi ∧ d.hi < 64) ∧ d.mode = 0 ∧ d.dead = 0 ∧ d.was = 0 := by
  obtain ⟨_, _, h⟩ := may_has d hm
  have ho : onlyB d true false false false = true := by
    rcases h with ⟨h, _⟩ | ⟨h, _⟩ | ⟨_, h⟩ | ⟨h, _⟩ | ⟨h, _⟩ <;> first | exact h | omega
  have hh := (only_iff d _ _ _ _).1 ho
  simp only [if_true, Bool.false_eq_true, if_false, false_and, or_false] at hh
  have sp := (span_iff d).1 hh.1
  refine ⟨?_, by omega, by omega, hh.2⟩
  unfold moreC
  rw [if_neg (by omega), if_pos hk, put2, byte_one, byte_one]
  rfl
theorem more_4 (hk : d.kind = 4) : rowR (moreC d) 6 = ([d.dead, d.was], 0) ∧ d.lo = 0 ∧ d.hi = 0 ∧ d.mode = 0 := by
  obtain ⟨_, _, h⟩ := may_has d hm
  have ho : onlyB d false false true true = true := by
    rcases h with ⟨h, _⟩ | ⟨h, _⟩ | ⟨h, _⟩ | ⟨_, h⟩ | ⟨h, _⟩ <;> first | exact h | omega
  have hh := (only_iff d _ _ _ _).1 ho
  simp only [if_true, Bool.false_eq_true, if_false, true_and] at hh
  have sp := (key_iff _).1 hh.2.2.1
  have sw : 0 ≤ d.was ∧ d.was ≤ 1099511627776 := by
    rcases hh.2.2.2 with h | h
    · omega
    · have := (key_iff _).1 h; omega
  refine ⟨?_, hh.1.1, hh.1.2, hh.2.1⟩
  unfold moreC
  rw [if_neg (by omega), if_neg (by omega), if_pos hk]
  exact rows_ok _ (by simp [fit6 d.dead (by omega) sp.2, fit6 d.was sw.1 sw.2])
theorem more_5 (hk : d.kind = 5) : rowR (moreC d) 6 = ([d.dead], 0) ∧ d.was = 0 ∧ d.lo = 0 ∧ d.hi = 0 ∧ d.mode = 0 := by
  obtain ⟨_, _, h⟩ := may_has d hm
  have ho : onlyB d false false true false = true := by
    rcases h with ⟨h, _⟩ | ⟨h, _⟩ | ⟨h, _⟩ | ⟨h, _⟩ | ⟨_, h⟩ <;> first | exact h | omega
  have hh := (only_iff d _ _ _ _).1 ho
  simp only [if_true, Bool.false_eq_true, if_false, false_and, or_false] at hh
  have sp := (key_iff _).1 hh.2.2.1
  refine ⟨?_, hh.2.2.2, hh.1.1, hh.1.2, hh.2.1⟩
  unfold moreC
  rw [if_neg (by omega), if_neg (by omega), if_neg (by omega), if_pos hk]
  exact rows_ok _ (by simp [fit6 d.dead (by omega) sp.2])
theorem more_0 (h2 : ¬ d.kind = 2) (h3 : ¬ d.kind = 3) (h4 : ¬ d.kind = 4) (h5 : ¬ d.kind = 5) : d.dead = 0 ∧ d.was = 0 ∧ d.lo = 0 ∧ d.hi = 0 ∧ d.mode = 0 := by
  obtain ⟨_, _, h⟩ := may_has d hm
  have ho : onlyB d false false false false = true := by
    rcases h with ⟨_, h⟩ | ⟨h, _⟩ | ⟨h, _⟩ | ⟨h, _⟩ | ⟨h, _⟩ <;> first | exact h | omega
  have hh := (only_iff d _ _ _ _).1 ho
  simp only [Bool.false_eq_true, if_false, false_and, or_false] at hh
  exact ⟨hh.2.2.1, hh.2.2.2, hh.1.1, hh.1.2, hh.2.1⟩
end

end Go.Proofs.Ytnoojlgefpekiaa
