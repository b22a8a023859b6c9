/-
  Plain mathematics of commands: reading, and that it undoes writing.
-/
import Derived.Test.YtnoojlgefpekiaaCmdH
import Derived.Test.YtnoojlgefpekiaaCmdI
import Derived.Test.YtnoojlgefpekiaaCmdL
import Derived.Test.YtnoojlgefpekiaaRefD
import Derived.Test.YtnoojlgefpekiaaPlain2
namespace Go.Proofs.Ytnoojlgefpekiaa
open Go.RowKit

def strB (l : List UInt8) : ByteArray := ⟨l.toArray⟩
theorem str_list (l : List UInt8) : (strB l).data.toList = l := rfl
theorem str_size (l : List UInt8) : (strB l).size = l.length := rfl
theorem str_of (s : ByteArray) : strB s.data.toList = s := rfl
theorem str_inj {a b : List UInt8} (h : strB a = strB b) : a = b := by have := congrArg (fun s => s.data.toList) h; simpa [str_list] using this

theorem ext_list (s : ByteArray) (x : Nat) : (s.extract x s.size).data.toList = s.data.toList.drop x := by
  rw [ByteArray.data_extract, Array.toList_extract, List.extract_eq_take_drop]
  exact List.take_of_length_le (by rw [List.length_drop]; exact Nat.le_refl _)

/-- taking what was put -/
theorem take_put (r : List UInt8) (bad : Bool) (x : Nat) (z : Int) (h1 : 1 ≤ x) (h6 : x ≤ 6) (hf : fitsB z x = true) :
    takeV (strB (bytesN x z.toNat ++ r)) x = z ∧ takeT (strB (bytesN x z.toNat ++ r)) bad x = (strB r, bad) := by
  have hf' := fits_leval x z h1 h6 hf
  have hw : win (strB (bytesN x z.toNat ++ r)) 0 x = bytesN x z.toNat := by
    unfold win; rw [str_list, List.drop_zero]; exact List.take_left' (length_bytesN x _)
  have hs : 0 + x ≤ (strB (bytesN x z.toNat ++ r)).size := by rw [str_size, List.length_append, length_bytesN]; omega
  have hg := getR_ok (strB (bytesN x z.toNat ++ r)) 0 x h1 h6 hs (by rw [hw, hf'.1]; exact hf'.2.1)
  rw [hw, hf'.1] at hg
  have hg' : getR (strB (bytesN x z.toNat ++ r)) 0 x = ((z.toNat : Int), 0) := hg
  constructor
  · unfold takeV; rw [hg']; simp; omega
  · unfold takeT; rw [hg', if_pos rfl]
    congr 1
    rw [← str_of (ByteArray.extract _ _ _), ext_list, str_list]
    congr 1
    exact List.drop_left' (length_bytesN x _)

/-- what was taken was there -/
theorem take_good (s : ByteArray) (bad : Bool) (x : Nat) (h1 : 1 ≤ x) (h6 : x ≤ 6) (h : (takeT s bad x).2 = false) :
    bad = false ∧ s.data.toList = bytesN x (takeV s x).toNat ++ (takeT s bad x).1.data.toList ∧ 0 ≤ takeV s x := by
  by_cases hr : (getR s 0 x).2 = 0
  · have hx := get_room hr
    have e1 : takeT s bad x = (s.extract x s.size, bad) := if_pos hr
    have e2 : takeV s x = (getR s 0 x).1 := if_pos hr
    rw [e1] at h ⊢
    rw [e2]
    by_cases hb : leval (win s 0 x) ≤ 1099511627776
    · have hg := getR_ok s 0 x h1 h6 (by omega) hb
      have hg' : getR s 0 x = (((leval (win s 0 x) : Nat) : Int), 0) := hg
      rw [hg']
      refine ⟨h, ?_, by simp⟩
      show s.data.toList = bytesN x (leval (win s 0 x)) ++ _
      have hl := win_len s 0 x (by omega)
      have hz := bytesN_leval (win s 0 x)
      rw [hl] at hz
      rw [hz, ext_list]
      unfold win
      rw [List.drop_zero, List.take_append_drop]
    · have hg := getR_big s 0 x h1 h6 (by omega) hb
      have hg' : getR s 0 x = (0, 10) := hg
      rw [hg'] at hr; cases hr
  · have e1 : takeT s bad x = (s, true) := if_neg hr
    rw [e1] at h; cases h

def cZ : Cm := ⟨0, 0, 0, 0, 0, 0, 0, 0⟩
/-- what reading comes to, if the taker is at the end and the command is c -/
def endR (t : ByteArray × Bool) (c : Cm) : Cm × Int := if t.2 = false ∧ t.1 = strB [] ∧ mayC c = true then (c, 0) else (cZ, 100)
/-- reading behind the serial -/
def readB (t : ByteArray × Bool) (k n s : Int) : Cm × Int :=
  if k = 2 then endR (takeT (takeT (takeT t.1 t.2 1).1 (takeT t.1 t.2 1).2 1).1 (takeT (takeT t.1 t.2 1).1 (takeT t.1 t.2 1).2 1).2 1) ⟨k, n, s, 0, 0, takeV t.1 1, takeV (takeT t.1 t.2 1).1 1, min (takeV (takeT (takeT t.1 t.2 1).1 (takeT t.1 t.2 1).2 1).1 1) 127⟩
  else if k = 3 then endR (takeT (takeT t.1 t.2 1).1 (takeT t.1 t.2 1).2 1) ⟨k, n, s, 0, 0, takeV t.1 1, takeV (takeT t.1 t.2 1).1 1, 0⟩
  else if k = 4 then endR (takeT (takeT t.1 t.2 6).1 (takeT t.1 t.2 6).2 6) ⟨k, n, s, takeV t.1 6, takeV (takeT t.1 t.2 6).1 6, 0, 0, 0⟩
  else if k = 5 then endR (takeT t.1 t.2 6) ⟨k, n, s, takeV t.1 6, 0, 0, 0, 0⟩
  else endR t ⟨k, n, s, 0, 0, 0, 0, 0⟩
/-- what reading comes to -/
def readC (s : ByteArray) : Cm × Int :=
  let t1 := takeT s false 1
  let t2 := takeT t1.1 t1.2 6
  let t3 := takeT t2.1 t2.2 4
  readB t3 (min (takeV s 1) 127) (takeV t1.1 6) (takeV t2.1 4)

theorem endR_ok {t : ByteArray × Bool} {c : Cm} (h : (endR t c).2 = 0) : endR t c = (c, 0) ∧ t.2 = false ∧ t.1.data.toList = [] ∧ mayC c = true := by
  unfold endR at h ⊢
  split at h
  · rename_i h1
    rw [if_pos h1]
    exact ⟨rfl, h1.1, by rw [h1.2.1]; rfl, h1.2.2⟩
  · cases h
theorem endR_yes (c : Cm) (hm : mayC c = true) : endR (strB [], false) c = (c, 0) := if_pos ⟨rfl, rfl, hm⟩
theorem endR_or (t : ByteArray × Bool) (c : Cm) : (endR t c).2 = 0 ∨ endR t c = (cZ, 100) := by
  unfold endR; split
  · exact .inl rfl
  · exact .inr rfl
theorem readB_or (t : ByteArray × Bool) (k n s : Int) : (readB t k n s).2 = 0 ∨ readB t k n s = (cZ, 100) := by
  unfold readB
  split
  · exact endR_or _ _
  · split
    · exact endR_or _ _
    · split
      · exact endR_or _ _
      · split
        · exact endR_or _ _
        · exact endR_or _ _
theorem readC_or (s : ByteArray) : (readC s).2 = 0 ∨ readC s = (cZ, 100) := readB_or _ _ _ _

theorem put1 (x : Nat) (z : Int) : putL x [z] = bytesN x z.toNat := by simp [putL]
theorem put2 (x : Nat) (z y : Int) : putL x [z, y] = bytesN x z.toNat ++ bytesN x y.toNat := by simp [putL]
theorem put3 (x : Nat) (z y u : Int) : putL x [z, y, u] = bytesN x z.toNat ++ (bytesN x y.toNat ++ bytesN x u.toNat) := by simp [putL]

theorem fit1 (z : Int) (h : 0 ≤ z) (h2 : z ≤ 255) : fitsB z 1 = true := by simp [fitsB, mostN]; omega
theorem fit4 (z : Int) (h : 0 ≤ z) (h2 : z ≤ 2147483648) : fitsB z 4 = true := by simp [fitsB, mostN]; omega
theorem fit6 (z : Int) (h : 0 ≤ z) (h2 : z ≤ 1099511627776) : fitsB z 6 = true := by simp [fitsB, mostN]; omega

theorem len_bytes (c : Cm) : 11 ≤ (bytesC c).length ∧ (bytesC c).length ≤ 23 := by
  unfold bytesC
  simp only [List.length_append, length_putL, List.length_cons, List.length_nil]
  repeat' split
  all_goals (simp only [length_putL, List.length_cons, List.length_nil]; omega)

theorem cm_eq (c : Cm) : c = ⟨c.kind, c.node, c.serial, c.dead, c.was, c.lo, c.hi, c.mode⟩ := rfl

/-- reading what was written -/
theorem read_bytes (c : Cm) (hm : mayC c = true) : readC (strB (bytesC c)) = (c, 0) := by
  obtain ⟨⟨b1, b2⟩, ⟨s1, s2⟩, hk⟩ := may_has c hm
  have k0 : 0 ≤ c.kind := by omega
  have k5 : c.kind ≤ 5 := by omega
  have main : ∀ l, bytesC c = bytesN 1 c.kind.toNat ++ (bytesN 6 c.node.toNat ++ (bytesN 4 c.serial.toNat ++ l)) → readC (strB (bytesC c)) = readB (strB l, false) c.kind c.node c.serial := by
    intro l hl
    rw [hl]
    have t1 := take_put (bytesN 6 c.node.toNat ++ (bytesN 4 c.serial.toNat ++ l)) false 1 c.kind (by decide) (by decide) (fit1 _ k0 (by omega))
    have t2 := take_put (bytesN 4 c.serial.toNat ++ l) false 6 c.node (by decide) (by decide) (fit6 _ (by omega) b2)
    have t3 := take_put l false 4 c.serial (by decide) (by decide) (fit4 _ (by omega) s2)
    unfold readC
    simp only [t1.1, t1.2, t2.1, t2.2, t3.1, t3.2]
    rw [show min c.kind 127 = c.kind by omega]
  have hbc : ∀ l, (if c.kind = 2 then putL 1 [c.lo, c.hi, c.mode] else if c.kind = 3 then putL 1 [c.lo, c.hi] else if c.kind = 4 then putL 6 [c.dead, c.was] else if c.kind = 5 then putL 6 [c.dead] else []) = l →
      bytesC c = bytesN 1 c.kind.toNat ++ (bytesN 6 c.node.toNat ++ (bytesN 4 c.serial.toNat ++ l)) := by
    intro l hl
    unfold bytesC
    rw [hl, put1, put1, put1]
    simp only [List.append_assoc]
  rcases hk with ⟨hk, ho⟩ | ⟨hk, ho⟩ | ⟨hk, ho⟩ | ⟨hk, ho⟩ | ⟨hk, ho⟩
  · rw [main [] (hbc _ (by rw [if_neg (by omega), if_neg (by omega), if_neg (by omega), if_neg (by omega)]))]
    unfold readB
    rw [if_neg (by omega), if_neg (by omega), if_neg (by omega), if_neg (by omega)]
    have hh := (only_iff c _ _ _ _).1 ho
    simp only [Bool.false_eq_true, if_false, false_and, or_false] at hh
    have : (⟨c.kind, c.node, c.serial, 0, 0, 0, 0, 0⟩ : Cm) = c := by conv => rhs; rw [cm_eq c, hh.1.1, hh.1.2, hh.2.1, hh.2.2.1, hh.2.2.2]
    rw [this]
    exact endR_yes c hm
  · have hh := (only_iff c _ _ _ _).1 ho
    simp only [if_true, Bool.false_eq_true, if_false, false_and, or_false] at hh
    have sp := (span_iff c).1 hh.1
    have t1 := take_put (bytesN 1 c.hi.toNat ++ bytesN 1 c.mode.toNat) false 1 c.lo (by decide) (by decide) (fit1 _ (by omega) (by omega))
    have t2 := take_put (bytesN 1 c.mode.toNat) false 1 c.hi (by decide) (by decide) (fit1 _ (by omega) (by omega))
    have t3 := take_put [] false 1 c.mode (by decide) (by decide) (fit1 _ (by have := hh.2.1; omega) (by have := hh.2.1; omega))
    rw [List.append_nil] at t3
    rw [main _ (hbc _ (by rw [if_pos hk])), put3]
    unfold readB
    rw [if_pos hk]
    simp only [t1.1, t1.2, t2.1, t2.2, t3.1, t3.2]
    have : (⟨c.kind, c.node, c.serial, 0, 0, c.lo, c.hi, min c.mode 127⟩ : Cm) = c := by
      conv => rhs; rw [cm_eq c, hh.2.2.1, hh.2.2.2]
      rw [show min c.mode 127 = c.mode by have := hh.2.1; omega]
    rw [this]
    exact endR_yes c hm
  · have hh := (only_iff c _ _ _ _).1 ho
    simp only [if_true, Bool.false_eq_true, if_false, false_and, or_false] at hh
    have sp := (span_iff c).1 hh.1
    have t1 := take_put (bytesN 1 c.hi.toNat) false 1 c.lo (by decide) (by decide) (fit1 _ (by omega) (by omega))
    have t2 := take_put [] false 1 c.hi (by decide) (by decide) (fit1 _ (by omega) (by omega))
    rw [List.append_nil] at t2
    rw [main _ (hbc _ (by rw [if_neg (by omega), if_pos hk])), put2]
    unfold readB
    rw [if_neg (by omega), if_pos hk]
    simp only [t1.1, t1.2, t2.1, t2.2]
    have : (⟨c.kind, c.node, c.serial, 0, 0, c.lo, c.hi, 0⟩ : Cm) = c := by
      conv => rhs; rw [cm_eq c, hh.2.1, hh.2.2.1, hh.2.2.2]
    rw [this]
    exact endR_yes c hm
  · have hh := (only_iff c _ _ _ _).1 ho
    simp only [if_true, Bool.false_eq_true, if_false, true_and] at hh
    have sp := (key_iff _).1 hh.2.2.1
    have sw : 0 ≤ c.was ∧ c.was ≤ 1099511627776 := by
      rcases hh.2.2.2 with h | h
      · omega
      · have := (key_iff _).1 h; omega
    have t1 := take_put (bytesN 6 c.was.toNat) false 6 c.dead (by decide) (by decide) (fit6 _ (by omega) (by omega))
    have t2 := take_put [] false 6 c.was (by decide) (by decide) (fit6 _ (by omega) (by omega))
    rw [List.append_nil] at t2
    rw [main _ (hbc _ (by rw [if_neg (by omega), if_neg (by omega), if_pos hk])), put2]
    unfold readB
    rw [if_neg (by omega), if_neg (by omega), if_pos hk]
    simp only [t1.1, t1.2, t2.1, t2.2]
    have : (⟨c.kind, c.node, c.serial, c.dead, c.was, 0, 0, 0⟩ : Cm) = c := by
      conv => rhs; rw [cm_eq c, hh.1.1, hh.1.2, hh.2.1]
    rw [this]
    exact endR_yes c hm
  · have hh := (only_iff c _ _ _ _).1 ho
    simp only [if_true, Bool.false_eq_true, if_false, false_and, or_false] at hh
    have sp := (key_iff _).1 hh.2.2.1
    have t1 := take_put [] false 6 c.dead (by decide) (by decide) (fit6 _ (by omega) (by omega))
    rw [List.append_nil] at t1
    rw [main _ (hbc _ (by rw [if_neg (by omega), if_neg (by omega), if_neg (by omega), if_pos hk])), put1]
    unfold readB
    rw [if_neg (by omega), if_neg (by omega), if_neg (by omega), if_pos hk]
    simp only [t1.1, t1.2]
    have : (⟨c.kind, c.node, c.serial, c.dead, 0, 0, 0, 0⟩ : Cm) = c := by
      conv => rhs; rw [cm_eq c, hh.1.1, hh.1.2, hh.2.1, hh.2.2.2]
    rw [this]
    exact endR_yes c hm

/-- what is read is what was written -/
theorem read_back (s : ByteArray) (h : (readC s).2 = 0) : mayC (readC s).1 = true ∧ strB (bytesC (readC s).1) = s := by
  have main : ∀ (t : ByteArray × Bool) (k n r : Int), (readB t k n r).2 = 0 → mayC (readB t k n r).1 = true ∧ t.2 = false ∧ (readB t k n r).1.kind = k ∧ (readB t k n r).1.node = n ∧ (readB t k n r).1.serial = r ∧
      bytesC (readB t k n r).1 = bytesN 1 k.toNat ++ (bytesN 6 n.toNat ++ (bytesN 4 r.toNat ++ t.1.data.toList)) := by
    intro t k n r h
    unfold readB at h ⊢
    by_cases k2 : k = 2
    · rw [if_pos k2] at h ⊢
      obtain ⟨e, e1, e2, e3⟩ := endR_ok h
      rw [e]
      have g3 := take_good _ _ 1 (by decide) (by decide) e1
      have g2 := take_good _ _ 1 (by decide) (by decide) g3.1
      have g1 := take_good _ _ 1 (by decide) (by decide) g2.1
      refine ⟨e3, g1.1, rfl, rfl, rfl, ?_⟩
      obtain ⟨_, _, hk⟩ := may_has _ e3
      have ho : onlyB ⟨k, n, r, 0, 0, takeV t.1 1, takeV (takeT t.1 t.2 1).1 1, min (takeV (takeT (takeT t.1 t.2 1).1 (takeT t.1 t.2 1).2 1).1 1) 127⟩ true true false false = true := by
        rcases hk with ⟨hk, _⟩ | ⟨_, ho⟩ | ⟨hk, _⟩ | ⟨hk, _⟩ | ⟨hk, _⟩
        · have : k = 0 ∨ k = 1 := hk; omega
        · exact ho
        · have : k = 3 := hk; omega
        · have : k = 4 := hk; omega
        · have : k = 5 := hk; omega
      have hmode : min (takeV (takeT (takeT t.1 t.2 1).1 (takeT t.1 t.2 1).2 1).1 1) 127 = 1 ∨ min (takeV (takeT (takeT t.1 t.2 1).1 (takeT t.1 t.2 1).2 1).1 1) 127 = 2 := ((only_iff _ _ _ _ _).1 ho).2.1
      have hm := g3.2.2
      have hmin : min (takeV (takeT (takeT t.1 t.2 1).1 (takeT t.1 t.2 1).2 1).1 1) 127 = takeV (takeT (takeT t.1 t.2 1).1 (takeT t.1 t.2 1).2 1).1 1 := by omega
      unfold bytesC
      simp only [if_pos k2]
      rw [g1.2.1, g2.2.1, g3.2.1, e2, put1, put1, put1, put3, hmin]
      simp only [List.append_assoc, List.append_nil]
    · rw [if_neg k2] at h ⊢
      by_cases k3 : k = 3
      · rw [if_pos k3] at h ⊢
        obtain ⟨e, e1, e2, e3⟩ := endR_ok h
        rw [e]
        have g2 := take_good _ _ 1 (by decide) (by decide) e1
        have g1 := take_good _ _ 1 (by decide) (by decide) g2.1
        refine ⟨e3, g1.1, rfl, rfl, rfl, ?_⟩
        unfold bytesC
        simp only [if_neg k2, if_pos k3]
        rw [g1.2.1, g2.2.1, e2, put1, put1, put1, put2]
        simp only [List.append_assoc, List.append_nil]
      · rw [if_neg k3] at h ⊢
        by_cases k4 : k = 4
        · rw [if_pos k4] at h ⊢
          obtain ⟨e, e1, e2, e3⟩ := endR_ok h
          rw [e]
          have g2 := take_good _ _ 6 (by decide) (by decide) e1
          have g1 := take_good _ _ 6 (by decide) (by decide) g2.1
          refine ⟨e3, g1.1, rfl, rfl, rfl, ?_⟩
          unfold bytesC
          simp only [if_neg k2, if_neg k3, if_pos k4]
          rw [g1.2.1, g2.2.1, e2, put1, put1, put1, put2]
          simp only [List.append_assoc, List.append_nil]
        · rw [if_neg k4] at h ⊢
          by_cases k5 : k = 5
          · rw [if_pos k5] at h ⊢
            obtain ⟨e, e1, e2, e3⟩ := endR_ok h
            rw [e]
            have g1 := take_good _ _ 6 (by decide) (by decide) e1
            refine ⟨e3, g1.1, rfl, rfl, rfl, ?_⟩
            unfold bytesC
            simp only [if_neg k2, if_neg k3, if_neg k4, if_pos k5]
            rw [g1.2.1, e2, put1, put1, put1, put1]
            simp only [List.append_assoc, List.append_nil]
          · rw [if_neg k5] at h ⊢
            obtain ⟨e, e1, e2, e3⟩ := endR_ok h
            rw [e]
            refine ⟨e3, e1, rfl, rfl, rfl, ?_⟩
            unfold bytesC
            simp only [if_neg k2, if_neg k3, if_neg k4, if_neg k5]
            rw [e2, put1, put1, put1]
            simp only [List.append_assoc, List.append_nil]
  unfold readC at h ⊢
  obtain ⟨m1, m2, m3, m4, m5, m6⟩ := main _ _ _ _ h
  refine ⟨m1, ?_⟩
  have g3 := take_good _ _ 4 (by decide) (by decide) m2
  have g2 := take_good _ _ 6 (by decide) (by decide) g3.1
  have g1 := take_good _ _ 1 (by decide) (by decide) g2.1
  obtain ⟨_, _, hk⟩ := may_has _ m1
  rw [m3] at hk
  have hmin : min (takeV s 1) 127 = takeV s 1 := by omega
  rw [m6, hmin, ← g3.2.1, ← g2.2.1, ← g1.2.1]
  exact str_of s

theorem bytes_inj (a b : Cm) (ha : mayC a = true) (hb : mayC b = true) (h : bytesC a = bytesC b) : a = b := by
  have h1 := read_bytes a ha
  rw [h, read_bytes b hb] at h1
  exact (congrArg Prod.fst h1).symm

theorem head_kind (c : Cm) : ∃ r, bytesC c = UInt8.ofNat c.kind.toNat :: r := by
  unfold bytesC
  rw [put1 1 c.kind, bytesN_cons]
  simp only [List.append_assoc, List.cons_append]
  exact ⟨_, rfl⟩

theorem len_kind (a b : Cm) (h : a.kind = b.kind) : (bytesC a).length = (bytesC b).length := by
  unfold bytesC
  rw [h]
  simp only [List.length_append, length_putL, List.length_cons, List.length_nil]
  repeat' split
  all_goals simp only [length_putL, List.length_cons, List.length_nil]

/-- no beginning of a command's bytes is a command -/
theorem read_part (c : Cm) (hm : mayC c = true) (n : Nat) (hn : n < (bytesC c).length) : readC (strB ((bytesC c).take n)) = (cZ, 100) := by
  rcases readC_or (strB ((bytesC c).take n)) with h | h
  · exfalso
    obtain ⟨m1, m2⟩ := read_back _ h
    obtain ⟨d, hd⟩ : ∃ d, d = (readC (strB ((bytesC c).take n))).1 := ⟨_, rfl⟩
    rw [← hd] at m1 m2
    have e := str_inj m2
    obtain ⟨_, _, hk⟩ := may_has _ m1
    obtain ⟨_, _, hk'⟩ := may_has _ hm
    obtain ⟨r, hr⟩ := head_kind d
    obtain ⟨r', hr'⟩ := head_kind c
    have l1 := (len_bytes d).1
    have hl := congrArg List.length e
    rw [List.length_take] at hl
    have h0 : 0 < n := by omega
    obtain ⟨m, rfl⟩ : ∃ m, n = m + 1 := ⟨n - 1, by omega⟩
    rw [hr, hr', List.take_succ_cons] at e
    injection e with e _
    have e2 := congrArg UInt8.toNat e
    simp only [UInt8.toNat_ofNat'] at e2
    have := len_kind d c (by omega)
    omega
  · exact h

end Go.Proofs.Ytnoojlgefpekiaa
