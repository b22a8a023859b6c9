/-
  Contract of the law's helper great.
-/
import Derived.Test.YtilpcoebpinmfaaRefC
namespace Go.Proofs.Ytilpcoebpinmfaa
open Go.RowKit

/-- records that are too great -/
def grB (l : List Rc) : Bool := (l.take 61).any (fun r => decide (200 < r.val.size)) || decide (60 < l.length)

theorem gr_false {l : List Rc} (h : grB l = false) : l.length ≤ 60 ∧ ∀ r ∈ l, r.val.size ≤ 200 := by
  simp only [grB, Bool.or_eq_false_iff, decide_eq_false_iff_not, List.any_eq_false, decide_eq_true_eq] at h
  obtain ⟨h1, h2⟩ := h
  refine ⟨by omega, fun r hr => ?_⟩
  rw [List.take_of_length_le (by omega)] at h1
  have := h1 r hr
  omega

theorem gr_at {l : List Rc} {k : Nat} {r : Rc} (hk : k ≤ 60) (h : l[k]? = some r) (hr : 200 < r.val.size) : grB l = true := by
  have hl : k < l.length := (List.getElem?_eq_some_iff.1 h).1
  have hm : r ∈ l.take 61 := by
    rw [List.mem_iff_getElem?]
    exact ⟨k, by rw [List.getElem?_take_of_lt (by omega)]; exact h⟩
  simp only [grB, Bool.or_eq_true, List.any_eq_true, decide_eq_true_eq]
  exact .inl ⟨r, hm, hr⟩

theorem gr_end {l : List Rc} (h : ∀ k r, k < l.length → k ≤ 60 → l[k]? = some r → ¬ 200 < r.val.size) : grB l = decide (60 < l.length) := by
  have : (l.take 61).any (fun r => decide (200 < r.val.size)) = false := by
    simp only [List.any_eq_false, decide_eq_true_eq]
    intro r hr
    obtain ⟨k, hk⟩ := List.mem_iff_getElem?.1 hr
    have hk61 : k < 61 := by
      have := (List.getElem?_eq_some_iff.1 hk).1
      simp at this; omega
    rw [List.getElem?_take_of_lt hk61] at hk
    exact h k r (List.getElem?_eq_some_iff.1 hk).1 (by omega) hk
  simp [grB, this]

set_option maxRecDepth 100000 in
set_option maxHeartbeats 1000000 in
/-- great -/
theorem great_any (A : Option Addr) (n c B : Nat) (l : List Rc) (w : World) (hl : RdR w B A n l) (hn : n ≤ 9223372036854775807) :
    Calls Try.prog 8 #[.slice A n c] w fun e w' => e = .returned (.bool (grB l)) ∧ w = w' := by
  have HL := Lib.hid hl; clear hl
  obtain ⟨b, hb⟩ : ∃ b, b = grB l := ⟨_, rfl⟩
  rw [← hb]
  have HG := Lib.hid hb; clear hb
  go_enter Try.func8, Try.ntmps8
  go_wp2
  go_loop [3] (fun i => ∃ (k : Nat), k ≤ n ∧ k ≤ 61 ∧ i = .int .i64 k ∧ Hid (∀ j r, j < k → j ≤ 60 → l[j]? = some r → ¬ 200 < r.val.size)) (fun i => n - (intOf i).toNat)
  case atStart => exact ⟨0, by omega, by omega, rfl, Lib.hid (fun j r hj => by omega)⟩
  case round =>
    obtain ⟨k, hk, hk61, rfl, HS⟩ := hrel
    by_cases hkn : k < n
    · by_cases hk60 : (k : Int) ≤ 60
      · have hlen := HL.out.1
        obtain ⟨ad, rfl, hab, hcs⟩ := HL.out.2 (by omega)
        obtain ⟨r, hlk⟩ : ∃ r, l[k]? = some r := ⟨_, List.getElem?_eq_getElem (by omega)⟩
        obtain ⟨p0, p1, p2, p3⟩ := hcs k _ hlk
        have q3 : w.cell? ⟨(ad.add (k * 4)).block, (ad.add (k * 4)).off + 3, none⟩ = some (.string r.val) := by
          rw [← add_two] at p3; exact p3
        have ix1 : (0 : Int) ≤ (k : Int) := by omega
        have ix2 : (k : Int) < (n : Int) := by omega
        have HP := Lib.hid hlk; have HLEN := Lib.hid hlen
        clear hcs hlk hlen p0 p1 p2 p3
        by_cases hr : (200 : Int) < (r.val.size : Int)
        · have hg : b = true := by rw [HG.out]; exact gr_at (k := k) (by omega) HP.out (by omega)
          go_wp2
          go_ret
          exact ⟨rfl, rfl⟩
        · go_wp2
          go_round
          case rel =>
            refine ⟨k + 1, by omega, by omega, by go_num, Lib.hid (fun j r' hj hj60 hr' => ?_)⟩
            rcases Nat.lt_or_ge j k with h | h
            · exact HS.out j r' h hj60 hr'
            · obtain rfl : j = k := by omega
              rw [HP.out] at hr'; cases hr'
              omega
          case measure => simp [intOf]; omega
      · have hg : b = decide (60 < n) := by
          rw [HG.out, gr_end (fun j r hj hj60 => HS.out j r (by omega) hj60), HL.out.1]
        have hn60 : (60 : Int) < (n : Int) := by omega
        have HGG := Lib.hid hg; clear hg
        go_wp2
        go_ret
        refine ⟨?_, rfl⟩
        rw [HGG.out]
        simp; omega
    · have hkn' : k = n := by omega
      have hg : b = decide (60 < n) := by
        rw [HG.out, gr_end (fun j r hj hj60 => HS.out j r (by have := HL.out.1; omega) hj60), HL.out.1]
      have HGG := Lib.hid hg; have HKN := Lib.hid hkn'; clear hg hkn'
      by_cases hn60 : (60 : Int) < (n : Int)
      · go_wp2
        go_ret
        refine ⟨?_, rfl⟩
        rw [HGG.out]
        simp; omega
      · go_wp2
        go_ret
        refine ⟨?_, rfl⟩
        rw [HGG.out]
        simp; omega

end Go.Proofs.Ytilpcoebpinmfaa
