/-
  The walk of breakwaterlaw13.ChooseOne, joined. (The regions' lines are printed by choose_one.py.)
-/
import Derived.Test.YtilpcoebpinmfaaOneA
import Derived.Test.YtilpcoebpinmfaaOneB
import Derived.Test.YtilpcoebpinmfaaOneC
namespace Go.Proofs.Ytilpcoebpinmfaa
open Go.RowKit

theorem one_w1 (a b : Int) (x y : ByteArray) (inst : Int) (first took : Bool) (w : World) (h1 : a < 1) : Calls Try.prog 5 #[.int .i64 a, .int .i64 b, .string x, .string y, .int .i64 inst, .bool first, .bool took] w fun e w' => e = .returned (.bool true) ∧ Below w.heap.size w w' := by
  have HWK := Lib.hid (wakes_any w)
  go_enter Try.func5, Try.ntmps5
  go_wp2_with fail
  refine HWK.out.mono ?_
  rintro e w1 ⟨rfl, hb1⟩
  go_wp2
  go_ret
  exact ⟨rfl, hb1⟩

theorem one_w2 (a b : Int) (x y : ByteArray) (inst : Int) (first took : Bool) (w : World) (h1 : ¬ a < 1) (h2 : b < 1) : Calls Try.prog 5 #[.int .i64 a, .int .i64 b, .string x, .string y, .int .i64 inst, .bool first, .bool took] w fun e w' => e = .returned (.bool true) ∧ Below w.heap.size w w' := by
  have HWK := Lib.hid (wakes_any w)
  go_enter Try.func5, Try.ntmps5
  go_wp2_with fail
  refine HWK.out.mono ?_
  rintro e w1 ⟨rfl, hb1⟩
  go_wp2
  go_ret
  exact ⟨rfl, hb1⟩

theorem one_w3 (a b : Int) (x y : ByteArray) (inst : Int) (first took : Bool) (w : World) (h1 : ¬ a < 1) (h2 : ¬ b < 1) (h3 : a = b) : Calls Try.prog 5 #[.int .i64 a, .int .i64 b, .string x, .string y, .int .i64 inst, .bool first, .bool took] w fun e w' => e = .returned (.bool true) ∧ Below w.heap.size w w' := by
  subst h3
  have HWK := Lib.hid (wakes_any w)
  go_enter Try.func5, Try.ntmps5
  go_wp2_with fail
  refine HWK.out.mono ?_
  rintro e w1 ⟨rfl, hb1⟩
  go_wp2
  go_ret
  exact ⟨rfl, hb1⟩

theorem one_w4 (a b : Int) (x y : ByteArray) (inst : Int) (first took : Bool) (w : World) (h1 : ¬ a < 1) (h2 : ¬ b < 1) (h3 : ¬ a = b) (h4 : 100 < x.size) : Calls Try.prog 5 #[.int .i64 a, .int .i64 b, .string x, .string y, .int .i64 inst, .bool first, .bool took] w fun e w' => e = .returned (.bool true) ∧ Below w.heap.size w w' := by
  have h4' : (100 : Int) < (x.size : Int) := by omega
  have HWK := Lib.hid (wakes_any w)
  go_enter Try.func5, Try.ntmps5
  go_wp2_with fail
  refine HWK.out.mono ?_
  rintro e w1 ⟨rfl, hb1⟩
  go_wp2
  go_ret
  exact ⟨rfl, hb1⟩

theorem one_w5 (a b : Int) (x y : ByteArray) (inst : Int) (first took : Bool) (w : World) (h1 : ¬ a < 1) (h2 : ¬ b < 1) (h3 : ¬ a = b) (h4 : x.size ≤ 100) (h5 : 100 < y.size) : Calls Try.prog 5 #[.int .i64 a, .int .i64 b, .string x, .string y, .int .i64 inst, .bool first, .bool took] w fun e w' => e = .returned (.bool true) ∧ Below w.heap.size w w' := by
  have h4' : ¬ (100 : Int) < (x.size : Int) := by omega
  have h5' : (100 : Int) < (y.size : Int) := by omega
  have HWK := Lib.hid (wakes_any w)
  go_enter Try.func5, Try.ntmps5
  go_wp2_with fail
  refine HWK.out.mono ?_
  rintro e w1 ⟨rfl, hb1⟩
  go_wp2
  go_ret
  exact ⟨rfl, hb1⟩

theorem one_any (a b : Int) (x y : ByteArray) (inst : Int) (first took : Bool) (w : World) : Calls Try.prog 5 #[.int .i64 a, .int .i64 b, .string x, .string y, .int .i64 inst, .bool first, .bool took] w fun e w' => e = .returned (.bool true) ∧ Below w.heap.size w w' := by
  by_cases h1 : a < 1
  · exact one_w1 a b x y inst first took w h1
  by_cases h2 : b < 1
  · exact one_w2 a b x y inst first took w h1 h2
  by_cases h3 : a = b
  · exact one_w3 a b x y inst first took w h1 h2 h3
  by_cases h4 : 100 < x.size
  · exact one_w4 a b x y inst first took w h1 h2 h3 h4
  have h4 : x.size ≤ 100 := by omega
  by_cases h5 : 100 < y.size
  · exact one_w5 a b x y inst first took w h1 h2 h3 h4 h5
  have h5 : y.size ≤ 100 := by omega
  by_cases hl : a < b
  · cases took with
    | true => cases first with
      | true => exact one_tfl a b x y inst w h1 h2 hl h4 h5
      | false => exact one_tnl a b x y inst w h1 h2 hl h4 h5
    | false =>
      by_cases hxy : y.toList = x.toList
      · obtain rfl := toList_eq hxy
        cases first with
        | true => exact one_efl a b y inst w h1 h2 hl h4
        | false => exact one_enl a b y inst w h1 h2 hl h4
      · cases first with
        | true => exact one_ufl a b x y inst w h1 h2 hl h4 h5 hxy
        | false => exact one_unl a b x y inst w h1 h2 hl h4 h5 hxy
  · cases took with
    | true => cases first with
      | true => exact one_tfg a b x y inst w h1 h2 (by omega) h4 h5
      | false => exact one_tng a b x y inst w h1 h2 (by omega) h4 h5
    | false =>
      by_cases hxy : y.toList = x.toList
      · obtain rfl := toList_eq hxy
        cases first with
        | true => exact one_efg a b y inst w h1 h2 (by omega) h4
        | false => exact one_eng a b y inst w h1 h2 (by omega) h4
      · cases first with
        | true => exact one_ufg a b x y inst w h1 h2 (by omega) h4 h5 hxy
        | false => exact one_ung a b x y inst w h1 h2 (by omega) h4 h5 hxy

end Go.Proofs.Ytilpcoebpinmfaa
