/-
  No cell of these rows narrows 'for every input' (looked for: loops, veiled, ifaces, maps, wideKeys, modest, calm, conditions, laid).
  DERIVED. THE GIVEN ROWS OF THIS SEAT. 5 by the template 'for every input the law returns true; each argument reads behind the call as it read before'; 0 by the template 'total and deterministic' (their statements: YtilpcoebpinmfaaTotals.lean).
  GIVEN WITH THE SEED: the statements are not yours to turn. If you find one false, say at which input.
  Laid BY PROGRAM, IN A SANDBOX (cutbox-rows.mjs): the forced cells as the released guide's own fill.sh prints them over the translation 8070e824a69b27e6… (all of the seat's roots in one cut). By AI agents, Wed Nov 11 2026. No macro, syntax, notation, axiom, sorry.
-/
import Derived.Test.YtilpcoebpinmfaaChecked
import GoSem.Claim
import GoSem.ClaimJoined
import GoSem.ClaimMapViews
import Derived.JoinedTies
import Derived.KernelRfl
namespace Go.Proofs.Ytilpcoebpinmfaa
/- THE CELL 'sum', in the pinned program and in every row, IS THE sha256 OF THE DUMP (.gsa) THAT YtilpcoebpinmfaaProg.lean LOADS. Nothing in Lean hashes anything: it is a label: what it is worth is what the hold of that sum in a sandbox is worth. -/
noncomputable def Try.pinned : Pinned := { name := "ytilpcoebpinmfaa", sum := "8070e824a69b27e6e7b6e7809a965c49ff477b9dab0e7c6ea386e71349dba64e", checked := Try.checked }
namespace Rows
def none {H : Type} : Left H := { results := [], args := [] }

/-- 'breakwaterlaw13.ChooseTells': WHATEVER THE INPUT: true; the input reads as it did. -/
def chooseTellsSpec : ChangeSpec := { name := "chooseTells", fn := fun _ => fun
  | [d1, d2, d3, d4, d5, d6, d7] => { results := [.lit (.bool true)], args := [d1, d2, d3, d4, d5, d6, d7] }
  | _ => none }
def chooseTellsRow : OpenClaim := { program := "ytilpcoebpinmfaa", sum := "8070e824a69b27e6e7b6e7809a965c49ff477b9dab0e7c6ea386e71349dba64e", func := "breakwater/breakwaterlaw13.ChooseTells", spec := "chooseTells", apart := false }
def ChooseTellsSaid : Prop := chooseTellsRow.holds Try.pinned (OpenSpec.ofChange chooseTellsSpec)

/-- ITS FALSE NEIGHBOUR: 'it returns false'. Refute it at one input. -/
def chooseTellsWrong : ChangeSpec := { name := "chooseTells", fn := fun _ => fun
  | [d1, d2, d3, d4, d5, d6, d7] => { results := [.lit (.bool false)], args := [d1, d2, d3, d4, d5, d6, d7] }
  | _ => none }
def ChooseTellsWrongFalsely : Prop := chooseTellsRow.holds Try.pinned (OpenSpec.ofChange chooseTellsWrong)

/-- 'breakwaterlaw13.ChooseOrder': WHATEVER THE INPUT: true; the input reads as it did. -/
def chooseOrderSpec : ChangeSpec := { name := "chooseOrder", fn := fun _ => fun
  | [d1, d2] => { results := [.lit (.bool true)], args := [d1, d2] }
  | _ => none }
def chooseOrderRow : OpenClaim := { program := "ytilpcoebpinmfaa", sum := "8070e824a69b27e6e7b6e7809a965c49ff477b9dab0e7c6ea386e71349dba64e", func := "breakwater/breakwaterlaw13.ChooseOrder", spec := "chooseOrder", apart := false }
def ChooseOrderSaid : Prop := chooseOrderRow.holds Try.pinned (OpenSpec.ofChange chooseOrderSpec)

/-- ITS FALSE NEIGHBOUR: 'it returns false'. Refute it at one input. -/
def chooseOrderWrong : ChangeSpec := { name := "chooseOrder", fn := fun _ => fun
  | [d1, d2] => { results := [.lit (.bool false)], args := [d1, d2] }
  | _ => none }
def ChooseOrderWrongFalsely : Prop := chooseOrderRow.holds Try.pinned (OpenSpec.ofChange chooseOrderWrong)

/-- 'breakwaterlaw13.ChooseOne': WHATEVER THE INPUT: true; the input reads as it did. -/
def chooseOneSpec : ChangeSpec := { name := "chooseOne", fn := fun _ => fun
  | [d1, d2, d3, d4, d5, d6, d7] => { results := [.lit (.bool true)], args := [d1, d2, d3, d4, d5, d6, d7] }
  | _ => none }
def chooseOneRow : OpenClaim := { program := "ytilpcoebpinmfaa", sum := "8070e824a69b27e6e7b6e7809a965c49ff477b9dab0e7c6ea386e71349dba64e", func := "breakwater/breakwaterlaw13.ChooseOne", spec := "chooseOne", apart := false }
def ChooseOneSaid : Prop := chooseOneRow.holds Try.pinned (OpenSpec.ofChange chooseOneSpec)

/-- ITS FALSE NEIGHBOUR: 'it returns false'. Refute it at one input. -/
def chooseOneWrong : ChangeSpec := { name := "chooseOne", fn := fun _ => fun
  | [d1, d2, d3, d4, d5, d6, d7] => { results := [.lit (.bool false)], args := [d1, d2, d3, d4, d5, d6, d7] }
  | _ => none }
def ChooseOneWrongFalsely : Prop := chooseOneRow.holds Try.pinned (OpenSpec.ofChange chooseOneWrong)

/-- 'breakwaterlaw13.ChooseOthers': WHATEVER THE INPUT: true; the input reads as it did. -/
def chooseOthersSpec : ChangeSpec := { name := "chooseOthers", fn := fun _ => fun
  | [d1, d2] => { results := [.lit (.bool true)], args := [d1, d2] }
  | _ => none }
def chooseOthersRow : OpenClaim := { program := "ytilpcoebpinmfaa", sum := "8070e824a69b27e6e7b6e7809a965c49ff477b9dab0e7c6ea386e71349dba64e", func := "breakwater/breakwaterlaw13.ChooseOthers", spec := "chooseOthers", apart := false }
def ChooseOthersSaid : Prop := chooseOthersRow.holds Try.pinned (OpenSpec.ofChange chooseOthersSpec)

/-- ITS FALSE NEIGHBOUR: 'it returns false'. Refute it at one input. -/
def chooseOthersWrong : ChangeSpec := { name := "chooseOthers", fn := fun _ => fun
  | [d1, d2] => { results := [.lit (.bool false)], args := [d1, d2] }
  | _ => none }
def ChooseOthersWrongFalsely : Prop := chooseOthersRow.holds Try.pinned (OpenSpec.ofChange chooseOthersWrong)

/-- 'breakwaterlaw13.ChooseParts': WHATEVER THE INPUT: true; the input reads as it did. -/
def choosePartsSpec : ChangeSpec := { name := "chooseParts", fn := fun _ => fun
  | [d1, d2, d3] => { results := [.lit (.bool true)], args := [d1, d2, d3] }
  | _ => none }
def choosePartsRow : OpenClaim := { program := "ytilpcoebpinmfaa", sum := "8070e824a69b27e6e7b6e7809a965c49ff477b9dab0e7c6ea386e71349dba64e", func := "breakwater/breakwaterlaw13.ChooseParts", spec := "chooseParts", apart := false }
def ChoosePartsSaid : Prop := choosePartsRow.holds Try.pinned (OpenSpec.ofChange choosePartsSpec)

/-- ITS FALSE NEIGHBOUR: 'it returns false'. Refute it at one input. -/
def choosePartsWrong : ChangeSpec := { name := "chooseParts", fn := fun _ => fun
  | [d1, d2, d3] => { results := [.lit (.bool false)], args := [d1, d2, d3] }
  | _ => none }
def ChoosePartsWrongFalsely : Prop := choosePartsRow.holds Try.pinned (OpenSpec.ofChange choosePartsWrong)

/- THE SECOND FORM. 'bulk': how many values and letters a reading holds, each counted each time it is reached (what is shared counts as often as it is met; a slice's spare places count too). A statement '..UptoSaid' is the law's where the arguments, and the package variables that the reading takes, are together of bulk at most 1048576: NARROWER than '..Said'. Prove '..Said' where nothing that the law and all that it calls make is longer than what came in: it says more and counts as full. Else prove '..UptoSaid'. A law counts once. -/
mutual
def uptoBulk {H : Type} : DataW H → Nat
  | .lit (.string bytes) => bytes.length + 1
  | .lit _ => 1
  | .nil => 1
  | .ptr d => uptoBulk d + 1
  | .slice elems spare => uptoBulkAll elems + uptoBulkAll spare + 1
  | .agg parts => uptoBulkAll parts + 1
  | .iface _ d => uptoBulk d + 1
  | .map entries => uptoBulkEntries entries + 1
  | .held _ => 1
def uptoBulkAll {H : Type} : List (DataW H) → Nat
  | [] => 0
  | d :: r => uptoBulk d + uptoBulkAll r
def uptoBulkEntries {H : Type} : List (Lit × DataW H) → Nat
  | [] => 0
  | x :: r => uptoBulkEntry x + uptoBulkEntries r
def uptoBulkEntry {H : Type} : Lit × DataW H → Nat
  | (.string bytes, d) => bytes.length + uptoBulk d + 1
  | (_, d) => uptoBulk d + 1
 end
def uptoSmall : (H : Type) → List (DataW H) → Bool := fun _ ds => decide (uptoBulkAll ds ≤ 1048576)
def OpenSpec.upto (s : _root_.Go.ChangeSpec) : _root_.Go.OpenSpec := { _root_.Go.OpenSpec.ofChange s with cond := some uptoSmall }

/-- 'breakwaterlaw13.ChooseTells', WHERE WHAT IT READS IS OF BULK AT MOST 1048576: true; the input reads as it did. -/
def chooseTellsUptoRow : OpenClaim := { program := "ytilpcoebpinmfaa", sum := "8070e824a69b27e6e7b6e7809a965c49ff477b9dab0e7c6ea386e71349dba64e", func := "breakwater/breakwaterlaw13.ChooseTells", spec := "chooseTells", apart := false, narrowed := true }
def ChooseTellsUptoSaid : Prop := chooseTellsUptoRow.holds Try.pinned (OpenSpec.upto chooseTellsSpec)

/-- 'breakwaterlaw13.ChooseOrder', WHERE WHAT IT READS IS OF BULK AT MOST 1048576: true; the input reads as it did. -/
def chooseOrderUptoRow : OpenClaim := { program := "ytilpcoebpinmfaa", sum := "8070e824a69b27e6e7b6e7809a965c49ff477b9dab0e7c6ea386e71349dba64e", func := "breakwater/breakwaterlaw13.ChooseOrder", spec := "chooseOrder", apart := false, narrowed := true }
def ChooseOrderUptoSaid : Prop := chooseOrderUptoRow.holds Try.pinned (OpenSpec.upto chooseOrderSpec)

/-- 'breakwaterlaw13.ChooseOne', WHERE WHAT IT READS IS OF BULK AT MOST 1048576: true; the input reads as it did. -/
def chooseOneUptoRow : OpenClaim := { program := "ytilpcoebpinmfaa", sum := "8070e824a69b27e6e7b6e7809a965c49ff477b9dab0e7c6ea386e71349dba64e", func := "breakwater/breakwaterlaw13.ChooseOne", spec := "chooseOne", apart := false, narrowed := true }
def ChooseOneUptoSaid : Prop := chooseOneUptoRow.holds Try.pinned (OpenSpec.upto chooseOneSpec)

/-- 'breakwaterlaw13.ChooseOthers', WHERE WHAT IT READS IS OF BULK AT MOST 1048576: true; the input reads as it did. -/
def chooseOthersUptoRow : OpenClaim := { program := "ytilpcoebpinmfaa", sum := "8070e824a69b27e6e7b6e7809a965c49ff477b9dab0e7c6ea386e71349dba64e", func := "breakwater/breakwaterlaw13.ChooseOthers", spec := "chooseOthers", apart := false, narrowed := true }
def ChooseOthersUptoSaid : Prop := chooseOthersUptoRow.holds Try.pinned (OpenSpec.upto chooseOthersSpec)

/-- 'breakwaterlaw13.ChooseParts', WHERE WHAT IT READS IS OF BULK AT MOST 1048576: true; the input reads as it did. -/
def choosePartsUptoRow : OpenClaim := { program := "ytilpcoebpinmfaa", sum := "8070e824a69b27e6e7b6e7809a965c49ff477b9dab0e7c6ea386e71349dba64e", func := "breakwater/breakwaterlaw13.ChooseParts", spec := "chooseParts", apart := false, narrowed := true }
def ChoosePartsUptoSaid : Prop := choosePartsUptoRow.holds Try.pinned (OpenSpec.upto choosePartsSpec)

end Rows
end Go.Proofs.Ytilpcoebpinmfaa
