/-
  No cell of these rows narrows 'for every input' (looked for: loops, veiled, ifaces, maps, wideKeys, modest, calm, conditions, laid).
  DERIVED. THE GIVEN ROWS OF THIS SEAT. 5 by the template 'for every input the law returns true; each argument reads behind the call as it read before'; 0 by the template 'total and deterministic' (their statements: YtbiclekpkijknaaTotals.lean).
  GIVEN WITH THE SEED: the statements are not yours to turn. If you find one false, say at which input.
  Laid BY PROGRAM, IN A SANDBOX (cutbox-rows.mjs): the forced cells as the released guide's own fill.sh prints them over the translation e91bf4b1aabbbc05… (all of the seat's roots in one cut). By AI agents, Wed Nov 11 2026. No macro, syntax, notation, axiom, sorry.
-/
import Derived.Test.YtbiclekpkijknaaChecked
import GoSem.Claim
import GoSem.ClaimJoined
import GoSem.ClaimMapViews
import Derived.JoinedTies
import Derived.KernelRfl
namespace Go.Proofs.Ytbiclekpkijknaa
/- THE CELL 'sum', in the pinned program and in every row, IS THE sha256 OF THE DUMP (.gsa) THAT YtbiclekpkijknaaProg.lean LOADS. Nothing in Lean hashes anything: it is a label: what it is worth is what the hold of that sum in a sandbox is worth. -/
noncomputable def Try.pinned : Pinned := { name := "ytbiclekpkijknaa", sum := "e91bf4b1aabbbc052b3d4690c8f3fe010829e6c67a7a14dae0224d39ec98b1f2", checked := Try.checked }
namespace Rows
def none {H : Type} : Left H := { results := [], args := [] }

/-- 'breakwaterlaw02.CrcBurst': WHATEVER THE INPUT: true; the input reads as it did. -/
def crcBurstSpec : ChangeSpec := { name := "crcBurst", fn := fun _ => fun
  | [d1, d2, d3] => { results := [.lit (.bool true)], args := [d1, d2, d3] }
  | _ => none }
def crcBurstRow : OpenClaim := { program := "ytbiclekpkijknaa", sum := "e91bf4b1aabbbc052b3d4690c8f3fe010829e6c67a7a14dae0224d39ec98b1f2", func := "breakwater/breakwaterlaw02.CrcBurst", spec := "crcBurst", apart := false }
def CrcBurstSaid : Prop := crcBurstRow.holds Try.pinned (OpenSpec.ofChange crcBurstSpec)

/-- ITS FALSE NEIGHBOUR: 'it returns false'. Refute it at one input. -/
def crcBurstWrong : ChangeSpec := { name := "crcBurst", fn := fun _ => fun
  | [d1, d2, d3] => { results := [.lit (.bool false)], args := [d1, d2, d3] }
  | _ => none }
def CrcBurstWrongFalsely : Prop := crcBurstRow.holds Try.pinned (OpenSpec.ofChange crcBurstWrong)

/-- 'breakwaterlaw02.CrcBoth': WHATEVER THE INPUT: true; the input reads as it did. -/
def crcBothSpec : ChangeSpec := { name := "crcBoth", fn := fun _ => fun
  | [d1, d2] => { results := [.lit (.bool true)], args := [d1, d2] }
  | _ => none }
def crcBothRow : OpenClaim := { program := "ytbiclekpkijknaa", sum := "e91bf4b1aabbbc052b3d4690c8f3fe010829e6c67a7a14dae0224d39ec98b1f2", func := "breakwater/breakwaterlaw02.CrcBoth", spec := "crcBoth", apart := false }
def CrcBothSaid : Prop := crcBothRow.holds Try.pinned (OpenSpec.ofChange crcBothSpec)

/-- ITS FALSE NEIGHBOUR: 'it returns false'. Refute it at one input. -/
def crcBothWrong : ChangeSpec := { name := "crcBoth", fn := fun _ => fun
  | [d1, d2] => { results := [.lit (.bool false)], args := [d1, d2] }
  | _ => none }
def CrcBothWrongFalsely : Prop := crcBothRow.holds Try.pinned (OpenSpec.ofChange crcBothWrong)

/-- 'breakwaterlaw02.CrcClose': WHATEVER THE INPUT: true; the input reads as it did. -/
def crcCloseSpec : ChangeSpec := { name := "crcClose", fn := fun _ => fun
  | [d1, d2, d3] => { results := [.lit (.bool true)], args := [d1, d2, d3] }
  | _ => none }
def crcCloseRow : OpenClaim := { program := "ytbiclekpkijknaa", sum := "e91bf4b1aabbbc052b3d4690c8f3fe010829e6c67a7a14dae0224d39ec98b1f2", func := "breakwater/breakwaterlaw02.CrcClose", spec := "crcClose", apart := false }
def CrcCloseSaid : Prop := crcCloseRow.holds Try.pinned (OpenSpec.ofChange crcCloseSpec)

/-- ITS FALSE NEIGHBOUR: 'it returns false'. Refute it at one input. -/
def crcCloseWrong : ChangeSpec := { name := "crcClose", fn := fun _ => fun
  | [d1, d2, d3] => { results := [.lit (.bool false)], args := [d1, d2, d3] }
  | _ => none }
def CrcCloseWrongFalsely : Prop := crcCloseRow.holds Try.pinned (OpenSpec.ofChange crcCloseWrong)

/-- 'breakwaterlaw02.CrcBack': WHATEVER THE INPUT: true; the input reads as it did. -/
def crcBackSpec : ChangeSpec := { name := "crcBack", fn := fun _ => fun
  | [d1, d2, d3] => { results := [.lit (.bool true)], args := [d1, d2, d3] }
  | _ => none }
def crcBackRow : OpenClaim := { program := "ytbiclekpkijknaa", sum := "e91bf4b1aabbbc052b3d4690c8f3fe010829e6c67a7a14dae0224d39ec98b1f2", func := "breakwater/breakwaterlaw02.CrcBack", spec := "crcBack", apart := false }
def CrcBackSaid : Prop := crcBackRow.holds Try.pinned (OpenSpec.ofChange crcBackSpec)

/-- ITS FALSE NEIGHBOUR: 'it returns false'. Refute it at one input. -/
def crcBackWrong : ChangeSpec := { name := "crcBack", fn := fun _ => fun
  | [d1, d2, d3] => { results := [.lit (.bool false)], args := [d1, d2, d3] }
  | _ => none }
def CrcBackWrongFalsely : Prop := crcBackRow.holds Try.pinned (OpenSpec.ofChange crcBackWrong)

/-- 'breakwaterlaw02.CrcTells': WHATEVER THE INPUT: true; the input reads as it did. -/
def crcTellsSpec : ChangeSpec := { name := "crcTells", fn := fun _ => fun
  | [d1, d2, d3, d4] => { results := [.lit (.bool true)], args := [d1, d2, d3, d4] }
  | _ => none }
def crcTellsRow : OpenClaim := { program := "ytbiclekpkijknaa", sum := "e91bf4b1aabbbc052b3d4690c8f3fe010829e6c67a7a14dae0224d39ec98b1f2", func := "breakwater/breakwaterlaw02.CrcTells", spec := "crcTells", apart := false }
def CrcTellsSaid : Prop := crcTellsRow.holds Try.pinned (OpenSpec.ofChange crcTellsSpec)

/-- ITS FALSE NEIGHBOUR: 'it returns false'. Refute it at one input. -/
def crcTellsWrong : ChangeSpec := { name := "crcTells", fn := fun _ => fun
  | [d1, d2, d3, d4] => { results := [.lit (.bool false)], args := [d1, d2, d3, d4] }
  | _ => none }
def CrcTellsWrongFalsely : Prop := crcTellsRow.holds Try.pinned (OpenSpec.ofChange crcTellsWrong)

/- THE SECOND FORM. 'bulk': how many values and letters a reading holds, each counted each time it is reached (what is shared counts as often as it is met; a slice's spare places count too). A statement '..UptoSaid' is the law's where the arguments, and the package variables that the reading takes, are together of bulk at most 1048576: NARROWER than '..Said'. Prove '..Said' where nothing that the law and all that it calls make is longer than what came in: it says more and counts as full. Else prove '..UptoSaid'. A law counts once. -/
mutual
def uptoBulk {H : Type} : DataW H → Nat
  | .lit (.string bytes) => bytes.length + 1
  | .lit _ => 1
  | .nil => 1
  | .ptr d => uptoBulk d + 1
  | .slice elems spare => uptoBulkAll elems + uptoBulkAll spare + 1
  | .agg parts => uptoBulkAll parts + 1
  | .iface _ d => uptoBulk d + 1
  | .map entries => uptoBulkEntries entries + 1
  | .held _ => 1
def uptoBulkAll {H : Type} : List (DataW H) → Nat
  | [] => 0
  | d :: r => uptoBulk d + uptoBulkAll r
def uptoBulkEntries {H : Type} : List (Lit × DataW H) → Nat
  | [] => 0
  | x :: r => uptoBulkEntry x + uptoBulkEntries r
def uptoBulkEntry {H : Type} : Lit × DataW H → Nat
  | (.string bytes, d) => bytes.length + uptoBulk d + 1
  | (_, d) => uptoBulk d + 1
 end
def uptoSmall : (H : Type) → List (DataW H) → Bool := fun _ ds => decide (uptoBulkAll ds ≤ 1048576)
def OpenSpec.upto (s : _root_.Go.ChangeSpec) : _root_.Go.OpenSpec := { _root_.Go.OpenSpec.ofChange s with cond := some uptoSmall }

/-- 'breakwaterlaw02.CrcBurst', WHERE WHAT IT READS IS OF BULK AT MOST 1048576: true; the input reads as it did. -/
def crcBurstUptoRow : OpenClaim := { program := "ytbiclekpkijknaa", sum := "e91bf4b1aabbbc052b3d4690c8f3fe010829e6c67a7a14dae0224d39ec98b1f2", func := "breakwater/breakwaterlaw02.CrcBurst", spec := "crcBurst", apart := false, narrowed := true }
def CrcBurstUptoSaid : Prop := crcBurstUptoRow.holds Try.pinned (OpenSpec.upto crcBurstSpec)

/-- 'breakwaterlaw02.CrcBoth', WHERE WHAT IT READS IS OF BULK AT MOST 1048576: true; the input reads as it did. -/
def crcBothUptoRow : OpenClaim := { program := "ytbiclekpkijknaa", sum := "e91bf4b1aabbbc052b3d4690c8f3fe010829e6c67a7a14dae0224d39ec98b1f2", func := "breakwater/breakwaterlaw02.CrcBoth", spec := "crcBoth", apart := false, narrowed := true }
def CrcBothUptoSaid : Prop := crcBothUptoRow.holds Try.pinned (OpenSpec.upto crcBothSpec)

/-- 'breakwaterlaw02.CrcClose', WHERE WHAT IT READS IS OF BULK AT MOST 1048576: true; the input reads as it did. -/
def crcCloseUptoRow : OpenClaim := { program := "ytbiclekpkijknaa", sum := "e91bf4b1aabbbc052b3d4690c8f3fe010829e6c67a7a14dae0224d39ec98b1f2", func := "breakwater/breakwaterlaw02.CrcClose", spec := "crcClose", apart := false, narrowed := true }
def CrcCloseUptoSaid : Prop := crcCloseUptoRow.holds Try.pinned (OpenSpec.upto crcCloseSpec)

/-- 'breakwaterlaw02.CrcBack', WHERE WHAT IT READS IS OF BULK AT MOST 1048576: true; the input reads as it did. -/
def crcBackUptoRow : OpenClaim := { program := "ytbiclekpkijknaa", sum := "e91bf4b1aabbbc052b3d4690c8f3fe010829e6c67a7a14dae0224d39ec98b1f2", func := "breakwater/breakwaterlaw02.CrcBack", spec := "crcBack", apart := false, narrowed := true }
def CrcBackUptoSaid : Prop := crcBackUptoRow.holds Try.pinned (OpenSpec.upto crcBackSpec)

/-- 'breakwaterlaw02.CrcTells', WHERE WHAT IT READS IS OF BULK AT MOST 1048576: true; the input reads as it did. -/
def crcTellsUptoRow : OpenClaim := { program := "ytbiclekpkijknaa", sum := "e91bf4b1aabbbc052b3d4690c8f3fe010829e6c67a7a14dae0224d39ec98b1f2", func := "breakwater/breakwaterlaw02.CrcTells", spec := "crcTells", apart := false, narrowed := true }
def CrcTellsUptoSaid : Prop := crcTellsUptoRow.holds Try.pinned (OpenSpec.upto crcTellsSpec)

end Rows
end Go.Proofs.Ytbiclekpkijknaa
