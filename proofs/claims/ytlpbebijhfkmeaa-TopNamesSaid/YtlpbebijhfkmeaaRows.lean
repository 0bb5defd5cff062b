/-
  No cell of these rows narrows 'for every input' (looked for: loops, veiled, ifaces, maps, wideKeys, modest, calm, conditions, laid).
  DERIVED. THE GIVEN ROWS OF THIS SEAT. 6 by the template 'for every input the law returns true; each argument reads behind the call as it read before'; 0 by the template 'total and deterministic' (their statements: YtlpbebijhfkmeaaTotals.lean).
  GIVEN WITH THE SEED: the statements are not yours to turn. If you find one false, say at which input.
  Laid BY PROGRAM, IN A SANDBOX (cutbox-rows.mjs): the forced cells as the released guide's own fill.sh prints them over the translation da10a3c5a0f476ca… (all of the seat's roots in one cut). By AI agents, Wed Nov 11 2026. No macro, syntax, notation, axiom, sorry.
-/
import Derived.Test.YtlpbebijhfkmeaaChecked
import GoSem.Claim
import GoSem.ClaimJoined
import GoSem.ClaimMapViews
import Derived.JoinedTies
import Derived.KernelRfl
namespace Go.Proofs.Ytlpbebijhfkmeaa
/- THE CELL 'sum', in the pinned program and in every row, IS THE sha256 OF THE DUMP (.gsa) THAT YtlpbebijhfkmeaaProg.lean LOADS. Nothing in Lean hashes anything: it is a label: what it is worth is what the hold of that sum in a sandbox is worth. -/
noncomputable def Try.pinned : Pinned := { name := "ytlpbebijhfkmeaa", sum := "da10a3c5a0f476ca0a7ebc346a0acf25327303e4407d35eb34fb5891bbe6db54", checked := Try.checked }
namespace Rows
def none {H : Type} : Left H := { results := [], args := [] }

/-- 'abridgerlaw3.VlqTells': WHATEVER THE INPUT: true; the input reads as it did. -/
def vlqTellsSpec : ChangeSpec := { name := "vlqTells", fn := fun _ => fun
  | [d1, d2, d3] => { results := [.lit (.bool true)], args := [d1, d2, d3] }
  | _ => none }
def vlqTellsRow : OpenClaim := { program := "ytlpbebijhfkmeaa", sum := "da10a3c5a0f476ca0a7ebc346a0acf25327303e4407d35eb34fb5891bbe6db54", func := "abridger/abridgerlaw3.VlqTells", spec := "vlqTells", inPlace := ["internal/bytealg.IndexByteString"], apart := false }
def VlqTellsSaid : Prop := vlqTellsRow.holds Try.pinned (OpenSpec.ofChange vlqTellsSpec)

/-- ITS FALSE NEIGHBOUR: 'it returns false'. Refute it at one input. -/
def vlqTellsWrong : ChangeSpec := { name := "vlqTells", fn := fun _ => fun
  | [d1, d2, d3] => { results := [.lit (.bool false)], args := [d1, d2, d3] }
  | _ => none }
def VlqTellsWrongFalsely : Prop := vlqTellsRow.holds Try.pinned (OpenSpec.ofChange vlqTellsWrong)

/-- 'abridgerlaw3.VlqBack': WHATEVER THE INPUT: true; the input reads as it did. -/
def vlqBackSpec : ChangeSpec := { name := "vlqBack", fn := fun _ => fun
  | [d] => { results := [.lit (.bool true)], args := [d] }
  | _ => none }
def vlqBackRow : OpenClaim := { program := "ytlpbebijhfkmeaa", sum := "da10a3c5a0f476ca0a7ebc346a0acf25327303e4407d35eb34fb5891bbe6db54", func := "abridger/abridgerlaw3.VlqBack", spec := "vlqBack", inPlace := ["internal/bytealg.IndexByteString"], apart := false }
def VlqBackSaid : Prop := vlqBackRow.holds Try.pinned (OpenSpec.ofChange vlqBackSpec)

/-- ITS FALSE NEIGHBOUR: 'it returns false'. Refute it at one input. -/
def vlqBackWrong : ChangeSpec := { name := "vlqBack", fn := fun _ => fun
  | [d] => { results := [.lit (.bool false)], args := [d] }
  | _ => none }
def VlqBackWrongFalsely : Prop := vlqBackRow.holds Try.pinned (OpenSpec.ofChange vlqBackWrong)

/-- 'abridgerlaw3.VlqShort': WHATEVER THE INPUT: true; the input reads as it did. -/
def vlqShortSpec : ChangeSpec := { name := "vlqShort", fn := fun _ => fun
  | [d] => { results := [.lit (.bool true)], args := [d] }
  | _ => none }
def vlqShortRow : OpenClaim := { program := "ytlpbebijhfkmeaa", sum := "da10a3c5a0f476ca0a7ebc346a0acf25327303e4407d35eb34fb5891bbe6db54", func := "abridger/abridgerlaw3.VlqShort", spec := "vlqShort", inPlace := ["internal/bytealg.IndexByteString"], apart := false }
def VlqShortSaid : Prop := vlqShortRow.holds Try.pinned (OpenSpec.ofChange vlqShortSpec)

/-- ITS FALSE NEIGHBOUR: 'it returns false'. Refute it at one input. -/
def vlqShortWrong : ChangeSpec := { name := "vlqShort", fn := fun _ => fun
  | [d] => { results := [.lit (.bool false)], args := [d] }
  | _ => none }
def VlqShortWrongFalsely : Prop := vlqShortRow.holds Try.pinned (OpenSpec.ofChange vlqShortWrong)

/-- 'abridgerlaw3.VlqWrong': WHATEVER THE INPUT: true; the input reads as it did. -/
def vlqWrongSpec : ChangeSpec := { name := "vlqWrong", fn := fun _ => fun
  | [d] => { results := [.lit (.bool true)], args := [d] }
  | _ => none }
def vlqWrongRow : OpenClaim := { program := "ytlpbebijhfkmeaa", sum := "da10a3c5a0f476ca0a7ebc346a0acf25327303e4407d35eb34fb5891bbe6db54", func := "abridger/abridgerlaw3.VlqWrong", spec := "vlqWrong", inPlace := ["internal/bytealg.IndexByteString"], apart := false }
def VlqWrongSaid : Prop := vlqWrongRow.holds Try.pinned (OpenSpec.ofChange vlqWrongSpec)

/-- ITS FALSE NEIGHBOUR: 'it returns false'. Refute it at one input. -/
def vlqWrongWrong : ChangeSpec := { name := "vlqWrong", fn := fun _ => fun
  | [d] => { results := [.lit (.bool false)], args := [d] }
  | _ => none }
def VlqWrongWrongFalsely : Prop := vlqWrongRow.holds Try.pinned (OpenSpec.ofChange vlqWrongWrong)

/-- 'abridgerlaw3.VlqApart': WHATEVER THE INPUT: true; the input reads as it did. -/
def vlqApartSpec : ChangeSpec := { name := "vlqApart", fn := fun _ => fun
  | [d1, d2] => { results := [.lit (.bool true)], args := [d1, d2] }
  | _ => none }
def vlqApartRow : OpenClaim := { program := "ytlpbebijhfkmeaa", sum := "da10a3c5a0f476ca0a7ebc346a0acf25327303e4407d35eb34fb5891bbe6db54", func := "abridger/abridgerlaw3.VlqApart", spec := "vlqApart", inPlace := ["internal/bytealg.IndexByteString"], apart := false }
def VlqApartSaid : Prop := vlqApartRow.holds Try.pinned (OpenSpec.ofChange vlqApartSpec)

/-- ITS FALSE NEIGHBOUR: 'it returns false'. Refute it at one input. -/
def vlqApartWrong : ChangeSpec := { name := "vlqApart", fn := fun _ => fun
  | [d1, d2] => { results := [.lit (.bool false)], args := [d1, d2] }
  | _ => none }
def VlqApartWrongFalsely : Prop := vlqApartRow.holds Try.pinned (OpenSpec.ofChange vlqApartWrong)

/-- 'abridgertop.TopNames': WHATEVER THE INPUT: true; the input reads as it did. -/
def topNamesSpec : ChangeSpec := { name := "topNames", fn := fun _ => fun
  | [] => { results := [.lit (.bool true)], args := [] }
  | _ => none }
def topNamesRow : OpenClaim := { program := "ytlpbebijhfkmeaa", sum := "da10a3c5a0f476ca0a7ebc346a0acf25327303e4407d35eb34fb5891bbe6db54", func := "abridger/abridgertop.TopNames", spec := "topNames", apart := false }
def TopNamesSaid : Prop := topNamesRow.holds Try.pinned (OpenSpec.ofChange topNamesSpec)

/-- ITS FALSE NEIGHBOUR: 'it returns false'. Refute it at one input. -/
def topNamesWrong : ChangeSpec := { name := "topNames", fn := fun _ => fun
  | [] => { results := [.lit (.bool false)], args := [] }
  | _ => none }
def TopNamesWrongFalsely : Prop := topNamesRow.holds Try.pinned (OpenSpec.ofChange topNamesWrong)

/- THE SECOND FORM. 'bulk': how many values and letters a reading holds, each counted each time it is reached (what is shared counts as often as it is met; a slice's spare places count too). A statement '..UptoSaid' is the law's where the arguments, and the package variables that the reading takes, are together of bulk at most 1048576: NARROWER than '..Said'. Prove '..Said' where nothing that the law and all that it calls make is longer than what came in: it says more and counts as full. Else prove '..UptoSaid'. A law counts once. -/
mutual
def uptoBulk {H : Type} : DataW H → Nat
  | .lit (.string bytes) => bytes.length + 1
  | .lit _ => 1
  | .nil => 1
  | .ptr d => uptoBulk d + 1
  | .slice elems spare => uptoBulkAll elems + uptoBulkAll spare + 1
  | .agg parts => uptoBulkAll parts + 1
  | .iface _ d => uptoBulk d + 1
  | .map entries => uptoBulkEntries entries + 1
  | .held _ => 1
def uptoBulkAll {H : Type} : List (DataW H) → Nat
  | [] => 0
  | d :: r => uptoBulk d + uptoBulkAll r
def uptoBulkEntries {H : Type} : List (Lit × DataW H) → Nat
  | [] => 0
  | x :: r => uptoBulkEntry x + uptoBulkEntries r
def uptoBulkEntry {H : Type} : Lit × DataW H → Nat
  | (.string bytes, d) => bytes.length + uptoBulk d + 1
  | (_, d) => uptoBulk d + 1
 end
def uptoSmall : (H : Type) → List (DataW H) → Bool := fun _ ds => decide (uptoBulkAll ds ≤ 1048576)
def OpenSpec.upto (s : _root_.Go.ChangeSpec) : _root_.Go.OpenSpec := { _root_.Go.OpenSpec.ofChange s with cond := some uptoSmall }

/-- 'abridgerlaw3.VlqTells', WHERE WHAT IT READS IS OF BULK AT MOST 1048576: true; the input reads as it did. -/
def vlqTellsUptoRow : OpenClaim := { program := "ytlpbebijhfkmeaa", sum := "da10a3c5a0f476ca0a7ebc346a0acf25327303e4407d35eb34fb5891bbe6db54", func := "abridger/abridgerlaw3.VlqTells", spec := "vlqTells", inPlace := ["internal/bytealg.IndexByteString"], apart := false, narrowed := true }
def VlqTellsUptoSaid : Prop := vlqTellsUptoRow.holds Try.pinned (OpenSpec.upto vlqTellsSpec)

/-- 'abridgerlaw3.VlqBack', WHERE WHAT IT READS IS OF BULK AT MOST 1048576: true; the input reads as it did. -/
def vlqBackUptoRow : OpenClaim := { program := "ytlpbebijhfkmeaa", sum := "da10a3c5a0f476ca0a7ebc346a0acf25327303e4407d35eb34fb5891bbe6db54", func := "abridger/abridgerlaw3.VlqBack", spec := "vlqBack", inPlace := ["internal/bytealg.IndexByteString"], apart := false, narrowed := true }
def VlqBackUptoSaid : Prop := vlqBackUptoRow.holds Try.pinned (OpenSpec.upto vlqBackSpec)

/-- 'abridgerlaw3.VlqShort', WHERE WHAT IT READS IS OF BULK AT MOST 1048576: true; the input reads as it did. -/
def vlqShortUptoRow : OpenClaim := { program := "ytlpbebijhfkmeaa", sum := "da10a3c5a0f476ca0a7ebc346a0acf25327303e4407d35eb34fb5891bbe6db54", func := "abridger/abridgerlaw3.VlqShort", spec := "vlqShort", inPlace := ["internal/bytealg.IndexByteString"], apart := false, narrowed := true }
def VlqShortUptoSaid : Prop := vlqShortUptoRow.holds Try.pinned (OpenSpec.upto vlqShortSpec)

/-- 'abridgerlaw3.VlqWrong', WHERE WHAT IT READS IS OF BULK AT MOST 1048576: true; the input reads as it did. -/
def vlqWrongUptoRow : OpenClaim := { program := "ytlpbebijhfkmeaa", sum := "da10a3c5a0f476ca0a7ebc346a0acf25327303e4407d35eb34fb5891bbe6db54", func := "abridger/abridgerlaw3.VlqWrong", spec := "vlqWrong", inPlace := ["internal/bytealg.IndexByteString"], apart := false, narrowed := true }
def VlqWrongUptoSaid : Prop := vlqWrongUptoRow.holds Try.pinned (OpenSpec.upto vlqWrongSpec)

/-- 'abridgerlaw3.VlqApart', WHERE WHAT IT READS IS OF BULK AT MOST 1048576: true; the input reads as it did. -/
def vlqApartUptoRow : OpenClaim := { program := "ytlpbebijhfkmeaa", sum := "da10a3c5a0f476ca0a7ebc346a0acf25327303e4407d35eb34fb5891bbe6db54", func := "abridger/abridgerlaw3.VlqApart", spec := "vlqApart", inPlace := ["internal/bytealg.IndexByteString"], apart := false, narrowed := true }
def VlqApartUptoSaid : Prop := vlqApartUptoRow.holds Try.pinned (OpenSpec.upto vlqApartSpec)

/-- 'abridgertop.TopNames', WHERE WHAT IT READS IS OF BULK AT MOST 1048576: true; the input reads as it did. -/
def topNamesUptoRow : OpenClaim := { program := "ytlpbebijhfkmeaa", sum := "da10a3c5a0f476ca0a7ebc346a0acf25327303e4407d35eb34fb5891bbe6db54", func := "abridger/abridgertop.TopNames", spec := "topNames", apart := false, narrowed := true }
def TopNamesUptoSaid : Prop := topNamesUptoRow.holds Try.pinned (OpenSpec.upto topNamesSpec)

end Rows
end Go.Proofs.Ytlpbebijhfkmeaa
