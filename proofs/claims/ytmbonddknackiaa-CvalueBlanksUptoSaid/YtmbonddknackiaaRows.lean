/-
  No cell of these rows narrows 'for every input' (looked for: loops, veiled, ifaces, maps, wideKeys, modest, calm, conditions, laid).
  DERIVED. THE GIVEN ROWS OF THIS SEAT. 5 by the template 'for every input the law returns true; each argument reads behind the call as it read before'; 0 by the template 'total and deterministic' (their statements: YtmbonddknackiaaTotals.lean).
  GIVEN WITH THE SEED: the statements are not yours to turn. If you find one false, say at which input.
  Laid BY PROGRAM, IN A SANDBOX (cutbox-rows.mjs): the forced cells as the released guide's own fill.sh prints them over the translation dd9046386625205f… (all of the seat's roots in one cut). By AI agents, Wed Nov 11 2026. No macro, syntax, notation, axiom, sorry.
-/
import Derived.Test.YtmbonddknackiaaChecked
import GoSem.Claim
import GoSem.ClaimJoined
import GoSem.ClaimMapViews
import Derived.JoinedTies
import Derived.KernelRfl
namespace Go.Proofs.Ytmbonddknackiaa
/- THE CELL 'sum', in the pinned program and in every row, IS THE sha256 OF THE DUMP (.gsa) THAT YtmbonddknackiaaProg.lean LOADS. Nothing in Lean hashes anything: it is a label: what it is worth is what the hold of that sum in a sandbox is worth. -/
noncomputable def Try.pinned : Pinned := { name := "ytmbonddknackiaa", sum := "dd9046386625205fc19fdc58956399881e5459aa6be60d93e39f8c14f11ea238", checked := Try.checked }
namespace Rows
def none {H : Type} : Left H := { results := [], args := [] }

/-- 'abridgerlaw18.CvalueTells': WHATEVER THE INPUT: true; the input reads as it did. -/
def cvalueTellsSpec : ChangeSpec := { name := "cvalueTells", fn := fun _ => fun
  | [d1, d2, d3] => { results := [.lit (.bool true)], args := [d1, d2, d3] }
  | _ => none }
def cvalueTellsRow : OpenClaim := { program := "ytmbonddknackiaa", sum := "dd9046386625205fc19fdc58956399881e5459aa6be60d93e39f8c14f11ea238", func := "abridger/abridgerlaw18.CvalueTells", spec := "cvalueTells", inPlace := ["internal/bytealg.IndexByteString", "internal/bytealg.IndexString", "slices.overlaps[abridger/api.CTok]"], unfollowed := true, recurses := true, named := ["internal/bytealg.MaxLen"], apart := false }
def CvalueTellsSaid : Prop := cvalueTellsRow.holds Try.pinned (OpenSpec.ofChange cvalueTellsSpec)

/-- ITS FALSE NEIGHBOUR: 'it returns false'. Refute it at one input. -/
def cvalueTellsWrong : ChangeSpec := { name := "cvalueTells", fn := fun _ => fun
  | [d1, d2, d3] => { results := [.lit (.bool false)], args := [d1, d2, d3] }
  | _ => none }
def CvalueTellsWrongFalsely : Prop := cvalueTellsRow.holds Try.pinned (OpenSpec.ofChange cvalueTellsWrong)

/-- 'abridgerlaw18.CvalueTwice': WHATEVER THE INPUT: true; the input reads as it did. -/
def cvalueTwiceSpec : ChangeSpec := { name := "cvalueTwice", fn := fun _ => fun
  | [d] => { results := [.lit (.bool true)], args := [d] }
  | _ => none }
def cvalueTwiceRow : OpenClaim := { program := "ytmbonddknackiaa", sum := "dd9046386625205fc19fdc58956399881e5459aa6be60d93e39f8c14f11ea238", func := "abridger/abridgerlaw18.CvalueTwice", spec := "cvalueTwice", inPlace := ["internal/bytealg.IndexByteString", "internal/bytealg.IndexString", "slices.overlaps[abridger/api.CTok]"], unfollowed := true, recurses := true, named := ["internal/bytealg.MaxLen"], apart := false }
def CvalueTwiceSaid : Prop := cvalueTwiceRow.holds Try.pinned (OpenSpec.ofChange cvalueTwiceSpec)

/-- ITS FALSE NEIGHBOUR: 'it returns false'. Refute it at one input. -/
def cvalueTwiceWrong : ChangeSpec := { name := "cvalueTwice", fn := fun _ => fun
  | [d] => { results := [.lit (.bool false)], args := [d] }
  | _ => none }
def CvalueTwiceWrongFalsely : Prop := cvalueTwiceRow.holds Try.pinned (OpenSpec.ofChange cvalueTwiceWrong)

/-- 'abridgerlaw18.CvalueKeeps': WHATEVER THE INPUT: true; the input reads as it did. -/
def cvalueKeepsSpec : ChangeSpec := { name := "cvalueKeeps", fn := fun _ => fun
  | [d] => { results := [.lit (.bool true)], args := [d] }
  | _ => none }
def cvalueKeepsRow : OpenClaim := { program := "ytmbonddknackiaa", sum := "dd9046386625205fc19fdc58956399881e5459aa6be60d93e39f8c14f11ea238", func := "abridger/abridgerlaw18.CvalueKeeps", spec := "cvalueKeeps", inPlace := ["internal/bytealg.IndexByteString", "internal/bytealg.IndexString", "slices.overlaps[abridger/api.CTok]"], unfollowed := true, recurses := true, named := ["internal/bytealg.MaxLen"], apart := false }
def CvalueKeepsSaid : Prop := cvalueKeepsRow.holds Try.pinned (OpenSpec.ofChange cvalueKeepsSpec)

/-- ITS FALSE NEIGHBOUR: 'it returns false'. Refute it at one input. -/
def cvalueKeepsWrong : ChangeSpec := { name := "cvalueKeeps", fn := fun _ => fun
  | [d] => { results := [.lit (.bool false)], args := [d] }
  | _ => none }
def CvalueKeepsWrongFalsely : Prop := cvalueKeepsRow.holds Try.pinned (OpenSpec.ofChange cvalueKeepsWrong)

/-- 'abridgerlaw18.CvalueBlanks': WHATEVER THE INPUT: true; the input reads as it did. -/
def cvalueBlanksSpec : ChangeSpec := { name := "cvalueBlanks", fn := fun _ => fun
  | [d1, d2] => { results := [.lit (.bool true)], args := [d1, d2] }
  | _ => none }
def cvalueBlanksRow : OpenClaim := { program := "ytmbonddknackiaa", sum := "dd9046386625205fc19fdc58956399881e5459aa6be60d93e39f8c14f11ea238", func := "abridger/abridgerlaw18.CvalueBlanks", spec := "cvalueBlanks", inPlace := ["internal/bytealg.IndexByteString", "internal/bytealg.IndexString", "slices.overlaps[abridger/api.CTok]"], unfollowed := true, recurses := true, named := ["internal/bytealg.MaxLen"], apart := false }
def CvalueBlanksSaid : Prop := cvalueBlanksRow.holds Try.pinned (OpenSpec.ofChange cvalueBlanksSpec)

/-- ITS FALSE NEIGHBOUR: 'it returns false'. Refute it at one input. -/
def cvalueBlanksWrong : ChangeSpec := { name := "cvalueBlanks", fn := fun _ => fun
  | [d1, d2] => { results := [.lit (.bool false)], args := [d1, d2] }
  | _ => none }
def CvalueBlanksWrongFalsely : Prop := cvalueBlanksRow.holds Try.pinned (OpenSpec.ofChange cvalueBlanksWrong)

/-- 'abridgerlaw18.CvalueColons': WHATEVER THE INPUT: true; the input reads as it did. -/
def cvalueColonsSpec : ChangeSpec := { name := "cvalueColons", fn := fun _ => fun
  | [d] => { results := [.lit (.bool true)], args := [d] }
  | _ => none }
def cvalueColonsRow : OpenClaim := { program := "ytmbonddknackiaa", sum := "dd9046386625205fc19fdc58956399881e5459aa6be60d93e39f8c14f11ea238", func := "abridger/abridgerlaw18.CvalueColons", spec := "cvalueColons", inPlace := ["internal/bytealg.IndexByteString", "internal/bytealg.IndexString", "slices.overlaps[abridger/api.CTok]"], unfollowed := true, recurses := true, named := ["internal/bytealg.MaxLen"], apart := false }
def CvalueColonsSaid : Prop := cvalueColonsRow.holds Try.pinned (OpenSpec.ofChange cvalueColonsSpec)

/-- ITS FALSE NEIGHBOUR: 'it returns false'. Refute it at one input. -/
def cvalueColonsWrong : ChangeSpec := { name := "cvalueColons", fn := fun _ => fun
  | [d] => { results := [.lit (.bool false)], args := [d] }
  | _ => none }
def CvalueColonsWrongFalsely : Prop := cvalueColonsRow.holds Try.pinned (OpenSpec.ofChange cvalueColonsWrong)

/- THE SECOND FORM. 'bulk': how many values and letters a reading holds, each counted each time it is reached (what is shared counts as often as it is met; a slice's spare places count too). A statement '..UptoSaid' is the law's where the arguments, and the package variables that the reading takes, are together of bulk at most 1048576: NARROWER than '..Said'. Prove '..Said' where nothing that the law and all that it calls make is longer than what came in: it says more and counts as full. Else prove '..UptoSaid'. A law counts once. -/
mutual
def uptoBulk {H : Type} : DataW H → Nat
  | .lit (.string bytes) => bytes.length + 1
  | .lit _ => 1
  | .nil => 1
  | .ptr d => uptoBulk d + 1
  | .slice elems spare => uptoBulkAll elems + uptoBulkAll spare + 1
  | .agg parts => uptoBulkAll parts + 1
  | .iface _ d => uptoBulk d + 1
  | .map entries => uptoBulkEntries entries + 1
  | .held _ => 1
def uptoBulkAll {H : Type} : List (DataW H) → Nat
  | [] => 0
  | d :: r => uptoBulk d + uptoBulkAll r
def uptoBulkEntries {H : Type} : List (Lit × DataW H) → Nat
  | [] => 0
  | x :: r => uptoBulkEntry x + uptoBulkEntries r
def uptoBulkEntry {H : Type} : Lit × DataW H → Nat
  | (.string bytes, d) => bytes.length + uptoBulk d + 1
  | (_, d) => uptoBulk d + 1
 end
def uptoSmall : (H : Type) → List (DataW H) → Bool := fun _ ds => decide (uptoBulkAll ds ≤ 1048576)
def OpenSpec.upto (s : _root_.Go.ChangeSpec) : _root_.Go.OpenSpec := { _root_.Go.OpenSpec.ofChange s with cond := some uptoSmall }

/-- 'abridgerlaw18.CvalueTells', WHERE WHAT IT READS IS OF BULK AT MOST 1048576: true; the input reads as it did. -/
def cvalueTellsUptoRow : OpenClaim := { program := "ytmbonddknackiaa", sum := "dd9046386625205fc19fdc58956399881e5459aa6be60d93e39f8c14f11ea238", func := "abridger/abridgerlaw18.CvalueTells", spec := "cvalueTells", inPlace := ["internal/bytealg.IndexByteString", "internal/bytealg.IndexString", "slices.overlaps[abridger/api.CTok]"], unfollowed := true, recurses := true, named := ["internal/bytealg.MaxLen"], apart := false, narrowed := true }
def CvalueTellsUptoSaid : Prop := cvalueTellsUptoRow.holds Try.pinned (OpenSpec.upto cvalueTellsSpec)

/-- 'abridgerlaw18.CvalueTwice', WHERE WHAT IT READS IS OF BULK AT MOST 1048576: true; the input reads as it did. -/
def cvalueTwiceUptoRow : OpenClaim := { program := "ytmbonddknackiaa", sum := "dd9046386625205fc19fdc58956399881e5459aa6be60d93e39f8c14f11ea238", func := "abridger/abridgerlaw18.CvalueTwice", spec := "cvalueTwice", inPlace := ["internal/bytealg.IndexByteString", "internal/bytealg.IndexString", "slices.overlaps[abridger/api.CTok]"], unfollowed := true, recurses := true, named := ["internal/bytealg.MaxLen"], apart := false, narrowed := true }
def CvalueTwiceUptoSaid : Prop := cvalueTwiceUptoRow.holds Try.pinned (OpenSpec.upto cvalueTwiceSpec)

/-- 'abridgerlaw18.CvalueKeeps', WHERE WHAT IT READS IS OF BULK AT MOST 1048576: true; the input reads as it did. -/
def cvalueKeepsUptoRow : OpenClaim := { program := "ytmbonddknackiaa", sum := "dd9046386625205fc19fdc58956399881e5459aa6be60d93e39f8c14f11ea238", func := "abridger/abridgerlaw18.CvalueKeeps", spec := "cvalueKeeps", inPlace := ["internal/bytealg.IndexByteString", "internal/bytealg.IndexString", "slices.overlaps[abridger/api.CTok]"], unfollowed := true, recurses := true, named := ["internal/bytealg.MaxLen"], apart := false, narrowed := true }
def CvalueKeepsUptoSaid : Prop := cvalueKeepsUptoRow.holds Try.pinned (OpenSpec.upto cvalueKeepsSpec)

/-- 'abridgerlaw18.CvalueBlanks', WHERE WHAT IT READS IS OF BULK AT MOST 1048576: true; the input reads as it did. -/
def cvalueBlanksUptoRow : OpenClaim := { program := "ytmbonddknackiaa", sum := "dd9046386625205fc19fdc58956399881e5459aa6be60d93e39f8c14f11ea238", func := "abridger/abridgerlaw18.CvalueBlanks", spec := "cvalueBlanks", inPlace := ["internal/bytealg.IndexByteString", "internal/bytealg.IndexString", "slices.overlaps[abridger/api.CTok]"], unfollowed := true, recurses := true, named := ["internal/bytealg.MaxLen"], apart := false, narrowed := true }
def CvalueBlanksUptoSaid : Prop := cvalueBlanksUptoRow.holds Try.pinned (OpenSpec.upto cvalueBlanksSpec)

/-- 'abridgerlaw18.CvalueColons', WHERE WHAT IT READS IS OF BULK AT MOST 1048576: true; the input reads as it did. -/
def cvalueColonsUptoRow : OpenClaim := { program := "ytmbonddknackiaa", sum := "dd9046386625205fc19fdc58956399881e5459aa6be60d93e39f8c14f11ea238", func := "abridger/abridgerlaw18.CvalueColons", spec := "cvalueColons", inPlace := ["internal/bytealg.IndexByteString", "internal/bytealg.IndexString", "slices.overlaps[abridger/api.CTok]"], unfollowed := true, recurses := true, named := ["internal/bytealg.MaxLen"], apart := false, narrowed := true }
def CvalueColonsUptoSaid : Prop := cvalueColonsUptoRow.holds Try.pinned (OpenSpec.upto cvalueColonsSpec)

end Rows
end Go.Proofs.Ytmbonddknackiaa
