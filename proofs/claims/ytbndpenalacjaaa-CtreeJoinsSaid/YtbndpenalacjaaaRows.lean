/-
  NARROWER THAN 'FOR EVERY INPUT', by the rows' own cells (each row's printed sentence says how): CtreeTells: loops.
  DERIVED. THE GIVEN ROWS OF THIS SEAT. 5 by the template 'for every input the law returns true; each argument reads behind the call as it read before'; 0 by the template 'total and deterministic' (their statements: YtbndpenalacjaaaTotals.lean).
  GIVEN WITH THE SEED: the statements are not yours to turn. If you find one false, say at which input.
  Laid BY PROGRAM, IN A SANDBOX (cutbox-rows.mjs): the forced cells as the released guide's own fill.sh prints them over the translation 2acddaf6255b1392… (all of the seat's roots in one cut). By AI agents, Wed Nov 11 2026. No macro, syntax, notation, axiom, sorry.
-/
import Derived.Test.YtbndpenalacjaaaChecked
import GoSem.Claim
import GoSem.ClaimJoined
import GoSem.ClaimMapViews
import Derived.JoinedTies
import Derived.KernelRfl
namespace Go.Proofs.Ytbndpenalacjaaa
/- THE CELL 'sum', in the pinned program and in every row, IS THE sha256 OF THE DUMP (.gsa) THAT YtbndpenalacjaaaProg.lean LOADS. Nothing in Lean hashes anything: it is a label: what it is worth is what the hold of that sum in a sandbox is worth. -/
noncomputable def Try.pinned : Pinned := { name := "ytbndpenalacjaaa", sum := "2acddaf6255b13921186225c1820f7d722d41ff4bfa4c038a623ab4f74254305", checked := Try.checked }
namespace Rows
def none {H : Type} : Left H := { results := [], args := [] }

/-- 'abridgerlaw21.CtreeTells': WHATEVER THE INPUT: true; the input reads as it did. -/
def ctreeTellsSpec : ChangeSpec := { name := "ctreeTells", fn := fun _ => fun
  | [d1, d2] => { results := [.lit (.bool true)], args := [d1, d2] }
  | _ => none }
def ctreeTellsRow : OpenClaim := { program := "ytbndpenalacjaaa", sum := "2acddaf6255b13921186225c1820f7d722d41ff4bfa4c038a623ab4f74254305", func := "abridger/abridgerlaw21.CtreeTells", spec := "ctreeTells", recurses := true, loops := true, apart := false }
def CtreeTellsSaid : Prop := ctreeTellsRow.holds Try.pinned (OpenSpec.ofChange ctreeTellsSpec)

/-- ITS FALSE NEIGHBOUR: 'it returns false'. Refute it at one input. -/
def ctreeTellsWrong : ChangeSpec := { name := "ctreeTells", fn := fun _ => fun
  | [d1, d2] => { results := [.lit (.bool false)], args := [d1, d2] }
  | _ => none }
def CtreeTellsWrongFalsely : Prop := ctreeTellsRow.holds Try.pinned (OpenSpec.ofChange ctreeTellsWrong)

/-- 'abridgerlaw21.CtreeBack': WHATEVER THE INPUT: true; the input reads as it did. -/
def ctreeBackSpec : ChangeSpec := { name := "ctreeBack", fn := fun _ => fun
  | [d] => { results := [.lit (.bool true)], args := [d] }
  | _ => none }
def ctreeBackRow : OpenClaim := { program := "ytbndpenalacjaaa", sum := "2acddaf6255b13921186225c1820f7d722d41ff4bfa4c038a623ab4f74254305", func := "abridger/abridgerlaw21.CtreeBack", spec := "ctreeBack", recurses := true, apart := false }
def CtreeBackSaid : Prop := ctreeBackRow.holds Try.pinned (OpenSpec.ofChange ctreeBackSpec)

/-- ITS FALSE NEIGHBOUR: 'it returns false'. Refute it at one input. -/
def ctreeBackWrong : ChangeSpec := { name := "ctreeBack", fn := fun _ => fun
  | [d] => { results := [.lit (.bool false)], args := [d] }
  | _ => none }
def CtreeBackWrongFalsely : Prop := ctreeBackRow.holds Try.pinned (OpenSpec.ofChange ctreeBackWrong)

/-- 'abridgerlaw21.CtreeDecls': WHATEVER THE INPUT: true; the input reads as it did. -/
def ctreeDeclsSpec : ChangeSpec := { name := "ctreeDecls", fn := fun _ => fun
  | [d] => { results := [.lit (.bool true)], args := [d] }
  | _ => none }
def ctreeDeclsRow : OpenClaim := { program := "ytbndpenalacjaaa", sum := "2acddaf6255b13921186225c1820f7d722d41ff4bfa4c038a623ab4f74254305", func := "abridger/abridgerlaw21.CtreeDecls", spec := "ctreeDecls", recurses := true, apart := false }
def CtreeDeclsSaid : Prop := ctreeDeclsRow.holds Try.pinned (OpenSpec.ofChange ctreeDeclsSpec)

/-- ITS FALSE NEIGHBOUR: 'it returns false'. Refute it at one input. -/
def ctreeDeclsWrong : ChangeSpec := { name := "ctreeDecls", fn := fun _ => fun
  | [d] => { results := [.lit (.bool false)], args := [d] }
  | _ => none }
def CtreeDeclsWrongFalsely : Prop := ctreeDeclsRow.holds Try.pinned (OpenSpec.ofChange ctreeDeclsWrong)

/-- 'abridgerlaw21.CtreeJoins': WHATEVER THE INPUT: true; the input reads as it did. -/
def ctreeJoinsSpec : ChangeSpec := { name := "ctreeJoins", fn := fun _ => fun
  | [d1, d2] => { results := [.lit (.bool true)], args := [d1, d2] }
  | _ => none }
def ctreeJoinsRow : OpenClaim := { program := "ytbndpenalacjaaa", sum := "2acddaf6255b13921186225c1820f7d722d41ff4bfa4c038a623ab4f74254305", func := "abridger/abridgerlaw21.CtreeJoins", spec := "ctreeJoins", recurses := true, apart := false }
def CtreeJoinsSaid : Prop := ctreeJoinsRow.holds Try.pinned (OpenSpec.ofChange ctreeJoinsSpec)

/-- ITS FALSE NEIGHBOUR: 'it returns false'. Refute it at one input. -/
def ctreeJoinsWrong : ChangeSpec := { name := "ctreeJoins", fn := fun _ => fun
  | [d1, d2] => { results := [.lit (.bool false)], args := [d1, d2] }
  | _ => none }
def CtreeJoinsWrongFalsely : Prop := ctreeJoinsRow.holds Try.pinned (OpenSpec.ofChange ctreeJoinsWrong)

/-- 'abridgerlaw21.CtreeDeep': WHATEVER THE INPUT: true; the input reads as it did. -/
def ctreeDeepSpec : ChangeSpec := { name := "ctreeDeep", fn := fun _ => fun
  | [d1, d2] => { results := [.lit (.bool true)], args := [d1, d2] }
  | _ => none }
def ctreeDeepRow : OpenClaim := { program := "ytbndpenalacjaaa", sum := "2acddaf6255b13921186225c1820f7d722d41ff4bfa4c038a623ab4f74254305", func := "abridger/abridgerlaw21.CtreeDeep", spec := "ctreeDeep", recurses := true, apart := false }
def CtreeDeepSaid : Prop := ctreeDeepRow.holds Try.pinned (OpenSpec.ofChange ctreeDeepSpec)

/-- ITS FALSE NEIGHBOUR: 'it returns false'. Refute it at one input. -/
def ctreeDeepWrong : ChangeSpec := { name := "ctreeDeep", fn := fun _ => fun
  | [d1, d2] => { results := [.lit (.bool false)], args := [d1, d2] }
  | _ => none }
def CtreeDeepWrongFalsely : Prop := ctreeDeepRow.holds Try.pinned (OpenSpec.ofChange ctreeDeepWrong)

/- THE SECOND FORM. 'bulk': how many values and letters a reading holds, each counted each time it is reached (what is shared counts as often as it is met; a slice's spare places count too). A statement '..UptoSaid' is the law's where the arguments, and the package variables that the reading takes, are together of bulk at most 1048576: NARROWER than '..Said'. Prove '..Said' where nothing that the law and all that it calls make is longer than what came in: it says more and counts as full. Else prove '..UptoSaid'. A law counts once. -/
mutual
def uptoBulk {H : Type} : DataW H → Nat
  | .lit (.string bytes) => bytes.length + 1
  | .lit _ => 1
  | .nil => 1
  | .ptr d => uptoBulk d + 1
  | .slice elems spare => uptoBulkAll elems + uptoBulkAll spare + 1
  | .agg parts => uptoBulkAll parts + 1
  | .iface _ d => uptoBulk d + 1
  | .map entries => uptoBulkEntries entries + 1
  | .held _ => 1
def uptoBulkAll {H : Type} : List (DataW H) → Nat
  | [] => 0
  | d :: r => uptoBulk d + uptoBulkAll r
def uptoBulkEntries {H : Type} : List (Lit × DataW H) → Nat
  | [] => 0
  | x :: r => uptoBulkEntry x + uptoBulkEntries r
def uptoBulkEntry {H : Type} : Lit × DataW H → Nat
  | (.string bytes, d) => bytes.length + uptoBulk d + 1
  | (_, d) => uptoBulk d + 1
 end
def uptoSmall : (H : Type) → List (DataW H) → Bool := fun _ ds => decide (uptoBulkAll ds ≤ 1048576)
def OpenSpec.upto (s : _root_.Go.ChangeSpec) : _root_.Go.OpenSpec := { _root_.Go.OpenSpec.ofChange s with cond := some uptoSmall }

/-- 'abridgerlaw21.CtreeTells', WHERE WHAT IT READS IS OF BULK AT MOST 1048576: true; the input reads as it did. -/
def ctreeTellsUptoRow : OpenClaim := { program := "ytbndpenalacjaaa", sum := "2acddaf6255b13921186225c1820f7d722d41ff4bfa4c038a623ab4f74254305", func := "abridger/abridgerlaw21.CtreeTells", spec := "ctreeTells", recurses := true, loops := true, apart := false, narrowed := true }
def CtreeTellsUptoSaid : Prop := ctreeTellsUptoRow.holds Try.pinned (OpenSpec.upto ctreeTellsSpec)

/-- 'abridgerlaw21.CtreeBack', WHERE WHAT IT READS IS OF BULK AT MOST 1048576: true; the input reads as it did. -/
def ctreeBackUptoRow : OpenClaim := { program := "ytbndpenalacjaaa", sum := "2acddaf6255b13921186225c1820f7d722d41ff4bfa4c038a623ab4f74254305", func := "abridger/abridgerlaw21.CtreeBack", spec := "ctreeBack", recurses := true, apart := false, narrowed := true }
def CtreeBackUptoSaid : Prop := ctreeBackUptoRow.holds Try.pinned (OpenSpec.upto ctreeBackSpec)

/-- 'abridgerlaw21.CtreeDecls', WHERE WHAT IT READS IS OF BULK AT MOST 1048576: true; the input reads as it did. -/
def ctreeDeclsUptoRow : OpenClaim := { program := "ytbndpenalacjaaa", sum := "2acddaf6255b13921186225c1820f7d722d41ff4bfa4c038a623ab4f74254305", func := "abridger/abridgerlaw21.CtreeDecls", spec := "ctreeDecls", recurses := true, apart := false, narrowed := true }
def CtreeDeclsUptoSaid : Prop := ctreeDeclsUptoRow.holds Try.pinned (OpenSpec.upto ctreeDeclsSpec)

/-- 'abridgerlaw21.CtreeJoins', WHERE WHAT IT READS IS OF BULK AT MOST 1048576: true; the input reads as it did. -/
def ctreeJoinsUptoRow : OpenClaim := { program := "ytbndpenalacjaaa", sum := "2acddaf6255b13921186225c1820f7d722d41ff4bfa4c038a623ab4f74254305", func := "abridger/abridgerlaw21.CtreeJoins", spec := "ctreeJoins", recurses := true, apart := false, narrowed := true }
def CtreeJoinsUptoSaid : Prop := ctreeJoinsUptoRow.holds Try.pinned (OpenSpec.upto ctreeJoinsSpec)

/-- 'abridgerlaw21.CtreeDeep', WHERE WHAT IT READS IS OF BULK AT MOST 1048576: true; the input reads as it did. -/
def ctreeDeepUptoRow : OpenClaim := { program := "ytbndpenalacjaaa", sum := "2acddaf6255b13921186225c1820f7d722d41ff4bfa4c038a623ab4f74254305", func := "abridger/abridgerlaw21.CtreeDeep", spec := "ctreeDeep", recurses := true, apart := false, narrowed := true }
def CtreeDeepUptoSaid : Prop := ctreeDeepUptoRow.holds Try.pinned (OpenSpec.upto ctreeDeepSpec)

end Rows
end Go.Proofs.Ytbndpenalacjaaa
