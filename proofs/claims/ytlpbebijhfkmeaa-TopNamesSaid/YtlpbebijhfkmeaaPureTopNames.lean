/- The numbers of package api are those that the document tells, each one.
   Conditions: none. -/
import Derived.Test.YtlpbebijhfkmeaaPTopNamesx1
namespace Go.Proofs.Ytlpbebijhfkmeaa.Pure
open Go.RowKit Go.Proofs.Ytlpbebijhfkmeaa.PTopNames Go.Proofs.YtlpbebijhfkmeaaW.PrintWords Go.Proofs.YtlpbebijhfkmeaaW.PrintLast

/-- YOURS: ∃ k, abridgertop_TopNames.f k  = some true
What it reaches (each with k first where it has rounds; `.mono`: more rounds tell the same; `.l0`, ..: its loops, with `.mono_l`): abridgertop_are.f, abridgertop_first.f, abridgertop_second.f, abridgertop_third.f, abridgertop_fourth.f, abridgertop_TopNames.f -/
theorem TopNames : abridgertop_TopNames.Pure := by
  exact ⟨60, by decide +kernel⟩

end Go.Proofs.Ytlpbebijhfkmeaa.Pure
