/- Which of seventeen short texts are numbers: package vlq reads just those, whichever of them is asked for.
   Conditions: none. -/
import Derived.Test.YtlpbebijhfkmeaaPVlqx4
import Derived.Test.YtlpbebijhfkmeaaVlq
namespace Go.Proofs.Ytlpbebijhfkmeaa.Pure
open Go.RowKit Go.Proofs.Ytlpbebijhfkmeaa.PVlq Go.Proofs.Ytlpbebijhfkmeaa.Vlq Go.Proofs.YtlpbebijhfkmeaaW.PrintWords Go.Proofs.YtlpbebijhfkmeaaW.PrintLast

theorem wrong_each : ∀ m : Fin 17, abridgerlaw3_VlqWrong.f 60 (m.1 : Int) = some true := by decide +kernel

theorem VlqWrong : abridgerlaw3_VlqWrong.Pure := by
  intro n _
  refine ⟨60, ?_⟩
  by_cases c : n < 0
  · unfold abridgerlaw3_VlqWrong.f
    rw [alive_f]
    simp only [Option.bind_some, if_true]
    rw [if_pos c]
  · by_cases d : n ≥ 17
    · unfold abridgerlaw3_VlqWrong.f
      rw [alive_f]
      simp only [Option.bind_some, if_true]
      rw [if_neg c, if_pos (by simpa using d)]
    · have h := wrong_each ⟨n.toNat, by omega⟩
      rwa [show ((n.toNat : Nat) : Int) = n by omega] at h

end Go.Proofs.Ytlpbebijhfkmeaa.Pure
