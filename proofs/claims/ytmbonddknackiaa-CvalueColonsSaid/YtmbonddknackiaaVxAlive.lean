/- The law's example is alive: the kernel runs it. -/
import Derived.Test.YtmbonddknackiaaVxEq
namespace Go.Vx.Seat
open Go.Proofs
def isTrue : Option (Value × H) → Bool | some (.bool true, _) => true | _ => false
theorem isTrue_some {r : Option (Value × H)} (h : isTrue r = true) : ∃ h', r = some (.bool true, h') := by
  unfold isTrue at h
  split at h
  · exact ⟨_, rfl⟩
  · cases h
theorem alive0 : isTrue (xfun C0 3000 0 8 [] ⟨0, []⟩) = true := by kernel_rfl
noncomputable def C1 : Cx := C0.tell 8 (tell0 (.bool true))
theorem good1 : Good C1 := by
  obtain ⟨h', h⟩ := isTrue_some alive0
  exact good_tell0 good0 h rfl
end Go.Vx.Seat
