/- The short texts 13 to 18: the kernel runs them. -/
import Derived.Test.YtmbonddknackiaaVxAlive
namespace Go.Vx.Seat
theorem text13 : isTrue (xfun C1 3000 0 7 [.int .i64 (.ofNat 13)] ⟨0, []⟩) = true := by kernel_rfl
theorem text14 : isTrue (xfun C1 3000 0 7 [.int .i64 (.ofNat 14)] ⟨0, []⟩) = true := by kernel_rfl
theorem text15 : isTrue (xfun C1 3000 0 7 [.int .i64 (.ofNat 15)] ⟨0, []⟩) = true := by kernel_rfl
theorem text16 : isTrue (xfun C1 3000 0 7 [.int .i64 (.ofNat 16)] ⟨0, []⟩) = true := by kernel_rfl
theorem text17 : isTrue (xfun C1 3000 0 7 [.int .i64 (.ofNat 17)] ⟨0, []⟩) = true := by kernel_rfl
theorem text18 : isTrue (xfun C1 3000 0 7 [.int .i64 (.ofNat 18)] ⟨0, []⟩) = true := by kernel_rfl
end Go.Vx.Seat
