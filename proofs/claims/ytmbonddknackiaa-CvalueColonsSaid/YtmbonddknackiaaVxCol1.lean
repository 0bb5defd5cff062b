/- The short texts 7 to 12: the kernel runs them. -/
import Derived.Test.YtmbonddknackiaaVxAlive
namespace Go.Vx.Seat
theorem text7 : isTrue (xfun C1 3000 0 7 [.int .i64 (.ofNat 7)] ⟨0, []⟩) = true := by kernel_rfl
theorem text8 : isTrue (xfun C1 3000 0 7 [.int .i64 (.ofNat 8)] ⟨0, []⟩) = true := by kernel_rfl
theorem text9 : isTrue (xfun C1 3000 0 7 [.int .i64 (.ofNat 9)] ⟨0, []⟩) = true := by kernel_rfl
theorem text10 : isTrue (xfun C1 3000 0 7 [.int .i64 (.ofNat 10)] ⟨0, []⟩) = true := by kernel_rfl
theorem text11 : isTrue (xfun C1 3000 0 7 [.int .i64 (.ofNat 11)] ⟨0, []⟩) = true := by kernel_rfl
theorem text12 : isTrue (xfun C1 3000 0 7 [.int .i64 (.ofNat 12)] ⟨0, []⟩) = true := by kernel_rfl
end Go.Vx.Seat
