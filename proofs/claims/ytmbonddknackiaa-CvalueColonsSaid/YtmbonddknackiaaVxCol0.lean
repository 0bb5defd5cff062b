/- The short texts 0 to 6: the kernel runs them. -/
import Derived.Test.YtmbonddknackiaaVxAlive
namespace Go.Vx.Seat
theorem text0 : isTrue (xfun C1 3000 0 7 [.int .i64 (.ofNat 0)] ⟨0, []⟩) = true := by kernel_rfl
theorem text1 : isTrue (xfun C1 3000 0 7 [.int .i64 (.ofNat 1)] ⟨0, []⟩) = true := by kernel_rfl
theorem text2 : isTrue (xfun C1 3000 0 7 [.int .i64 (.ofNat 2)] ⟨0, []⟩) = true := by kernel_rfl
theorem text3 : isTrue (xfun C1 3000 0 7 [.int .i64 (.ofNat 3)] ⟨0, []⟩) = true := by kernel_rfl
theorem text4 : isTrue (xfun C1 3000 0 7 [.int .i64 (.ofNat 4)] ⟨0, []⟩) = true := by kernel_rfl
theorem text5 : isTrue (xfun C1 3000 0 7 [.int .i64 (.ofNat 5)] ⟨0, []⟩) = true := by kernel_rfl
theorem text6 : isTrue (xfun C1 3000 0 7 [.int .i64 (.ofNat 6)] ⟨0, []⟩) = true := by kernel_rfl
theorem below0 : isTrue (xfun C1 3000 0 7 [.int .i64 (.negSucc 0)] ⟨0, []⟩) = true := by kernel_rfl
theorem below1 (k : Nat) : isTrue (xfun C1 3000 0 7 [.int .i64 (.negSucc (k + 1))] ⟨0, []⟩) = true := by kernel_rfl
theorem above (k : Nat) : isTrue (xfun C1 3000 0 7 [.int .i64 (.ofNat (k + 19))] ⟨0, []⟩) = true := by kernel_rfl
end Go.Vx.Seat
