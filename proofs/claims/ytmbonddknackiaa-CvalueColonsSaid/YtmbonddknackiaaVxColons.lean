/- Whatever number comes in, CvalueColons returns true: below 0 and from 19 on it returns at once, and the 19 texts are run. -/
import Derived.Test.YtmbonddknackiaaVxCol0
import Derived.Test.YtmbonddknackiaaVxCol1
import Derived.Test.YtmbonddknackiaaVxCol2
namespace Go.Vx.Seat
open Go.Proofs Go.RowKit
theorem colons_run (which : Int) : isTrue (xfun C1 3000 0 7 [.int .i64 which] ⟨0, []⟩) = true := by
  cases which with
  | negSucc k => cases k with
    | zero => exact below0
    | succ k => exact below1 k
  | ofNat k =>
    match k with
    | 0 => exact text0
    | 1 => exact text1
    | 2 => exact text2
    | 3 => exact text3
    | 4 => exact text4
    | 5 => exact text5
    | 6 => exact text6
    | 7 => exact text7
    | 8 => exact text8
    | 9 => exact text9
    | 10 => exact text10
    | 11 => exact text11
    | 12 => exact text12
    | 13 => exact text13
    | 14 => exact text14
    | 15 => exact text15
    | 16 => exact text16
    | 17 => exact text17
    | 18 => exact text18
    | k + 19 => exact above k
theorem colons_calls (which : Int) (w : World) : Calls Try.prog 7 #[.int .i64 which] w fun e w' => e = .returned (.bool true) ∧ Below w.heap.size w w' := by
  obtain ⟨h', h⟩ := isTrue_some (colons_run which)
  exact law_dry good1 rfl (by simp [dryV, dry]) h w
end Go.Vx.Seat
