/- CvalueTwice is true whatever bytes come in, and they read as they did. -/
import Derived.Test.YtmbonddknackiaaRows
import Derived.Test.YtmbonddknackiaaVm43
import Derived.Test.YtmbonddknackiaaVm41
import Derived.WalkKit
import Derived.ProofKit
import Derived.OpenShut
import Derived.ShutString
import Derived.ChangeOld
import Derived.Below
import Derived.SizedLaws
import Derived.HandedShaped
import Derived.WideKeyArgs
namespace Go.Proofs.Ytmbonddknackiaa.cvalueTwice
open Go.ChangeShapes Go.WideShapes Go.ChangeAt Go.RowKit
open Go.ChangeMaps (open_string shut_string)
set_option linter.unusedVariables false
theorem own : ownKnob Try.prog.godebug = none := by kernel_rfl
theorem laid : laidOutB Try.prog = true := by kernel_rfl
theorem rec31 : Try.prog.readableRec 31 = true := by kernel_rfl
theorem lt31 : 31 < Try.prog.types.size := of_decide_eq_true (by kernel_rfl)
set_option maxRecDepth 100000 in
theorem lifted (os : Os) (started : os.Started) (H : Type) (enc : TypeId × Value → H) :
    ReturnsInHanded {} Try.checked os 4 .any (Rows.cvalueTwiceSpec.pre6 enc Try.prog Try.f4 Rows.cvalueTwiceRow.domain false) (Rows.cvalueTwiceSpec.post enc Try.prog Try.f4 false true false false) := by
  refine returnsInHanded_of_change_shaped (C := Try.checked) own started (by kernel_rfl) Try.func4
    (ChangeSpec.witness6 (enc := enc) (C := Try.checked) false ⟨#[], #[.slice none 0 0], []⟩ 8 (by kernel_rfl) (by kernel_rfl) (by kernel_rfl) (by kernel_rfl)) ?_
  intro W base args ds gs before hval0 hW hcnd hsz0 hsh _
  have hval : ∀ (j : Nat) t v, Try.f4.params[j]? = some t → args[j]? = some v → Value.okWide Try.prog W .any base t v := hval0
  have hW' := hW
  obtain ⟨p, q, hA0, hV, rfl, hfz, hnd⟩ := hW
  have hA : DataW.TrodAll enc Try.prog W 0 (fun _ => true) true Try.f4.params.toList args.toList ds p := hA0
  have hsz : (DataW.weightsEach Try.prog (Try.f4.params.toList ++ Rows.cvalueTwiceSpec.plain.varTypes Try.prog) (ds ++ gs)).all (· ≤ reachBytes) = true := hsz0
  rw [Try.params4] at hA hval hsz
  obtain ⟨v0, vs0, d0, ds0, p0, q0, hargs, rfl, rfl, h0, r0⟩ := trodAll_cons hA
  obtain ⟨rfl, rfl, rfl⟩ := trodAll_nil r0
  obtain rfl : args = #[v0] := by cases args; simp_all
  obtain ⟨rfl, rfl⟩ := trodVars_none hV
  obtain w0 : (d0.weights Try.prog 31).all (· ≤ reachBytes) = true := by
    simp only [List.cons_append, DataW.weightsEach, List.all_append, Bool.and_eq_true] at hsz
    exact hsz.1
  obtain ⟨m0, t0⟩ := h0
  refine (Vx.Seat.bytes_calls hsh rfl Vx.Seat.twice_spec (hval 0 31 v0 rfl rfl) t0 w0).mono fun e W' ⟨he, bel⟩ => ?_
  subst he
  have s0 : DataW.Trod enc Try.prog W' 0 (fun b => decide (b < W.heap.size)) true 31 v0 d0 p0 :=
    WideElems.Trod_stays laid rec31 lt31 ⟨m0, t0⟩ (fun x hx => bel.same (DataW.trod_lt m0 31 _ _ t0 x hx)) (fun x hx => decide_eq_true (DataW.trod_lt m0 31 _ _ t0 x hx))
  exact ⟨_, rfl, _, _, _, [], _, [], hW', trodAll_mk1 (shut_bool Try.underlying4 _), (trodAll_cons_mk s0 trodAll_mk0), rfl, bel.frame _, fun h => by cases h⟩
theorem over : Rows.cvalueTwiceRow.holds Try.pinned (OpenSpec.ofChange Rows.cvalueTwiceSpec) :=
  OpenClaim.holds_of_wide 4 Try.f4 rfl rfl rfl rfl rfl rfl rfl ⟨rfl, rfl, rfl, rfl, rfl⟩ rfl rfl rfl rfl rfl (by kernel_rfl) Try.func4 (by kernel_rfl)
    (of_decide_eq_true (by kernel_rfl)) (by unfold Func.isWrapper; first | (rw [if_pos (by decide +kernel)]; kernel_rfl) | (rw [if_neg (by decide +kernel)]; exact ⟨rfl, rfl⟩))
    (fun os started H enc _ => lifted os started H enc)
theorem proved : Rows.CvalueTwiceSaid := over
#print axioms proved
end Go.Proofs.Ytmbonddknackiaa.cvalueTwice
namespace Go.Proofs.Ytmbonddknackiaa
/-- The row, under a short name, for the claim. -/
theorem cvalueTwice_holds : Rows.CvalueTwiceSaid := cvalueTwice.proved
end Go.Proofs.Ytmbonddknackiaa
