/- CvalueTells is true whatever tokens and text come in, and they read as they did. -/
import Derived.Test.YtmbonddknackiaaRows
import Derived.Test.YtmbonddknackiaaVm37
import Derived.WalkKit
import Derived.ProofKit
import Derived.OpenShut
import Derived.ShutString
import Derived.ChangeOld
import Derived.Below
import Derived.SizedLaws
import Derived.HandedShaped
import Derived.WideKeyArgs
namespace Go.Proofs.Ytmbonddknackiaa.cvalueTells
open Go.ChangeShapes Go.WideShapes Go.ChangeAt Go.RowKit
open Go.ChangeMaps (open_string shut_string)
set_option linter.unusedVariables false
theorem own : ownKnob Try.prog.godebug = none := by kernel_rfl
theorem laid : laidOutB Try.prog = true := by kernel_rfl
theorem rec22 : Try.prog.readableRec 22 = true := by kernel_rfl
theorem lt22 : 22 < Try.prog.types.size := of_decide_eq_true (by kernel_rfl)
set_option maxRecDepth 100000 in
theorem lifted (os : Os) (started : os.Started) (H : Type) (enc : TypeId × Value → H) :
    ReturnsInHanded {} Try.checked os 3 .any (Rows.cvalueTellsSpec.pre6 enc Try.prog Try.f3 Rows.cvalueTellsRow.domain false) (Rows.cvalueTellsSpec.post enc Try.prog Try.f3 false true false false) := by
  refine returnsInHanded_of_change_shaped (C := Try.checked) own started (by kernel_rfl) Try.func3
    (ChangeSpec.witness6 (enc := enc) (C := Try.checked) false ⟨#[], #[.slice none 0 0, .slice none 0 0, .string ⟨#[]⟩], []⟩ 8 (by kernel_rfl) (by kernel_rfl) (by kernel_rfl) (by kernel_rfl)) ?_
  intro W base args ds gs before hval0 hW hcnd hsz0 hsh _
  have hval : ∀ (j : Nat) t v, Try.f3.params[j]? = some t → args[j]? = some v → Value.okWide Try.prog W .any base t v := hval0
  have hW' := hW
  obtain ⟨p, q, hA0, hV, rfl, hfz, hnd⟩ := hW
  have hA : DataW.TrodAll enc Try.prog W 0 (fun _ => true) true Try.f3.params.toList args.toList ds p := hA0
  have hsz : (DataW.weightsEach Try.prog (Try.f3.params.toList ++ Rows.cvalueTellsSpec.plain.varTypes Try.prog) (ds ++ gs)).all (· ≤ reachBytes) = true := hsz0
  rw [Try.params3] at hA hval hsz
  obtain ⟨v0, vs0, d0, ds0, p0, q0, hargs, rfl, rfl, h0, r0⟩ := trodAll_cons hA
  obtain ⟨v1, vs1, d1, ds1, p1, q1, rfl, rfl, rfl, h1, r1⟩ := trodAll_cons r0
  obtain ⟨v2, vs2, d2, ds2, p2, q2, rfl, rfl, rfl, h2, r2⟩ := trodAll_cons r1
  obtain ⟨rfl, rfl, rfl⟩ := trodAll_nil r2
  obtain rfl : args = #[v0, v1, v2] := by cases args; simp_all
  obtain ⟨rfl, rfl⟩ := trodVars_none hV
  obtain ⟨w0, w1⟩ : (d0.weights Try.prog 22).all (· ≤ reachBytes) = true ∧ (d1.weights Try.prog 22).all (· ≤ reachBytes) = true := by
    simp only [List.cons_append, DataW.weightsEach, List.all_append, Bool.and_eq_true] at hsz
    exact ⟨hsz.1, hsz.2.1⟩
  obtain ⟨s, rfl, rfl, rfl, ws⟩ := open_string Try.underlying9 (hval 2 9 v2 rfl rfl) h2
  obtain ⟨m0, t0⟩ := h0
  obtain ⟨m1, t1⟩ := h1
  refine (Vx.Seat.tellsC_calls (s := s) hsh (hval 0 22 v0 rfl rfl) (hval 1 22 v1 rfl rfl) t0 t1 w0 w1).mono fun e W' ⟨he, bel⟩ => ?_
  subst he
  have s0 : DataW.Trod enc Try.prog W' 0 (fun b => decide (b < W.heap.size)) true 22 v0 d0 p0 :=
    WideElems.Trod_stays laid rec22 lt22 ⟨m0, t0⟩ (fun x hx => bel.same (DataW.trod_lt m0 22 _ _ t0 x hx)) (fun x hx => decide_eq_true (DataW.trod_lt m0 22 _ _ t0 x hx))
  have s1 : DataW.Trod enc Try.prog W' 0 (fun b => decide (b < W.heap.size)) true 22 v1 d1 p1 :=
    WideElems.Trod_stays laid rec22 lt22 ⟨m1, t1⟩ (fun x hx => bel.same (DataW.trod_lt m1 22 _ _ t1 x hx)) (fun x hx => decide_eq_true (DataW.trod_lt m1 22 _ _ t1 x hx))
  exact ⟨_, rfl, _, _, _, [], _, [], hW', trodAll_mk1 (shut_bool Try.underlying4 _), (trodAll_cons_mk s0 (trodAll_cons_mk s1 (trodAll_cons_mk (shut_string Try.underlying9 ws) trodAll_mk0))), rfl, bel.frame _, fun h => by cases h⟩
theorem over : Rows.cvalueTellsRow.holds Try.pinned (OpenSpec.ofChange Rows.cvalueTellsSpec) :=
  OpenClaim.holds_of_wide 3 Try.f3 rfl rfl rfl rfl rfl rfl rfl ⟨rfl, rfl, rfl, rfl, rfl⟩ rfl rfl rfl rfl rfl (by kernel_rfl) Try.func3 (by kernel_rfl)
    (of_decide_eq_true (by kernel_rfl)) (by unfold Func.isWrapper; first | (rw [if_pos (by decide +kernel)]; kernel_rfl) | (rw [if_neg (by decide +kernel)]; exact ⟨rfl, rfl⟩))
    (fun os started H enc _ => lifted os started H enc)
theorem proved : Rows.CvalueTellsSaid := over
#print axioms proved
end Go.Proofs.Ytmbonddknackiaa.cvalueTells
namespace Go.Proofs.Ytmbonddknackiaa
/-- The row, under a short name, for the claim. -/
theorem cvalueTells_holds : Rows.CvalueTellsSaid := cvalueTells.proved
end Go.Proofs.Ytmbonddknackiaa
