/- CtreeJoins is true whatever bytes come in, and they read as they did. -/
import Derived.Test.YtbndpenalacjaaaRows
import Derived.Test.YtbndpenalacjaaaVm41
import Derived.WalkKit
import Derived.ProofKit
import Derived.OpenShut
import Derived.ShutString
import Derived.ChangeOld
import Derived.Below
import Derived.SizedLaws
import Derived.WideKeyArgs
namespace Go.Proofs.Ytbndpenalacjaaa.ctreeJoins
open Go.ChangeShapes Go.WideShapes Go.ChangeAt Go.RowKit
open Go.ChangeMaps (open_string shut_string)
theorem own : ownKnob Try.prog.godebug = none := by kernel_rfl
theorem laid : laidOutB Try.prog = true := by kernel_rfl
theorem rec32 : Try.prog.readableRec 32 = true := by kernel_rfl
theorem lt32 : 32 < Try.prog.types.size := of_decide_eq_true (by kernel_rfl)
set_option maxRecDepth 100000 in
theorem lifted (os : Os) (started : os.Started) (H : Type) (enc : TypeId × Value → H) :
    ReturnsInHanded {} Try.checked os 6 .any (Rows.ctreeJoinsSpec.pre6 enc Try.prog Try.f6 Rows.ctreeJoinsRow.domain false) (Rows.ctreeJoinsSpec.post enc Try.prog Try.f6 false true false false) := by
  refine returnsInHanded_of_change_sized (C := Try.checked) own started (by kernel_rfl) Try.func6
    (ChangeSpec.witness6 (enc := enc) (C := Try.checked) false ⟨#[], #[.slice none 0 0, .slice none 0 0], []⟩ 8 (by kernel_rfl) (by kernel_rfl) (by kernel_rfl) (by kernel_rfl)) ?_
  intro W base args ds gs before hval0 hW hcnd hsz0 _
  have hval : ∀ (j : Nat) t v, Try.f6.params[j]? = some t → args[j]? = some v → Value.okWide Try.prog W .any base t v := hval0
  have hW' := hW
  obtain ⟨p, q, hA0, hV, rfl, hfz, hnd⟩ := hW
  have hA : DataW.TrodAll enc Try.prog W 0 (fun _ => true) true Try.f6.params.toList args.toList ds p := hA0
  have hsz : (DataW.weightsEach Try.prog (Try.f6.params.toList ++ Rows.ctreeJoinsSpec.plain.varTypes Try.prog) (ds ++ gs)).all (· ≤ reachBytes) = true := hsz0
  rw [Try.params6] at hA hval hsz
  obtain ⟨v0, vs0, d0, ds0, p0, q0, hargs, rfl, rfl, h0, r0⟩ := trodAll_cons hA
  obtain ⟨v1, vs1, d1, ds1, p1, q1, rfl, rfl, rfl, h1, r1⟩ := trodAll_cons r0
  obtain ⟨rfl, rfl, rfl⟩ := trodAll_nil r1
  obtain rfl : args = #[v0, v1] := by cases args; simp_all
  obtain ⟨rfl, rfl⟩ := trodVars_none hV
  obtain ⟨w0, w1⟩ : (d0.weights Try.prog 32).all (· ≤ reachBytes) = true ∧ (d1.weights Try.prog 32).all (· ≤ reachBytes) = true := by
    simp only [List.cons_append, DataW.weightsEach, List.all_append, Bool.and_eq_true] at hsz
    exact ⟨hsz.1, hsz.2.1⟩
  obtain ⟨m0, t0⟩ := h0
  obtain ⟨m1, t1⟩ := h1
  refine (Vx.Seat.bytes2_calls rfl Vx.Seat.joins_spec (hval 0 32 v0 rfl rfl) (hval 1 32 v1 rfl rfl) t0 t1 w0 w1).mono fun e W' ⟨he, bel⟩ => ?_
  subst he
  have s0 : DataW.Trod enc Try.prog W' 0 (fun b => decide (b < W.heap.size)) true 32 v0 d0 p0 :=
    WideElems.Trod_stays laid rec32 lt32 ⟨m0, t0⟩ (fun x hx => bel.same (DataW.trod_lt m0 32 _ _ t0 x hx)) (fun x hx => decide_eq_true (DataW.trod_lt m0 32 _ _ t0 x hx))
  have s1 : DataW.Trod enc Try.prog W' 0 (fun b => decide (b < W.heap.size)) true 32 v1 d1 p1 :=
    WideElems.Trod_stays laid rec32 lt32 ⟨m1, t1⟩ (fun x hx => bel.same (DataW.trod_lt m1 32 _ _ t1 x hx)) (fun x hx => decide_eq_true (DataW.trod_lt m1 32 _ _ t1 x hx))
  exact ⟨_, rfl, _, _, _, [], _, [], hW', trodAll_mk1 (shut_bool Try.underlying4 _), (trodAll_cons_mk s0 (trodAll_cons_mk s1 trodAll_mk0)), rfl, bel.frame _, fun h => by cases h⟩
theorem over : Rows.ctreeJoinsRow.holds Try.pinned (OpenSpec.ofChange Rows.ctreeJoinsSpec) :=
  OpenClaim.holds_of_wide 6 Try.f6 rfl rfl rfl rfl rfl rfl rfl ⟨rfl, rfl, rfl, rfl, rfl⟩ rfl rfl rfl rfl rfl (by kernel_rfl) Try.func6 (by kernel_rfl)
    (of_decide_eq_true (by kernel_rfl)) (by unfold Func.isWrapper; first | (rw [if_pos (by decide +kernel)]; kernel_rfl) | (rw [if_neg (by decide +kernel)]; exact ⟨rfl, rfl⟩))
    (fun os started H enc _ => lifted os started H enc)
theorem proved : Rows.CtreeJoinsSaid := over
#print axioms proved
end Go.Proofs.Ytbndpenalacjaaa.ctreeJoins
namespace Go.Proofs.Ytbndpenalacjaaa
theorem ctreeJoins_holds : Rows.CtreeJoinsSaid := ctreeJoins.proved
end Go.Proofs.Ytbndpenalacjaaa
