/- Texts joined: VyLf VyLg VyLh VyLi VzY1 VzY2 VzR1. -/
import Derived.Test.YtmbonddknackiaaVm40
import Derived.Test.YtmbonddknackiaaVyGive
import Derived.Test.YtmbonddknackiaaVm38
import Derived.Test.YtmbonddknackiaaVm37
import Derived.Test.YtmbonddknackiaaVyLay1
import Derived.OpenShut
import Derived.Shelf.Vars
/- Numbers, read. -/
section
open Go Go.Vx Go.Proofs
set_option linter.unusedSimpArgs false
set_option linter.unusedVariables false
set_option maxRecDepth 10000
set_option maxHeartbeats 8000000
namespace Go.Vx.Seat
attribute [local congr] Rg_at Rt_at Ro_at Ri_at Rc_at Rto_at Rtk_at Rtf_at Rti_at
attribute [local irreducible] Rg Rt Ro Ri Rc Rto Rtk Rtf Rti Rw Rl Rd Rcall Rtcall kf
theorem fn103 : nth C1.P.funcs.toList 103 = some Try.f103 := by kernel_rfl
theorem decI_spec (x : Int) (h1 : -1000000000 ≤ x) (h2 : x ≤ 1000000000) : PCall C1 98 [yd (.int .i64 x)] fun y => ∃ s : ByteArray, y = yd (.string s) ∧ (strOf s).length ≤ x.natAbs + 2 := by
  by_cases h0 : 0 ≤ x
  · obtain ⟨n, rfl⟩ := Int.eq_ofNat_of_zero_le h0
    exact (dec_spec n (by omega)).mono fun y ⟨s, h3, h4⟩ => ⟨s, h3, by omega⟩
  · refine Pf (by rfl) (by rfl) fn98 (by rfl) ?_
    simp only [Try.f98, List.length_cons, List.length_nil, List.replicate, List.cons_append, List.nil_append]
    have t0 : leI 0 x = false := leI_false (by omega)
    have w0 : IntKind.wrap .i64 (0 - x) = ((x.natAbs : Nat) : Int) := by rw [IntKind.wrap_i64]; omega
    simp -implicitDefEqProofs only [↓yP, yT, Nat.reduceAdd, Nat.reduceMul, Nat.reduceSub, Nat.reduceLeDiff, Nat.reduceEqDiff, reduceCtorEq, Nat.reduceBEq, t0, w0]
    refine Rcall_pure (dec_spec x.natAbs (by omega)) (by rfl) fun y hy => ?_
    obtain ⟨s, rfl, hs⟩ := hy
    have b1 : (strOf ⟨#[45]⟩).length + (strOf s).length ≤ 140737488355328 := by
      have : (strOf ⟨#[45]⟩).length = 1 := rfl
      omega
    simp -implicitDefEqProofs only [↓yP, yT, Nat.reduceAdd, Nat.reduceMul, Nat.reduceSub, Nat.reduceLeDiff, Nat.reduceEqDiff, reduceCtorEq, Nat.reduceBEq, xstr_add, b1]
    exact ⟨_, rfl, by rw [strOf_mk, List.length_append]; have : (strOf ⟨#[45]⟩).length = 1 := rfl; omega⟩
abbrev nm (b : Bool) (d x : ByteArray) : List Ce := [.p (.d (.bool b)), .p (.d (.string d)), .p (.d (.string x))]
def NumR (y : YV) : Prop := ∃ (b : Bool) (d x : ByteArray) (ok : Bool), y = .tup [.agg (nm b d x), yd (.bool ok)]
theorem sl_len (s : ByteArray) (i k : Nat) : (strOf (strMk (((strOf s).drop i).take (k - i)))).length ≤ (strOf s).length := by
  rw [strOf_mk]; simp; omega
theorem readNum_spec (s : ByteArray) (hs : (strOf s).length ≤ 4000000) : PCall C1 103 [yd (.string s)] NumR := by
  have i00 : Int.toNat 0 = 0 := rfl
  refine Pf (by rfl) (by rfl) fn103 (by rfl) ?_
  simp only [Try.f103, List.length_cons, List.length_nil, List.replicate, List.cons_append, List.nil_append]
  simp -implicitDefEqProofs only [↓yP, yT, Nat.reduceAdd, Nat.reduceMul, Nat.reduceSub, Nat.reduceLeDiff, Nat.reduceEqDiff, reduceCtorEq, Nat.reduceBEq, opLen.eq_1, xindex.eq_1, xslice.eq_1, Int.toNat_natCast]
  refine Ri_cut (fun e st => ∃ (i : Nat) (neg : Bool), (∃ g : Nat → YV, e = [yd (.string s), g 1, .c (.ptr 0 0 0 0), g 3, yd (.int .i64 (i : Nat)), .c (.ptr 1 0 0 0), g 6, g 7, g 8, g 9, g 10, g 11, g 12, g 13, g 14, g 15, g 16, g 17, g 18, g 19, g 20, g 21, g 22, g 23, g 24, g 25, g 26, g 27, g 28, g 29, g 30, g 31, g 32, g 33, g 34, g 35, g 36, g 37, g 38, g 39, g 40, g 41, g 42, g 43, g 44, g 45, g 46, g 47, g 48, g 49, g 50, g 51, g 52, g 53, g 54, g 55, g 56, g 57, g 58, g 59, g 60, g 61, g 62, g 63, g 64, g 65, g 66, g 67, g 68, g 69, g 70, g 71, g 72, g 73, g 74, g 75, g 76, g 77, g 78, g 79, g 80, g 81, g 82, g 83, g 84, g 85, g 86, g 87, g 88, g 89, g 90, g 91, g 92, g 93, g 94, g 95, g 96, g 97, g 98, g 99, g 100, g 101, g 102, g 103, g 104, g 105, g 106, g 107, g 108, g 109, g 110, g 111, g 112, g 113, g 114, g 115, g 116, g 117, g 118, g 119, g 120, g 121, g 122, g 123, g 124, g 125, g 126, g 127, g 128, g 129, g 130, g 131, g 132, g 133, g 134, g 135, g 136, g 137, g 138, g 139, g 140, g 141, g 142, g 143, g 144, g 145, g 146, g 147, g 148, g 149, g 150, g 151, g 152, g 153, g 154, g 155, g 156, g 157, g 158, g 159, g 160, g 161, g 162, g 163, g 164, g 165, g 166, g 167, g 168, g 169, g 170, g 171, g 172, g 173, g 174, g 175, g 176, g 177]) ∧ st = [.box (nm false ⟨#[]⟩ ⟨#[]⟩), .box (nm neg ⟨#[]⟩ ⟨#[]⟩)] ∧ i ≤ (strOf s).length) ?_ ?_
  · have w01 : wrapK .i64 (0 + 1) = ((0 + 1 : Nat) : Int) := rfl
    by_cases h0 : 0 < (strOf s).length
    · obtain ⟨c, hc⟩ := get_lt h0
      have t1 : leI ((strOf s).length : Nat) 0 = false := leI_false (by omega)
      have c1 : (0 : Int) ≤ 0 := by omega
      cases h1 : eqI (c.toNat : Nat) 43 with
      | true =>
        cases h2 : eqI (c.toNat : Nat) 45
        all_goals
          simp -implicitDefEqProofs only [↓yP, yT, Nat.reduceAdd, Nat.reduceMul, Nat.reduceSub, Nat.reduceLeDiff, Nat.reduceEqDiff, reduceCtorEq, Nat.reduceBEq, opLen.eq_1, xindex.eq_1, xslice.eq_1, Int.toNat_natCast, t1, c1, hc, h1, h2, w01, ythen_n, i00]
          exact ⟨1, _, gs_mk rfl, rfl, by omega⟩
      | false =>
        cases h2 : eqI (c.toNat : Nat) 45 with
        | true =>
          simp -implicitDefEqProofs only [↓yP, yT, Nat.reduceAdd, Nat.reduceMul, Nat.reduceSub, Nat.reduceLeDiff, Nat.reduceEqDiff, reduceCtorEq, Nat.reduceBEq, opLen.eq_1, xindex.eq_1, xslice.eq_1, Int.toNat_natCast, t1, c1, hc, h1, h2, w01, ythen_n, i00]
          exact ⟨1, _, gs_mk rfl, rfl, by omega⟩
        | false =>
          simp -implicitDefEqProofs only [↓yP, yT, Nat.reduceAdd, Nat.reduceMul, Nat.reduceSub, Nat.reduceLeDiff, Nat.reduceEqDiff, reduceCtorEq, Nat.reduceBEq, opLen.eq_1, xindex.eq_1, xslice.eq_1, Int.toNat_natCast, t1, c1, hc, h1, h2, w01, ythen_n, i00]
          exact ⟨0, _, gs_mk rfl, rfl, by omega⟩
    · have t1 : leI ((strOf s).length : Nat) 0 = true := leI_true (by omega)
      simp -implicitDefEqProofs only [↓yP, yT, Nat.reduceAdd, Nat.reduceMul, Nat.reduceSub, Nat.reduceLeDiff, Nat.reduceEqDiff, reduceCtorEq, Nat.reduceBEq, opLen.eq_1, xindex.eq_1, xslice.eq_1, Int.toNat_natCast, t1, ythen_n]
      exact ⟨0, _, gs_mk rfl, rfl, by omega⟩
  rintro e st ⟨i, neg, ⟨g, rfl⟩, rfl, hi⟩
  simp -implicitDefEqProofs only [↓yP, yT, Nat.reduceAdd, Nat.reduceMul, Nat.reduceSub, Nat.reduceLeDiff, Nat.reduceEqDiff, reduceCtorEq, Nat.reduceBEq, opLen.eq_1, xindex.eq_1, xslice.eq_1, Int.toNat_natCast]
  refine Rcall_pure (run_spec s i (by omega) hi) (by rfl) fun y hy => ?_
  obtain ⟨k, rfl, hk1, hk2⟩ := hy
  have c1 : (0 : Int) ≤ (i : Nat) := by omega
  have c2 : ((i : Nat) : Int) ≤ (k : Nat) := by omega
  have c3 : ((k : Nat) : Int) ≤ ((strOf s).length : Nat) := by omega
  have hdl := sl_len s i k
  simp -implicitDefEqProofs only [↓yP, yT, Nat.reduceAdd, Nat.reduceMul, Nat.reduceSub, Nat.reduceLeDiff, Nat.reduceEqDiff, reduceCtorEq, Nat.reduceBEq, opLen.eq_1, xindex.eq_1, xslice.eq_1, Int.toNat_natCast, c1, c2, c3]
  generalize strMk (((strOf s).drop i).take (k - i)) = dd at hdl ⊢
  have w1 : wrapK .i64 ((k : Int) + 1) = ((k + 1 : Nat) : Int) := wrap_succ (by omega)
  refine Ri_cut (fun e st => ∃ (k : Nat) (part : ByteArray), (∃ g : Nat → YV, e = [yd (.string s), g 1, .c (.ptr 0 0 0 0), g 3, g 4, .c (.ptr 1 0 0 0), yd (.int .i64 (k : Nat)), yd (.string dd), yd (.string part), g 9, g 10, g 11, g 12, g 13, g 14, g 15, g 16, g 17, g 18, g 19, g 20, g 21, g 22, g 23, g 24, g 25, g 26, g 27, g 28, g 29, g 30, g 31, g 32, g 33, g 34, g 35, g 36, g 37, g 38, g 39, g 40, g 41, g 42, g 43, g 44, g 45, g 46, g 47, g 48, g 49, g 50, g 51, g 52, g 53, g 54, g 55, g 56, g 57, g 58, g 59, g 60, g 61, g 62, g 63, g 64, g 65, g 66, g 67, g 68, g 69, g 70, g 71, g 72, g 73, g 74, g 75, g 76, g 77, g 78, g 79, g 80, g 81, g 82, g 83, g 84, g 85, g 86, g 87, g 88, g 89, g 90, g 91, g 92, g 93, g 94, g 95, g 96, g 97, g 98, g 99, g 100, g 101, g 102, g 103, g 104, g 105, g 106, g 107, g 108, g 109, g 110, g 111, g 112, g 113, g 114, g 115, g 116, g 117, g 118, g 119, g 120, g 121, g 122, g 123, g 124, g 125, g 126, g 127, g 128, g 129, g 130, g 131, g 132, g 133, g 134, g 135, g 136, g 137, g 138, g 139, g 140, g 141, g 142, g 143, g 144, g 145, g 146, g 147, g 148, g 149, g 150, g 151, g 152, g 153, g 154, g 155, g 156, g 157, g 158, g 159, g 160, g 161, g 162, g 163, g 164, g 165, g 166, g 167, g 168, g 169, g 170, g 171, g 172, g 173, g 174, g 175, g 176, g 177]) ∧ st = [.box (nm false ⟨#[]⟩ ⟨#[]⟩), .box (nm neg ⟨#[]⟩ ⟨#[]⟩)] ∧ k ≤ (strOf s).length ∧ (strOf part).length ≤ (strOf s).length) ?_ ?_
  · by_cases h0 : k < (strOf s).length
    · obtain ⟨c, hc⟩ := get_lt h0
      have t1 : leI ((strOf s).length : Nat) (k : Nat) = false := leI_false (by omega)
      have c4 : (0 : Int) ≤ (k : Nat) := by omega
      cases h1 : eqI (c.toNat : Nat) 46 with
      | false =>
        simp -implicitDefEqProofs only [↓yP, yT, Nat.reduceAdd, Nat.reduceMul, Nat.reduceSub, Nat.reduceLeDiff, Nat.reduceEqDiff, reduceCtorEq, Nat.reduceBEq, opLen.eq_1, xindex.eq_1, xslice.eq_1, Int.toNat_natCast, t1, c4, hc, h1, ythen_n]
        exact ⟨k, ⟨#[]⟩, gs_mk rfl, by omega, by show 0 ≤ (strOf s).length; omega⟩
      | true =>
        simp -implicitDefEqProofs only [↓yP, yT, Nat.reduceAdd, Nat.reduceMul, Nat.reduceSub, Nat.reduceLeDiff, Nat.reduceEqDiff, reduceCtorEq, Nat.reduceBEq, opLen.eq_1, xindex.eq_1, xslice.eq_1, Int.toNat_natCast, t1, c4, hc, h1, w1]
        refine Rcall_pure (run_spec s (k + 1) (by omega) (by omega)) (by rfl) fun y hy => ?_
        obtain ⟨j, rfl, hj1, hj2⟩ := hy
        have c5 : (0 : Int) ≤ ((k + 1 : Nat) : Int) := by omega
        have c6 : ((k + 1 : Nat) : Int) ≤ (j : Nat) := by omega
        have c7 : ((j : Nat) : Int) ≤ ((strOf s).length : Nat) := by omega
        have hpl := sl_len s (k + 1) j
        simp -implicitDefEqProofs only [↓yP, yT, Nat.reduceAdd, Nat.reduceMul, Nat.reduceSub, Nat.reduceLeDiff, Nat.reduceEqDiff, reduceCtorEq, Nat.reduceBEq, opLen.eq_1, xindex.eq_1, xslice.eq_1, Int.toNat_natCast, w1, c5, c6, c7, xstr_eql]
        generalize strMk (((strOf s).drop (k + 1)).take (j - (k + 1))) = part at hpl ⊢
        cases h2 : (strOf part == strOf ⟨#[]⟩) with
        | true =>
          simp -implicitDefEqProofs only [↓yP, yT, Nat.reduceAdd, Nat.reduceMul, Nat.reduceSub, Nat.reduceLeDiff, Nat.reduceEqDiff, reduceCtorEq, Nat.reduceBEq, h2, Nat.reduceLT]
          exact ⟨_, _, _, _, rfl⟩
        | false =>
          simp -implicitDefEqProofs only [↓yP, yT, Nat.reduceAdd, Nat.reduceMul, Nat.reduceSub, Nat.reduceLeDiff, Nat.reduceEqDiff, reduceCtorEq, Nat.reduceBEq, h2, ythen_n]
          exact ⟨j, part, gs_mk rfl, hj2, hpl⟩
    · have t1 : leI ((strOf s).length : Nat) (k : Nat) = true := leI_true (by omega)
      simp -implicitDefEqProofs only [↓yP, yT, Nat.reduceAdd, Nat.reduceMul, Nat.reduceSub, Nat.reduceLeDiff, Nat.reduceEqDiff, reduceCtorEq, Nat.reduceBEq, opLen.eq_1, xindex.eq_1, xslice.eq_1, Int.toNat_natCast, t1, ythen_n]
      exact ⟨k, ⟨#[]⟩, gs_mk rfl, by omega, by show 0 ≤ (strOf s).length; omega⟩
  clear w1 c1 c2 c3 hk1 hk2 hi k i
  rintro e st ⟨k, part, ⟨g, rfl⟩, rfl, hk, hpl⟩
  have b1 : (strOf dd).length + (strOf part).length ≤ 140737488355328 := by omega
  cases h2 : (strOf (strMk (strOf dd ++ strOf part)) == strOf ⟨#[]⟩) with
  | true =>
    simp -implicitDefEqProofs only [↓yP, yT, Nat.reduceAdd, Nat.reduceMul, Nat.reduceSub, Nat.reduceLeDiff, Nat.reduceEqDiff, reduceCtorEq, Nat.reduceBEq, opLen.eq_1, xindex.eq_1, xslice.eq_1, Int.toNat_natCast, xstr_add, b1, xstr_eql, h2]
    exact ⟨_, _, _, _, rfl⟩
  | false =>
  simp -implicitDefEqProofs only [↓yP, yT, Nat.reduceAdd, Nat.reduceMul, Nat.reduceSub, Nat.reduceLeDiff, Nat.reduceEqDiff, reduceCtorEq, Nat.reduceBEq, opLen.eq_1, xindex.eq_1, xslice.eq_1, Int.toNat_natCast, xstr_add, b1, xstr_eql, h2]
  have w1 : wrapK .i64 ((k : Int) + 1) = ((k + 1 : Nat) : Int) := wrap_succ (by omega)
  refine Ri_cut (fun e st => ∃ (k : Nat) (ex : ByteArray), (∃ g : Nat → YV, e = [yd (.string s), g 1, .c (.ptr 0 0 0 0), g 3, g 4, .c (.ptr 1 0 0 0), yd (.int .i64 (k : Nat)), yd (.string dd), yd (.string part), g 9, yd (.string ex), g 11, g 12, g 13, g 14, g 15, g 16, g 17, g 18, g 19, g 20, g 21, g 22, g 23, g 24, g 25, g 26, g 27, g 28, g 29, g 30, g 31, g 32, g 33, g 34, g 35, g 36, g 37, g 38, g 39, g 40, g 41, g 42, g 43, g 44, g 45, g 46, g 47, g 48, g 49, g 50, g 51, g 52, g 53, g 54, g 55, g 56, g 57, g 58, g 59, g 60, g 61, g 62, g 63, g 64, g 65, g 66, g 67, g 68, g 69, g 70, g 71, g 72, g 73, g 74, g 75, g 76, g 77, g 78, g 79, g 80, g 81, g 82, g 83, g 84, g 85, g 86, g 87, g 88, g 89, g 90, g 91, g 92, g 93, g 94, g 95, g 96, g 97, g 98, g 99, g 100, g 101, g 102, g 103, g 104, g 105, g 106, g 107, g 108, g 109, g 110, g 111, g 112, g 113, g 114, g 115, g 116, g 117, g 118, g 119, g 120, g 121, g 122, g 123, g 124, g 125, g 126, g 127, g 128, g 129, g 130, g 131, g 132, g 133, g 134, g 135, g 136, g 137, g 138, g 139, g 140, g 141, g 142, g 143, g 144, g 145, g 146, g 147, g 148, g 149, g 150, g 151, g 152, g 153, g 154, g 155, g 156, g 157, g 158, g 159, g 160, g 161, g 162, g 163, g 164, g 165, g 166, g 167, g 168, g 169, g 170, g 171, g 172, g 173, g 174, g 175, g 176, g 177]) ∧ st = [.box (nm false ⟨#[]⟩ ⟨#[]⟩), .box (nm neg ⟨#[]⟩ ⟨#[]⟩)] ∧ k ≤ (strOf s).length ∧ (strOf ex).length ≤ (strOf s).length + 1) ?_ ?_
  · by_cases h0 : k < (strOf s).length
    · obtain ⟨c, hc⟩ := get_lt h0
      have t1 : leI ((strOf s).length : Nat) (k : Nat) = false := leI_false (by omega)
      have c4 : (0 : Int) ≤ (k : Nat) := by omega
      cases h1 : eqI (c.toNat : Nat) 101 with
      | true =>
        simp -implicitDefEqProofs only [↓yP, yT, Nat.reduceAdd, Nat.reduceMul, Nat.reduceSub, Nat.reduceLeDiff, Nat.reduceEqDiff, reduceCtorEq, Nat.reduceBEq, opLen.eq_1, xindex.eq_1, xslice.eq_1, Int.toNat_natCast, t1, c4, hc, h1, w1]
        refine Ri_cut (fun e st => ∃ (k2 : Nat) (mi : Bool), (∃ g : Nat → YV, e = [yd (.string s), g 1, .c (.ptr 0 0 0 0), g 3, g 4, .c (.ptr 1 0 0 0), yd (.int .i64 (k2 : Nat)), yd (.string dd), yd (.string part), g 9, g 10, yd (.bool mi), g 12, g 13, g 14, g 15, g 16, g 17, g 18, g 19, g 20, g 21, g 22, g 23, g 24, g 25, g 26, g 27, g 28, g 29, g 30, g 31, g 32, g 33, g 34, g 35, g 36, g 37, g 38, g 39, g 40, g 41, g 42, g 43, g 44, g 45, g 46, g 47, g 48, g 49, g 50, g 51, g 52, g 53, g 54, g 55, g 56, g 57, g 58, g 59, g 60, g 61, g 62, g 63, g 64, g 65, g 66, g 67, g 68, g 69, g 70, g 71, g 72, g 73, g 74, g 75, g 76, g 77, g 78, g 79, g 80, g 81, g 82, g 83, g 84, g 85, g 86, g 87, g 88, g 89, g 90, g 91, g 92, g 93, g 94, g 95, g 96, g 97, g 98, g 99, g 100, g 101, g 102, g 103, g 104, g 105, g 106, g 107, g 108, g 109, g 110, g 111, g 112, g 113, g 114, g 115, g 116, g 117, g 118, g 119, g 120, g 121, g 122, g 123, g 124, g 125, g 126, g 127, g 128, g 129, g 130, g 131, g 132, g 133, g 134, g 135, g 136, g 137, g 138, g 139, g 140, g 141, g 142, g 143, g 144, g 145, g 146, g 147, g 148, g 149, g 150, g 151, g 152, g 153, g 154, g 155, g 156, g 157, g 158, g 159, g 160, g 161, g 162, g 163, g 164, g 165, g 166, g 167, g 168, g 169, g 170, g 171, g 172, g 173, g 174, g 175, g 176, g 177]) ∧ st = [.box (nm false ⟨#[]⟩ ⟨#[]⟩), .box (nm neg ⟨#[]⟩ ⟨#[]⟩)] ∧ k2 ≤ (strOf s).length) ?_ ?_
        · clear t1 c4 hc
          have w2 : wrapK .i64 (((k + 1 : Nat) : Int) + 1) = ((k + 2 : Nat) : Int) := wrap_succ (by omega)
          by_cases h3 : k + 1 < (strOf s).length
          · obtain ⟨c, hc⟩ := get_lt h3
            have t1 : leI ((strOf s).length : Nat) ((k + 1 : Nat) : Int) = false := leI_false (by omega)
            have c1 : (0 : Int) ≤ ((k + 1 : Nat) : Int) := by omega
            cases h1 : eqI (c.toNat : Nat) 43 with
            | true =>
              cases h2 : eqI (c.toNat : Nat) 45
              all_goals
                simp -implicitDefEqProofs only [↓yP, yT, Nat.reduceAdd, Nat.reduceMul, Nat.reduceSub, Nat.reduceLeDiff, Nat.reduceEqDiff, reduceCtorEq, Nat.reduceBEq, opLen.eq_1, xindex.eq_1, xslice.eq_1, Int.toNat_natCast, t1, c1, hc, h1, h2, w2, ythen_n]
                exact ⟨k + 2, _, gs_mk rfl, by omega⟩
            | false =>
              cases h2 : eqI (c.toNat : Nat) 45 with
              | true =>
                simp -implicitDefEqProofs only [↓yP, yT, Nat.reduceAdd, Nat.reduceMul, Nat.reduceSub, Nat.reduceLeDiff, Nat.reduceEqDiff, reduceCtorEq, Nat.reduceBEq, opLen.eq_1, xindex.eq_1, xslice.eq_1, Int.toNat_natCast, t1, c1, hc, h1, h2, w2, ythen_n]
                exact ⟨k + 2, _, gs_mk rfl, by omega⟩
              | false =>
                simp -implicitDefEqProofs only [↓yP, yT, Nat.reduceAdd, Nat.reduceMul, Nat.reduceSub, Nat.reduceLeDiff, Nat.reduceEqDiff, reduceCtorEq, Nat.reduceBEq, opLen.eq_1, xindex.eq_1, xslice.eq_1, Int.toNat_natCast, t1, c1, hc, h1, h2, ythen_n]
                exact ⟨k + 1, _, gs_mk rfl, by omega⟩
          · have t1 : leI ((strOf s).length : Nat) ((k + 1 : Nat) : Int) = true := leI_true (by omega)
            simp -implicitDefEqProofs only [↓yP, yT, Nat.reduceAdd, Nat.reduceMul, Nat.reduceSub, Nat.reduceLeDiff, Nat.reduceEqDiff, reduceCtorEq, Nat.reduceBEq, opLen.eq_1, xindex.eq_1, xslice.eq_1, Int.toNat_natCast, t1, ythen_n]
            exact ⟨k + 1, _, gs_mk rfl, by omega⟩
        rintro e st ⟨k2, mi, ⟨g, rfl⟩, rfl, hk2⟩
        simp -implicitDefEqProofs only [↓yP, yT, Nat.reduceAdd, Nat.reduceMul, Nat.reduceSub, Nat.reduceLeDiff, Nat.reduceEqDiff, reduceCtorEq, Nat.reduceBEq, opLen.eq_1, xindex.eq_1, xslice.eq_1, Int.toNat_natCast]
        refine Rcall_pure (run_spec s k2 (by omega) hk2) (by rfl) fun y hy => ?_
        obtain ⟨j, rfl, hj1, hj2⟩ := hy
        have c5 : (0 : Int) ≤ ((k2 : Nat) : Int) := by omega
        have c6 : ((k2 : Nat) : Int) ≤ (j : Nat) := by omega
        have c7 : ((j : Nat) : Int) ≤ ((strOf s).length : Nat) := by omega
        have hpl := sl_len s k2 j
        cases h7 : eqI (j : Nat) (k2 : Nat) with
        | true =>
          simp -implicitDefEqProofs only [↓yP, yT, Nat.reduceAdd, Nat.reduceMul, Nat.reduceSub, Nat.reduceLeDiff, Nat.reduceEqDiff, reduceCtorEq, Nat.reduceBEq, opLen.eq_1, xindex.eq_1, xslice.eq_1, Int.toNat_natCast, h7, Nat.reduceLT]
          exact ⟨_, _, _, _, rfl⟩
        | false =>
          simp -implicitDefEqProofs only [↓yP, yT, Nat.reduceAdd, Nat.reduceMul, Nat.reduceSub, Nat.reduceLeDiff, Nat.reduceEqDiff, reduceCtorEq, Nat.reduceBEq, opLen.eq_1, xindex.eq_1, xslice.eq_1, Int.toNat_natCast, h7, c5, c6, c7]
          refine Rcall_pure (stripped_spec _ (by omega)) (by rfl) fun y hy => ?_
          obtain ⟨ex, rfl, hex⟩ := hy
          cases mi with
          | false =>
            simp -implicitDefEqProofs only [↓yP, yT, Nat.reduceAdd, Nat.reduceMul, Nat.reduceSub, Nat.reduceLeDiff, Nat.reduceEqDiff, reduceCtorEq, Nat.reduceBEq, opLen.eq_1, xindex.eq_1, xslice.eq_1, Int.toNat_natCast, ythen_n]
            exact ⟨j, ex, gs_mk rfl, hj2, by omega⟩
          | true =>
            cases h8 : (strOf ex == strOf ⟨#[48]⟩) with
            | true =>
              simp -implicitDefEqProofs only [↓yP, yT, Nat.reduceAdd, Nat.reduceMul, Nat.reduceSub, Nat.reduceLeDiff, Nat.reduceEqDiff, reduceCtorEq, Nat.reduceBEq, opLen.eq_1, xindex.eq_1, xslice.eq_1, Int.toNat_natCast, xstr_neq, h8, ythen_n]
              exact ⟨j, ex, gs_mk rfl, hj2, by omega⟩
            | false =>
              have b3 : (strOf ⟨#[45]⟩).length + (strOf ex).length ≤ 140737488355328 := by
                have : (strOf ⟨#[45]⟩).length = 1 := rfl
                omega
              simp -implicitDefEqProofs only [↓yP, yT, Nat.reduceAdd, Nat.reduceMul, Nat.reduceSub, Nat.reduceLeDiff, Nat.reduceEqDiff, reduceCtorEq, Nat.reduceBEq, opLen.eq_1, xindex.eq_1, xslice.eq_1, Int.toNat_natCast, xstr_neq, h8, xstr_add, b3, ythen_n]
              exact ⟨j, _, gs_mk rfl, hj2, by rw [strOf_mk, List.length_append]; have : (strOf ⟨#[45]⟩).length = 1 := rfl; omega⟩
      | false =>
        cases h2 : eqI (c.toNat : Nat) 69 with
        | true =>
          simp -implicitDefEqProofs only [↓yP, yT, Nat.reduceAdd, Nat.reduceMul, Nat.reduceSub, Nat.reduceLeDiff, Nat.reduceEqDiff, reduceCtorEq, Nat.reduceBEq, opLen.eq_1, xindex.eq_1, xslice.eq_1, Int.toNat_natCast, t1, c4, hc, h1, h2, w1]
          refine Ri_cut (fun e st => ∃ (k2 : Nat) (mi : Bool), (∃ g : Nat → YV, e = [yd (.string s), g 1, .c (.ptr 0 0 0 0), g 3, g 4, .c (.ptr 1 0 0 0), yd (.int .i64 (k2 : Nat)), yd (.string dd), yd (.string part), g 9, g 10, yd (.bool mi), g 12, g 13, g 14, g 15, g 16, g 17, g 18, g 19, g 20, g 21, g 22, g 23, g 24, g 25, g 26, g 27, g 28, g 29, g 30, g 31, g 32, g 33, g 34, g 35, g 36, g 37, g 38, g 39, g 40, g 41, g 42, g 43, g 44, g 45, g 46, g 47, g 48, g 49, g 50, g 51, g 52, g 53, g 54, g 55, g 56, g 57, g 58, g 59, g 60, g 61, g 62, g 63, g 64, g 65, g 66, g 67, g 68, g 69, g 70, g 71, g 72, g 73, g 74, g 75, g 76, g 77, g 78, g 79, g 80, g 81, g 82, g 83, g 84, g 85, g 86, g 87, g 88, g 89, g 90, g 91, g 92, g 93, g 94, g 95, g 96, g 97, g 98, g 99, g 100, g 101, g 102, g 103, g 104, g 105, g 106, g 107, g 108, g 109, g 110, g 111, g 112, g 113, g 114, g 115, g 116, g 117, g 118, g 119, g 120, g 121, g 122, g 123, g 124, g 125, g 126, g 127, g 128, g 129, g 130, g 131, g 132, g 133, g 134, g 135, g 136, g 137, g 138, g 139, g 140, g 141, g 142, g 143, g 144, g 145, g 146, g 147, g 148, g 149, g 150, g 151, g 152, g 153, g 154, g 155, g 156, g 157, g 158, g 159, g 160, g 161, g 162, g 163, g 164, g 165, g 166, g 167, g 168, g 169, g 170, g 171, g 172, g 173, g 174, g 175, g 176, g 177]) ∧ st = [.box (nm false ⟨#[]⟩ ⟨#[]⟩), .box (nm neg ⟨#[]⟩ ⟨#[]⟩)] ∧ k2 ≤ (strOf s).length) ?_ ?_
          · clear t1 c4 hc
            have w2 : wrapK .i64 (((k + 1 : Nat) : Int) + 1) = ((k + 2 : Nat) : Int) := wrap_succ (by omega)
            by_cases h3 : k + 1 < (strOf s).length
            · obtain ⟨c, hc⟩ := get_lt h3
              have t1 : leI ((strOf s).length : Nat) ((k + 1 : Nat) : Int) = false := leI_false (by omega)
              have c1 : (0 : Int) ≤ ((k + 1 : Nat) : Int) := by omega
              cases h1 : eqI (c.toNat : Nat) 43 with
              | true =>
                cases h2 : eqI (c.toNat : Nat) 45
                all_goals
                  simp -implicitDefEqProofs only [↓yP, yT, Nat.reduceAdd, Nat.reduceMul, Nat.reduceSub, Nat.reduceLeDiff, Nat.reduceEqDiff, reduceCtorEq, Nat.reduceBEq, opLen.eq_1, xindex.eq_1, xslice.eq_1, Int.toNat_natCast, t1, c1, hc, h1, h2, w2, ythen_n]
                  exact ⟨k + 2, _, gs_mk rfl, by omega⟩
              | false =>
                cases h2 : eqI (c.toNat : Nat) 45 with
                | true =>
                  simp -implicitDefEqProofs only [↓yP, yT, Nat.reduceAdd, Nat.reduceMul, Nat.reduceSub, Nat.reduceLeDiff, Nat.reduceEqDiff, reduceCtorEq, Nat.reduceBEq, opLen.eq_1, xindex.eq_1, xslice.eq_1, Int.toNat_natCast, t1, c1, hc, h1, h2, w2, ythen_n]
                  exact ⟨k + 2, _, gs_mk rfl, by omega⟩
                | false =>
                  simp -implicitDefEqProofs only [↓yP, yT, Nat.reduceAdd, Nat.reduceMul, Nat.reduceSub, Nat.reduceLeDiff, Nat.reduceEqDiff, reduceCtorEq, Nat.reduceBEq, opLen.eq_1, xindex.eq_1, xslice.eq_1, Int.toNat_natCast, t1, c1, hc, h1, h2, ythen_n]
                  exact ⟨k + 1, _, gs_mk rfl, by omega⟩
            · have t1 : leI ((strOf s).length : Nat) ((k + 1 : Nat) : Int) = true := leI_true (by omega)
              simp -implicitDefEqProofs only [↓yP, yT, Nat.reduceAdd, Nat.reduceMul, Nat.reduceSub, Nat.reduceLeDiff, Nat.reduceEqDiff, reduceCtorEq, Nat.reduceBEq, opLen.eq_1, xindex.eq_1, xslice.eq_1, Int.toNat_natCast, t1, ythen_n]
              exact ⟨k + 1, _, gs_mk rfl, by omega⟩
          rintro e st ⟨k2, mi, ⟨g, rfl⟩, rfl, hk2⟩
          simp -implicitDefEqProofs only [↓yP, yT, Nat.reduceAdd, Nat.reduceMul, Nat.reduceSub, Nat.reduceLeDiff, Nat.reduceEqDiff, reduceCtorEq, Nat.reduceBEq, opLen.eq_1, xindex.eq_1, xslice.eq_1, Int.toNat_natCast]
          refine Rcall_pure (run_spec s k2 (by omega) hk2) (by rfl) fun y hy => ?_
          obtain ⟨j, rfl, hj1, hj2⟩ := hy
          have c5 : (0 : Int) ≤ ((k2 : Nat) : Int) := by omega
          have c6 : ((k2 : Nat) : Int) ≤ (j : Nat) := by omega
          have c7 : ((j : Nat) : Int) ≤ ((strOf s).length : Nat) := by omega
          have hpl := sl_len s k2 j
          cases h7 : eqI (j : Nat) (k2 : Nat) with
          | true =>
            simp -implicitDefEqProofs only [↓yP, yT, Nat.reduceAdd, Nat.reduceMul, Nat.reduceSub, Nat.reduceLeDiff, Nat.reduceEqDiff, reduceCtorEq, Nat.reduceBEq, opLen.eq_1, xindex.eq_1, xslice.eq_1, Int.toNat_natCast, h7, Nat.reduceLT]
            exact ⟨_, _, _, _, rfl⟩
          | false =>
            simp -implicitDefEqProofs only [↓yP, yT, Nat.reduceAdd, Nat.reduceMul, Nat.reduceSub, Nat.reduceLeDiff, Nat.reduceEqDiff, reduceCtorEq, Nat.reduceBEq, opLen.eq_1, xindex.eq_1, xslice.eq_1, Int.toNat_natCast, h7, c5, c6, c7]
            refine Rcall_pure (stripped_spec _ (by omega)) (by rfl) fun y hy => ?_
            obtain ⟨ex, rfl, hex⟩ := hy
            cases mi with
            | false =>
              simp -implicitDefEqProofs only [↓yP, yT, Nat.reduceAdd, Nat.reduceMul, Nat.reduceSub, Nat.reduceLeDiff, Nat.reduceEqDiff, reduceCtorEq, Nat.reduceBEq, opLen.eq_1, xindex.eq_1, xslice.eq_1, Int.toNat_natCast, ythen_n]
              exact ⟨j, ex, gs_mk rfl, hj2, by omega⟩
            | true =>
              cases h8 : (strOf ex == strOf ⟨#[48]⟩) with
              | true =>
                simp -implicitDefEqProofs only [↓yP, yT, Nat.reduceAdd, Nat.reduceMul, Nat.reduceSub, Nat.reduceLeDiff, Nat.reduceEqDiff, reduceCtorEq, Nat.reduceBEq, opLen.eq_1, xindex.eq_1, xslice.eq_1, Int.toNat_natCast, xstr_neq, h8, ythen_n]
                exact ⟨j, ex, gs_mk rfl, hj2, by omega⟩
              | false =>
                have b3 : (strOf ⟨#[45]⟩).length + (strOf ex).length ≤ 140737488355328 := by
                  have : (strOf ⟨#[45]⟩).length = 1 := rfl
                  omega
                simp -implicitDefEqProofs only [↓yP, yT, Nat.reduceAdd, Nat.reduceMul, Nat.reduceSub, Nat.reduceLeDiff, Nat.reduceEqDiff, reduceCtorEq, Nat.reduceBEq, opLen.eq_1, xindex.eq_1, xslice.eq_1, Int.toNat_natCast, xstr_neq, h8, xstr_add, b3, ythen_n]
                exact ⟨j, _, gs_mk rfl, hj2, by rw [strOf_mk, List.length_append]; have : (strOf ⟨#[45]⟩).length = 1 := rfl; omega⟩
        | false =>
          simp -implicitDefEqProofs only [↓yP, yT, Nat.reduceAdd, Nat.reduceMul, Nat.reduceSub, Nat.reduceLeDiff, Nat.reduceEqDiff, reduceCtorEq, Nat.reduceBEq, opLen.eq_1, xindex.eq_1, xslice.eq_1, Int.toNat_natCast, t1, c4, hc, h1, h2, ythen_n]
          exact ⟨k, _, gs_mk rfl, by omega, by show 1 ≤ _; omega⟩
    · have t1 : leI ((strOf s).length : Nat) (k : Nat) = true := leI_true (by omega)
      simp -implicitDefEqProofs only [↓yP, yT, Nat.reduceAdd, Nat.reduceMul, Nat.reduceSub, Nat.reduceLeDiff, Nat.reduceEqDiff, reduceCtorEq, Nat.reduceBEq, opLen.eq_1, xindex.eq_1, xslice.eq_1, Int.toNat_natCast, t1, ythen_n]
      exact ⟨k, _, gs_mk rfl, by omega, by show 1 ≤ _; omega⟩
  clear w1 k hk
  rintro e st ⟨k, ex, ⟨g, rfl⟩, rfl, hk, hel⟩
  by_cases hkl : k = (strOf s).length
  · have t1 : eqI (k : Nat) ((strOf s).length : Nat) = true := by rw [hkl]; exact eqI_true _
    have wx : IntKind.wrap .i64 (0 - ((strOf part).length : Nat)) = 0 - ((strOf part).length : Nat) := by rw [IntKind.wrap_i64]; omega
    simp -implicitDefEqProofs only [↓yP, yT, Nat.reduceAdd, Nat.reduceMul, Nat.reduceSub, Nat.reduceLeDiff, Nat.reduceEqDiff, reduceCtorEq, Nat.reduceBEq, opLen.eq_1, xindex.eq_1, xslice.eq_1, Int.toNat_natCast, t1, xstr_add, b1]
    refine Rcall_pure (stripped_spec _ (by rw [strOf_mk, List.length_append]; omega)) (by rfl) fun y hy => ?_
    obtain ⟨al, rfl, hal⟩ := hy
    rw [strOf_mk, List.length_append] at hal
    simp -implicitDefEqProofs only [↓yP, yT, Nat.reduceAdd, Nat.reduceMul, Nat.reduceSub, Nat.reduceLeDiff, Nat.reduceEqDiff, reduceCtorEq, Nat.reduceBEq, opLen.eq_1, xindex.eq_1, xslice.eq_1, Int.toNat_natCast, wx]
    refine Rl_inv (fun d e st => ∃ (al : ByteArray) (x : Int), e = ([.c .top, .c .top, .c (.ptr 0 0 0 0), .c .top, .c .top, .c (.ptr 1 0 0 0), .c .top, .c .top, .c .top, .c .top, yd (.string ex), .c .top, .c .top, yd (.string al), yd (.int .i64 x), .c .top, .c .top, .c .top, .c .top, .c .top, .c .top, .c .top, .c .top, .c .top, .c .top, .c .top, .c .top, .c .top, .c .top, .c .top, .c .top, .c .top, .c .top, .c .top, .c .top, .c .top, .c .top, .c .top, .c .top, .c .top, .c .top, .c .top, .c .top, .c .top, .c .top, .c .top, .c .top, .c .top, .c .top, .c .top, .c .top, .c .top, .c .top, .c .top, .c .top, .c .top, .c .top, .c .top, .c .top, .c .top, .c .top, .c .top, .c .top, .c .top, .c .top, .c .top, .c .top, .c .top, .c .top, .c .top, .c .top, .c .top, .c .top, .c .top, .c .top, .c .top, .c .top, .c .top, .c .top, .c .top, .c .top, .c .top, .c .top, .c .top, .c .top, .c .top, .c .top, .c .top, .c .top, .c .top, .c .top, .c .top, .c .top, .c .top, .c .top, .c .top, .c .top, .c .top, .c .top, .c .top, .c .top, .c .top, .c .top, .c .top, .c .top, .c .top, .c .top, .c .top, .c .top, .c .top, .c .top, .c .top, .c .top, .c .top, .c .top, .c .top, .c .top, .c .top, .c .top, .c .top, .c .top, .c .top, .c .top, .c .top, .c .top, .c .top, .c .top, .c .top, .c .top, .c .top, .c .top, .c .top, .c .top, .c .top, .c .top, .c .top, .c .top, .c .top, .c .top, .c .top, .c .top, .c .top, .c .top, .c .top, .c .top, .c .top, .c .top, .c .top, .c .top, .c .top, .c .top, .c .top, .c .top, .c .top, .c .top, .c .top, .c .top, .c .top, .c .top, .c .top, .c .top, .c .top, .c .top, .c .top, .c .top, .c .top, .c .top, .c .top, .c .top, .c .top, .c .top, .c .top, .c .top, .c .top, .c .top, .c .top, .c .top, .c .top]) ∧ st = [.box (nm false ⟨#[]⟩ ⟨#[]⟩), .box (nm neg ⟨#[]⟩ ⟨#[]⟩)] ∧ d = (strOf al).length ∧ -5000000 ≤ x ∧ x + (strOf al).length ≤ 10000000) [false, false, true, false, false, true, false, false, false, false, true, false, false, true, true] (strOf al).length [0, 1] (by decide) (pinned_zero _) ⟨al, _, by (simp only [yE, Nat.reduceEqDiff, Nat.reduceAdd, reduceCtorEq]; try rfl), by (simp only [yE, Nat.reduceEqDiff, Nat.reduceAdd, reduceCtorEq]; try rfl), rfl, by omega, by omega⟩ ?_
    clear hal al
    rintro d e st ⟨al, x, rfl, rfl, rfl, hx1, hx2⟩
    by_cases ha : 0 < (strOf al).length
    · have t2 : leI ((strOf al).length : Nat) 0 = false := leI_false (by omega)
      have w2 : wrapK .i64 (((strOf al).length : Nat) - 1) = (((strOf al).length - 1 : Nat) : Int) := wrap_pred (by omega) (by omega)
      have c2 : (0 : Int) ≤ (((strOf al).length - 1 : Nat) : Int) := by omega
      have c0 : (0 : Int) ≤ 0 := by omega
      have c3 : (((strOf al).length - 1 : Nat) : Int) ≤ ((strOf al).length : Nat) := by omega
      have w3 : wrapK .i64 (x + 1) = x + 1 := wrap_int (by omega) (by omega)
      obtain ⟨c, hc⟩ := get_lt (show (strOf al).length - 1 < (strOf al).length by omega)
      cases h1 : eqI (c.toNat : Nat) 48 with
      | true =>
        simp -implicitDefEqProofs only [↓yP, yT, Nat.reduceAdd, Nat.reduceMul, Nat.reduceSub, Nat.reduceLeDiff, Nat.reduceEqDiff, reduceCtorEq, Nat.reduceBEq, opLen.eq_1, xindex.eq_1, xslice.eq_1, Int.toNat_natCast, t2, w2, c2, c0, c3, hc, h1, w3, i00]
        refine ⟨(strOf al).length - 1, [0, 1], by omega, by decide, pinned_zero _, _, _, by (simp only [yE, Nat.reduceEqDiff, Nat.reduceAdd, reduceCtorEq]; try rfl), by (simp only [yE, Nat.reduceEqDiff, Nat.reduceAdd, reduceCtorEq]; try rfl), ?_, by omega, ?_⟩
        · rw [strOf_mk]; simp
        · rw [strOf_mk]; simp; omega
      | false =>
        have hne : (strOf al == strOf ⟨#[]⟩) = false := by
          rw [beq_eq_false_iff_ne]; intro h; rw [h] at ha; exact absurd ha (by decide)
        simp -implicitDefEqProofs only [↓yP, yT, Nat.reduceAdd, Nat.reduceMul, Nat.reduceSub, Nat.reduceLeDiff, Nat.reduceEqDiff, reduceCtorEq, Nat.reduceBEq, opLen.eq_1, xindex.eq_1, xslice.eq_1, Int.toNat_natCast, t2, w2, c2, c0, hc, h1, xstr_eql, hne, Nat.reduceLT]
        refine Rcall_pure (decI_spec x (by omega) (by omega)) (by rfl) fun y hy => ?_
        obtain ⟨z, rfl, hz⟩ := hy
        simp -implicitDefEqProofs only [↓yP, yT, Nat.reduceAdd, Nat.reduceMul, Nat.reduceSub, Nat.reduceLeDiff, Nat.reduceEqDiff, reduceCtorEq, Nat.reduceBEq]
        refine Rcall_pure (add_spec ex z (by omega) (by omega)) (by rfl) fun y hy => ?_
        obtain ⟨z2, ok, rfl⟩ := hy
        simp -implicitDefEqProofs only [↓yP, yT, Nat.reduceAdd, Nat.reduceMul, Nat.reduceSub, Nat.reduceLeDiff, Nat.reduceEqDiff, reduceCtorEq, Nat.reduceBEq, Nat.reduceLT]
        exact ⟨_, _, _, _, rfl⟩
    · have t2 : leI ((strOf al).length : Nat) 0 = true := leI_true (by omega)
      have hnil : strOf al = [] := List.eq_nil_of_length_eq_zero (by omega)
      have hne : (strOf al == strOf ⟨#[]⟩) = true := by rw [hnil]; rfl
      simp -implicitDefEqProofs only [↓yP, yT, Nat.reduceAdd, Nat.reduceMul, Nat.reduceSub, Nat.reduceLeDiff, Nat.reduceEqDiff, reduceCtorEq, Nat.reduceBEq, opLen.eq_1, xindex.eq_1, xslice.eq_1, Int.toNat_natCast, t2, xstr_eql, hne, Nat.reduceLT]
      exact ⟨_, _, _, _, rfl⟩
  · have t1 : eqI (k : Nat) ((strOf s).length : Nat) = false := eqI_false (by omega)
    simp -implicitDefEqProofs only [↓yP, yT, Nat.reduceAdd, Nat.reduceMul, Nat.reduceSub, Nat.reduceLeDiff, Nat.reduceEqDiff, reduceCtorEq, Nat.reduceBEq, opLen.eq_1, xindex.eq_1, xslice.eq_1, Int.toNat_natCast, t1]
    exact ⟨_, _, _, _, rfl⟩
end Go.Vx.Seat
end
/- Numbers among code points. -/
section
open Go Go.Vx Go.Proofs
set_option linter.unusedSimpArgs false
set_option linter.unusedVariables false
set_option maxRecDepth 10000
set_option maxHeartbeats 8000000
namespace Go.Vx.Seat
attribute [local congr] Rg_at Rt_at Ro_at Ri_at Rc_at Rto_at Rtk_at Rtf_at Rti_at
attribute [local irreducible] Rg Rt Ro Ri Rc Rto Rtk Rtf Rti Rw Rl Rd Rcall Rtcall kf
theorem fn83 : nth C1.P.funcs.toList 83 = some Try.f83 := by kernel_rfl
abbrev tc (k : Int) (u : ByteArray) (b : Bool) (d x : ByteArray) (f sg : Bool) : List Ce :=
  [.p (.d (.int .i64 k)), .p (.d (.string ⟨#[]⟩)), .p (.d (.string u)), .p (.d (.bool b)), .p (.d (.string d)), .p (.d (.string x)), .p (.d (.bool f)), .p (.d (.bool sg)), .p (.d (.int .i64 0)), .p (.d (.int .i64 0)), .p (.d (.int .i64 0)), .p (.d (.int .i64 0)), .p (.d (.int .i64 0))]
def numTok (k : Int) (u : ByteArray) (b : Bool) (d x : ByteArray) (f sg : Bool) : Tok := ⟨k, ⟨#[]⟩, u, b, d, x, f, sg, 0, 0, 0, 0, 0⟩
theorem numTok_lex {l : List Rn} {k : Int} {u : ByteArray} {b : Bool} {d x : ByteArray} {f sg : Bool} (hk : k < 16) : TokLex l (numTok k u b d x f sg) :=
  ⟨by show 0 ≤ _; omega, fun h _ => by have h : 16 ≤ k := h; omega⟩
theorem ltk {i k : Nat} (h : i ≤ k) (hn : k = i → False) : i < k := by
  rcases Nat.lt_or_ge i k with g | g
  · exact g
  · exact (hn (by omega)).elim
theorem digit_in {l : List Rn} {k : Nat} (h : digitB (atR l (k : Nat)) = true) : k < l.length := Nat.lt_of_not_le fun hle => by
  rw [atR_out (by omega)] at h; exact absurd h (by decide)
theorem numbers_spec (l : List Rn) (i : Nat) (hl : l.length ≤ 1000000) (hi : i < l.length) (hn : numeralB l i = true) : PCall C1 83 [.c (.p (rR l)), yd (.int .i64 (i : Nat))] (LexR l i) := by
  have w1 : wrapK .i64 ((i : Int) + 1) = ((i + 1 : Nat) : Int) := wrap_succ (by omega)
  refine Pf (by rfl) (by rfl) fn83 (by rfl) ?_
  simp only [Try.f83, List.length_cons, List.length_nil, List.replicate, List.cons_append, List.nil_append]
  simp -implicitDefEqProofs only [↓yP, yT, Nat.reduceAdd, Nat.reduceMul, Nat.reduceSub, Nat.reduceLeDiff, Nat.reduceEqDiff, reduceCtorEq, Nat.reduceBEq, Nat.reduceLT]
  refine Rcall_cut (fun e st => ∃ (k : Nat) (sg : Bool), (∃ g : Nat → YV, e = [.c (.p (rR l)), yd (.int .i64 (k : Nat)), g 2, g 3, .c (.ptr 0 0 0 0), g 5, yd (.int .i64 (i : Nat)), .c (.ptr 1 0 0 0), g 8, g 9, g 10, g 11, g 12, g 13, g 14, g 15, g 16, g 17, g 18, g 19, g 20, g 21, g 22, g 23, g 24, g 25, g 26, g 27, g 28, g 29, g 30, g 31, g 32, g 33, g 34, g 35, g 36, g 37, g 38, g 39, g 40, g 41, g 42, g 43, g 44, g 45, g 46, g 47, g 48, g 49, g 50, g 51, g 52, g 53, g 54, g 55, g 56, g 57, g 58, g 59, g 60, g 61, g 62, g 63, g 64, g 65, g 66, g 67, g 68, g 69, g 70, g 71, g 72, g 73, g 74, g 75, g 76, g 77, g 78, g 79, g 80, g 81, g 82, g 83, g 84, g 85, g 86, g 87, g 88, g 89, g 90, g 91, g 92, g 93, g 94, g 95, g 96, g 97, g 98, g 99, g 100, g 101, g 102, g 103, g 104, g 105, g 106, g 107, g 108, g 109, g 110, g 111, g 112, g 113, g 114, g 115, g 116, g 117, g 118, g 119, g 120, g 121, g 122, g 123, g 124]) ∧ st = [.box zt, .box (tc 10 ⟨#[]⟩ false ⟨#[]⟩ ⟨#[]⟩ true sg)] ∧ i ≤ k ∧ k ≤ i + 1 ∧ (digitB (atR l (k : Nat)) || (eqI (atR l (k : Nat)) 46 && digitB (atR l ((k + 1 : Nat) : Int)))) = true) ?_ ?_
  · skip
    refine Rcall_pure (at_spec l _) (by rfl) fun y hy => ?_
    subst hy
    cases h1 : eqI (atR l (i : Nat)) 43 with
    | true =>
      simp -implicitDefEqProofs only [↓yP, yT, Nat.reduceAdd, Nat.reduceMul, Nat.reduceSub, Nat.reduceLeDiff, Nat.reduceEqDiff, reduceCtorEq, Nat.reduceBEq, h1]
      refine Rcall_pure (at_spec l _) (by rfl) fun y hy => ?_
      subst hy
      simp -implicitDefEqProofs only [↓yP, yT, Nat.reduceAdd, Nat.reduceMul, Nat.reduceSub, Nat.reduceLeDiff, Nat.reduceEqDiff, reduceCtorEq, Nat.reduceBEq, h1, w1, ythen_n, Nat.reduceLT]
      exact ⟨i + 1, _, gs_mk rfl, rfl, by omega, by omega, by simpa [numeralB, h1] using hn⟩
    | false =>
      simp -implicitDefEqProofs only [↓yP, yT, Nat.reduceAdd, Nat.reduceMul, Nat.reduceSub, Nat.reduceLeDiff, Nat.reduceEqDiff, reduceCtorEq, Nat.reduceBEq, h1]
      refine Rcall_pure (at_spec l _) (by rfl) fun y hy => ?_
      subst hy
      cases h2 : eqI (atR l (i : Nat)) 45 with
      | true =>
        simp -implicitDefEqProofs only [↓yP, yT, Nat.reduceAdd, Nat.reduceMul, Nat.reduceSub, Nat.reduceLeDiff, Nat.reduceEqDiff, reduceCtorEq, Nat.reduceBEq, h1, h2]
        refine Rcall_pure (at_spec l _) (by rfl) fun y hy => ?_
        subst hy
        simp -implicitDefEqProofs only [↓yP, yT, Nat.reduceAdd, Nat.reduceMul, Nat.reduceSub, Nat.reduceLeDiff, Nat.reduceEqDiff, reduceCtorEq, Nat.reduceBEq, h1, h2, w1, ythen_n, Nat.reduceLT]
        exact ⟨i + 1, _, gs_mk rfl, rfl, by omega, by omega, by simpa [numeralB, h1, h2] using hn⟩
      | false =>
        simp -implicitDefEqProofs only [↓yP, yT, Nat.reduceAdd, Nat.reduceMul, Nat.reduceSub, Nat.reduceLeDiff, Nat.reduceEqDiff, reduceCtorEq, Nat.reduceBEq, h1, h2, ythen_n]
        exact ⟨i, _, gs_mk rfl, rfl, by omega, by omega, by simpa [numeralB, h1, h2] using hn⟩
  rintro e st ⟨i1, sg, ⟨g, rfl⟩, rfl, hi1, hi2, hnd⟩
  have hin : i1 < l.length := Nat.lt_of_not_le fun hle => by
    rw [atR_out (by omega)] at hnd; exact absurd hnd (by simp [digitB, leI_eq, eqI_eq])
  simp -implicitDefEqProofs only [↓yP, yT, Nat.reduceAdd, Nat.reduceMul, Nat.reduceSub, Nat.reduceLeDiff, Nat.reduceEqDiff, reduceCtorEq, Nat.reduceBEq]
  refine Rl_inv (fun d e st => ∃ (k : Nat), e = ([.c (.p (rR l)), yd (.int .i64 (k : Nat)), .c .top, .c .top, .c (.ptr 0 0 0 0), .c .top, yd (.int .i64 (i : Nat)), .c (.ptr 1 0 0 0), .c .top, .c .top, .c .top, .c .top, .c .top, .c .top, .c .top, .c .top, .c .top, .c .top, .c .top, .c .top, .c .top, .c .top, .c .top, .c .top, .c .top, .c .top, .c .top, .c .top, .c .top, .c .top, .c .top, .c .top, .c .top, .c .top, .c .top, .c .top, .c .top, .c .top, .c .top, .c .top, .c .top, .c .top, .c .top, .c .top, .c .top, .c .top, .c .top, .c .top, .c .top, .c .top, .c .top, .c .top, .c .top, .c .top, .c .top, .c .top, .c .top, .c .top, .c .top, .c .top, .c .top, .c .top, .c .top, .c .top, .c .top, .c .top, .c .top, .c .top, .c .top, .c .top, .c .top, .c .top, .c .top, .c .top, .c .top, .c .top, .c .top, .c .top, .c .top, .c .top, .c .top, .c .top, .c .top, .c .top, .c .top, .c .top, .c .top, .c .top, .c .top, .c .top, .c .top, .c .top, .c .top, .c .top, .c .top, .c .top, .c .top, .c .top, .c .top, .c .top, .c .top, .c .top, .c .top, .c .top, .c .top, .c .top, .c .top, .c .top, .c .top, .c .top, .c .top, .c .top, .c .top, .c .top, .c .top, .c .top, .c .top, .c .top, .c .top, .c .top, .c .top, .c .top, .c .top, .c .top, .c .top]) ∧ st = [.box zt, .box (tc 10 ⟨#[]⟩ false ⟨#[]⟩ ⟨#[]⟩ true sg)] ∧ k + d = l.length ∧ i ≤ k ∧ (k = i → (digitB (atR l (k : Nat)) || (eqI (atR l (k : Nat)) 46 && digitB (atR l ((k + 1 : Nat) : Int)))) = true)) [true, true, false, false, true, false, true, true] (l.length - i1) [0, 1] (by decide) (pinned_zero _) ⟨i1, by (simp only [yE, Nat.reduceEqDiff, Nat.reduceAdd, reduceCtorEq]; try rfl), by (simp only [yE, Nat.reduceEqDiff, Nat.reduceAdd, reduceCtorEq]; try rfl), by omega, by omega, fun _ => hnd⟩ ?_
  rintro d e st ⟨k, rfl, rfl, hd, hik, hk⟩
  simp -implicitDefEqProofs only [↓yP, yT, Nat.reduceAdd, Nat.reduceMul, Nat.reduceSub, Nat.reduceLeDiff, Nat.reduceEqDiff, reduceCtorEq, Nat.reduceBEq]
  refine Rcall_pure (at_spec l _) (by rfl) fun y hy => ?_
  subst hy
  simp -implicitDefEqProofs only [↓yP, yT, Nat.reduceAdd, Nat.reduceMul, Nat.reduceSub, Nat.reduceLeDiff, Nat.reduceEqDiff, reduceCtorEq, Nat.reduceBEq]
  refine Rcall_pure (digit_spec _) (by rfl) fun y hy => ?_
  subst hy
  cases h1 : digitB (atR l (k : Nat)) with
  | true =>
    have := digit_in h1
    have v1 : wrapK .i64 ((k : Int) + 1) = ((k + 1 : Nat) : Int) := wrap_succ (by omega)
    simp -implicitDefEqProofs only [↓yP, yT, Nat.reduceAdd, Nat.reduceMul, Nat.reduceSub, Nat.reduceLeDiff, Nat.reduceEqDiff, reduceCtorEq, Nat.reduceBEq, v1]
    refine ⟨d - 1, [0, 1], by omega, by decide, pinned_zero _, k + 1, by (simp only [yE, Nat.reduceEqDiff, Nat.reduceAdd, reduceCtorEq]; try rfl), by (simp only [yE, Nat.reduceEqDiff, Nat.reduceAdd, reduceCtorEq]; try rfl), by omega, by omega, fun h => by omega⟩
  | false =>
  rw [h1, Bool.false_or] at hk
  have v1 : wrapK .i64 ((k : Int) + 1) = ((k + 1 : Nat) : Int) := wrap_succ (by omega)
  have v2 : wrapK .i64 ((k : Int) + 2) = ((k + 2 : Nat) : Int) := wrap_nat (i := k + 2) (by omega)
  simp -implicitDefEqProofs only [↓yP, yT, Nat.reduceAdd, Nat.reduceMul, Nat.reduceSub, Nat.reduceLeDiff, Nat.reduceEqDiff, reduceCtorEq, Nat.reduceBEq]
  refine Rcall_cut (fun e st => ∃ (k : Nat) (f : Bool), (∃ g : Nat → YV, e = [.c (.p (rR l)), yd (.int .i64 (k : Nat)), g 2, g 3, .c (.ptr 0 0 0 0), g 5, yd (.int .i64 (i : Nat)), .c (.ptr 1 0 0 0), g 8, g 9, g 10, g 11, g 12, g 13, g 14, g 15, g 16, g 17, g 18, g 19, g 20, g 21, g 22, g 23, g 24, g 25, g 26, g 27, g 28, g 29, g 30, g 31, g 32, g 33, g 34, g 35, g 36, g 37, g 38, g 39, g 40, g 41, g 42, g 43, g 44, g 45, g 46, g 47, g 48, g 49, g 50, g 51, g 52, g 53, g 54, g 55, g 56, g 57, g 58, g 59, g 60, g 61, g 62, g 63, g 64, g 65, g 66, g 67, g 68, g 69, g 70, g 71, g 72, g 73, g 74, g 75, g 76, g 77, g 78, g 79, g 80, g 81, g 82, g 83, g 84, g 85, g 86, g 87, g 88, g 89, g 90, g 91, g 92, g 93, g 94, g 95, g 96, g 97, g 98, g 99, g 100, g 101, g 102, g 103, g 104, g 105, g 106, g 107, g 108, g 109, g 110, g 111, g 112, g 113, g 114, g 115, g 116, g 117, g 118, g 119, g 120, g 121, g 122, g 123, g 124]) ∧ st = [.box zt, .box (tc 10 ⟨#[]⟩ false ⟨#[]⟩ ⟨#[]⟩ f sg)] ∧ i < k ∧ k ≤ l.length) ?_ ?_
  · skip
    refine Rcall_pure (at_spec l _) (by rfl) fun y hy => ?_
    subst hy
    cases h2 : eqI (atR l (k : Nat)) 46 with
    | false =>
      simp -implicitDefEqProofs only [↓yP, yT, Nat.reduceAdd, Nat.reduceMul, Nat.reduceSub, Nat.reduceLeDiff, Nat.reduceEqDiff, reduceCtorEq, Nat.reduceBEq, h2, ythen_n]
      exact ⟨k, _, gs_mk rfl, rfl, ltk hik (fun h => by have := hk h; rw [h2] at this; simp at this), by omega⟩
    | true =>
      simp -implicitDefEqProofs only [↓yP, yT, Nat.reduceAdd, Nat.reduceMul, Nat.reduceSub, Nat.reduceLeDiff, Nat.reduceEqDiff, reduceCtorEq, Nat.reduceBEq, h2, v1]
      refine Rcall_pure (at_spec l _) (by rfl) fun y hy => ?_
      subst hy
      simp -implicitDefEqProofs only [↓yP, yT, Nat.reduceAdd, Nat.reduceMul, Nat.reduceSub, Nat.reduceLeDiff, Nat.reduceEqDiff, reduceCtorEq, Nat.reduceBEq]
      refine Rcall_pure (digit_spec _) (by rfl) fun y hy => ?_
      subst hy
      cases h3 : digitB (atR l ((k + 1 : Nat) : Int)) with
      | false =>
        simp -implicitDefEqProofs only [↓yP, yT, Nat.reduceAdd, Nat.reduceMul, Nat.reduceSub, Nat.reduceLeDiff, Nat.reduceEqDiff, reduceCtorEq, Nat.reduceBEq, ythen_n]
        exact ⟨k, _, gs_mk rfl, rfl, ltk hik (fun h => by have := hk h; rw [h3] at this; simp at this), by omega⟩
      | true =>
        have := digit_in h3
        simp -implicitDefEqProofs only [↓yP, yT, Nat.reduceAdd, Nat.reduceMul, Nat.reduceSub, Nat.reduceLeDiff, Nat.reduceEqDiff, reduceCtorEq, Nat.reduceBEq, v2, Nat.reduceLT]
        refine Rl_inv (fun d e st => ∃ (k2 : Nat), e = ([.c (.p (rR l)), yd (.int .i64 (k2 : Nat)), .c .top, .c .top, .c (.ptr 0 0 0 0), .c .top, yd (.int .i64 (i : Nat)), .c (.ptr 1 0 0 0), .c .top, .c .top, .c .top, .c .top, .c .top, .c .top, .c .top, .c .top, .c .top, .c .top, .c .top, .c .top, .c .top, .c .top, .c .top, .c .top, .c .top, .c .top, .c .top, .c .top, .c .top, .c .top, .c .top, .c .top, .c .top, .c .top, .c .top, .c .top, .c .top, .c .top, .c .top, .c .top, .c .top, .c .top, .c .top, .c .top, .c .top, .c .top, .c .top, .c .top, .c .top, .c .top, .c .top, .c .top, .c .top, .c .top, .c .top, .c .top, .c .top, .c .top, .c .top, .c .top, .c .top, .c .top, .c .top, .c .top, .c .top, .c .top, .c .top, .c .top, .c .top, .c .top, .c .top, .c .top, .c .top, .c .top, .c .top, .c .top, .c .top, .c .top, .c .top, .c .top, .c .top, .c .top, .c .top, .c .top, .c .top, .c .top, .c .top, .c .top, .c .top, .c .top, .c .top, .c .top, .c .top, .c .top, .c .top, .c .top, .c .top, .c .top, .c .top, .c .top, .c .top, .c .top, .c .top, .c .top, .c .top, .c .top, .c .top, .c .top, .c .top, .c .top, .c .top, .c .top, .c .top, .c .top, .c .top, .c .top, .c .top, .c .top, .c .top, .c .top, .c .top, .c .top, .c .top, .c .top, .c .top]) ∧ st = [.box zt, .box (tc 10 ⟨#[]⟩ false ⟨#[]⟩ ⟨#[]⟩ false sg)] ∧ k2 + d = l.length ∧ i < k2) [true, true, false, false, true, false, true, true] (l.length - (k + 2)) [0, 1] (by decide) (pinned_zero _) ⟨(k + 2), by (simp only [yE, Nat.reduceEqDiff, Nat.reduceAdd, reduceCtorEq]; try rfl), by (simp only [yE, Nat.reduceEqDiff, Nat.reduceAdd, reduceCtorEq]; try rfl), by omega, by omega⟩ ?_
        rintro d2 e st ⟨k2, rfl, rfl, hd2, hk2⟩
        simp -implicitDefEqProofs only [↓yP, yT, Nat.reduceAdd, Nat.reduceMul, Nat.reduceSub, Nat.reduceLeDiff, Nat.reduceEqDiff, reduceCtorEq, Nat.reduceBEq]
        refine Rcall_pure (at_spec l _) (by rfl) fun y hy => ?_
        subst hy
        simp -implicitDefEqProofs only [↓yP, yT, Nat.reduceAdd, Nat.reduceMul, Nat.reduceSub, Nat.reduceLeDiff, Nat.reduceEqDiff, reduceCtorEq, Nat.reduceBEq]
        refine Rcall_pure (digit_spec _) (by rfl) fun y hy => ?_
        subst hy
        cases h8 : digitB (atR l (k2 : Nat)) with
        | true =>
          have := digit_in h8
          have v8 : wrapK .i64 ((k2 : Int) + 1) = ((k2 + 1 : Nat) : Int) := wrap_succ (by omega)
          simp -implicitDefEqProofs only [↓yP, yT, Nat.reduceAdd, Nat.reduceMul, Nat.reduceSub, Nat.reduceLeDiff, Nat.reduceEqDiff, reduceCtorEq, Nat.reduceBEq, v8]
          refine ⟨d2 - 1, [0, 1], by omega, by decide, pinned_zero _, k2 + 1, by (simp only [yE, Nat.reduceEqDiff, Nat.reduceAdd, reduceCtorEq]; try rfl), by (simp only [yE, Nat.reduceEqDiff, Nat.reduceAdd, reduceCtorEq]; try rfl), by omega, by omega⟩
        | false =>
          simp -implicitDefEqProofs only [↓yP, yT, Nat.reduceAdd, Nat.reduceMul, Nat.reduceSub, Nat.reduceLeDiff, Nat.reduceEqDiff, reduceCtorEq, Nat.reduceBEq, ythen_n]
          exact ⟨k2, _, gs_mk rfl, rfl, by omega, by omega⟩
  clear v1 v2 hk hik hd h1 k
  rintro e st ⟨k, f, ⟨g, rfl⟩, rfl, hik, hkl⟩
  have v1 : wrapK .i64 ((k : Int) + 1) = ((k + 1 : Nat) : Int) := wrap_succ (by omega)
  simp -implicitDefEqProofs only [↓yP, yT, Nat.reduceAdd, Nat.reduceMul, Nat.reduceSub, Nat.reduceLeDiff, Nat.reduceEqDiff, reduceCtorEq, Nat.reduceBEq]
  refine Rcall_cut (fun e st => ∃ (k : Nat) (f : Bool), (∃ g : Nat → YV, e = [.c (.p (rR l)), yd (.int .i64 (k : Nat)), g 2, g 3, .c (.ptr 0 0 0 0), g 5, yd (.int .i64 (i : Nat)), .c (.ptr 1 0 0 0), g 8, g 9, g 10, g 11, g 12, g 13, g 14, g 15, g 16, g 17, g 18, g 19, g 20, g 21, g 22, g 23, g 24, g 25, g 26, g 27, g 28, g 29, g 30, g 31, g 32, g 33, g 34, g 35, g 36, g 37, g 38, g 39, g 40, g 41, g 42, g 43, g 44, g 45, g 46, g 47, g 48, g 49, g 50, g 51, g 52, g 53, g 54, g 55, g 56, g 57, g 58, g 59, g 60, g 61, g 62, g 63, g 64, g 65, g 66, g 67, g 68, g 69, g 70, g 71, g 72, g 73, g 74, g 75, g 76, g 77, g 78, g 79, g 80, g 81, g 82, g 83, g 84, g 85, g 86, g 87, g 88, g 89, g 90, g 91, g 92, g 93, g 94, g 95, g 96, g 97, g 98, g 99, g 100, g 101, g 102, g 103, g 104, g 105, g 106, g 107, g 108, g 109, g 110, g 111, g 112, g 113, g 114, g 115, g 116, g 117, g 118, g 119, g 120, g 121, g 122, g 123, g 124]) ∧ st = [.box zt, .box (tc 10 ⟨#[]⟩ false ⟨#[]⟩ ⟨#[]⟩ f sg)] ∧ i < k ∧ k ≤ l.length) ?_ ?_
  · skip
    refine Rcall_pure (at_spec l _) (by rfl) fun y hy => ?_
    subst hy
    cases h1 : eqI (atR l (k : Nat)) 101 with
    | true =>
      simp -implicitDefEqProofs only [↓yP, yT, Nat.reduceAdd, Nat.reduceMul, Nat.reduceSub, Nat.reduceLeDiff, Nat.reduceEqDiff, reduceCtorEq, Nat.reduceBEq, h1, v1]
      refine Rcall_cut (fun e st => ∃ (k3 : Nat), (∃ g : Nat → YV, e = [.c (.p (rR l)), yd (.int .i64 (k : Nat)), g 2, g 3, .c (.ptr 0 0 0 0), g 5, yd (.int .i64 (i : Nat)), .c (.ptr 1 0 0 0), yd (.int .i64 (k3 : Nat)), g 9, g 10, g 11, g 12, g 13, g 14, g 15, g 16, g 17, g 18, g 19, g 20, g 21, g 22, g 23, g 24, g 25, g 26, g 27, g 28, g 29, g 30, g 31, g 32, g 33, g 34, g 35, g 36, g 37, g 38, g 39, g 40, g 41, g 42, g 43, g 44, g 45, g 46, g 47, g 48, g 49, g 50, g 51, g 52, g 53, g 54, g 55, g 56, g 57, g 58, g 59, g 60, g 61, g 62, g 63, g 64, g 65, g 66, g 67, g 68, g 69, g 70, g 71, g 72, g 73, g 74, g 75, g 76, g 77, g 78, g 79, g 80, g 81, g 82, g 83, g 84, g 85, g 86, g 87, g 88, g 89, g 90, g 91, g 92, g 93, g 94, g 95, g 96, g 97, g 98, g 99, g 100, g 101, g 102, g 103, g 104, g 105, g 106, g 107, g 108, g 109, g 110, g 111, g 112, g 113, g 114, g 115, g 116, g 117, g 118, g 119, g 120, g 121, g 122, g 123, g 124]) ∧ st = [.box zt, .box (tc 10 ⟨#[]⟩ false ⟨#[]⟩ ⟨#[]⟩ f sg)] ∧ k < k3 ∧ k3 ≤ k + 2) ?_ ?_
      · skip
        refine Rcall_pure (at_spec l _) (by rfl) fun y hy => ?_
        subst hy
        have w2 : wrapK .i64 (((k + 1 : Nat) : Int) + 1) = ((k + 2 : Nat) : Int) := wrap_succ (by omega)
        cases h3 : eqI (atR l ((k + 1 : Nat) : Int)) 43 with
        | true =>
          simp -implicitDefEqProofs only [↓yP, yT, Nat.reduceAdd, Nat.reduceMul, Nat.reduceSub, Nat.reduceLeDiff, Nat.reduceEqDiff, reduceCtorEq, Nat.reduceBEq, h3, w2, ythen_n]
          exact ⟨k + 2, gs_mk rfl, by omega, by omega⟩
        | false =>
          simp -implicitDefEqProofs only [↓yP, yT, Nat.reduceAdd, Nat.reduceMul, Nat.reduceSub, Nat.reduceLeDiff, Nat.reduceEqDiff, reduceCtorEq, Nat.reduceBEq, h3]
          refine Rcall_pure (at_spec l _) (by rfl) fun y hy => ?_
          subst hy
          cases h4 : eqI (atR l ((k + 1 : Nat) : Int)) 45 with
          | true =>
            simp -implicitDefEqProofs only [↓yP, yT, Nat.reduceAdd, Nat.reduceMul, Nat.reduceSub, Nat.reduceLeDiff, Nat.reduceEqDiff, reduceCtorEq, Nat.reduceBEq, h4, w2, ythen_n]
            exact ⟨k + 2, gs_mk rfl, by omega, by omega⟩
          | false =>
            simp -implicitDefEqProofs only [↓yP, yT, Nat.reduceAdd, Nat.reduceMul, Nat.reduceSub, Nat.reduceLeDiff, Nat.reduceEqDiff, reduceCtorEq, Nat.reduceBEq, h4, ythen_n]
            exact ⟨k + 1, gs_mk rfl, by omega, by omega⟩
      rintro e st ⟨k3, ⟨g, rfl⟩, rfl, hk3, hk3'⟩
      simp -implicitDefEqProofs only [↓yP, yT, Nat.reduceAdd, Nat.reduceMul, Nat.reduceSub, Nat.reduceLeDiff, Nat.reduceEqDiff, reduceCtorEq, Nat.reduceBEq]
      refine Rcall_pure (at_spec l _) (by rfl) fun y hy => ?_
      subst hy
      simp -implicitDefEqProofs only [↓yP, yT, Nat.reduceAdd, Nat.reduceMul, Nat.reduceSub, Nat.reduceLeDiff, Nat.reduceEqDiff, reduceCtorEq, Nat.reduceBEq]
      refine Rcall_pure (digit_spec _) (by rfl) fun y hy => ?_
      subst hy
      cases h5 : digitB (atR l (k3 : Nat)) with
      | false =>
        simp -implicitDefEqProofs only [↓yP, yT, Nat.reduceAdd, Nat.reduceMul, Nat.reduceSub, Nat.reduceLeDiff, Nat.reduceEqDiff, reduceCtorEq, Nat.reduceBEq, ythen_n]
        exact ⟨k, _, gs_mk rfl, rfl, by omega, by omega⟩
      | true =>
        have := digit_in h5
        simp -implicitDefEqProofs only [↓yP, yT, Nat.reduceAdd, Nat.reduceMul, Nat.reduceSub, Nat.reduceLeDiff, Nat.reduceEqDiff, reduceCtorEq, Nat.reduceBEq, Nat.reduceLT]
        refine Rl_inv (fun d e st => ∃ (k2 : Nat), e = ([.c (.p (rR l)), yd (.int .i64 (k2 : Nat)), .c .top, .c .top, .c (.ptr 0 0 0 0), .c .top, yd (.int .i64 (i : Nat)), .c (.ptr 1 0 0 0), .c .top, .c .top, .c .top, .c .top, .c .top, .c .top, .c .top, .c .top, .c .top, .c .top, .c .top, .c .top, .c .top, .c .top, .c .top, .c .top, .c .top, .c .top, .c .top, .c .top, .c .top, .c .top, .c .top, .c .top, .c .top, .c .top, .c .top, .c .top, .c .top, .c .top, .c .top, .c .top, .c .top, .c .top, .c .top, .c .top, .c .top, .c .top, .c .top, .c .top, .c .top, .c .top, .c .top, .c .top, .c .top, .c .top, .c .top, .c .top, .c .top, .c .top, .c .top, .c .top, .c .top, .c .top, .c .top, .c .top, .c .top, .c .top, .c .top, .c .top, .c .top, .c .top, .c .top, .c .top, .c .top, .c .top, .c .top, .c .top, .c .top, .c .top, .c .top, .c .top, .c .top, .c .top, .c .top, .c .top, .c .top, .c .top, .c .top, .c .top, .c .top, .c .top, .c .top, .c .top, .c .top, .c .top, .c .top, .c .top, .c .top, .c .top, .c .top, .c .top, .c .top, .c .top, .c .top, .c .top, .c .top, .c .top, .c .top, .c .top, .c .top, .c .top, .c .top, .c .top, .c .top, .c .top, .c .top, .c .top, .c .top, .c .top, .c .top, .c .top, .c .top, .c .top, .c .top, .c .top, .c .top]) ∧ st = [.box zt, .box (tc 10 ⟨#[]⟩ false ⟨#[]⟩ ⟨#[]⟩ false sg)] ∧ k2 + d = l.length ∧ i < k2) [true, true, false, false, true, false, true, true] (l.length - k3) [0, 1] (by decide) (pinned_zero _) ⟨k3, by (simp only [yE, Nat.reduceEqDiff, Nat.reduceAdd, reduceCtorEq]; try rfl), by (simp only [yE, Nat.reduceEqDiff, Nat.reduceAdd, reduceCtorEq]; try rfl), by omega, by omega⟩ ?_
        rintro d2 e st ⟨k2, rfl, rfl, hd2, hk2⟩
        simp -implicitDefEqProofs only [↓yP, yT, Nat.reduceAdd, Nat.reduceMul, Nat.reduceSub, Nat.reduceLeDiff, Nat.reduceEqDiff, reduceCtorEq, Nat.reduceBEq]
        refine Rcall_pure (at_spec l _) (by rfl) fun y hy => ?_
        subst hy
        simp -implicitDefEqProofs only [↓yP, yT, Nat.reduceAdd, Nat.reduceMul, Nat.reduceSub, Nat.reduceLeDiff, Nat.reduceEqDiff, reduceCtorEq, Nat.reduceBEq]
        refine Rcall_pure (digit_spec _) (by rfl) fun y hy => ?_
        subst hy
        cases h8 : digitB (atR l (k2 : Nat)) with
        | true =>
          have := digit_in h8
          have v8 : wrapK .i64 ((k2 : Int) + 1) = ((k2 + 1 : Nat) : Int) := wrap_succ (by omega)
          simp -implicitDefEqProofs only [↓yP, yT, Nat.reduceAdd, Nat.reduceMul, Nat.reduceSub, Nat.reduceLeDiff, Nat.reduceEqDiff, reduceCtorEq, Nat.reduceBEq, v8]
          refine ⟨d2 - 1, [0, 1], by omega, by decide, pinned_zero _, k2 + 1, by (simp only [yE, Nat.reduceEqDiff, Nat.reduceAdd, reduceCtorEq]; try rfl), by (simp only [yE, Nat.reduceEqDiff, Nat.reduceAdd, reduceCtorEq]; try rfl), by omega, by omega⟩
        | false =>
          simp -implicitDefEqProofs only [↓yP, yT, Nat.reduceAdd, Nat.reduceMul, Nat.reduceSub, Nat.reduceLeDiff, Nat.reduceEqDiff, reduceCtorEq, Nat.reduceBEq, ythen_n]
          exact ⟨k2, _, gs_mk rfl, rfl, by omega, by omega⟩
    | false =>
      simp -implicitDefEqProofs only [↓yP, yT, Nat.reduceAdd, Nat.reduceMul, Nat.reduceSub, Nat.reduceLeDiff, Nat.reduceEqDiff, reduceCtorEq, Nat.reduceBEq, h1]
      refine Rcall_pure (at_spec l _) (by rfl) fun y hy => ?_
      subst hy
      cases h2 : eqI (atR l (k : Nat)) 69 with
      | true =>
        simp -implicitDefEqProofs only [↓yP, yT, Nat.reduceAdd, Nat.reduceMul, Nat.reduceSub, Nat.reduceLeDiff, Nat.reduceEqDiff, reduceCtorEq, Nat.reduceBEq, h2, v1]
        refine Rcall_cut (fun e st => ∃ (k3 : Nat), (∃ g : Nat → YV, e = [.c (.p (rR l)), yd (.int .i64 (k : Nat)), g 2, g 3, .c (.ptr 0 0 0 0), g 5, yd (.int .i64 (i : Nat)), .c (.ptr 1 0 0 0), yd (.int .i64 (k3 : Nat)), g 9, g 10, g 11, g 12, g 13, g 14, g 15, g 16, g 17, g 18, g 19, g 20, g 21, g 22, g 23, g 24, g 25, g 26, g 27, g 28, g 29, g 30, g 31, g 32, g 33, g 34, g 35, g 36, g 37, g 38, g 39, g 40, g 41, g 42, g 43, g 44, g 45, g 46, g 47, g 48, g 49, g 50, g 51, g 52, g 53, g 54, g 55, g 56, g 57, g 58, g 59, g 60, g 61, g 62, g 63, g 64, g 65, g 66, g 67, g 68, g 69, g 70, g 71, g 72, g 73, g 74, g 75, g 76, g 77, g 78, g 79, g 80, g 81, g 82, g 83, g 84, g 85, g 86, g 87, g 88, g 89, g 90, g 91, g 92, g 93, g 94, g 95, g 96, g 97, g 98, g 99, g 100, g 101, g 102, g 103, g 104, g 105, g 106, g 107, g 108, g 109, g 110, g 111, g 112, g 113, g 114, g 115, g 116, g 117, g 118, g 119, g 120, g 121, g 122, g 123, g 124]) ∧ st = [.box zt, .box (tc 10 ⟨#[]⟩ false ⟨#[]⟩ ⟨#[]⟩ f sg)] ∧ k < k3 ∧ k3 ≤ k + 2) ?_ ?_
        · skip
          refine Rcall_pure (at_spec l _) (by rfl) fun y hy => ?_
          subst hy
          have w2 : wrapK .i64 (((k + 1 : Nat) : Int) + 1) = ((k + 2 : Nat) : Int) := wrap_succ (by omega)
          cases h3 : eqI (atR l ((k + 1 : Nat) : Int)) 43 with
          | true =>
            simp -implicitDefEqProofs only [↓yP, yT, Nat.reduceAdd, Nat.reduceMul, Nat.reduceSub, Nat.reduceLeDiff, Nat.reduceEqDiff, reduceCtorEq, Nat.reduceBEq, h3, w2, ythen_n]
            exact ⟨k + 2, gs_mk rfl, by omega, by omega⟩
          | false =>
            simp -implicitDefEqProofs only [↓yP, yT, Nat.reduceAdd, Nat.reduceMul, Nat.reduceSub, Nat.reduceLeDiff, Nat.reduceEqDiff, reduceCtorEq, Nat.reduceBEq, h3]
            refine Rcall_pure (at_spec l _) (by rfl) fun y hy => ?_
            subst hy
            cases h4 : eqI (atR l ((k + 1 : Nat) : Int)) 45 with
            | true =>
              simp -implicitDefEqProofs only [↓yP, yT, Nat.reduceAdd, Nat.reduceMul, Nat.reduceSub, Nat.reduceLeDiff, Nat.reduceEqDiff, reduceCtorEq, Nat.reduceBEq, h4, w2, ythen_n]
              exact ⟨k + 2, gs_mk rfl, by omega, by omega⟩
            | false =>
              simp -implicitDefEqProofs only [↓yP, yT, Nat.reduceAdd, Nat.reduceMul, Nat.reduceSub, Nat.reduceLeDiff, Nat.reduceEqDiff, reduceCtorEq, Nat.reduceBEq, h4, ythen_n]
              exact ⟨k + 1, gs_mk rfl, by omega, by omega⟩
        rintro e st ⟨k3, ⟨g, rfl⟩, rfl, hk3, hk3'⟩
        simp -implicitDefEqProofs only [↓yP, yT, Nat.reduceAdd, Nat.reduceMul, Nat.reduceSub, Nat.reduceLeDiff, Nat.reduceEqDiff, reduceCtorEq, Nat.reduceBEq]
        refine Rcall_pure (at_spec l _) (by rfl) fun y hy => ?_
        subst hy
        simp -implicitDefEqProofs only [↓yP, yT, Nat.reduceAdd, Nat.reduceMul, Nat.reduceSub, Nat.reduceLeDiff, Nat.reduceEqDiff, reduceCtorEq, Nat.reduceBEq]
        refine Rcall_pure (digit_spec _) (by rfl) fun y hy => ?_
        subst hy
        cases h5 : digitB (atR l (k3 : Nat)) with
        | false =>
          simp -implicitDefEqProofs only [↓yP, yT, Nat.reduceAdd, Nat.reduceMul, Nat.reduceSub, Nat.reduceLeDiff, Nat.reduceEqDiff, reduceCtorEq, Nat.reduceBEq, ythen_n]
          exact ⟨k, _, gs_mk rfl, rfl, by omega, by omega⟩
        | true =>
          have := digit_in h5
          simp -implicitDefEqProofs only [↓yP, yT, Nat.reduceAdd, Nat.reduceMul, Nat.reduceSub, Nat.reduceLeDiff, Nat.reduceEqDiff, reduceCtorEq, Nat.reduceBEq, Nat.reduceLT]
          refine Rl_inv (fun d e st => ∃ (k2 : Nat), e = ([.c (.p (rR l)), yd (.int .i64 (k2 : Nat)), .c .top, .c .top, .c (.ptr 0 0 0 0), .c .top, yd (.int .i64 (i : Nat)), .c (.ptr 1 0 0 0), .c .top, .c .top, .c .top, .c .top, .c .top, .c .top, .c .top, .c .top, .c .top, .c .top, .c .top, .c .top, .c .top, .c .top, .c .top, .c .top, .c .top, .c .top, .c .top, .c .top, .c .top, .c .top, .c .top, .c .top, .c .top, .c .top, .c .top, .c .top, .c .top, .c .top, .c .top, .c .top, .c .top, .c .top, .c .top, .c .top, .c .top, .c .top, .c .top, .c .top, .c .top, .c .top, .c .top, .c .top, .c .top, .c .top, .c .top, .c .top, .c .top, .c .top, .c .top, .c .top, .c .top, .c .top, .c .top, .c .top, .c .top, .c .top, .c .top, .c .top, .c .top, .c .top, .c .top, .c .top, .c .top, .c .top, .c .top, .c .top, .c .top, .c .top, .c .top, .c .top, .c .top, .c .top, .c .top, .c .top, .c .top, .c .top, .c .top, .c .top, .c .top, .c .top, .c .top, .c .top, .c .top, .c .top, .c .top, .c .top, .c .top, .c .top, .c .top, .c .top, .c .top, .c .top, .c .top, .c .top, .c .top, .c .top, .c .top, .c .top, .c .top, .c .top, .c .top, .c .top, .c .top, .c .top, .c .top, .c .top, .c .top, .c .top, .c .top, .c .top, .c .top, .c .top, .c .top, .c .top, .c .top]) ∧ st = [.box zt, .box (tc 10 ⟨#[]⟩ false ⟨#[]⟩ ⟨#[]⟩ false sg)] ∧ k2 + d = l.length ∧ i < k2) [true, true, false, false, true, false, true, true] (l.length - k3) [0, 1] (by decide) (pinned_zero _) ⟨k3, by (simp only [yE, Nat.reduceEqDiff, Nat.reduceAdd, reduceCtorEq]; try rfl), by (simp only [yE, Nat.reduceEqDiff, Nat.reduceAdd, reduceCtorEq]; try rfl), by omega, by omega⟩ ?_
          rintro d2 e st ⟨k2, rfl, rfl, hd2, hk2⟩
          simp -implicitDefEqProofs only [↓yP, yT, Nat.reduceAdd, Nat.reduceMul, Nat.reduceSub, Nat.reduceLeDiff, Nat.reduceEqDiff, reduceCtorEq, Nat.reduceBEq]
          refine Rcall_pure (at_spec l _) (by rfl) fun y hy => ?_
          subst hy
          simp -implicitDefEqProofs only [↓yP, yT, Nat.reduceAdd, Nat.reduceMul, Nat.reduceSub, Nat.reduceLeDiff, Nat.reduceEqDiff, reduceCtorEq, Nat.reduceBEq]
          refine Rcall_pure (digit_spec _) (by rfl) fun y hy => ?_
          subst hy
          cases h8 : digitB (atR l (k2 : Nat)) with
          | true =>
            have := digit_in h8
            have v8 : wrapK .i64 ((k2 : Int) + 1) = ((k2 + 1 : Nat) : Int) := wrap_succ (by omega)
            simp -implicitDefEqProofs only [↓yP, yT, Nat.reduceAdd, Nat.reduceMul, Nat.reduceSub, Nat.reduceLeDiff, Nat.reduceEqDiff, reduceCtorEq, Nat.reduceBEq, v8]
            refine ⟨d2 - 1, [0, 1], by omega, by decide, pinned_zero _, k2 + 1, by (simp only [yE, Nat.reduceEqDiff, Nat.reduceAdd, reduceCtorEq]; try rfl), by (simp only [yE, Nat.reduceEqDiff, Nat.reduceAdd, reduceCtorEq]; try rfl), by omega, by omega⟩
          | false =>
            simp -implicitDefEqProofs only [↓yP, yT, Nat.reduceAdd, Nat.reduceMul, Nat.reduceSub, Nat.reduceLeDiff, Nat.reduceEqDiff, reduceCtorEq, Nat.reduceBEq, ythen_n]
            exact ⟨k2, _, gs_mk rfl, rfl, by omega, by omega⟩
      | false =>
        simp -implicitDefEqProofs only [↓yP, yT, Nat.reduceAdd, Nat.reduceMul, Nat.reduceSub, Nat.reduceLeDiff, Nat.reduceEqDiff, reduceCtorEq, Nat.reduceBEq, h2, ythen_n]
        exact ⟨k, _, gs_mk rfl, rfl, by omega, by omega⟩
  clear v1 hik hkl k
  rintro e st ⟨k, f, ⟨g, rfl⟩, rfl, hik, hkl⟩
  have v1 : wrapK .i64 ((k : Int) + 1) = ((k + 1 : Nat) : Int) := wrap_succ (by omega)
  simp -implicitDefEqProofs only [↓yP, yT, Nat.reduceAdd, Nat.reduceMul, Nat.reduceSub, Nat.reduceLeDiff, Nat.reduceEqDiff, reduceCtorEq, Nat.reduceBEq]
  refine Rcall_pure (raw_spec l i k hl (by omega) hkl) (by rfl) fun y hy => ?_
  obtain ⟨st, rfl, hst⟩ := hy
  simp -implicitDefEqProofs only [↓yP, yT, Nat.reduceAdd, Nat.reduceMul, Nat.reduceSub, Nat.reduceLeDiff, Nat.reduceEqDiff, reduceCtorEq, Nat.reduceBEq]
  refine Rcall_pure (readNum_spec st (by omega)) (by rfl) fun y hy => ?_
  obtain ⟨nb, nd, nx, nok, rfl⟩ := hy
  simp -implicitDefEqProofs only [↓yP, yT, Nat.reduceAdd, Nat.reduceMul, Nat.reduceSub, Nat.reduceLeDiff, Nat.reduceEqDiff, reduceCtorEq, Nat.reduceBEq, Nat.reduceLT]
  refine Rcall_pure (begins_spec l k (by omega)) (by rfl) fun y hy => ?_
  subst hy
  cases h1 : beginsB l k with
  | true =>
    simp -implicitDefEqProofs only [↓yP, yT, Nat.reduceAdd, Nat.reduceMul, Nat.reduceSub, Nat.reduceLeDiff, Nat.reduceEqDiff, reduceCtorEq, Nat.reduceBEq, Nat.reduceLT]
    refine Rcall_pure (take_spec l k hl hkl) (by rfl) fun y hy => ?_
    obtain ⟨u, k2, rfl, hk1, hk2, _, _, _⟩ := hy
    simp -implicitDefEqProofs only [↓yP, yT, Nat.reduceAdd, Nat.reduceMul, Nat.reduceSub, Nat.reduceLeDiff, Nat.reduceEqDiff, reduceCtorEq, Nat.reduceBEq, Nat.reduceLT, zt13, ztd]
    exact ⟨numTok 12 u nb nd nx f sg, k2, rfl, by omega, by omega, numTok_lex (by decide)⟩
  | false =>
    simp -implicitDefEqProofs only [↓yP, yT, Nat.reduceAdd, Nat.reduceMul, Nat.reduceSub, Nat.reduceLeDiff, Nat.reduceEqDiff, reduceCtorEq, Nat.reduceBEq]
    refine Rcall_pure (at_spec l _) (by rfl) fun y hy => ?_
    subst hy
    cases h2 : eqI (atR l (k : Nat)) 37 with
    | true =>
      have : k < l.length := Nat.lt_of_not_le fun hle => by
        rw [atR_out (by omega)] at h2; exact absurd h2 (by decide)
      simp -implicitDefEqProofs only [↓yP, yT, Nat.reduceAdd, Nat.reduceMul, Nat.reduceSub, Nat.reduceLeDiff, Nat.reduceEqDiff, reduceCtorEq, Nat.reduceBEq, h2, v1, Nat.reduceLT, zt13, ztd]
      exact ⟨numTok 11 ⟨#[]⟩ nb nd nx f sg, k + 1, rfl, by omega, by omega, numTok_lex (by decide)⟩
    | false =>
      simp -implicitDefEqProofs only [↓yP, yT, Nat.reduceAdd, Nat.reduceMul, Nat.reduceSub, Nat.reduceLeDiff, Nat.reduceEqDiff, reduceCtorEq, Nat.reduceBEq, h2, Nat.reduceLT, zt13, ztd]
      exact ⟨numTok 10 ⟨#[]⟩ nb nd nx f sg, k, rfl, by omega, by omega, numTok_lex (by decide)⟩
end Go.Vx.Seat
end
/- The token that begins at a place. -/
section
open Go Go.Vx Go.Proofs
set_option linter.unusedSimpArgs false
set_option linter.unusedVariables false
set_option maxRecDepth 10000
set_option maxHeartbeats 8000000
namespace Go.Vx.Seat
attribute [local congr] Rg_at Rt_at Ro_at Ri_at Rc_at Rto_at Rtk_at Rtf_at Rti_at
attribute [local irreducible] Rg Rt Ro Ri Rc Rto Rtk Rtf Rti Rw Rl Rd Rcall Rtcall kf
theorem fn54 : nth C1.P.funcs.toList 54 = some Try.f54 := by kernel_rfl
theorem fn23 : nth C1.P.funcs.toList 23 = some Try.f23 := by kernel_rfl
/-- What is known of the token at a place: of three signs, and of a letter that stands alone. -/
structure OneQ (l : List Rn) (i : Nat) (t : Tok) (k : Nat) : Prop where
  colon : ∀ x, l[i]? = some x → x.r = 58 → t = lexTok 16 ⟨#[]⟩ ∧ k = i + 1
  opn : ∀ x, l[i]? = some x → x.r = 123 → t = lexTok 19 ⟨#[]⟩ ∧ k = i + 1
  shut : ∀ x, l[i]? = some x → x.r = 125 → t = lexTok 20 ⟨#[]⟩ ∧ k = i + 1
  name : ∀ x, l[i]? = some x → 97 ≤ x.r → x.r ≤ 122 → inB (atR l ((i + 1 : Nat) : Int)) = false → escB l (i + 1) = false → atR l ((i + 1 : Nat) : Int) ≠ 40 → t.kind = 1 ∧ k = i + 1
def Plain (r : Int) : Prop := r ≠ 58 ∧ r ≠ 123 ∧ r ≠ 125 ∧ (r < 97 ∨ 122 < r)
theorem OneQ.other {l : List Rn} {i : Nat} {t : Tok} {k : Nat} {x : Rn} (hx : l[i]? = some x) (h : Plain x.r) : OneQ l i t k := by
  obtain ⟨h1, h2, h3, h4⟩ := h
  refine ⟨fun y hy e => ?_, fun y hy e => ?_, fun y hy e => ?_, fun y hy e e2 => ?_⟩ <;> (rw [hx] at hy; cases hy; exfalso; omega)
theorem follows_at {l : List Rn} {i : Nat} {c : UInt8} {cs : List UInt8} (h : followsB l i (c :: cs) = true) : atR l (i : Nat) = (c.toNat : Nat) ∧ followsB l (i + 1) cs = true := by
  rw [followsB, Bool.and_eq_true] at h
  exact ⟨of_eqT h.1, h.2⟩
theorem at_lt {l : List Rn} {i : Nat} (h : atR l (i : Nat) ≠ -1) : i < l.length := Nat.lt_of_not_le fun hle => h (atR_out (by omega))
theorem startB_letter {r : Int} (h1 : 97 ≤ r) (h2 : r ≤ 122) : startB r = true := by simp [startB, leI_true h1, leI_true h2]
theorem startB_no {r : Int} (h : r = 58 ∨ r = 123 ∨ r = 125) : startB r = false := by rcases h with rfl | rfl | rfl <;> rfl
theorem numeral_plain {l : List Rn} {i : Nat} {x : Rn} (hx : l[i]? = some x) (h : numeralB l i = true) : Plain x.r := by
  have hat := atR_get hx
  unfold numeralB at h
  rw [hat] at h
  simp only [Bool.or_eq_true, Bool.and_eq_true] at h
  by_cases h1 : eqI x.r 43 = true
  · have := of_eqT h1; unfold Plain; omega
  · by_cases h2 : eqI x.r 45 = true
    · have := of_eqT h2; unfold Plain; omega
    · rw [if_neg (by simp [h1, h2]), hat] at h
      rcases h with h | h
      · simp only [digitB, Bool.and_eq_true] at h
        have a1 := of_leT h.1
        have a2 := of_leT h.2
        unfold Plain; omega
      · have := of_eqT h.1; unfold Plain; omega
theorem begins_in {l : List Rn} {i : Nat} (h : beginsB l i = true) : inB (atR l (i : Nat)) = true ∨ escB l i = true := by
  simp only [beginsB, Bool.and_eq_true] at h
  obtain ⟨_, h⟩ := h
  split at h
  · rename_i h2
    exact .inl (by rw [of_eqT h2]; rfl)
  · rw [Bool.or_eq_true] at h
    exact h.imp (fun h => by simp [inB, h]) fun h => h
theorem begins_plain {l : List Rn} {i : Nat} {x : Rn} (hx : l[i]? = some x) (h : beginsB l i = true) : x.r ≠ 58 ∧ x.r ≠ 123 ∧ x.r ≠ 125 := by
  have hat := atR_get hx
  rcases begins_in h with k | k
  · rw [hat] at k
    refine ⟨fun e => ?_, fun e => ?_, fun e => ?_⟩ <;> (rw [e] at k; exact absurd k (by decide))
  · simp only [escB, Bool.and_eq_true] at k
    have := of_eqT k.1
    rw [hat] at this
    exact ⟨by omega, by omega, by omega⟩
theorem begins_letter {l : List Rn} {i : Nat} {x : Rn} (hx : l[i]? = some x) (h1 : 97 ≤ x.r) (h2 : x.r ≤ 122) : beginsB l i = true := by
  have hl : i < l.length := (List.getElem?_eq_some_iff.mp hx).1
  have hat := atR_get hx
  simp [beginsB, hl, hat, startB_letter h1 h2, eqI_false (show x.r ≠ 45 by omega)]
theorem one_spec (l : List Rn) (i : Nat) (hl : l.length ≤ 1000000) (hi : i < l.length) : PCall C1 54 [.c (.p (rR l)), yd (.int .i64 (i : Nat))] (LexQ l i (OneQ l i)) := by
  obtain ⟨x, hx⟩ := get_lt hi
  have hat := atR_get hx
  have w1 : wrapK .i64 ((i : Int) + 1) = ((i + 1 : Nat) : Int) := wrap_succ (by omega)
  have w2 : wrapK .i64 ((i : Int) + 2) = ((i + 2 : Nat) : Int) := wrap_nat (i := i + 2) (by omega)
  have w3 : wrapK .i64 ((i : Int) + 3) = ((i + 3 : Nat) : Int) := wrap_nat (i := i + 3) (by omega)
  have w4 : wrapK .i64 ((i : Int) + 4) = ((i + 4 : Nat) : Int) := wrap_nat (i := i + 4) (by omega)
  refine Pf (by rfl) (by rfl) fn54 (by rfl) ?_
  simp only [Try.f54, List.length_cons, List.length_nil, List.replicate, List.cons_append, List.nil_append]
  simp -implicitDefEqProofs only [↓yP, yT, Nat.reduceAdd, Nat.reduceMul, Nat.reduceSub, Nat.reduceLeDiff, Nat.reduceEqDiff, reduceCtorEq, Nat.reduceBEq, rnGet hx]
  refine Rcall_pure (follows_spec l i ⟨#[47, 42]⟩ (by omega) (by decide)) (by rfl) fun y hy => ?_
  subst hy
  cases h1 : followsB l i (strOf ⟨#[47, 42]⟩) with
  | true =>
    obtain ⟨a1, a2⟩ := follows_at (c := 47) (cs := [42]) h1
    obtain ⟨a2, _⟩ := follows_at (c := 42) (cs := []) a2
    have hi1 := at_lt (l := l) (i := i + 1) (by rw [a2]; decide)
    have hp : Plain x.r := by rw [← hat, a1]; exact ⟨by decide, by decide, by decide, by decide⟩
    simp -implicitDefEqProofs only [↓yP, yT, Nat.reduceAdd, Nat.reduceMul, Nat.reduceSub, Nat.reduceLeDiff, Nat.reduceEqDiff, reduceCtorEq, Nat.reduceBEq, w2]
    refine Rl_inv (fun d e st => ∃ (k : Nat), e = ([.c (.p (rR l)), yd (.int .i64 (i : Nat)), .c .top, .c .top, .c (.ptr 0 0 0 0), .c .top, .c .top, .c .top, yd (.int .i64 (k : Nat)), .c .top, .c .top, .c .top, .c .top, .c .top, .c .top, .c .top, .c .top, .c .top, .c .top, .c .top, .c .top, .c .top, .c .top, .c .top, .c .top, .c .top, .c .top, .c .top, .c .top, .c .top, .c .top, .c .top, .c .top, .c .top, .c .top, .c .top, .c .top, .c .top, .c .top, .c .top, .c .top, .c .top, .c .top, .c .top, .c .top, .c .top, .c .top, .c .top, .c .top, .c .top, .c .top, .c .top, .c .top, .c .top, .c .top, .c .top, .c .top, .c .top, .c .top, .c .top, .c .top, .c .top, .c .top, .c .top, .c .top, .c .top, .c .top, .c .top, .c .top, .c .top, .c .top, .c .top, .c .top, .c .top, .c .top, .c .top, .c .top, .c .top, .c .top, .c .top, .c .top, .c .top, .c .top, .c .top, .c .top, .c .top, .c .top, .c .top, .c .top, .c .top, .c .top, .c .top, .c .top, .c .top, .c .top, .c .top, .c .top, .c .top, .c .top, .c .top, .c .top, .c .top, .c .top, .c .top, .c .top, .c .top, .c .top, .c .top, .c .top, .c .top, .c .top, .c .top, .c .top, .c .top, .c .top, .c .top, .c .top, .c .top, .c .top, .c .top, .c .top, .c .top, .c .top, .c .top, .c .top, .c .top, .c .top, .c .top, .c .top, .c .top, .c .top, .c .top, .c .top, .c .top, .c .top, .c .top, .c .top, .c .top, .c .top, .c .top, .c .top, .c .top, .c .top, .c .top, .c .top, .c .top, .c .top, .c .top, .c .top, .c .top, .c .top, .c .top, .c .top, .c .top, .c .top, .c .top, .c .top, .c .top, .c .top, .c .top, .c .top, .c .top, .c .top, .c .top, .c .top, .c .top, .c .top, .c .top, .c .top, .c .top, .c .top, .c .top, .c .top, .c .top, .c .top, .c .top, .c .top, .c .top, .c .top, .c .top, .c .top, .c .top, .c .top, .c .top, .c .top, .c .top, .c .top, .c .top, .c .top, .c .top]) ∧ st = [.box zt] ∧ k + d = l.length ∧ i + 2 ≤ k) [true, true, false, false, true, false, false, false, true] (l.length - (i + 2)) [0] (by decide) (pinned_zero _) ⟨i + 2, by (simp only [yE, Nat.reduceEqDiff, Nat.reduceAdd, reduceCtorEq]; try rfl), by (simp only [yE, Nat.reduceEqDiff, Nat.reduceAdd, reduceCtorEq]; try rfl), by omega, by omega⟩ ?_
    rintro d e st ⟨k, rfl, rfl, hd, hk⟩
    have v1 : wrapK .i64 ((k : Int) + 1) = ((k + 1 : Nat) : Int) := wrap_succ (by omega)
    have v2 : wrapK .i64 ((k : Int) + 2) = ((k + 2 : Nat) : Int) := wrap_nat (i := k + 2) (by omega)
    by_cases hkl : k < l.length
    · have t1 : leI (l.length : Nat) (k : Nat) = false := leI_false (by omega)
      simp -implicitDefEqProofs only [↓yP, yT, Nat.reduceAdd, Nat.reduceMul, Nat.reduceSub, Nat.reduceLeDiff, Nat.reduceEqDiff, reduceCtorEq, Nat.reduceBEq, t1]
      refine Rcall_pure (follows_spec l k ⟨#[42, 47]⟩ (by omega) (by decide)) (by rfl) fun y hy => ?_
      subst hy
      cases h2 : followsB l k (strOf ⟨#[42, 47]⟩) with
      | false =>
        simp -implicitDefEqProofs only [↓yP, yT, Nat.reduceAdd, Nat.reduceMul, Nat.reduceSub, Nat.reduceLeDiff, Nat.reduceEqDiff, reduceCtorEq, Nat.reduceBEq, v1]
        refine ⟨d - 1, [0], by omega, by decide, pinned_zero _, k + 1, by (simp only [yE, Nat.reduceEqDiff, Nat.reduceAdd, reduceCtorEq]; try rfl), by (simp only [yE, Nat.reduceEqDiff, Nat.reduceAdd, reduceCtorEq]; try rfl), by omega, by omega⟩
      | true =>
        obtain ⟨_, b2⟩ := follows_at (c := 42) (cs := [47]) h2
        obtain ⟨b2, _⟩ := follows_at (c := 47) (cs := []) b2
        have hk1 := at_lt (l := l) (i := k + 1) (by rw [b2]; decide)
        simp -implicitDefEqProofs only [↓yP, yT, Nat.reduceAdd, Nat.reduceMul, Nat.reduceSub, Nat.reduceLeDiff, Nat.reduceEqDiff, reduceCtorEq, Nat.reduceBEq, v2, t1, w2]
        refine Rcall_pure (raw_spec l (i + 2) k hl hk (by omega)) (by rfl) fun y hy => ?_
        obtain ⟨s, rfl, hs⟩ := hy
        simp -implicitDefEqProofs only [↓yP, yT, Nat.reduceAdd, Nat.reduceMul, Nat.reduceSub, Nat.reduceLeDiff, Nat.reduceEqDiff, reduceCtorEq, Nat.reduceBEq, zt13, ztd]
        exact ⟨lexTok 25 s, k + 2, rfl, by omega, by omega, .plain hs (by decide), .other hx hp⟩
    · have t1 : leI (l.length : Nat) (k : Nat) = true := leI_true (by omega)
      simp -implicitDefEqProofs only [↓yP, yT, Nat.reduceAdd, Nat.reduceMul, Nat.reduceSub, Nat.reduceLeDiff, Nat.reduceEqDiff, reduceCtorEq, Nat.reduceBEq, t1, v2, w2]
      refine Rcall_pure (raw_spec l (i + 2) l.length hl (by omega) (by omega)) (by rfl) fun y hy => ?_
      obtain ⟨s, rfl, hs⟩ := hy
      simp -implicitDefEqProofs only [↓yP, yT, Nat.reduceAdd, Nat.reduceMul, Nat.reduceSub, Nat.reduceLeDiff, Nat.reduceEqDiff, reduceCtorEq, Nat.reduceBEq, zt13, ztd]
      exact ⟨lexTok 25 s, l.length, rfl, by omega, by omega, .plain hs (by decide), .other hx hp⟩
  | false =>
  simp -implicitDefEqProofs only [↓yP, yT, Nat.reduceAdd, Nat.reduceMul, Nat.reduceSub, Nat.reduceLeDiff, Nat.reduceEqDiff, reduceCtorEq, Nat.reduceBEq]
  refine Rcall_pure (blank_spec1 _) (by rfl) fun y hy => ?_
  subst hy
  cases h2 : blankB x.r with
  | true =>
    have hp : Plain x.r := by
      simp only [blankB, Bool.or_eq_true] at h2
      rcases h2 with (h2 | h2) | h2 <;> (have := of_eqT h2; unfold Plain; omega)
    simp -implicitDefEqProofs only [↓yP, yT, Nat.reduceAdd, Nat.reduceMul, Nat.reduceSub, Nat.reduceLeDiff, Nat.reduceEqDiff, reduceCtorEq, Nat.reduceBEq]
    refine Rl_inv (fun d e st => ∃ (k : Nat), e = ([.c (.p (rR l)), .c .top, .c .top, .c .top, .c (.ptr 0 0 0 0), .c .top, yd (.int .i64 x.r), .c .top, .c .top, .c .top, yd (.int .i64 (k : Nat)), .c .top, .c .top, .c .top, .c .top, .c .top, .c .top, .c .top, .c .top, .c .top, .c .top, .c .top, .c .top, .c .top, .c .top, .c .top, .c .top, .c .top, .c .top, .c .top, .c .top, .c .top, .c .top, .c .top, .c .top, .c .top, .c .top, .c .top, .c .top, .c .top, .c .top, .c .top, .c .top, .c .top, .c .top, .c .top, .c .top, .c .top, .c .top, .c .top, .c .top, .c .top, .c .top, .c .top, .c .top, .c .top, .c .top, .c .top, .c .top, .c .top, .c .top, .c .top, .c .top, .c .top, .c .top, .c .top, .c .top, .c .top, .c .top, .c .top, .c .top, .c .top, .c .top, .c .top, .c .top, .c .top, .c .top, .c .top, .c .top, .c .top, .c .top, .c .top, .c .top, .c .top, .c .top, .c .top, .c .top, .c .top, .c .top, .c .top, .c .top, .c .top, .c .top, .c .top, .c .top, .c .top, .c .top, .c .top, .c .top, .c .top, .c .top, .c .top, .c .top, .c .top, .c .top, .c .top, .c .top, .c .top, .c .top, .c .top, .c .top, .c .top, .c .top, .c .top, .c .top, .c .top, .c .top, .c .top, .c .top, .c .top, .c .top, .c .top, .c .top, .c .top, .c .top, .c .top, .c .top, .c .top, .c .top, .c .top, .c .top, .c .top, .c .top, .c .top, .c .top, .c .top, .c .top, .c .top, .c .top, .c .top, .c .top, .c .top, .c .top, .c .top, .c .top, .c .top, .c .top, .c .top, .c .top, .c .top, .c .top, .c .top, .c .top, .c .top, .c .top, .c .top, .c .top, .c .top, .c .top, .c .top, .c .top, .c .top, .c .top, .c .top, .c .top, .c .top, .c .top, .c .top, .c .top, .c .top, .c .top, .c .top, .c .top, .c .top, .c .top, .c .top, .c .top, .c .top, .c .top, .c .top, .c .top, .c .top, .c .top, .c .top, .c .top, .c .top, .c .top, .c .top, .c .top, .c .top]) ∧ st = [.box zt] ∧ k + d = l.length ∧ i ≤ k ∧ (k = i → blankB (atR l (k : Nat)) = true)) [true, false, false, false, true, false, true, false, false, false, true] (l.length - i) [0] (by decide) (pinned_zero _) ⟨i, by (simp only [yE, Nat.reduceEqDiff, Nat.reduceAdd, reduceCtorEq]; try rfl), by (simp only [yE, Nat.reduceEqDiff, Nat.reduceAdd, reduceCtorEq]; try rfl), by omega, by omega, fun _ => by rw [hat]; exact h2⟩ ?_
    rintro d e st ⟨k, rfl, rfl, hd, hk, hkb⟩
    have v1 : wrapK .i64 ((k : Int) + 1) = ((k + 1 : Nat) : Int) := wrap_succ (by omega)
    simp -implicitDefEqProofs only [↓yP, yT, Nat.reduceAdd, Nat.reduceMul, Nat.reduceSub, Nat.reduceLeDiff, Nat.reduceEqDiff, reduceCtorEq, Nat.reduceBEq]
    refine Rcall_pure (at_spec l _) (by rfl) fun y hy => ?_
    subst hy
    simp -implicitDefEqProofs only [↓yP, yT, Nat.reduceAdd, Nat.reduceMul, Nat.reduceSub, Nat.reduceLeDiff, Nat.reduceEqDiff, reduceCtorEq, Nat.reduceBEq]
    refine Rcall_pure (blank_spec1 _) (by rfl) fun y hy => ?_
    subst hy
    cases h3 : blankB (atR l (k : Nat)) with
    | true =>
      have hkl := at_lt (l := l) (i := k) (fun e => by rw [e] at h3; exact absurd h3 (by decide))
      simp -implicitDefEqProofs only [↓yP, yT, Nat.reduceAdd, Nat.reduceMul, Nat.reduceSub, Nat.reduceLeDiff, Nat.reduceEqDiff, reduceCtorEq, Nat.reduceBEq, v1]
      refine ⟨d - 1, [0], by omega, by decide, pinned_zero _, k + 1, by (simp only [yE, Nat.reduceEqDiff, Nat.reduceAdd, reduceCtorEq]; try rfl), by (simp only [yE, Nat.reduceEqDiff, Nat.reduceAdd, reduceCtorEq]; try rfl), by omega, by omega, fun h => by omega⟩
    | false =>
      have hik := ltk hk (fun h => by rw [hkb h] at h3; cases h3)
      cases h4 : eqI x.r 10 with
      | true =>
        simp -implicitDefEqProofs only [↓yP, yT, Nat.reduceAdd, Nat.reduceMul, Nat.reduceSub, Nat.reduceLeDiff, Nat.reduceEqDiff, reduceCtorEq, Nat.reduceBEq, h4, zt13, ztd, Nat.reduceLT]
        exact ⟨lexTok 13 ⟨#[10]⟩, k, rfl, by omega, by omega, .plain (by show 1 ≤ _; omega) (by decide), .other hx hp⟩
      | false =>
        simp -implicitDefEqProofs only [↓yP, yT, Nat.reduceAdd, Nat.reduceMul, Nat.reduceSub, Nat.reduceLeDiff, Nat.reduceEqDiff, reduceCtorEq, Nat.reduceBEq, h4, zt13, ztd, Nat.reduceLT]
        exact ⟨lexTok 13 ⟨#[32]⟩, k, rfl, by omega, by omega, .plain (by show 1 ≤ _; omega) (by decide), .other hx hp⟩
  | false =>
  cases h3 : eqI x.r 34 with
  | true =>
    have := of_eqT h3
    simp -implicitDefEqProofs only [↓yP, yT, Nat.reduceAdd, Nat.reduceMul, Nat.reduceSub, Nat.reduceLeDiff, Nat.reduceEqDiff, reduceCtorEq, Nat.reduceBEq, h3]
    refine Rcall_pure (quoted_spec l i hl hi) (by rfl) fun y hy => ?_
    obtain ⟨t, k, rfl, k1, k2, ht⟩ := hy
    simp only [Tok.yv, Tok.cs, Tok.pc, List.map_cons, List.map_nil]
    simp -implicitDefEqProofs only [↓yP, yT, Nat.reduceAdd, Nat.reduceMul, Nat.reduceSub, Nat.reduceLeDiff, Nat.reduceEqDiff, reduceCtorEq, Nat.reduceBEq, zt13, ztd]
    exact ⟨t, k, rfl, k1, k2, ht, .other hx (by unfold Plain; omega)⟩
  | false =>
  cases h4 : eqI x.r 39 with
  | true =>
    have := of_eqT h4
    simp -implicitDefEqProofs only [↓yP, yT, Nat.reduceAdd, Nat.reduceMul, Nat.reduceSub, Nat.reduceLeDiff, Nat.reduceEqDiff, reduceCtorEq, Nat.reduceBEq, h3, h4]
    refine Rcall_pure (quoted_spec l i hl hi) (by rfl) fun y hy => ?_
    obtain ⟨t, k, rfl, k1, k2, ht⟩ := hy
    simp only [Tok.yv, Tok.cs, Tok.pc, List.map_cons, List.map_nil]
    simp -implicitDefEqProofs only [↓yP, yT, Nat.reduceAdd, Nat.reduceMul, Nat.reduceSub, Nat.reduceLeDiff, Nat.reduceEqDiff, reduceCtorEq, Nat.reduceBEq, zt13, ztd]
    exact ⟨t, k, rfl, k1, k2, ht, .other hx (by unfold Plain; omega)⟩
  | false =>
  cases h5 : eqI x.r 35 with
  | true =>
    have h35 := of_eqT h5
    simp -implicitDefEqProofs only [↓yP, yT, Nat.reduceAdd, Nat.reduceMul, Nat.reduceSub, Nat.reduceLeDiff, Nat.reduceEqDiff, reduceCtorEq, Nat.reduceBEq, h3, h4, h5, w1]
    refine Rcall_pure (at_spec l _) (by rfl) fun y hy => ?_
    subst hy
    simp -implicitDefEqProofs only [↓yP, yT, Nat.reduceAdd, Nat.reduceMul, Nat.reduceSub, Nat.reduceLeDiff, Nat.reduceEqDiff, reduceCtorEq, Nat.reduceBEq]
    refine Rcall_pure (in_spec1 _) (by rfl) fun y hy => ?_
    subst hy
    cases h6 : inB (atR l ((i + 1 : Nat) : Int)) with
    | true =>
      simp -implicitDefEqProofs only [↓yP, yT, Nat.reduceAdd, Nat.reduceMul, Nat.reduceSub, Nat.reduceLeDiff, Nat.reduceEqDiff, reduceCtorEq, Nat.reduceBEq, w1]
      refine Rcall_pure (take_spec l (i + 1) hl (by omega)) (by rfl) fun y hy => ?_
      obtain ⟨s, k, rfl, hk1, hk2, hs, _, _⟩ := hy
      simp -implicitDefEqProofs only [↓yP, yT, Nat.reduceAdd, Nat.reduceMul, Nat.reduceSub, Nat.reduceLeDiff, Nat.reduceEqDiff, reduceCtorEq, Nat.reduceBEq, w1]
      refine Rcall_pure (begins_spec l (i + 1) (by omega)) (by rfl) fun y hy => ?_
      subst hy
      simp -implicitDefEqProofs only [↓yP, yT, Nat.reduceAdd, Nat.reduceMul, Nat.reduceSub, Nat.reduceLeDiff, Nat.reduceEqDiff, reduceCtorEq, Nat.reduceBEq, zt13, ztd]
      exact ⟨⟨4, s, ⟨#[]⟩, false, ⟨#[]⟩, ⟨#[]⟩, beginsB l (i + 1), false, 0, 0, 0, 0, 0⟩, k, rfl, by omega, by omega, ⟨hs, fun h _ => by have h : 16 ≤ (4 : Int) := h; omega⟩, .other hx (by unfold Plain; omega)⟩
    | false =>
      simp -implicitDefEqProofs only [↓yP, yT, Nat.reduceAdd, Nat.reduceMul, Nat.reduceSub, Nat.reduceLeDiff, Nat.reduceEqDiff, reduceCtorEq, Nat.reduceBEq, w1]
      refine Rcall_pure (escape_spec l (i + 1) (by omega)) (by rfl) fun y hy => ?_
      subst hy
      cases h7 : escB l (i + 1) with
      | true =>
        simp -implicitDefEqProofs only [↓yP, yT, Nat.reduceAdd, Nat.reduceMul, Nat.reduceSub, Nat.reduceLeDiff, Nat.reduceEqDiff, reduceCtorEq, Nat.reduceBEq, w1]
        refine Rcall_pure (take_spec l (i + 1) hl (by omega)) (by rfl) fun y hy => ?_
        obtain ⟨s, k, rfl, hk1, hk2, hs, _, _⟩ := hy
        simp -implicitDefEqProofs only [↓yP, yT, Nat.reduceAdd, Nat.reduceMul, Nat.reduceSub, Nat.reduceLeDiff, Nat.reduceEqDiff, reduceCtorEq, Nat.reduceBEq, w1]
        refine Rcall_pure (begins_spec l (i + 1) (by omega)) (by rfl) fun y hy => ?_
        subst hy
        simp -implicitDefEqProofs only [↓yP, yT, Nat.reduceAdd, Nat.reduceMul, Nat.reduceSub, Nat.reduceLeDiff, Nat.reduceEqDiff, reduceCtorEq, Nat.reduceBEq, zt13, ztd]
        exact ⟨⟨4, s, ⟨#[]⟩, false, ⟨#[]⟩, ⟨#[]⟩, beginsB l (i + 1), false, 0, 0, 0, 0, 0⟩, k, rfl, by omega, by omega, ⟨hs, fun h _ => by have h : 16 ≤ (4 : Int) := h; omega⟩, .other hx (by unfold Plain; omega)⟩
      | false =>
        simp -implicitDefEqProofs only [↓yP, yT, Nat.reduceAdd, Nat.reduceMul, Nat.reduceSub, Nat.reduceLeDiff, Nat.reduceEqDiff, reduceCtorEq, Nat.reduceBEq]
        refine Rcall_pure (numeral_spec l i (by omega)) (by rfl) fun y hy => ?_
        subst hy
        cases n1 : numeralB l i with
        | true =>
          simp -implicitDefEqProofs only [↓yP, yT, Nat.reduceAdd, Nat.reduceMul, Nat.reduceSub, Nat.reduceLeDiff, Nat.reduceEqDiff, reduceCtorEq, Nat.reduceBEq]
          refine Rcall_pure (numbers_spec l i hl hi n1) (by rfl) fun y hy => ?_
          obtain ⟨t, k, rfl, k1, k2, ht⟩ := hy
          simp only [Tok.yv, Tok.cs, Tok.pc, List.map_cons, List.map_nil]
          simp -implicitDefEqProofs only [↓yP, yT, Nat.reduceAdd, Nat.reduceMul, Nat.reduceSub, Nat.reduceLeDiff, Nat.reduceEqDiff, reduceCtorEq, Nat.reduceBEq, zt13, ztd]
          exact ⟨t, k, rfl, k1, k2, ht, .other hx (numeral_plain hx n1)⟩
        | false =>
        simp -implicitDefEqProofs only [↓yP, yT, Nat.reduceAdd, Nat.reduceMul, Nat.reduceSub, Nat.reduceLeDiff, Nat.reduceEqDiff, reduceCtorEq, Nat.reduceBEq]
        refine Rcall_pure (follows_spec l i ⟨#[45, 45, 62]⟩ (by omega) (by decide)) (by rfl) fun y hy => ?_
        subst hy
        cases n2 : followsB l i (strOf ⟨#[45, 45, 62]⟩) with
        | true =>
          obtain ⟨a1, a2⟩ := follows_at (c := 45) (cs := [45, 62]) n2
          obtain ⟨_, a2⟩ := follows_at (c := 45) (cs := [62]) a2
          obtain ⟨a2, _⟩ := follows_at (c := 62) (cs := []) a2
          have hi1 := at_lt (l := l) (i := i + 1 + 1) (by rw [a2]; decide)
          simp -implicitDefEqProofs only [↓yP, yT, Nat.reduceAdd, Nat.reduceMul, Nat.reduceSub, Nat.reduceLeDiff, Nat.reduceEqDiff, reduceCtorEq, Nat.reduceBEq, w3, zt13, ztd]
          exact ⟨lexTok 15 ⟨#[]⟩, i + 3, rfl, by omega, by omega, .plain (by show 0 ≤ _; omega) (by decide), .other hx (by rw [← hat, a1]; exact ⟨by decide, by decide, by decide, by decide⟩)⟩
        | false =>
        simp -implicitDefEqProofs only [↓yP, yT, Nat.reduceAdd, Nat.reduceMul, Nat.reduceSub, Nat.reduceLeDiff, Nat.reduceEqDiff, reduceCtorEq, Nat.reduceBEq]
        refine Rcall_pure (follows_spec l i ⟨#[60, 33, 45, 45]⟩ (by omega) (by decide)) (by rfl) fun y hy => ?_
        subst hy
        cases n3 : followsB l i (strOf ⟨#[60, 33, 45, 45]⟩) with
        | true =>
          obtain ⟨a1, a2⟩ := follows_at (c := 60) (cs := [33, 45, 45]) n3
          obtain ⟨_, a2⟩ := follows_at (c := 33) (cs := [45, 45]) a2
          obtain ⟨_, a2⟩ := follows_at (c := 45) (cs := [45]) a2
          obtain ⟨a2, _⟩ := follows_at (c := 45) (cs := []) a2
          have hi1 := at_lt (l := l) (i := i + 1 + 1 + 1) (by rw [a2]; decide)
          simp -implicitDefEqProofs only [↓yP, yT, Nat.reduceAdd, Nat.reduceMul, Nat.reduceSub, Nat.reduceLeDiff, Nat.reduceEqDiff, reduceCtorEq, Nat.reduceBEq, w4, zt13, ztd]
          exact ⟨lexTok 14 ⟨#[]⟩, i + 4, rfl, by omega, by omega, .plain (by show 0 ≤ _; omega) (by decide), .other hx (by rw [← hat, a1]; exact ⟨by decide, by decide, by decide, by decide⟩)⟩
        | false =>
        simp -implicitDefEqProofs only [↓yP, yT, Nat.reduceAdd, Nat.reduceMul, Nat.reduceSub, Nat.reduceLeDiff, Nat.reduceEqDiff, reduceCtorEq, Nat.reduceBEq]
        refine Rcall_pure (begins_spec l i (by omega)) (by rfl) fun y hy => ?_
        subst hy
        cases n4 : beginsB l i with
        | true =>
          simp -implicitDefEqProofs only [↓yP, yT, Nat.reduceAdd, Nat.reduceMul, Nat.reduceSub, Nat.reduceLeDiff, Nat.reduceEqDiff, reduceCtorEq, Nat.reduceBEq]
          refine Rcall_pure (named_spec l i hl hi (begins_in n4)) (by rfl) fun y hy => ?_
          obtain ⟨t, k, rfl, k1, k2, ht, hq⟩ := hy
          simp only [Tok.yv, Tok.cs, Tok.pc, List.map_cons, List.map_nil]
          simp -implicitDefEqProofs only [↓yP, yT, Nat.reduceAdd, Nat.reduceMul, Nat.reduceSub, Nat.reduceLeDiff, Nat.reduceEqDiff, reduceCtorEq, Nat.reduceBEq, zt13, ztd]
          obtain ⟨g1, g2, g3⟩ := begins_plain hx n4
          refine ⟨t, k, rfl, k1, k2, ht, fun y hy e => ?_, fun y hy e => ?_, fun y hy e => ?_, fun y hy e e2 e3 e4 e5 => hq ?_ e3 e4 e5⟩
          · rw [hx] at hy; cases hy; exact absurd e g1
          · rw [hx] at hy; cases hy; exact absurd e g2
          · rw [hx] at hy; cases hy; exact absurd e g3
          · rw [hx] at hy; cases hy; rw [hat]; simp [inB, startB_letter e e2]
        | false =>
        cases n5 : eqI x.r 64 with
        | true =>
          have := of_eqT n5
          simp -implicitDefEqProofs only [↓yP, yT, Nat.reduceAdd, Nat.reduceMul, Nat.reduceSub, Nat.reduceLeDiff, Nat.reduceEqDiff, reduceCtorEq, Nat.reduceBEq, n5, w1]
          refine Rcall_pure (begins_spec l (i + 1) (by omega)) (by rfl) fun y hy => ?_
          subst hy
          cases n6 : beginsB l (i + 1) with
          | true =>
            simp -implicitDefEqProofs only [↓yP, yT, Nat.reduceAdd, Nat.reduceMul, Nat.reduceSub, Nat.reduceLeDiff, Nat.reduceEqDiff, reduceCtorEq, Nat.reduceBEq, w1]
            refine Rcall_pure (take_spec l (i + 1) hl (by omega)) (by rfl) fun y hy => ?_
            obtain ⟨s, k, rfl, hk1, hk2, hs, _, _⟩ := hy
            simp -implicitDefEqProofs only [↓yP, yT, Nat.reduceAdd, Nat.reduceMul, Nat.reduceSub, Nat.reduceLeDiff, Nat.reduceEqDiff, reduceCtorEq, Nat.reduceBEq, zt13, ztd]
            exact ⟨lexTok 3 s, k, rfl, by omega, by omega, .plain hs (by decide), .other hx (by unfold Plain; omega)⟩
          | false =>
            simp -implicitDefEqProofs only [↓yP, yT, Nat.reduceAdd, Nat.reduceMul, Nat.reduceSub, Nat.reduceLeDiff, Nat.reduceEqDiff, reduceCtorEq, Nat.reduceBEq]
            refine Rl_inv (fun d e st => ∃ (j : Nat), e = ([.c (.p (rR l)), yd (.int .i64 (i : Nat)), .c .top, .c .top, .c (.ptr 0 0 0 0), .c .top, yd (.int .i64 x.r), yd (.string ⟨#[58, 59, 44, 123, 125, 40, 41, 91, 93]⟩), .c .top, .c .top, .c .top, .c .top, .c .top, .c .top, .c .top, .c .top, yd (.int .i64 (j : Nat)), .c .top, .c .top, .c .top, .c .top, .c .top, .c .top, .c .top, .c .top, .c .top, .c .top, .c .top, .c .top, .c .top, .c .top, .c .top, .c .top, .c .top, .c .top, .c .top, .c .top, .c .top, .c .top, .c .top, .c .top, .c .top, .c .top, .c .top, .c .top, .c .top, .c .top, .c .top, .c .top, .c .top, .c .top, .c .top, .c .top, .c .top, .c .top, .c .top, .c .top, .c .top, .c .top, .c .top, .c .top, .c .top, .c .top, .c .top, .c .top, .c .top, .c .top, .c .top, .c .top, .c .top, .c .top, .c .top, .c .top, .c .top, .c .top, .c .top, .c .top, .c .top, .c .top, .c .top, .c .top, .c .top, .c .top, .c .top, .c .top, .c .top, .c .top, .c .top, .c .top, .c .top, .c .top, .c .top, .c .top, .c .top, .c .top, .c .top, .c .top, .c .top, .c .top, .c .top, .c .top, .c .top, .c .top, .c .top, .c .top, .c .top, .c .top, .c .top, .c .top, .c .top, .c .top, .c .top, .c .top, .c .top, .c .top, .c .top, .c .top, .c .top, .c .top, .c .top, .c .top, .c .top, .c .top, .c .top, .c .top, .c .top, .c .top, .c .top, .c .top, .c .top, .c .top, .c .top, .c .top, .c .top, .c .top, .c .top, .c .top, .c .top, .c .top, .c .top, .c .top, .c .top, .c .top, .c .top, .c .top, .c .top, .c .top, .c .top, .c .top, .c .top, .c .top, .c .top, .c .top, .c .top, .c .top, .c .top, .c .top, .c .top, .c .top, .c .top, .c .top, .c .top, .c .top, .c .top, .c .top, .c .top, .c .top, .c .top, .c .top, .c .top, .c .top, .c .top, .c .top, .c .top, .c .top, .c .top, .c .top, .c .top, .c .top, .c .top, .c .top, .c .top, .c .top, .c .top, .c .top, .c .top, .c .top, .c .top, .c .top, .c .top]) ∧ st = [.box zt] ∧ j + d = 9 ∧ ∀ m c, m < j → [58, 59, 44, 123, 125, 40, 41, 91, 93][m]? = some c → c ≠ x.r) [true, true, false, false, true, false, true, true, false, false, false, false, false, false, false, false, true] 9 [0] (by decide) (pinned_zero _) ⟨0, by (simp only [yE, Nat.reduceEqDiff, Nat.reduceAdd, reduceCtorEq]; try rfl), by (simp only [yE, Nat.reduceEqDiff, Nat.reduceAdd, reduceCtorEq]; try rfl), by omega, fun m c h => by omega⟩ ?_
            rintro d e st ⟨j, rfl, rfl, hd, hj⟩
            have hlen : (strOf ⟨#[58, 59, 44, 123, 125, 40, 41, 91, 93]⟩).length = 9 := rfl
            by_cases hj9 : j < 9
            · obtain ⟨c, hc⟩ := get_lt (l := strOf ⟨#[58, 59, 44, 123, 125, 40, 41, 91, 93]⟩) (i := j) (by rw [hlen]; exact hj9)
              have t1 : leI ((9 : Nat) : Int) (j : Nat) = false := leI_false (by omega)
              have c0 : (0 : Int) ≤ (j : Nat) := by omega
              have v1 : wrapK .i64 ((j : Int) + 1) = ((j + 1 : Nat) : Int) := wrap_succ (by omega)
              have v2 : wrapK .i64 (16 + (j : Int)) = ((16 + j : Nat) : Int) := wrap_nat (i := 16 + j) (by omega)
              cases m1 : eqI ((c.toNat : Nat) : Int) x.r with
              | true =>
                have m1' := of_eqT m1
                simp -implicitDefEqProofs only [↓yP, yT, Nat.reduceAdd, Nat.reduceMul, Nat.reduceSub, Nat.reduceLeDiff, Nat.reduceEqDiff, reduceCtorEq, Nat.reduceBEq, opLen.eq_1, xindex.eq_1, xslice.eq_1, Int.toNat_natCast, hlen, t1, c0, hc, u8_i64, m1, v2, w1, zt13, ztd]
                refine ⟨lexTok ((16 + j : Nat) : Int) ⟨#[]⟩, i + 1, rfl, by omega, by omega, ⟨by show 0 ≤ _; omega, fun _ _ => rfl⟩, ?_⟩
                have hjj : j = 0 ∨ j = 1 ∨ j = 2 ∨ j = 3 ∨ j = 4 ∨ j = 5 ∨ j = 6 ∨ j = 7 ∨ j = 8 := by omega
                rcases hjj with rfl | rfl | rfl | rfl | rfl | rfl | rfl | rfl | rfl
                all_goals
                  cases hc
                  have m2 : x.r = _ := m1'.symm
                  refine ⟨fun y hy e => ?_, fun y hy e => ?_, fun y hy e => ?_, fun y hy e e2 => ?_⟩ <;> (rw [hx] at hy; cases hy; first | exact ⟨rfl, rfl⟩ | (exfalso; rw [m2] at e; exact absurd e (by decide)) | (exfalso; rw [m2] at e e2; exact absurd e2 (by decide)))
              | false =>
                simp -implicitDefEqProofs only [↓yP, yT, Nat.reduceAdd, Nat.reduceMul, Nat.reduceSub, Nat.reduceLeDiff, Nat.reduceEqDiff, reduceCtorEq, Nat.reduceBEq, opLen.eq_1, xindex.eq_1, xslice.eq_1, Int.toNat_natCast, hlen, t1, c0, hc, u8_i64, m1, v1]
                refine ⟨d - 1, [0], by omega, by decide, pinned_zero _, j + 1, by (simp only [yE, Nat.reduceEqDiff, Nat.reduceAdd, reduceCtorEq]; try rfl), by (simp only [yE, Nat.reduceEqDiff, Nat.reduceAdd, reduceCtorEq]; try rfl), by omega, fun m c' hm hc' => ?_⟩
                rcases Nat.lt_or_ge m j with g | g
                · exact hj m c' g hc'
                · obtain rfl : m = j := by omega
                  have hcc : ((c.toNat : Nat) : Int) = c' := by
                    have hjj : m = 0 ∨ m = 1 ∨ m = 2 ∨ m = 3 ∨ m = 4 ∨ m = 5 ∨ m = 6 ∨ m = 7 ∨ m = 8 := by omega
                    rcases hjj with rfl | rfl | rfl | rfl | rfl | rfl | rfl | rfl | rfl <;> (cases hc; cases hc'; rfl)
                  rw [← hcc]; exact of_eqF m1
            · have t1 : leI ((9 : Nat) : Int) (j : Nat) = true := leI_true (by omega)
              simp -implicitDefEqProofs only [↓yP, yT, Nat.reduceAdd, Nat.reduceMul, Nat.reduceSub, Nat.reduceLeDiff, Nat.reduceEqDiff, reduceCtorEq, Nat.reduceBEq, opLen.eq_1, xindex.eq_1, xslice.eq_1, Int.toNat_natCast, hlen, t1, w1]
              refine Rcall_pure (raw_spec l i (i + 1) hl (by omega) (by omega)) (by rfl) fun y hy => ?_
              obtain ⟨s, rfl, hs⟩ := hy
              simp -implicitDefEqProofs only [↓yP, yT, Nat.reduceAdd, Nat.reduceMul, Nat.reduceSub, Nat.reduceLeDiff, Nat.reduceEqDiff, reduceCtorEq, Nat.reduceBEq, w1, zt13, ztd]
              refine ⟨lexTok 9 s, i + 1, rfl, by omega, by omega, .plain hs (by decide), .other hx ⟨fun e => hj 0 58 (by omega) rfl e.symm, fun e => hj 3 123 (by omega) rfl e.symm, fun e => hj 4 125 (by omega) rfl e.symm, ?_⟩⟩
              rcases Int.lt_or_le x.r 97 with g | g
              · exact .inl g
              · rcases Int.lt_or_le 122 x.r with g2 | g2
                · exact .inr g2
                · rw [begins_letter hx g g2] at n4; cases n4
        | false =>
          simp -implicitDefEqProofs only [↓yP, yT, Nat.reduceAdd, Nat.reduceMul, Nat.reduceSub, Nat.reduceLeDiff, Nat.reduceEqDiff, reduceCtorEq, Nat.reduceBEq, n5]
          refine Rl_inv (fun d e st => ∃ (j : Nat), e = ([.c (.p (rR l)), yd (.int .i64 (i : Nat)), .c .top, .c .top, .c (.ptr 0 0 0 0), .c .top, yd (.int .i64 x.r), yd (.string ⟨#[58, 59, 44, 123, 125, 40, 41, 91, 93]⟩), .c .top, .c .top, .c .top, .c .top, .c .top, .c .top, .c .top, .c .top, yd (.int .i64 (j : Nat)), .c .top, .c .top, .c .top, .c .top, .c .top, .c .top, .c .top, .c .top, .c .top, .c .top, .c .top, .c .top, .c .top, .c .top, .c .top, .c .top, .c .top, .c .top, .c .top, .c .top, .c .top, .c .top, .c .top, .c .top, .c .top, .c .top, .c .top, .c .top, .c .top, .c .top, .c .top, .c .top, .c .top, .c .top, .c .top, .c .top, .c .top, .c .top, .c .top, .c .top, .c .top, .c .top, .c .top, .c .top, .c .top, .c .top, .c .top, .c .top, .c .top, .c .top, .c .top, .c .top, .c .top, .c .top, .c .top, .c .top, .c .top, .c .top, .c .top, .c .top, .c .top, .c .top, .c .top, .c .top, .c .top, .c .top, .c .top, .c .top, .c .top, .c .top, .c .top, .c .top, .c .top, .c .top, .c .top, .c .top, .c .top, .c .top, .c .top, .c .top, .c .top, .c .top, .c .top, .c .top, .c .top, .c .top, .c .top, .c .top, .c .top, .c .top, .c .top, .c .top, .c .top, .c .top, .c .top, .c .top, .c .top, .c .top, .c .top, .c .top, .c .top, .c .top, .c .top, .c .top, .c .top, .c .top, .c .top, .c .top, .c .top, .c .top, .c .top, .c .top, .c .top, .c .top, .c .top, .c .top, .c .top, .c .top, .c .top, .c .top, .c .top, .c .top, .c .top, .c .top, .c .top, .c .top, .c .top, .c .top, .c .top, .c .top, .c .top, .c .top, .c .top, .c .top, .c .top, .c .top, .c .top, .c .top, .c .top, .c .top, .c .top, .c .top, .c .top, .c .top, .c .top, .c .top, .c .top, .c .top, .c .top, .c .top, .c .top, .c .top, .c .top, .c .top, .c .top, .c .top, .c .top, .c .top, .c .top, .c .top, .c .top, .c .top, .c .top, .c .top, .c .top, .c .top, .c .top, .c .top, .c .top, .c .top, .c .top, .c .top, .c .top]) ∧ st = [.box zt] ∧ j + d = 9 ∧ ∀ m c, m < j → [58, 59, 44, 123, 125, 40, 41, 91, 93][m]? = some c → c ≠ x.r) [true, true, false, false, true, false, true, true, false, false, false, false, false, false, false, false, true] 9 [0] (by decide) (pinned_zero _) ⟨0, by (simp only [yE, Nat.reduceEqDiff, Nat.reduceAdd, reduceCtorEq]; try rfl), by (simp only [yE, Nat.reduceEqDiff, Nat.reduceAdd, reduceCtorEq]; try rfl), by omega, fun m c h => by omega⟩ ?_
          rintro d e st ⟨j, rfl, rfl, hd, hj⟩
          have hlen : (strOf ⟨#[58, 59, 44, 123, 125, 40, 41, 91, 93]⟩).length = 9 := rfl
          by_cases hj9 : j < 9
          · obtain ⟨c, hc⟩ := get_lt (l := strOf ⟨#[58, 59, 44, 123, 125, 40, 41, 91, 93]⟩) (i := j) (by rw [hlen]; exact hj9)
            have t1 : leI ((9 : Nat) : Int) (j : Nat) = false := leI_false (by omega)
            have c0 : (0 : Int) ≤ (j : Nat) := by omega
            have v1 : wrapK .i64 ((j : Int) + 1) = ((j + 1 : Nat) : Int) := wrap_succ (by omega)
            have v2 : wrapK .i64 (16 + (j : Int)) = ((16 + j : Nat) : Int) := wrap_nat (i := 16 + j) (by omega)
            cases m1 : eqI ((c.toNat : Nat) : Int) x.r with
            | true =>
              have m1' := of_eqT m1
              simp -implicitDefEqProofs only [↓yP, yT, Nat.reduceAdd, Nat.reduceMul, Nat.reduceSub, Nat.reduceLeDiff, Nat.reduceEqDiff, reduceCtorEq, Nat.reduceBEq, opLen.eq_1, xindex.eq_1, xslice.eq_1, Int.toNat_natCast, hlen, t1, c0, hc, u8_i64, m1, v2, w1, zt13, ztd]
              refine ⟨lexTok ((16 + j : Nat) : Int) ⟨#[]⟩, i + 1, rfl, by omega, by omega, ⟨by show 0 ≤ _; omega, fun _ _ => rfl⟩, ?_⟩
              have hjj : j = 0 ∨ j = 1 ∨ j = 2 ∨ j = 3 ∨ j = 4 ∨ j = 5 ∨ j = 6 ∨ j = 7 ∨ j = 8 := by omega
              rcases hjj with rfl | rfl | rfl | rfl | rfl | rfl | rfl | rfl | rfl
              all_goals
                cases hc
                have m2 : x.r = _ := m1'.symm
                refine ⟨fun y hy e => ?_, fun y hy e => ?_, fun y hy e => ?_, fun y hy e e2 => ?_⟩ <;> (rw [hx] at hy; cases hy; first | exact ⟨rfl, rfl⟩ | (exfalso; rw [m2] at e; exact absurd e (by decide)) | (exfalso; rw [m2] at e e2; exact absurd e2 (by decide)))
            | false =>
              simp -implicitDefEqProofs only [↓yP, yT, Nat.reduceAdd, Nat.reduceMul, Nat.reduceSub, Nat.reduceLeDiff, Nat.reduceEqDiff, reduceCtorEq, Nat.reduceBEq, opLen.eq_1, xindex.eq_1, xslice.eq_1, Int.toNat_natCast, hlen, t1, c0, hc, u8_i64, m1, v1]
              refine ⟨d - 1, [0], by omega, by decide, pinned_zero _, j + 1, by (simp only [yE, Nat.reduceEqDiff, Nat.reduceAdd, reduceCtorEq]; try rfl), by (simp only [yE, Nat.reduceEqDiff, Nat.reduceAdd, reduceCtorEq]; try rfl), by omega, fun m c' hm hc' => ?_⟩
              rcases Nat.lt_or_ge m j with g | g
              · exact hj m c' g hc'
              · obtain rfl : m = j := by omega
                have hcc : ((c.toNat : Nat) : Int) = c' := by
                  have hjj : m = 0 ∨ m = 1 ∨ m = 2 ∨ m = 3 ∨ m = 4 ∨ m = 5 ∨ m = 6 ∨ m = 7 ∨ m = 8 := by omega
                  rcases hjj with rfl | rfl | rfl | rfl | rfl | rfl | rfl | rfl | rfl <;> (cases hc; cases hc'; rfl)
                rw [← hcc]; exact of_eqF m1
          · have t1 : leI ((9 : Nat) : Int) (j : Nat) = true := leI_true (by omega)
            simp -implicitDefEqProofs only [↓yP, yT, Nat.reduceAdd, Nat.reduceMul, Nat.reduceSub, Nat.reduceLeDiff, Nat.reduceEqDiff, reduceCtorEq, Nat.reduceBEq, opLen.eq_1, xindex.eq_1, xslice.eq_1, Int.toNat_natCast, hlen, t1, w1]
            refine Rcall_pure (raw_spec l i (i + 1) hl (by omega) (by omega)) (by rfl) fun y hy => ?_
            obtain ⟨s, rfl, hs⟩ := hy
            simp -implicitDefEqProofs only [↓yP, yT, Nat.reduceAdd, Nat.reduceMul, Nat.reduceSub, Nat.reduceLeDiff, Nat.reduceEqDiff, reduceCtorEq, Nat.reduceBEq, w1, zt13, ztd]
            refine ⟨lexTok 9 s, i + 1, rfl, by omega, by omega, .plain hs (by decide), .other hx ⟨fun e => hj 0 58 (by omega) rfl e.symm, fun e => hj 3 123 (by omega) rfl e.symm, fun e => hj 4 125 (by omega) rfl e.symm, ?_⟩⟩
            rcases Int.lt_or_le x.r 97 with g | g
            · exact .inl g
            · rcases Int.lt_or_le 122 x.r with g2 | g2
              · exact .inr g2
              · rw [begins_letter hx g g2] at n4; cases n4
  | false =>
    simp -implicitDefEqProofs only [↓yP, yT, Nat.reduceAdd, Nat.reduceMul, Nat.reduceSub, Nat.reduceLeDiff, Nat.reduceEqDiff, reduceCtorEq, Nat.reduceBEq, h3, h4, h5]
    refine Rcall_pure (numeral_spec l i (by omega)) (by rfl) fun y hy => ?_
    subst hy
    cases n1 : numeralB l i with
    | true =>
      simp -implicitDefEqProofs only [↓yP, yT, Nat.reduceAdd, Nat.reduceMul, Nat.reduceSub, Nat.reduceLeDiff, Nat.reduceEqDiff, reduceCtorEq, Nat.reduceBEq]
      refine Rcall_pure (numbers_spec l i hl hi n1) (by rfl) fun y hy => ?_
      obtain ⟨t, k, rfl, k1, k2, ht⟩ := hy
      simp only [Tok.yv, Tok.cs, Tok.pc, List.map_cons, List.map_nil]
      simp -implicitDefEqProofs only [↓yP, yT, Nat.reduceAdd, Nat.reduceMul, Nat.reduceSub, Nat.reduceLeDiff, Nat.reduceEqDiff, reduceCtorEq, Nat.reduceBEq, zt13, ztd]
      exact ⟨t, k, rfl, k1, k2, ht, .other hx (numeral_plain hx n1)⟩
    | false =>
    simp -implicitDefEqProofs only [↓yP, yT, Nat.reduceAdd, Nat.reduceMul, Nat.reduceSub, Nat.reduceLeDiff, Nat.reduceEqDiff, reduceCtorEq, Nat.reduceBEq]
    refine Rcall_pure (follows_spec l i ⟨#[45, 45, 62]⟩ (by omega) (by decide)) (by rfl) fun y hy => ?_
    subst hy
    cases n2 : followsB l i (strOf ⟨#[45, 45, 62]⟩) with
    | true =>
      obtain ⟨a1, a2⟩ := follows_at (c := 45) (cs := [45, 62]) n2
      obtain ⟨_, a2⟩ := follows_at (c := 45) (cs := [62]) a2
      obtain ⟨a2, _⟩ := follows_at (c := 62) (cs := []) a2
      have hi1 := at_lt (l := l) (i := i + 1 + 1) (by rw [a2]; decide)
      simp -implicitDefEqProofs only [↓yP, yT, Nat.reduceAdd, Nat.reduceMul, Nat.reduceSub, Nat.reduceLeDiff, Nat.reduceEqDiff, reduceCtorEq, Nat.reduceBEq, w3, zt13, ztd]
      exact ⟨lexTok 15 ⟨#[]⟩, i + 3, rfl, by omega, by omega, .plain (by show 0 ≤ _; omega) (by decide), .other hx (by rw [← hat, a1]; exact ⟨by decide, by decide, by decide, by decide⟩)⟩
    | false =>
    simp -implicitDefEqProofs only [↓yP, yT, Nat.reduceAdd, Nat.reduceMul, Nat.reduceSub, Nat.reduceLeDiff, Nat.reduceEqDiff, reduceCtorEq, Nat.reduceBEq]
    refine Rcall_pure (follows_spec l i ⟨#[60, 33, 45, 45]⟩ (by omega) (by decide)) (by rfl) fun y hy => ?_
    subst hy
    cases n3 : followsB l i (strOf ⟨#[60, 33, 45, 45]⟩) with
    | true =>
      obtain ⟨a1, a2⟩ := follows_at (c := 60) (cs := [33, 45, 45]) n3
      obtain ⟨_, a2⟩ := follows_at (c := 33) (cs := [45, 45]) a2
      obtain ⟨_, a2⟩ := follows_at (c := 45) (cs := [45]) a2
      obtain ⟨a2, _⟩ := follows_at (c := 45) (cs := []) a2
      have hi1 := at_lt (l := l) (i := i + 1 + 1 + 1) (by rw [a2]; decide)
      simp -implicitDefEqProofs only [↓yP, yT, Nat.reduceAdd, Nat.reduceMul, Nat.reduceSub, Nat.reduceLeDiff, Nat.reduceEqDiff, reduceCtorEq, Nat.reduceBEq, w4, zt13, ztd]
      exact ⟨lexTok 14 ⟨#[]⟩, i + 4, rfl, by omega, by omega, .plain (by show 0 ≤ _; omega) (by decide), .other hx (by rw [← hat, a1]; exact ⟨by decide, by decide, by decide, by decide⟩)⟩
    | false =>
    simp -implicitDefEqProofs only [↓yP, yT, Nat.reduceAdd, Nat.reduceMul, Nat.reduceSub, Nat.reduceLeDiff, Nat.reduceEqDiff, reduceCtorEq, Nat.reduceBEq]
    refine Rcall_pure (begins_spec l i (by omega)) (by rfl) fun y hy => ?_
    subst hy
    cases n4 : beginsB l i with
    | true =>
      simp -implicitDefEqProofs only [↓yP, yT, Nat.reduceAdd, Nat.reduceMul, Nat.reduceSub, Nat.reduceLeDiff, Nat.reduceEqDiff, reduceCtorEq, Nat.reduceBEq]
      refine Rcall_pure (named_spec l i hl hi (begins_in n4)) (by rfl) fun y hy => ?_
      obtain ⟨t, k, rfl, k1, k2, ht, hq⟩ := hy
      simp only [Tok.yv, Tok.cs, Tok.pc, List.map_cons, List.map_nil]
      simp -implicitDefEqProofs only [↓yP, yT, Nat.reduceAdd, Nat.reduceMul, Nat.reduceSub, Nat.reduceLeDiff, Nat.reduceEqDiff, reduceCtorEq, Nat.reduceBEq, zt13, ztd]
      obtain ⟨g1, g2, g3⟩ := begins_plain hx n4
      refine ⟨t, k, rfl, k1, k2, ht, fun y hy e => ?_, fun y hy e => ?_, fun y hy e => ?_, fun y hy e e2 e3 e4 e5 => hq ?_ e3 e4 e5⟩
      · rw [hx] at hy; cases hy; exact absurd e g1
      · rw [hx] at hy; cases hy; exact absurd e g2
      · rw [hx] at hy; cases hy; exact absurd e g3
      · rw [hx] at hy; cases hy; rw [hat]; simp [inB, startB_letter e e2]
    | false =>
    cases n5 : eqI x.r 64 with
    | true =>
      have := of_eqT n5
      simp -implicitDefEqProofs only [↓yP, yT, Nat.reduceAdd, Nat.reduceMul, Nat.reduceSub, Nat.reduceLeDiff, Nat.reduceEqDiff, reduceCtorEq, Nat.reduceBEq, n5, w1]
      refine Rcall_pure (begins_spec l (i + 1) (by omega)) (by rfl) fun y hy => ?_
      subst hy
      cases n6 : beginsB l (i + 1) with
      | true =>
        simp -implicitDefEqProofs only [↓yP, yT, Nat.reduceAdd, Nat.reduceMul, Nat.reduceSub, Nat.reduceLeDiff, Nat.reduceEqDiff, reduceCtorEq, Nat.reduceBEq, w1]
        refine Rcall_pure (take_spec l (i + 1) hl (by omega)) (by rfl) fun y hy => ?_
        obtain ⟨s, k, rfl, hk1, hk2, hs, _, _⟩ := hy
        simp -implicitDefEqProofs only [↓yP, yT, Nat.reduceAdd, Nat.reduceMul, Nat.reduceSub, Nat.reduceLeDiff, Nat.reduceEqDiff, reduceCtorEq, Nat.reduceBEq, zt13, ztd]
        exact ⟨lexTok 3 s, k, rfl, by omega, by omega, .plain hs (by decide), .other hx (by unfold Plain; omega)⟩
      | false =>
        simp -implicitDefEqProofs only [↓yP, yT, Nat.reduceAdd, Nat.reduceMul, Nat.reduceSub, Nat.reduceLeDiff, Nat.reduceEqDiff, reduceCtorEq, Nat.reduceBEq]
        refine Rl_inv (fun d e st => ∃ (j : Nat), e = ([.c (.p (rR l)), yd (.int .i64 (i : Nat)), .c .top, .c .top, .c (.ptr 0 0 0 0), .c .top, yd (.int .i64 x.r), yd (.string ⟨#[58, 59, 44, 123, 125, 40, 41, 91, 93]⟩), .c .top, .c .top, .c .top, .c .top, .c .top, .c .top, .c .top, .c .top, yd (.int .i64 (j : Nat)), .c .top, .c .top, .c .top, .c .top, .c .top, .c .top, .c .top, .c .top, .c .top, .c .top, .c .top, .c .top, .c .top, .c .top, .c .top, .c .top, .c .top, .c .top, .c .top, .c .top, .c .top, .c .top, .c .top, .c .top, .c .top, .c .top, .c .top, .c .top, .c .top, .c .top, .c .top, .c .top, .c .top, .c .top, .c .top, .c .top, .c .top, .c .top, .c .top, .c .top, .c .top, .c .top, .c .top, .c .top, .c .top, .c .top, .c .top, .c .top, .c .top, .c .top, .c .top, .c .top, .c .top, .c .top, .c .top, .c .top, .c .top, .c .top, .c .top, .c .top, .c .top, .c .top, .c .top, .c .top, .c .top, .c .top, .c .top, .c .top, .c .top, .c .top, .c .top, .c .top, .c .top, .c .top, .c .top, .c .top, .c .top, .c .top, .c .top, .c .top, .c .top, .c .top, .c .top, .c .top, .c .top, .c .top, .c .top, .c .top, .c .top, .c .top, .c .top, .c .top, .c .top, .c .top, .c .top, .c .top, .c .top, .c .top, .c .top, .c .top, .c .top, .c .top, .c .top, .c .top, .c .top, .c .top, .c .top, .c .top, .c .top, .c .top, .c .top, .c .top, .c .top, .c .top, .c .top, .c .top, .c .top, .c .top, .c .top, .c .top, .c .top, .c .top, .c .top, .c .top, .c .top, .c .top, .c .top, .c .top, .c .top, .c .top, .c .top, .c .top, .c .top, .c .top, .c .top, .c .top, .c .top, .c .top, .c .top, .c .top, .c .top, .c .top, .c .top, .c .top, .c .top, .c .top, .c .top, .c .top, .c .top, .c .top, .c .top, .c .top, .c .top, .c .top, .c .top, .c .top, .c .top, .c .top, .c .top, .c .top, .c .top, .c .top, .c .top, .c .top, .c .top, .c .top, .c .top, .c .top, .c .top, .c .top, .c .top, .c .top, .c .top]) ∧ st = [.box zt] ∧ j + d = 9 ∧ ∀ m c, m < j → [58, 59, 44, 123, 125, 40, 41, 91, 93][m]? = some c → c ≠ x.r) [true, true, false, false, true, false, true, true, false, false, false, false, false, false, false, false, true] 9 [0] (by decide) (pinned_zero _) ⟨0, by (simp only [yE, Nat.reduceEqDiff, Nat.reduceAdd, reduceCtorEq]; try rfl), by (simp only [yE, Nat.reduceEqDiff, Nat.reduceAdd, reduceCtorEq]; try rfl), by omega, fun m c h => by omega⟩ ?_
        rintro d e st ⟨j, rfl, rfl, hd, hj⟩
        have hlen : (strOf ⟨#[58, 59, 44, 123, 125, 40, 41, 91, 93]⟩).length = 9 := rfl
        by_cases hj9 : j < 9
        · obtain ⟨c, hc⟩ := get_lt (l := strOf ⟨#[58, 59, 44, 123, 125, 40, 41, 91, 93]⟩) (i := j) (by rw [hlen]; exact hj9)
          have t1 : leI ((9 : Nat) : Int) (j : Nat) = false := leI_false (by omega)
          have c0 : (0 : Int) ≤ (j : Nat) := by omega
          have v1 : wrapK .i64 ((j : Int) + 1) = ((j + 1 : Nat) : Int) := wrap_succ (by omega)
          have v2 : wrapK .i64 (16 + (j : Int)) = ((16 + j : Nat) : Int) := wrap_nat (i := 16 + j) (by omega)
          cases m1 : eqI ((c.toNat : Nat) : Int) x.r with
          | true =>
            have m1' := of_eqT m1
            simp -implicitDefEqProofs only [↓yP, yT, Nat.reduceAdd, Nat.reduceMul, Nat.reduceSub, Nat.reduceLeDiff, Nat.reduceEqDiff, reduceCtorEq, Nat.reduceBEq, opLen.eq_1, xindex.eq_1, xslice.eq_1, Int.toNat_natCast, hlen, t1, c0, hc, u8_i64, m1, v2, w1, zt13, ztd]
            refine ⟨lexTok ((16 + j : Nat) : Int) ⟨#[]⟩, i + 1, rfl, by omega, by omega, ⟨by show 0 ≤ _; omega, fun _ _ => rfl⟩, ?_⟩
            have hjj : j = 0 ∨ j = 1 ∨ j = 2 ∨ j = 3 ∨ j = 4 ∨ j = 5 ∨ j = 6 ∨ j = 7 ∨ j = 8 := by omega
            rcases hjj with rfl | rfl | rfl | rfl | rfl | rfl | rfl | rfl | rfl
            all_goals
              cases hc
              have m2 : x.r = _ := m1'.symm
              refine ⟨fun y hy e => ?_, fun y hy e => ?_, fun y hy e => ?_, fun y hy e e2 => ?_⟩ <;> (rw [hx] at hy; cases hy; first | exact ⟨rfl, rfl⟩ | (exfalso; rw [m2] at e; exact absurd e (by decide)) | (exfalso; rw [m2] at e e2; exact absurd e2 (by decide)))
          | false =>
            simp -implicitDefEqProofs only [↓yP, yT, Nat.reduceAdd, Nat.reduceMul, Nat.reduceSub, Nat.reduceLeDiff, Nat.reduceEqDiff, reduceCtorEq, Nat.reduceBEq, opLen.eq_1, xindex.eq_1, xslice.eq_1, Int.toNat_natCast, hlen, t1, c0, hc, u8_i64, m1, v1]
            refine ⟨d - 1, [0], by omega, by decide, pinned_zero _, j + 1, by (simp only [yE, Nat.reduceEqDiff, Nat.reduceAdd, reduceCtorEq]; try rfl), by (simp only [yE, Nat.reduceEqDiff, Nat.reduceAdd, reduceCtorEq]; try rfl), by omega, fun m c' hm hc' => ?_⟩
            rcases Nat.lt_or_ge m j with g | g
            · exact hj m c' g hc'
            · obtain rfl : m = j := by omega
              have hcc : ((c.toNat : Nat) : Int) = c' := by
                have hjj : m = 0 ∨ m = 1 ∨ m = 2 ∨ m = 3 ∨ m = 4 ∨ m = 5 ∨ m = 6 ∨ m = 7 ∨ m = 8 := by omega
                rcases hjj with rfl | rfl | rfl | rfl | rfl | rfl | rfl | rfl | rfl <;> (cases hc; cases hc'; rfl)
              rw [← hcc]; exact of_eqF m1
        · have t1 : leI ((9 : Nat) : Int) (j : Nat) = true := leI_true (by omega)
          simp -implicitDefEqProofs only [↓yP, yT, Nat.reduceAdd, Nat.reduceMul, Nat.reduceSub, Nat.reduceLeDiff, Nat.reduceEqDiff, reduceCtorEq, Nat.reduceBEq, opLen.eq_1, xindex.eq_1, xslice.eq_1, Int.toNat_natCast, hlen, t1, w1]
          refine Rcall_pure (raw_spec l i (i + 1) hl (by omega) (by omega)) (by rfl) fun y hy => ?_
          obtain ⟨s, rfl, hs⟩ := hy
          simp -implicitDefEqProofs only [↓yP, yT, Nat.reduceAdd, Nat.reduceMul, Nat.reduceSub, Nat.reduceLeDiff, Nat.reduceEqDiff, reduceCtorEq, Nat.reduceBEq, w1, zt13, ztd]
          refine ⟨lexTok 9 s, i + 1, rfl, by omega, by omega, .plain hs (by decide), .other hx ⟨fun e => hj 0 58 (by omega) rfl e.symm, fun e => hj 3 123 (by omega) rfl e.symm, fun e => hj 4 125 (by omega) rfl e.symm, ?_⟩⟩
          rcases Int.lt_or_le x.r 97 with g | g
          · exact .inl g
          · rcases Int.lt_or_le 122 x.r with g2 | g2
            · exact .inr g2
            · rw [begins_letter hx g g2] at n4; cases n4
    | false =>
      simp -implicitDefEqProofs only [↓yP, yT, Nat.reduceAdd, Nat.reduceMul, Nat.reduceSub, Nat.reduceLeDiff, Nat.reduceEqDiff, reduceCtorEq, Nat.reduceBEq, n5]
      refine Rl_inv (fun d e st => ∃ (j : Nat), e = ([.c (.p (rR l)), yd (.int .i64 (i : Nat)), .c .top, .c .top, .c (.ptr 0 0 0 0), .c .top, yd (.int .i64 x.r), yd (.string ⟨#[58, 59, 44, 123, 125, 40, 41, 91, 93]⟩), .c .top, .c .top, .c .top, .c .top, .c .top, .c .top, .c .top, .c .top, yd (.int .i64 (j : Nat)), .c .top, .c .top, .c .top, .c .top, .c .top, .c .top, .c .top, .c .top, .c .top, .c .top, .c .top, .c .top, .c .top, .c .top, .c .top, .c .top, .c .top, .c .top, .c .top, .c .top, .c .top, .c .top, .c .top, .c .top, .c .top, .c .top, .c .top, .c .top, .c .top, .c .top, .c .top, .c .top, .c .top, .c .top, .c .top, .c .top, .c .top, .c .top, .c .top, .c .top, .c .top, .c .top, .c .top, .c .top, .c .top, .c .top, .c .top, .c .top, .c .top, .c .top, .c .top, .c .top, .c .top, .c .top, .c .top, .c .top, .c .top, .c .top, .c .top, .c .top, .c .top, .c .top, .c .top, .c .top, .c .top, .c .top, .c .top, .c .top, .c .top, .c .top, .c .top, .c .top, .c .top, .c .top, .c .top, .c .top, .c .top, .c .top, .c .top, .c .top, .c .top, .c .top, .c .top, .c .top, .c .top, .c .top, .c .top, .c .top, .c .top, .c .top, .c .top, .c .top, .c .top, .c .top, .c .top, .c .top, .c .top, .c .top, .c .top, .c .top, .c .top, .c .top, .c .top, .c .top, .c .top, .c .top, .c .top, .c .top, .c .top, .c .top, .c .top, .c .top, .c .top, .c .top, .c .top, .c .top, .c .top, .c .top, .c .top, .c .top, .c .top, .c .top, .c .top, .c .top, .c .top, .c .top, .c .top, .c .top, .c .top, .c .top, .c .top, .c .top, .c .top, .c .top, .c .top, .c .top, .c .top, .c .top, .c .top, .c .top, .c .top, .c .top, .c .top, .c .top, .c .top, .c .top, .c .top, .c .top, .c .top, .c .top, .c .top, .c .top, .c .top, .c .top, .c .top, .c .top, .c .top, .c .top, .c .top, .c .top, .c .top, .c .top, .c .top, .c .top, .c .top, .c .top, .c .top, .c .top, .c .top, .c .top, .c .top, .c .top, .c .top]) ∧ st = [.box zt] ∧ j + d = 9 ∧ ∀ m c, m < j → [58, 59, 44, 123, 125, 40, 41, 91, 93][m]? = some c → c ≠ x.r) [true, true, false, false, true, false, true, true, false, false, false, false, false, false, false, false, true] 9 [0] (by decide) (pinned_zero _) ⟨0, by (simp only [yE, Nat.reduceEqDiff, Nat.reduceAdd, reduceCtorEq]; try rfl), by (simp only [yE, Nat.reduceEqDiff, Nat.reduceAdd, reduceCtorEq]; try rfl), by omega, fun m c h => by omega⟩ ?_
      rintro d e st ⟨j, rfl, rfl, hd, hj⟩
      have hlen : (strOf ⟨#[58, 59, 44, 123, 125, 40, 41, 91, 93]⟩).length = 9 := rfl
      by_cases hj9 : j < 9
      · obtain ⟨c, hc⟩ := get_lt (l := strOf ⟨#[58, 59, 44, 123, 125, 40, 41, 91, 93]⟩) (i := j) (by rw [hlen]; exact hj9)
        have t1 : leI ((9 : Nat) : Int) (j : Nat) = false := leI_false (by omega)
        have c0 : (0 : Int) ≤ (j : Nat) := by omega
        have v1 : wrapK .i64 ((j : Int) + 1) = ((j + 1 : Nat) : Int) := wrap_succ (by omega)
        have v2 : wrapK .i64 (16 + (j : Int)) = ((16 + j : Nat) : Int) := wrap_nat (i := 16 + j) (by omega)
        cases m1 : eqI ((c.toNat : Nat) : Int) x.r with
        | true =>
          have m1' := of_eqT m1
          simp -implicitDefEqProofs only [↓yP, yT, Nat.reduceAdd, Nat.reduceMul, Nat.reduceSub, Nat.reduceLeDiff, Nat.reduceEqDiff, reduceCtorEq, Nat.reduceBEq, opLen.eq_1, xindex.eq_1, xslice.eq_1, Int.toNat_natCast, hlen, t1, c0, hc, u8_i64, m1, v2, w1, zt13, ztd]
          refine ⟨lexTok ((16 + j : Nat) : Int) ⟨#[]⟩, i + 1, rfl, by omega, by omega, ⟨by show 0 ≤ _; omega, fun _ _ => rfl⟩, ?_⟩
          have hjj : j = 0 ∨ j = 1 ∨ j = 2 ∨ j = 3 ∨ j = 4 ∨ j = 5 ∨ j = 6 ∨ j = 7 ∨ j = 8 := by omega
          rcases hjj with rfl | rfl | rfl | rfl | rfl | rfl | rfl | rfl | rfl
          all_goals
            cases hc
            have m2 : x.r = _ := m1'.symm
            refine ⟨fun y hy e => ?_, fun y hy e => ?_, fun y hy e => ?_, fun y hy e e2 => ?_⟩ <;> (rw [hx] at hy; cases hy; first | exact ⟨rfl, rfl⟩ | (exfalso; rw [m2] at e; exact absurd e (by decide)) | (exfalso; rw [m2] at e e2; exact absurd e2 (by decide)))
        | false =>
          simp -implicitDefEqProofs only [↓yP, yT, Nat.reduceAdd, Nat.reduceMul, Nat.reduceSub, Nat.reduceLeDiff, Nat.reduceEqDiff, reduceCtorEq, Nat.reduceBEq, opLen.eq_1, xindex.eq_1, xslice.eq_1, Int.toNat_natCast, hlen, t1, c0, hc, u8_i64, m1, v1]
          refine ⟨d - 1, [0], by omega, by decide, pinned_zero _, j + 1, by (simp only [yE, Nat.reduceEqDiff, Nat.reduceAdd, reduceCtorEq]; try rfl), by (simp only [yE, Nat.reduceEqDiff, Nat.reduceAdd, reduceCtorEq]; try rfl), by omega, fun m c' hm hc' => ?_⟩
          rcases Nat.lt_or_ge m j with g | g
          · exact hj m c' g hc'
          · obtain rfl : m = j := by omega
            have hcc : ((c.toNat : Nat) : Int) = c' := by
              have hjj : m = 0 ∨ m = 1 ∨ m = 2 ∨ m = 3 ∨ m = 4 ∨ m = 5 ∨ m = 6 ∨ m = 7 ∨ m = 8 := by omega
              rcases hjj with rfl | rfl | rfl | rfl | rfl | rfl | rfl | rfl | rfl <;> (cases hc; cases hc'; rfl)
            rw [← hcc]; exact of_eqF m1
      · have t1 : leI ((9 : Nat) : Int) (j : Nat) = true := leI_true (by omega)
        simp -implicitDefEqProofs only [↓yP, yT, Nat.reduceAdd, Nat.reduceMul, Nat.reduceSub, Nat.reduceLeDiff, Nat.reduceEqDiff, reduceCtorEq, Nat.reduceBEq, opLen.eq_1, xindex.eq_1, xslice.eq_1, Int.toNat_natCast, hlen, t1, w1]
        refine Rcall_pure (raw_spec l i (i + 1) hl (by omega) (by omega)) (by rfl) fun y hy => ?_
        obtain ⟨s, rfl, hs⟩ := hy
        simp -implicitDefEqProofs only [↓yP, yT, Nat.reduceAdd, Nat.reduceMul, Nat.reduceSub, Nat.reduceLeDiff, Nat.reduceEqDiff, reduceCtorEq, Nat.reduceBEq, w1, zt13, ztd]
        refine ⟨lexTok 9 s, i + 1, rfl, by omega, by omega, .plain hs (by decide), .other hx ⟨fun e => hj 0 58 (by omega) rfl e.symm, fun e => hj 3 123 (by omega) rfl e.symm, fun e => hj 4 125 (by omega) rfl e.symm, ?_⟩⟩
        rcases Int.lt_or_le x.r 97 with g | g
        · exact .inl g
        · rcases Int.lt_or_le 122 x.r with g2 | g2
          · exact .inr g2
          · rw [begins_letter hx g g2] at n4; cases n4
theorem clex_dummy : True := trivial
end Go.Vx.Seat
end
/- Tokens of code points. -/
section
open Go Go.Vx Go.Proofs
set_option linter.unusedSimpArgs false
set_option linter.unusedVariables false
set_option maxRecDepth 10000
set_option maxHeartbeats 8000000
namespace Go.Vx.Seat
attribute [local congr] Rg_at Rt_at Ro_at Ri_at Rc_at Rto_at Rtk_at Rtf_at Rti_at
attribute [local irreducible] Rg Rt Ro Ri Rc Rto Rtk Rtf Rti Rw Rl Rd Rcall Rtcall kf
/-- Tokens that are read up to a place. -/
inductive Lexed (l : List Rn) : Nat → List Tok → Prop where
  | nil : Lexed l 0 []
  | snoc {i k : Nat} {ts : List Tok} {x : Rn} {t : Tok} : Lexed l i ts → l[i]? = some x → i < k → k ≤ l.length → TokLex l t → OneQ l i t k → Lexed l k (ts ++ [{ t with start := x.a }])
theorem Lexed.len {l : List Rn} {i : Nat} {ts : List Tok} (h : Lexed l i ts) : ts.length ≤ i := by
  induction h with
  | nil => simp
  | snoc h1 h2 h3 h4 h5 h6 ih => simp; omega
theorem clex_spec (l : List Rn) (hl : l.length ≤ 1000000) : PCall C1 23 [.c (.p (rR l))] fun y => ∃ ts : List Tok, y = .c (.p (rT ts)) ∧ Lexed l l.length ts := by
  refine Pf (by rfl) (by rfl) fn23 (by rfl) ?_
  simp only [Try.f23, List.length_cons, List.length_nil, List.replicate, List.cons_append, List.nil_append]
  simp -implicitDefEqProofs only [↓yP, yT, Nat.reduceAdd, Nat.reduceMul, Nat.reduceSub, Nat.reduceLeDiff, Nat.reduceEqDiff, reduceCtorEq, Nat.reduceBEq]
  refine Rl_nil 3 13 (by decide) rfl ?_
  refine Rl_inv (fun d e s => ∃ (i : Nat) (ts : List Tok), e = ([.c (.p (rR l)), .c .top, .c .top, .c (.own 0 13 0 ts.length), yd (.int .i64 (i : Nat)), .c .top, .c .top, .c .top, .c .top, .c .top, .c .top, .c .top, .c .top, .c .top, .c .top, .c .top, .c .top, .c .top, .c .top, .c .top, .c .top, .c .top, .c .top, .c .top, .c .top, .c .top, .c .top, .c .top, .c .top]) ∧ s = [.row 13 (ts.map Tok.pc)] ∧ i + d = l.length ∧ Lexed l i ts) [true, false, false, true, true] l.length [0] (by decide) (pinned_zero _) ⟨0, [], by (simp only [yE, Nat.reduceEqDiff, Nat.reduceAdd, reduceCtorEq]; try rfl), by (simp only [yE, Nat.reduceEqDiff, Nat.reduceAdd, reduceCtorEq]; try rfl), by omega, .nil⟩ ?_
  rintro d e s ⟨i, ts, rfl, rfl, hd, hlx⟩
  have hlen := hlx.len
  by_cases hi : i < l.length
  · obtain ⟨x, hx⟩ := get_lt hi
    have t1 : leI (l.length : Nat) (i : Nat) = false := leI_false (by omega)
    have b1 : (ts.length + 1) * 128 ≤ 70368744177664 := by omega
    simp -implicitDefEqProofs only [↓yP, yT, Nat.reduceAdd, Nat.reduceMul, Nat.reduceSub, Nat.reduceLeDiff, Nat.reduceEqDiff, reduceCtorEq, Nat.reduceBEq, t1]
    refine Rcall_pure (one_spec l i hl hi) (by rfl) fun y hy => ?_
    obtain ⟨t, k, rfl, k1, k2, ht, hq⟩ := hy
    simp only [Tok.yv, Tok.cs, Tok.pc, List.map_cons, List.map_nil]
    simp -implicitDefEqProofs only [↓yP, yT, Nat.reduceAdd, Nat.reduceMul, Nat.reduceSub, Nat.reduceLeDiff, Nat.reduceEqDiff, reduceCtorEq, Nat.reduceBEq, rnGet hx, b1, Nat.reduceLT]
    refine ⟨l.length - k, [3], by omega, by decide, pinned_zero _, k, ts ++ [{ t with start := x.a }], by (simp only [yE, Nat.reduceEqDiff, Nat.reduceAdd, reduceCtorEq]; try rfl), ?_, by omega, hlx.snoc hx k1 k2 ht hq⟩
    simp only [yE, Nat.reduceEqDiff, Nat.reduceAdd, reduceCtorEq, List.map_append]; rfl
  · have t1 : leI (l.length : Nat) (i : Nat) = true := leI_true (by omega)
    obtain rfl : i = l.length := by omega
    simp -implicitDefEqProofs only [↓yP, yT, Nat.reduceAdd, Nat.reduceMul, Nat.reduceSub, Nat.reduceLeDiff, Nat.reduceEqDiff, reduceCtorEq, Nat.reduceBEq, t1]
    exact ⟨ts, rfl, hlx⟩
end Go.Vx.Seat
end
/- The tokens of a text. -/
section
open Go Go.Vx Go.Proofs
set_option linter.unusedSimpArgs false
set_option linter.unusedVariables false
set_option maxRecDepth 20000
set_option maxHeartbeats 4000000
namespace Go.Vx.Seat
attribute [local congr] Rg_at Rt_at Ro_at Ri_at Rc_at Rto_at Rtk_at Rtf_at Rti_at
attribute [local irreducible] Rg Rt Ro Ri Rc Rto Rtk Rtf Rti Rw Rl Rd Rcall Rtcall kf
theorem fn19 : nth C1.P.funcs.toList 19 = some Try.f19 := by kernel_rfl
theorem Lexed.text {l : List Rn} {i : Nat} {ts : List Tok} (h : Lexed l i ts) : ∀ t, t ∈ ts → (strOf t.text).length ≤ 4 * l.length := by
  induction h with
  | nil => intro t ht; simp at ht
  | @snoc i k ts x t h1 h2 h3 h4 h5 h6 ih =>
    intro u hu
    rcases List.mem_append.mp hu with hu | hu
    · exact ih u hu
    · rw [List.mem_singleton.mp hu]
      exact h5.text
theorem giveB (bs : List Int) : yfzC [.row 1 (bs.map eb)] (.own 0 1 0 bs.length) = some (.p (rB bs), [.dead]) := by
  have h : nth [Ent.row 1 (bs.map eb)] 0 = some (.row 1 (bs.map eb)) := rfl
  simp [yfzC, yrow, h, List.take_of_length_le]
theorem split_spec (s : ByteArray) (hs : (strOf s).length ≤ 100000) : PCall C1 19 [yd (.string s)] fun y => ∃ ts : List Tok, y = .c (.p (rT ts)) ∧ ts.length ≤ (strOf s).length ∧ ∀ t, t ∈ ts → (strOf t.text).length ≤ 4 * (strOf s).length := by
  have hb : (strOf s).length ≤ 70368744177664 := by omega
  have hsl : (sBytes s).length = (strOf s).length := by simp [sBytes]
  refine Pf (by rfl) (by rfl) fn19 (by rfl) ?_
  simp only [Try.f19, List.length_cons, List.length_nil, List.replicate, List.cons_append, List.nil_append]
  simp -implicitDefEqProofs only [↓yP, yT, Nat.reduceAdd, Nat.reduceMul, Nat.reduceSub, Nat.reduceLeDiff, Nat.reduceEqDiff, reduceCtorEq, Nat.reduceBEq, hb, byteCells_eb]
  rw [← hsl]
  refine Rcall_give (giveB (sBytes s)) (runes_spec (sBytes s) (by omega)) (by rfl) fun y hy => ?_
  obtain ⟨rs, rfl, hr1, hr2⟩ := hy
  simp -implicitDefEqProofs only [↓yP, yT, Nat.reduceAdd, Nat.reduceMul, Nat.reduceSub, Nat.reduceLeDiff, Nat.reduceEqDiff, reduceCtorEq, Nat.reduceBEq]
  refine Rcall_pure (clex_spec rs (by omega)) (by rfl) fun y hy => ?_
  obtain ⟨ts, rfl, hlx⟩ := hy
  have hlen := hlx.len
  have htx := hlx.text
  simp -implicitDefEqProofs only [↓yP, yT, Nat.reduceAdd, Nat.reduceMul, Nat.reduceSub, Nat.reduceLeDiff, Nat.reduceEqDiff, reduceCtorEq, Nat.reduceBEq]
  exact ⟨ts, rfl, by omega, fun t ht => by have := htx t ht; omega⟩
end Go.Vx.Seat
end
/- CvalueKeeps: the walk. -/
section
open Go Go.Vx Go.Proofs
set_option linter.unusedSimpArgs false
set_option linter.unusedVariables false
set_option maxRecDepth 20000
set_option maxHeartbeats 4000000
namespace Go.Vx.Seat
attribute [local congr] Rg_at Rt_at Ro_at Ri_at Rc_at Rto_at Rtk_at Rtf_at Rti_at
attribute [local irreducible] Rg Rt Ro Ri Rc Rto Rtk Rtf Rti Rw Rl Rd Rcall Rtcall kf
theorem fn5 : nth C1.P.funcs.toList 5 = some Try.f5 := by kernel_rfl
/-- What stays of the tokens. -/
def keepP (t : Tok) : Bool := !eqI t.kind 13 && (!eqI t.kind 25 || keepB t.text)
def nb (t : Tok) : Bool := !eqI t.kind 13
theorem kept_eq (ts : List Tok) (i : Nat) : ∀ m, keptN ts i m = ((ts.drop i).take m).filter kp
  | 0 => by simp [keptN]
  | m + 1 => by
    rw [keptN, kept_eq ts i m, List.take_add_one, List.filter_append, List.getElem?_drop]
    congr 1
    cases h : ts[i + m]? with
    | none => simp
    | some t => by_cases hk : kp t <;> simp [hk]
theorem kept_nb (ts : List Tok) (i m : Nat) : (keptN ts i m).filter nb = keptN ts i m := by
  rw [List.filter_eq_self]
  intro t ht
  rw [kept_eq] at ht
  have hk := (List.mem_filter.mp ht).2
  simp only [kp, Bool.and_eq_true, eqI_eq, decide_eq_true_eq] at hk
  simp only [nb, Bool.not_eq_true', eqI_eq, decide_eq_false_iff_not]
  omega
theorem run_nb (ts : List Tok) (cols : List Int) (i k : Nat) : (runOut ts cols i k).filter nb = keptN ts i (k - i) := by
  have h1 := kept_nb ts i (k - i)
  have h2 : ∀ s f, nb (blankTok s f) = false := fun s f => rfl
  unfold runOut
  split
  · exact h1
  · split
    · rw [List.filter_cons, h2]; simp [h1]
    · split
      · exact h1
      · rw [List.filter_append, h1, List.filter_cons, h2]; simp
theorem kp_quiet {t : Tok} (h : quiet t.kind = true) : keepP t = kp t := by
  simp only [quiet, Bool.or_eq_true, decide_eq_true_eq] at h
  rw [keepP, kp, eqI_eq, eqI_eq]
  rcases h with h | h <;> simp [h]
theorem val_nb (ts : List Tok) (cols : List Int) : ∀ (n i : Nat), ts.length - i ≤ n → (valF ts cols i).filter nb = (ts.drop i).filter keepP
  | 0, i, h => by rw [valF_end (by omega), List.drop_eq_nil_of_le (by omega)]; rfl
  | n + 1, i, h => by
    by_cases hi : i < ts.length
    · obtain ⟨t, ht⟩ := get_lt hi
      have hd : ts.drop i = t :: ts.drop (i + 1) := by
        obtain ⟨h1, h2⟩ := List.getElem?_eq_some_iff.mp ht
        rw [List.drop_eq_getElem_cons h1, h2]
      cases hq : quiet t.kind with
      | false =>
        rw [valF_one ht hq, hd, List.filter_cons, List.filter_cons, val_nb ts cols n (i + 1) (by omega)]
        have h1 : t.kind ≠ 13 ∧ t.kind ≠ 25 := by simp only [quiet, Bool.or_eq_false_iff, decide_eq_false_iff_not] at hq; exact hq
        have h2 : nb t = true := by rw [nb, eqI_false h1.1]; rfl
        have h3 : keepP t = true := by rw [keepP, eqI_false h1.1, eqI_false h1.2]; rfl
        rw [h2, h3]
      | true =>
        have hqe := qend_ge ts (ts.length - (i + 1)) (i + 1)
        have hall : ∀ d k, (∀ j, k ≤ j → j < qend ts d k → quiet (kindAt ts j) = true) := by
          intro d
          induction d with
          | zero => intro k j h1 h2; simp [qend] at h2; omega
          | succ d ih =>
            intro k j h1 h2
            unfold qend at h2
            split at h2
            · rename_i hk
              by_cases e : j = k
              · subst e; exact hk
              · exact ih (k + 1) j (by omega) h2
            · omega
        have hq2 := hall (ts.length - (i + 1)) (i + 1)
        rw [valF, dif_pos hi, if_pos (by rw [kindAt_some ht]; exact hq)]
        generalize qend ts (ts.length - (i + 1)) (i + 1) = k at hqe hq2
        have hqa : ∀ j, i ≤ j → j < k → quiet (kindAt ts j) = true := fun j h1 h2 => by
          by_cases e : j = i
          · subst e; rw [kindAt_some ht]; exact hq
          · exact hq2 j (by omega) h2
        rw [List.filter_append, run_nb, val_nb ts cols n k (by omega), kept_eq]
        have hsp : ts.drop i = (ts.drop i).take (k - i) ++ ts.drop k := by
          rw [show k = i + (k - i) by omega, ← List.drop_drop, show i + (k - i) - i = k - i by omega, List.take_append_drop]
        conv => rhs; rw [hsp]
        rw [List.filter_append]
        congr 1
        refine List.filter_congr fun u hu => ?_
        obtain ⟨j, hj⟩ := List.getElem?_of_mem hu
        rw [List.getElem?_take] at hj
        split at hj
        · rw [List.getElem?_drop] at hj
          exact (kp_quiet (by rw [← kindAt_some hj]; exact hqa (i + j) (by omega) (by omega))).symm
        · cases hj
    · rw [valF_end (by omega), List.drop_eq_nil_of_le (by omega)]; rfl
theorem of_nb (ts : List Tok) : (ofP ts).filter nb = ts.filter keepP := by rw [ofP, val_nb ts _ ts.length 0 (by omega), List.drop_zero]
theorem of_length (ts : List Tok) : (ofP ts).length ≤ ts.length := valF_length ts _ ts.length 0 (by omega)
theorem filter_snoc {l : List Tok} {p : Tok → Bool} {i : Nat} {t : Tok} (h : l[i]? = some t) : (l.take (i + 1)).filter p = (l.take i).filter p ++ (if p t then [t] else []) := by
  rw [List.take_add_one, h, List.filter_append]
  by_cases hp : p t <;> simp [hp]
theorem filter_le (l : List Tok) (p : Tok → Bool) (i : Nat) : ((l.take i).filter p).length ≤ l.length := by
  have h1 := List.length_filter_le p (l.take i)
  have h2 : (l.take i).length ≤ l.length := by simp; omega
  omega
theorem lend2 (x : List Tok) : List.map (borV [.row 13 (x.map Tok.pc), .row 13 (x.map Tok.pc)]) [.c (.own 0 13 0 x.length), .c (.own 1 13 0 x.length)] = [.c (.p (rT x)), .c (.p (rT x))] := by
  have h0 : nth [Ent.row 13 (x.map Tok.pc), .row 13 (x.map Tok.pc)] 0 = some (.row 13 (x.map Tok.pc)) := rfl
  have h1 : nth [Ent.row 13 (x.map Tok.pc), .row 13 (x.map Tok.pc)] 1 = some (.row 13 (x.map Tok.pc)) := rfl
  simp [borV, borC, yrow, h0, h1, List.take_of_length_le]
theorem keepsL_spec (bs : List Int) : PCall C1 5 [.c (.p (rB bs))] fun y => y = yd (.bool true) := by
  refine Pf (by rfl) (by rfl) fn5 (by rfl) ?_
  simp only [Try.f5, List.length_cons, List.length_nil, List.replicate, List.cons_append, List.nil_append]
  simp -implicitDefEqProofs only [↓yP, yT, Nat.reduceAdd, Nat.reduceMul, Nat.reduceSub, Nat.reduceLeDiff, Nat.reduceEqDiff, reduceCtorEq, Nat.reduceBEq]
  refine Rcall_pure aliveC_spec (by rfl) fun y hy => ?_
  subst hy
  by_cases hl : bs.length ≤ 400
  · have t1 : leI (bs.length : Nat) 400 = true := leI_true (by omega)
    have hsl : (strOf (strMk (bs.map fun n => UInt8.ofNat n.toNat))).length = bs.length := by simp [strOf, strMk]
    simp -implicitDefEqProofs only [↓yP, yT, Nat.reduceAdd, Nat.reduceMul, Nat.reduceSub, Nat.reduceLeDiff, Nat.reduceEqDiff, reduceCtorEq, Nat.reduceBEq, t1, ybytes_eb, bytesOf_u8]
    refine Rcall_pure (split_spec (strMk (bs.map fun n => UInt8.ofNat n.toNat)) (by omega)) (by rfl) fun y hy => ?_
    obtain ⟨l, rfl, hll, hlt⟩ := hy
    simp -implicitDefEqProofs only [↓yP, yT, Nat.reduceAdd, Nat.reduceMul, Nat.reduceSub, Nat.reduceLeDiff, Nat.reduceEqDiff, reduceCtorEq, Nat.reduceBEq]
    refine Rcall_pure (of_spec l (by omega) (fun t ht => by have := hlt t ht; omega)) (by rfl) fun y hy => ?_
    subst hy
    have hol := of_length l
    have hnb := of_nb l
    generalize ofP l = m at hol hnb
    simp -implicitDefEqProofs only [↓yP, yT, Nat.reduceAdd, Nat.reduceMul, Nat.reduceSub, Nat.reduceLeDiff, Nat.reduceEqDiff, reduceCtorEq, Nat.reduceBEq]
    refine Rl_nil 6 13 (by decide) rfl ?_
    refine Rl_inv (fun d e s => ∃ (i : Nat) (x : List Tok), e = ([.c .top, .c .top, .c .top, .c .top, .c (.p (rT l)), .c (.p (rT m)), .c (.own 0 13 0 x.length), yd (.slice none 0 0), yd (.int .i64 (i : Nat)), .c .top, .c .top, .c .top, .c .top, .c .top, .c .top, .c .top, .c .top, .c .top, .c .top, .c .top, .c .top, .c .top, .c .top, .c .top, .c .top, .c .top, .c .top, .c .top, .c .top, .c .top, .c .top, .c .top, .c .top, .c .top, .c .top, .c .top, .c .top, .c .top, .c .top, .c .top, .c .top, .c .top, .c .top, .c .top, .c .top, .c .top, .c .top, .c .top, .c .top, .c .top, .c .top, .c .top, .c .top, .c .top, .c .top, .c .top, .c .top, .c .top, .c .top, .c .top, .c .top, .c .top, .c .top, .c .top, .c .top, .c .top, .c .top, .c .top, .c .top, .c .top, .c .top, .c .top, .c .top, .c .top, .c .top, .c .top, .c .top, .c .top, .c .top, .c .top, .c .top]) ∧ s = [.row 13 (x.map Tok.pc)] ∧ i + d = l.length ∧ x = (l.take i).filter keepP) [false, false, false, false, true, true, true, true, true] l.length [0] (by decide) (pinned_zero _) ⟨0, [], by (simp only [yE, Nat.reduceEqDiff, Nat.reduceAdd, reduceCtorEq]; try rfl), by (simp only [yE, Nat.reduceEqDiff, Nat.reduceAdd, reduceCtorEq]; try rfl), by omega, by simp⟩ ?_
    rintro d e st ⟨i, x, rfl, rfl, hd, hx⟩
    by_cases hi : i < l.length
    · obtain ⟨t, ht⟩ := get_lt hi
      have hxl := filter_le l keepP i
      rw [← hx] at hxl
      have hsn := filter_snoc (p := keepP) ht
      have t2 : leI (l.length : Nat) (i : Nat) = false := leI_false (by omega)
      have w1 : wrapK .i64 ((i : Int) + 1) = ((i + 1 : Nat) : Int) := wrap_succ (by omega)
      have b1 : (x.length + 1) * 128 ≤ 70368744177664 := bytes_le _ 1 (by omega) (by omega)
      cases q1 : eqI t.kind 13 with
      | true =>
        have hk : keepP t = false := by rw [keepP, q1]; rfl
        rw [hk] at hsn
        simp only [Bool.false_eq_true, if_false, List.append_nil] at hsn
        simp -implicitDefEqProofs only [↓yP, yT, Nat.reduceAdd, Nat.reduceMul, Nat.reduceSub, Nat.reduceLeDiff, Nat.reduceEqDiff, reduceCtorEq, Nat.reduceBEq, t2, get_map ht, Tok.pc, q1, w1]
        refine ⟨d - 1, [0], by omega, by decide, pinned_zero _, i + 1, x, by (simp only [yE, Nat.reduceEqDiff, Nat.reduceAdd, reduceCtorEq]; try rfl), by (simp only [yE, Nat.reduceEqDiff, Nat.reduceAdd, reduceCtorEq]; try rfl), by omega, by rw [hsn]; exact hx⟩
      | false =>
        cases q2 : eqI t.kind 25 with
        | false =>
          have hk : keepP t = true := by rw [keepP, q1, q2]; rfl
          rw [hk] at hsn
          simp only [if_true] at hsn
          simp -implicitDefEqProofs only [↓yP, yT, Nat.reduceAdd, Nat.reduceMul, Nat.reduceSub, Nat.reduceLeDiff, Nat.reduceEqDiff, reduceCtorEq, Nat.reduceBEq, t2, get_map ht, Tok.pc, q1, q2, w1, b1]
          refine ⟨d - 1, [2], by omega, by decide, pinned_zero _, i + 1, x ++ [t], by (simp only [yE, Nat.reduceEqDiff, Nat.reduceAdd, reduceCtorEq]; try rfl), ?_, by omega, by rw [hsn, hx]⟩
          simp only [yE, Nat.reduceEqDiff, Nat.reduceAdd, reduceCtorEq, List.map_append]; rfl
        | true =>
          simp -implicitDefEqProofs only [↓yP, yT, Nat.reduceAdd, Nat.reduceMul, Nat.reduceSub, Nat.reduceLeDiff, Nat.reduceEqDiff, reduceCtorEq, Nat.reduceBEq, t2, get_map ht, Tok.pc, q1, q2]
          refine Rcall_pure (keepsR_spec t.text (by have := hlt t (List.mem_of_getElem? ht); omega)) (by rfl) fun y hy => ?_
          subst hy
          cases hkb : keepB t.text with
          | true =>
            have hk : keepP t = true := by rw [keepP, q1, q2, hkb]; rfl
            rw [hk] at hsn
            simp only [if_true] at hsn
            simp -implicitDefEqProofs only [↓yP, yT, Nat.reduceAdd, Nat.reduceMul, Nat.reduceSub, Nat.reduceLeDiff, Nat.reduceEqDiff, reduceCtorEq, Nat.reduceBEq, get_map ht, Tok.pc, w1, b1]
            refine ⟨d - 1, [2], by omega, by decide, pinned_zero _, i + 1, x ++ [t], by (simp only [yE, Nat.reduceEqDiff, Nat.reduceAdd, reduceCtorEq]; try rfl), ?_, by omega, by rw [hsn, hx]⟩
            simp only [yE, Nat.reduceEqDiff, Nat.reduceAdd, reduceCtorEq, List.map_append]; rfl
          | false =>
            have hk : keepP t = false := by rw [keepP, q1, q2, hkb]; rfl
            rw [hk] at hsn
            simp only [Bool.false_eq_true, if_false, List.append_nil] at hsn
            simp -implicitDefEqProofs only [↓yP, yT, Nat.reduceAdd, Nat.reduceMul, Nat.reduceSub, Nat.reduceLeDiff, Nat.reduceEqDiff, reduceCtorEq, Nat.reduceBEq, w1]
            refine ⟨d - 1, [0], by omega, by decide, pinned_zero _, i + 1, x, by (simp only [yE, Nat.reduceEqDiff, Nat.reduceAdd, reduceCtorEq]; try rfl), by (simp only [yE, Nat.reduceEqDiff, Nat.reduceAdd, reduceCtorEq]; try rfl), by omega, by rw [hsn]; exact hx⟩
    · have t2 : leI (l.length : Nat) (i : Nat) = true := leI_true (by omega)
      rw [List.take_of_length_le (by omega)] at hx
      have hxl := filter_le l keepP l.length
      rw [List.take_length, ← hx] at hxl
      simp -implicitDefEqProofs only [↓yP, yT, Nat.reduceAdd, Nat.reduceMul, Nat.reduceSub, Nat.reduceLeDiff, Nat.reduceEqDiff, reduceCtorEq, Nat.reduceBEq, t2]
      refine Rl_nil 7 13 (by decide) rfl ?_
      refine Rl_inv (fun d e s => ∃ (i : Nat) (z : List Tok), e = ([.c .top, .c .top, .c .top, .c .top, .c .top, .c (.p (rT m)), .c (.own 0 13 0 x.length), .c (.own 1 13 0 z.length), .c .top, yd (.int .i64 (i : Nat)), .c .top, .c .top, .c .top, .c .top, .c .top, .c .top, .c .top, .c .top, .c .top, .c .top, .c .top, .c .top, .c .top, .c .top, .c .top, .c .top, .c .top, .c .top, .c .top, .c .top, .c .top, .c .top, .c .top, .c .top, .c .top, .c .top, .c .top, .c .top, .c .top, .c .top, .c .top, .c .top, .c .top, .c .top, .c .top, .c .top, .c .top, .c .top, .c .top, .c .top, .c .top, .c .top, .c .top, .c .top, .c .top, .c .top, .c .top, .c .top, .c .top, .c .top, .c .top, .c .top, .c .top, .c .top, .c .top, .c .top, .c .top, .c .top, .c .top, .c .top, .c .top, .c .top, .c .top, .c .top, .c .top, .c .top, .c .top, .c .top, .c .top, .c .top, .c .top]) ∧ s = [.row 13 (x.map Tok.pc), .row 13 (z.map Tok.pc)] ∧ i + d = m.length ∧ z = (m.take i).filter nb) [false, false, false, false, false, true, true, true, false, true] m.length [0, 1] (by decide) (pinned_zero _) ⟨0, [], by (simp only [yE, Nat.reduceEqDiff, Nat.reduceAdd, reduceCtorEq]; try rfl), by (simp only [yE, Nat.reduceEqDiff, Nat.reduceAdd, reduceCtorEq]; try rfl), by omega, by simp⟩ ?_
      rintro d e st ⟨i, z, rfl, rfl, hd, hz⟩
      by_cases hi : i < m.length
      · obtain ⟨t, ht⟩ := get_lt hi
        have hzl := filter_le m nb i
        rw [← hz] at hzl
        have hsn := filter_snoc (p := nb) ht
        have t2 : leI (m.length : Nat) (i : Nat) = false := leI_false (by omega)
        have w1 : wrapK .i64 ((i : Int) + 1) = ((i + 1 : Nat) : Int) := wrap_succ (by omega)
        have b1 : (z.length + 1) * 128 ≤ 70368744177664 := bytes_le _ 1 (by omega) (by omega)
        cases q1 : eqI t.kind 13 with
        | true =>
          have hk : nb t = false := by rw [nb, q1]; rfl
          rw [hk] at hsn
          simp only [Bool.false_eq_true, if_false, List.append_nil] at hsn
          simp -implicitDefEqProofs only [↓yP, yT, Nat.reduceAdd, Nat.reduceMul, Nat.reduceSub, Nat.reduceLeDiff, Nat.reduceEqDiff, reduceCtorEq, Nat.reduceBEq, t2, get_map ht, Tok.pc, q1, w1]
          refine ⟨d - 1, [0, 1], by omega, by decide, pinned_zero _, i + 1, z, by (simp only [yE, Nat.reduceEqDiff, Nat.reduceAdd, reduceCtorEq]; try rfl), by (simp only [yE, Nat.reduceEqDiff, Nat.reduceAdd, reduceCtorEq]; try rfl), by omega, by rw [hsn]; exact hz⟩
        | false =>
          have hk : nb t = true := by rw [nb, q1]; rfl
          rw [hk] at hsn
          simp only [if_true] at hsn
          simp -implicitDefEqProofs only [↓yP, yT, Nat.reduceAdd, Nat.reduceMul, Nat.reduceSub, Nat.reduceLeDiff, Nat.reduceEqDiff, reduceCtorEq, Nat.reduceBEq, t2, get_map ht, Tok.pc, q1, w1, b1]
          refine ⟨d - 1, [0, 3], by omega, by decide, pinned_zero _, i + 1, z ++ [t], by (simp only [yE, Nat.reduceEqDiff, Nat.reduceAdd, reduceCtorEq]; try rfl), ?_, by omega, by rw [hsn, hz]⟩
          simp only [yE, Nat.reduceEqDiff, Nat.reduceAdd, reduceCtorEq, List.map_append]; rfl
      · have t2 : leI (m.length : Nat) (i : Nat) = true := leI_true (by omega)
        rw [List.take_of_length_le (by omega)] at hz
        obtain rfl : x = z := by rw [hx, hz, hnb]
        simp -implicitDefEqProofs only [↓yP, yT, Nat.reduceAdd, Nat.reduceMul, Nat.reduceSub, Nat.reduceLeDiff, Nat.reduceEqDiff, reduceCtorEq, Nat.reduceBEq, t2]
        refine Rcall_lend (lend2 x) (sameTok_refl x (by omega)) (by rfl) fun y hy => ⟨by rw [hy]; rfl, ?_⟩
        subst hy
        simp -implicitDefEqProofs only [↓yP, yT, Nat.reduceAdd, Nat.reduceMul, Nat.reduceSub, Nat.reduceLeDiff, Nat.reduceEqDiff, reduceCtorEq, Nat.reduceBEq]
  · have t1 : leI (bs.length : Nat) 400 = false := leI_false (by omega)
    simp -implicitDefEqProofs only [↓yP, yT, Nat.reduceAdd, Nat.reduceMul, Nat.reduceSub, Nat.reduceLeDiff, Nat.reduceEqDiff, reduceCtorEq, Nat.reduceBEq, t1]
end Go.Vx.Seat
end
/- What a law of one text, of bytes, reads. -/
section
open Go Go.Vx Go.Proofs Go.RowKit
set_option linter.unusedSimpArgs false
set_option linter.unusedVariables false
set_option maxRecDepth 100000
namespace Go.Vx.Seat
theorem ce5 : Try.prog.cellsOf 5 = 1 := by kernel_rfl
section
variable {D : Type} {enc : TypeId × Value → D} {w : World} {base : Nat}
theorem ground1 {t e : TypeId} {r : Reach} {base : Nat} {v : Value} (ht : Try.prog.underlying t = some (.slice e)) (hv : Value.okWide Try.prog w r base t v) : v = .slice none 0 0 ∨ ∃ a n c, v = .slice (some a) n c ∧ ∃ (c : Array Value) (el : TypeId) (fr : Nat × Nat), w.heap[a.block]? = some (Obj.cells c el fr) := by
  unfold Value.okWide at hv
  rw [ht] at hv
  simp only at hv
  unfold Cell.okWide at hv
  rw [ht] at hv
  simp only at hv
  unfold Cell.ok at hv
  rw [ht] at hv
  cases v with
  | slice a n c =>
    cases a with
    | none =>
      left
      split at hv
      all_goals first | (simp_all; done) | rfl | exact hv.elim
    | some a =>
      right
      simp only at hv
      obtain ⟨_, _, hh⟩ := hv
      obtain ⟨_, _, row, cells, hs, _⟩ := hh
      refine ⟨a, n, c, rfl, ?_⟩
      unfold World.shape? at hs
      split at hs
      · rename_i c el fr hw; exact ⟨c, el, fr, hw⟩
      · cases hs
  | _ => simp at hv
theorem all_map1 {α β : Type} {f : α → β} {p : α → Prop} : ∀ {l : List β}, (∀ x, x ∈ l → ∃ a, p a ∧ x = f a) → ∃ ys : List α, (∀ a, a ∈ ys → p a) ∧ l = ys.map f
  | [], _ => ⟨[], by simp, rfl⟩
  | x :: l, h => by
    obtain ⟨a, h1, h2⟩ := h x (List.mem_cons_self ..)
    obtain ⟨ys, h3, h4⟩ := all_map1 (l := l) fun y hy => h y (List.mem_cons_of_mem _ hy)
    refine ⟨a :: ys, fun b hb => ?_, by rw [h2, h4]; rfl⟩
    rcases List.mem_cons.mp hb with rfl | hb
    · exact h1
    · exact h3 b hb
theorem slice_VR1 {φ : Phi} {u v : Value} {sz : Nat} {els : List (List PC)} {R : Nat → Prop} {h : H} (hp : PRep R h (.row sz els) u) (hc : CR φ u v) : VR φ u v := by
  rcases hp.lay with ⟨rfl, _⟩ | ⟨b, off, blk, rfl, _⟩ <;> exact hc
theorem lays_u8 (m : Nat) : Lays enc Try.prog w base m 5 fun ps => ∃ n : Int, ps = eb n := by
  intro cs x φ h hi hx _
  have hl : ∃ v, cs = [v] ∧ ∃ n, v = .int .u8 n := by
    obtain ⟨n, h1, _⟩ := DataW.trod_int Try.underlying5 hx
    exact ⟨_, h1, n, rfl⟩
  obtain ⟨v, rfl, n, rfl⟩ := hl
  exact ⟨φ, h, _, _, hi, .refl _ _, Laid.dry rfl, n, rfl⟩
theorem bytes_in {r : Reach} {base : Nat} {v0 : Value} {x0 : DataW D × List MemPlace} {m0 : Nat} (k0 : Value.okWide Try.prog w r base 31 v0)
    (h0 : DataW.trod enc Try.prog w 0 (fun _ => true) true m0 31 v0.cells.toList = some x0) (w0 : (x0.1.weights Try.prog 31).all (· ≤ reachBytes) = true) :
    ∃ (φ : Phi) (h : H) (us : List Value) (bs : List Int), Go.Vx.In w.heap.size φ h w ∧ Laid φ h us [v0] [rB bs] ∧ bs.length ≤ reachBytes := by
  rcases ground1 Try.underlying31 k0 with rfl | ⟨a, n, c, rfl, hg⟩
  · refine ⟨_, _, [.slice none 0 0], [], Go.Vx.In.nil _ _, ⟨All2.same fun v hv => ?_, L2.single PRep.nil⟩, by simp⟩
    rw [List.mem_singleton.mp hv]; exact CR_dry rfl
  · cases m0 with
    | zero => simp [DataW.trod] at h0
    | succ m =>
      have h0' : DataW.trod enc Try.prog w 0 (fun _ => true) true (m + 1) 31 [.slice (some a) n c] = some x0 := h0
      obtain ⟨φ', h', us, ps, i1, g1, l1, els, rfl, hle, hE⟩ := lays_slice1 (lays_u8 m) Try.underlying31 (by rw [ce5]; omega) (fun a' n' c' e => by cases e; exact hg) x0 _ _ (Go.Vx.In.nil w.heap.size w) h0' w0
      obtain ⟨bs, _, rfl⟩ := all_map1 (f := eb) (p := fun _ => True) fun p hp => let ⟨t, ht⟩ := hE p hp; ⟨t, trivial, ht⟩
      have hb : Try.prog.bytesOf 5 = 1 := by kernel_rfl
      rw [hb, List.length_map, Nat.mul_one] at hle
      exact ⟨φ', h', us, bs, i1, by rw [ce5] at l1; exact l1, hle⟩
theorem maxlen1 {w : World} (h : w.ShapedOpen Try.prog) : 0 < w.heap.size ∧ ∃ m : Int, w.cell? ⟨0, 0, none⟩ = some (.int .i64 m) := by
  obtain ⟨m, hm⟩ := cell_of_shapedOpen_int (P := Try.prog) (w := w) (g := 0) (t := 3) (zero := #[.int .i64 0]) (k := .i64) h (of_decide_eq_true (by kernel_rfl)) (by kernel_rfl) rfl (by kernel_rfl) (by kernel_rfl) Try.underlying3
  refine ⟨?_, m, hm⟩
  unfold World.cell? at hm
  apply Classical.byContradiction
  intro hc
  rw [Array.getElem?_eq_none (by simpa using hc)] at hm
  cases hm
theorem bytes_calls {f : FuncId} {r : Reach} {base : Nat} {v0 : Value} {x0 : DataW D × List MemPlace} {m0 : Nat} (hsh : w.ShapedOpen Try.prog) (ht : C1.told f = none) (hf : ∀ bs, PCall C1 f [.c (.p (rB bs))] fun y => y = yd (.bool true)) (k0 : Value.okWide Try.prog w r base 31 v0)
    (h0 : DataW.trod enc Try.prog w 0 (fun _ => true) true m0 31 v0.cells.toList = some x0) (w0 : (x0.1.weights Try.prog 31).all (· ≤ reachBytes) = true) :
    Calls Try.prog f #[v0] w fun e w' => e = .returned (.bool true) ∧ Below w.heap.size w w' := by
  obtain ⟨φ, h, us, bs, hi, hl, _⟩ := bytes_in k0 h0 w0
  obtain ⟨hc, hp⟩ := hl
  match us, hp.1, hc, hp with
  | [u0], _, hc, hp =>
    have p0 : PRep (fun b => b < h.n) h (rB bs) u0 := hp.2 0 _ _ rfl rfl
    obtain ⟨n, v, h', hx, R', y, hy, hv, _⟩ := hf bs 0 (fun b => b < h.n) h [u0] (Nat.zero_le _) (fun b hb => hb) (L2.single (show VRep [] (fun b => b < h.n) h (.c (.p (rB bs))) u0 from p0))
    subst hy
    obtain rfl : v = .bool true := by cases hv; rfl
    have ha : All2 (VR φ) [u0] #[v0].toList := ⟨rfl, fun i u hu => by
      match i, hu with
      | 0, hu => cases hu; obtain ⟨v, e, hr⟩ := hc.2 0 u0 rfl; exact ⟨v, e, slice_VR1 p0 hr⟩⟩
    refine Calls.mono (calls_of_xfun good1 hx ht hi.hr ⟨Nat.le_refl _, maxlen1 hsh⟩ ha fun i g1 g2 => ?_) fun e w' ⟨v', he, φ', hv', st⟩ => ?_
    · cases e : φ i with
      | none => rfl
      | some l => have := hi.dom i l e; omega
    · subst he
      exact ⟨by rw [hv'.bool], st.below⟩
end
end Go.Vx.Seat
end
