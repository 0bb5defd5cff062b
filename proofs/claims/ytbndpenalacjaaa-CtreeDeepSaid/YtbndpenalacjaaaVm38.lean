/- Texts joined: VyLf VyLg VyLh VyLi VyLj VyLk VyLl VyLm VyLn VyLo VyQ0. -/
import Derived.Test.YtbndpenalacjaaaVm37
import Derived.Test.YtbndpenalacjaaaVm36
import Derived.Test.YtbndpenalacjaaaVyGive
/- Numbers, read. -/
section
open Go Go.Vx Go.Proofs
set_option linter.unusedSimpArgs false
set_option linter.unusedVariables false
set_option maxRecDepth 10000
set_option maxHeartbeats 8000000
namespace Go.Vx.Seat
attribute [local congr] Rg_at Rt_at Ro_at Ri_at Rc_at Rto_at Rtk_at Rtf_at Rti_at
attribute [local irreducible] Rg Rt Ro Ri Rc Rto Rtk Rtf Rti Rw Rl Rd Rcall Rtcall kf
theorem fn84 : nth C1.P.funcs.toList 84 = some Try.f84 := by kernel_rfl
theorem decI_spec (x : Int) (h1 : -1000000000 ≤ x) (h2 : x ≤ 1000000000) : PCall C1 92 [yd (.int .i64 x)] fun y => ∃ s : ByteArray, y = yd (.string s) ∧ (strOf s).length ≤ x.natAbs + 2 := by
  by_cases h0 : 0 ≤ x
  · obtain ⟨n, rfl⟩ := Int.eq_ofNat_of_zero_le h0
    exact (dec_spec n (by omega)).mono fun y ⟨s, h3, h4⟩ => ⟨s, h3, by omega⟩
  · refine Pf (by rfl) (by rfl) fn92 (by rfl) ?_
    simp only [Try.f92, List.length_cons, List.length_nil, List.replicate, List.cons_append, List.nil_append]
    have t0 : leI 0 x = false := leI_false (by omega)
    have w0 : IntKind.wrap .i64 (0 - x) = ((x.natAbs : Nat) : Int) := by rw [IntKind.wrap_i64]; omega
    simp -implicitDefEqProofs only [↓yP, yT, Nat.reduceAdd, Nat.reduceMul, Nat.reduceSub, Nat.reduceLeDiff, Nat.reduceEqDiff, reduceCtorEq, Nat.reduceBEq, t0, w0]
    refine Rcall_pure (dec_spec x.natAbs (by omega)) (by rfl) fun y hy => ?_
    obtain ⟨s, rfl, hs⟩ := hy
    have b1 : (strOf ⟨#[45]⟩).length + (strOf s).length ≤ 140737488355328 := by
      have : (strOf ⟨#[45]⟩).length = 1 := rfl
      omega
    simp -implicitDefEqProofs only [↓yP, yT, Nat.reduceAdd, Nat.reduceMul, Nat.reduceSub, Nat.reduceLeDiff, Nat.reduceEqDiff, reduceCtorEq, Nat.reduceBEq, xstr_add, b1]
    exact ⟨_, rfl, by rw [strOf_mk, List.length_append]; have : (strOf ⟨#[45]⟩).length = 1 := rfl; omega⟩
abbrev nm (b : Bool) (d x : ByteArray) : List Ce := [.p (.d (.bool b)), .p (.d (.string d)), .p (.d (.string x))]
def NumR (y : YV) : Prop := ∃ (b : Bool) (d x : ByteArray) (ok : Bool), y = .tup [.agg (nm b d x), yd (.bool ok)]
theorem sl_len (s : ByteArray) (i k : Nat) : (strOf (strMk (((strOf s).drop i).take (k - i)))).length ≤ (strOf s).length := by
  rw [strOf_mk]; simp; omega
theorem readNum_spec (s : ByteArray) (hs : (strOf s).length ≤ 4000000) : PCall C1 84 [yd (.string s)] NumR := by
  have i00 : Int.toNat 0 = 0 := rfl
  refine Pf (by rfl) (by rfl) fn84 (by rfl) ?_
  simp only [Try.f84, List.length_cons, List.length_nil, List.replicate, List.cons_append, List.nil_append]
  simp -implicitDefEqProofs only [↓yP, yT, Nat.reduceAdd, Nat.reduceMul, Nat.reduceSub, Nat.reduceLeDiff, Nat.reduceEqDiff, reduceCtorEq, Nat.reduceBEq, opLen.eq_1, xindex.eq_1, xslice.eq_1, Int.toNat_natCast]
  refine Ri_cut (fun e st => ∃ (i : Nat) (neg : Bool), (∃ g : Nat → YV, e = [yd (.string s), g 1, .c (.ptr 0 0 0 0), g 3, yd (.int .i64 (i : Nat)), .c (.ptr 1 0 0 0), g 6, g 7, g 8, g 9, g 10, g 11, g 12, g 13, g 14, g 15, g 16, g 17, g 18, g 19, g 20, g 21, g 22, g 23, g 24, g 25, g 26, g 27, g 28, g 29, g 30, g 31, g 32, g 33, g 34, g 35, g 36, g 37, g 38, g 39, g 40, g 41, g 42, g 43, g 44, g 45, g 46, g 47, g 48, g 49, g 50, g 51, g 52, g 53, g 54, g 55, g 56, g 57, g 58, g 59, g 60, g 61, g 62, g 63, g 64, g 65, g 66, g 67, g 68, g 69, g 70, g 71, g 72, g 73, g 74, g 75, g 76, g 77, g 78, g 79, g 80, g 81, g 82, g 83, g 84, g 85, g 86, g 87, g 88, g 89, g 90, g 91, g 92, g 93, g 94, g 95, g 96, g 97, g 98, g 99, g 100, g 101, g 102, g 103, g 104, g 105, g 106, g 107, g 108, g 109, g 110, g 111, g 112, g 113, g 114, g 115, g 116, g 117, g 118, g 119, g 120, g 121, g 122, g 123, g 124, g 125, g 126, g 127, g 128, g 129, g 130, g 131, g 132, g 133, g 134, g 135, g 136, g 137, g 138, g 139, g 140, g 141, g 142, g 143, g 144, g 145, g 146, g 147, g 148, g 149, g 150, g 151, g 152, g 153, g 154, g 155, g 156, g 157, g 158, g 159, g 160, g 161, g 162, g 163, g 164, g 165, g 166, g 167, g 168, g 169, g 170, g 171, g 172, g 173, g 174, g 175, g 176, g 177]) ∧ st = [.box (nm false ⟨#[]⟩ ⟨#[]⟩), .box (nm neg ⟨#[]⟩ ⟨#[]⟩)] ∧ i ≤ (strOf s).length) ?_ ?_
  · have w01 : wrapK .i64 (0 + 1) = ((0 + 1 : Nat) : Int) := rfl
    by_cases h0 : 0 < (strOf s).length
    · obtain ⟨c, hc⟩ := get_lt h0
      have t1 : leI ((strOf s).length : Nat) 0 = false := leI_false (by omega)
      have c1 : (0 : Int) ≤ 0 := by omega
      cases h1 : eqI (c.toNat : Nat) 43 with
      | true =>
        cases h2 : eqI (c.toNat : Nat) 45
        all_goals
          simp -implicitDefEqProofs only [↓yP, yT, Nat.reduceAdd, Nat.reduceMul, Nat.reduceSub, Nat.reduceLeDiff, Nat.reduceEqDiff, reduceCtorEq, Nat.reduceBEq, opLen.eq_1, xindex.eq_1, xslice.eq_1, Int.toNat_natCast, t1, c1, hc, h1, h2, w01, ythen_n, i00]
          exact ⟨1, _, gs_mk rfl, rfl, by omega⟩
      | false =>
        cases h2 : eqI (c.toNat : Nat) 45 with
        | true =>
          simp -implicitDefEqProofs only [↓yP, yT, Nat.reduceAdd, Nat.reduceMul, Nat.reduceSub, Nat.reduceLeDiff, Nat.reduceEqDiff, reduceCtorEq, Nat.reduceBEq, opLen.eq_1, xindex.eq_1, xslice.eq_1, Int.toNat_natCast, t1, c1, hc, h1, h2, w01, ythen_n, i00]
          exact ⟨1, _, gs_mk rfl, rfl, by omega⟩
        | false =>
          simp -implicitDefEqProofs only [↓yP, yT, Nat.reduceAdd, Nat.reduceMul, Nat.reduceSub, Nat.reduceLeDiff, Nat.reduceEqDiff, reduceCtorEq, Nat.reduceBEq, opLen.eq_1, xindex.eq_1, xslice.eq_1, Int.toNat_natCast, t1, c1, hc, h1, h2, w01, ythen_n, i00]
          exact ⟨0, _, gs_mk rfl, rfl, by omega⟩
    · have t1 : leI ((strOf s).length : Nat) 0 = true := leI_true (by omega)
      simp -implicitDefEqProofs only [↓yP, yT, Nat.reduceAdd, Nat.reduceMul, Nat.reduceSub, Nat.reduceLeDiff, Nat.reduceEqDiff, reduceCtorEq, Nat.reduceBEq, opLen.eq_1, xindex.eq_1, xslice.eq_1, Int.toNat_natCast, t1, ythen_n]
      exact ⟨0, _, gs_mk rfl, rfl, by omega⟩
  rintro e st ⟨i, neg, ⟨g, rfl⟩, rfl, hi⟩
  simp -implicitDefEqProofs only [↓yP, yT, Nat.reduceAdd, Nat.reduceMul, Nat.reduceSub, Nat.reduceLeDiff, Nat.reduceEqDiff, reduceCtorEq, Nat.reduceBEq, opLen.eq_1, xindex.eq_1, xslice.eq_1, Int.toNat_natCast]
  refine Rcall_pure (run_spec s i (by omega) hi) (by rfl) fun y hy => ?_
  obtain ⟨k, rfl, hk1, hk2⟩ := hy
  have c1 : (0 : Int) ≤ (i : Nat) := by omega
  have c2 : ((i : Nat) : Int) ≤ (k : Nat) := by omega
  have c3 : ((k : Nat) : Int) ≤ ((strOf s).length : Nat) := by omega
  have hdl := sl_len s i k
  simp -implicitDefEqProofs only [↓yP, yT, Nat.reduceAdd, Nat.reduceMul, Nat.reduceSub, Nat.reduceLeDiff, Nat.reduceEqDiff, reduceCtorEq, Nat.reduceBEq, opLen.eq_1, xindex.eq_1, xslice.eq_1, Int.toNat_natCast, c1, c2, c3]
  generalize strMk (((strOf s).drop i).take (k - i)) = dd at hdl ⊢
  have w1 : wrapK .i64 ((k : Int) + 1) = ((k + 1 : Nat) : Int) := wrap_succ (by omega)
  refine Ri_cut (fun e st => ∃ (k : Nat) (part : ByteArray), (∃ g : Nat → YV, e = [yd (.string s), g 1, .c (.ptr 0 0 0 0), g 3, g 4, .c (.ptr 1 0 0 0), yd (.int .i64 (k : Nat)), yd (.string dd), yd (.string part), g 9, g 10, g 11, g 12, g 13, g 14, g 15, g 16, g 17, g 18, g 19, g 20, g 21, g 22, g 23, g 24, g 25, g 26, g 27, g 28, g 29, g 30, g 31, g 32, g 33, g 34, g 35, g 36, g 37, g 38, g 39, g 40, g 41, g 42, g 43, g 44, g 45, g 46, g 47, g 48, g 49, g 50, g 51, g 52, g 53, g 54, g 55, g 56, g 57, g 58, g 59, g 60, g 61, g 62, g 63, g 64, g 65, g 66, g 67, g 68, g 69, g 70, g 71, g 72, g 73, g 74, g 75, g 76, g 77, g 78, g 79, g 80, g 81, g 82, g 83, g 84, g 85, g 86, g 87, g 88, g 89, g 90, g 91, g 92, g 93, g 94, g 95, g 96, g 97, g 98, g 99, g 100, g 101, g 102, g 103, g 104, g 105, g 106, g 107, g 108, g 109, g 110, g 111, g 112, g 113, g 114, g 115, g 116, g 117, g 118, g 119, g 120, g 121, g 122, g 123, g 124, g 125, g 126, g 127, g 128, g 129, g 130, g 131, g 132, g 133, g 134, g 135, g 136, g 137, g 138, g 139, g 140, g 141, g 142, g 143, g 144, g 145, g 146, g 147, g 148, g 149, g 150, g 151, g 152, g 153, g 154, g 155, g 156, g 157, g 158, g 159, g 160, g 161, g 162, g 163, g 164, g 165, g 166, g 167, g 168, g 169, g 170, g 171, g 172, g 173, g 174, g 175, g 176, g 177]) ∧ st = [.box (nm false ⟨#[]⟩ ⟨#[]⟩), .box (nm neg ⟨#[]⟩ ⟨#[]⟩)] ∧ k ≤ (strOf s).length ∧ (strOf part).length ≤ (strOf s).length) ?_ ?_
  · by_cases h0 : k < (strOf s).length
    · obtain ⟨c, hc⟩ := get_lt h0
      have t1 : leI ((strOf s).length : Nat) (k : Nat) = false := leI_false (by omega)
      have c4 : (0 : Int) ≤ (k : Nat) := by omega
      cases h1 : eqI (c.toNat : Nat) 46 with
      | false =>
        simp -implicitDefEqProofs only [↓yP, yT, Nat.reduceAdd, Nat.reduceMul, Nat.reduceSub, Nat.reduceLeDiff, Nat.reduceEqDiff, reduceCtorEq, Nat.reduceBEq, opLen.eq_1, xindex.eq_1, xslice.eq_1, Int.toNat_natCast, t1, c4, hc, h1, ythen_n]
        exact ⟨k, ⟨#[]⟩, gs_mk rfl, by omega, by show 0 ≤ (strOf s).length; omega⟩
      | true =>
        simp -implicitDefEqProofs only [↓yP, yT, Nat.reduceAdd, Nat.reduceMul, Nat.reduceSub, Nat.reduceLeDiff, Nat.reduceEqDiff, reduceCtorEq, Nat.reduceBEq, opLen.eq_1, xindex.eq_1, xslice.eq_1, Int.toNat_natCast, t1, c4, hc, h1, w1]
        refine Rcall_pure (run_spec s (k + 1) (by omega) (by omega)) (by rfl) fun y hy => ?_
        obtain ⟨j, rfl, hj1, hj2⟩ := hy
        have c5 : (0 : Int) ≤ ((k + 1 : Nat) : Int) := by omega
        have c6 : ((k + 1 : Nat) : Int) ≤ (j : Nat) := by omega
        have c7 : ((j : Nat) : Int) ≤ ((strOf s).length : Nat) := by omega
        have hpl := sl_len s (k + 1) j
        simp -implicitDefEqProofs only [↓yP, yT, Nat.reduceAdd, Nat.reduceMul, Nat.reduceSub, Nat.reduceLeDiff, Nat.reduceEqDiff, reduceCtorEq, Nat.reduceBEq, opLen.eq_1, xindex.eq_1, xslice.eq_1, Int.toNat_natCast, w1, c5, c6, c7, xstr_eql]
        generalize strMk (((strOf s).drop (k + 1)).take (j - (k + 1))) = part at hpl ⊢
        cases h2 : (strOf part == strOf ⟨#[]⟩) with
        | true =>
          simp -implicitDefEqProofs only [↓yP, yT, Nat.reduceAdd, Nat.reduceMul, Nat.reduceSub, Nat.reduceLeDiff, Nat.reduceEqDiff, reduceCtorEq, Nat.reduceBEq, h2, Nat.reduceLT]
          exact ⟨_, _, _, _, rfl⟩
        | false =>
          simp -implicitDefEqProofs only [↓yP, yT, Nat.reduceAdd, Nat.reduceMul, Nat.reduceSub, Nat.reduceLeDiff, Nat.reduceEqDiff, reduceCtorEq, Nat.reduceBEq, h2, ythen_n]
          exact ⟨j, part, gs_mk rfl, hj2, hpl⟩
    · have t1 : leI ((strOf s).length : Nat) (k : Nat) = true := leI_true (by omega)
      simp -implicitDefEqProofs only [↓yP, yT, Nat.reduceAdd, Nat.reduceMul, Nat.reduceSub, Nat.reduceLeDiff, Nat.reduceEqDiff, reduceCtorEq, Nat.reduceBEq, opLen.eq_1, xindex.eq_1, xslice.eq_1, Int.toNat_natCast, t1, ythen_n]
      exact ⟨k, ⟨#[]⟩, gs_mk rfl, by omega, by show 0 ≤ (strOf s).length; omega⟩
  clear w1 c1 c2 c3 hk1 hk2 hi k i
  rintro e st ⟨k, part, ⟨g, rfl⟩, rfl, hk, hpl⟩
  have b1 : (strOf dd).length + (strOf part).length ≤ 140737488355328 := by omega
  cases h2 : (strOf (strMk (strOf dd ++ strOf part)) == strOf ⟨#[]⟩) with
  | true =>
    simp -implicitDefEqProofs only [↓yP, yT, Nat.reduceAdd, Nat.reduceMul, Nat.reduceSub, Nat.reduceLeDiff, Nat.reduceEqDiff, reduceCtorEq, Nat.reduceBEq, opLen.eq_1, xindex.eq_1, xslice.eq_1, Int.toNat_natCast, xstr_add, b1, xstr_eql, h2]
    exact ⟨_, _, _, _, rfl⟩
  | false =>
  simp -implicitDefEqProofs only [↓yP, yT, Nat.reduceAdd, Nat.reduceMul, Nat.reduceSub, Nat.reduceLeDiff, Nat.reduceEqDiff, reduceCtorEq, Nat.reduceBEq, opLen.eq_1, xindex.eq_1, xslice.eq_1, Int.toNat_natCast, xstr_add, b1, xstr_eql, h2]
  have w1 : wrapK .i64 ((k : Int) + 1) = ((k + 1 : Nat) : Int) := wrap_succ (by omega)
  refine Ri_cut (fun e st => ∃ (k : Nat) (ex : ByteArray), (∃ g : Nat → YV, e = [yd (.string s), g 1, .c (.ptr 0 0 0 0), g 3, g 4, .c (.ptr 1 0 0 0), yd (.int .i64 (k : Nat)), yd (.string dd), yd (.string part), g 9, yd (.string ex), g 11, g 12, g 13, g 14, g 15, g 16, g 17, g 18, g 19, g 20, g 21, g 22, g 23, g 24, g 25, g 26, g 27, g 28, g 29, g 30, g 31, g 32, g 33, g 34, g 35, g 36, g 37, g 38, g 39, g 40, g 41, g 42, g 43, g 44, g 45, g 46, g 47, g 48, g 49, g 50, g 51, g 52, g 53, g 54, g 55, g 56, g 57, g 58, g 59, g 60, g 61, g 62, g 63, g 64, g 65, g 66, g 67, g 68, g 69, g 70, g 71, g 72, g 73, g 74, g 75, g 76, g 77, g 78, g 79, g 80, g 81, g 82, g 83, g 84, g 85, g 86, g 87, g 88, g 89, g 90, g 91, g 92, g 93, g 94, g 95, g 96, g 97, g 98, g 99, g 100, g 101, g 102, g 103, g 104, g 105, g 106, g 107, g 108, g 109, g 110, g 111, g 112, g 113, g 114, g 115, g 116, g 117, g 118, g 119, g 120, g 121, g 122, g 123, g 124, g 125, g 126, g 127, g 128, g 129, g 130, g 131, g 132, g 133, g 134, g 135, g 136, g 137, g 138, g 139, g 140, g 141, g 142, g 143, g 144, g 145, g 146, g 147, g 148, g 149, g 150, g 151, g 152, g 153, g 154, g 155, g 156, g 157, g 158, g 159, g 160, g 161, g 162, g 163, g 164, g 165, g 166, g 167, g 168, g 169, g 170, g 171, g 172, g 173, g 174, g 175, g 176, g 177]) ∧ st = [.box (nm false ⟨#[]⟩ ⟨#[]⟩), .box (nm neg ⟨#[]⟩ ⟨#[]⟩)] ∧ k ≤ (strOf s).length ∧ (strOf ex).length ≤ (strOf s).length + 1) ?_ ?_
  · by_cases h0 : k < (strOf s).length
    · obtain ⟨c, hc⟩ := get_lt h0
      have t1 : leI ((strOf s).length : Nat) (k : Nat) = false := leI_false (by omega)
      have c4 : (0 : Int) ≤ (k : Nat) := by omega
      cases h1 : eqI (c.toNat : Nat) 101 with
      | true =>
        simp -implicitDefEqProofs only [↓yP, yT, Nat.reduceAdd, Nat.reduceMul, Nat.reduceSub, Nat.reduceLeDiff, Nat.reduceEqDiff, reduceCtorEq, Nat.reduceBEq, opLen.eq_1, xindex.eq_1, xslice.eq_1, Int.toNat_natCast, t1, c4, hc, h1, w1]
        refine Ri_cut (fun e st => ∃ (k2 : Nat) (mi : Bool), (∃ g : Nat → YV, e = [yd (.string s), g 1, .c (.ptr 0 0 0 0), g 3, g 4, .c (.ptr 1 0 0 0), yd (.int .i64 (k2 : Nat)), yd (.string dd), yd (.string part), g 9, g 10, yd (.bool mi), g 12, g 13, g 14, g 15, g 16, g 17, g 18, g 19, g 20, g 21, g 22, g 23, g 24, g 25, g 26, g 27, g 28, g 29, g 30, g 31, g 32, g 33, g 34, g 35, g 36, g 37, g 38, g 39, g 40, g 41, g 42, g 43, g 44, g 45, g 46, g 47, g 48, g 49, g 50, g 51, g 52, g 53, g 54, g 55, g 56, g 57, g 58, g 59, g 60, g 61, g 62, g 63, g 64, g 65, g 66, g 67, g 68, g 69, g 70, g 71, g 72, g 73, g 74, g 75, g 76, g 77, g 78, g 79, g 80, g 81, g 82, g 83, g 84, g 85, g 86, g 87, g 88, g 89, g 90, g 91, g 92, g 93, g 94, g 95, g 96, g 97, g 98, g 99, g 100, g 101, g 102, g 103, g 104, g 105, g 106, g 107, g 108, g 109, g 110, g 111, g 112, g 113, g 114, g 115, g 116, g 117, g 118, g 119, g 120, g 121, g 122, g 123, g 124, g 125, g 126, g 127, g 128, g 129, g 130, g 131, g 132, g 133, g 134, g 135, g 136, g 137, g 138, g 139, g 140, g 141, g 142, g 143, g 144, g 145, g 146, g 147, g 148, g 149, g 150, g 151, g 152, g 153, g 154, g 155, g 156, g 157, g 158, g 159, g 160, g 161, g 162, g 163, g 164, g 165, g 166, g 167, g 168, g 169, g 170, g 171, g 172, g 173, g 174, g 175, g 176, g 177]) ∧ st = [.box (nm false ⟨#[]⟩ ⟨#[]⟩), .box (nm neg ⟨#[]⟩ ⟨#[]⟩)] ∧ k2 ≤ (strOf s).length) ?_ ?_
        · clear t1 c4 hc
          have w2 : wrapK .i64 (((k + 1 : Nat) : Int) + 1) = ((k + 2 : Nat) : Int) := wrap_succ (by omega)
          by_cases h3 : k + 1 < (strOf s).length
          · obtain ⟨c, hc⟩ := get_lt h3
            have t1 : leI ((strOf s).length : Nat) ((k + 1 : Nat) : Int) = false := leI_false (by omega)
            have c1 : (0 : Int) ≤ ((k + 1 : Nat) : Int) := by omega
            cases h1 : eqI (c.toNat : Nat) 43 with
            | true =>
              cases h2 : eqI (c.toNat : Nat) 45
              all_goals
                simp -implicitDefEqProofs only [↓yP, yT, Nat.reduceAdd, Nat.reduceMul, Nat.reduceSub, Nat.reduceLeDiff, Nat.reduceEqDiff, reduceCtorEq, Nat.reduceBEq, opLen.eq_1, xindex.eq_1, xslice.eq_1, Int.toNat_natCast, t1, c1, hc, h1, h2, w2, ythen_n]
                exact ⟨k + 2, _, gs_mk rfl, by omega⟩
            | false =>
              cases h2 : eqI (c.toNat : Nat) 45 with
              | true =>
                simp -implicitDefEqProofs only [↓yP, yT, Nat.reduceAdd, Nat.reduceMul, Nat.reduceSub, Nat.reduceLeDiff, Nat.reduceEqDiff, reduceCtorEq, Nat.reduceBEq, opLen.eq_1, xindex.eq_1, xslice.eq_1, Int.toNat_natCast, t1, c1, hc, h1, h2, w2, ythen_n]
                exact ⟨k + 2, _, gs_mk rfl, by omega⟩
              | false =>
                simp -implicitDefEqProofs only [↓yP, yT, Nat.reduceAdd, Nat.reduceMul, Nat.reduceSub, Nat.reduceLeDiff, Nat.reduceEqDiff, reduceCtorEq, Nat.reduceBEq, opLen.eq_1, xindex.eq_1, xslice.eq_1, Int.toNat_natCast, t1, c1, hc, h1, h2, ythen_n]
                exact ⟨k + 1, _, gs_mk rfl, by omega⟩
          · have t1 : leI ((strOf s).length : Nat) ((k + 1 : Nat) : Int) = true := leI_true (by omega)
            simp -implicitDefEqProofs only [↓yP, yT, Nat.reduceAdd, Nat.reduceMul, Nat.reduceSub, Nat.reduceLeDiff, Nat.reduceEqDiff, reduceCtorEq, Nat.reduceBEq, opLen.eq_1, xindex.eq_1, xslice.eq_1, Int.toNat_natCast, t1, ythen_n]
            exact ⟨k + 1, _, gs_mk rfl, by omega⟩
        rintro e st ⟨k2, mi, ⟨g, rfl⟩, rfl, hk2⟩
        simp -implicitDefEqProofs only [↓yP, yT, Nat.reduceAdd, Nat.reduceMul, Nat.reduceSub, Nat.reduceLeDiff, Nat.reduceEqDiff, reduceCtorEq, Nat.reduceBEq, opLen.eq_1, xindex.eq_1, xslice.eq_1, Int.toNat_natCast]
        refine Rcall_pure (run_spec s k2 (by omega) hk2) (by rfl) fun y hy => ?_
        obtain ⟨j, rfl, hj1, hj2⟩ := hy
        have c5 : (0 : Int) ≤ ((k2 : Nat) : Int) := by omega
        have c6 : ((k2 : Nat) : Int) ≤ (j : Nat) := by omega
        have c7 : ((j : Nat) : Int) ≤ ((strOf s).length : Nat) := by omega
        have hpl := sl_len s k2 j
        cases h7 : eqI (j : Nat) (k2 : Nat) with
        | true =>
          simp -implicitDefEqProofs only [↓yP, yT, Nat.reduceAdd, Nat.reduceMul, Nat.reduceSub, Nat.reduceLeDiff, Nat.reduceEqDiff, reduceCtorEq, Nat.reduceBEq, opLen.eq_1, xindex.eq_1, xslice.eq_1, Int.toNat_natCast, h7, Nat.reduceLT]
          exact ⟨_, _, _, _, rfl⟩
        | false =>
          simp -implicitDefEqProofs only [↓yP, yT, Nat.reduceAdd, Nat.reduceMul, Nat.reduceSub, Nat.reduceLeDiff, Nat.reduceEqDiff, reduceCtorEq, Nat.reduceBEq, opLen.eq_1, xindex.eq_1, xslice.eq_1, Int.toNat_natCast, h7, c5, c6, c7]
          refine Rcall_pure (stripped_spec _ (by omega)) (by rfl) fun y hy => ?_
          obtain ⟨ex, rfl, hex⟩ := hy
          cases mi with
          | false =>
            simp -implicitDefEqProofs only [↓yP, yT, Nat.reduceAdd, Nat.reduceMul, Nat.reduceSub, Nat.reduceLeDiff, Nat.reduceEqDiff, reduceCtorEq, Nat.reduceBEq, opLen.eq_1, xindex.eq_1, xslice.eq_1, Int.toNat_natCast, ythen_n]
            exact ⟨j, ex, gs_mk rfl, hj2, by omega⟩
          | true =>
            cases h8 : (strOf ex == strOf ⟨#[48]⟩) with
            | true =>
              simp -implicitDefEqProofs only [↓yP, yT, Nat.reduceAdd, Nat.reduceMul, Nat.reduceSub, Nat.reduceLeDiff, Nat.reduceEqDiff, reduceCtorEq, Nat.reduceBEq, opLen.eq_1, xindex.eq_1, xslice.eq_1, Int.toNat_natCast, xstr_neq, h8, ythen_n]
              exact ⟨j, ex, gs_mk rfl, hj2, by omega⟩
            | false =>
              have b3 : (strOf ⟨#[45]⟩).length + (strOf ex).length ≤ 140737488355328 := by
                have : (strOf ⟨#[45]⟩).length = 1 := rfl
                omega
              simp -implicitDefEqProofs only [↓yP, yT, Nat.reduceAdd, Nat.reduceMul, Nat.reduceSub, Nat.reduceLeDiff, Nat.reduceEqDiff, reduceCtorEq, Nat.reduceBEq, opLen.eq_1, xindex.eq_1, xslice.eq_1, Int.toNat_natCast, xstr_neq, h8, xstr_add, b3, ythen_n]
              exact ⟨j, _, gs_mk rfl, hj2, by rw [strOf_mk, List.length_append]; have : (strOf ⟨#[45]⟩).length = 1 := rfl; omega⟩
      | false =>
        cases h2 : eqI (c.toNat : Nat) 69 with
        | true =>
          simp -implicitDefEqProofs only [↓yP, yT, Nat.reduceAdd, Nat.reduceMul, Nat.reduceSub, Nat.reduceLeDiff, Nat.reduceEqDiff, reduceCtorEq, Nat.reduceBEq, opLen.eq_1, xindex.eq_1, xslice.eq_1, Int.toNat_natCast, t1, c4, hc, h1, h2, w1]
          refine Ri_cut (fun e st => ∃ (k2 : Nat) (mi : Bool), (∃ g : Nat → YV, e = [yd (.string s), g 1, .c (.ptr 0 0 0 0), g 3, g 4, .c (.ptr 1 0 0 0), yd (.int .i64 (k2 : Nat)), yd (.string dd), yd (.string part), g 9, g 10, yd (.bool mi), g 12, g 13, g 14, g 15, g 16, g 17, g 18, g 19, g 20, g 21, g 22, g 23, g 24, g 25, g 26, g 27, g 28, g 29, g 30, g 31, g 32, g 33, g 34, g 35, g 36, g 37, g 38, g 39, g 40, g 41, g 42, g 43, g 44, g 45, g 46, g 47, g 48, g 49, g 50, g 51, g 52, g 53, g 54, g 55, g 56, g 57, g 58, g 59, g 60, g 61, g 62, g 63, g 64, g 65, g 66, g 67, g 68, g 69, g 70, g 71, g 72, g 73, g 74, g 75, g 76, g 77, g 78, g 79, g 80, g 81, g 82, g 83, g 84, g 85, g 86, g 87, g 88, g 89, g 90, g 91, g 92, g 93, g 94, g 95, g 96, g 97, g 98, g 99, g 100, g 101, g 102, g 103, g 104, g 105, g 106, g 107, g 108, g 109, g 110, g 111, g 112, g 113, g 114, g 115, g 116, g 117, g 118, g 119, g 120, g 121, g 122, g 123, g 124, g 125, g 126, g 127, g 128, g 129, g 130, g 131, g 132, g 133, g 134, g 135, g 136, g 137, g 138, g 139, g 140, g 141, g 142, g 143, g 144, g 145, g 146, g 147, g 148, g 149, g 150, g 151, g 152, g 153, g 154, g 155, g 156, g 157, g 158, g 159, g 160, g 161, g 162, g 163, g 164, g 165, g 166, g 167, g 168, g 169, g 170, g 171, g 172, g 173, g 174, g 175, g 176, g 177]) ∧ st = [.box (nm false ⟨#[]⟩ ⟨#[]⟩), .box (nm neg ⟨#[]⟩ ⟨#[]⟩)] ∧ k2 ≤ (strOf s).length) ?_ ?_
          · clear t1 c4 hc
            have w2 : wrapK .i64 (((k + 1 : Nat) : Int) + 1) = ((k + 2 : Nat) : Int) := wrap_succ (by omega)
            by_cases h3 : k + 1 < (strOf s).length
            · obtain ⟨c, hc⟩ := get_lt h3
              have t1 : leI ((strOf s).length : Nat) ((k + 1 : Nat) : Int) = false := leI_false (by omega)
              have c1 : (0 : Int) ≤ ((k + 1 : Nat) : Int) := by omega
              cases h1 : eqI (c.toNat : Nat) 43 with
              | true =>
                cases h2 : eqI (c.toNat : Nat) 45
                all_goals
                  simp -implicitDefEqProofs only [↓yP, yT, Nat.reduceAdd, Nat.reduceMul, Nat.reduceSub, Nat.reduceLeDiff, Nat.reduceEqDiff, reduceCtorEq, Nat.reduceBEq, opLen.eq_1, xindex.eq_1, xslice.eq_1, Int.toNat_natCast, t1, c1, hc, h1, h2, w2, ythen_n]
                  exact ⟨k + 2, _, gs_mk rfl, by omega⟩
              | false =>
                cases h2 : eqI (c.toNat : Nat) 45 with
                | true =>
                  simp -implicitDefEqProofs only [↓yP, yT, Nat.reduceAdd, Nat.reduceMul, Nat.reduceSub, Nat.reduceLeDiff, Nat.reduceEqDiff, reduceCtorEq, Nat.reduceBEq, opLen.eq_1, xindex.eq_1, xslice.eq_1, Int.toNat_natCast, t1, c1, hc, h1, h2, w2, ythen_n]
                  exact ⟨k + 2, _, gs_mk rfl, by omega⟩
                | false =>
                  simp -implicitDefEqProofs only [↓yP, yT, Nat.reduceAdd, Nat.reduceMul, Nat.reduceSub, Nat.reduceLeDiff, Nat.reduceEqDiff, reduceCtorEq, Nat.reduceBEq, opLen.eq_1, xindex.eq_1, xslice.eq_1, Int.toNat_natCast, t1, c1, hc, h1, h2, ythen_n]
                  exact ⟨k + 1, _, gs_mk rfl, by omega⟩
            · have t1 : leI ((strOf s).length : Nat) ((k + 1 : Nat) : Int) = true := leI_true (by omega)
              simp -implicitDefEqProofs only [↓yP, yT, Nat.reduceAdd, Nat.reduceMul, Nat.reduceSub, Nat.reduceLeDiff, Nat.reduceEqDiff, reduceCtorEq, Nat.reduceBEq, opLen.eq_1, xindex.eq_1, xslice.eq_1, Int.toNat_natCast, t1, ythen_n]
              exact ⟨k + 1, _, gs_mk rfl, by omega⟩
          rintro e st ⟨k2, mi, ⟨g, rfl⟩, rfl, hk2⟩
          simp -implicitDefEqProofs only [↓yP, yT, Nat.reduceAdd, Nat.reduceMul, Nat.reduceSub, Nat.reduceLeDiff, Nat.reduceEqDiff, reduceCtorEq, Nat.reduceBEq, opLen.eq_1, xindex.eq_1, xslice.eq_1, Int.toNat_natCast]
          refine Rcall_pure (run_spec s k2 (by omega) hk2) (by rfl) fun y hy => ?_
          obtain ⟨j, rfl, hj1, hj2⟩ := hy
          have c5 : (0 : Int) ≤ ((k2 : Nat) : Int) := by omega
          have c6 : ((k2 : Nat) : Int) ≤ (j : Nat) := by omega
          have c7 : ((j : Nat) : Int) ≤ ((strOf s).length : Nat) := by omega
          have hpl := sl_len s k2 j
          cases h7 : eqI (j : Nat) (k2 : Nat) with
          | true =>
            simp -implicitDefEqProofs only [↓yP, yT, Nat.reduceAdd, Nat.reduceMul, Nat.reduceSub, Nat.reduceLeDiff, Nat.reduceEqDiff, reduceCtorEq, Nat.reduceBEq, opLen.eq_1, xindex.eq_1, xslice.eq_1, Int.toNat_natCast, h7, Nat.reduceLT]
            exact ⟨_, _, _, _, rfl⟩
          | false =>
            simp -implicitDefEqProofs only [↓yP, yT, Nat.reduceAdd, Nat.reduceMul, Nat.reduceSub, Nat.reduceLeDiff, Nat.reduceEqDiff, reduceCtorEq, Nat.reduceBEq, opLen.eq_1, xindex.eq_1, xslice.eq_1, Int.toNat_natCast, h7, c5, c6, c7]
            refine Rcall_pure (stripped_spec _ (by omega)) (by rfl) fun y hy => ?_
            obtain ⟨ex, rfl, hex⟩ := hy
            cases mi with
            | false =>
              simp -implicitDefEqProofs only [↓yP, yT, Nat.reduceAdd, Nat.reduceMul, Nat.reduceSub, Nat.reduceLeDiff, Nat.reduceEqDiff, reduceCtorEq, Nat.reduceBEq, opLen.eq_1, xindex.eq_1, xslice.eq_1, Int.toNat_natCast, ythen_n]
              exact ⟨j, ex, gs_mk rfl, hj2, by omega⟩
            | true =>
              cases h8 : (strOf ex == strOf ⟨#[48]⟩) with
              | true =>
                simp -implicitDefEqProofs only [↓yP, yT, Nat.reduceAdd, Nat.reduceMul, Nat.reduceSub, Nat.reduceLeDiff, Nat.reduceEqDiff, reduceCtorEq, Nat.reduceBEq, opLen.eq_1, xindex.eq_1, xslice.eq_1, Int.toNat_natCast, xstr_neq, h8, ythen_n]
                exact ⟨j, ex, gs_mk rfl, hj2, by omega⟩
              | false =>
                have b3 : (strOf ⟨#[45]⟩).length + (strOf ex).length ≤ 140737488355328 := by
                  have : (strOf ⟨#[45]⟩).length = 1 := rfl
                  omega
                simp -implicitDefEqProofs only [↓yP, yT, Nat.reduceAdd, Nat.reduceMul, Nat.reduceSub, Nat.reduceLeDiff, Nat.reduceEqDiff, reduceCtorEq, Nat.reduceBEq, opLen.eq_1, xindex.eq_1, xslice.eq_1, Int.toNat_natCast, xstr_neq, h8, xstr_add, b3, ythen_n]
                exact ⟨j, _, gs_mk rfl, hj2, by rw [strOf_mk, List.length_append]; have : (strOf ⟨#[45]⟩).length = 1 := rfl; omega⟩
        | false =>
          simp -implicitDefEqProofs only [↓yP, yT, Nat.reduceAdd, Nat.reduceMul, Nat.reduceSub, Nat.reduceLeDiff, Nat.reduceEqDiff, reduceCtorEq, Nat.reduceBEq, opLen.eq_1, xindex.eq_1, xslice.eq_1, Int.toNat_natCast, t1, c4, hc, h1, h2, ythen_n]
          exact ⟨k, _, gs_mk rfl, by omega, by show 1 ≤ _; omega⟩
    · have t1 : leI ((strOf s).length : Nat) (k : Nat) = true := leI_true (by omega)
      simp -implicitDefEqProofs only [↓yP, yT, Nat.reduceAdd, Nat.reduceMul, Nat.reduceSub, Nat.reduceLeDiff, Nat.reduceEqDiff, reduceCtorEq, Nat.reduceBEq, opLen.eq_1, xindex.eq_1, xslice.eq_1, Int.toNat_natCast, t1, ythen_n]
      exact ⟨k, _, gs_mk rfl, by omega, by show 1 ≤ _; omega⟩
  clear w1 k hk
  rintro e st ⟨k, ex, ⟨g, rfl⟩, rfl, hk, hel⟩
  by_cases hkl : k = (strOf s).length
  · have t1 : eqI (k : Nat) ((strOf s).length : Nat) = true := by rw [hkl]; exact eqI_true _
    have wx : IntKind.wrap .i64 (0 - ((strOf part).length : Nat)) = 0 - ((strOf part).length : Nat) := by rw [IntKind.wrap_i64]; omega
    simp -implicitDefEqProofs only [↓yP, yT, Nat.reduceAdd, Nat.reduceMul, Nat.reduceSub, Nat.reduceLeDiff, Nat.reduceEqDiff, reduceCtorEq, Nat.reduceBEq, opLen.eq_1, xindex.eq_1, xslice.eq_1, Int.toNat_natCast, t1, xstr_add, b1]
    refine Rcall_pure (stripped_spec _ (by rw [strOf_mk, List.length_append]; omega)) (by rfl) fun y hy => ?_
    obtain ⟨al, rfl, hal⟩ := hy
    rw [strOf_mk, List.length_append] at hal
    simp -implicitDefEqProofs only [↓yP, yT, Nat.reduceAdd, Nat.reduceMul, Nat.reduceSub, Nat.reduceLeDiff, Nat.reduceEqDiff, reduceCtorEq, Nat.reduceBEq, opLen.eq_1, xindex.eq_1, xslice.eq_1, Int.toNat_natCast, wx]
    refine Rl_inv (fun d e st => ∃ (al : ByteArray) (x : Int), e = ([.c .top, .c .top, .c (.ptr 0 0 0 0), .c .top, .c .top, .c (.ptr 1 0 0 0), .c .top, .c .top, .c .top, .c .top, yd (.string ex), .c .top, .c .top, yd (.string al), yd (.int .i64 x), .c .top, .c .top, .c .top, .c .top, .c .top, .c .top, .c .top, .c .top, .c .top, .c .top, .c .top, .c .top, .c .top, .c .top, .c .top, .c .top, .c .top, .c .top, .c .top, .c .top, .c .top, .c .top, .c .top, .c .top, .c .top, .c .top, .c .top, .c .top, .c .top, .c .top, .c .top, .c .top, .c .top, .c .top, .c .top, .c .top, .c .top, .c .top, .c .top, .c .top, .c .top, .c .top, .c .top, .c .top, .c .top, .c .top, .c .top, .c .top, .c .top, .c .top, .c .top, .c .top, .c .top, .c .top, .c .top, .c .top, .c .top, .c .top, .c .top, .c .top, .c .top, .c .top, .c .top, .c .top, .c .top, .c .top, .c .top, .c .top, .c .top, .c .top, .c .top, .c .top, .c .top, .c .top, .c .top, .c .top, .c .top, .c .top, .c .top, .c .top, .c .top, .c .top, .c .top, .c .top, .c .top, .c .top, .c .top, .c .top, .c .top, .c .top, .c .top, .c .top, .c .top, .c .top, .c .top, .c .top, .c .top, .c .top, .c .top, .c .top, .c .top, .c .top, .c .top, .c .top, .c .top, .c .top, .c .top, .c .top, .c .top, .c .top, .c .top, .c .top, .c .top, .c .top, .c .top, .c .top, .c .top, .c .top, .c .top, .c .top, .c .top, .c .top, .c .top, .c .top, .c .top, .c .top, .c .top, .c .top, .c .top, .c .top, .c .top, .c .top, .c .top, .c .top, .c .top, .c .top, .c .top, .c .top, .c .top, .c .top, .c .top, .c .top, .c .top, .c .top, .c .top, .c .top, .c .top, .c .top, .c .top, .c .top, .c .top, .c .top, .c .top, .c .top, .c .top, .c .top, .c .top, .c .top, .c .top, .c .top, .c .top, .c .top, .c .top]) ∧ st = [.box (nm false ⟨#[]⟩ ⟨#[]⟩), .box (nm neg ⟨#[]⟩ ⟨#[]⟩)] ∧ d = (strOf al).length ∧ -5000000 ≤ x ∧ x + (strOf al).length ≤ 10000000) [false, false, true, false, false, true, false, false, false, false, true, false, false, true, true] (strOf al).length [0, 1] (by decide) (pinned_zero _) ⟨al, _, by (simp only [yE, Nat.reduceEqDiff, Nat.reduceAdd, reduceCtorEq]; try rfl), by (simp only [yE, Nat.reduceEqDiff, Nat.reduceAdd, reduceCtorEq]; try rfl), rfl, by omega, by omega⟩ ?_
    clear hal al
    rintro d e st ⟨al, x, rfl, rfl, rfl, hx1, hx2⟩
    by_cases ha : 0 < (strOf al).length
    · have t2 : leI ((strOf al).length : Nat) 0 = false := leI_false (by omega)
      have w2 : wrapK .i64 (((strOf al).length : Nat) - 1) = (((strOf al).length - 1 : Nat) : Int) := wrap_pred (by omega) (by omega)
      have c2 : (0 : Int) ≤ (((strOf al).length - 1 : Nat) : Int) := by omega
      have c0 : (0 : Int) ≤ 0 := by omega
      have c3 : (((strOf al).length - 1 : Nat) : Int) ≤ ((strOf al).length : Nat) := by omega
      have w3 : wrapK .i64 (x + 1) = x + 1 := wrap_int (by omega) (by omega)
      obtain ⟨c, hc⟩ := get_lt (show (strOf al).length - 1 < (strOf al).length by omega)
      cases h1 : eqI (c.toNat : Nat) 48 with
      | true =>
        simp -implicitDefEqProofs only [↓yP, yT, Nat.reduceAdd, Nat.reduceMul, Nat.reduceSub, Nat.reduceLeDiff, Nat.reduceEqDiff, reduceCtorEq, Nat.reduceBEq, opLen.eq_1, xindex.eq_1, xslice.eq_1, Int.toNat_natCast, t2, w2, c2, c0, c3, hc, h1, w3, i00]
        refine ⟨(strOf al).length - 1, [0, 1], by omega, by decide, pinned_zero _, _, _, by (simp only [yE, Nat.reduceEqDiff, Nat.reduceAdd, reduceCtorEq]; try rfl), by (simp only [yE, Nat.reduceEqDiff, Nat.reduceAdd, reduceCtorEq]; try rfl), ?_, by omega, ?_⟩
        · rw [strOf_mk]; simp
        · rw [strOf_mk]; simp; omega
      | false =>
        have hne : (strOf al == strOf ⟨#[]⟩) = false := by
          rw [beq_eq_false_iff_ne]; intro h; rw [h] at ha; exact absurd ha (by decide)
        simp -implicitDefEqProofs only [↓yP, yT, Nat.reduceAdd, Nat.reduceMul, Nat.reduceSub, Nat.reduceLeDiff, Nat.reduceEqDiff, reduceCtorEq, Nat.reduceBEq, opLen.eq_1, xindex.eq_1, xslice.eq_1, Int.toNat_natCast, t2, w2, c2, c0, hc, h1, xstr_eql, hne, Nat.reduceLT]
        refine Rcall_pure (decI_spec x (by omega) (by omega)) (by rfl) fun y hy => ?_
        obtain ⟨z, rfl, hz⟩ := hy
        simp -implicitDefEqProofs only [↓yP, yT, Nat.reduceAdd, Nat.reduceMul, Nat.reduceSub, Nat.reduceLeDiff, Nat.reduceEqDiff, reduceCtorEq, Nat.reduceBEq]
        refine Rcall_pure (add_spec ex z (by omega) (by omega)) (by rfl) fun y hy => ?_
        obtain ⟨z2, ok, rfl⟩ := hy
        simp -implicitDefEqProofs only [↓yP, yT, Nat.reduceAdd, Nat.reduceMul, Nat.reduceSub, Nat.reduceLeDiff, Nat.reduceEqDiff, reduceCtorEq, Nat.reduceBEq, Nat.reduceLT]
        exact ⟨_, _, _, _, rfl⟩
    · have t2 : leI ((strOf al).length : Nat) 0 = true := leI_true (by omega)
      have hnil : strOf al = [] := List.eq_nil_of_length_eq_zero (by omega)
      have hne : (strOf al == strOf ⟨#[]⟩) = true := by rw [hnil]; rfl
      simp -implicitDefEqProofs only [↓yP, yT, Nat.reduceAdd, Nat.reduceMul, Nat.reduceSub, Nat.reduceLeDiff, Nat.reduceEqDiff, reduceCtorEq, Nat.reduceBEq, opLen.eq_1, xindex.eq_1, xslice.eq_1, Int.toNat_natCast, t2, xstr_eql, hne, Nat.reduceLT]
      exact ⟨_, _, _, _, rfl⟩
  · have t1 : eqI (k : Nat) ((strOf s).length : Nat) = false := eqI_false (by omega)
    simp -implicitDefEqProofs only [↓yP, yT, Nat.reduceAdd, Nat.reduceMul, Nat.reduceSub, Nat.reduceLeDiff, Nat.reduceEqDiff, reduceCtorEq, Nat.reduceBEq, opLen.eq_1, xindex.eq_1, xslice.eq_1, Int.toNat_natCast, t1]
    exact ⟨_, _, _, _, rfl⟩
end Go.Vx.Seat
end
/- Numbers among code points. -/
section
open Go Go.Vx Go.Proofs
set_option linter.unusedSimpArgs false
set_option linter.unusedVariables false
set_option maxRecDepth 10000
set_option maxHeartbeats 8000000
namespace Go.Vx.Seat
attribute [local congr] Rg_at Rt_at Ro_at Ri_at Rc_at Rto_at Rtk_at Rtf_at Rti_at
attribute [local irreducible] Rg Rt Ro Ri Rc Rto Rtk Rtf Rti Rw Rl Rd Rcall Rtcall kf
theorem fn73 : nth C1.P.funcs.toList 73 = some Try.f73 := by kernel_rfl
abbrev tc (k : Int) (u : ByteArray) (b : Bool) (d x : ByteArray) (f sg : Bool) : List Ce :=
  [.p (.d (.int .i64 k)), .p (.d (.string ⟨#[]⟩)), .p (.d (.string u)), .p (.d (.bool b)), .p (.d (.string d)), .p (.d (.string x)), .p (.d (.bool f)), .p (.d (.bool sg)), .p (.d (.int .i64 0)), .p (.d (.int .i64 0)), .p (.d (.int .i64 0)), .p (.d (.int .i64 0)), .p (.d (.int .i64 0))]
def numTok (k : Int) (u : ByteArray) (b : Bool) (d x : ByteArray) (f sg : Bool) : Tok := ⟨k, ⟨#[]⟩, u, b, d, x, f, sg, 0, 0, 0, 0, 0⟩
theorem numTok_lex {l : List Rn} {k : Int} {u : ByteArray} {b : Bool} {d x : ByteArray} {f sg : Bool} (hk : k < 16) : TokLex l (numTok k u b d x f sg) :=
  ⟨by show 0 ≤ _; omega, fun h _ => by have h : 16 ≤ k := h; omega⟩
theorem ltk {i k : Nat} (h : i ≤ k) (hn : k = i → False) : i < k := by
  rcases Nat.lt_or_ge i k with g | g
  · exact g
  · exact (hn (by omega)).elim
theorem digit_in {l : List Rn} {k : Nat} (h : digitB (atR l (k : Nat)) = true) : k < l.length := Nat.lt_of_not_le fun hle => by
  rw [atR_out (by omega)] at h; exact absurd h (by decide)
theorem numbers_spec (l : List Rn) (i : Nat) (hl : l.length ≤ 1000000) (hi : i < l.length) (hn : numeralB l i = true) : PCall C1 73 [.c (.p (rR l)), yd (.int .i64 (i : Nat))] (LexR l i) := by
  have w1 : wrapK .i64 ((i : Int) + 1) = ((i + 1 : Nat) : Int) := wrap_succ (by omega)
  refine Pf (by rfl) (by rfl) fn73 (by rfl) ?_
  simp only [Try.f73, List.length_cons, List.length_nil, List.replicate, List.cons_append, List.nil_append]
  simp -implicitDefEqProofs only [↓yP, yT, Nat.reduceAdd, Nat.reduceMul, Nat.reduceSub, Nat.reduceLeDiff, Nat.reduceEqDiff, reduceCtorEq, Nat.reduceBEq, Nat.reduceLT]
  refine Rcall_cut (fun e st => ∃ (k : Nat) (sg : Bool), (∃ g : Nat → YV, e = [.c (.p (rR l)), yd (.int .i64 (k : Nat)), g 2, g 3, .c (.ptr 0 0 0 0), g 5, yd (.int .i64 (i : Nat)), .c (.ptr 1 0 0 0), g 8, g 9, g 10, g 11, g 12, g 13, g 14, g 15, g 16, g 17, g 18, g 19, g 20, g 21, g 22, g 23, g 24, g 25, g 26, g 27, g 28, g 29, g 30, g 31, g 32, g 33, g 34, g 35, g 36, g 37, g 38, g 39, g 40, g 41, g 42, g 43, g 44, g 45, g 46, g 47, g 48, g 49, g 50, g 51, g 52, g 53, g 54, g 55, g 56, g 57, g 58, g 59, g 60, g 61, g 62, g 63, g 64, g 65, g 66, g 67, g 68, g 69, g 70, g 71, g 72, g 73, g 74, g 75, g 76, g 77, g 78, g 79, g 80, g 81, g 82, g 83, g 84, g 85, g 86, g 87, g 88, g 89, g 90, g 91, g 92, g 93, g 94, g 95, g 96, g 97, g 98, g 99, g 100, g 101, g 102, g 103, g 104, g 105, g 106, g 107, g 108, g 109, g 110, g 111, g 112, g 113, g 114, g 115, g 116, g 117, g 118, g 119, g 120, g 121, g 122, g 123, g 124]) ∧ st = [.box zt, .box (tc 10 ⟨#[]⟩ false ⟨#[]⟩ ⟨#[]⟩ true sg)] ∧ i ≤ k ∧ k ≤ i + 1 ∧ (digitB (atR l (k : Nat)) || (eqI (atR l (k : Nat)) 46 && digitB (atR l ((k + 1 : Nat) : Int)))) = true) ?_ ?_
  · skip
    refine Rcall_pure (at_spec l _) (by rfl) fun y hy => ?_
    subst hy
    cases h1 : eqI (atR l (i : Nat)) 43 with
    | true =>
      simp -implicitDefEqProofs only [↓yP, yT, Nat.reduceAdd, Nat.reduceMul, Nat.reduceSub, Nat.reduceLeDiff, Nat.reduceEqDiff, reduceCtorEq, Nat.reduceBEq, h1]
      refine Rcall_pure (at_spec l _) (by rfl) fun y hy => ?_
      subst hy
      simp -implicitDefEqProofs only [↓yP, yT, Nat.reduceAdd, Nat.reduceMul, Nat.reduceSub, Nat.reduceLeDiff, Nat.reduceEqDiff, reduceCtorEq, Nat.reduceBEq, h1, w1, ythen_n, Nat.reduceLT]
      exact ⟨i + 1, _, gs_mk rfl, rfl, by omega, by omega, by simpa [numeralB, h1] using hn⟩
    | false =>
      simp -implicitDefEqProofs only [↓yP, yT, Nat.reduceAdd, Nat.reduceMul, Nat.reduceSub, Nat.reduceLeDiff, Nat.reduceEqDiff, reduceCtorEq, Nat.reduceBEq, h1]
      refine Rcall_pure (at_spec l _) (by rfl) fun y hy => ?_
      subst hy
      cases h2 : eqI (atR l (i : Nat)) 45 with
      | true =>
        simp -implicitDefEqProofs only [↓yP, yT, Nat.reduceAdd, Nat.reduceMul, Nat.reduceSub, Nat.reduceLeDiff, Nat.reduceEqDiff, reduceCtorEq, Nat.reduceBEq, h1, h2]
        refine Rcall_pure (at_spec l _) (by rfl) fun y hy => ?_
        subst hy
        simp -implicitDefEqProofs only [↓yP, yT, Nat.reduceAdd, Nat.reduceMul, Nat.reduceSub, Nat.reduceLeDiff, Nat.reduceEqDiff, reduceCtorEq, Nat.reduceBEq, h1, h2, w1, ythen_n, Nat.reduceLT]
        exact ⟨i + 1, _, gs_mk rfl, rfl, by omega, by omega, by simpa [numeralB, h1, h2] using hn⟩
      | false =>
        simp -implicitDefEqProofs only [↓yP, yT, Nat.reduceAdd, Nat.reduceMul, Nat.reduceSub, Nat.reduceLeDiff, Nat.reduceEqDiff, reduceCtorEq, Nat.reduceBEq, h1, h2, ythen_n]
        exact ⟨i, _, gs_mk rfl, rfl, by omega, by omega, by simpa [numeralB, h1, h2] using hn⟩
  rintro e st ⟨i1, sg, ⟨g, rfl⟩, rfl, hi1, hi2, hnd⟩
  have hin : i1 < l.length := Nat.lt_of_not_le fun hle => by
    rw [atR_out (by omega)] at hnd; exact absurd hnd (by simp [digitB, leI_eq, eqI_eq])
  simp -implicitDefEqProofs only [↓yP, yT, Nat.reduceAdd, Nat.reduceMul, Nat.reduceSub, Nat.reduceLeDiff, Nat.reduceEqDiff, reduceCtorEq, Nat.reduceBEq]
  refine Rl_inv (fun d e st => ∃ (k : Nat), e = ([.c (.p (rR l)), yd (.int .i64 (k : Nat)), .c .top, .c .top, .c (.ptr 0 0 0 0), .c .top, yd (.int .i64 (i : Nat)), .c (.ptr 1 0 0 0), .c .top, .c .top, .c .top, .c .top, .c .top, .c .top, .c .top, .c .top, .c .top, .c .top, .c .top, .c .top, .c .top, .c .top, .c .top, .c .top, .c .top, .c .top, .c .top, .c .top, .c .top, .c .top, .c .top, .c .top, .c .top, .c .top, .c .top, .c .top, .c .top, .c .top, .c .top, .c .top, .c .top, .c .top, .c .top, .c .top, .c .top, .c .top, .c .top, .c .top, .c .top, .c .top, .c .top, .c .top, .c .top, .c .top, .c .top, .c .top, .c .top, .c .top, .c .top, .c .top, .c .top, .c .top, .c .top, .c .top, .c .top, .c .top, .c .top, .c .top, .c .top, .c .top, .c .top, .c .top, .c .top, .c .top, .c .top, .c .top, .c .top, .c .top, .c .top, .c .top, .c .top, .c .top, .c .top, .c .top, .c .top, .c .top, .c .top, .c .top, .c .top, .c .top, .c .top, .c .top, .c .top, .c .top, .c .top, .c .top, .c .top, .c .top, .c .top, .c .top, .c .top, .c .top, .c .top, .c .top, .c .top, .c .top, .c .top, .c .top, .c .top, .c .top, .c .top, .c .top, .c .top, .c .top, .c .top, .c .top, .c .top, .c .top, .c .top, .c .top, .c .top, .c .top, .c .top, .c .top, .c .top]) ∧ st = [.box zt, .box (tc 10 ⟨#[]⟩ false ⟨#[]⟩ ⟨#[]⟩ true sg)] ∧ k + d = l.length ∧ i ≤ k ∧ (k = i → (digitB (atR l (k : Nat)) || (eqI (atR l (k : Nat)) 46 && digitB (atR l ((k + 1 : Nat) : Int)))) = true)) [true, true, false, false, true, false, true, true] (l.length - i1) [0, 1] (by decide) (pinned_zero _) ⟨i1, by (simp only [yE, Nat.reduceEqDiff, Nat.reduceAdd, reduceCtorEq]; try rfl), by (simp only [yE, Nat.reduceEqDiff, Nat.reduceAdd, reduceCtorEq]; try rfl), by omega, by omega, fun _ => hnd⟩ ?_
  rintro d e st ⟨k, rfl, rfl, hd, hik, hk⟩
  simp -implicitDefEqProofs only [↓yP, yT, Nat.reduceAdd, Nat.reduceMul, Nat.reduceSub, Nat.reduceLeDiff, Nat.reduceEqDiff, reduceCtorEq, Nat.reduceBEq]
  refine Rcall_pure (at_spec l _) (by rfl) fun y hy => ?_
  subst hy
  simp -implicitDefEqProofs only [↓yP, yT, Nat.reduceAdd, Nat.reduceMul, Nat.reduceSub, Nat.reduceLeDiff, Nat.reduceEqDiff, reduceCtorEq, Nat.reduceBEq]
  refine Rcall_pure (digit_spec _) (by rfl) fun y hy => ?_
  subst hy
  cases h1 : digitB (atR l (k : Nat)) with
  | true =>
    have := digit_in h1
    have v1 : wrapK .i64 ((k : Int) + 1) = ((k + 1 : Nat) : Int) := wrap_succ (by omega)
    simp -implicitDefEqProofs only [↓yP, yT, Nat.reduceAdd, Nat.reduceMul, Nat.reduceSub, Nat.reduceLeDiff, Nat.reduceEqDiff, reduceCtorEq, Nat.reduceBEq, v1]
    refine ⟨d - 1, [0, 1], by omega, by decide, pinned_zero _, k + 1, by (simp only [yE, Nat.reduceEqDiff, Nat.reduceAdd, reduceCtorEq]; try rfl), by (simp only [yE, Nat.reduceEqDiff, Nat.reduceAdd, reduceCtorEq]; try rfl), by omega, by omega, fun h => by omega⟩
  | false =>
  rw [h1, Bool.false_or] at hk
  have v1 : wrapK .i64 ((k : Int) + 1) = ((k + 1 : Nat) : Int) := wrap_succ (by omega)
  have v2 : wrapK .i64 ((k : Int) + 2) = ((k + 2 : Nat) : Int) := wrap_nat (i := k + 2) (by omega)
  simp -implicitDefEqProofs only [↓yP, yT, Nat.reduceAdd, Nat.reduceMul, Nat.reduceSub, Nat.reduceLeDiff, Nat.reduceEqDiff, reduceCtorEq, Nat.reduceBEq]
  refine Rcall_cut (fun e st => ∃ (k : Nat) (f : Bool), (∃ g : Nat → YV, e = [.c (.p (rR l)), yd (.int .i64 (k : Nat)), g 2, g 3, .c (.ptr 0 0 0 0), g 5, yd (.int .i64 (i : Nat)), .c (.ptr 1 0 0 0), g 8, g 9, g 10, g 11, g 12, g 13, g 14, g 15, g 16, g 17, g 18, g 19, g 20, g 21, g 22, g 23, g 24, g 25, g 26, g 27, g 28, g 29, g 30, g 31, g 32, g 33, g 34, g 35, g 36, g 37, g 38, g 39, g 40, g 41, g 42, g 43, g 44, g 45, g 46, g 47, g 48, g 49, g 50, g 51, g 52, g 53, g 54, g 55, g 56, g 57, g 58, g 59, g 60, g 61, g 62, g 63, g 64, g 65, g 66, g 67, g 68, g 69, g 70, g 71, g 72, g 73, g 74, g 75, g 76, g 77, g 78, g 79, g 80, g 81, g 82, g 83, g 84, g 85, g 86, g 87, g 88, g 89, g 90, g 91, g 92, g 93, g 94, g 95, g 96, g 97, g 98, g 99, g 100, g 101, g 102, g 103, g 104, g 105, g 106, g 107, g 108, g 109, g 110, g 111, g 112, g 113, g 114, g 115, g 116, g 117, g 118, g 119, g 120, g 121, g 122, g 123, g 124]) ∧ st = [.box zt, .box (tc 10 ⟨#[]⟩ false ⟨#[]⟩ ⟨#[]⟩ f sg)] ∧ i < k ∧ k ≤ l.length) ?_ ?_
  · skip
    refine Rcall_pure (at_spec l _) (by rfl) fun y hy => ?_
    subst hy
    cases h2 : eqI (atR l (k : Nat)) 46 with
    | false =>
      simp -implicitDefEqProofs only [↓yP, yT, Nat.reduceAdd, Nat.reduceMul, Nat.reduceSub, Nat.reduceLeDiff, Nat.reduceEqDiff, reduceCtorEq, Nat.reduceBEq, h2, ythen_n]
      exact ⟨k, _, gs_mk rfl, rfl, ltk hik (fun h => by have := hk h; rw [h2] at this; simp at this), by omega⟩
    | true =>
      simp -implicitDefEqProofs only [↓yP, yT, Nat.reduceAdd, Nat.reduceMul, Nat.reduceSub, Nat.reduceLeDiff, Nat.reduceEqDiff, reduceCtorEq, Nat.reduceBEq, h2, v1]
      refine Rcall_pure (at_spec l _) (by rfl) fun y hy => ?_
      subst hy
      simp -implicitDefEqProofs only [↓yP, yT, Nat.reduceAdd, Nat.reduceMul, Nat.reduceSub, Nat.reduceLeDiff, Nat.reduceEqDiff, reduceCtorEq, Nat.reduceBEq]
      refine Rcall_pure (digit_spec _) (by rfl) fun y hy => ?_
      subst hy
      cases h3 : digitB (atR l ((k + 1 : Nat) : Int)) with
      | false =>
        simp -implicitDefEqProofs only [↓yP, yT, Nat.reduceAdd, Nat.reduceMul, Nat.reduceSub, Nat.reduceLeDiff, Nat.reduceEqDiff, reduceCtorEq, Nat.reduceBEq, ythen_n]
        exact ⟨k, _, gs_mk rfl, rfl, ltk hik (fun h => by have := hk h; rw [h3] at this; simp at this), by omega⟩
      | true =>
        have := digit_in h3
        simp -implicitDefEqProofs only [↓yP, yT, Nat.reduceAdd, Nat.reduceMul, Nat.reduceSub, Nat.reduceLeDiff, Nat.reduceEqDiff, reduceCtorEq, Nat.reduceBEq, v2, Nat.reduceLT]
        refine Rl_inv (fun d e st => ∃ (k2 : Nat), e = ([.c (.p (rR l)), yd (.int .i64 (k2 : Nat)), .c .top, .c .top, .c (.ptr 0 0 0 0), .c .top, yd (.int .i64 (i : Nat)), .c (.ptr 1 0 0 0), .c .top, .c .top, .c .top, .c .top, .c .top, .c .top, .c .top, .c .top, .c .top, .c .top, .c .top, .c .top, .c .top, .c .top, .c .top, .c .top, .c .top, .c .top, .c .top, .c .top, .c .top, .c .top, .c .top, .c .top, .c .top, .c .top, .c .top, .c .top, .c .top, .c .top, .c .top, .c .top, .c .top, .c .top, .c .top, .c .top, .c .top, .c .top, .c .top, .c .top, .c .top, .c .top, .c .top, .c .top, .c .top, .c .top, .c .top, .c .top, .c .top, .c .top, .c .top, .c .top, .c .top, .c .top, .c .top, .c .top, .c .top, .c .top, .c .top, .c .top, .c .top, .c .top, .c .top, .c .top, .c .top, .c .top, .c .top, .c .top, .c .top, .c .top, .c .top, .c .top, .c .top, .c .top, .c .top, .c .top, .c .top, .c .top, .c .top, .c .top, .c .top, .c .top, .c .top, .c .top, .c .top, .c .top, .c .top, .c .top, .c .top, .c .top, .c .top, .c .top, .c .top, .c .top, .c .top, .c .top, .c .top, .c .top, .c .top, .c .top, .c .top, .c .top, .c .top, .c .top, .c .top, .c .top, .c .top, .c .top, .c .top, .c .top, .c .top, .c .top, .c .top, .c .top, .c .top, .c .top, .c .top]) ∧ st = [.box zt, .box (tc 10 ⟨#[]⟩ false ⟨#[]⟩ ⟨#[]⟩ false sg)] ∧ k2 + d = l.length ∧ i < k2) [true, true, false, false, true, false, true, true] (l.length - (k + 2)) [0, 1] (by decide) (pinned_zero _) ⟨(k + 2), by (simp only [yE, Nat.reduceEqDiff, Nat.reduceAdd, reduceCtorEq]; try rfl), by (simp only [yE, Nat.reduceEqDiff, Nat.reduceAdd, reduceCtorEq]; try rfl), by omega, by omega⟩ ?_
        rintro d2 e st ⟨k2, rfl, rfl, hd2, hk2⟩
        simp -implicitDefEqProofs only [↓yP, yT, Nat.reduceAdd, Nat.reduceMul, Nat.reduceSub, Nat.reduceLeDiff, Nat.reduceEqDiff, reduceCtorEq, Nat.reduceBEq]
        refine Rcall_pure (at_spec l _) (by rfl) fun y hy => ?_
        subst hy
        simp -implicitDefEqProofs only [↓yP, yT, Nat.reduceAdd, Nat.reduceMul, Nat.reduceSub, Nat.reduceLeDiff, Nat.reduceEqDiff, reduceCtorEq, Nat.reduceBEq]
        refine Rcall_pure (digit_spec _) (by rfl) fun y hy => ?_
        subst hy
        cases h8 : digitB (atR l (k2 : Nat)) with
        | true =>
          have := digit_in h8
          have v8 : wrapK .i64 ((k2 : Int) + 1) = ((k2 + 1 : Nat) : Int) := wrap_succ (by omega)
          simp -implicitDefEqProofs only [↓yP, yT, Nat.reduceAdd, Nat.reduceMul, Nat.reduceSub, Nat.reduceLeDiff, Nat.reduceEqDiff, reduceCtorEq, Nat.reduceBEq, v8]
          refine ⟨d2 - 1, [0, 1], by omega, by decide, pinned_zero _, k2 + 1, by (simp only [yE, Nat.reduceEqDiff, Nat.reduceAdd, reduceCtorEq]; try rfl), by (simp only [yE, Nat.reduceEqDiff, Nat.reduceAdd, reduceCtorEq]; try rfl), by omega, by omega⟩
        | false =>
          simp -implicitDefEqProofs only [↓yP, yT, Nat.reduceAdd, Nat.reduceMul, Nat.reduceSub, Nat.reduceLeDiff, Nat.reduceEqDiff, reduceCtorEq, Nat.reduceBEq, ythen_n]
          exact ⟨k2, _, gs_mk rfl, rfl, by omega, by omega⟩
  clear v1 v2 hk hik hd h1 k
  rintro e st ⟨k, f, ⟨g, rfl⟩, rfl, hik, hkl⟩
  have v1 : wrapK .i64 ((k : Int) + 1) = ((k + 1 : Nat) : Int) := wrap_succ (by omega)
  simp -implicitDefEqProofs only [↓yP, yT, Nat.reduceAdd, Nat.reduceMul, Nat.reduceSub, Nat.reduceLeDiff, Nat.reduceEqDiff, reduceCtorEq, Nat.reduceBEq]
  refine Rcall_cut (fun e st => ∃ (k : Nat) (f : Bool), (∃ g : Nat → YV, e = [.c (.p (rR l)), yd (.int .i64 (k : Nat)), g 2, g 3, .c (.ptr 0 0 0 0), g 5, yd (.int .i64 (i : Nat)), .c (.ptr 1 0 0 0), g 8, g 9, g 10, g 11, g 12, g 13, g 14, g 15, g 16, g 17, g 18, g 19, g 20, g 21, g 22, g 23, g 24, g 25, g 26, g 27, g 28, g 29, g 30, g 31, g 32, g 33, g 34, g 35, g 36, g 37, g 38, g 39, g 40, g 41, g 42, g 43, g 44, g 45, g 46, g 47, g 48, g 49, g 50, g 51, g 52, g 53, g 54, g 55, g 56, g 57, g 58, g 59, g 60, g 61, g 62, g 63, g 64, g 65, g 66, g 67, g 68, g 69, g 70, g 71, g 72, g 73, g 74, g 75, g 76, g 77, g 78, g 79, g 80, g 81, g 82, g 83, g 84, g 85, g 86, g 87, g 88, g 89, g 90, g 91, g 92, g 93, g 94, g 95, g 96, g 97, g 98, g 99, g 100, g 101, g 102, g 103, g 104, g 105, g 106, g 107, g 108, g 109, g 110, g 111, g 112, g 113, g 114, g 115, g 116, g 117, g 118, g 119, g 120, g 121, g 122, g 123, g 124]) ∧ st = [.box zt, .box (tc 10 ⟨#[]⟩ false ⟨#[]⟩ ⟨#[]⟩ f sg)] ∧ i < k ∧ k ≤ l.length) ?_ ?_
  · skip
    refine Rcall_pure (at_spec l _) (by rfl) fun y hy => ?_
    subst hy
    cases h1 : eqI (atR l (k : Nat)) 101 with
    | true =>
      simp -implicitDefEqProofs only [↓yP, yT, Nat.reduceAdd, Nat.reduceMul, Nat.reduceSub, Nat.reduceLeDiff, Nat.reduceEqDiff, reduceCtorEq, Nat.reduceBEq, h1, v1]
      refine Rcall_cut (fun e st => ∃ (k3 : Nat), (∃ g : Nat → YV, e = [.c (.p (rR l)), yd (.int .i64 (k : Nat)), g 2, g 3, .c (.ptr 0 0 0 0), g 5, yd (.int .i64 (i : Nat)), .c (.ptr 1 0 0 0), yd (.int .i64 (k3 : Nat)), g 9, g 10, g 11, g 12, g 13, g 14, g 15, g 16, g 17, g 18, g 19, g 20, g 21, g 22, g 23, g 24, g 25, g 26, g 27, g 28, g 29, g 30, g 31, g 32, g 33, g 34, g 35, g 36, g 37, g 38, g 39, g 40, g 41, g 42, g 43, g 44, g 45, g 46, g 47, g 48, g 49, g 50, g 51, g 52, g 53, g 54, g 55, g 56, g 57, g 58, g 59, g 60, g 61, g 62, g 63, g 64, g 65, g 66, g 67, g 68, g 69, g 70, g 71, g 72, g 73, g 74, g 75, g 76, g 77, g 78, g 79, g 80, g 81, g 82, g 83, g 84, g 85, g 86, g 87, g 88, g 89, g 90, g 91, g 92, g 93, g 94, g 95, g 96, g 97, g 98, g 99, g 100, g 101, g 102, g 103, g 104, g 105, g 106, g 107, g 108, g 109, g 110, g 111, g 112, g 113, g 114, g 115, g 116, g 117, g 118, g 119, g 120, g 121, g 122, g 123, g 124]) ∧ st = [.box zt, .box (tc 10 ⟨#[]⟩ false ⟨#[]⟩ ⟨#[]⟩ f sg)] ∧ k < k3 ∧ k3 ≤ k + 2) ?_ ?_
      · skip
        refine Rcall_pure (at_spec l _) (by rfl) fun y hy => ?_
        subst hy
        have w2 : wrapK .i64 (((k + 1 : Nat) : Int) + 1) = ((k + 2 : Nat) : Int) := wrap_succ (by omega)
        cases h3 : eqI (atR l ((k + 1 : Nat) : Int)) 43 with
        | true =>
          simp -implicitDefEqProofs only [↓yP, yT, Nat.reduceAdd, Nat.reduceMul, Nat.reduceSub, Nat.reduceLeDiff, Nat.reduceEqDiff, reduceCtorEq, Nat.reduceBEq, h3, w2, ythen_n]
          exact ⟨k + 2, gs_mk rfl, by omega, by omega⟩
        | false =>
          simp -implicitDefEqProofs only [↓yP, yT, Nat.reduceAdd, Nat.reduceMul, Nat.reduceSub, Nat.reduceLeDiff, Nat.reduceEqDiff, reduceCtorEq, Nat.reduceBEq, h3]
          refine Rcall_pure (at_spec l _) (by rfl) fun y hy => ?_
          subst hy
          cases h4 : eqI (atR l ((k + 1 : Nat) : Int)) 45 with
          | true =>
            simp -implicitDefEqProofs only [↓yP, yT, Nat.reduceAdd, Nat.reduceMul, Nat.reduceSub, Nat.reduceLeDiff, Nat.reduceEqDiff, reduceCtorEq, Nat.reduceBEq, h4, w2, ythen_n]
            exact ⟨k + 2, gs_mk rfl, by omega, by omega⟩
          | false =>
            simp -implicitDefEqProofs only [↓yP, yT, Nat.reduceAdd, Nat.reduceMul, Nat.reduceSub, Nat.reduceLeDiff, Nat.reduceEqDiff, reduceCtorEq, Nat.reduceBEq, h4, ythen_n]
            exact ⟨k + 1, gs_mk rfl, by omega, by omega⟩
      rintro e st ⟨k3, ⟨g, rfl⟩, rfl, hk3, hk3'⟩
      simp -implicitDefEqProofs only [↓yP, yT, Nat.reduceAdd, Nat.reduceMul, Nat.reduceSub, Nat.reduceLeDiff, Nat.reduceEqDiff, reduceCtorEq, Nat.reduceBEq]
      refine Rcall_pure (at_spec l _) (by rfl) fun y hy => ?_
      subst hy
      simp -implicitDefEqProofs only [↓yP, yT, Nat.reduceAdd, Nat.reduceMul, Nat.reduceSub, Nat.reduceLeDiff, Nat.reduceEqDiff, reduceCtorEq, Nat.reduceBEq]
      refine Rcall_pure (digit_spec _) (by rfl) fun y hy => ?_
      subst hy
      cases h5 : digitB (atR l (k3 : Nat)) with
      | false =>
        simp -implicitDefEqProofs only [↓yP, yT, Nat.reduceAdd, Nat.reduceMul, Nat.reduceSub, Nat.reduceLeDiff, Nat.reduceEqDiff, reduceCtorEq, Nat.reduceBEq, ythen_n]
        exact ⟨k, _, gs_mk rfl, rfl, by omega, by omega⟩
      | true =>
        have := digit_in h5
        simp -implicitDefEqProofs only [↓yP, yT, Nat.reduceAdd, Nat.reduceMul, Nat.reduceSub, Nat.reduceLeDiff, Nat.reduceEqDiff, reduceCtorEq, Nat.reduceBEq, Nat.reduceLT]
        refine Rl_inv (fun d e st => ∃ (k2 : Nat), e = ([.c (.p (rR l)), yd (.int .i64 (k2 : Nat)), .c .top, .c .top, .c (.ptr 0 0 0 0), .c .top, yd (.int .i64 (i : Nat)), .c (.ptr 1 0 0 0), .c .top, .c .top, .c .top, .c .top, .c .top, .c .top, .c .top, .c .top, .c .top, .c .top, .c .top, .c .top, .c .top, .c .top, .c .top, .c .top, .c .top, .c .top, .c .top, .c .top, .c .top, .c .top, .c .top, .c .top, .c .top, .c .top, .c .top, .c .top, .c .top, .c .top, .c .top, .c .top, .c .top, .c .top, .c .top, .c .top, .c .top, .c .top, .c .top, .c .top, .c .top, .c .top, .c .top, .c .top, .c .top, .c .top, .c .top, .c .top, .c .top, .c .top, .c .top, .c .top, .c .top, .c .top, .c .top, .c .top, .c .top, .c .top, .c .top, .c .top, .c .top, .c .top, .c .top, .c .top, .c .top, .c .top, .c .top, .c .top, .c .top, .c .top, .c .top, .c .top, .c .top, .c .top, .c .top, .c .top, .c .top, .c .top, .c .top, .c .top, .c .top, .c .top, .c .top, .c .top, .c .top, .c .top, .c .top, .c .top, .c .top, .c .top, .c .top, .c .top, .c .top, .c .top, .c .top, .c .top, .c .top, .c .top, .c .top, .c .top, .c .top, .c .top, .c .top, .c .top, .c .top, .c .top, .c .top, .c .top, .c .top, .c .top, .c .top, .c .top, .c .top, .c .top, .c .top, .c .top, .c .top]) ∧ st = [.box zt, .box (tc 10 ⟨#[]⟩ false ⟨#[]⟩ ⟨#[]⟩ false sg)] ∧ k2 + d = l.length ∧ i < k2) [true, true, false, false, true, false, true, true] (l.length - k3) [0, 1] (by decide) (pinned_zero _) ⟨k3, by (simp only [yE, Nat.reduceEqDiff, Nat.reduceAdd, reduceCtorEq]; try rfl), by (simp only [yE, Nat.reduceEqDiff, Nat.reduceAdd, reduceCtorEq]; try rfl), by omega, by omega⟩ ?_
        rintro d2 e st ⟨k2, rfl, rfl, hd2, hk2⟩
        simp -implicitDefEqProofs only [↓yP, yT, Nat.reduceAdd, Nat.reduceMul, Nat.reduceSub, Nat.reduceLeDiff, Nat.reduceEqDiff, reduceCtorEq, Nat.reduceBEq]
        refine Rcall_pure (at_spec l _) (by rfl) fun y hy => ?_
        subst hy
        simp -implicitDefEqProofs only [↓yP, yT, Nat.reduceAdd, Nat.reduceMul, Nat.reduceSub, Nat.reduceLeDiff, Nat.reduceEqDiff, reduceCtorEq, Nat.reduceBEq]
        refine Rcall_pure (digit_spec _) (by rfl) fun y hy => ?_
        subst hy
        cases h8 : digitB (atR l (k2 : Nat)) with
        | true =>
          have := digit_in h8
          have v8 : wrapK .i64 ((k2 : Int) + 1) = ((k2 + 1 : Nat) : Int) := wrap_succ (by omega)
          simp -implicitDefEqProofs only [↓yP, yT, Nat.reduceAdd, Nat.reduceMul, Nat.reduceSub, Nat.reduceLeDiff, Nat.reduceEqDiff, reduceCtorEq, Nat.reduceBEq, v8]
          refine ⟨d2 - 1, [0, 1], by omega, by decide, pinned_zero _, k2 + 1, by (simp only [yE, Nat.reduceEqDiff, Nat.reduceAdd, reduceCtorEq]; try rfl), by (simp only [yE, Nat.reduceEqDiff, Nat.reduceAdd, reduceCtorEq]; try rfl), by omega, by omega⟩
        | false =>
          simp -implicitDefEqProofs only [↓yP, yT, Nat.reduceAdd, Nat.reduceMul, Nat.reduceSub, Nat.reduceLeDiff, Nat.reduceEqDiff, reduceCtorEq, Nat.reduceBEq, ythen_n]
          exact ⟨k2, _, gs_mk rfl, rfl, by omega, by omega⟩
    | false =>
      simp -implicitDefEqProofs only [↓yP, yT, Nat.reduceAdd, Nat.reduceMul, Nat.reduceSub, Nat.reduceLeDiff, Nat.reduceEqDiff, reduceCtorEq, Nat.reduceBEq, h1]
      refine Rcall_pure (at_spec l _) (by rfl) fun y hy => ?_
      subst hy
      cases h2 : eqI (atR l (k : Nat)) 69 with
      | true =>
        simp -implicitDefEqProofs only [↓yP, yT, Nat.reduceAdd, Nat.reduceMul, Nat.reduceSub, Nat.reduceLeDiff, Nat.reduceEqDiff, reduceCtorEq, Nat.reduceBEq, h2, v1]
        refine Rcall_cut (fun e st => ∃ (k3 : Nat), (∃ g : Nat → YV, e = [.c (.p (rR l)), yd (.int .i64 (k : Nat)), g 2, g 3, .c (.ptr 0 0 0 0), g 5, yd (.int .i64 (i : Nat)), .c (.ptr 1 0 0 0), yd (.int .i64 (k3 : Nat)), g 9, g 10, g 11, g 12, g 13, g 14, g 15, g 16, g 17, g 18, g 19, g 20, g 21, g 22, g 23, g 24, g 25, g 26, g 27, g 28, g 29, g 30, g 31, g 32, g 33, g 34, g 35, g 36, g 37, g 38, g 39, g 40, g 41, g 42, g 43, g 44, g 45, g 46, g 47, g 48, g 49, g 50, g 51, g 52, g 53, g 54, g 55, g 56, g 57, g 58, g 59, g 60, g 61, g 62, g 63, g 64, g 65, g 66, g 67, g 68, g 69, g 70, g 71, g 72, g 73, g 74, g 75, g 76, g 77, g 78, g 79, g 80, g 81, g 82, g 83, g 84, g 85, g 86, g 87, g 88, g 89, g 90, g 91, g 92, g 93, g 94, g 95, g 96, g 97, g 98, g 99, g 100, g 101, g 102, g 103, g 104, g 105, g 106, g 107, g 108, g 109, g 110, g 111, g 112, g 113, g 114, g 115, g 116, g 117, g 118, g 119, g 120, g 121, g 122, g 123, g 124]) ∧ st = [.box zt, .box (tc 10 ⟨#[]⟩ false ⟨#[]⟩ ⟨#[]⟩ f sg)] ∧ k < k3 ∧ k3 ≤ k + 2) ?_ ?_
        · skip
          refine Rcall_pure (at_spec l _) (by rfl) fun y hy => ?_
          subst hy
          have w2 : wrapK .i64 (((k + 1 : Nat) : Int) + 1) = ((k + 2 : Nat) : Int) := wrap_succ (by omega)
          cases h3 : eqI (atR l ((k + 1 : Nat) : Int)) 43 with
          | true =>
            simp -implicitDefEqProofs only [↓yP, yT, Nat.reduceAdd, Nat.reduceMul, Nat.reduceSub, Nat.reduceLeDiff, Nat.reduceEqDiff, reduceCtorEq, Nat.reduceBEq, h3, w2, ythen_n]
            exact ⟨k + 2, gs_mk rfl, by omega, by omega⟩
          | false =>
            simp -implicitDefEqProofs only [↓yP, yT, Nat.reduceAdd, Nat.reduceMul, Nat.reduceSub, Nat.reduceLeDiff, Nat.reduceEqDiff, reduceCtorEq, Nat.reduceBEq, h3]
            refine Rcall_pure (at_spec l _) (by rfl) fun y hy => ?_
            subst hy
            cases h4 : eqI (atR l ((k + 1 : Nat) : Int)) 45 with
            | true =>
              simp -implicitDefEqProofs only [↓yP, yT, Nat.reduceAdd, Nat.reduceMul, Nat.reduceSub, Nat.reduceLeDiff, Nat.reduceEqDiff, reduceCtorEq, Nat.reduceBEq, h4, w2, ythen_n]
              exact ⟨k + 2, gs_mk rfl, by omega, by omega⟩
            | false =>
              simp -implicitDefEqProofs only [↓yP, yT, Nat.reduceAdd, Nat.reduceMul, Nat.reduceSub, Nat.reduceLeDiff, Nat.reduceEqDiff, reduceCtorEq, Nat.reduceBEq, h4, ythen_n]
              exact ⟨k + 1, gs_mk rfl, by omega, by omega⟩
        rintro e st ⟨k3, ⟨g, rfl⟩, rfl, hk3, hk3'⟩
        simp -implicitDefEqProofs only [↓yP, yT, Nat.reduceAdd, Nat.reduceMul, Nat.reduceSub, Nat.reduceLeDiff, Nat.reduceEqDiff, reduceCtorEq, Nat.reduceBEq]
        refine Rcall_pure (at_spec l _) (by rfl) fun y hy => ?_
        subst hy
        simp -implicitDefEqProofs only [↓yP, yT, Nat.reduceAdd, Nat.reduceMul, Nat.reduceSub, Nat.reduceLeDiff, Nat.reduceEqDiff, reduceCtorEq, Nat.reduceBEq]
        refine Rcall_pure (digit_spec _) (by rfl) fun y hy => ?_
        subst hy
        cases h5 : digitB (atR l (k3 : Nat)) with
        | false =>
          simp -implicitDefEqProofs only [↓yP, yT, Nat.reduceAdd, Nat.reduceMul, Nat.reduceSub, Nat.reduceLeDiff, Nat.reduceEqDiff, reduceCtorEq, Nat.reduceBEq, ythen_n]
          exact ⟨k, _, gs_mk rfl, rfl, by omega, by omega⟩
        | true =>
          have := digit_in h5
          simp -implicitDefEqProofs only [↓yP, yT, Nat.reduceAdd, Nat.reduceMul, Nat.reduceSub, Nat.reduceLeDiff, Nat.reduceEqDiff, reduceCtorEq, Nat.reduceBEq, Nat.reduceLT]
          refine Rl_inv (fun d e st => ∃ (k2 : Nat), e = ([.c (.p (rR l)), yd (.int .i64 (k2 : Nat)), .c .top, .c .top, .c (.ptr 0 0 0 0), .c .top, yd (.int .i64 (i : Nat)), .c (.ptr 1 0 0 0), .c .top, .c .top, .c .top, .c .top, .c .top, .c .top, .c .top, .c .top, .c .top, .c .top, .c .top, .c .top, .c .top, .c .top, .c .top, .c .top, .c .top, .c .top, .c .top, .c .top, .c .top, .c .top, .c .top, .c .top, .c .top, .c .top, .c .top, .c .top, .c .top, .c .top, .c .top, .c .top, .c .top, .c .top, .c .top, .c .top, .c .top, .c .top, .c .top, .c .top, .c .top, .c .top, .c .top, .c .top, .c .top, .c .top, .c .top, .c .top, .c .top, .c .top, .c .top, .c .top, .c .top, .c .top, .c .top, .c .top, .c .top, .c .top, .c .top, .c .top, .c .top, .c .top, .c .top, .c .top, .c .top, .c .top, .c .top, .c .top, .c .top, .c .top, .c .top, .c .top, .c .top, .c .top, .c .top, .c .top, .c .top, .c .top, .c .top, .c .top, .c .top, .c .top, .c .top, .c .top, .c .top, .c .top, .c .top, .c .top, .c .top, .c .top, .c .top, .c .top, .c .top, .c .top, .c .top, .c .top, .c .top, .c .top, .c .top, .c .top, .c .top, .c .top, .c .top, .c .top, .c .top, .c .top, .c .top, .c .top, .c .top, .c .top, .c .top, .c .top, .c .top, .c .top, .c .top, .c .top, .c .top]) ∧ st = [.box zt, .box (tc 10 ⟨#[]⟩ false ⟨#[]⟩ ⟨#[]⟩ false sg)] ∧ k2 + d = l.length ∧ i < k2) [true, true, false, false, true, false, true, true] (l.length - k3) [0, 1] (by decide) (pinned_zero _) ⟨k3, by (simp only [yE, Nat.reduceEqDiff, Nat.reduceAdd, reduceCtorEq]; try rfl), by (simp only [yE, Nat.reduceEqDiff, Nat.reduceAdd, reduceCtorEq]; try rfl), by omega, by omega⟩ ?_
          rintro d2 e st ⟨k2, rfl, rfl, hd2, hk2⟩
          simp -implicitDefEqProofs only [↓yP, yT, Nat.reduceAdd, Nat.reduceMul, Nat.reduceSub, Nat.reduceLeDiff, Nat.reduceEqDiff, reduceCtorEq, Nat.reduceBEq]
          refine Rcall_pure (at_spec l _) (by rfl) fun y hy => ?_
          subst hy
          simp -implicitDefEqProofs only [↓yP, yT, Nat.reduceAdd, Nat.reduceMul, Nat.reduceSub, Nat.reduceLeDiff, Nat.reduceEqDiff, reduceCtorEq, Nat.reduceBEq]
          refine Rcall_pure (digit_spec _) (by rfl) fun y hy => ?_
          subst hy
          cases h8 : digitB (atR l (k2 : Nat)) with
          | true =>
            have := digit_in h8
            have v8 : wrapK .i64 ((k2 : Int) + 1) = ((k2 + 1 : Nat) : Int) := wrap_succ (by omega)
            simp -implicitDefEqProofs only [↓yP, yT, Nat.reduceAdd, Nat.reduceMul, Nat.reduceSub, Nat.reduceLeDiff, Nat.reduceEqDiff, reduceCtorEq, Nat.reduceBEq, v8]
            refine ⟨d2 - 1, [0, 1], by omega, by decide, pinned_zero _, k2 + 1, by (simp only [yE, Nat.reduceEqDiff, Nat.reduceAdd, reduceCtorEq]; try rfl), by (simp only [yE, Nat.reduceEqDiff, Nat.reduceAdd, reduceCtorEq]; try rfl), by omega, by omega⟩
          | false =>
            simp -implicitDefEqProofs only [↓yP, yT, Nat.reduceAdd, Nat.reduceMul, Nat.reduceSub, Nat.reduceLeDiff, Nat.reduceEqDiff, reduceCtorEq, Nat.reduceBEq, ythen_n]
            exact ⟨k2, _, gs_mk rfl, rfl, by omega, by omega⟩
      | false =>
        simp -implicitDefEqProofs only [↓yP, yT, Nat.reduceAdd, Nat.reduceMul, Nat.reduceSub, Nat.reduceLeDiff, Nat.reduceEqDiff, reduceCtorEq, Nat.reduceBEq, h2, ythen_n]
        exact ⟨k, _, gs_mk rfl, rfl, by omega, by omega⟩
  clear v1 hik hkl k
  rintro e st ⟨k, f, ⟨g, rfl⟩, rfl, hik, hkl⟩
  have v1 : wrapK .i64 ((k : Int) + 1) = ((k + 1 : Nat) : Int) := wrap_succ (by omega)
  simp -implicitDefEqProofs only [↓yP, yT, Nat.reduceAdd, Nat.reduceMul, Nat.reduceSub, Nat.reduceLeDiff, Nat.reduceEqDiff, reduceCtorEq, Nat.reduceBEq]
  refine Rcall_pure (raw_spec l i k hl (by omega) hkl) (by rfl) fun y hy => ?_
  obtain ⟨st, rfl, hst⟩ := hy
  simp -implicitDefEqProofs only [↓yP, yT, Nat.reduceAdd, Nat.reduceMul, Nat.reduceSub, Nat.reduceLeDiff, Nat.reduceEqDiff, reduceCtorEq, Nat.reduceBEq]
  refine Rcall_pure (readNum_spec st (by omega)) (by rfl) fun y hy => ?_
  obtain ⟨nb, nd, nx, nok, rfl⟩ := hy
  simp -implicitDefEqProofs only [↓yP, yT, Nat.reduceAdd, Nat.reduceMul, Nat.reduceSub, Nat.reduceLeDiff, Nat.reduceEqDiff, reduceCtorEq, Nat.reduceBEq, Nat.reduceLT]
  refine Rcall_pure (begins_spec l k (by omega)) (by rfl) fun y hy => ?_
  subst hy
  cases h1 : beginsB l k with
  | true =>
    simp -implicitDefEqProofs only [↓yP, yT, Nat.reduceAdd, Nat.reduceMul, Nat.reduceSub, Nat.reduceLeDiff, Nat.reduceEqDiff, reduceCtorEq, Nat.reduceBEq, Nat.reduceLT]
    refine Rcall_pure (take_spec l k hl hkl) (by rfl) fun y hy => ?_
    obtain ⟨u, k2, rfl, hk1, hk2, _, _, _⟩ := hy
    simp -implicitDefEqProofs only [↓yP, yT, Nat.reduceAdd, Nat.reduceMul, Nat.reduceSub, Nat.reduceLeDiff, Nat.reduceEqDiff, reduceCtorEq, Nat.reduceBEq, Nat.reduceLT, zt13, ztd]
    exact ⟨numTok 12 u nb nd nx f sg, k2, rfl, by omega, by omega, numTok_lex (by decide)⟩
  | false =>
    simp -implicitDefEqProofs only [↓yP, yT, Nat.reduceAdd, Nat.reduceMul, Nat.reduceSub, Nat.reduceLeDiff, Nat.reduceEqDiff, reduceCtorEq, Nat.reduceBEq]
    refine Rcall_pure (at_spec l _) (by rfl) fun y hy => ?_
    subst hy
    cases h2 : eqI (atR l (k : Nat)) 37 with
    | true =>
      have : k < l.length := Nat.lt_of_not_le fun hle => by
        rw [atR_out (by omega)] at h2; exact absurd h2 (by decide)
      simp -implicitDefEqProofs only [↓yP, yT, Nat.reduceAdd, Nat.reduceMul, Nat.reduceSub, Nat.reduceLeDiff, Nat.reduceEqDiff, reduceCtorEq, Nat.reduceBEq, h2, v1, Nat.reduceLT, zt13, ztd]
      exact ⟨numTok 11 ⟨#[]⟩ nb nd nx f sg, k + 1, rfl, by omega, by omega, numTok_lex (by decide)⟩
    | false =>
      simp -implicitDefEqProofs only [↓yP, yT, Nat.reduceAdd, Nat.reduceMul, Nat.reduceSub, Nat.reduceLeDiff, Nat.reduceEqDiff, reduceCtorEq, Nat.reduceBEq, h2, Nat.reduceLT, zt13, ztd]
      exact ⟨numTok 10 ⟨#[]⟩ nb nd nx f sg, k, rfl, by omega, by omega, numTok_lex (by decide)⟩
end Go.Vx.Seat
end
/- The token that begins at a place. -/
section
open Go Go.Vx Go.Proofs
set_option linter.unusedSimpArgs false
set_option linter.unusedVariables false
set_option maxRecDepth 10000
set_option maxHeartbeats 8000000
namespace Go.Vx.Seat
attribute [local congr] Rg_at Rt_at Ro_at Ri_at Rc_at Rto_at Rtk_at Rtf_at Rti_at
attribute [local irreducible] Rg Rt Ro Ri Rc Rto Rtk Rtf Rti Rw Rl Rd Rcall Rtcall kf
theorem fn52 : nth C1.P.funcs.toList 52 = some Try.f52 := by kernel_rfl
theorem fn32 : nth C1.P.funcs.toList 32 = some Try.f32 := by kernel_rfl
/-- What is known of the token at a place: of three signs, and of a letter that stands alone. -/
structure OneQ (l : List Rn) (i : Nat) (t : Tok) (k : Nat) : Prop where
  colon : ∀ x, l[i]? = some x → x.r = 58 → t = lexTok 16 ⟨#[]⟩ ∧ k = i + 1
  opn : ∀ x, l[i]? = some x → x.r = 123 → t = lexTok 19 ⟨#[]⟩ ∧ k = i + 1
  shut : ∀ x, l[i]? = some x → x.r = 125 → t = lexTok 20 ⟨#[]⟩ ∧ k = i + 1
  name : ∀ x, l[i]? = some x → 97 ≤ x.r → x.r ≤ 122 → inB (atR l ((i + 1 : Nat) : Int)) = false → escB l (i + 1) = false → atR l ((i + 1 : Nat) : Int) ≠ 40 → t.kind = 1 ∧ k = i + 1
def Plain (r : Int) : Prop := r ≠ 58 ∧ r ≠ 123 ∧ r ≠ 125 ∧ (r < 97 ∨ 122 < r)
theorem OneQ.other {l : List Rn} {i : Nat} {t : Tok} {k : Nat} {x : Rn} (hx : l[i]? = some x) (h : Plain x.r) : OneQ l i t k := by
  obtain ⟨h1, h2, h3, h4⟩ := h
  refine ⟨fun y hy e => ?_, fun y hy e => ?_, fun y hy e => ?_, fun y hy e e2 => ?_⟩ <;> (rw [hx] at hy; cases hy; exfalso; omega)
theorem follows_at {l : List Rn} {i : Nat} {c : UInt8} {cs : List UInt8} (h : followsB l i (c :: cs) = true) : atR l (i : Nat) = (c.toNat : Nat) ∧ followsB l (i + 1) cs = true := by
  rw [followsB, Bool.and_eq_true] at h
  exact ⟨of_eqT h.1, h.2⟩
theorem at_lt {l : List Rn} {i : Nat} (h : atR l (i : Nat) ≠ -1) : i < l.length := Nat.lt_of_not_le fun hle => h (atR_out (by omega))
theorem startB_letter {r : Int} (h1 : 97 ≤ r) (h2 : r ≤ 122) : startB r = true := by simp [startB, leI_true h1, leI_true h2]
theorem startB_no {r : Int} (h : r = 58 ∨ r = 123 ∨ r = 125) : startB r = false := by rcases h with rfl | rfl | rfl <;> rfl
theorem numeral_plain {l : List Rn} {i : Nat} {x : Rn} (hx : l[i]? = some x) (h : numeralB l i = true) : Plain x.r := by
  have hat := atR_get hx
  unfold numeralB at h
  rw [hat] at h
  simp only [Bool.or_eq_true, Bool.and_eq_true] at h
  by_cases h1 : eqI x.r 43 = true
  · have := of_eqT h1; unfold Plain; omega
  · by_cases h2 : eqI x.r 45 = true
    · have := of_eqT h2; unfold Plain; omega
    · rw [if_neg (by simp [h1, h2]), hat] at h
      rcases h with h | h
      · simp only [digitB, Bool.and_eq_true] at h
        have a1 := of_leT h.1
        have a2 := of_leT h.2
        unfold Plain; omega
      · have := of_eqT h.1; unfold Plain; omega
theorem begins_in {l : List Rn} {i : Nat} (h : beginsB l i = true) : inB (atR l (i : Nat)) = true ∨ escB l i = true := by
  simp only [beginsB, Bool.and_eq_true] at h
  obtain ⟨_, h⟩ := h
  split at h
  · rename_i h2
    exact .inl (by rw [of_eqT h2]; rfl)
  · rw [Bool.or_eq_true] at h
    exact h.imp (fun h => by simp [inB, h]) fun h => h
theorem begins_plain {l : List Rn} {i : Nat} {x : Rn} (hx : l[i]? = some x) (h : beginsB l i = true) : x.r ≠ 58 ∧ x.r ≠ 123 ∧ x.r ≠ 125 := by
  have hat := atR_get hx
  rcases begins_in h with k | k
  · rw [hat] at k
    refine ⟨fun e => ?_, fun e => ?_, fun e => ?_⟩ <;> (rw [e] at k; exact absurd k (by decide))
  · simp only [escB, Bool.and_eq_true] at k
    have := of_eqT k.1
    rw [hat] at this
    exact ⟨by omega, by omega, by omega⟩
theorem begins_letter {l : List Rn} {i : Nat} {x : Rn} (hx : l[i]? = some x) (h1 : 97 ≤ x.r) (h2 : x.r ≤ 122) : beginsB l i = true := by
  have hl : i < l.length := (List.getElem?_eq_some_iff.mp hx).1
  have hat := atR_get hx
  simp [beginsB, hl, hat, startB_letter h1 h2, eqI_false (show x.r ≠ 45 by omega)]
theorem one_spec (l : List Rn) (i : Nat) (hl : l.length ≤ 1000000) (hi : i < l.length) : PCall C1 52 [.c (.p (rR l)), yd (.int .i64 (i : Nat))] (LexQ l i (OneQ l i)) := by
  obtain ⟨x, hx⟩ := get_lt hi
  have hat := atR_get hx
  have w1 : wrapK .i64 ((i : Int) + 1) = ((i + 1 : Nat) : Int) := wrap_succ (by omega)
  have w2 : wrapK .i64 ((i : Int) + 2) = ((i + 2 : Nat) : Int) := wrap_nat (i := i + 2) (by omega)
  have w3 : wrapK .i64 ((i : Int) + 3) = ((i + 3 : Nat) : Int) := wrap_nat (i := i + 3) (by omega)
  have w4 : wrapK .i64 ((i : Int) + 4) = ((i + 4 : Nat) : Int) := wrap_nat (i := i + 4) (by omega)
  refine Pf (by rfl) (by rfl) fn52 (by rfl) ?_
  simp only [Try.f52, List.length_cons, List.length_nil, List.replicate, List.cons_append, List.nil_append]
  simp -implicitDefEqProofs only [↓yP, yT, Nat.reduceAdd, Nat.reduceMul, Nat.reduceSub, Nat.reduceLeDiff, Nat.reduceEqDiff, reduceCtorEq, Nat.reduceBEq, rnGet hx]
  refine Rcall_pure (follows_spec l i ⟨#[47, 42]⟩ (by omega) (by decide)) (by rfl) fun y hy => ?_
  subst hy
  cases h1 : followsB l i (strOf ⟨#[47, 42]⟩) with
  | true =>
    obtain ⟨a1, a2⟩ := follows_at (c := 47) (cs := [42]) h1
    obtain ⟨a2, _⟩ := follows_at (c := 42) (cs := []) a2
    have hi1 := at_lt (l := l) (i := i + 1) (by rw [a2]; decide)
    have hp : Plain x.r := by rw [← hat, a1]; exact ⟨by decide, by decide, by decide, by decide⟩
    simp -implicitDefEqProofs only [↓yP, yT, Nat.reduceAdd, Nat.reduceMul, Nat.reduceSub, Nat.reduceLeDiff, Nat.reduceEqDiff, reduceCtorEq, Nat.reduceBEq, w2]
    refine Rl_inv (fun d e st => ∃ (k : Nat), e = ([.c (.p (rR l)), yd (.int .i64 (i : Nat)), .c .top, .c .top, .c (.ptr 0 0 0 0), .c .top, .c .top, .c .top, yd (.int .i64 (k : Nat)), .c .top, .c .top, .c .top, .c .top, .c .top, .c .top, .c .top, .c .top, .c .top, .c .top, .c .top, .c .top, .c .top, .c .top, .c .top, .c .top, .c .top, .c .top, .c .top, .c .top, .c .top, .c .top, .c .top, .c .top, .c .top, .c .top, .c .top, .c .top, .c .top, .c .top, .c .top, .c .top, .c .top, .c .top, .c .top, .c .top, .c .top, .c .top, .c .top, .c .top, .c .top, .c .top, .c .top, .c .top, .c .top, .c .top, .c .top, .c .top, .c .top, .c .top, .c .top, .c .top, .c .top, .c .top, .c .top, .c .top, .c .top, .c .top, .c .top, .c .top, .c .top, .c .top, .c .top, .c .top, .c .top, .c .top, .c .top, .c .top, .c .top, .c .top, .c .top, .c .top, .c .top, .c .top, .c .top, .c .top, .c .top, .c .top, .c .top, .c .top, .c .top, .c .top, .c .top, .c .top, .c .top, .c .top, .c .top, .c .top, .c .top, .c .top, .c .top, .c .top, .c .top, .c .top, .c .top, .c .top, .c .top, .c .top, .c .top, .c .top, .c .top, .c .top, .c .top, .c .top, .c .top, .c .top, .c .top, .c .top, .c .top, .c .top, .c .top, .c .top, .c .top, .c .top, .c .top, .c .top, .c .top, .c .top, .c .top, .c .top, .c .top, .c .top, .c .top, .c .top, .c .top, .c .top, .c .top, .c .top, .c .top, .c .top, .c .top, .c .top, .c .top, .c .top, .c .top, .c .top, .c .top, .c .top, .c .top, .c .top, .c .top, .c .top, .c .top, .c .top, .c .top, .c .top, .c .top, .c .top, .c .top, .c .top, .c .top, .c .top, .c .top, .c .top, .c .top, .c .top, .c .top, .c .top, .c .top, .c .top, .c .top, .c .top, .c .top, .c .top, .c .top, .c .top, .c .top, .c .top, .c .top, .c .top, .c .top, .c .top, .c .top, .c .top, .c .top, .c .top, .c .top, .c .top, .c .top, .c .top, .c .top]) ∧ st = [.box zt] ∧ k + d = l.length ∧ i + 2 ≤ k) [true, true, false, false, true, false, false, false, true] (l.length - (i + 2)) [0] (by decide) (pinned_zero _) ⟨i + 2, by (simp only [yE, Nat.reduceEqDiff, Nat.reduceAdd, reduceCtorEq]; try rfl), by (simp only [yE, Nat.reduceEqDiff, Nat.reduceAdd, reduceCtorEq]; try rfl), by omega, by omega⟩ ?_
    rintro d e st ⟨k, rfl, rfl, hd, hk⟩
    have v1 : wrapK .i64 ((k : Int) + 1) = ((k + 1 : Nat) : Int) := wrap_succ (by omega)
    have v2 : wrapK .i64 ((k : Int) + 2) = ((k + 2 : Nat) : Int) := wrap_nat (i := k + 2) (by omega)
    by_cases hkl : k < l.length
    · have t1 : leI (l.length : Nat) (k : Nat) = false := leI_false (by omega)
      simp -implicitDefEqProofs only [↓yP, yT, Nat.reduceAdd, Nat.reduceMul, Nat.reduceSub, Nat.reduceLeDiff, Nat.reduceEqDiff, reduceCtorEq, Nat.reduceBEq, t1]
      refine Rcall_pure (follows_spec l k ⟨#[42, 47]⟩ (by omega) (by decide)) (by rfl) fun y hy => ?_
      subst hy
      cases h2 : followsB l k (strOf ⟨#[42, 47]⟩) with
      | false =>
        simp -implicitDefEqProofs only [↓yP, yT, Nat.reduceAdd, Nat.reduceMul, Nat.reduceSub, Nat.reduceLeDiff, Nat.reduceEqDiff, reduceCtorEq, Nat.reduceBEq, v1]
        refine ⟨d - 1, [0], by omega, by decide, pinned_zero _, k + 1, by (simp only [yE, Nat.reduceEqDiff, Nat.reduceAdd, reduceCtorEq]; try rfl), by (simp only [yE, Nat.reduceEqDiff, Nat.reduceAdd, reduceCtorEq]; try rfl), by omega, by omega⟩
      | true =>
        obtain ⟨_, b2⟩ := follows_at (c := 42) (cs := [47]) h2
        obtain ⟨b2, _⟩ := follows_at (c := 47) (cs := []) b2
        have hk1 := at_lt (l := l) (i := k + 1) (by rw [b2]; decide)
        simp -implicitDefEqProofs only [↓yP, yT, Nat.reduceAdd, Nat.reduceMul, Nat.reduceSub, Nat.reduceLeDiff, Nat.reduceEqDiff, reduceCtorEq, Nat.reduceBEq, v2, t1, w2]
        refine Rcall_pure (raw_spec l (i + 2) k hl hk (by omega)) (by rfl) fun y hy => ?_
        obtain ⟨s, rfl, hs⟩ := hy
        simp -implicitDefEqProofs only [↓yP, yT, Nat.reduceAdd, Nat.reduceMul, Nat.reduceSub, Nat.reduceLeDiff, Nat.reduceEqDiff, reduceCtorEq, Nat.reduceBEq, zt13, ztd]
        exact ⟨lexTok 25 s, k + 2, rfl, by omega, by omega, .plain hs (by decide), .other hx hp⟩
    · have t1 : leI (l.length : Nat) (k : Nat) = true := leI_true (by omega)
      simp -implicitDefEqProofs only [↓yP, yT, Nat.reduceAdd, Nat.reduceMul, Nat.reduceSub, Nat.reduceLeDiff, Nat.reduceEqDiff, reduceCtorEq, Nat.reduceBEq, t1, v2, w2]
      refine Rcall_pure (raw_spec l (i + 2) l.length hl (by omega) (by omega)) (by rfl) fun y hy => ?_
      obtain ⟨s, rfl, hs⟩ := hy
      simp -implicitDefEqProofs only [↓yP, yT, Nat.reduceAdd, Nat.reduceMul, Nat.reduceSub, Nat.reduceLeDiff, Nat.reduceEqDiff, reduceCtorEq, Nat.reduceBEq, zt13, ztd]
      exact ⟨lexTok 25 s, l.length, rfl, by omega, by omega, .plain hs (by decide), .other hx hp⟩
  | false =>
  simp -implicitDefEqProofs only [↓yP, yT, Nat.reduceAdd, Nat.reduceMul, Nat.reduceSub, Nat.reduceLeDiff, Nat.reduceEqDiff, reduceCtorEq, Nat.reduceBEq]
  refine Rcall_pure (blank_spec1 _) (by rfl) fun y hy => ?_
  subst hy
  cases h2 : blankB x.r with
  | true =>
    have hp : Plain x.r := by
      simp only [blankB, Bool.or_eq_true] at h2
      rcases h2 with (h2 | h2) | h2 <;> (have := of_eqT h2; unfold Plain; omega)
    simp -implicitDefEqProofs only [↓yP, yT, Nat.reduceAdd, Nat.reduceMul, Nat.reduceSub, Nat.reduceLeDiff, Nat.reduceEqDiff, reduceCtorEq, Nat.reduceBEq]
    refine Rl_inv (fun d e st => ∃ (k : Nat), e = ([.c (.p (rR l)), .c .top, .c .top, .c .top, .c (.ptr 0 0 0 0), .c .top, yd (.int .i64 x.r), .c .top, .c .top, .c .top, yd (.int .i64 (k : Nat)), .c .top, .c .top, .c .top, .c .top, .c .top, .c .top, .c .top, .c .top, .c .top, .c .top, .c .top, .c .top, .c .top, .c .top, .c .top, .c .top, .c .top, .c .top, .c .top, .c .top, .c .top, .c .top, .c .top, .c .top, .c .top, .c .top, .c .top, .c .top, .c .top, .c .top, .c .top, .c .top, .c .top, .c .top, .c .top, .c .top, .c .top, .c .top, .c .top, .c .top, .c .top, .c .top, .c .top, .c .top, .c .top, .c .top, .c .top, .c .top, .c .top, .c .top, .c .top, .c .top, .c .top, .c .top, .c .top, .c .top, .c .top, .c .top, .c .top, .c .top, .c .top, .c .top, .c .top, .c .top, .c .top, .c .top, .c .top, .c .top, .c .top, .c .top, .c .top, .c .top, .c .top, .c .top, .c .top, .c .top, .c .top, .c .top, .c .top, .c .top, .c .top, .c .top, .c .top, .c .top, .c .top, .c .top, .c .top, .c .top, .c .top, .c .top, .c .top, .c .top, .c .top, .c .top, .c .top, .c .top, .c .top, .c .top, .c .top, .c .top, .c .top, .c .top, .c .top, .c .top, .c .top, .c .top, .c .top, .c .top, .c .top, .c .top, .c .top, .c .top, .c .top, .c .top, .c .top, .c .top, .c .top, .c .top, .c .top, .c .top, .c .top, .c .top, .c .top, .c .top, .c .top, .c .top, .c .top, .c .top, .c .top, .c .top, .c .top, .c .top, .c .top, .c .top, .c .top, .c .top, .c .top, .c .top, .c .top, .c .top, .c .top, .c .top, .c .top, .c .top, .c .top, .c .top, .c .top, .c .top, .c .top, .c .top, .c .top, .c .top, .c .top, .c .top, .c .top, .c .top, .c .top, .c .top, .c .top, .c .top, .c .top, .c .top, .c .top, .c .top, .c .top, .c .top, .c .top, .c .top, .c .top, .c .top, .c .top, .c .top, .c .top, .c .top, .c .top, .c .top, .c .top, .c .top, .c .top]) ∧ st = [.box zt] ∧ k + d = l.length ∧ i ≤ k ∧ (k = i → blankB (atR l (k : Nat)) = true)) [true, false, false, false, true, false, true, false, false, false, true] (l.length - i) [0] (by decide) (pinned_zero _) ⟨i, by (simp only [yE, Nat.reduceEqDiff, Nat.reduceAdd, reduceCtorEq]; try rfl), by (simp only [yE, Nat.reduceEqDiff, Nat.reduceAdd, reduceCtorEq]; try rfl), by omega, by omega, fun _ => by rw [hat]; exact h2⟩ ?_
    rintro d e st ⟨k, rfl, rfl, hd, hk, hkb⟩
    have v1 : wrapK .i64 ((k : Int) + 1) = ((k + 1 : Nat) : Int) := wrap_succ (by omega)
    simp -implicitDefEqProofs only [↓yP, yT, Nat.reduceAdd, Nat.reduceMul, Nat.reduceSub, Nat.reduceLeDiff, Nat.reduceEqDiff, reduceCtorEq, Nat.reduceBEq]
    refine Rcall_pure (at_spec l _) (by rfl) fun y hy => ?_
    subst hy
    simp -implicitDefEqProofs only [↓yP, yT, Nat.reduceAdd, Nat.reduceMul, Nat.reduceSub, Nat.reduceLeDiff, Nat.reduceEqDiff, reduceCtorEq, Nat.reduceBEq]
    refine Rcall_pure (blank_spec1 _) (by rfl) fun y hy => ?_
    subst hy
    cases h3 : blankB (atR l (k : Nat)) with
    | true =>
      have hkl := at_lt (l := l) (i := k) (fun e => by rw [e] at h3; exact absurd h3 (by decide))
      simp -implicitDefEqProofs only [↓yP, yT, Nat.reduceAdd, Nat.reduceMul, Nat.reduceSub, Nat.reduceLeDiff, Nat.reduceEqDiff, reduceCtorEq, Nat.reduceBEq, v1]
      refine ⟨d - 1, [0], by omega, by decide, pinned_zero _, k + 1, by (simp only [yE, Nat.reduceEqDiff, Nat.reduceAdd, reduceCtorEq]; try rfl), by (simp only [yE, Nat.reduceEqDiff, Nat.reduceAdd, reduceCtorEq]; try rfl), by omega, by omega, fun h => by omega⟩
    | false =>
      have hik := ltk hk (fun h => by rw [hkb h] at h3; cases h3)
      cases h4 : eqI x.r 10 with
      | true =>
        simp -implicitDefEqProofs only [↓yP, yT, Nat.reduceAdd, Nat.reduceMul, Nat.reduceSub, Nat.reduceLeDiff, Nat.reduceEqDiff, reduceCtorEq, Nat.reduceBEq, h4, zt13, ztd, Nat.reduceLT]
        exact ⟨lexTok 13 ⟨#[10]⟩, k, rfl, by omega, by omega, .plain (by show 1 ≤ _; omega) (by decide), .other hx hp⟩
      | false =>
        simp -implicitDefEqProofs only [↓yP, yT, Nat.reduceAdd, Nat.reduceMul, Nat.reduceSub, Nat.reduceLeDiff, Nat.reduceEqDiff, reduceCtorEq, Nat.reduceBEq, h4, zt13, ztd, Nat.reduceLT]
        exact ⟨lexTok 13 ⟨#[32]⟩, k, rfl, by omega, by omega, .plain (by show 1 ≤ _; omega) (by decide), .other hx hp⟩
  | false =>
  cases h3 : eqI x.r 34 with
  | true =>
    have := of_eqT h3
    simp -implicitDefEqProofs only [↓yP, yT, Nat.reduceAdd, Nat.reduceMul, Nat.reduceSub, Nat.reduceLeDiff, Nat.reduceEqDiff, reduceCtorEq, Nat.reduceBEq, h3]
    refine Rcall_pure (quoted_spec l i hl hi) (by rfl) fun y hy => ?_
    obtain ⟨t, k, rfl, k1, k2, ht⟩ := hy
    simp only [Tok.yv, Tok.cs, Tok.pc, List.map_cons, List.map_nil]
    simp -implicitDefEqProofs only [↓yP, yT, Nat.reduceAdd, Nat.reduceMul, Nat.reduceSub, Nat.reduceLeDiff, Nat.reduceEqDiff, reduceCtorEq, Nat.reduceBEq, zt13, ztd]
    exact ⟨t, k, rfl, k1, k2, ht, .other hx (by unfold Plain; omega)⟩
  | false =>
  cases h4 : eqI x.r 39 with
  | true =>
    have := of_eqT h4
    simp -implicitDefEqProofs only [↓yP, yT, Nat.reduceAdd, Nat.reduceMul, Nat.reduceSub, Nat.reduceLeDiff, Nat.reduceEqDiff, reduceCtorEq, Nat.reduceBEq, h3, h4]
    refine Rcall_pure (quoted_spec l i hl hi) (by rfl) fun y hy => ?_
    obtain ⟨t, k, rfl, k1, k2, ht⟩ := hy
    simp only [Tok.yv, Tok.cs, Tok.pc, List.map_cons, List.map_nil]
    simp -implicitDefEqProofs only [↓yP, yT, Nat.reduceAdd, Nat.reduceMul, Nat.reduceSub, Nat.reduceLeDiff, Nat.reduceEqDiff, reduceCtorEq, Nat.reduceBEq, zt13, ztd]
    exact ⟨t, k, rfl, k1, k2, ht, .other hx (by unfold Plain; omega)⟩
  | false =>
  cases h5 : eqI x.r 35 with
  | true =>
    have h35 := of_eqT h5
    simp -implicitDefEqProofs only [↓yP, yT, Nat.reduceAdd, Nat.reduceMul, Nat.reduceSub, Nat.reduceLeDiff, Nat.reduceEqDiff, reduceCtorEq, Nat.reduceBEq, h3, h4, h5, w1]
    refine Rcall_pure (at_spec l _) (by rfl) fun y hy => ?_
    subst hy
    simp -implicitDefEqProofs only [↓yP, yT, Nat.reduceAdd, Nat.reduceMul, Nat.reduceSub, Nat.reduceLeDiff, Nat.reduceEqDiff, reduceCtorEq, Nat.reduceBEq]
    refine Rcall_pure (in_spec1 _) (by rfl) fun y hy => ?_
    subst hy
    cases h6 : inB (atR l ((i + 1 : Nat) : Int)) with
    | true =>
      simp -implicitDefEqProofs only [↓yP, yT, Nat.reduceAdd, Nat.reduceMul, Nat.reduceSub, Nat.reduceLeDiff, Nat.reduceEqDiff, reduceCtorEq, Nat.reduceBEq, w1]
      refine Rcall_pure (take_spec l (i + 1) hl (by omega)) (by rfl) fun y hy => ?_
      obtain ⟨s, k, rfl, hk1, hk2, hs, _, _⟩ := hy
      simp -implicitDefEqProofs only [↓yP, yT, Nat.reduceAdd, Nat.reduceMul, Nat.reduceSub, Nat.reduceLeDiff, Nat.reduceEqDiff, reduceCtorEq, Nat.reduceBEq, w1]
      refine Rcall_pure (begins_spec l (i + 1) (by omega)) (by rfl) fun y hy => ?_
      subst hy
      simp -implicitDefEqProofs only [↓yP, yT, Nat.reduceAdd, Nat.reduceMul, Nat.reduceSub, Nat.reduceLeDiff, Nat.reduceEqDiff, reduceCtorEq, Nat.reduceBEq, zt13, ztd]
      exact ⟨⟨4, s, ⟨#[]⟩, false, ⟨#[]⟩, ⟨#[]⟩, beginsB l (i + 1), false, 0, 0, 0, 0, 0⟩, k, rfl, by omega, by omega, ⟨hs, fun h _ => by have h : 16 ≤ (4 : Int) := h; omega⟩, .other hx (by unfold Plain; omega)⟩
    | false =>
      simp -implicitDefEqProofs only [↓yP, yT, Nat.reduceAdd, Nat.reduceMul, Nat.reduceSub, Nat.reduceLeDiff, Nat.reduceEqDiff, reduceCtorEq, Nat.reduceBEq, w1]
      refine Rcall_pure (escape_spec l (i + 1) (by omega)) (by rfl) fun y hy => ?_
      subst hy
      cases h7 : escB l (i + 1) with
      | true =>
        simp -implicitDefEqProofs only [↓yP, yT, Nat.reduceAdd, Nat.reduceMul, Nat.reduceSub, Nat.reduceLeDiff, Nat.reduceEqDiff, reduceCtorEq, Nat.reduceBEq, w1]
        refine Rcall_pure (take_spec l (i + 1) hl (by omega)) (by rfl) fun y hy => ?_
        obtain ⟨s, k, rfl, hk1, hk2, hs, _, _⟩ := hy
        simp -implicitDefEqProofs only [↓yP, yT, Nat.reduceAdd, Nat.reduceMul, Nat.reduceSub, Nat.reduceLeDiff, Nat.reduceEqDiff, reduceCtorEq, Nat.reduceBEq, w1]
        refine Rcall_pure (begins_spec l (i + 1) (by omega)) (by rfl) fun y hy => ?_
        subst hy
        simp -implicitDefEqProofs only [↓yP, yT, Nat.reduceAdd, Nat.reduceMul, Nat.reduceSub, Nat.reduceLeDiff, Nat.reduceEqDiff, reduceCtorEq, Nat.reduceBEq, zt13, ztd]
        exact ⟨⟨4, s, ⟨#[]⟩, false, ⟨#[]⟩, ⟨#[]⟩, beginsB l (i + 1), false, 0, 0, 0, 0, 0⟩, k, rfl, by omega, by omega, ⟨hs, fun h _ => by have h : 16 ≤ (4 : Int) := h; omega⟩, .other hx (by unfold Plain; omega)⟩
      | false =>
        simp -implicitDefEqProofs only [↓yP, yT, Nat.reduceAdd, Nat.reduceMul, Nat.reduceSub, Nat.reduceLeDiff, Nat.reduceEqDiff, reduceCtorEq, Nat.reduceBEq]
        refine Rcall_pure (numeral_spec l i (by omega)) (by rfl) fun y hy => ?_
        subst hy
        cases n1 : numeralB l i with
        | true =>
          simp -implicitDefEqProofs only [↓yP, yT, Nat.reduceAdd, Nat.reduceMul, Nat.reduceSub, Nat.reduceLeDiff, Nat.reduceEqDiff, reduceCtorEq, Nat.reduceBEq]
          refine Rcall_pure (numbers_spec l i hl hi n1) (by rfl) fun y hy => ?_
          obtain ⟨t, k, rfl, k1, k2, ht⟩ := hy
          simp only [Tok.yv, Tok.cs, Tok.pc, List.map_cons, List.map_nil]
          simp -implicitDefEqProofs only [↓yP, yT, Nat.reduceAdd, Nat.reduceMul, Nat.reduceSub, Nat.reduceLeDiff, Nat.reduceEqDiff, reduceCtorEq, Nat.reduceBEq, zt13, ztd]
          exact ⟨t, k, rfl, k1, k2, ht, .other hx (numeral_plain hx n1)⟩
        | false =>
        simp -implicitDefEqProofs only [↓yP, yT, Nat.reduceAdd, Nat.reduceMul, Nat.reduceSub, Nat.reduceLeDiff, Nat.reduceEqDiff, reduceCtorEq, Nat.reduceBEq]
        refine Rcall_pure (follows_spec l i ⟨#[45, 45, 62]⟩ (by omega) (by decide)) (by rfl) fun y hy => ?_
        subst hy
        cases n2 : followsB l i (strOf ⟨#[45, 45, 62]⟩) with
        | true =>
          obtain ⟨a1, a2⟩ := follows_at (c := 45) (cs := [45, 62]) n2
          obtain ⟨_, a2⟩ := follows_at (c := 45) (cs := [62]) a2
          obtain ⟨a2, _⟩ := follows_at (c := 62) (cs := []) a2
          have hi1 := at_lt (l := l) (i := i + 1 + 1) (by rw [a2]; decide)
          simp -implicitDefEqProofs only [↓yP, yT, Nat.reduceAdd, Nat.reduceMul, Nat.reduceSub, Nat.reduceLeDiff, Nat.reduceEqDiff, reduceCtorEq, Nat.reduceBEq, w3, zt13, ztd]
          exact ⟨lexTok 15 ⟨#[]⟩, i + 3, rfl, by omega, by omega, .plain (by show 0 ≤ _; omega) (by decide), .other hx (by rw [← hat, a1]; exact ⟨by decide, by decide, by decide, by decide⟩)⟩
        | false =>
        simp -implicitDefEqProofs only [↓yP, yT, Nat.reduceAdd, Nat.reduceMul, Nat.reduceSub, Nat.reduceLeDiff, Nat.reduceEqDiff, reduceCtorEq, Nat.reduceBEq]
        refine Rcall_pure (follows_spec l i ⟨#[60, 33, 45, 45]⟩ (by omega) (by decide)) (by rfl) fun y hy => ?_
        subst hy
        cases n3 : followsB l i (strOf ⟨#[60, 33, 45, 45]⟩) with
        | true =>
          obtain ⟨a1, a2⟩ := follows_at (c := 60) (cs := [33, 45, 45]) n3
          obtain ⟨_, a2⟩ := follows_at (c := 33) (cs := [45, 45]) a2
          obtain ⟨_, a2⟩ := follows_at (c := 45) (cs := [45]) a2
          obtain ⟨a2, _⟩ := follows_at (c := 45) (cs := []) a2
          have hi1 := at_lt (l := l) (i := i + 1 + 1 + 1) (by rw [a2]; decide)
          simp -implicitDefEqProofs only [↓yP, yT, Nat.reduceAdd, Nat.reduceMul, Nat.reduceSub, Nat.reduceLeDiff, Nat.reduceEqDiff, reduceCtorEq, Nat.reduceBEq, w4, zt13, ztd]
          exact ⟨lexTok 14 ⟨#[]⟩, i + 4, rfl, by omega, by omega, .plain (by show 0 ≤ _; omega) (by decide), .other hx (by rw [← hat, a1]; exact ⟨by decide, by decide, by decide, by decide⟩)⟩
        | false =>
        simp -implicitDefEqProofs only [↓yP, yT, Nat.reduceAdd, Nat.reduceMul, Nat.reduceSub, Nat.reduceLeDiff, Nat.reduceEqDiff, reduceCtorEq, Nat.reduceBEq]
        refine Rcall_pure (begins_spec l i (by omega)) (by rfl) fun y hy => ?_
        subst hy
        cases n4 : beginsB l i with
        | true =>
          simp -implicitDefEqProofs only [↓yP, yT, Nat.reduceAdd, Nat.reduceMul, Nat.reduceSub, Nat.reduceLeDiff, Nat.reduceEqDiff, reduceCtorEq, Nat.reduceBEq]
          refine Rcall_pure (named_spec l i hl hi (begins_in n4)) (by rfl) fun y hy => ?_
          obtain ⟨t, k, rfl, k1, k2, ht, hq⟩ := hy
          simp only [Tok.yv, Tok.cs, Tok.pc, List.map_cons, List.map_nil]
          simp -implicitDefEqProofs only [↓yP, yT, Nat.reduceAdd, Nat.reduceMul, Nat.reduceSub, Nat.reduceLeDiff, Nat.reduceEqDiff, reduceCtorEq, Nat.reduceBEq, zt13, ztd]
          obtain ⟨g1, g2, g3⟩ := begins_plain hx n4
          refine ⟨t, k, rfl, k1, k2, ht, fun y hy e => ?_, fun y hy e => ?_, fun y hy e => ?_, fun y hy e e2 e3 e4 e5 => hq ?_ e3 e4 e5⟩
          · rw [hx] at hy; cases hy; exact absurd e g1
          · rw [hx] at hy; cases hy; exact absurd e g2
          · rw [hx] at hy; cases hy; exact absurd e g3
          · rw [hx] at hy; cases hy; rw [hat]; simp [inB, startB_letter e e2]
        | false =>
        cases n5 : eqI x.r 64 with
        | true =>
          have := of_eqT n5
          simp -implicitDefEqProofs only [↓yP, yT, Nat.reduceAdd, Nat.reduceMul, Nat.reduceSub, Nat.reduceLeDiff, Nat.reduceEqDiff, reduceCtorEq, Nat.reduceBEq, n5, w1]
          refine Rcall_pure (begins_spec l (i + 1) (by omega)) (by rfl) fun y hy => ?_
          subst hy
          cases n6 : beginsB l (i + 1) with
          | true =>
            simp -implicitDefEqProofs only [↓yP, yT, Nat.reduceAdd, Nat.reduceMul, Nat.reduceSub, Nat.reduceLeDiff, Nat.reduceEqDiff, reduceCtorEq, Nat.reduceBEq, w1]
            refine Rcall_pure (take_spec l (i + 1) hl (by omega)) (by rfl) fun y hy => ?_
            obtain ⟨s, k, rfl, hk1, hk2, hs, _, _⟩ := hy
            simp -implicitDefEqProofs only [↓yP, yT, Nat.reduceAdd, Nat.reduceMul, Nat.reduceSub, Nat.reduceLeDiff, Nat.reduceEqDiff, reduceCtorEq, Nat.reduceBEq, zt13, ztd]
            exact ⟨lexTok 3 s, k, rfl, by omega, by omega, .plain hs (by decide), .other hx (by unfold Plain; omega)⟩
          | false =>
            simp -implicitDefEqProofs only [↓yP, yT, Nat.reduceAdd, Nat.reduceMul, Nat.reduceSub, Nat.reduceLeDiff, Nat.reduceEqDiff, reduceCtorEq, Nat.reduceBEq]
            refine Rl_inv (fun d e st => ∃ (j : Nat), e = ([.c (.p (rR l)), yd (.int .i64 (i : Nat)), .c .top, .c .top, .c (.ptr 0 0 0 0), .c .top, yd (.int .i64 x.r), yd (.string ⟨#[58, 59, 44, 123, 125, 40, 41, 91, 93]⟩), .c .top, .c .top, .c .top, .c .top, .c .top, .c .top, .c .top, .c .top, yd (.int .i64 (j : Nat)), .c .top, .c .top, .c .top, .c .top, .c .top, .c .top, .c .top, .c .top, .c .top, .c .top, .c .top, .c .top, .c .top, .c .top, .c .top, .c .top, .c .top, .c .top, .c .top, .c .top, .c .top, .c .top, .c .top, .c .top, .c .top, .c .top, .c .top, .c .top, .c .top, .c .top, .c .top, .c .top, .c .top, .c .top, .c .top, .c .top, .c .top, .c .top, .c .top, .c .top, .c .top, .c .top, .c .top, .c .top, .c .top, .c .top, .c .top, .c .top, .c .top, .c .top, .c .top, .c .top, .c .top, .c .top, .c .top, .c .top, .c .top, .c .top, .c .top, .c .top, .c .top, .c .top, .c .top, .c .top, .c .top, .c .top, .c .top, .c .top, .c .top, .c .top, .c .top, .c .top, .c .top, .c .top, .c .top, .c .top, .c .top, .c .top, .c .top, .c .top, .c .top, .c .top, .c .top, .c .top, .c .top, .c .top, .c .top, .c .top, .c .top, .c .top, .c .top, .c .top, .c .top, .c .top, .c .top, .c .top, .c .top, .c .top, .c .top, .c .top, .c .top, .c .top, .c .top, .c .top, .c .top, .c .top, .c .top, .c .top, .c .top, .c .top, .c .top, .c .top, .c .top, .c .top, .c .top, .c .top, .c .top, .c .top, .c .top, .c .top, .c .top, .c .top, .c .top, .c .top, .c .top, .c .top, .c .top, .c .top, .c .top, .c .top, .c .top, .c .top, .c .top, .c .top, .c .top, .c .top, .c .top, .c .top, .c .top, .c .top, .c .top, .c .top, .c .top, .c .top, .c .top, .c .top, .c .top, .c .top, .c .top, .c .top, .c .top, .c .top, .c .top, .c .top, .c .top, .c .top, .c .top, .c .top, .c .top, .c .top, .c .top, .c .top, .c .top, .c .top, .c .top, .c .top, .c .top, .c .top, .c .top, .c .top, .c .top, .c .top, .c .top]) ∧ st = [.box zt] ∧ j + d = 9 ∧ ∀ m c, m < j → [58, 59, 44, 123, 125, 40, 41, 91, 93][m]? = some c → c ≠ x.r) [true, true, false, false, true, false, true, true, false, false, false, false, false, false, false, false, true] 9 [0] (by decide) (pinned_zero _) ⟨0, by (simp only [yE, Nat.reduceEqDiff, Nat.reduceAdd, reduceCtorEq]; try rfl), by (simp only [yE, Nat.reduceEqDiff, Nat.reduceAdd, reduceCtorEq]; try rfl), by omega, fun m c h => by omega⟩ ?_
            rintro d e st ⟨j, rfl, rfl, hd, hj⟩
            have hlen : (strOf ⟨#[58, 59, 44, 123, 125, 40, 41, 91, 93]⟩).length = 9 := rfl
            by_cases hj9 : j < 9
            · obtain ⟨c, hc⟩ := get_lt (l := strOf ⟨#[58, 59, 44, 123, 125, 40, 41, 91, 93]⟩) (i := j) (by rw [hlen]; exact hj9)
              have t1 : leI ((9 : Nat) : Int) (j : Nat) = false := leI_false (by omega)
              have c0 : (0 : Int) ≤ (j : Nat) := by omega
              have v1 : wrapK .i64 ((j : Int) + 1) = ((j + 1 : Nat) : Int) := wrap_succ (by omega)
              have v2 : wrapK .i64 (16 + (j : Int)) = ((16 + j : Nat) : Int) := wrap_nat (i := 16 + j) (by omega)
              cases m1 : eqI ((c.toNat : Nat) : Int) x.r with
              | true =>
                have m1' := of_eqT m1
                simp -implicitDefEqProofs only [↓yP, yT, Nat.reduceAdd, Nat.reduceMul, Nat.reduceSub, Nat.reduceLeDiff, Nat.reduceEqDiff, reduceCtorEq, Nat.reduceBEq, opLen.eq_1, xindex.eq_1, xslice.eq_1, Int.toNat_natCast, hlen, t1, c0, hc, u8_i64, m1, v2, w1, zt13, ztd]
                refine ⟨lexTok ((16 + j : Nat) : Int) ⟨#[]⟩, i + 1, rfl, by omega, by omega, ⟨by show 0 ≤ _; omega, fun _ _ => rfl⟩, ?_⟩
                have hjj : j = 0 ∨ j = 1 ∨ j = 2 ∨ j = 3 ∨ j = 4 ∨ j = 5 ∨ j = 6 ∨ j = 7 ∨ j = 8 := by omega
                rcases hjj with rfl | rfl | rfl | rfl | rfl | rfl | rfl | rfl | rfl
                all_goals
                  cases hc
                  have m2 : x.r = _ := m1'.symm
                  refine ⟨fun y hy e => ?_, fun y hy e => ?_, fun y hy e => ?_, fun y hy e e2 => ?_⟩ <;> (rw [hx] at hy; cases hy; first | exact ⟨rfl, rfl⟩ | (exfalso; rw [m2] at e; exact absurd e (by decide)) | (exfalso; rw [m2] at e e2; exact absurd e2 (by decide)))
              | false =>
                simp -implicitDefEqProofs only [↓yP, yT, Nat.reduceAdd, Nat.reduceMul, Nat.reduceSub, Nat.reduceLeDiff, Nat.reduceEqDiff, reduceCtorEq, Nat.reduceBEq, opLen.eq_1, xindex.eq_1, xslice.eq_1, Int.toNat_natCast, hlen, t1, c0, hc, u8_i64, m1, v1]
                refine ⟨d - 1, [0], by omega, by decide, pinned_zero _, j + 1, by (simp only [yE, Nat.reduceEqDiff, Nat.reduceAdd, reduceCtorEq]; try rfl), by (simp only [yE, Nat.reduceEqDiff, Nat.reduceAdd, reduceCtorEq]; try rfl), by omega, fun m c' hm hc' => ?_⟩
                rcases Nat.lt_or_ge m j with g | g
                · exact hj m c' g hc'
                · obtain rfl : m = j := by omega
                  have hcc : ((c.toNat : Nat) : Int) = c' := by
                    have hjj : m = 0 ∨ m = 1 ∨ m = 2 ∨ m = 3 ∨ m = 4 ∨ m = 5 ∨ m = 6 ∨ m = 7 ∨ m = 8 := by omega
                    rcases hjj with rfl | rfl | rfl | rfl | rfl | rfl | rfl | rfl | rfl <;> (cases hc; cases hc'; rfl)
                  rw [← hcc]; exact of_eqF m1
            · have t1 : leI ((9 : Nat) : Int) (j : Nat) = true := leI_true (by omega)
              simp -implicitDefEqProofs only [↓yP, yT, Nat.reduceAdd, Nat.reduceMul, Nat.reduceSub, Nat.reduceLeDiff, Nat.reduceEqDiff, reduceCtorEq, Nat.reduceBEq, opLen.eq_1, xindex.eq_1, xslice.eq_1, Int.toNat_natCast, hlen, t1, w1]
              refine Rcall_pure (raw_spec l i (i + 1) hl (by omega) (by omega)) (by rfl) fun y hy => ?_
              obtain ⟨s, rfl, hs⟩ := hy
              simp -implicitDefEqProofs only [↓yP, yT, Nat.reduceAdd, Nat.reduceMul, Nat.reduceSub, Nat.reduceLeDiff, Nat.reduceEqDiff, reduceCtorEq, Nat.reduceBEq, w1, zt13, ztd]
              refine ⟨lexTok 9 s, i + 1, rfl, by omega, by omega, .plain hs (by decide), .other hx ⟨fun e => hj 0 58 (by omega) rfl e.symm, fun e => hj 3 123 (by omega) rfl e.symm, fun e => hj 4 125 (by omega) rfl e.symm, ?_⟩⟩
              rcases Int.lt_or_le x.r 97 with g | g
              · exact .inl g
              · rcases Int.lt_or_le 122 x.r with g2 | g2
                · exact .inr g2
                · rw [begins_letter hx g g2] at n4; cases n4
        | false =>
          simp -implicitDefEqProofs only [↓yP, yT, Nat.reduceAdd, Nat.reduceMul, Nat.reduceSub, Nat.reduceLeDiff, Nat.reduceEqDiff, reduceCtorEq, Nat.reduceBEq, n5]
          refine Rl_inv (fun d e st => ∃ (j : Nat), e = ([.c (.p (rR l)), yd (.int .i64 (i : Nat)), .c .top, .c .top, .c (.ptr 0 0 0 0), .c .top, yd (.int .i64 x.r), yd (.string ⟨#[58, 59, 44, 123, 125, 40, 41, 91, 93]⟩), .c .top, .c .top, .c .top, .c .top, .c .top, .c .top, .c .top, .c .top, yd (.int .i64 (j : Nat)), .c .top, .c .top, .c .top, .c .top, .c .top, .c .top, .c .top, .c .top, .c .top, .c .top, .c .top, .c .top, .c .top, .c .top, .c .top, .c .top, .c .top, .c .top, .c .top, .c .top, .c .top, .c .top, .c .top, .c .top, .c .top, .c .top, .c .top, .c .top, .c .top, .c .top, .c .top, .c .top, .c .top, .c .top, .c .top, .c .top, .c .top, .c .top, .c .top, .c .top, .c .top, .c .top, .c .top, .c .top, .c .top, .c .top, .c .top, .c .top, .c .top, .c .top, .c .top, .c .top, .c .top, .c .top, .c .top, .c .top, .c .top, .c .top, .c .top, .c .top, .c .top, .c .top, .c .top, .c .top, .c .top, .c .top, .c .top, .c .top, .c .top, .c .top, .c .top, .c .top, .c .top, .c .top, .c .top, .c .top, .c .top, .c .top, .c .top, .c .top, .c .top, .c .top, .c .top, .c .top, .c .top, .c .top, .c .top, .c .top, .c .top, .c .top, .c .top, .c .top, .c .top, .c .top, .c .top, .c .top, .c .top, .c .top, .c .top, .c .top, .c .top, .c .top, .c .top, .c .top, .c .top, .c .top, .c .top, .c .top, .c .top, .c .top, .c .top, .c .top, .c .top, .c .top, .c .top, .c .top, .c .top, .c .top, .c .top, .c .top, .c .top, .c .top, .c .top, .c .top, .c .top, .c .top, .c .top, .c .top, .c .top, .c .top, .c .top, .c .top, .c .top, .c .top, .c .top, .c .top, .c .top, .c .top, .c .top, .c .top, .c .top, .c .top, .c .top, .c .top, .c .top, .c .top, .c .top, .c .top, .c .top, .c .top, .c .top, .c .top, .c .top, .c .top, .c .top, .c .top, .c .top, .c .top, .c .top, .c .top, .c .top, .c .top, .c .top, .c .top, .c .top, .c .top, .c .top, .c .top, .c .top, .c .top, .c .top, .c .top, .c .top]) ∧ st = [.box zt] ∧ j + d = 9 ∧ ∀ m c, m < j → [58, 59, 44, 123, 125, 40, 41, 91, 93][m]? = some c → c ≠ x.r) [true, true, false, false, true, false, true, true, false, false, false, false, false, false, false, false, true] 9 [0] (by decide) (pinned_zero _) ⟨0, by (simp only [yE, Nat.reduceEqDiff, Nat.reduceAdd, reduceCtorEq]; try rfl), by (simp only [yE, Nat.reduceEqDiff, Nat.reduceAdd, reduceCtorEq]; try rfl), by omega, fun m c h => by omega⟩ ?_
          rintro d e st ⟨j, rfl, rfl, hd, hj⟩
          have hlen : (strOf ⟨#[58, 59, 44, 123, 125, 40, 41, 91, 93]⟩).length = 9 := rfl
          by_cases hj9 : j < 9
          · obtain ⟨c, hc⟩ := get_lt (l := strOf ⟨#[58, 59, 44, 123, 125, 40, 41, 91, 93]⟩) (i := j) (by rw [hlen]; exact hj9)
            have t1 : leI ((9 : Nat) : Int) (j : Nat) = false := leI_false (by omega)
            have c0 : (0 : Int) ≤ (j : Nat) := by omega
            have v1 : wrapK .i64 ((j : Int) + 1) = ((j + 1 : Nat) : Int) := wrap_succ (by omega)
            have v2 : wrapK .i64 (16 + (j : Int)) = ((16 + j : Nat) : Int) := wrap_nat (i := 16 + j) (by omega)
            cases m1 : eqI ((c.toNat : Nat) : Int) x.r with
            | true =>
              have m1' := of_eqT m1
              simp -implicitDefEqProofs only [↓yP, yT, Nat.reduceAdd, Nat.reduceMul, Nat.reduceSub, Nat.reduceLeDiff, Nat.reduceEqDiff, reduceCtorEq, Nat.reduceBEq, opLen.eq_1, xindex.eq_1, xslice.eq_1, Int.toNat_natCast, hlen, t1, c0, hc, u8_i64, m1, v2, w1, zt13, ztd]
              refine ⟨lexTok ((16 + j : Nat) : Int) ⟨#[]⟩, i + 1, rfl, by omega, by omega, ⟨by show 0 ≤ _; omega, fun _ _ => rfl⟩, ?_⟩
              have hjj : j = 0 ∨ j = 1 ∨ j = 2 ∨ j = 3 ∨ j = 4 ∨ j = 5 ∨ j = 6 ∨ j = 7 ∨ j = 8 := by omega
              rcases hjj with rfl | rfl | rfl | rfl | rfl | rfl | rfl | rfl | rfl
              all_goals
                cases hc
                have m2 : x.r = _ := m1'.symm
                refine ⟨fun y hy e => ?_, fun y hy e => ?_, fun y hy e => ?_, fun y hy e e2 => ?_⟩ <;> (rw [hx] at hy; cases hy; first | exact ⟨rfl, rfl⟩ | (exfalso; rw [m2] at e; exact absurd e (by decide)) | (exfalso; rw [m2] at e e2; exact absurd e2 (by decide)))
            | false =>
              simp -implicitDefEqProofs only [↓yP, yT, Nat.reduceAdd, Nat.reduceMul, Nat.reduceSub, Nat.reduceLeDiff, Nat.reduceEqDiff, reduceCtorEq, Nat.reduceBEq, opLen.eq_1, xindex.eq_1, xslice.eq_1, Int.toNat_natCast, hlen, t1, c0, hc, u8_i64, m1, v1]
              refine ⟨d - 1, [0], by omega, by decide, pinned_zero _, j + 1, by (simp only [yE, Nat.reduceEqDiff, Nat.reduceAdd, reduceCtorEq]; try rfl), by (simp only [yE, Nat.reduceEqDiff, Nat.reduceAdd, reduceCtorEq]; try rfl), by omega, fun m c' hm hc' => ?_⟩
              rcases Nat.lt_or_ge m j with g | g
              · exact hj m c' g hc'
              · obtain rfl : m = j := by omega
                have hcc : ((c.toNat : Nat) : Int) = c' := by
                  have hjj : m = 0 ∨ m = 1 ∨ m = 2 ∨ m = 3 ∨ m = 4 ∨ m = 5 ∨ m = 6 ∨ m = 7 ∨ m = 8 := by omega
                  rcases hjj with rfl | rfl | rfl | rfl | rfl | rfl | rfl | rfl | rfl <;> (cases hc; cases hc'; rfl)
                rw [← hcc]; exact of_eqF m1
          · have t1 : leI ((9 : Nat) : Int) (j : Nat) = true := leI_true (by omega)
            simp -implicitDefEqProofs only [↓yP, yT, Nat.reduceAdd, Nat.reduceMul, Nat.reduceSub, Nat.reduceLeDiff, Nat.reduceEqDiff, reduceCtorEq, Nat.reduceBEq, opLen.eq_1, xindex.eq_1, xslice.eq_1, Int.toNat_natCast, hlen, t1, w1]
            refine Rcall_pure (raw_spec l i (i + 1) hl (by omega) (by omega)) (by rfl) fun y hy => ?_
            obtain ⟨s, rfl, hs⟩ := hy
            simp -implicitDefEqProofs only [↓yP, yT, Nat.reduceAdd, Nat.reduceMul, Nat.reduceSub, Nat.reduceLeDiff, Nat.reduceEqDiff, reduceCtorEq, Nat.reduceBEq, w1, zt13, ztd]
            refine ⟨lexTok 9 s, i + 1, rfl, by omega, by omega, .plain hs (by decide), .other hx ⟨fun e => hj 0 58 (by omega) rfl e.symm, fun e => hj 3 123 (by omega) rfl e.symm, fun e => hj 4 125 (by omega) rfl e.symm, ?_⟩⟩
            rcases Int.lt_or_le x.r 97 with g | g
            · exact .inl g
            · rcases Int.lt_or_le 122 x.r with g2 | g2
              · exact .inr g2
              · rw [begins_letter hx g g2] at n4; cases n4
  | false =>
    simp -implicitDefEqProofs only [↓yP, yT, Nat.reduceAdd, Nat.reduceMul, Nat.reduceSub, Nat.reduceLeDiff, Nat.reduceEqDiff, reduceCtorEq, Nat.reduceBEq, h3, h4, h5]
    refine Rcall_pure (numeral_spec l i (by omega)) (by rfl) fun y hy => ?_
    subst hy
    cases n1 : numeralB l i with
    | true =>
      simp -implicitDefEqProofs only [↓yP, yT, Nat.reduceAdd, Nat.reduceMul, Nat.reduceSub, Nat.reduceLeDiff, Nat.reduceEqDiff, reduceCtorEq, Nat.reduceBEq]
      refine Rcall_pure (numbers_spec l i hl hi n1) (by rfl) fun y hy => ?_
      obtain ⟨t, k, rfl, k1, k2, ht⟩ := hy
      simp only [Tok.yv, Tok.cs, Tok.pc, List.map_cons, List.map_nil]
      simp -implicitDefEqProofs only [↓yP, yT, Nat.reduceAdd, Nat.reduceMul, Nat.reduceSub, Nat.reduceLeDiff, Nat.reduceEqDiff, reduceCtorEq, Nat.reduceBEq, zt13, ztd]
      exact ⟨t, k, rfl, k1, k2, ht, .other hx (numeral_plain hx n1)⟩
    | false =>
    simp -implicitDefEqProofs only [↓yP, yT, Nat.reduceAdd, Nat.reduceMul, Nat.reduceSub, Nat.reduceLeDiff, Nat.reduceEqDiff, reduceCtorEq, Nat.reduceBEq]
    refine Rcall_pure (follows_spec l i ⟨#[45, 45, 62]⟩ (by omega) (by decide)) (by rfl) fun y hy => ?_
    subst hy
    cases n2 : followsB l i (strOf ⟨#[45, 45, 62]⟩) with
    | true =>
      obtain ⟨a1, a2⟩ := follows_at (c := 45) (cs := [45, 62]) n2
      obtain ⟨_, a2⟩ := follows_at (c := 45) (cs := [62]) a2
      obtain ⟨a2, _⟩ := follows_at (c := 62) (cs := []) a2
      have hi1 := at_lt (l := l) (i := i + 1 + 1) (by rw [a2]; decide)
      simp -implicitDefEqProofs only [↓yP, yT, Nat.reduceAdd, Nat.reduceMul, Nat.reduceSub, Nat.reduceLeDiff, Nat.reduceEqDiff, reduceCtorEq, Nat.reduceBEq, w3, zt13, ztd]
      exact ⟨lexTok 15 ⟨#[]⟩, i + 3, rfl, by omega, by omega, .plain (by show 0 ≤ _; omega) (by decide), .other hx (by rw [← hat, a1]; exact ⟨by decide, by decide, by decide, by decide⟩)⟩
    | false =>
    simp -implicitDefEqProofs only [↓yP, yT, Nat.reduceAdd, Nat.reduceMul, Nat.reduceSub, Nat.reduceLeDiff, Nat.reduceEqDiff, reduceCtorEq, Nat.reduceBEq]
    refine Rcall_pure (follows_spec l i ⟨#[60, 33, 45, 45]⟩ (by omega) (by decide)) (by rfl) fun y hy => ?_
    subst hy
    cases n3 : followsB l i (strOf ⟨#[60, 33, 45, 45]⟩) with
    | true =>
      obtain ⟨a1, a2⟩ := follows_at (c := 60) (cs := [33, 45, 45]) n3
      obtain ⟨_, a2⟩ := follows_at (c := 33) (cs := [45, 45]) a2
      obtain ⟨_, a2⟩ := follows_at (c := 45) (cs := [45]) a2
      obtain ⟨a2, _⟩ := follows_at (c := 45) (cs := []) a2
      have hi1 := at_lt (l := l) (i := i + 1 + 1 + 1) (by rw [a2]; decide)
      simp -implicitDefEqProofs only [↓yP, yT, Nat.reduceAdd, Nat.reduceMul, Nat.reduceSub, Nat.reduceLeDiff, Nat.reduceEqDiff, reduceCtorEq, Nat.reduceBEq, w4, zt13, ztd]
      exact ⟨lexTok 14 ⟨#[]⟩, i + 4, rfl, by omega, by omega, .plain (by show 0 ≤ _; omega) (by decide), .other hx (by rw [← hat, a1]; exact ⟨by decide, by decide, by decide, by decide⟩)⟩
    | false =>
    simp -implicitDefEqProofs only [↓yP, yT, Nat.reduceAdd, Nat.reduceMul, Nat.reduceSub, Nat.reduceLeDiff, Nat.reduceEqDiff, reduceCtorEq, Nat.reduceBEq]
    refine Rcall_pure (begins_spec l i (by omega)) (by rfl) fun y hy => ?_
    subst hy
    cases n4 : beginsB l i with
    | true =>
      simp -implicitDefEqProofs only [↓yP, yT, Nat.reduceAdd, Nat.reduceMul, Nat.reduceSub, Nat.reduceLeDiff, Nat.reduceEqDiff, reduceCtorEq, Nat.reduceBEq]
      refine Rcall_pure (named_spec l i hl hi (begins_in n4)) (by rfl) fun y hy => ?_
      obtain ⟨t, k, rfl, k1, k2, ht, hq⟩ := hy
      simp only [Tok.yv, Tok.cs, Tok.pc, List.map_cons, List.map_nil]
      simp -implicitDefEqProofs only [↓yP, yT, Nat.reduceAdd, Nat.reduceMul, Nat.reduceSub, Nat.reduceLeDiff, Nat.reduceEqDiff, reduceCtorEq, Nat.reduceBEq, zt13, ztd]
      obtain ⟨g1, g2, g3⟩ := begins_plain hx n4
      refine ⟨t, k, rfl, k1, k2, ht, fun y hy e => ?_, fun y hy e => ?_, fun y hy e => ?_, fun y hy e e2 e3 e4 e5 => hq ?_ e3 e4 e5⟩
      · rw [hx] at hy; cases hy; exact absurd e g1
      · rw [hx] at hy; cases hy; exact absurd e g2
      · rw [hx] at hy; cases hy; exact absurd e g3
      · rw [hx] at hy; cases hy; rw [hat]; simp [inB, startB_letter e e2]
    | false =>
    cases n5 : eqI x.r 64 with
    | true =>
      have := of_eqT n5
      simp -implicitDefEqProofs only [↓yP, yT, Nat.reduceAdd, Nat.reduceMul, Nat.reduceSub, Nat.reduceLeDiff, Nat.reduceEqDiff, reduceCtorEq, Nat.reduceBEq, n5, w1]
      refine Rcall_pure (begins_spec l (i + 1) (by omega)) (by rfl) fun y hy => ?_
      subst hy
      cases n6 : beginsB l (i + 1) with
      | true =>
        simp -implicitDefEqProofs only [↓yP, yT, Nat.reduceAdd, Nat.reduceMul, Nat.reduceSub, Nat.reduceLeDiff, Nat.reduceEqDiff, reduceCtorEq, Nat.reduceBEq, w1]
        refine Rcall_pure (take_spec l (i + 1) hl (by omega)) (by rfl) fun y hy => ?_
        obtain ⟨s, k, rfl, hk1, hk2, hs, _, _⟩ := hy
        simp -implicitDefEqProofs only [↓yP, yT, Nat.reduceAdd, Nat.reduceMul, Nat.reduceSub, Nat.reduceLeDiff, Nat.reduceEqDiff, reduceCtorEq, Nat.reduceBEq, zt13, ztd]
        exact ⟨lexTok 3 s, k, rfl, by omega, by omega, .plain hs (by decide), .other hx (by unfold Plain; omega)⟩
      | false =>
        simp -implicitDefEqProofs only [↓yP, yT, Nat.reduceAdd, Nat.reduceMul, Nat.reduceSub, Nat.reduceLeDiff, Nat.reduceEqDiff, reduceCtorEq, Nat.reduceBEq]
        refine Rl_inv (fun d e st => ∃ (j : Nat), e = ([.c (.p (rR l)), yd (.int .i64 (i : Nat)), .c .top, .c .top, .c (.ptr 0 0 0 0), .c .top, yd (.int .i64 x.r), yd (.string ⟨#[58, 59, 44, 123, 125, 40, 41, 91, 93]⟩), .c .top, .c .top, .c .top, .c .top, .c .top, .c .top, .c .top, .c .top, yd (.int .i64 (j : Nat)), .c .top, .c .top, .c .top, .c .top, .c .top, .c .top, .c .top, .c .top, .c .top, .c .top, .c .top, .c .top, .c .top, .c .top, .c .top, .c .top, .c .top, .c .top, .c .top, .c .top, .c .top, .c .top, .c .top, .c .top, .c .top, .c .top, .c .top, .c .top, .c .top, .c .top, .c .top, .c .top, .c .top, .c .top, .c .top, .c .top, .c .top, .c .top, .c .top, .c .top, .c .top, .c .top, .c .top, .c .top, .c .top, .c .top, .c .top, .c .top, .c .top, .c .top, .c .top, .c .top, .c .top, .c .top, .c .top, .c .top, .c .top, .c .top, .c .top, .c .top, .c .top, .c .top, .c .top, .c .top, .c .top, .c .top, .c .top, .c .top, .c .top, .c .top, .c .top, .c .top, .c .top, .c .top, .c .top, .c .top, .c .top, .c .top, .c .top, .c .top, .c .top, .c .top, .c .top, .c .top, .c .top, .c .top, .c .top, .c .top, .c .top, .c .top, .c .top, .c .top, .c .top, .c .top, .c .top, .c .top, .c .top, .c .top, .c .top, .c .top, .c .top, .c .top, .c .top, .c .top, .c .top, .c .top, .c .top, .c .top, .c .top, .c .top, .c .top, .c .top, .c .top, .c .top, .c .top, .c .top, .c .top, .c .top, .c .top, .c .top, .c .top, .c .top, .c .top, .c .top, .c .top, .c .top, .c .top, .c .top, .c .top, .c .top, .c .top, .c .top, .c .top, .c .top, .c .top, .c .top, .c .top, .c .top, .c .top, .c .top, .c .top, .c .top, .c .top, .c .top, .c .top, .c .top, .c .top, .c .top, .c .top, .c .top, .c .top, .c .top, .c .top, .c .top, .c .top, .c .top, .c .top, .c .top, .c .top, .c .top, .c .top, .c .top, .c .top, .c .top, .c .top, .c .top, .c .top, .c .top, .c .top, .c .top, .c .top, .c .top, .c .top]) ∧ st = [.box zt] ∧ j + d = 9 ∧ ∀ m c, m < j → [58, 59, 44, 123, 125, 40, 41, 91, 93][m]? = some c → c ≠ x.r) [true, true, false, false, true, false, true, true, false, false, false, false, false, false, false, false, true] 9 [0] (by decide) (pinned_zero _) ⟨0, by (simp only [yE, Nat.reduceEqDiff, Nat.reduceAdd, reduceCtorEq]; try rfl), by (simp only [yE, Nat.reduceEqDiff, Nat.reduceAdd, reduceCtorEq]; try rfl), by omega, fun m c h => by omega⟩ ?_
        rintro d e st ⟨j, rfl, rfl, hd, hj⟩
        have hlen : (strOf ⟨#[58, 59, 44, 123, 125, 40, 41, 91, 93]⟩).length = 9 := rfl
        by_cases hj9 : j < 9
        · obtain ⟨c, hc⟩ := get_lt (l := strOf ⟨#[58, 59, 44, 123, 125, 40, 41, 91, 93]⟩) (i := j) (by rw [hlen]; exact hj9)
          have t1 : leI ((9 : Nat) : Int) (j : Nat) = false := leI_false (by omega)
          have c0 : (0 : Int) ≤ (j : Nat) := by omega
          have v1 : wrapK .i64 ((j : Int) + 1) = ((j + 1 : Nat) : Int) := wrap_succ (by omega)
          have v2 : wrapK .i64 (16 + (j : Int)) = ((16 + j : Nat) : Int) := wrap_nat (i := 16 + j) (by omega)
          cases m1 : eqI ((c.toNat : Nat) : Int) x.r with
          | true =>
            have m1' := of_eqT m1
            simp -implicitDefEqProofs only [↓yP, yT, Nat.reduceAdd, Nat.reduceMul, Nat.reduceSub, Nat.reduceLeDiff, Nat.reduceEqDiff, reduceCtorEq, Nat.reduceBEq, opLen.eq_1, xindex.eq_1, xslice.eq_1, Int.toNat_natCast, hlen, t1, c0, hc, u8_i64, m1, v2, w1, zt13, ztd]
            refine ⟨lexTok ((16 + j : Nat) : Int) ⟨#[]⟩, i + 1, rfl, by omega, by omega, ⟨by show 0 ≤ _; omega, fun _ _ => rfl⟩, ?_⟩
            have hjj : j = 0 ∨ j = 1 ∨ j = 2 ∨ j = 3 ∨ j = 4 ∨ j = 5 ∨ j = 6 ∨ j = 7 ∨ j = 8 := by omega
            rcases hjj with rfl | rfl | rfl | rfl | rfl | rfl | rfl | rfl | rfl
            all_goals
              cases hc
              have m2 : x.r = _ := m1'.symm
              refine ⟨fun y hy e => ?_, fun y hy e => ?_, fun y hy e => ?_, fun y hy e e2 => ?_⟩ <;> (rw [hx] at hy; cases hy; first | exact ⟨rfl, rfl⟩ | (exfalso; rw [m2] at e; exact absurd e (by decide)) | (exfalso; rw [m2] at e e2; exact absurd e2 (by decide)))
          | false =>
            simp -implicitDefEqProofs only [↓yP, yT, Nat.reduceAdd, Nat.reduceMul, Nat.reduceSub, Nat.reduceLeDiff, Nat.reduceEqDiff, reduceCtorEq, Nat.reduceBEq, opLen.eq_1, xindex.eq_1, xslice.eq_1, Int.toNat_natCast, hlen, t1, c0, hc, u8_i64, m1, v1]
            refine ⟨d - 1, [0], by omega, by decide, pinned_zero _, j + 1, by (simp only [yE, Nat.reduceEqDiff, Nat.reduceAdd, reduceCtorEq]; try rfl), by (simp only [yE, Nat.reduceEqDiff, Nat.reduceAdd, reduceCtorEq]; try rfl), by omega, fun m c' hm hc' => ?_⟩
            rcases Nat.lt_or_ge m j with g | g
            · exact hj m c' g hc'
            · obtain rfl : m = j := by omega
              have hcc : ((c.toNat : Nat) : Int) = c' := by
                have hjj : m = 0 ∨ m = 1 ∨ m = 2 ∨ m = 3 ∨ m = 4 ∨ m = 5 ∨ m = 6 ∨ m = 7 ∨ m = 8 := by omega
                rcases hjj with rfl | rfl | rfl | rfl | rfl | rfl | rfl | rfl | rfl <;> (cases hc; cases hc'; rfl)
              rw [← hcc]; exact of_eqF m1
        · have t1 : leI ((9 : Nat) : Int) (j : Nat) = true := leI_true (by omega)
          simp -implicitDefEqProofs only [↓yP, yT, Nat.reduceAdd, Nat.reduceMul, Nat.reduceSub, Nat.reduceLeDiff, Nat.reduceEqDiff, reduceCtorEq, Nat.reduceBEq, opLen.eq_1, xindex.eq_1, xslice.eq_1, Int.toNat_natCast, hlen, t1, w1]
          refine Rcall_pure (raw_spec l i (i + 1) hl (by omega) (by omega)) (by rfl) fun y hy => ?_
          obtain ⟨s, rfl, hs⟩ := hy
          simp -implicitDefEqProofs only [↓yP, yT, Nat.reduceAdd, Nat.reduceMul, Nat.reduceSub, Nat.reduceLeDiff, Nat.reduceEqDiff, reduceCtorEq, Nat.reduceBEq, w1, zt13, ztd]
          refine ⟨lexTok 9 s, i + 1, rfl, by omega, by omega, .plain hs (by decide), .other hx ⟨fun e => hj 0 58 (by omega) rfl e.symm, fun e => hj 3 123 (by omega) rfl e.symm, fun e => hj 4 125 (by omega) rfl e.symm, ?_⟩⟩
          rcases Int.lt_or_le x.r 97 with g | g
          · exact .inl g
          · rcases Int.lt_or_le 122 x.r with g2 | g2
            · exact .inr g2
            · rw [begins_letter hx g g2] at n4; cases n4
    | false =>
      simp -implicitDefEqProofs only [↓yP, yT, Nat.reduceAdd, Nat.reduceMul, Nat.reduceSub, Nat.reduceLeDiff, Nat.reduceEqDiff, reduceCtorEq, Nat.reduceBEq, n5]
      refine Rl_inv (fun d e st => ∃ (j : Nat), e = ([.c (.p (rR l)), yd (.int .i64 (i : Nat)), .c .top, .c .top, .c (.ptr 0 0 0 0), .c .top, yd (.int .i64 x.r), yd (.string ⟨#[58, 59, 44, 123, 125, 40, 41, 91, 93]⟩), .c .top, .c .top, .c .top, .c .top, .c .top, .c .top, .c .top, .c .top, yd (.int .i64 (j : Nat)), .c .top, .c .top, .c .top, .c .top, .c .top, .c .top, .c .top, .c .top, .c .top, .c .top, .c .top, .c .top, .c .top, .c .top, .c .top, .c .top, .c .top, .c .top, .c .top, .c .top, .c .top, .c .top, .c .top, .c .top, .c .top, .c .top, .c .top, .c .top, .c .top, .c .top, .c .top, .c .top, .c .top, .c .top, .c .top, .c .top, .c .top, .c .top, .c .top, .c .top, .c .top, .c .top, .c .top, .c .top, .c .top, .c .top, .c .top, .c .top, .c .top, .c .top, .c .top, .c .top, .c .top, .c .top, .c .top, .c .top, .c .top, .c .top, .c .top, .c .top, .c .top, .c .top, .c .top, .c .top, .c .top, .c .top, .c .top, .c .top, .c .top, .c .top, .c .top, .c .top, .c .top, .c .top, .c .top, .c .top, .c .top, .c .top, .c .top, .c .top, .c .top, .c .top, .c .top, .c .top, .c .top, .c .top, .c .top, .c .top, .c .top, .c .top, .c .top, .c .top, .c .top, .c .top, .c .top, .c .top, .c .top, .c .top, .c .top, .c .top, .c .top, .c .top, .c .top, .c .top, .c .top, .c .top, .c .top, .c .top, .c .top, .c .top, .c .top, .c .top, .c .top, .c .top, .c .top, .c .top, .c .top, .c .top, .c .top, .c .top, .c .top, .c .top, .c .top, .c .top, .c .top, .c .top, .c .top, .c .top, .c .top, .c .top, .c .top, .c .top, .c .top, .c .top, .c .top, .c .top, .c .top, .c .top, .c .top, .c .top, .c .top, .c .top, .c .top, .c .top, .c .top, .c .top, .c .top, .c .top, .c .top, .c .top, .c .top, .c .top, .c .top, .c .top, .c .top, .c .top, .c .top, .c .top, .c .top, .c .top, .c .top, .c .top, .c .top, .c .top, .c .top, .c .top, .c .top, .c .top, .c .top, .c .top, .c .top, .c .top, .c .top]) ∧ st = [.box zt] ∧ j + d = 9 ∧ ∀ m c, m < j → [58, 59, 44, 123, 125, 40, 41, 91, 93][m]? = some c → c ≠ x.r) [true, true, false, false, true, false, true, true, false, false, false, false, false, false, false, false, true] 9 [0] (by decide) (pinned_zero _) ⟨0, by (simp only [yE, Nat.reduceEqDiff, Nat.reduceAdd, reduceCtorEq]; try rfl), by (simp only [yE, Nat.reduceEqDiff, Nat.reduceAdd, reduceCtorEq]; try rfl), by omega, fun m c h => by omega⟩ ?_
      rintro d e st ⟨j, rfl, rfl, hd, hj⟩
      have hlen : (strOf ⟨#[58, 59, 44, 123, 125, 40, 41, 91, 93]⟩).length = 9 := rfl
      by_cases hj9 : j < 9
      · obtain ⟨c, hc⟩ := get_lt (l := strOf ⟨#[58, 59, 44, 123, 125, 40, 41, 91, 93]⟩) (i := j) (by rw [hlen]; exact hj9)
        have t1 : leI ((9 : Nat) : Int) (j : Nat) = false := leI_false (by omega)
        have c0 : (0 : Int) ≤ (j : Nat) := by omega
        have v1 : wrapK .i64 ((j : Int) + 1) = ((j + 1 : Nat) : Int) := wrap_succ (by omega)
        have v2 : wrapK .i64 (16 + (j : Int)) = ((16 + j : Nat) : Int) := wrap_nat (i := 16 + j) (by omega)
        cases m1 : eqI ((c.toNat : Nat) : Int) x.r with
        | true =>
          have m1' := of_eqT m1
          simp -implicitDefEqProofs only [↓yP, yT, Nat.reduceAdd, Nat.reduceMul, Nat.reduceSub, Nat.reduceLeDiff, Nat.reduceEqDiff, reduceCtorEq, Nat.reduceBEq, opLen.eq_1, xindex.eq_1, xslice.eq_1, Int.toNat_natCast, hlen, t1, c0, hc, u8_i64, m1, v2, w1, zt13, ztd]
          refine ⟨lexTok ((16 + j : Nat) : Int) ⟨#[]⟩, i + 1, rfl, by omega, by omega, ⟨by show 0 ≤ _; omega, fun _ _ => rfl⟩, ?_⟩
          have hjj : j = 0 ∨ j = 1 ∨ j = 2 ∨ j = 3 ∨ j = 4 ∨ j = 5 ∨ j = 6 ∨ j = 7 ∨ j = 8 := by omega
          rcases hjj with rfl | rfl | rfl | rfl | rfl | rfl | rfl | rfl | rfl
          all_goals
            cases hc
            have m2 : x.r = _ := m1'.symm
            refine ⟨fun y hy e => ?_, fun y hy e => ?_, fun y hy e => ?_, fun y hy e e2 => ?_⟩ <;> (rw [hx] at hy; cases hy; first | exact ⟨rfl, rfl⟩ | (exfalso; rw [m2] at e; exact absurd e (by decide)) | (exfalso; rw [m2] at e e2; exact absurd e2 (by decide)))
        | false =>
          simp -implicitDefEqProofs only [↓yP, yT, Nat.reduceAdd, Nat.reduceMul, Nat.reduceSub, Nat.reduceLeDiff, Nat.reduceEqDiff, reduceCtorEq, Nat.reduceBEq, opLen.eq_1, xindex.eq_1, xslice.eq_1, Int.toNat_natCast, hlen, t1, c0, hc, u8_i64, m1, v1]
          refine ⟨d - 1, [0], by omega, by decide, pinned_zero _, j + 1, by (simp only [yE, Nat.reduceEqDiff, Nat.reduceAdd, reduceCtorEq]; try rfl), by (simp only [yE, Nat.reduceEqDiff, Nat.reduceAdd, reduceCtorEq]; try rfl), by omega, fun m c' hm hc' => ?_⟩
          rcases Nat.lt_or_ge m j with g | g
          · exact hj m c' g hc'
          · obtain rfl : m = j := by omega
            have hcc : ((c.toNat : Nat) : Int) = c' := by
              have hjj : m = 0 ∨ m = 1 ∨ m = 2 ∨ m = 3 ∨ m = 4 ∨ m = 5 ∨ m = 6 ∨ m = 7 ∨ m = 8 := by omega
              rcases hjj with rfl | rfl | rfl | rfl | rfl | rfl | rfl | rfl | rfl <;> (cases hc; cases hc'; rfl)
            rw [← hcc]; exact of_eqF m1
      · have t1 : leI ((9 : Nat) : Int) (j : Nat) = true := leI_true (by omega)
        simp -implicitDefEqProofs only [↓yP, yT, Nat.reduceAdd, Nat.reduceMul, Nat.reduceSub, Nat.reduceLeDiff, Nat.reduceEqDiff, reduceCtorEq, Nat.reduceBEq, opLen.eq_1, xindex.eq_1, xslice.eq_1, Int.toNat_natCast, hlen, t1, w1]
        refine Rcall_pure (raw_spec l i (i + 1) hl (by omega) (by omega)) (by rfl) fun y hy => ?_
        obtain ⟨s, rfl, hs⟩ := hy
        simp -implicitDefEqProofs only [↓yP, yT, Nat.reduceAdd, Nat.reduceMul, Nat.reduceSub, Nat.reduceLeDiff, Nat.reduceEqDiff, reduceCtorEq, Nat.reduceBEq, w1, zt13, ztd]
        refine ⟨lexTok 9 s, i + 1, rfl, by omega, by omega, .plain hs (by decide), .other hx ⟨fun e => hj 0 58 (by omega) rfl e.symm, fun e => hj 3 123 (by omega) rfl e.symm, fun e => hj 4 125 (by omega) rfl e.symm, ?_⟩⟩
        rcases Int.lt_or_le x.r 97 with g | g
        · exact .inl g
        · rcases Int.lt_or_le 122 x.r with g2 | g2
          · exact .inr g2
          · rw [begins_letter hx g g2] at n4; cases n4
theorem clex_dummy : True := trivial
end Go.Vx.Seat
end
/- Tokens of code points. -/
section
open Go Go.Vx Go.Proofs
set_option linter.unusedSimpArgs false
set_option linter.unusedVariables false
set_option maxRecDepth 10000
set_option maxHeartbeats 8000000
namespace Go.Vx.Seat
attribute [local congr] Rg_at Rt_at Ro_at Ri_at Rc_at Rto_at Rtk_at Rtf_at Rti_at
attribute [local irreducible] Rg Rt Ro Ri Rc Rto Rtk Rtf Rti Rw Rl Rd Rcall Rtcall kf
/-- Tokens that are read up to a place. -/
inductive Lexed (l : List Rn) : Nat → List Tok → Prop where
  | nil : Lexed l 0 []
  | snoc {i k : Nat} {ts : List Tok} {x : Rn} {t : Tok} : Lexed l i ts → l[i]? = some x → i < k → k ≤ l.length → TokLex l t → OneQ l i t k → Lexed l k (ts ++ [{ t with start := x.a }])
theorem Lexed.len {l : List Rn} {i : Nat} {ts : List Tok} (h : Lexed l i ts) : ts.length ≤ i := by
  induction h with
  | nil => simp
  | snoc h1 h2 h3 h4 h5 h6 ih => simp; omega
theorem clex_spec (l : List Rn) (hl : l.length ≤ 1000000) : PCall C1 32 [.c (.p (rR l))] fun y => ∃ ts : List Tok, y = .c (.p (rT ts)) ∧ Lexed l l.length ts := by
  refine Pf (by rfl) (by rfl) fn32 (by rfl) ?_
  simp only [Try.f32, List.length_cons, List.length_nil, List.replicate, List.cons_append, List.nil_append]
  simp -implicitDefEqProofs only [↓yP, yT, Nat.reduceAdd, Nat.reduceMul, Nat.reduceSub, Nat.reduceLeDiff, Nat.reduceEqDiff, reduceCtorEq, Nat.reduceBEq]
  refine Rl_nil 3 13 (by decide) rfl ?_
  refine Rl_inv (fun d e s => ∃ (i : Nat) (ts : List Tok), e = ([.c (.p (rR l)), .c .top, .c .top, .c (.own 0 13 0 ts.length), yd (.int .i64 (i : Nat)), .c .top, .c .top, .c .top, .c .top, .c .top, .c .top, .c .top, .c .top, .c .top, .c .top, .c .top, .c .top, .c .top, .c .top, .c .top, .c .top, .c .top, .c .top, .c .top, .c .top, .c .top, .c .top, .c .top, .c .top]) ∧ s = [.row 13 (ts.map Tok.pc)] ∧ i + d = l.length ∧ Lexed l i ts) [true, false, false, true, true] l.length [0] (by decide) (pinned_zero _) ⟨0, [], by (simp only [yE, Nat.reduceEqDiff, Nat.reduceAdd, reduceCtorEq]; try rfl), by (simp only [yE, Nat.reduceEqDiff, Nat.reduceAdd, reduceCtorEq]; try rfl), by omega, .nil⟩ ?_
  rintro d e s ⟨i, ts, rfl, rfl, hd, hlx⟩
  have hlen := hlx.len
  by_cases hi : i < l.length
  · obtain ⟨x, hx⟩ := get_lt hi
    have t1 : leI (l.length : Nat) (i : Nat) = false := leI_false (by omega)
    have b1 : (ts.length + 1) * 128 ≤ 70368744177664 := by omega
    simp -implicitDefEqProofs only [↓yP, yT, Nat.reduceAdd, Nat.reduceMul, Nat.reduceSub, Nat.reduceLeDiff, Nat.reduceEqDiff, reduceCtorEq, Nat.reduceBEq, t1]
    refine Rcall_pure (one_spec l i hl hi) (by rfl) fun y hy => ?_
    obtain ⟨t, k, rfl, k1, k2, ht, hq⟩ := hy
    simp only [Tok.yv, Tok.cs, Tok.pc, List.map_cons, List.map_nil]
    simp -implicitDefEqProofs only [↓yP, yT, Nat.reduceAdd, Nat.reduceMul, Nat.reduceSub, Nat.reduceLeDiff, Nat.reduceEqDiff, reduceCtorEq, Nat.reduceBEq, rnGet hx, b1, Nat.reduceLT]
    refine ⟨l.length - k, [3], by omega, by decide, pinned_zero _, k, ts ++ [{ t with start := x.a }], by (simp only [yE, Nat.reduceEqDiff, Nat.reduceAdd, reduceCtorEq]; try rfl), ?_, by omega, hlx.snoc hx k1 k2 ht hq⟩
    simp only [yE, Nat.reduceEqDiff, Nat.reduceAdd, reduceCtorEq, List.map_append]; rfl
  · have t1 : leI (l.length : Nat) (i : Nat) = true := leI_true (by omega)
    obtain rfl : i = l.length := by omega
    simp -implicitDefEqProofs only [↓yP, yT, Nat.reduceAdd, Nat.reduceMul, Nat.reduceSub, Nat.reduceLeDiff, Nat.reduceEqDiff, reduceCtorEq, Nat.reduceBEq, t1]
    exact ⟨ts, rfl, hlx⟩
end Go.Vx.Seat
end
/- What is kept of blanks: the small functions. -/
section
open Go Go.Vx Go.Proofs
set_option linter.unusedSimpArgs false
set_option linter.unusedVariables false
set_option maxRecDepth 10000
set_option maxHeartbeats 8000000
namespace Go.Vx.Seat
attribute [local congr] Rg_at Rt_at Ro_at Ri_at Rc_at Rto_at Rtk_at Rtf_at Rti_at
attribute [local irreducible] Rg Rt Ro Ri Rc Rto Rtk Rtf Rti Rw Rl Rd Rcall Rtcall kf
theorem fn62 : nth C1.P.funcs.toList 62 = some Try.f62 := by kernel_rfl
theorem fn48 : nth C1.P.funcs.toList 48 = some Try.f48 := by kernel_rfl
theorem fn49 : nth C1.P.funcs.toList 49 = some Try.f49 := by kernel_rfl
theorem fn50 : nth C1.P.funcs.toList 50 = some Try.f50 := by kernel_rfl
theorem fn51 : nth C1.P.funcs.toList 51 = some Try.f51 := by kernel_rfl
theorem has_spec (s t : ByteArray) (hs : (strOf s).length ≤ 100000000) (ht : (strOf t).length ≤ 1000) : PCall C1 62 [yd (.string s), yd (.string t)] fun y => ∃ b : Bool, y = yd (.bool b) := by
  refine Pf (by rfl) (by rfl) fn62 (by rfl) ?_
  simp only [Try.f62, List.length_cons, List.length_nil, List.replicate, List.cons_append, List.nil_append]
  simp -implicitDefEqProofs only [↓yP, yT, Nat.reduceAdd, Nat.reduceMul, Nat.reduceSub, Nat.reduceLeDiff, Nat.reduceEqDiff, reduceCtorEq, Nat.reduceBEq]
  refine Rl_inv (fun d e st => ∃ (i : Nat), e = ([yd (.string s), yd (.string t), .c .top, .c .top, .c .top, yd (.int .i64 (i : Nat)), .c .top, .c .top, .c .top, .c .top, .c .top, .c .top, .c .top, .c .top, .c .top, .c .top, .c .top, .c .top, .c .top, .c .top, .c .top, .c .top, .c .top, .c .top]) ∧ st = [] ∧ i + d = (strOf s).length + 1) [true, true, false, false, false, true] ((strOf s).length + 1) [] (by decide) (pinned_zero _) ⟨0, by (simp only [yE, Nat.reduceEqDiff, Nat.reduceAdd, reduceCtorEq]; try rfl), by (simp only [yE, Nat.reduceEqDiff, Nat.reduceAdd, reduceCtorEq]; try rfl), by omega⟩ ?_
  rintro d e st ⟨i, rfl, rfl, hd⟩
  have w1 : wrapK .i64 ((i : Int) + 1) = ((i + 1 : Nat) : Int) := wrap_succ (by omega)
  have w2 : wrapK .i64 ((i : Int) + ((strOf t).length : Nat)) = ((i + (strOf t).length : Nat) : Int) := wrap_nat (i := i + (strOf t).length) (by omega)
  by_cases h : i + (strOf t).length ≤ (strOf s).length
  · have t1 : leI ((i + (strOf t).length : Nat) : Int) ((strOf s).length : Nat) = true := leI_true (by omega)
    have c1 : (0 : Int) ≤ (i : Nat) := by omega
    have c2 : ((i : Nat) : Int) ≤ ((i + (strOf t).length : Nat) : Int) := by omega
    have c3 : ((i + (strOf t).length : Nat) : Int) ≤ ((strOf s).length : Nat) := by omega
    cases h2 : (strOf (strMk (((strOf s).drop i).take (i + (strOf t).length - i))) == strOf t) with
    | true =>
      simp -implicitDefEqProofs only [↓yP, yT, Nat.reduceAdd, Nat.reduceMul, Nat.reduceSub, Nat.reduceLeDiff, Nat.reduceEqDiff, reduceCtorEq, Nat.reduceBEq, opLen.eq_1, xindex.eq_1, xslice.eq_1, Int.toNat_natCast, w2, t1, c1, c2, c3, xstr_eql, h2]
      exact ⟨_, rfl⟩
    | false =>
      simp -implicitDefEqProofs only [↓yP, yT, Nat.reduceAdd, Nat.reduceMul, Nat.reduceSub, Nat.reduceLeDiff, Nat.reduceEqDiff, reduceCtorEq, Nat.reduceBEq, opLen.eq_1, xindex.eq_1, xslice.eq_1, Int.toNat_natCast, w1, w2, t1, c1, c2, c3, xstr_eql, h2]
      refine ⟨d - 1, [], by omega, by decide, pinned_zero _, i + 1, by (simp only [yE, Nat.reduceEqDiff, Nat.reduceAdd, reduceCtorEq]; try rfl), by (simp only [yE, Nat.reduceEqDiff, Nat.reduceAdd, reduceCtorEq]; try rfl), by omega⟩
  · have t1 : leI ((i + (strOf t).length : Nat) : Int) ((strOf s).length : Nat) = false := leI_false (by omega)
    simp -implicitDefEqProofs only [↓yP, yT, Nat.reduceAdd, Nat.reduceMul, Nat.reduceSub, Nat.reduceLeDiff, Nat.reduceEqDiff, reduceCtorEq, Nat.reduceBEq, opLen.eq_1, xindex.eq_1, xslice.eq_1, Int.toNat_natCast, w2, t1]
    exact ⟨_, rfl⟩
theorem keeps_spec (s : ByteArray) (hs : (strOf s).length ≤ 100000000) : PCall C1 48 [yd (.string s)] fun y => ∃ b : Bool, y = yd (.bool b) := by
  have i00 : Int.toNat 0 = 0 := rfl
  have c0 : (0 : Int) ≤ 0 := by omega
  refine Pf (by rfl) (by rfl) fn48 (by rfl) ?_
  simp only [Try.f48, List.length_cons, List.length_nil, List.replicate, List.cons_append, List.nil_append]
  by_cases h : 0 < (strOf s).length
  · obtain ⟨c, hc⟩ := get_lt h
    have t1 : leI ((strOf s).length : Nat) 0 = false := leI_false (by omega)
    cases h1 : eqI (c.toNat : Nat) 33 with
    | true =>
      simp -implicitDefEqProofs only [↓yP, yT, Nat.reduceAdd, Nat.reduceMul, Nat.reduceSub, Nat.reduceLeDiff, Nat.reduceEqDiff, reduceCtorEq, Nat.reduceBEq, opLen.eq_1, xindex.eq_1, xslice.eq_1, Int.toNat_natCast, t1, c0, i00, hc, h1]
      exact ⟨_, rfl⟩
    | false =>
      simp -implicitDefEqProofs only [↓yP, yT, Nat.reduceAdd, Nat.reduceMul, Nat.reduceSub, Nat.reduceLeDiff, Nat.reduceEqDiff, reduceCtorEq, Nat.reduceBEq, opLen.eq_1, xindex.eq_1, xslice.eq_1, Int.toNat_natCast, t1, c0, i00, hc, h1]
      refine Rcall_pure (has_spec s ⟨#[64, 108, 105, 99, 101, 110, 115, 101]⟩ hs (by decide)) (by rfl) fun y hy => ?_
      obtain ⟨b, rfl⟩ := hy
      cases b with
      | true =>
        simp -implicitDefEqProofs only [↓yP, yT, Nat.reduceAdd, Nat.reduceMul, Nat.reduceSub, Nat.reduceLeDiff, Nat.reduceEqDiff, reduceCtorEq, Nat.reduceBEq]
        exact ⟨_, rfl⟩
      | false =>
        simp -implicitDefEqProofs only [↓yP, yT, Nat.reduceAdd, Nat.reduceMul, Nat.reduceSub, Nat.reduceLeDiff, Nat.reduceEqDiff, reduceCtorEq, Nat.reduceBEq]
        refine Rcall_pure (has_spec s ⟨#[64, 112, 114, 101, 115, 101, 114, 118, 101]⟩ hs (by decide)) (by rfl) fun y hy => ?_
        obtain ⟨b, rfl⟩ := hy
        simp -implicitDefEqProofs only [↓yP, yT, Nat.reduceAdd, Nat.reduceMul, Nat.reduceSub, Nat.reduceLeDiff, Nat.reduceEqDiff, reduceCtorEq, Nat.reduceBEq]
        exact ⟨_, rfl⟩
  · have t1 : leI ((strOf s).length : Nat) 0 = true := leI_true (by omega)
    simp -implicitDefEqProofs only [↓yP, yT, Nat.reduceAdd, Nat.reduceMul, Nat.reduceSub, Nat.reduceLeDiff, Nat.reduceEqDiff, reduceCtorEq, Nat.reduceBEq, opLen.eq_1, xindex.eq_1, xslice.eq_1, Int.toNat_natCast, t1]
    refine Rcall_pure (has_spec s ⟨#[64, 108, 105, 99, 101, 110, 115, 101]⟩ hs (by decide)) (by rfl) fun y hy => ?_
    obtain ⟨b, rfl⟩ := hy
    cases b with
    | true =>
      simp -implicitDefEqProofs only [↓yP, yT, Nat.reduceAdd, Nat.reduceMul, Nat.reduceSub, Nat.reduceLeDiff, Nat.reduceEqDiff, reduceCtorEq, Nat.reduceBEq]
      exact ⟨_, rfl⟩
    | false =>
      simp -implicitDefEqProofs only [↓yP, yT, Nat.reduceAdd, Nat.reduceMul, Nat.reduceSub, Nat.reduceLeDiff, Nat.reduceEqDiff, reduceCtorEq, Nat.reduceBEq]
      refine Rcall_pure (has_spec s ⟨#[64, 112, 114, 101, 115, 101, 114, 118, 101]⟩ hs (by decide)) (by rfl) fun y hy => ?_
      obtain ⟨b, rfl⟩ := hy
      simp -implicitDefEqProofs only [↓yP, yT, Nat.reduceAdd, Nat.reduceMul, Nat.reduceSub, Nat.reduceLeDiff, Nat.reduceEqDiff, reduceCtorEq, Nat.reduceBEq]
      exact ⟨_, rfl⟩
theorem line_spec (t : Tok) : PCall C1 49 [t.yv] fun y => ∃ b : Bool, y = yd (.bool b) := by
  refine Pf (by rfl) (by rfl) fn49 (by rfl) ?_
  simp only [Try.f49, List.length_cons, List.length_nil, List.replicate, List.cons_append, List.nil_append]
  simp only [Tok.yv, Tok.cs, Tok.pc, List.map_cons, List.map_nil]
  cases h1 : eqI t.kind 6 <;> cases h2 : eqI t.kind 9 <;> cases h3 : (strOf t.text == strOf ⟨#[92]⟩)
  all_goals
    simp -implicitDefEqProofs only [↓yP, yT, Nat.reduceAdd, Nat.reduceMul, Nat.reduceSub, Nat.reduceLeDiff, Nat.reduceEqDiff, reduceCtorEq, Nat.reduceBEq, h1, h2, h3, xstr_eql]
    exact ⟨_, rfl⟩
theorem before_spec (l : List Tok) (cs : List Int) (i : Int) (hc : cs.length ≤ 100000000) (h1 : i < l.length) : PCall C1 50 [.c (.p (rT l)), .c (.p (rI cs)), yd (.int .i64 i)] fun y => ∃ b : Bool, y = yd (.bool b) := by
  by_cases h0 : 0 ≤ i
  · obtain ⟨n, rfl⟩ := Int.eq_ofNat_of_zero_le h0
    obtain ⟨t, ht⟩ := get_lt (l := l) (i := n) (by omega)
    have t0 : leI 0 (n : Nat) = true := leI_true (by omega)
    refine Pf (by rfl) (by rfl) fn50 (by rfl) ?_
    simp only [Try.f50, List.length_cons, List.length_nil, List.replicate, List.cons_append, List.nil_append]
    simp -implicitDefEqProofs only [↓yP, yT, Nat.reduceAdd, Nat.reduceMul, Nat.reduceSub, Nat.reduceLeDiff, Nat.reduceEqDiff, reduceCtorEq, Nat.reduceBEq, t0, get_map ht, Tok.pc, nn]
    cases q1 : eqI t.kind 19 with
    | true =>
      simp -implicitDefEqProofs only [↓yP, yT, Nat.reduceAdd, Nat.reduceMul, Nat.reduceSub, Nat.reduceLeDiff, Nat.reduceEqDiff, reduceCtorEq, Nat.reduceBEq, q1]
      exact ⟨_, rfl⟩
    | false =>
    cases q2 : eqI t.kind 20 with
    | true =>
      simp -implicitDefEqProofs only [↓yP, yT, Nat.reduceAdd, Nat.reduceMul, Nat.reduceSub, Nat.reduceLeDiff, Nat.reduceEqDiff, reduceCtorEq, Nat.reduceBEq, q1, q2]
      exact ⟨_, rfl⟩
    | false =>
    cases q3 : eqI t.kind 21 with
    | true =>
      simp -implicitDefEqProofs only [↓yP, yT, Nat.reduceAdd, Nat.reduceMul, Nat.reduceSub, Nat.reduceLeDiff, Nat.reduceEqDiff, reduceCtorEq, Nat.reduceBEq, q1, q2, q3]
      exact ⟨_, rfl⟩
    | false =>
    cases q4 : eqI t.kind 2 with
    | true =>
      simp -implicitDefEqProofs only [↓yP, yT, Nat.reduceAdd, Nat.reduceMul, Nat.reduceSub, Nat.reduceLeDiff, Nat.reduceEqDiff, reduceCtorEq, Nat.reduceBEq, q1, q2, q3, q4]
      exact ⟨_, rfl⟩
    | false =>
    cases q5 : eqI t.kind 23 with
    | true =>
      simp -implicitDefEqProofs only [↓yP, yT, Nat.reduceAdd, Nat.reduceMul, Nat.reduceSub, Nat.reduceLeDiff, Nat.reduceEqDiff, reduceCtorEq, Nat.reduceBEq, q1, q2, q3, q4, q5]
      exact ⟨_, rfl⟩
    | false =>
    cases q6 : eqI t.kind 18 with
    | true =>
      simp -implicitDefEqProofs only [↓yP, yT, Nat.reduceAdd, Nat.reduceMul, Nat.reduceSub, Nat.reduceLeDiff, Nat.reduceEqDiff, reduceCtorEq, Nat.reduceBEq, q1, q2, q3, q4, q5, q6]
      exact ⟨_, rfl⟩
    | false =>
    cases q7 : eqI t.kind 17 with
    | true =>
      simp -implicitDefEqProofs only [↓yP, yT, Nat.reduceAdd, Nat.reduceMul, Nat.reduceSub, Nat.reduceLeDiff, Nat.reduceEqDiff, reduceCtorEq, Nat.reduceBEq, q1, q2, q3, q4, q5, q6, q7]
      first
      | exact ⟨_, rfl⟩
      | (refine Rcall_pure (in_spec cs _ hc) (by rfl) fun y hy => ?_
         subst hy
         simp -implicitDefEqProofs only [↓yP, yT, Nat.reduceAdd, Nat.reduceMul, Nat.reduceSub, Nat.reduceLeDiff, Nat.reduceEqDiff, reduceCtorEq, Nat.reduceBEq]
         exact ⟨_, rfl⟩)
    | false =>
    simp -implicitDefEqProofs only [↓yP, yT, Nat.reduceAdd, Nat.reduceMul, Nat.reduceSub, Nat.reduceLeDiff, Nat.reduceEqDiff, reduceCtorEq, Nat.reduceBEq, q1, q2, q3, q4, q5, q6, q7]
    refine Rcall_pure (in_spec cs _ hc) (by rfl) fun y hy => ?_
    subst hy
    simp -implicitDefEqProofs only [↓yP, yT, Nat.reduceAdd, Nat.reduceMul, Nat.reduceSub, Nat.reduceLeDiff, Nat.reduceEqDiff, reduceCtorEq, Nat.reduceBEq]
    exact ⟨_, rfl⟩
  · have t0 : leI 0 i = false := leI_false (by omega)
    refine Pf (by rfl) (by rfl) fn50 (by rfl) ?_
    simp only [Try.f50, List.length_cons, List.length_nil, List.replicate, List.cons_append, List.nil_append]
    simp -implicitDefEqProofs only [↓yP, yT, Nat.reduceAdd, Nat.reduceMul, Nat.reduceSub, Nat.reduceLeDiff, Nat.reduceEqDiff, reduceCtorEq, Nat.reduceBEq, t0]
    exact ⟨_, rfl⟩
theorem after_spec (l : List Tok) (cs : List Int) (n : Nat) (hc : cs.length ≤ 100000000) : PCall C1 51 [.c (.p (rT l)), .c (.p (rI cs)), yd (.int .i64 (n : Nat))] fun y => ∃ b : Bool, y = yd (.bool b) := by
  by_cases h0 : n < l.length
  · obtain ⟨t, ht⟩ := get_lt h0
    have t0 : leI (l.length : Nat) (n : Nat) = false := leI_false (by omega)
    refine Pf (by rfl) (by rfl) fn51 (by rfl) ?_
    simp only [Try.f51, List.length_cons, List.length_nil, List.replicate, List.cons_append, List.nil_append]
    simp -implicitDefEqProofs only [↓yP, yT, Nat.reduceAdd, Nat.reduceMul, Nat.reduceSub, Nat.reduceLeDiff, Nat.reduceEqDiff, reduceCtorEq, Nat.reduceBEq, t0, get_map ht, Tok.pc, nn]
    cases q1 : eqI t.kind 19 with
    | true =>
      simp -implicitDefEqProofs only [↓yP, yT, Nat.reduceAdd, Nat.reduceMul, Nat.reduceSub, Nat.reduceLeDiff, Nat.reduceEqDiff, reduceCtorEq, Nat.reduceBEq, q1]
      exact ⟨_, rfl⟩
    | false =>
    cases q2 : eqI t.kind 20 with
    | true =>
      simp -implicitDefEqProofs only [↓yP, yT, Nat.reduceAdd, Nat.reduceMul, Nat.reduceSub, Nat.reduceLeDiff, Nat.reduceEqDiff, reduceCtorEq, Nat.reduceBEq, q1, q2]
      exact ⟨_, rfl⟩
    | false =>
    cases q3 : eqI t.kind 22 with
    | true =>
      simp -implicitDefEqProofs only [↓yP, yT, Nat.reduceAdd, Nat.reduceMul, Nat.reduceSub, Nat.reduceLeDiff, Nat.reduceEqDiff, reduceCtorEq, Nat.reduceBEq, q1, q2, q3]
      exact ⟨_, rfl⟩
    | false =>
    cases q4 : eqI t.kind 24 with
    | true =>
      simp -implicitDefEqProofs only [↓yP, yT, Nat.reduceAdd, Nat.reduceMul, Nat.reduceSub, Nat.reduceLeDiff, Nat.reduceEqDiff, reduceCtorEq, Nat.reduceBEq, q1, q2, q3, q4]
      exact ⟨_, rfl⟩
    | false =>
    cases q5 : eqI t.kind 18 with
    | true =>
      simp -implicitDefEqProofs only [↓yP, yT, Nat.reduceAdd, Nat.reduceMul, Nat.reduceSub, Nat.reduceLeDiff, Nat.reduceEqDiff, reduceCtorEq, Nat.reduceBEq, q1, q2, q3, q4, q5]
      exact ⟨_, rfl⟩
    | false =>
    cases q6 : eqI t.kind 17 with
    | true =>
      simp -implicitDefEqProofs only [↓yP, yT, Nat.reduceAdd, Nat.reduceMul, Nat.reduceSub, Nat.reduceLeDiff, Nat.reduceEqDiff, reduceCtorEq, Nat.reduceBEq, q1, q2, q3, q4, q5, q6]
      exact ⟨_, rfl⟩
    | false =>
    cases q7 : eqI t.kind 17 with
    | true =>
      simp -implicitDefEqProofs only [↓yP, yT, Nat.reduceAdd, Nat.reduceMul, Nat.reduceSub, Nat.reduceLeDiff, Nat.reduceEqDiff, reduceCtorEq, Nat.reduceBEq, q1, q2, q3, q4, q5, q6, q7]
      first
      | exact ⟨_, rfl⟩
      | (refine Rcall_pure (in_spec cs _ hc) (by rfl) fun y hy => ?_
         subst hy
         simp -implicitDefEqProofs only [↓yP, yT, Nat.reduceAdd, Nat.reduceMul, Nat.reduceSub, Nat.reduceLeDiff, Nat.reduceEqDiff, reduceCtorEq, Nat.reduceBEq]
         exact ⟨_, rfl⟩)
    | false =>
    simp -implicitDefEqProofs only [↓yP, yT, Nat.reduceAdd, Nat.reduceMul, Nat.reduceSub, Nat.reduceLeDiff, Nat.reduceEqDiff, reduceCtorEq, Nat.reduceBEq, q1, q2, q3, q4, q5, q6, q7]
    refine Rcall_pure (in_spec cs _ hc) (by rfl) fun y hy => ?_
    subst hy
    simp -implicitDefEqProofs only [↓yP, yT, Nat.reduceAdd, Nat.reduceMul, Nat.reduceSub, Nat.reduceLeDiff, Nat.reduceEqDiff, reduceCtorEq, Nat.reduceBEq]
    exact ⟨_, rfl⟩
  · have t0 : leI (l.length : Nat) (n : Nat) = true := leI_true (by omega)
    refine Pf (by rfl) (by rfl) fn51 (by rfl) ?_
    simp only [Try.f51, List.length_cons, List.length_nil, List.replicate, List.cons_append, List.nil_append]
    simp -implicitDefEqProofs only [↓yP, yT, Nat.reduceAdd, Nat.reduceMul, Nat.reduceSub, Nat.reduceLeDiff, Nat.reduceEqDiff, reduceCtorEq, Nat.reduceBEq, t0]
    exact ⟨_, rfl⟩
end Go.Vx.Seat
end
/- What tokens come to. -/
section
open Go Go.Vx Go.Proofs
set_option linter.unusedSimpArgs false
set_option linter.unusedVariables false
set_option maxRecDepth 10000
set_option maxHeartbeats 2000000
namespace Go.Vx.Seat
attribute [local congr] Rg_at Rt_at Ro_at Ri_at Rc_at Rto_at Rtk_at Rtf_at Rti_at
attribute [local irreducible] Rg Rt Ro Ri Rc Rto Rtk Rtf Rti Rw Rl Rd Rcall Rtcall kf
theorem fn31 : nth C1.P.funcs.toList 31 = some Try.f31 := by kernel_rfl
/-- A blank. -/
def spTok (s : ByteArray) (f : Int) : Tok := ⟨13, s, ⟨#[]⟩, false, ⟨#[]⟩, ⟨#[]⟩, false, false, 0, 0, 0, 0, f⟩
def OrSp (l : List Tok) (u : Tok) : Prop := u ∈ l ∨ ∃ s f, (strOf s).length ≤ 1 ∧ u = spTok s f
theorem value_spec (l : List Tok) (hl : l.length ≤ 1000000) (htx : ∀ t, t ∈ l → (strOf t.text).length ≤ 100000000) : PCall C1 31 [.c (.p (rT l))] fun y => ∃ out : List Tok, y = .c (.p (rT out)) ∧ out.length ≤ l.length ∧ (∀ u, u ∈ out → OrSp l u) ∧ ((∀ t, t ∈ l → quiet t.kind = false) → out = l) := by
  have hcl := colonsTo_length l l.length
  refine Pf (by rfl) (by rfl) fn31 (by rfl) ?_
  simp only [Try.f31, List.length_cons, List.length_nil, List.replicate, List.cons_append, List.nil_append]
  simp -implicitDefEqProofs only [↓yP, yT, Nat.reduceAdd, Nat.reduceMul, Nat.reduceSub, Nat.reduceLeDiff, Nat.reduceEqDiff, reduceCtorEq, Nat.reduceBEq]
  refine Rcall_pure (colons_spec l hl) (by rfl) fun y hy => ?_
  subst hy
  simp -implicitDefEqProofs only [↓yP, yT, Nat.reduceAdd, Nat.reduceMul, Nat.reduceSub, Nat.reduceLeDiff, Nat.reduceEqDiff, reduceCtorEq, Nat.reduceBEq]
  refine Rl_nil 4 13 (by decide) rfl ?_
  refine Rl_inv (fun d e s => ∃ (i : Nat) (out : List Tok) (la : Int), e = ([.c (.p (rT l)), .c .top, .c .top, .c (.p (rI (colonsTo l l.length))), .c (.own 0 13 0 out.length), yd (.int .i64 la), yd (.int .i64 (i : Nat)), .c .top, .c .top, .c .top, .c .top, .c .top, .c .top, .c .top, .c .top, .c .top, .c .top, .c .top, .c .top, .c .top, .c .top, .c .top, .c .top, .c .top, .c .top, .c .top, .c .top, .c .top, .c .top, .c .top, .c .top, .c .top, .c .top, .c .top, .c .top, .c .top, .c .top, .c .top, .c .top, .c .top, .c .top, .c .top, .c .top, .c .top, .c .top, .c .top, .c .top, .c .top, .c .top, .c .top, .c .top, .c .top, .c .top, .c .top, .c .top, .c .top, .c .top, .c .top, .c .top, .c .top, .c .top, .c .top, .c .top, .c .top, .c .top, .c .top, .c .top, .c .top, .c .top, .c .top, .c .top, .c .top, .c .top, .c .top, .c .top, .c .top, .c .top, .c .top, .c .top, .c .top, .c .top, .c .top, .c .top, .c .top, .c .top, .c .top, .c .top, .c .top, .c .top, .c .top, .c .top, .c .top, .c .top, .c .top, .c .top, .c .top, .c .top, .c .top, .c .top, .c .top, .c .top, .c .top, .c .top, .c .top, .c .top, .c .top, .c .top, .c .top, .c .top, .c .top, .c .top, .c .top, .c .top, .c .top, .c .top, .c .top, .c .top, .c .top, .c .top, .c .top, .c .top, .c .top, .c .top, .c .top, .c .top, .c .top, .c .top, .c .top, .c .top, .c .top, .c .top, .c .top, .c .top, .c .top, .c .top, .c .top, .c .top]) ∧ s = [.row 13 (out.map Tok.pc)] ∧ i + d = l.length ∧ (-1 ≤ la ∧ la < i) ∧ out.length ≤ i ∧ (∀ u, u ∈ out → OrSp l u) ∧ ((∀ t, t ∈ l → quiet t.kind = false) → out = l.take i)) [true, false, false, true, true, true, true] l.length [0] (by decide) (pinned_zero _) ⟨0, [], -1, by (simp only [yE, Nat.reduceEqDiff, Nat.reduceAdd, reduceCtorEq]; try rfl), by (simp only [yE, Nat.reduceEqDiff, Nat.reduceAdd, reduceCtorEq]; try rfl), by omega, by omega, by simp, fun u hu => by simp at hu, fun _ => by simp⟩ ?_
  rintro d e s ⟨i, out, la, rfl, rfl, hd, hla, hol, hval, hex⟩
  by_cases hi : i < l.length
  · obtain ⟨t, ht⟩ := get_lt hi
    have t1 : leI (l.length : Nat) (i : Nat) = false := leI_false (by omega)
    have w1 : wrapK .i64 ((i : Int) + 1) = ((i + 1 : Nat) : Int) := wrap_succ (by omega)
    have b1 : (out.length + 1) * 128 ≤ 70368744177664 := by omega
    simp -implicitDefEqProofs only [↓yP, yT, Nat.reduceAdd, Nat.reduceMul, Nat.reduceSub, Nat.reduceLeDiff, Nat.reduceEqDiff, reduceCtorEq, Nat.reduceBEq, t1, get_map ht, Tok.pc]
    refine Rcall_pure (quiet_spec t) (by rfl) fun y hy => ?_
    subst hy
    cases hqt : quiet t.kind with
    | false =>
      simp -implicitDefEqProofs only [↓yP, yT, Nat.reduceAdd, Nat.reduceMul, Nat.reduceSub, Nat.reduceLeDiff, Nat.reduceEqDiff, reduceCtorEq, Nat.reduceBEq, get_map ht, Tok.pc, b1, w1]
      refine ⟨d - 1, [2], by omega, by decide, pinned_zero _, i + 1, out ++ [t], (i : Nat), by (simp only [yE, Nat.reduceEqDiff, Nat.reduceAdd, reduceCtorEq]; try rfl), ?_, by omega, by omega, by simp; omega, ?_, fun hq => ?_⟩
      · simp only [yE, Nat.reduceEqDiff, Nat.reduceAdd, reduceCtorEq, List.map_append]; rfl
      · intro u hu
        rcases List.mem_append.mp hu with hu | hu
        · exact hval u hu
        · rw [List.mem_singleton.mp hu]; exact .inl (List.mem_of_getElem? ht)
      · rw [hex hq, List.take_add_one, ht]; rfl
    | true =>
      simp -implicitDefEqProofs only [↓yP, yT, Nat.reduceAdd, Nat.reduceMul, Nat.reduceSub, Nat.reduceLeDiff, Nat.reduceEqDiff, reduceCtorEq, Nat.reduceBEq]
      refine Rl_nil 9 13 (by decide) rfl ?_
      refine Rl_inv (fun d' e s => ∃ (k : Nat) (sp : Int) (ks : List Tok), e = ([.c (.p (rT l)), .c .top, .c .top, .c (.p (rI (colonsTo l l.length))), .c (.own 0 13 0 out.length), yd (.int .i64 la), .c .top, yd (.int .i64 (k : Nat)), yd (.int .i64 sp), .c (.own 1 13 0 ks.length), .c .top, .c .top, .c .top, .c .top, .c .top, .c .top, .c .top, .c .top, .c .top, .c .top, .c .top, .c .top, .c .top, .c .top, .c .top, .c .top, .c .top, .c .top, .c .top, .c .top, .c .top, .c .top, .c .top, .c .top, .c .top, .c .top, .c .top, .c .top, .c .top, .c .top, .c .top, .c .top, .c .top, .c .top, .c .top, .c .top, .c .top, .c .top, .c .top, .c .top, .c .top, .c .top, .c .top, .c .top, .c .top, .c .top, .c .top, .c .top, .c .top, .c .top, .c .top, .c .top, .c .top, .c .top, .c .top, .c .top, .c .top, .c .top, .c .top, .c .top, .c .top, .c .top, .c .top, .c .top, .c .top, .c .top, .c .top, .c .top, .c .top, .c .top, .c .top, .c .top, .c .top, .c .top, .c .top, .c .top, .c .top, .c .top, .c .top, .c .top, .c .top, .c .top, .c .top, .c .top, .c .top, .c .top, .c .top, .c .top, .c .top, .c .top, .c .top, .c .top, .c .top, .c .top, .c .top, .c .top, .c .top, .c .top, .c .top, .c .top, .c .top, .c .top, .c .top, .c .top, .c .top, .c .top, .c .top, .c .top, .c .top, .c .top, .c .top, .c .top, .c .top, .c .top, .c .top, .c .top, .c .top, .c .top, .c .top, .c .top, .c .top, .c .top, .c .top, .c .top, .c .top, .c .top, .c .top]) ∧ s = [.row 13 (out.map Tok.pc), .row 13 (ks.map Tok.pc)] ∧ k + d' = l.length ∧ i ≤ k ∧ (sp = -1 ∨ ∃ n : Nat, sp = n ∧ n < l.length ∧ ks.length + 1 ≤ k - i) ∧ ks.length ≤ k - i ∧ (∀ u, u ∈ ks → u ∈ l)) [true, false, false, true, true, true, false, true, true, true] d [0, 1] (by decide) (pinned_zero _) ⟨i, -1, [], by (simp only [yE, Nat.reduceEqDiff, Nat.reduceAdd, reduceCtorEq]; try rfl), by (simp only [yE, Nat.reduceEqDiff, Nat.reduceAdd, reduceCtorEq]; try rfl), by omega, by omega, .inl rfl, by simp, fun u hu => by simp at hu⟩ ?_
      rintro d' e s ⟨k, sp, ks, rfl, rfl, hd', hik, hsp, hkl, hks⟩
      have vb1 : (out.length + ks.length) * 128 ≤ 70368744177664 := by omega
      by_cases hkl2 : k < l.length
      · obtain ⟨u, hu⟩ := get_lt hkl2
        have hum := List.mem_of_getElem? hu
        have t2 : leI (l.length : Nat) (k : Nat) = false := leI_false (by omega)
        have v1 : wrapK .i64 ((k : Int) + 1) = ((k + 1 : Nat) : Int) := wrap_succ (by omega)
        have kb1 : (ks.length + 1) * 128 ≤ 70368744177664 := by omega
        simp -implicitDefEqProofs only [↓yP, yT, Nat.reduceAdd, Nat.reduceMul, Nat.reduceSub, Nat.reduceLeDiff, Nat.reduceEqDiff, reduceCtorEq, Nat.reduceBEq, t2, get_map hu, Tok.pc]
        refine Rcall_pure (quiet_spec u) (by rfl) fun y hy => ?_
        subst hy
        cases hqu : quiet u.kind with
        | true =>
          cases q1 : eqI u.kind 13 with
          | true =>
            have q2 : eqI u.kind 25 = false := eqI_false (by have := of_eqT q1; omega)
            rcases hsp with rfl | ⟨n, rfl, hn, hsl⟩
            · have s0 : leI 0 (-1) = false := rfl
              simp -implicitDefEqProofs only [↓yP, yT, Nat.reduceAdd, Nat.reduceMul, Nat.reduceSub, Nat.reduceLeDiff, Nat.reduceEqDiff, reduceCtorEq, Nat.reduceBEq, get_map hu, Tok.pc, q1, q2, s0, v1]
              refine ⟨d' - 1, [0, 1], by omega, by decide, pinned_zero _, k + 1, (k : Nat), ks, by (simp only [yE, Nat.reduceEqDiff, Nat.reduceAdd, reduceCtorEq]; try rfl), by (simp only [yE, Nat.reduceEqDiff, Nat.reduceAdd, reduceCtorEq]; try rfl), by omega, by omega, .inr ⟨k, rfl, hkl2, by omega⟩, by omega, hks⟩
            · have s0 : leI 0 ((n : Nat) : Int) = true := leI_true (by omega)
              simp -implicitDefEqProofs only [↓yP, yT, Nat.reduceAdd, Nat.reduceMul, Nat.reduceSub, Nat.reduceLeDiff, Nat.reduceEqDiff, reduceCtorEq, Nat.reduceBEq, get_map hu, Tok.pc, q1, q2, s0, v1]
              refine ⟨d' - 1, [0, 1], by omega, by decide, pinned_zero _, k + 1, (n : Nat), ks, by (simp only [yE, Nat.reduceEqDiff, Nat.reduceAdd, reduceCtorEq]; try rfl), by (simp only [yE, Nat.reduceEqDiff, Nat.reduceAdd, reduceCtorEq]; try rfl), by omega, by omega, .inr ⟨n, rfl, hn, by omega⟩, by omega, hks⟩
          | false =>
            have hsp' : sp = -1 ∨ ∃ n : Nat, sp = n ∧ n < l.length ∧ ks.length + 2 ≤ k + 1 - i := hsp.imp (fun h => h) fun ⟨n, a, b, c⟩ => ⟨n, a, b, by omega⟩
            cases q2 : eqI u.kind 25 with
            | true =>
              simp -implicitDefEqProofs only [↓yP, yT, Nat.reduceAdd, Nat.reduceMul, Nat.reduceSub, Nat.reduceLeDiff, Nat.reduceEqDiff, reduceCtorEq, Nat.reduceBEq, get_map hu, Tok.pc, q1, q2]
              refine Rcall_pure (keeps_spec u.text (htx u hum)) (by rfl) fun y hy => ?_
              obtain ⟨b, rfl⟩ := hy
              cases b with
              | true =>
                simp -implicitDefEqProofs only [↓yP, yT, Nat.reduceAdd, Nat.reduceMul, Nat.reduceSub, Nat.reduceLeDiff, Nat.reduceEqDiff, reduceCtorEq, Nat.reduceBEq, get_map hu, Tok.pc, kb1, v1]
                refine ⟨d' - 1, [0, 3], by omega, by decide, pinned_zero _, k + 1, sp, ks ++ [u], by (simp only [yE, Nat.reduceEqDiff, Nat.reduceAdd, reduceCtorEq]; try rfl), ?_, by omega, by omega, hsp'.imp (fun h => h) (fun ⟨n, a, b, c⟩ => ⟨n, a, b, by simp; omega⟩), by simp; omega, ?_⟩
                · simp only [yE, Nat.reduceEqDiff, Nat.reduceAdd, reduceCtorEq, List.map_append]; rfl
                · intro w hw
                  rcases List.mem_append.mp hw with hw | hw
                  · exact hks w hw
                  · rw [List.mem_singleton.mp hw]; exact hum
              | false =>
                simp -implicitDefEqProofs only [↓yP, yT, Nat.reduceAdd, Nat.reduceMul, Nat.reduceSub, Nat.reduceLeDiff, Nat.reduceEqDiff, reduceCtorEq, Nat.reduceBEq, v1]
                refine ⟨d' - 1, [0, 1], by omega, by decide, pinned_zero _, k + 1, sp, ks, by (simp only [yE, Nat.reduceEqDiff, Nat.reduceAdd, reduceCtorEq]; try rfl), by (simp only [yE, Nat.reduceEqDiff, Nat.reduceAdd, reduceCtorEq]; try rfl), by omega, by omega, hsp'.imp (fun h => h) (fun ⟨n, a, b, c⟩ => ⟨n, a, b, by omega⟩), by omega, hks⟩
            | false =>
              simp -implicitDefEqProofs only [↓yP, yT, Nat.reduceAdd, Nat.reduceMul, Nat.reduceSub, Nat.reduceLeDiff, Nat.reduceEqDiff, reduceCtorEq, Nat.reduceBEq, get_map hu, Tok.pc, q1, q2, v1]
              refine ⟨d' - 1, [0, 1], by omega, by decide, pinned_zero _, k + 1, sp, ks, by (simp only [yE, Nat.reduceEqDiff, Nat.reduceAdd, reduceCtorEq]; try rfl), by (simp only [yE, Nat.reduceEqDiff, Nat.reduceAdd, reduceCtorEq]; try rfl), by omega, by omega, hsp'.imp (fun h => h) (fun ⟨n, a, b, c⟩ => ⟨n, a, b, by omega⟩), by omega, hks⟩
        | false =>
          have hik' := ltk hik (fun h => by subst h; rw [ht] at hu; cases hu; rw [hqt] at hqu; cases hqu)
          simp -implicitDefEqProofs only [↓yP, yT, Nat.reduceAdd, Nat.reduceMul, Nat.reduceSub, Nat.reduceLeDiff, Nat.reduceEqDiff, reduceCtorEq, Nat.reduceBEq]
          have hko : ks.length ≤ k - i := by omega
          rcases hsp with rfl | ⟨n, rfl, hn, hsl⟩
          · have s0 : leI 0 (-1) = false := rfl
            simp -implicitDefEqProofs only [↓yP, yT, Nat.reduceAdd, Nat.reduceMul, Nat.reduceSub, Nat.reduceLeDiff, Nat.reduceEqDiff, reduceCtorEq, Nat.reduceBEq, s0, vb1, Nat.reduceLT]
            refine ⟨l.length - k, [3], by omega, by decide, pinned_zero _, k, out ++ ks, la, by (simp only [yE, Nat.reduceEqDiff, Nat.reduceAdd, reduceCtorEq]; try rfl), ?_, by omega, by omega, by simp; omega, ?_, fun hq => by exfalso; rw [hq t (List.mem_of_getElem? ht)] at hqt; cases hqt⟩
            · simp only [yE, Nat.reduceEqDiff, Nat.reduceAdd, reduceCtorEq, List.map_append]; try rfl
            · intro u hu
              rcases List.mem_append.mp hu with hu | hu
              · exact hval u hu
              · exact .inl (hks u hu)
          · have s0 : leI 0 ((n : Nat) : Int) = true := leI_true (by omega)
            obtain ⟨tn, htn⟩ := get_lt hn
            have vb2 : (out.length + 1) * 128 ≤ 70368744177664 := by omega
            have vb3 : (out.length + 1 + ks.length) * 128 ≤ 70368744177664 := by omega
            have vb4 : (out.length + ks.length + 1) * 128 ≤ 70368744177664 := by rw [Nat.add_right_comm]; exact vb3
            by_cases hla0 : 0 ≤ la
            · obtain ⟨m, rfl⟩ := Int.eq_ofNat_of_zero_le hla0
              have s1 : leI 0 ((m : Nat) : Int) = true := leI_true (by omega)
              obtain ⟨tm, htm⟩ := get_lt (l := l) (i := m) (by omega)
              simp -implicitDefEqProofs only [↓yP, yT, Nat.reduceAdd, Nat.reduceMul, Nat.reduceSub, Nat.reduceLeDiff, Nat.reduceEqDiff, reduceCtorEq, Nat.reduceBEq, s0, s1, get_map htn, get_map htm, Tok.pc, Nat.reduceLT]
              refine Rcall_pure (line_spec tm) (by rfl) fun y hy => ?_
              obtain ⟨b, rfl⟩ := hy
              cases b with
              | true =>
                simp -implicitDefEqProofs only [↓yP, yT, Nat.reduceAdd, Nat.reduceMul, Nat.reduceSub, Nat.reduceLeDiff, Nat.reduceEqDiff, reduceCtorEq, Nat.reduceBEq, vb1, vb2, vb3, Nat.reduceLT]
                refine ⟨l.length - k, [5], by omega, by decide, pinned_zero _, k, out ++ [spTok ⟨#[10]⟩ tn.start] ++ ks, (m : Nat), by (simp only [yE, Nat.reduceEqDiff, Nat.reduceAdd, reduceCtorEq]; try rfl), ?_, by omega, by omega, by simp; omega, ?_, fun hq => by exfalso; rw [hq t (List.mem_of_getElem? ht)] at hqt; cases hqt⟩
                · simp only [yE, Nat.reduceEqDiff, Nat.reduceAdd, reduceCtorEq, List.map_append]; try rfl
                · intro u hu
                  simp only [List.mem_append, List.mem_singleton] at hu
                  rcases hu with (hu | hu) | hu
                  · exact hval u hu
                  · exact .inr ⟨_, _, by show 1 ≤ 1; omega, hu⟩
                  · exact .inl (hks u hu)
              | false =>
                generalize hlam : ((m : Nat) : Int) = la at hla hla0 s1 ⊢
                simp -implicitDefEqProofs only [↓yP, yT, Nat.reduceAdd, Nat.reduceMul, Nat.reduceSub, Nat.reduceLeDiff, Nat.reduceEqDiff, reduceCtorEq, Nat.reduceBEq, s0]
                refine Rcall_pure (before_spec l (colonsTo l l.length) la (by omega) (by omega)) (by rfl) fun y hy => ?_
                obtain ⟨b, rfl⟩ := hy
                cases b with
                | true =>
                  simp -implicitDefEqProofs only [↓yP, yT, Nat.reduceAdd, Nat.reduceMul, Nat.reduceSub, Nat.reduceLeDiff, Nat.reduceEqDiff, reduceCtorEq, Nat.reduceBEq, vb1, Nat.reduceLT]
                  refine ⟨l.length - k, [3], by omega, by decide, pinned_zero _, k, out ++ ks, la, by (simp only [yE, Nat.reduceEqDiff, Nat.reduceAdd, reduceCtorEq]; try rfl), ?_, by omega, by omega, by simp; omega, ?_, fun hq => by exfalso; rw [hq t (List.mem_of_getElem? ht)] at hqt; cases hqt⟩
                  · simp only [yE, Nat.reduceEqDiff, Nat.reduceAdd, reduceCtorEq, List.map_append]; try rfl
                  · intro u hu
                    rcases List.mem_append.mp hu with hu | hu
                    · exact hval u hu
                    · exact .inl (hks u hu)
                | false =>
                  simp -implicitDefEqProofs only [↓yP, yT, Nat.reduceAdd, Nat.reduceMul, Nat.reduceSub, Nat.reduceLeDiff, Nat.reduceEqDiff, reduceCtorEq, Nat.reduceBEq]
                  refine Rcall_pure (after_spec l (colonsTo l l.length) k (by omega)) (by rfl) fun y hy => ?_
                  obtain ⟨b, rfl⟩ := hy
                  cases b with
                  | true =>
                    simp -implicitDefEqProofs only [↓yP, yT, Nat.reduceAdd, Nat.reduceMul, Nat.reduceSub, Nat.reduceLeDiff, Nat.reduceEqDiff, reduceCtorEq, Nat.reduceBEq, vb1, Nat.reduceLT]
                    refine ⟨l.length - k, [3], by omega, by decide, pinned_zero _, k, out ++ ks, la, by (simp only [yE, Nat.reduceEqDiff, Nat.reduceAdd, reduceCtorEq]; try rfl), ?_, by omega, by omega, by simp; omega, ?_, fun hq => by exfalso; rw [hq t (List.mem_of_getElem? ht)] at hqt; cases hqt⟩
                    · simp only [yE, Nat.reduceEqDiff, Nat.reduceAdd, reduceCtorEq, List.map_append]; try rfl
                    · intro u hu
                      rcases List.mem_append.mp hu with hu | hu
                      · exact hval u hu
                      · exact .inl (hks u hu)
                  | false =>
                    simp -implicitDefEqProofs only [↓yP, yT, Nat.reduceAdd, Nat.reduceMul, Nat.reduceSub, Nat.reduceLeDiff, Nat.reduceEqDiff, reduceCtorEq, Nat.reduceBEq]
                    refine Rd_trace ?_
                    have tk1 : (out.map Tok.pc ++ ks.map Tok.pc).length = out.length + ks.length := by simp
                    have tk2 : (out.map Tok.pc ++ ks.map Tok.pc).take (out.length + ks.length) = out.map Tok.pc ++ ks.map Tok.pc := List.take_of_length_le (by simp)
                    simp -implicitDefEqProofs only [↓yP, yT, Nat.reduceAdd, Nat.reduceMul, Nat.reduceSub, Nat.reduceLeDiff, Nat.reduceEqDiff, reduceCtorEq, Nat.reduceBEq, rdOf, tgOf, vb1, vb4, tk1, tk2, Nat.reduceLT]
                    refine ⟨l.length - k, [5], by omega, by decide, pinned_zero _, k, out ++ ks ++ [spTok ⟨#[32]⟩ tn.start], la, by (simp only [yE, Nat.reduceEqDiff, Nat.reduceAdd, reduceCtorEq]; try rfl), ?_, by omega, by omega, by simp; omega, ?_, fun hq => by exfalso; rw [hq t (List.mem_of_getElem? ht)] at hqt; cases hqt⟩
                    · simp only [yE, Nat.reduceEqDiff, Nat.reduceAdd, reduceCtorEq, List.map_append]; try rfl
                    · intro u hu
                      simp only [List.mem_append, List.mem_singleton] at hu
                      rcases hu with (hu | hu) | hu
                      · exact hval u hu
                      · exact .inl (hks u hu)
                      · exact .inr ⟨_, _, by show 1 ≤ 1; omega, hu⟩
            · have s1 : leI 0 la = false := leI_false (by omega)
              simp -implicitDefEqProofs only [↓yP, yT, Nat.reduceAdd, Nat.reduceMul, Nat.reduceSub, Nat.reduceLeDiff, Nat.reduceEqDiff, reduceCtorEq, Nat.reduceBEq, s0, s1, get_map htn, Tok.pc, Nat.reduceLT]
              refine Rcall_pure (before_spec l (colonsTo l l.length) la (by omega) (by omega)) (by rfl) fun y hy => ?_
              obtain ⟨b, rfl⟩ := hy
              cases b with
              | true =>
                simp -implicitDefEqProofs only [↓yP, yT, Nat.reduceAdd, Nat.reduceMul, Nat.reduceSub, Nat.reduceLeDiff, Nat.reduceEqDiff, reduceCtorEq, Nat.reduceBEq, vb1, Nat.reduceLT]
                refine ⟨l.length - k, [3], by omega, by decide, pinned_zero _, k, out ++ ks, la, by (simp only [yE, Nat.reduceEqDiff, Nat.reduceAdd, reduceCtorEq]; try rfl), ?_, by omega, by omega, by simp; omega, ?_, fun hq => by exfalso; rw [hq t (List.mem_of_getElem? ht)] at hqt; cases hqt⟩
                · simp only [yE, Nat.reduceEqDiff, Nat.reduceAdd, reduceCtorEq, List.map_append]; try rfl
                · intro u hu
                  rcases List.mem_append.mp hu with hu | hu
                  · exact hval u hu
                  · exact .inl (hks u hu)
              | false =>
                simp -implicitDefEqProofs only [↓yP, yT, Nat.reduceAdd, Nat.reduceMul, Nat.reduceSub, Nat.reduceLeDiff, Nat.reduceEqDiff, reduceCtorEq, Nat.reduceBEq]
                refine Rcall_pure (after_spec l (colonsTo l l.length) k (by omega)) (by rfl) fun y hy => ?_
                obtain ⟨b, rfl⟩ := hy
                cases b with
                | true =>
                  simp -implicitDefEqProofs only [↓yP, yT, Nat.reduceAdd, Nat.reduceMul, Nat.reduceSub, Nat.reduceLeDiff, Nat.reduceEqDiff, reduceCtorEq, Nat.reduceBEq, vb1, Nat.reduceLT]
                  refine ⟨l.length - k, [3], by omega, by decide, pinned_zero _, k, out ++ ks, la, by (simp only [yE, Nat.reduceEqDiff, Nat.reduceAdd, reduceCtorEq]; try rfl), ?_, by omega, by omega, by simp; omega, ?_, fun hq => by exfalso; rw [hq t (List.mem_of_getElem? ht)] at hqt; cases hqt⟩
                  · simp only [yE, Nat.reduceEqDiff, Nat.reduceAdd, reduceCtorEq, List.map_append]; try rfl
                  · intro u hu
                    rcases List.mem_append.mp hu with hu | hu
                    · exact hval u hu
                    · exact .inl (hks u hu)
                | false =>
                  simp -implicitDefEqProofs only [↓yP, yT, Nat.reduceAdd, Nat.reduceMul, Nat.reduceSub, Nat.reduceLeDiff, Nat.reduceEqDiff, reduceCtorEq, Nat.reduceBEq]
                  refine Rd_trace ?_
                  have tk1 : (out.map Tok.pc ++ ks.map Tok.pc).length = out.length + ks.length := by simp
                  have tk2 : (out.map Tok.pc ++ ks.map Tok.pc).take (out.length + ks.length) = out.map Tok.pc ++ ks.map Tok.pc := List.take_of_length_le (by simp)
                  simp -implicitDefEqProofs only [↓yP, yT, Nat.reduceAdd, Nat.reduceMul, Nat.reduceSub, Nat.reduceLeDiff, Nat.reduceEqDiff, reduceCtorEq, Nat.reduceBEq, rdOf, tgOf, vb1, vb4, tk1, tk2, Nat.reduceLT]
                  refine ⟨l.length - k, [5], by omega, by decide, pinned_zero _, k, out ++ ks ++ [spTok ⟨#[32]⟩ tn.start], la, by (simp only [yE, Nat.reduceEqDiff, Nat.reduceAdd, reduceCtorEq]; try rfl), ?_, by omega, by omega, by simp; omega, ?_, fun hq => by exfalso; rw [hq t (List.mem_of_getElem? ht)] at hqt; cases hqt⟩
                  · simp only [yE, Nat.reduceEqDiff, Nat.reduceAdd, reduceCtorEq, List.map_append]; try rfl
                  · intro u hu
                    simp only [List.mem_append, List.mem_singleton] at hu
                    rcases hu with (hu | hu) | hu
                    · exact hval u hu
                    · exact .inl (hks u hu)
                    · exact .inr ⟨_, _, by show 1 ≤ 1; omega, hu⟩
      · have t2 : leI (l.length : Nat) (k : Nat) = true := leI_true (by omega)
        have hik' : i < k := by omega
        simp -implicitDefEqProofs only [↓yP, yT, Nat.reduceAdd, Nat.reduceMul, Nat.reduceSub, Nat.reduceLeDiff, Nat.reduceEqDiff, reduceCtorEq, Nat.reduceBEq, t2]
        have hko : ks.length ≤ k - i := by omega
        rcases hsp with rfl | ⟨n, rfl, hn, hsl⟩
        · have s0 : leI 0 (-1) = false := rfl
          simp -implicitDefEqProofs only [↓yP, yT, Nat.reduceAdd, Nat.reduceMul, Nat.reduceSub, Nat.reduceLeDiff, Nat.reduceEqDiff, reduceCtorEq, Nat.reduceBEq, s0, vb1, Nat.reduceLT]
          refine ⟨l.length - k, [3], by omega, by decide, pinned_zero _, k, out ++ ks, la, by (simp only [yE, Nat.reduceEqDiff, Nat.reduceAdd, reduceCtorEq]; try rfl), ?_, by omega, by omega, by simp; omega, ?_, fun hq => by exfalso; rw [hq t (List.mem_of_getElem? ht)] at hqt; cases hqt⟩
          · simp only [yE, Nat.reduceEqDiff, Nat.reduceAdd, reduceCtorEq, List.map_append]; try rfl
          · intro u hu
            rcases List.mem_append.mp hu with hu | hu
            · exact hval u hu
            · exact .inl (hks u hu)
        · have s0 : leI 0 ((n : Nat) : Int) = true := leI_true (by omega)
          obtain ⟨tn, htn⟩ := get_lt hn
          have vb2 : (out.length + 1) * 128 ≤ 70368744177664 := by omega
          have vb3 : (out.length + 1 + ks.length) * 128 ≤ 70368744177664 := by omega
          have vb4 : (out.length + ks.length + 1) * 128 ≤ 70368744177664 := by rw [Nat.add_right_comm]; exact vb3
          by_cases hla0 : 0 ≤ la
          · obtain ⟨m, rfl⟩ := Int.eq_ofNat_of_zero_le hla0
            have s1 : leI 0 ((m : Nat) : Int) = true := leI_true (by omega)
            obtain ⟨tm, htm⟩ := get_lt (l := l) (i := m) (by omega)
            simp -implicitDefEqProofs only [↓yP, yT, Nat.reduceAdd, Nat.reduceMul, Nat.reduceSub, Nat.reduceLeDiff, Nat.reduceEqDiff, reduceCtorEq, Nat.reduceBEq, s0, s1, get_map htn, get_map htm, Tok.pc, Nat.reduceLT]
            refine Rcall_pure (line_spec tm) (by rfl) fun y hy => ?_
            obtain ⟨b, rfl⟩ := hy
            cases b with
            | true =>
              simp -implicitDefEqProofs only [↓yP, yT, Nat.reduceAdd, Nat.reduceMul, Nat.reduceSub, Nat.reduceLeDiff, Nat.reduceEqDiff, reduceCtorEq, Nat.reduceBEq, vb1, vb2, vb3, Nat.reduceLT]
              refine ⟨l.length - k, [5], by omega, by decide, pinned_zero _, k, out ++ [spTok ⟨#[10]⟩ tn.start] ++ ks, (m : Nat), by (simp only [yE, Nat.reduceEqDiff, Nat.reduceAdd, reduceCtorEq]; try rfl), ?_, by omega, by omega, by simp; omega, ?_, fun hq => by exfalso; rw [hq t (List.mem_of_getElem? ht)] at hqt; cases hqt⟩
              · simp only [yE, Nat.reduceEqDiff, Nat.reduceAdd, reduceCtorEq, List.map_append]; try rfl
              · intro u hu
                simp only [List.mem_append, List.mem_singleton] at hu
                rcases hu with (hu | hu) | hu
                · exact hval u hu
                · exact .inr ⟨_, _, by show 1 ≤ 1; omega, hu⟩
                · exact .inl (hks u hu)
            | false =>
              generalize hlam : ((m : Nat) : Int) = la at hla hla0 s1 ⊢
              simp -implicitDefEqProofs only [↓yP, yT, Nat.reduceAdd, Nat.reduceMul, Nat.reduceSub, Nat.reduceLeDiff, Nat.reduceEqDiff, reduceCtorEq, Nat.reduceBEq, s0]
              refine Rcall_pure (before_spec l (colonsTo l l.length) la (by omega) (by omega)) (by rfl) fun y hy => ?_
              obtain ⟨b, rfl⟩ := hy
              cases b with
              | true =>
                simp -implicitDefEqProofs only [↓yP, yT, Nat.reduceAdd, Nat.reduceMul, Nat.reduceSub, Nat.reduceLeDiff, Nat.reduceEqDiff, reduceCtorEq, Nat.reduceBEq, vb1, Nat.reduceLT]
                refine ⟨l.length - k, [3], by omega, by decide, pinned_zero _, k, out ++ ks, la, by (simp only [yE, Nat.reduceEqDiff, Nat.reduceAdd, reduceCtorEq]; try rfl), ?_, by omega, by omega, by simp; omega, ?_, fun hq => by exfalso; rw [hq t (List.mem_of_getElem? ht)] at hqt; cases hqt⟩
                · simp only [yE, Nat.reduceEqDiff, Nat.reduceAdd, reduceCtorEq, List.map_append]; try rfl
                · intro u hu
                  rcases List.mem_append.mp hu with hu | hu
                  · exact hval u hu
                  · exact .inl (hks u hu)
              | false =>
                simp -implicitDefEqProofs only [↓yP, yT, Nat.reduceAdd, Nat.reduceMul, Nat.reduceSub, Nat.reduceLeDiff, Nat.reduceEqDiff, reduceCtorEq, Nat.reduceBEq]
                refine Rcall_pure (after_spec l (colonsTo l l.length) k (by omega)) (by rfl) fun y hy => ?_
                obtain ⟨b, rfl⟩ := hy
                cases b with
                | true =>
                  simp -implicitDefEqProofs only [↓yP, yT, Nat.reduceAdd, Nat.reduceMul, Nat.reduceSub, Nat.reduceLeDiff, Nat.reduceEqDiff, reduceCtorEq, Nat.reduceBEq, vb1, Nat.reduceLT]
                  refine ⟨l.length - k, [3], by omega, by decide, pinned_zero _, k, out ++ ks, la, by (simp only [yE, Nat.reduceEqDiff, Nat.reduceAdd, reduceCtorEq]; try rfl), ?_, by omega, by omega, by simp; omega, ?_, fun hq => by exfalso; rw [hq t (List.mem_of_getElem? ht)] at hqt; cases hqt⟩
                  · simp only [yE, Nat.reduceEqDiff, Nat.reduceAdd, reduceCtorEq, List.map_append]; try rfl
                  · intro u hu
                    rcases List.mem_append.mp hu with hu | hu
                    · exact hval u hu
                    · exact .inl (hks u hu)
                | false =>
                  simp -implicitDefEqProofs only [↓yP, yT, Nat.reduceAdd, Nat.reduceMul, Nat.reduceSub, Nat.reduceLeDiff, Nat.reduceEqDiff, reduceCtorEq, Nat.reduceBEq]
                  refine Rd_trace ?_
                  have tk1 : (out.map Tok.pc ++ ks.map Tok.pc).length = out.length + ks.length := by simp
                  have tk2 : (out.map Tok.pc ++ ks.map Tok.pc).take (out.length + ks.length) = out.map Tok.pc ++ ks.map Tok.pc := List.take_of_length_le (by simp)
                  simp -implicitDefEqProofs only [↓yP, yT, Nat.reduceAdd, Nat.reduceMul, Nat.reduceSub, Nat.reduceLeDiff, Nat.reduceEqDiff, reduceCtorEq, Nat.reduceBEq, rdOf, tgOf, vb1, vb4, tk1, tk2, Nat.reduceLT]
                  refine ⟨l.length - k, [5], by omega, by decide, pinned_zero _, k, out ++ ks ++ [spTok ⟨#[32]⟩ tn.start], la, by (simp only [yE, Nat.reduceEqDiff, Nat.reduceAdd, reduceCtorEq]; try rfl), ?_, by omega, by omega, by simp; omega, ?_, fun hq => by exfalso; rw [hq t (List.mem_of_getElem? ht)] at hqt; cases hqt⟩
                  · simp only [yE, Nat.reduceEqDiff, Nat.reduceAdd, reduceCtorEq, List.map_append]; try rfl
                  · intro u hu
                    simp only [List.mem_append, List.mem_singleton] at hu
                    rcases hu with (hu | hu) | hu
                    · exact hval u hu
                    · exact .inl (hks u hu)
                    · exact .inr ⟨_, _, by show 1 ≤ 1; omega, hu⟩
          · have s1 : leI 0 la = false := leI_false (by omega)
            simp -implicitDefEqProofs only [↓yP, yT, Nat.reduceAdd, Nat.reduceMul, Nat.reduceSub, Nat.reduceLeDiff, Nat.reduceEqDiff, reduceCtorEq, Nat.reduceBEq, s0, s1, get_map htn, Tok.pc, Nat.reduceLT]
            refine Rcall_pure (before_spec l (colonsTo l l.length) la (by omega) (by omega)) (by rfl) fun y hy => ?_
            obtain ⟨b, rfl⟩ := hy
            cases b with
            | true =>
              simp -implicitDefEqProofs only [↓yP, yT, Nat.reduceAdd, Nat.reduceMul, Nat.reduceSub, Nat.reduceLeDiff, Nat.reduceEqDiff, reduceCtorEq, Nat.reduceBEq, vb1, Nat.reduceLT]
              refine ⟨l.length - k, [3], by omega, by decide, pinned_zero _, k, out ++ ks, la, by (simp only [yE, Nat.reduceEqDiff, Nat.reduceAdd, reduceCtorEq]; try rfl), ?_, by omega, by omega, by simp; omega, ?_, fun hq => by exfalso; rw [hq t (List.mem_of_getElem? ht)] at hqt; cases hqt⟩
              · simp only [yE, Nat.reduceEqDiff, Nat.reduceAdd, reduceCtorEq, List.map_append]; try rfl
              · intro u hu
                rcases List.mem_append.mp hu with hu | hu
                · exact hval u hu
                · exact .inl (hks u hu)
            | false =>
              simp -implicitDefEqProofs only [↓yP, yT, Nat.reduceAdd, Nat.reduceMul, Nat.reduceSub, Nat.reduceLeDiff, Nat.reduceEqDiff, reduceCtorEq, Nat.reduceBEq]
              refine Rcall_pure (after_spec l (colonsTo l l.length) k (by omega)) (by rfl) fun y hy => ?_
              obtain ⟨b, rfl⟩ := hy
              cases b with
              | true =>
                simp -implicitDefEqProofs only [↓yP, yT, Nat.reduceAdd, Nat.reduceMul, Nat.reduceSub, Nat.reduceLeDiff, Nat.reduceEqDiff, reduceCtorEq, Nat.reduceBEq, vb1, Nat.reduceLT]
                refine ⟨l.length - k, [3], by omega, by decide, pinned_zero _, k, out ++ ks, la, by (simp only [yE, Nat.reduceEqDiff, Nat.reduceAdd, reduceCtorEq]; try rfl), ?_, by omega, by omega, by simp; omega, ?_, fun hq => by exfalso; rw [hq t (List.mem_of_getElem? ht)] at hqt; cases hqt⟩
                · simp only [yE, Nat.reduceEqDiff, Nat.reduceAdd, reduceCtorEq, List.map_append]; try rfl
                · intro u hu
                  rcases List.mem_append.mp hu with hu | hu
                  · exact hval u hu
                  · exact .inl (hks u hu)
              | false =>
                simp -implicitDefEqProofs only [↓yP, yT, Nat.reduceAdd, Nat.reduceMul, Nat.reduceSub, Nat.reduceLeDiff, Nat.reduceEqDiff, reduceCtorEq, Nat.reduceBEq]
                refine Rd_trace ?_
                have tk1 : (out.map Tok.pc ++ ks.map Tok.pc).length = out.length + ks.length := by simp
                have tk2 : (out.map Tok.pc ++ ks.map Tok.pc).take (out.length + ks.length) = out.map Tok.pc ++ ks.map Tok.pc := List.take_of_length_le (by simp)
                simp -implicitDefEqProofs only [↓yP, yT, Nat.reduceAdd, Nat.reduceMul, Nat.reduceSub, Nat.reduceLeDiff, Nat.reduceEqDiff, reduceCtorEq, Nat.reduceBEq, rdOf, tgOf, vb1, vb4, tk1, tk2, Nat.reduceLT]
                refine ⟨l.length - k, [5], by omega, by decide, pinned_zero _, k, out ++ ks ++ [spTok ⟨#[32]⟩ tn.start], la, by (simp only [yE, Nat.reduceEqDiff, Nat.reduceAdd, reduceCtorEq]; try rfl), ?_, by omega, by omega, by simp; omega, ?_, fun hq => by exfalso; rw [hq t (List.mem_of_getElem? ht)] at hqt; cases hqt⟩
                · simp only [yE, Nat.reduceEqDiff, Nat.reduceAdd, reduceCtorEq, List.map_append]; try rfl
                · intro u hu
                  simp only [List.mem_append, List.mem_singleton] at hu
                  rcases hu with (hu | hu) | hu
                  · exact hval u hu
                  · exact .inl (hks u hu)
                  · exact .inr ⟨_, _, by show 1 ≤ 1; omega, hu⟩
  · have t1 : leI (l.length : Nat) (i : Nat) = true := leI_true (by omega)
    obtain rfl : i = l.length := by omega
    rw [List.take_length] at hex
    simp -implicitDefEqProofs only [↓yP, yT, Nat.reduceAdd, Nat.reduceMul, Nat.reduceSub, Nat.reduceLeDiff, Nat.reduceEqDiff, reduceCtorEq, Nat.reduceBEq, t1]
    exact ⟨out, rfl, by omega, hval, hex⟩
end Go.Vx.Seat
end
/- Colours, read. -/
section
open Go Go.Vx Go.Proofs
set_option linter.unusedSimpArgs false
set_option linter.unusedVariables false
set_option maxRecDepth 20000
set_option maxHeartbeats 4000000
namespace Go.Vx.Seat
attribute [local congr] Rg_at Rt_at Ro_at Ri_at Rc_at Rto_at Rtk_at Rtf_at Rti_at
attribute [local irreducible] Rg Rt Ro Ri Rc Rto Rtk Rtf Rti Rw Rl Rd Rcall Rtcall kf
theorem fn46 : nth C1.P.funcs.toList 46 = some Try.f46 := by kernel_rfl
theorem fn60 : nth C1.P.funcs.toList 60 = some Try.f60 := by kernel_rfl
theorem fn61 : nth C1.P.funcs.toList 61 = some Try.f61 := by kernel_rfl
theorem fn47 : nth C1.P.funcs.toList 47 = some Try.f47 := by kernel_rfl
theorem fn77 : nth C1.P.funcs.toList 77 = some Try.f77 := by kernel_rfl
def es (b : ByteArray) : List PC := [.d (.string b)]
abbrev rS (l : List ByteArray) : PC := .row 1 (l.map es)
theorem esGet {l : List ByteArray} {i : Nat} {c : ByteArray} (h : l[i]? = some c) : (l.map es)[i]? = some [.d (.string c)] := get_map h
theorem coloured_spec (s : ByteArray) (hs : (strOf s).length ≤ 10000000) : PCall C1 46 [yd (.string s)] fun y => ∃ b : Bool, y = yd (.bool b) := by
  refine Pf (by rfl) (by rfl) fn46 (by rfl) ?_
  simp only [Try.f46, List.length_cons, List.length_nil, List.replicate, List.cons_append, List.nil_append]
  simp -implicitDefEqProofs only [↓yP, yT, Nat.reduceAdd, Nat.reduceMul, Nat.reduceSub, Nat.reduceLeDiff, Nat.reduceEqDiff, reduceCtorEq, Nat.reduceBEq, Nat.reduceLT]
  refine Rl_inv (fun d e st => ∃ (i : Nat) (ns : List ByteArray), e = ([yd (.string s), .c .top, .c .top, .c (.own 0 1 0 7), yd (.int .i64 (i : Nat)), .c .top, .c .top, .c .top, .c .top, .c .top, .c .top, .c .top, .c .top, .c .top, .c .top, .c .top, .c .top, .c .top, .c .top]) ∧ st = [.row 1 (ns.map es)] ∧ ns.length = 7 ∧ i + d = 7) [true, false, false, true, true] 7 [0] (by decide) (pinned_zero _) ⟨0, [_, _, _, _, _, _, _], by (simp only [yE, Nat.reduceEqDiff, Nat.reduceAdd, reduceCtorEq]; try rfl), by (simp only [yE, Nat.reduceEqDiff, Nat.reduceAdd, reduceCtorEq]; try rfl), rfl, rfl⟩ ?_
  rintro d e st ⟨i, ns, rfl, rfl, hn, hd⟩
  by_cases hi : i < 7
  · obtain ⟨c, hc⟩ := get_lt (l := ns) (i := i) (by omega)
    have t1 : leI ((7 : Nat) : Int) (i : Nat) = false := leI_false (by omega)
    have c1 : (0 : Int) ≤ (i : Nat) := by omega
    have c2 : ((i : Nat) : Int) < ((7 : Nat) : Int) := by omega
    have w1 : wrapK .i64 ((i : Int) + 1) = ((i + 1 : Nat) : Int) := wrap_succ (by omega)
    simp -implicitDefEqProofs only [↓yP, yT, Nat.reduceAdd, Nat.reduceMul, Nat.reduceSub, Nat.reduceLeDiff, Nat.reduceEqDiff, reduceCtorEq, Nat.reduceBEq, t1]
    refine Rd_calm (by rw [C1_P]; kernel_rfl) ?_
    simp -implicitDefEqProofs only [↓yP, yT, Nat.reduceAdd, Nat.reduceMul, Nat.reduceSub, Nat.reduceLeDiff, Nat.reduceEqDiff, reduceCtorEq, Nat.reduceBEq, c1, c2, esGet hc, nn]
    refine Rcall_pure (lower_spec s hs) (by rfl) fun y hy => ?_
    obtain ⟨z, rfl, hz⟩ := hy
    cases h1 : (strOf c == strOf z) with
    | true =>
      simp -implicitDefEqProofs only [↓yP, yT, Nat.reduceAdd, Nat.reduceMul, Nat.reduceSub, Nat.reduceLeDiff, Nat.reduceEqDiff, reduceCtorEq, Nat.reduceBEq, xstr_eql, h1]
      exact ⟨_, rfl⟩
    | false =>
      simp -implicitDefEqProofs only [↓yP, yT, Nat.reduceAdd, Nat.reduceMul, Nat.reduceSub, Nat.reduceLeDiff, Nat.reduceEqDiff, reduceCtorEq, Nat.reduceBEq, xstr_eql, h1, w1]
      refine ⟨d - 1, [0], by omega, by decide, pinned_zero _, i + 1, ns, by (simp only [yE, Nat.reduceEqDiff, Nat.reduceAdd, reduceCtorEq]; try rfl), by (simp only [yE, Nat.reduceEqDiff, Nat.reduceAdd, reduceCtorEq]; try rfl), by omega, by omega⟩
  · have t1 : leI ((7 : Nat) : Int) (i : Nat) = true := leI_true (by omega)
    simp -implicitDefEqProofs only [↓yP, yT, Nat.reduceAdd, Nat.reduceMul, Nat.reduceSub, Nat.reduceLeDiff, Nat.reduceEqDiff, reduceCtorEq, Nat.reduceBEq, t1]
    exact ⟨_, rfl⟩
theorem hex17_spec (c : Int) : PCall C1 61 [yd (.int .u8 c)] fun y => ∃ d : Int, y = yd (.int .i64 d) := by
  refine Pf (by rfl) (by rfl) fn61 (by rfl) ?_
  simp only [Try.f61, List.length_cons, List.length_nil, List.replicate, List.cons_append, List.nil_append]
  cases h1 : leI 48 c <;> cases h2 : leI c 57 <;> cases h3 : leI 97 c <;> cases h4 : leI c 102 <;> cases h5 : leI 65 c <;> cases h6 : leI c 70
  all_goals
    simp -implicitDefEqProofs only [↓yP, yT, Nat.reduceAdd, Nat.reduceMul, Nat.reduceSub, Nat.reduceLeDiff, Nat.reduceEqDiff, reduceCtorEq, Nat.reduceBEq, h1, h2, h3, h4, h5, h6]
    exact ⟨_, rfl⟩
end Go.Vx.Seat
end
/- Colours, read: the table of names, a colour's digits. -/
section
open Go Go.Vx Go.Proofs
set_option linter.unusedSimpArgs false
set_option linter.unusedVariables false
set_option maxRecDepth 20000
set_option maxHeartbeats 4000000
namespace Go.Vx.Seat
attribute [local congr] Rg_at Rt_at Ro_at Ri_at Rc_at Rto_at Rtk_at Rtf_at Rti_at
attribute [local irreducible] Rg Rt Ro Ri Rc Rto Rtk Rtf Rti Rw Rl Rd Rcall Rtcall kf
theorem table_spec : PCall C1 77 [] fun y => ∃ (ns : List ByteArray) (cs : List Int), y = .tup [.c (.p (rS ns)), .c (.p (rI cs))] ∧ ns.length = 38 ∧ cs.length = 38 := by
  refine Pf (by rfl) (by rfl) fn77 (by rfl) ?_
  simp only [Try.f77, List.length_cons, List.length_nil, List.replicate, List.cons_append, List.nil_append]
  simp -implicitDefEqProofs only [↓yP, yT, Nat.reduceAdd, Nat.reduceMul, Nat.reduceSub, Nat.reduceLeDiff, Nat.reduceEqDiff, reduceCtorEq, Nat.reduceBEq, Nat.reduceLT]
  exact ⟨[_, _, _, _, _, _, _, _, _, _, _, _, _, _, _, _, _, _, _, _, _, _, _, _, _, _, _, _, _, _, _, _, _, _, _, _, _, _], [_, _, _, _, _, _, _, _, _, _, _, _, _, _, _, _, _, _, _, _, _, _, _, _, _, _, _, _, _, _, _, _, _, _, _, _, _, _], rfl, rfl, rfl⟩
/-- Four numbers. -/
def c4 (a b c d : Int) : YV := .agg [.p (.d (.int .i64 a)), .p (.d (.int .i64 b)), .p (.d (.int .i64 c)), .p (.d (.int .i64 d))]
def ColR (y : YV) : Prop := ∃ (a b c d : Int) (ok : Bool), y = .tup [c4 a b c d, yd (.bool ok)]
theorem xshr8 (a : Int) : xshift .shr .i64 a 8 = some (.int .i64 (shrI a 8)) := xshr a 8
theorem xshr16 (a : Int) : xshift .shr .i64 a 16 = some (.int .i64 (shrI a 16)) := xshr a 16
theorem named17_spec (s : ByteArray) (hs : (strOf s).length ≤ 10000000) : PCall C1 60 [yd (.string s)] ColR := by
  refine Pf (by rfl) (by rfl) fn60 (by rfl) ?_
  simp only [Try.f60, List.length_cons, List.length_nil, List.replicate, List.cons_append, List.nil_append]
  simp -implicitDefEqProofs only [↓yP, yT, Nat.reduceAdd, Nat.reduceMul, Nat.reduceSub, Nat.reduceLeDiff, Nat.reduceEqDiff, reduceCtorEq, Nat.reduceBEq]
  refine Rcall_pure table_spec (by rfl) fun y hy => ?_
  obtain ⟨ns, cs, rfl, hn, hc⟩ := hy
  simp -implicitDefEqProofs only [↓yP, yT, Nat.reduceAdd, Nat.reduceMul, Nat.reduceSub, Nat.reduceLeDiff, Nat.reduceEqDiff, reduceCtorEq, Nat.reduceBEq]
  refine Rl_inv (fun d e st => ∃ (i : Nat), e = ([yd (.string s), .c .top, .c (.ptr 0 0 0 0), .c .top, .c (.p (rS ns)), .c (.p (rI cs)), yd (.int .i64 (i : Nat)), .c .top, .c .top, .c .top, .c .top, .c .top, .c .top, .c .top, .c .top, .c .top, .c .top, .c .top, .c .top, .c .top, .c .top, .c .top, .c .top, .c .top, .c .top, .c .top, .c .top, .c .top, .c .top, .c .top, .c .top, .c .top, .c .top, .c .top, .c .top, .c .top, .c .top, .c .top, .c .top, .c .top, .c .top, .c .top]) ∧ st = [.box [.p (.d (.int .i64 0)), .p (.d (.int .i64 0)), .p (.d (.int .i64 0)), .p (.d (.int .i64 0))]] ∧ i + d = ns.length) [true, false, true, false, true, true, true] ns.length [0] (by decide) (pinned_zero _) ⟨0, by (simp only [yE, Nat.reduceEqDiff, Nat.reduceAdd, reduceCtorEq]; try rfl), by (simp only [yE, Nat.reduceEqDiff, Nat.reduceAdd, reduceCtorEq]; try rfl), by omega⟩ ?_
  rintro d e st ⟨i, rfl, rfl, hd⟩
  by_cases hi : i < ns.length
  · obtain ⟨c, hcc⟩ := get_lt (l := ns) (i := i) (by omega)
    obtain ⟨v, hv⟩ := get_lt (l := cs) (i := i) (by omega)
    have t1 : leI (ns.length : Nat) (i : Nat) = false := leI_false (by omega)
    have w1 : wrapK .i64 ((i : Int) + 1) = ((i + 1 : Nat) : Int) := wrap_succ (by omega)
    simp -implicitDefEqProofs only [↓yP, yT, Nat.reduceAdd, Nat.reduceMul, Nat.reduceSub, Nat.reduceLeDiff, Nat.reduceEqDiff, reduceCtorEq, Nat.reduceBEq, t1]
    refine Rd_calm (by rw [C1_P]; kernel_rfl) ?_
    simp -implicitDefEqProofs only [↓yP, yT, Nat.reduceAdd, Nat.reduceMul, Nat.reduceSub, Nat.reduceLeDiff, Nat.reduceEqDiff, reduceCtorEq, Nat.reduceBEq, esGet hcc, nn]
    refine Rcall_pure (lower_spec s hs) (by rfl) fun y hy => ?_
    obtain ⟨z, rfl, hz⟩ := hy
    cases h1 : (strOf c == strOf z) with
    | true =>
      simp -implicitDefEqProofs only [↓yP, yT, Nat.reduceAdd, Nat.reduceMul, Nat.reduceSub, Nat.reduceLeDiff, Nat.reduceEqDiff, reduceCtorEq, Nat.reduceBEq, xstr_eql, h1]
      refine Rd_trace ?_
      simp -implicitDefEqProofs only [↓yP, yT, Nat.reduceAdd, Nat.reduceMul, Nat.reduceSub, Nat.reduceLeDiff, Nat.reduceEqDiff, reduceCtorEq, Nat.reduceBEq, rdOf, tgOf, get_map hv, ei, nn, xshr8, xshr16, Nat.reduceLT]
      exact ⟨_, _, _, _, _, rfl⟩
    | false =>
      simp -implicitDefEqProofs only [↓yP, yT, Nat.reduceAdd, Nat.reduceMul, Nat.reduceSub, Nat.reduceLeDiff, Nat.reduceEqDiff, reduceCtorEq, Nat.reduceBEq, xstr_eql, h1, w1]
      refine ⟨d - 1, [0], by omega, by decide, pinned_zero _, i + 1, by (simp only [yE, Nat.reduceEqDiff, Nat.reduceAdd, reduceCtorEq]; try rfl), by (simp only [yE, Nat.reduceEqDiff, Nat.reduceAdd, reduceCtorEq]; try rfl), by omega⟩
  · have t1 : leI (ns.length : Nat) (i : Nat) = true := leI_true (by omega)
    simp -implicitDefEqProofs only [↓yP, yT, Nat.reduceAdd, Nat.reduceMul, Nat.reduceSub, Nat.reduceLeDiff, Nat.reduceEqDiff, reduceCtorEq, Nat.reduceBEq, t1, Nat.reduceLT]
    exact ⟨_, _, _, _, _, rfl⟩
end Go.Vx.Seat
end
/- Colours, read: of a token. -/
section
open Go Go.Vx Go.Proofs
set_option linter.unusedSimpArgs false
set_option linter.unusedVariables false
set_option maxRecDepth 20000
set_option maxHeartbeats 4000000
namespace Go.Vx.Seat
attribute [local congr] Rg_at Rt_at Ro_at Ri_at Rc_at Rto_at Rtk_at Rtf_at Rti_at
attribute [local irreducible] Rg Rt Ro Ri Rc Rto Rtk Rtf Rti Rw Rl Rd Rcall Rtcall kf
def ColQ (t : Tok) (y : YV) : Prop := ∃ (a b c d : Int) (ok : Bool), y = .tup [c4 a b c d, yd (.bool ok)] ∧ (ok = true → t.kind = 1 ∨ t.kind = 4)
theorem ColQ.no {t : Tok} {y : YV} {a b c d : Int} (h : y = .tup [c4 a b c d, yd (.bool false)]) : ColQ t y := ⟨a, b, c, d, false, h, fun h => by cases h⟩
theorem readColour_spec (t : Tok) (hs : (strOf t.text).length ≤ 10000000) : PCall C1 47 [t.yv] (ColQ t) := by
  cases q1 : eqI t.kind 1 with
  | true =>
    refine Pf (by rfl) (by rfl) fn47 (by rfl) ?_
    simp only [Try.f47, List.length_cons, List.length_nil, List.replicate, List.cons_append, List.nil_append]
    simp only [Tok.yv, Tok.cs, Tok.pc, List.map_cons, List.map_nil]
    simp -implicitDefEqProofs only [↓yP, yT, Nat.reduceAdd, Nat.reduceMul, Nat.reduceSub, Nat.reduceLeDiff, Nat.reduceEqDiff, reduceCtorEq, Nat.reduceBEq, q1]
    refine Rcall_pure (named17_spec t.text hs) (by rfl) fun y hy => ?_
    obtain ⟨a, b, c, d, ok, rfl⟩ := hy
    simp only [c4]
    simp -implicitDefEqProofs only [↓yP, yT, Nat.reduceAdd, Nat.reduceMul, Nat.reduceSub, Nat.reduceLeDiff, Nat.reduceEqDiff, reduceCtorEq, Nat.reduceBEq, Nat.reduceLT]
    exact ⟨a, b, c, d, ok, rfl, fun _ => .inl (of_eqT q1)⟩
  | false =>
  cases q4 : eqI t.kind 4 with
  | false =>
    refine Pf (by rfl) (by rfl) fn47 (by rfl) ?_
    simp only [Try.f47, List.length_cons, List.length_nil, List.replicate, List.cons_append, List.nil_append]
    simp only [Tok.yv, Tok.cs, Tok.pc, List.map_cons, List.map_nil]
    simp -implicitDefEqProofs only [↓yP, yT, Nat.reduceAdd, Nat.reduceMul, Nat.reduceSub, Nat.reduceLeDiff, Nat.reduceEqDiff, reduceCtorEq, Nat.reduceBEq, opLen.eq_1, q1, q4, Nat.reduceLT]
    exact .no rfl
  | true =>
  refine Pf (by rfl) (by rfl) fn47 (by rfl) ?_
  simp only [Try.f47, List.length_cons, List.length_nil, List.replicate, List.cons_append, List.nil_append]
  simp only [Tok.yv, Tok.cs, Tok.pc, List.map_cons, List.map_nil]
  cases n3 : eqI ((strOf t.text).length : Nat) 3 with
  | true =>
    have hn := of_eqT n3
    have t6 : leI 6 ((strOf t.text).length : Nat) = false := leI_false (by omega)
    simp -implicitDefEqProofs only [↓yP, yT, Nat.reduceAdd, Nat.reduceMul, Nat.reduceSub, Nat.reduceLeDiff, Nat.reduceEqDiff, reduceCtorEq, Nat.reduceBEq, opLen.eq_1, q1, q4, n3, Nat.reduceLT]
    refine Rl_inv (fun d e st => ∃ (i : Nat) (a b c dq : Int), e = ([.c .top, .c (.ptr 0 0 0 0), .c (.ptr 1 0 0 0), .c .top, yd (.int .i64 ((strOf t.text).length : Nat)), .c (.ptr 2 0 0 0), yd (.int .i64 (i : Nat)), .c .top, .c .top, .c .top, .c .top, .c .top, .c .top, .c .top, .c .top, .c .top, .c .top, .c .top, .c .top, .c .top, .c .top, .c .top, .c .top, .c .top, .c .top, .c .top, .c .top, .c .top, .c .top, .c .top, .c .top, .c .top, .c .top, .c .top, .c .top, .c .top, .c .top, .c .top, .c .top, .c .top, .c .top, .c .top, .c .top, .c .top, .c .top, .c .top, .c .top, .c .top, .c .top, .c .top, .c .top, .c .top, .c .top, .c .top, .c .top, .c .top, .c .top, .c .top, .c .top, .c .top, .c .top, .c .top, .c .top, .c .top, .c .top, .c .top, .c .top, .c .top, .c .top, .c .top, .c .top, .c .top, .c .top, .c .top, .c .top, .c .top, .c .top, .c .top, .c .top]) ∧ st = [.box t.cs, .box [.p (.d (.int .i64 0)), .p (.d (.int .i64 0)), .p (.d (.int .i64 0)), .p (.d (.int .i64 0))], .box [.p (.d (.int .i64 a)), .p (.d (.int .i64 b)), .p (.d (.int .i64 c)), .p (.d (.int .i64 dq))]] ∧ i + d = (strOf t.text).length) [false, true, true, false, true, true, true] (strOf t.text).length [0, 1, 2] (by decide) (pinned_zero _) ⟨0, 0, 0, 0, 255, by (simp only [yE, Nat.reduceEqDiff, Nat.reduceAdd, reduceCtorEq]; try rfl), by (simp only [yE, Nat.reduceEqDiff, Nat.reduceAdd, reduceCtorEq]; try rfl), by omega⟩ ?_
    rintro dd e st ⟨i, a, b, c, dq, rfl, rfl, hd⟩
    by_cases hi : i < (strOf t.text).length
    · obtain ⟨ch, hch⟩ := get_lt hi
      have u1 : leI ((strOf t.text).length : Nat) (i : Nat) = false := leI_false (by omega)
      have f1 : (0 : Int) ≤ (i : Nat) := by omega
      simp only [Tok.cs, Tok.pc, List.map_cons, List.map_nil]
      simp -implicitDefEqProofs only [↓yP, yT, Nat.reduceAdd, Nat.reduceMul, Nat.reduceSub, Nat.reduceLeDiff, Nat.reduceEqDiff, reduceCtorEq, Nat.reduceBEq, opLen.eq_1, xindex.eq_1, xslice.eq_1, Int.toNat_natCast, u1, f1, hch]
      refine Rcall_pure (hex17_spec _) (by rfl) fun y hy => ?_
      obtain ⟨hx, rfl⟩ := hy
      cases h0 : leI 0 hx with
      | false =>
        simp -implicitDefEqProofs only [↓yP, yT, Nat.reduceAdd, Nat.reduceMul, Nat.reduceSub, Nat.reduceLeDiff, Nat.reduceEqDiff, reduceCtorEq, Nat.reduceBEq, h0, Nat.reduceLT]
        exact .no rfl
      | true =>
        simp -implicitDefEqProofs only [↓yP, yT, Nat.reduceAdd, Nat.reduceMul, Nat.reduceSub, Nat.reduceLeDiff, Nat.reduceEqDiff, reduceCtorEq, Nat.reduceBEq, h0]
        clear u1 f1 hch h0
        have hj : i = 0 ∨ i = 1 ∨ i = 2 ∨ i = 3 := by omega
        rcases hj with rfl | rfl | rfl | rfl
        · have f2 : ((0 : Nat) : Int) < ((4 : Nat) : Int) := by omega
          have f1 : (0 : Int) ≤ ((0 : Nat) : Int) := by omega
          have w1 : wrapK .i64 (((0 : Nat) : Int) + 1) = ((0 + 1 : Nat) : Int) := rfl
          simp -implicitDefEqProofs only [↓yP, yT, Nat.reduceAdd, Nat.reduceMul, Nat.reduceSub, Nat.reduceLeDiff, Nat.reduceEqDiff, reduceCtorEq, Nat.reduceBEq, opLen.eq_1, xindex.eq_1, xslice.eq_1, Int.toNat_natCast, t6, f1, f2, w1, Nat.reduceLT]
          refine ⟨dd - 1, [0, 1, 2], by omega, by decide, pinned_zero _, 0 + 1, (wrapK .i64 (17 * hx)), b, c, dq, by (simp only [yE, Nat.reduceEqDiff, Nat.reduceAdd, reduceCtorEq]; try rfl), by (simp only [yE, Nat.reduceEqDiff, Nat.reduceAdd, reduceCtorEq]; try rfl), by omega⟩
        · have f2 : ((1 : Nat) : Int) < ((4 : Nat) : Int) := by omega
          have f1 : (0 : Int) ≤ ((1 : Nat) : Int) := by omega
          have w1 : wrapK .i64 (((1 : Nat) : Int) + 1) = ((1 + 1 : Nat) : Int) := rfl
          simp -implicitDefEqProofs only [↓yP, yT, Nat.reduceAdd, Nat.reduceMul, Nat.reduceSub, Nat.reduceLeDiff, Nat.reduceEqDiff, reduceCtorEq, Nat.reduceBEq, opLen.eq_1, xindex.eq_1, xslice.eq_1, Int.toNat_natCast, t6, f1, f2, w1, Nat.reduceLT]
          refine ⟨dd - 1, [0, 1, 2], by omega, by decide, pinned_zero _, 1 + 1, a, (wrapK .i64 (17 * hx)), c, dq, by (simp only [yE, Nat.reduceEqDiff, Nat.reduceAdd, reduceCtorEq]; try rfl), by (simp only [yE, Nat.reduceEqDiff, Nat.reduceAdd, reduceCtorEq]; try rfl), by omega⟩
        · have f2 : ((2 : Nat) : Int) < ((4 : Nat) : Int) := by omega
          have f1 : (0 : Int) ≤ ((2 : Nat) : Int) := by omega
          have w1 : wrapK .i64 (((2 : Nat) : Int) + 1) = ((2 + 1 : Nat) : Int) := rfl
          simp -implicitDefEqProofs only [↓yP, yT, Nat.reduceAdd, Nat.reduceMul, Nat.reduceSub, Nat.reduceLeDiff, Nat.reduceEqDiff, reduceCtorEq, Nat.reduceBEq, opLen.eq_1, xindex.eq_1, xslice.eq_1, Int.toNat_natCast, t6, f1, f2, w1, Nat.reduceLT]
          refine ⟨dd - 1, [0, 1, 2], by omega, by decide, pinned_zero _, 2 + 1, a, b, (wrapK .i64 (17 * hx)), dq, by (simp only [yE, Nat.reduceEqDiff, Nat.reduceAdd, reduceCtorEq]; try rfl), by (simp only [yE, Nat.reduceEqDiff, Nat.reduceAdd, reduceCtorEq]; try rfl), by omega⟩
        · have f2 : ((3 : Nat) : Int) < ((4 : Nat) : Int) := by omega
          have f1 : (0 : Int) ≤ ((3 : Nat) : Int) := by omega
          have w1 : wrapK .i64 (((3 : Nat) : Int) + 1) = ((3 + 1 : Nat) : Int) := rfl
          simp -implicitDefEqProofs only [↓yP, yT, Nat.reduceAdd, Nat.reduceMul, Nat.reduceSub, Nat.reduceLeDiff, Nat.reduceEqDiff, reduceCtorEq, Nat.reduceBEq, opLen.eq_1, xindex.eq_1, xslice.eq_1, Int.toNat_natCast, t6, f1, f2, w1, Nat.reduceLT]
          refine ⟨dd - 1, [0, 1, 2], by omega, by decide, pinned_zero _, 3 + 1, a, b, c, (wrapK .i64 (17 * hx)), by (simp only [yE, Nat.reduceEqDiff, Nat.reduceAdd, reduceCtorEq]; try rfl), by (simp only [yE, Nat.reduceEqDiff, Nat.reduceAdd, reduceCtorEq]; try rfl), by omega⟩
    · have u1 : leI ((strOf t.text).length : Nat) (i : Nat) = true := leI_true (by omega)
      simp -implicitDefEqProofs only [↓yP, yT, Nat.reduceAdd, Nat.reduceMul, Nat.reduceSub, Nat.reduceLeDiff, Nat.reduceEqDiff, reduceCtorEq, Nat.reduceBEq, u1, Nat.reduceLT]
      exact ⟨_, _, _, _, true, rfl, fun _ => .inr (of_eqT q4)⟩
  | false =>
  cases n4 : eqI ((strOf t.text).length : Nat) 4 with
  | true =>
    have hn := of_eqT n4
    have t6 : leI 6 ((strOf t.text).length : Nat) = false := leI_false (by omega)
    simp -implicitDefEqProofs only [↓yP, yT, Nat.reduceAdd, Nat.reduceMul, Nat.reduceSub, Nat.reduceLeDiff, Nat.reduceEqDiff, reduceCtorEq, Nat.reduceBEq, opLen.eq_1, q1, q4, n3, n4, Nat.reduceLT]
    refine Rl_inv (fun d e st => ∃ (i : Nat) (a b c dq : Int), e = ([.c .top, .c (.ptr 0 0 0 0), .c (.ptr 1 0 0 0), .c .top, yd (.int .i64 ((strOf t.text).length : Nat)), .c (.ptr 2 0 0 0), yd (.int .i64 (i : Nat)), .c .top, .c .top, .c .top, .c .top, .c .top, .c .top, .c .top, .c .top, .c .top, .c .top, .c .top, .c .top, .c .top, .c .top, .c .top, .c .top, .c .top, .c .top, .c .top, .c .top, .c .top, .c .top, .c .top, .c .top, .c .top, .c .top, .c .top, .c .top, .c .top, .c .top, .c .top, .c .top, .c .top, .c .top, .c .top, .c .top, .c .top, .c .top, .c .top, .c .top, .c .top, .c .top, .c .top, .c .top, .c .top, .c .top, .c .top, .c .top, .c .top, .c .top, .c .top, .c .top, .c .top, .c .top, .c .top, .c .top, .c .top, .c .top, .c .top, .c .top, .c .top, .c .top, .c .top, .c .top, .c .top, .c .top, .c .top, .c .top, .c .top, .c .top, .c .top, .c .top]) ∧ st = [.box t.cs, .box [.p (.d (.int .i64 0)), .p (.d (.int .i64 0)), .p (.d (.int .i64 0)), .p (.d (.int .i64 0))], .box [.p (.d (.int .i64 a)), .p (.d (.int .i64 b)), .p (.d (.int .i64 c)), .p (.d (.int .i64 dq))]] ∧ i + d = (strOf t.text).length) [false, true, true, false, true, true, true] (strOf t.text).length [0, 1, 2] (by decide) (pinned_zero _) ⟨0, 0, 0, 0, 255, by (simp only [yE, Nat.reduceEqDiff, Nat.reduceAdd, reduceCtorEq]; try rfl), by (simp only [yE, Nat.reduceEqDiff, Nat.reduceAdd, reduceCtorEq]; try rfl), by omega⟩ ?_
    rintro dd e st ⟨i, a, b, c, dq, rfl, rfl, hd⟩
    by_cases hi : i < (strOf t.text).length
    · obtain ⟨ch, hch⟩ := get_lt hi
      have u1 : leI ((strOf t.text).length : Nat) (i : Nat) = false := leI_false (by omega)
      have f1 : (0 : Int) ≤ (i : Nat) := by omega
      simp only [Tok.cs, Tok.pc, List.map_cons, List.map_nil]
      simp -implicitDefEqProofs only [↓yP, yT, Nat.reduceAdd, Nat.reduceMul, Nat.reduceSub, Nat.reduceLeDiff, Nat.reduceEqDiff, reduceCtorEq, Nat.reduceBEq, opLen.eq_1, xindex.eq_1, xslice.eq_1, Int.toNat_natCast, u1, f1, hch]
      refine Rcall_pure (hex17_spec _) (by rfl) fun y hy => ?_
      obtain ⟨hx, rfl⟩ := hy
      cases h0 : leI 0 hx with
      | false =>
        simp -implicitDefEqProofs only [↓yP, yT, Nat.reduceAdd, Nat.reduceMul, Nat.reduceSub, Nat.reduceLeDiff, Nat.reduceEqDiff, reduceCtorEq, Nat.reduceBEq, h0, Nat.reduceLT]
        exact .no rfl
      | true =>
        simp -implicitDefEqProofs only [↓yP, yT, Nat.reduceAdd, Nat.reduceMul, Nat.reduceSub, Nat.reduceLeDiff, Nat.reduceEqDiff, reduceCtorEq, Nat.reduceBEq, h0]
        clear u1 f1 hch h0
        have hj : i = 0 ∨ i = 1 ∨ i = 2 ∨ i = 3 := by omega
        rcases hj with rfl | rfl | rfl | rfl
        · have f2 : ((0 : Nat) : Int) < ((4 : Nat) : Int) := by omega
          have f1 : (0 : Int) ≤ ((0 : Nat) : Int) := by omega
          have w1 : wrapK .i64 (((0 : Nat) : Int) + 1) = ((0 + 1 : Nat) : Int) := rfl
          simp -implicitDefEqProofs only [↓yP, yT, Nat.reduceAdd, Nat.reduceMul, Nat.reduceSub, Nat.reduceLeDiff, Nat.reduceEqDiff, reduceCtorEq, Nat.reduceBEq, opLen.eq_1, xindex.eq_1, xslice.eq_1, Int.toNat_natCast, t6, f1, f2, w1, Nat.reduceLT]
          refine ⟨dd - 1, [0, 1, 2], by omega, by decide, pinned_zero _, 0 + 1, (wrapK .i64 (17 * hx)), b, c, dq, by (simp only [yE, Nat.reduceEqDiff, Nat.reduceAdd, reduceCtorEq]; try rfl), by (simp only [yE, Nat.reduceEqDiff, Nat.reduceAdd, reduceCtorEq]; try rfl), by omega⟩
        · have f2 : ((1 : Nat) : Int) < ((4 : Nat) : Int) := by omega
          have f1 : (0 : Int) ≤ ((1 : Nat) : Int) := by omega
          have w1 : wrapK .i64 (((1 : Nat) : Int) + 1) = ((1 + 1 : Nat) : Int) := rfl
          simp -implicitDefEqProofs only [↓yP, yT, Nat.reduceAdd, Nat.reduceMul, Nat.reduceSub, Nat.reduceLeDiff, Nat.reduceEqDiff, reduceCtorEq, Nat.reduceBEq, opLen.eq_1, xindex.eq_1, xslice.eq_1, Int.toNat_natCast, t6, f1, f2, w1, Nat.reduceLT]
          refine ⟨dd - 1, [0, 1, 2], by omega, by decide, pinned_zero _, 1 + 1, a, (wrapK .i64 (17 * hx)), c, dq, by (simp only [yE, Nat.reduceEqDiff, Nat.reduceAdd, reduceCtorEq]; try rfl), by (simp only [yE, Nat.reduceEqDiff, Nat.reduceAdd, reduceCtorEq]; try rfl), by omega⟩
        · have f2 : ((2 : Nat) : Int) < ((4 : Nat) : Int) := by omega
          have f1 : (0 : Int) ≤ ((2 : Nat) : Int) := by omega
          have w1 : wrapK .i64 (((2 : Nat) : Int) + 1) = ((2 + 1 : Nat) : Int) := rfl
          simp -implicitDefEqProofs only [↓yP, yT, Nat.reduceAdd, Nat.reduceMul, Nat.reduceSub, Nat.reduceLeDiff, Nat.reduceEqDiff, reduceCtorEq, Nat.reduceBEq, opLen.eq_1, xindex.eq_1, xslice.eq_1, Int.toNat_natCast, t6, f1, f2, w1, Nat.reduceLT]
          refine ⟨dd - 1, [0, 1, 2], by omega, by decide, pinned_zero _, 2 + 1, a, b, (wrapK .i64 (17 * hx)), dq, by (simp only [yE, Nat.reduceEqDiff, Nat.reduceAdd, reduceCtorEq]; try rfl), by (simp only [yE, Nat.reduceEqDiff, Nat.reduceAdd, reduceCtorEq]; try rfl), by omega⟩
        · have f2 : ((3 : Nat) : Int) < ((4 : Nat) : Int) := by omega
          have f1 : (0 : Int) ≤ ((3 : Nat) : Int) := by omega
          have w1 : wrapK .i64 (((3 : Nat) : Int) + 1) = ((3 + 1 : Nat) : Int) := rfl
          simp -implicitDefEqProofs only [↓yP, yT, Nat.reduceAdd, Nat.reduceMul, Nat.reduceSub, Nat.reduceLeDiff, Nat.reduceEqDiff, reduceCtorEq, Nat.reduceBEq, opLen.eq_1, xindex.eq_1, xslice.eq_1, Int.toNat_natCast, t6, f1, f2, w1, Nat.reduceLT]
          refine ⟨dd - 1, [0, 1, 2], by omega, by decide, pinned_zero _, 3 + 1, a, b, c, (wrapK .i64 (17 * hx)), by (simp only [yE, Nat.reduceEqDiff, Nat.reduceAdd, reduceCtorEq]; try rfl), by (simp only [yE, Nat.reduceEqDiff, Nat.reduceAdd, reduceCtorEq]; try rfl), by omega⟩
    · have u1 : leI ((strOf t.text).length : Nat) (i : Nat) = true := leI_true (by omega)
      simp -implicitDefEqProofs only [↓yP, yT, Nat.reduceAdd, Nat.reduceMul, Nat.reduceSub, Nat.reduceLeDiff, Nat.reduceEqDiff, reduceCtorEq, Nat.reduceBEq, u1, Nat.reduceLT]
      exact ⟨_, _, _, _, true, rfl, fun _ => .inr (of_eqT q4)⟩
  | false =>
  cases n6 : eqI ((strOf t.text).length : Nat) 6 with
  | true =>
    have hn := of_eqT n6
    have t6 : leI 6 ((strOf t.text).length : Nat) = true := leI_true (by omega)
    simp -implicitDefEqProofs only [↓yP, yT, Nat.reduceAdd, Nat.reduceMul, Nat.reduceSub, Nat.reduceLeDiff, Nat.reduceEqDiff, reduceCtorEq, Nat.reduceBEq, opLen.eq_1, q1, q4, n3, n4, n6, Nat.reduceLT]
    refine Rl_inv (fun d e st => ∃ (i : Nat) (a b c dq : Int), e = ([.c .top, .c (.ptr 0 0 0 0), .c (.ptr 1 0 0 0), .c .top, yd (.int .i64 ((strOf t.text).length : Nat)), .c (.ptr 2 0 0 0), yd (.int .i64 (i : Nat)), .c .top, .c .top, .c .top, .c .top, .c .top, .c .top, .c .top, .c .top, .c .top, .c .top, .c .top, .c .top, .c .top, .c .top, .c .top, .c .top, .c .top, .c .top, .c .top, .c .top, .c .top, .c .top, .c .top, .c .top, .c .top, .c .top, .c .top, .c .top, .c .top, .c .top, .c .top, .c .top, .c .top, .c .top, .c .top, .c .top, .c .top, .c .top, .c .top, .c .top, .c .top, .c .top, .c .top, .c .top, .c .top, .c .top, .c .top, .c .top, .c .top, .c .top, .c .top, .c .top, .c .top, .c .top, .c .top, .c .top, .c .top, .c .top, .c .top, .c .top, .c .top, .c .top, .c .top, .c .top, .c .top, .c .top, .c .top, .c .top, .c .top, .c .top, .c .top, .c .top]) ∧ st = [.box t.cs, .box [.p (.d (.int .i64 0)), .p (.d (.int .i64 0)), .p (.d (.int .i64 0)), .p (.d (.int .i64 0))], .box [.p (.d (.int .i64 a)), .p (.d (.int .i64 b)), .p (.d (.int .i64 c)), .p (.d (.int .i64 dq))]] ∧ i + d = (strOf t.text).length) [false, true, true, false, true, true, true] (strOf t.text).length [0, 1, 2] (by decide) (pinned_zero _) ⟨0, 0, 0, 0, 255, by (simp only [yE, Nat.reduceEqDiff, Nat.reduceAdd, reduceCtorEq]; try rfl), by (simp only [yE, Nat.reduceEqDiff, Nat.reduceAdd, reduceCtorEq]; try rfl), by omega⟩ ?_
    rintro dd e st ⟨i, a, b, c, dq, rfl, rfl, hd⟩
    by_cases hi : i < (strOf t.text).length
    · obtain ⟨ch, hch⟩ := get_lt hi
      have u1 : leI ((strOf t.text).length : Nat) (i : Nat) = false := leI_false (by omega)
      have f1 : (0 : Int) ≤ (i : Nat) := by omega
      simp only [Tok.cs, Tok.pc, List.map_cons, List.map_nil]
      simp -implicitDefEqProofs only [↓yP, yT, Nat.reduceAdd, Nat.reduceMul, Nat.reduceSub, Nat.reduceLeDiff, Nat.reduceEqDiff, reduceCtorEq, Nat.reduceBEq, opLen.eq_1, xindex.eq_1, xslice.eq_1, Int.toNat_natCast, u1, f1, hch]
      refine Rcall_pure (hex17_spec _) (by rfl) fun y hy => ?_
      obtain ⟨hx, rfl⟩ := hy
      cases h0 : leI 0 hx with
      | false =>
        simp -implicitDefEqProofs only [↓yP, yT, Nat.reduceAdd, Nat.reduceMul, Nat.reduceSub, Nat.reduceLeDiff, Nat.reduceEqDiff, reduceCtorEq, Nat.reduceBEq, h0, Nat.reduceLT]
        exact .no rfl
      | true =>
        simp -implicitDefEqProofs only [↓yP, yT, Nat.reduceAdd, Nat.reduceMul, Nat.reduceSub, Nat.reduceLeDiff, Nat.reduceEqDiff, reduceCtorEq, Nat.reduceBEq, h0]
        clear u1 f1 hch h0
        have hj : i = 0 ∨ i = 1 ∨ i = 2 ∨ i = 3 ∨ i = 4 ∨ i = 5 ∨ i = 6 ∨ i = 7 := by omega
        rcases hj with rfl | rfl | rfl | rfl | rfl | rfl | rfl | rfl
        · have f1 : (0 : Int) ≤ ((0 : Nat) : Int) := by omega
          have f3 : ((0 : Nat) : Int).tmod 2 = 0 := rfl
          have f4 : IntKind.wrap .i64 (((0 : Nat) : Int).tdiv 2) = ((0 : Nat) : Int) := rfl
          have f5 : (0 : Int) ≤ ((0 : Nat) : Int) := by omega
          have f6 : ((0 : Nat) : Int) < ((4 : Nat) : Int) := by omega
          have f7 : eqI 0 0 = true := rfl
          have z2 : ((2 : Int) = 0) = False := by simp
          have w1 : wrapK .i64 (((0 : Nat) : Int) + 1) = ((0 + 1 : Nat) : Int) := rfl
          simp -implicitDefEqProofs only [↓yP, yT, Nat.reduceAdd, Nat.reduceMul, Nat.reduceSub, Nat.reduceLeDiff, Nat.reduceEqDiff, reduceCtorEq, Nat.reduceBEq, opLen.eq_1, xindex.eq_1, xslice.eq_1, Int.toNat_natCast, t6, f1, f3, f4, f5, f6, f7, z2, w1, Nat.reduceLT]
          refine ⟨dd - 1, [0, 1, 2], by omega, by decide, pinned_zero _, 0 + 1, (wrapK .i64 (16 * hx)), b, c, dq, by (simp only [yE, Nat.reduceEqDiff, Nat.reduceAdd, reduceCtorEq]; try rfl), by (simp only [yE, Nat.reduceEqDiff, Nat.reduceAdd, reduceCtorEq]; try rfl), by omega⟩
        · have f1 : (0 : Int) ≤ ((1 : Nat) : Int) := by omega
          have f3 : ((1 : Nat) : Int).tmod 2 = 1 := rfl
          have f4 : IntKind.wrap .i64 (((1 : Nat) : Int).tdiv 2) = ((0 : Nat) : Int) := rfl
          have f5 : (0 : Int) ≤ ((0 : Nat) : Int) := by omega
          have f6 : ((0 : Nat) : Int) < ((4 : Nat) : Int) := by omega
          have f7 : eqI 1 0 = false := rfl
          have z2 : ((2 : Int) = 0) = False := by simp
          have w1 : wrapK .i64 (((1 : Nat) : Int) + 1) = ((1 + 1 : Nat) : Int) := rfl
          simp -implicitDefEqProofs only [↓yP, yT, Nat.reduceAdd, Nat.reduceMul, Nat.reduceSub, Nat.reduceLeDiff, Nat.reduceEqDiff, reduceCtorEq, Nat.reduceBEq, opLen.eq_1, xindex.eq_1, xslice.eq_1, Int.toNat_natCast, t6, f1, f3, f4, f5, f6, f7, z2, w1, Nat.reduceLT]
          refine ⟨dd - 1, [0, 1, 2], by omega, by decide, pinned_zero _, 1 + 1, (wrapK .i64 (a + hx)), b, c, dq, by (simp only [yE, Nat.reduceEqDiff, Nat.reduceAdd, reduceCtorEq]; try rfl), by (simp only [yE, Nat.reduceEqDiff, Nat.reduceAdd, reduceCtorEq]; try rfl), by omega⟩
        · have f1 : (0 : Int) ≤ ((2 : Nat) : Int) := by omega
          have f3 : ((2 : Nat) : Int).tmod 2 = 0 := rfl
          have f4 : IntKind.wrap .i64 (((2 : Nat) : Int).tdiv 2) = ((1 : Nat) : Int) := rfl
          have f5 : (0 : Int) ≤ ((1 : Nat) : Int) := by omega
          have f6 : ((1 : Nat) : Int) < ((4 : Nat) : Int) := by omega
          have f7 : eqI 0 0 = true := rfl
          have z2 : ((2 : Int) = 0) = False := by simp
          have w1 : wrapK .i64 (((2 : Nat) : Int) + 1) = ((2 + 1 : Nat) : Int) := rfl
          simp -implicitDefEqProofs only [↓yP, yT, Nat.reduceAdd, Nat.reduceMul, Nat.reduceSub, Nat.reduceLeDiff, Nat.reduceEqDiff, reduceCtorEq, Nat.reduceBEq, opLen.eq_1, xindex.eq_1, xslice.eq_1, Int.toNat_natCast, t6, f1, f3, f4, f5, f6, f7, z2, w1, Nat.reduceLT]
          refine ⟨dd - 1, [0, 1, 2], by omega, by decide, pinned_zero _, 2 + 1, a, (wrapK .i64 (16 * hx)), c, dq, by (simp only [yE, Nat.reduceEqDiff, Nat.reduceAdd, reduceCtorEq]; try rfl), by (simp only [yE, Nat.reduceEqDiff, Nat.reduceAdd, reduceCtorEq]; try rfl), by omega⟩
        · have f1 : (0 : Int) ≤ ((3 : Nat) : Int) := by omega
          have f3 : ((3 : Nat) : Int).tmod 2 = 1 := rfl
          have f4 : IntKind.wrap .i64 (((3 : Nat) : Int).tdiv 2) = ((1 : Nat) : Int) := rfl
          have f5 : (0 : Int) ≤ ((1 : Nat) : Int) := by omega
          have f6 : ((1 : Nat) : Int) < ((4 : Nat) : Int) := by omega
          have f7 : eqI 1 0 = false := rfl
          have z2 : ((2 : Int) = 0) = False := by simp
          have w1 : wrapK .i64 (((3 : Nat) : Int) + 1) = ((3 + 1 : Nat) : Int) := rfl
          simp -implicitDefEqProofs only [↓yP, yT, Nat.reduceAdd, Nat.reduceMul, Nat.reduceSub, Nat.reduceLeDiff, Nat.reduceEqDiff, reduceCtorEq, Nat.reduceBEq, opLen.eq_1, xindex.eq_1, xslice.eq_1, Int.toNat_natCast, t6, f1, f3, f4, f5, f6, f7, z2, w1, Nat.reduceLT]
          refine ⟨dd - 1, [0, 1, 2], by omega, by decide, pinned_zero _, 3 + 1, a, (wrapK .i64 (b + hx)), c, dq, by (simp only [yE, Nat.reduceEqDiff, Nat.reduceAdd, reduceCtorEq]; try rfl), by (simp only [yE, Nat.reduceEqDiff, Nat.reduceAdd, reduceCtorEq]; try rfl), by omega⟩
        · have f1 : (0 : Int) ≤ ((4 : Nat) : Int) := by omega
          have f3 : ((4 : Nat) : Int).tmod 2 = 0 := rfl
          have f4 : IntKind.wrap .i64 (((4 : Nat) : Int).tdiv 2) = ((2 : Nat) : Int) := rfl
          have f5 : (0 : Int) ≤ ((2 : Nat) : Int) := by omega
          have f6 : ((2 : Nat) : Int) < ((4 : Nat) : Int) := by omega
          have f7 : eqI 0 0 = true := rfl
          have z2 : ((2 : Int) = 0) = False := by simp
          have w1 : wrapK .i64 (((4 : Nat) : Int) + 1) = ((4 + 1 : Nat) : Int) := rfl
          simp -implicitDefEqProofs only [↓yP, yT, Nat.reduceAdd, Nat.reduceMul, Nat.reduceSub, Nat.reduceLeDiff, Nat.reduceEqDiff, reduceCtorEq, Nat.reduceBEq, opLen.eq_1, xindex.eq_1, xslice.eq_1, Int.toNat_natCast, t6, f1, f3, f4, f5, f6, f7, z2, w1, Nat.reduceLT]
          refine ⟨dd - 1, [0, 1, 2], by omega, by decide, pinned_zero _, 4 + 1, a, b, (wrapK .i64 (16 * hx)), dq, by (simp only [yE, Nat.reduceEqDiff, Nat.reduceAdd, reduceCtorEq]; try rfl), by (simp only [yE, Nat.reduceEqDiff, Nat.reduceAdd, reduceCtorEq]; try rfl), by omega⟩
        · have f1 : (0 : Int) ≤ ((5 : Nat) : Int) := by omega
          have f3 : ((5 : Nat) : Int).tmod 2 = 1 := rfl
          have f4 : IntKind.wrap .i64 (((5 : Nat) : Int).tdiv 2) = ((2 : Nat) : Int) := rfl
          have f5 : (0 : Int) ≤ ((2 : Nat) : Int) := by omega
          have f6 : ((2 : Nat) : Int) < ((4 : Nat) : Int) := by omega
          have f7 : eqI 1 0 = false := rfl
          have z2 : ((2 : Int) = 0) = False := by simp
          have w1 : wrapK .i64 (((5 : Nat) : Int) + 1) = ((5 + 1 : Nat) : Int) := rfl
          simp -implicitDefEqProofs only [↓yP, yT, Nat.reduceAdd, Nat.reduceMul, Nat.reduceSub, Nat.reduceLeDiff, Nat.reduceEqDiff, reduceCtorEq, Nat.reduceBEq, opLen.eq_1, xindex.eq_1, xslice.eq_1, Int.toNat_natCast, t6, f1, f3, f4, f5, f6, f7, z2, w1, Nat.reduceLT]
          refine ⟨dd - 1, [0, 1, 2], by omega, by decide, pinned_zero _, 5 + 1, a, b, (wrapK .i64 (c + hx)), dq, by (simp only [yE, Nat.reduceEqDiff, Nat.reduceAdd, reduceCtorEq]; try rfl), by (simp only [yE, Nat.reduceEqDiff, Nat.reduceAdd, reduceCtorEq]; try rfl), by omega⟩
        · have f1 : (0 : Int) ≤ ((6 : Nat) : Int) := by omega
          have f3 : ((6 : Nat) : Int).tmod 2 = 0 := rfl
          have f4 : IntKind.wrap .i64 (((6 : Nat) : Int).tdiv 2) = ((3 : Nat) : Int) := rfl
          have f5 : (0 : Int) ≤ ((3 : Nat) : Int) := by omega
          have f6 : ((3 : Nat) : Int) < ((4 : Nat) : Int) := by omega
          have f7 : eqI 0 0 = true := rfl
          have z2 : ((2 : Int) = 0) = False := by simp
          have w1 : wrapK .i64 (((6 : Nat) : Int) + 1) = ((6 + 1 : Nat) : Int) := rfl
          simp -implicitDefEqProofs only [↓yP, yT, Nat.reduceAdd, Nat.reduceMul, Nat.reduceSub, Nat.reduceLeDiff, Nat.reduceEqDiff, reduceCtorEq, Nat.reduceBEq, opLen.eq_1, xindex.eq_1, xslice.eq_1, Int.toNat_natCast, t6, f1, f3, f4, f5, f6, f7, z2, w1, Nat.reduceLT]
          refine ⟨dd - 1, [0, 1, 2], by omega, by decide, pinned_zero _, 6 + 1, a, b, c, (wrapK .i64 (16 * hx)), by (simp only [yE, Nat.reduceEqDiff, Nat.reduceAdd, reduceCtorEq]; try rfl), by (simp only [yE, Nat.reduceEqDiff, Nat.reduceAdd, reduceCtorEq]; try rfl), by omega⟩
        · have f1 : (0 : Int) ≤ ((7 : Nat) : Int) := by omega
          have f3 : ((7 : Nat) : Int).tmod 2 = 1 := rfl
          have f4 : IntKind.wrap .i64 (((7 : Nat) : Int).tdiv 2) = ((3 : Nat) : Int) := rfl
          have f5 : (0 : Int) ≤ ((3 : Nat) : Int) := by omega
          have f6 : ((3 : Nat) : Int) < ((4 : Nat) : Int) := by omega
          have f7 : eqI 1 0 = false := rfl
          have z2 : ((2 : Int) = 0) = False := by simp
          have w1 : wrapK .i64 (((7 : Nat) : Int) + 1) = ((7 + 1 : Nat) : Int) := rfl
          simp -implicitDefEqProofs only [↓yP, yT, Nat.reduceAdd, Nat.reduceMul, Nat.reduceSub, Nat.reduceLeDiff, Nat.reduceEqDiff, reduceCtorEq, Nat.reduceBEq, opLen.eq_1, xindex.eq_1, xslice.eq_1, Int.toNat_natCast, t6, f1, f3, f4, f5, f6, f7, z2, w1, Nat.reduceLT]
          refine ⟨dd - 1, [0, 1, 2], by omega, by decide, pinned_zero _, 7 + 1, a, b, c, (wrapK .i64 (dq + hx)), by (simp only [yE, Nat.reduceEqDiff, Nat.reduceAdd, reduceCtorEq]; try rfl), by (simp only [yE, Nat.reduceEqDiff, Nat.reduceAdd, reduceCtorEq]; try rfl), by omega⟩
    · have u1 : leI ((strOf t.text).length : Nat) (i : Nat) = true := leI_true (by omega)
      simp -implicitDefEqProofs only [↓yP, yT, Nat.reduceAdd, Nat.reduceMul, Nat.reduceSub, Nat.reduceLeDiff, Nat.reduceEqDiff, reduceCtorEq, Nat.reduceBEq, u1, Nat.reduceLT]
      exact ⟨_, _, _, _, true, rfl, fun _ => .inr (of_eqT q4)⟩
  | false =>
  cases n8 : eqI ((strOf t.text).length : Nat) 8 with
  | true =>
    have hn := of_eqT n8
    have t6 : leI 6 ((strOf t.text).length : Nat) = true := leI_true (by omega)
    simp -implicitDefEqProofs only [↓yP, yT, Nat.reduceAdd, Nat.reduceMul, Nat.reduceSub, Nat.reduceLeDiff, Nat.reduceEqDiff, reduceCtorEq, Nat.reduceBEq, opLen.eq_1, q1, q4, n3, n4, n6, n8, Nat.reduceLT]
    refine Rl_inv (fun d e st => ∃ (i : Nat) (a b c dq : Int), e = ([.c .top, .c (.ptr 0 0 0 0), .c (.ptr 1 0 0 0), .c .top, yd (.int .i64 ((strOf t.text).length : Nat)), .c (.ptr 2 0 0 0), yd (.int .i64 (i : Nat)), .c .top, .c .top, .c .top, .c .top, .c .top, .c .top, .c .top, .c .top, .c .top, .c .top, .c .top, .c .top, .c .top, .c .top, .c .top, .c .top, .c .top, .c .top, .c .top, .c .top, .c .top, .c .top, .c .top, .c .top, .c .top, .c .top, .c .top, .c .top, .c .top, .c .top, .c .top, .c .top, .c .top, .c .top, .c .top, .c .top, .c .top, .c .top, .c .top, .c .top, .c .top, .c .top, .c .top, .c .top, .c .top, .c .top, .c .top, .c .top, .c .top, .c .top, .c .top, .c .top, .c .top, .c .top, .c .top, .c .top, .c .top, .c .top, .c .top, .c .top, .c .top, .c .top, .c .top, .c .top, .c .top, .c .top, .c .top, .c .top, .c .top, .c .top, .c .top, .c .top]) ∧ st = [.box t.cs, .box [.p (.d (.int .i64 0)), .p (.d (.int .i64 0)), .p (.d (.int .i64 0)), .p (.d (.int .i64 0))], .box [.p (.d (.int .i64 a)), .p (.d (.int .i64 b)), .p (.d (.int .i64 c)), .p (.d (.int .i64 dq))]] ∧ i + d = (strOf t.text).length) [false, true, true, false, true, true, true] (strOf t.text).length [0, 1, 2] (by decide) (pinned_zero _) ⟨0, 0, 0, 0, 255, by (simp only [yE, Nat.reduceEqDiff, Nat.reduceAdd, reduceCtorEq]; try rfl), by (simp only [yE, Nat.reduceEqDiff, Nat.reduceAdd, reduceCtorEq]; try rfl), by omega⟩ ?_
    rintro dd e st ⟨i, a, b, c, dq, rfl, rfl, hd⟩
    by_cases hi : i < (strOf t.text).length
    · obtain ⟨ch, hch⟩ := get_lt hi
      have u1 : leI ((strOf t.text).length : Nat) (i : Nat) = false := leI_false (by omega)
      have f1 : (0 : Int) ≤ (i : Nat) := by omega
      simp only [Tok.cs, Tok.pc, List.map_cons, List.map_nil]
      simp -implicitDefEqProofs only [↓yP, yT, Nat.reduceAdd, Nat.reduceMul, Nat.reduceSub, Nat.reduceLeDiff, Nat.reduceEqDiff, reduceCtorEq, Nat.reduceBEq, opLen.eq_1, xindex.eq_1, xslice.eq_1, Int.toNat_natCast, u1, f1, hch]
      refine Rcall_pure (hex17_spec _) (by rfl) fun y hy => ?_
      obtain ⟨hx, rfl⟩ := hy
      cases h0 : leI 0 hx with
      | false =>
        simp -implicitDefEqProofs only [↓yP, yT, Nat.reduceAdd, Nat.reduceMul, Nat.reduceSub, Nat.reduceLeDiff, Nat.reduceEqDiff, reduceCtorEq, Nat.reduceBEq, h0, Nat.reduceLT]
        exact .no rfl
      | true =>
        simp -implicitDefEqProofs only [↓yP, yT, Nat.reduceAdd, Nat.reduceMul, Nat.reduceSub, Nat.reduceLeDiff, Nat.reduceEqDiff, reduceCtorEq, Nat.reduceBEq, h0]
        clear u1 f1 hch h0
        have hj : i = 0 ∨ i = 1 ∨ i = 2 ∨ i = 3 ∨ i = 4 ∨ i = 5 ∨ i = 6 ∨ i = 7 := by omega
        rcases hj with rfl | rfl | rfl | rfl | rfl | rfl | rfl | rfl
        · have f1 : (0 : Int) ≤ ((0 : Nat) : Int) := by omega
          have f3 : ((0 : Nat) : Int).tmod 2 = 0 := rfl
          have f4 : IntKind.wrap .i64 (((0 : Nat) : Int).tdiv 2) = ((0 : Nat) : Int) := rfl
          have f5 : (0 : Int) ≤ ((0 : Nat) : Int) := by omega
          have f6 : ((0 : Nat) : Int) < ((4 : Nat) : Int) := by omega
          have f7 : eqI 0 0 = true := rfl
          have z2 : ((2 : Int) = 0) = False := by simp
          have w1 : wrapK .i64 (((0 : Nat) : Int) + 1) = ((0 + 1 : Nat) : Int) := rfl
          simp -implicitDefEqProofs only [↓yP, yT, Nat.reduceAdd, Nat.reduceMul, Nat.reduceSub, Nat.reduceLeDiff, Nat.reduceEqDiff, reduceCtorEq, Nat.reduceBEq, opLen.eq_1, xindex.eq_1, xslice.eq_1, Int.toNat_natCast, t6, f1, f3, f4, f5, f6, f7, z2, w1, Nat.reduceLT]
          refine ⟨dd - 1, [0, 1, 2], by omega, by decide, pinned_zero _, 0 + 1, (wrapK .i64 (16 * hx)), b, c, dq, by (simp only [yE, Nat.reduceEqDiff, Nat.reduceAdd, reduceCtorEq]; try rfl), by (simp only [yE, Nat.reduceEqDiff, Nat.reduceAdd, reduceCtorEq]; try rfl), by omega⟩
        · have f1 : (0 : Int) ≤ ((1 : Nat) : Int) := by omega
          have f3 : ((1 : Nat) : Int).tmod 2 = 1 := rfl
          have f4 : IntKind.wrap .i64 (((1 : Nat) : Int).tdiv 2) = ((0 : Nat) : Int) := rfl
          have f5 : (0 : Int) ≤ ((0 : Nat) : Int) := by omega
          have f6 : ((0 : Nat) : Int) < ((4 : Nat) : Int) := by omega
          have f7 : eqI 1 0 = false := rfl
          have z2 : ((2 : Int) = 0) = False := by simp
          have w1 : wrapK .i64 (((1 : Nat) : Int) + 1) = ((1 + 1 : Nat) : Int) := rfl
          simp -implicitDefEqProofs only [↓yP, yT, Nat.reduceAdd, Nat.reduceMul, Nat.reduceSub, Nat.reduceLeDiff, Nat.reduceEqDiff, reduceCtorEq, Nat.reduceBEq, opLen.eq_1, xindex.eq_1, xslice.eq_1, Int.toNat_natCast, t6, f1, f3, f4, f5, f6, f7, z2, w1, Nat.reduceLT]
          refine ⟨dd - 1, [0, 1, 2], by omega, by decide, pinned_zero _, 1 + 1, (wrapK .i64 (a + hx)), b, c, dq, by (simp only [yE, Nat.reduceEqDiff, Nat.reduceAdd, reduceCtorEq]; try rfl), by (simp only [yE, Nat.reduceEqDiff, Nat.reduceAdd, reduceCtorEq]; try rfl), by omega⟩
        · have f1 : (0 : Int) ≤ ((2 : Nat) : Int) := by omega
          have f3 : ((2 : Nat) : Int).tmod 2 = 0 := rfl
          have f4 : IntKind.wrap .i64 (((2 : Nat) : Int).tdiv 2) = ((1 : Nat) : Int) := rfl
          have f5 : (0 : Int) ≤ ((1 : Nat) : Int) := by omega
          have f6 : ((1 : Nat) : Int) < ((4 : Nat) : Int) := by omega
          have f7 : eqI 0 0 = true := rfl
          have z2 : ((2 : Int) = 0) = False := by simp
          have w1 : wrapK .i64 (((2 : Nat) : Int) + 1) = ((2 + 1 : Nat) : Int) := rfl
          simp -implicitDefEqProofs only [↓yP, yT, Nat.reduceAdd, Nat.reduceMul, Nat.reduceSub, Nat.reduceLeDiff, Nat.reduceEqDiff, reduceCtorEq, Nat.reduceBEq, opLen.eq_1, xindex.eq_1, xslice.eq_1, Int.toNat_natCast, t6, f1, f3, f4, f5, f6, f7, z2, w1, Nat.reduceLT]
          refine ⟨dd - 1, [0, 1, 2], by omega, by decide, pinned_zero _, 2 + 1, a, (wrapK .i64 (16 * hx)), c, dq, by (simp only [yE, Nat.reduceEqDiff, Nat.reduceAdd, reduceCtorEq]; try rfl), by (simp only [yE, Nat.reduceEqDiff, Nat.reduceAdd, reduceCtorEq]; try rfl), by omega⟩
        · have f1 : (0 : Int) ≤ ((3 : Nat) : Int) := by omega
          have f3 : ((3 : Nat) : Int).tmod 2 = 1 := rfl
          have f4 : IntKind.wrap .i64 (((3 : Nat) : Int).tdiv 2) = ((1 : Nat) : Int) := rfl
          have f5 : (0 : Int) ≤ ((1 : Nat) : Int) := by omega
          have f6 : ((1 : Nat) : Int) < ((4 : Nat) : Int) := by omega
          have f7 : eqI 1 0 = false := rfl
          have z2 : ((2 : Int) = 0) = False := by simp
          have w1 : wrapK .i64 (((3 : Nat) : Int) + 1) = ((3 + 1 : Nat) : Int) := rfl
          simp -implicitDefEqProofs only [↓yP, yT, Nat.reduceAdd, Nat.reduceMul, Nat.reduceSub, Nat.reduceLeDiff, Nat.reduceEqDiff, reduceCtorEq, Nat.reduceBEq, opLen.eq_1, xindex.eq_1, xslice.eq_1, Int.toNat_natCast, t6, f1, f3, f4, f5, f6, f7, z2, w1, Nat.reduceLT]
          refine ⟨dd - 1, [0, 1, 2], by omega, by decide, pinned_zero _, 3 + 1, a, (wrapK .i64 (b + hx)), c, dq, by (simp only [yE, Nat.reduceEqDiff, Nat.reduceAdd, reduceCtorEq]; try rfl), by (simp only [yE, Nat.reduceEqDiff, Nat.reduceAdd, reduceCtorEq]; try rfl), by omega⟩
        · have f1 : (0 : Int) ≤ ((4 : Nat) : Int) := by omega
          have f3 : ((4 : Nat) : Int).tmod 2 = 0 := rfl
          have f4 : IntKind.wrap .i64 (((4 : Nat) : Int).tdiv 2) = ((2 : Nat) : Int) := rfl
          have f5 : (0 : Int) ≤ ((2 : Nat) : Int) := by omega
          have f6 : ((2 : Nat) : Int) < ((4 : Nat) : Int) := by omega
          have f7 : eqI 0 0 = true := rfl
          have z2 : ((2 : Int) = 0) = False := by simp
          have w1 : wrapK .i64 (((4 : Nat) : Int) + 1) = ((4 + 1 : Nat) : Int) := rfl
          simp -implicitDefEqProofs only [↓yP, yT, Nat.reduceAdd, Nat.reduceMul, Nat.reduceSub, Nat.reduceLeDiff, Nat.reduceEqDiff, reduceCtorEq, Nat.reduceBEq, opLen.eq_1, xindex.eq_1, xslice.eq_1, Int.toNat_natCast, t6, f1, f3, f4, f5, f6, f7, z2, w1, Nat.reduceLT]
          refine ⟨dd - 1, [0, 1, 2], by omega, by decide, pinned_zero _, 4 + 1, a, b, (wrapK .i64 (16 * hx)), dq, by (simp only [yE, Nat.reduceEqDiff, Nat.reduceAdd, reduceCtorEq]; try rfl), by (simp only [yE, Nat.reduceEqDiff, Nat.reduceAdd, reduceCtorEq]; try rfl), by omega⟩
        · have f1 : (0 : Int) ≤ ((5 : Nat) : Int) := by omega
          have f3 : ((5 : Nat) : Int).tmod 2 = 1 := rfl
          have f4 : IntKind.wrap .i64 (((5 : Nat) : Int).tdiv 2) = ((2 : Nat) : Int) := rfl
          have f5 : (0 : Int) ≤ ((2 : Nat) : Int) := by omega
          have f6 : ((2 : Nat) : Int) < ((4 : Nat) : Int) := by omega
          have f7 : eqI 1 0 = false := rfl
          have z2 : ((2 : Int) = 0) = False := by simp
          have w1 : wrapK .i64 (((5 : Nat) : Int) + 1) = ((5 + 1 : Nat) : Int) := rfl
          simp -implicitDefEqProofs only [↓yP, yT, Nat.reduceAdd, Nat.reduceMul, Nat.reduceSub, Nat.reduceLeDiff, Nat.reduceEqDiff, reduceCtorEq, Nat.reduceBEq, opLen.eq_1, xindex.eq_1, xslice.eq_1, Int.toNat_natCast, t6, f1, f3, f4, f5, f6, f7, z2, w1, Nat.reduceLT]
          refine ⟨dd - 1, [0, 1, 2], by omega, by decide, pinned_zero _, 5 + 1, a, b, (wrapK .i64 (c + hx)), dq, by (simp only [yE, Nat.reduceEqDiff, Nat.reduceAdd, reduceCtorEq]; try rfl), by (simp only [yE, Nat.reduceEqDiff, Nat.reduceAdd, reduceCtorEq]; try rfl), by omega⟩
        · have f1 : (0 : Int) ≤ ((6 : Nat) : Int) := by omega
          have f3 : ((6 : Nat) : Int).tmod 2 = 0 := rfl
          have f4 : IntKind.wrap .i64 (((6 : Nat) : Int).tdiv 2) = ((3 : Nat) : Int) := rfl
          have f5 : (0 : Int) ≤ ((3 : Nat) : Int) := by omega
          have f6 : ((3 : Nat) : Int) < ((4 : Nat) : Int) := by omega
          have f7 : eqI 0 0 = true := rfl
          have z2 : ((2 : Int) = 0) = False := by simp
          have w1 : wrapK .i64 (((6 : Nat) : Int) + 1) = ((6 + 1 : Nat) : Int) := rfl
          simp -implicitDefEqProofs only [↓yP, yT, Nat.reduceAdd, Nat.reduceMul, Nat.reduceSub, Nat.reduceLeDiff, Nat.reduceEqDiff, reduceCtorEq, Nat.reduceBEq, opLen.eq_1, xindex.eq_1, xslice.eq_1, Int.toNat_natCast, t6, f1, f3, f4, f5, f6, f7, z2, w1, Nat.reduceLT]
          refine ⟨dd - 1, [0, 1, 2], by omega, by decide, pinned_zero _, 6 + 1, a, b, c, (wrapK .i64 (16 * hx)), by (simp only [yE, Nat.reduceEqDiff, Nat.reduceAdd, reduceCtorEq]; try rfl), by (simp only [yE, Nat.reduceEqDiff, Nat.reduceAdd, reduceCtorEq]; try rfl), by omega⟩
        · have f1 : (0 : Int) ≤ ((7 : Nat) : Int) := by omega
          have f3 : ((7 : Nat) : Int).tmod 2 = 1 := rfl
          have f4 : IntKind.wrap .i64 (((7 : Nat) : Int).tdiv 2) = ((3 : Nat) : Int) := rfl
          have f5 : (0 : Int) ≤ ((3 : Nat) : Int) := by omega
          have f6 : ((3 : Nat) : Int) < ((4 : Nat) : Int) := by omega
          have f7 : eqI 1 0 = false := rfl
          have z2 : ((2 : Int) = 0) = False := by simp
          have w1 : wrapK .i64 (((7 : Nat) : Int) + 1) = ((7 + 1 : Nat) : Int) := rfl
          simp -implicitDefEqProofs only [↓yP, yT, Nat.reduceAdd, Nat.reduceMul, Nat.reduceSub, Nat.reduceLeDiff, Nat.reduceEqDiff, reduceCtorEq, Nat.reduceBEq, opLen.eq_1, xindex.eq_1, xslice.eq_1, Int.toNat_natCast, t6, f1, f3, f4, f5, f6, f7, z2, w1, Nat.reduceLT]
          refine ⟨dd - 1, [0, 1, 2], by omega, by decide, pinned_zero _, 7 + 1, a, b, c, (wrapK .i64 (dq + hx)), by (simp only [yE, Nat.reduceEqDiff, Nat.reduceAdd, reduceCtorEq]; try rfl), by (simp only [yE, Nat.reduceEqDiff, Nat.reduceAdd, reduceCtorEq]; try rfl), by omega⟩
    · have u1 : leI ((strOf t.text).length : Nat) (i : Nat) = true := leI_true (by omega)
      simp -implicitDefEqProofs only [↓yP, yT, Nat.reduceAdd, Nat.reduceMul, Nat.reduceSub, Nat.reduceLeDiff, Nat.reduceEqDiff, reduceCtorEq, Nat.reduceBEq, u1, Nat.reduceLT]
      exact ⟨_, _, _, _, true, rfl, fun _ => .inr (of_eqT q4)⟩
  | false =>
    simp -implicitDefEqProofs only [↓yP, yT, Nat.reduceAdd, Nat.reduceMul, Nat.reduceSub, Nat.reduceLeDiff, Nat.reduceEqDiff, reduceCtorEq, Nat.reduceBEq, opLen.eq_1, q1, q4, n3, n4, n6, n8, Nat.reduceLT]
    exact .no rfl
end Go.Vx.Seat
end
/- Colours, marked. -/
section
open Go Go.Vx Go.Proofs
set_option linter.unusedSimpArgs false
set_option linter.unusedVariables false
set_option maxRecDepth 20000
set_option maxHeartbeats 4000000
namespace Go.Vx.Seat
attribute [local congr] Rg_at Rt_at Ro_at Ri_at Rc_at Rto_at Rtk_at Rtf_at Rti_at
attribute [local irreducible] Rg Rt Ro Ri Rc Rto Rtk Rtf Rti Rw Rl Rd Rcall Rtcall kf
theorem fn30 : nth C1.P.funcs.toList 30 = some Try.f30 := by kernel_rfl
theorem fn17 : nth C1.P.funcs.toList 17 = some Try.f17 := by kernel_rfl
theorem colonsTo_mem {ts : List Tok} {n : Nat} {c : Int} (h : c ∈ colonsTo ts n) : ∃ k : Nat, c = (k : Nat) ∧ k < n ∧ docColon ts k = true := by
  simp only [colonsTo, List.mem_map, List.mem_filter, List.mem_range] at h
  obtain ⟨k, ⟨h1, h3⟩, h2⟩ := h
  exact ⟨k, h2.symm, h1, h3⟩
def colTok (a b c d f : Int) : Tok := ⟨26, ⟨#[]⟩, ⟨#[]⟩, false, ⟨#[]⟩, ⟨#[]⟩, false, false, a, b, c, d, f⟩
/-- Tokens, some names and hashes of them turned to colours. -/
def Marked (l out : List Tok) : Prop := out.length = l.length ∧ ∀ (i : Nat) (t : Tok), l[i]? = some t → ∃ u : Tok, out[i]? = some u ∧ (u = t ∨ ((t.kind = 1 ∨ t.kind = 4) ∧ u.kind = 26 ∧ u.start = t.start ∧ ∃ c, c < i ∧ docColon l c = true))
theorem Marked.refl (l : List Tok) : Marked l l := ⟨rfl, fun i t h => ⟨t, h, .inl rfl⟩⟩
theorem Marked.set {l out : List Tok} (h : Marked l out) {k : Nat} {t : Tok} {a b c d : Int} (ht : l[k]? = some t) (hk : t.kind = 1 ∨ t.kind = 4) (hc : ∃ c, c < k ∧ docColon l c = true) : Marked l (out.set k (colTok a b c d t.start)) := by
  refine ⟨by simp [h.1], fun i v hv => ?_⟩
  by_cases hik : i = k
  · subst hik
    rw [ht] at hv; cases hv
    have : i < out.length := by rw [h.1]; exact (List.getElem?_eq_some_iff.mp ht).1
    exact ⟨colTok a b c d t.start, by rw [List.getElem?_set]; simp [this], .inr ⟨hk, rfl, rfl, hc⟩⟩
  · obtain ⟨u, hu, h2⟩ := h.2 i v hv
    exact ⟨u, by rw [List.getElem?_set, if_neg (Ne.symm hik)]; exact hu, h2⟩
theorem mark_spec (l : List Tok) (hl : l.length ≤ 1000000) (htx : ∀ t, t ∈ l → (strOf t.text).length ≤ 10000000) : PCall C1 30 [.c (.p (rT l))] fun y => ∃ out : List Tok, y = .c (.p (rT out)) ∧ Marked l out := by
  have b0 : l.length * 128 ≤ 70368744177664 := by omega
  have hcl := colonsTo_length l l.length
  refine Pf (by rfl) (by rfl) fn30 (by rfl) ?_
  simp only [Try.f30, List.length_cons, List.length_nil, List.replicate, List.cons_append, List.nil_append]
  simp -implicitDefEqProofs only [↓yP, yT, Nat.reduceAdd, Nat.reduceMul, Nat.reduceSub, Nat.reduceLeDiff, Nat.reduceEqDiff, reduceCtorEq, Nat.reduceBEq, b0]
  refine Rcall_pure (colons_spec l hl) (by rfl) fun y hy => ?_
  subst hy
  simp -implicitDefEqProofs only [↓yP, yT, Nat.reduceAdd, Nat.reduceMul, Nat.reduceSub, Nat.reduceLeDiff, Nat.reduceEqDiff, reduceCtorEq, Nat.reduceBEq]
  refine Rcall_pure (nest_spec l hl) (by rfl) fun y hy => ?_
  subst hy
  have hcm : ∀ c, c ∈ colonsTo l l.length → ∃ k : Nat, c = (k : Nat) ∧ k < l.length ∧ docColon l k = true := fun c hc => colonsTo_mem hc
  generalize colonsTo l l.length = cs at hcl hcm ⊢
  simp -implicitDefEqProofs only [↓yP, yT, Nat.reduceAdd, Nat.reduceMul, Nat.reduceSub, Nat.reduceLeDiff, Nat.reduceEqDiff, reduceCtorEq, Nat.reduceBEq]
  refine Rl_inv (fun d e s => ∃ (i : Nat) (out : List Tok), e = ([.c (.p (rT l)), .c .top, .c .top, .c (.own 0 13 0 l.length), .c (.p (rI cs)), .c (.p (rII (nest l))), yd (.int .i64 (i : Nat)), .c .top, .c .top, .c .top, .c .top, .c .top, .c .top, .c .top, .c .top, .c .top, .c .top, .c .top, .c .top, .c .top, .c .top, .c .top, .c .top, .c .top, .c .top, .c .top, .c .top, .c .top, .c .top, .c .top, .c .top, .c .top, .c .top, .c .top, .c .top, .c .top, .c .top, .c .top, .c .top, .c .top, .c .top, .c .top, .c .top, .c .top, .c .top, .c .top, .c .top, .c .top, .c .top, .c .top, .c .top, .c .top, .c .top, .c .top, .c .top, .c .top, .c .top, .c .top, .c .top, .c .top, .c .top, .c .top, .c .top, .c .top, .c .top, .c .top, .c .top, .c .top, .c .top, .c .top, .c .top, .c .top, .c .top, .c .top, .c .top, .c .top, .c .top, .c .top, .c .top, .c .top, .c .top, .c .top, .c .top, .c .top, .c .top, .c .top, .c .top, .c .top, .c .top, .c .top, .c .top, .c .top, .c .top, .c .top, .c .top, .c .top, .c .top, .c .top, .c .top, .c .top, .c .top, .c .top, .c .top, .c .top, .c .top]) ∧ s = [.row 13 (out.map Tok.pc)] ∧ i + d = cs.length ∧ Marked l out) [true, false, false, true, true, true, true] cs.length [0] (by decide) (pinned_zero _) ⟨0, l, by (simp only [yE, Nat.reduceEqDiff, Nat.reduceAdd, reduceCtorEq]; try rfl), by (simp only [yE, Nat.reduceEqDiff, Nat.reduceAdd, reduceCtorEq]; try rfl), by omega, .refl l⟩ ?_
  rintro d e s ⟨i, out, rfl, rfl, hd, hm⟩
  by_cases hi : i < cs.length
  · obtain ⟨c, hc⟩ := get_lt hi
    obtain ⟨at', rfl, hatl, hatd⟩ := hcm c (List.mem_of_getElem? hc)
    have t1 : leI (cs.length : Nat) (i : Nat) = false := leI_false (by omega)
    have w1 : wrapK .i64 ((i : Int) + 1) = ((i + 1 : Nat) : Int) := wrap_succ (by omega)
    have wa : wrapK .i64 ((at' : Int) + 1) = ((at' + 1 : Nat) : Int) := wrap_succ (by omega)
    have wb : wrapK .i64 ((at' : Int) - 1) = (at' : Int) - 1 := wrap_int (by omega) (by omega)
    simp -implicitDefEqProofs only [↓yP, yT, Nat.reduceAdd, Nat.reduceMul, Nat.reduceSub, Nat.reduceLeDiff, Nat.reduceEqDiff, reduceCtorEq, Nat.reduceBEq, t1, get_map hc, ei, nn, wb]
    refine Rl_inv (fun d1 e s => ∃ (j : Nat), e = ([.c (.p (rT l)), .c .top, .c .top, .c (.own 0 13 0 l.length), .c (.p (rI cs)), .c (.p (rII (nest l))), yd (.int .i64 (i : Nat)), yd (.int .i64 (at' : Nat)), yd (.int .i64 ((j : Int) - 1)), .c .top, .c .top, .c .top, .c .top, .c .top, .c .top, .c .top, .c .top, .c .top, .c .top, .c .top, .c .top, .c .top, .c .top, .c .top, .c .top, .c .top, .c .top, .c .top, .c .top, .c .top, .c .top, .c .top, .c .top, .c .top, .c .top, .c .top, .c .top, .c .top, .c .top, .c .top, .c .top, .c .top, .c .top, .c .top, .c .top, .c .top, .c .top, .c .top, .c .top, .c .top, .c .top, .c .top, .c .top, .c .top, .c .top, .c .top, .c .top, .c .top, .c .top, .c .top, .c .top, .c .top, .c .top, .c .top, .c .top, .c .top, .c .top, .c .top, .c .top, .c .top, .c .top, .c .top, .c .top, .c .top, .c .top, .c .top, .c .top, .c .top, .c .top, .c .top, .c .top, .c .top, .c .top, .c .top, .c .top, .c .top, .c .top, .c .top, .c .top, .c .top, .c .top, .c .top, .c .top, .c .top, .c .top, .c .top, .c .top, .c .top, .c .top, .c .top, .c .top, .c .top, .c .top, .c .top, .c .top]) ∧ s = [.row 13 (out.map Tok.pc)] ∧ j = d1 ∧ j ≤ at') [true, false, false, true, true, true, true, true, true] at' [0] (by decide) (pinned_zero _) ⟨at', by (simp only [yE, Nat.reduceEqDiff, Nat.reduceAdd, reduceCtorEq]; try rfl), by (simp only [yE, Nat.reduceEqDiff, Nat.reduceAdd, reduceCtorEq]; try rfl), rfl, by omega⟩ ?_
    rintro d1 e s ⟨j, rfl, rfl, hj1, hj2⟩
    cases j with
    | zero =>
      have t3 : leI 0 (((0 : Nat) : Int) - 1) = false := leI_false (by omega)
      simp -implicitDefEqProofs only [↓yP, yT, Nat.reduceAdd, Nat.reduceMul, Nat.reduceSub, Nat.reduceLeDiff, Nat.reduceEqDiff, reduceCtorEq, Nat.reduceBEq, t3, w1]
      refine ⟨d - 1, [0], by omega, by decide, pinned_zero _, i + 1, out, by (simp only [yE, Nat.reduceEqDiff, Nat.reduceAdd, reduceCtorEq]; try rfl), by (simp only [yE, Nat.reduceEqDiff, Nat.reduceAdd, reduceCtorEq]; try rfl), by omega, hm⟩
    | succ j =>
      have e7 : ((j + 1 : Nat) : Int) - 1 = (j : Nat) := by omega
      have t3 : leI 0 (j : Nat) = true := leI_true (by omega)
      have w8 : wrapK .i64 ((j : Int) - 1) = (j : Int) - 1 := wrap_int (by omega) (by omega)
      obtain ⟨v, hv⟩ := get_lt (show j < l.length by omega)
      rw [e7]
      simp -implicitDefEqProofs only [↓yP, yT, Nat.reduceAdd, Nat.reduceMul, Nat.reduceSub, Nat.reduceLeDiff, Nat.reduceEqDiff, reduceCtorEq, Nat.reduceBEq, t3, get_map hv, Tok.pc, nn]
      refine Rcall_pure (quiet_spec v) (by rfl) fun y hy => ?_
      subst hy
      cases hq : quiet v.kind with
      | true =>
        simp -implicitDefEqProofs only [↓yP, yT, Nat.reduceAdd, Nat.reduceMul, Nat.reduceSub, Nat.reduceLeDiff, Nat.reduceEqDiff, reduceCtorEq, Nat.reduceBEq, w8]
        refine ⟨d1 - 1, [0], by omega, by decide, pinned_zero _, j, by (simp only [yE, Nat.reduceEqDiff, Nat.reduceAdd, reduceCtorEq]; try rfl), by (simp only [yE, Nat.reduceEqDiff, Nat.reduceAdd, reduceCtorEq]; try rfl), by omega, by omega⟩
      | false =>
        simp -implicitDefEqProofs only [↓yP, yT, Nat.reduceAdd, Nat.reduceMul, Nat.reduceSub, Nat.reduceLeDiff, Nat.reduceEqDiff, reduceCtorEq, Nat.reduceBEq, t3, get_map hv, Tok.pc, nn]
        refine Rcall_pure (coloured_spec v.text (htx v (List.mem_of_getElem? hv))) (by rfl) fun y hy => ?_
        obtain ⟨b, rfl⟩ := hy
        cases b with
        | false =>
          simp -implicitDefEqProofs only [↓yP, yT, Nat.reduceAdd, Nat.reduceMul, Nat.reduceSub, Nat.reduceLeDiff, Nat.reduceEqDiff, reduceCtorEq, Nat.reduceBEq, w1]
          refine ⟨d - 1, [0], by omega, by decide, pinned_zero _, i + 1, out, by (simp only [yE, Nat.reduceEqDiff, Nat.reduceAdd, reduceCtorEq]; try rfl), by (simp only [yE, Nat.reduceEqDiff, Nat.reduceAdd, reduceCtorEq]; try rfl), by omega, hm⟩
        | true =>
          simp -implicitDefEqProofs only [↓yP, yT, Nat.reduceAdd, Nat.reduceMul, Nat.reduceSub, Nat.reduceLeDiff, Nat.reduceEqDiff, reduceCtorEq, Nat.reduceBEq, wa]
          refine Rl_inv (fun d2 e s => ∃ (k : Nat) (out : List Tok), e = ([.c (.p (rT l)), .c .top, .c .top, .c (.own 0 13 0 l.length), .c (.p (rI cs)), .c (.p (rII (nest l))), yd (.int .i64 (i : Nat)), yd (.int .i64 (at' : Nat)), .c .top, yd (.int .i64 (k : Nat)), .c .top, .c .top, .c .top, .c .top, .c .top, .c .top, .c .top, .c .top, .c .top, .c .top, .c .top, .c .top, .c .top, .c .top, .c .top, .c .top, .c .top, .c .top, .c .top, .c .top, .c .top, .c .top, .c .top, .c .top, .c .top, .c .top, .c .top, .c .top, .c .top, .c .top, .c .top, .c .top, .c .top, .c .top, .c .top, .c .top, .c .top, .c .top, .c .top, .c .top, .c .top, .c .top, .c .top, .c .top, .c .top, .c .top, .c .top, .c .top, .c .top, .c .top, .c .top, .c .top, .c .top, .c .top, .c .top, .c .top, .c .top, .c .top, .c .top, .c .top, .c .top, .c .top, .c .top, .c .top, .c .top, .c .top, .c .top, .c .top, .c .top, .c .top, .c .top, .c .top, .c .top, .c .top, .c .top, .c .top, .c .top, .c .top, .c .top, .c .top, .c .top, .c .top, .c .top, .c .top, .c .top, .c .top, .c .top, .c .top, .c .top, .c .top, .c .top, .c .top, .c .top, .c .top, .c .top]) ∧ s = [.row 13 (out.map Tok.pc)] ∧ k + d2 = l.length ∧ at' < k ∧ Marked l out) [true, false, false, true, true, true, true, true, false, true] (l.length - (at' + 1)) [0] (by decide) (pinned_zero _) ⟨at' + 1, out, by (simp only [yE, Nat.reduceEqDiff, Nat.reduceAdd, reduceCtorEq]; try rfl), by (simp only [yE, Nat.reduceEqDiff, Nat.reduceAdd, reduceCtorEq]; try rfl), by omega, by omega, hm⟩ ?_
          rintro d2 e s ⟨k, out, rfl, rfl, hk, hak, hm⟩
          by_cases hkl : k < l.length
          · obtain ⟨t, ht⟩ := get_lt hkl
            have hnk := nest_at l hkl
            have hna := nest_at l hatl
            have t2 : leI (l.length : Nat) (k : Nat) = false := leI_false (by omega)
            have v1 : wrapK .i64 ((k : Int) + 1) = ((k + 1 : Nat) : Int) := wrap_succ (by omega)
            simp -implicitDefEqProofs only [↓yP, yT, Nat.reduceAdd, Nat.reduceMul, Nat.reduceSub, Nat.reduceLeDiff, Nat.reduceEqDiff, reduceCtorEq, Nat.reduceBEq, t2]
            refine Rd_calm (by rw [C1_P]; kernel_rfl) ?_
            cases h5 : eqI ((openAt l k).length : Nat) ((openAt l at').length : Nat) with
            | false =>
              simp -implicitDefEqProofs only [↓yP, yT, Nat.reduceAdd, Nat.reduceMul, Nat.reduceSub, Nat.reduceLeDiff, Nat.reduceEqDiff, reduceCtorEq, Nat.reduceBEq, get_map hnk, get_map hna, e2, h5, v1, nn]
              refine ⟨d2 - 1, [0], by omega, by decide, pinned_zero _, k + 1, out, by (simp only [yE, Nat.reduceEqDiff, Nat.reduceAdd, reduceCtorEq]; try rfl), by (simp only [yE, Nat.reduceEqDiff, Nat.reduceAdd, reduceCtorEq]; try rfl), by omega, by omega, hm⟩
            | true =>
              cases h6 : eqI t.kind 17 with
              | true =>
                simp -implicitDefEqProofs only [↓yP, yT, Nat.reduceAdd, Nat.reduceMul, Nat.reduceSub, Nat.reduceLeDiff, Nat.reduceEqDiff, reduceCtorEq, Nat.reduceBEq, get_map hnk, get_map hna, e2, h5, nn, get_map ht, Tok.pc, h6, w1]
                refine ⟨d - 1, [0], by omega, by decide, pinned_zero _, i + 1, out, by (simp only [yE, Nat.reduceEqDiff, Nat.reduceAdd, reduceCtorEq]; try rfl), by (simp only [yE, Nat.reduceEqDiff, Nat.reduceAdd, reduceCtorEq]; try rfl), by omega, hm⟩
              | false =>
              cases h7 : eqI t.kind 20 with
              | true =>
                simp -implicitDefEqProofs only [↓yP, yT, Nat.reduceAdd, Nat.reduceMul, Nat.reduceSub, Nat.reduceLeDiff, Nat.reduceEqDiff, reduceCtorEq, Nat.reduceBEq, get_map hnk, get_map hna, e2, h5, nn, get_map ht, Tok.pc, h6, h7, w1]
                refine ⟨d - 1, [0], by omega, by decide, pinned_zero _, i + 1, out, by (simp only [yE, Nat.reduceEqDiff, Nat.reduceAdd, reduceCtorEq]; try rfl), by (simp only [yE, Nat.reduceEqDiff, Nat.reduceAdd, reduceCtorEq]; try rfl), by omega, hm⟩
              | false =>
                simp -implicitDefEqProofs only [↓yP, yT, Nat.reduceAdd, Nat.reduceMul, Nat.reduceSub, Nat.reduceLeDiff, Nat.reduceEqDiff, reduceCtorEq, Nat.reduceBEq, get_map hnk, get_map hna, e2, h5, nn, get_map ht, Tok.pc, h6, h7]
                refine Rcall_pure (readColour_spec t (htx t (List.mem_of_getElem? ht))) (by rfl) fun y hy => ?_
                obtain ⟨a, b, c, q, ok, rfl, hok⟩ := hy
                simp only [c4]
                cases ok with
                | false =>
                  simp -implicitDefEqProofs only [↓yP, yT, Nat.reduceAdd, Nat.reduceMul, Nat.reduceSub, Nat.reduceLeDiff, Nat.reduceEqDiff, reduceCtorEq, Nat.reduceBEq, v1, Nat.reduceLT]
                  refine ⟨d2 - 1, [0], by omega, by decide, pinned_zero _, k + 1, out, by (simp only [yE, Nat.reduceEqDiff, Nat.reduceAdd, reduceCtorEq]; try rfl), by (simp only [yE, Nat.reduceEqDiff, Nat.reduceAdd, reduceCtorEq]; try rfl), by omega, by omega, hm⟩
                | true =>
                  obtain ⟨u, hu, _⟩ := hm.2 k t ht
                  have c1 : (0 : Int) ≤ (k : Nat) := by omega
                  have c2 : ((k : Nat) : Int) < (l.length : Nat) := by omega
                  simp -implicitDefEqProofs only [↓yP, yT, Nat.reduceAdd, Nat.reduceMul, Nat.reduceSub, Nat.reduceLeDiff, Nat.reduceEqDiff, reduceCtorEq, Nat.reduceBEq, Nat.reduceLT]
                  refine Rd_trace ?_
                  simp -implicitDefEqProofs only [↓yP, yT, Nat.reduceAdd, Nat.reduceMul, Nat.reduceSub, Nat.reduceLeDiff, Nat.reduceEqDiff, reduceCtorEq, Nat.reduceBEq, rdOf, tgOf, get_map ht, get_map hu, Tok.pc, nn, c1, c2, v1, Nat.reduceLT]
                  refine ⟨d2 - 1, [0], by omega, by decide, pinned_zero _, k + 1, out.set k (colTok a b c q t.start), by (simp only [yE, Nat.reduceEqDiff, Nat.reduceAdd, reduceCtorEq]; try rfl), ?_, by omega, by omega, hm.set ht (hok rfl) ⟨at', hak, hatd⟩⟩
                  simp only [yE, Nat.reduceEqDiff, Nat.reduceAdd, reduceCtorEq, List.map_set]; rfl
          · have t2 : leI (l.length : Nat) (k : Nat) = true := leI_true (by omega)
            simp -implicitDefEqProofs only [↓yP, yT, Nat.reduceAdd, Nat.reduceMul, Nat.reduceSub, Nat.reduceLeDiff, Nat.reduceEqDiff, reduceCtorEq, Nat.reduceBEq, t2, w1]
            refine ⟨d - 1, [0], by omega, by decide, pinned_zero _, i + 1, out, by (simp only [yE, Nat.reduceEqDiff, Nat.reduceAdd, reduceCtorEq]; try rfl), by (simp only [yE, Nat.reduceEqDiff, Nat.reduceAdd, reduceCtorEq]; try rfl), by omega, hm⟩
  · have t1 : leI (cs.length : Nat) (i : Nat) = true := leI_true (by omega)
    have hol := hm.1
    have hlt : l.length ≤ out.length := by omega
    have htk : (out.map Tok.pc).take l.length = out.map Tok.pc := List.take_of_length_le (by simp; omega)
    simp -implicitDefEqProofs only [↓yP, yT, Nat.reduceAdd, Nat.reduceMul, Nat.reduceSub, Nat.reduceLeDiff, Nat.reduceEqDiff, reduceCtorEq, Nat.reduceBEq, t1, htk, hlt]
    exact ⟨out, rfl, hm⟩
end Go.Vx.Seat
end
/- A style sheet's tokens. -/
section
open Go Go.Vx Go.Proofs
set_option linter.unusedSimpArgs false
set_option linter.unusedVariables false
set_option maxRecDepth 20000
set_option maxHeartbeats 4000000
namespace Go.Vx.Seat
attribute [local congr] Rg_at Rt_at Ro_at Ri_at Rc_at Rto_at Rtk_at Rtf_at Rti_at
attribute [local irreducible] Rg Rt Ro Ri Rc Rto Rtk Rtf Rti Rw Rl Rd Rcall Rtcall kf
def signTok (k a : Int) : Tok := ⟨k, ⟨#[]⟩, ⟨#[]⟩, false, ⟨#[]⟩, ⟨#[]⟩, false, false, 0, 0, 0, 0, a⟩
theorem live_spec : PCall C1 8 [] fun y => y = yd (.bool true) := PCall_told0 (by rfl) (by rfl)
theorem Lexed.each {l : List Rn} {i : Nat} {ts : List Tok} (h : Lexed l i ts) : ∀ t, t ∈ ts → (strOf t.text).length ≤ 4 * l.length ∧ (16 ≤ t.kind → t.kind ≤ 24 → t = signTok t.kind t.start) := by
  induction h with
  | nil => intro t ht; simp at ht
  | @snoc i k ts x t h1 h2 h3 h4 h5 h6 ih =>
    intro u hu
    rcases List.mem_append.mp hu with hu | hu
    · exact ih u hu
    · rw [List.mem_singleton.mp hu]
      refine ⟨h5.text, fun a b => ?_⟩
      have := h5.sign a b
      show { t with start := x.a } = signTok t.kind x.a
      generalize t.kind = kk at this
      rw [this]; rfl
/-- What the tokens of bytes are. -/
structure CssOf (bs : List Int) (out : List Tok) : Prop where
  len : out.length ≤ bs.length
  signs : ∀ t, t ∈ out → 16 ≤ t.kind → t.kind ≤ 24 → t = signTok t.kind t.start
  how : ∃ (rs : List Rn) (ts vs : List Tok), (Asc bs → rs = ascR bs bs.length) ∧ Lexed rs rs.length ts ∧ ((∀ t, t ∈ ts → quiet t.kind = false) → vs = ts) ∧ Marked vs out
theorem css_spec (bs : List Int) (hl : bs.length ≤ 100000) : PCall C1 17 [.c (.p (rB bs))] fun y => ∃ out : List Tok, y = .c (.p (rT out)) ∧ CssOf bs out := by
  refine Pf (by rfl) (by rfl) fn17 (by rfl) ?_
  simp only [Try.f17, List.length_cons, List.length_nil, List.replicate, List.cons_append, List.nil_append]
  simp -implicitDefEqProofs only [↓yP, yT, Nat.reduceAdd, Nat.reduceMul, Nat.reduceSub, Nat.reduceLeDiff, Nat.reduceEqDiff, reduceCtorEq, Nat.reduceBEq]
  refine Rcall_pure (runes_spec bs (by omega)) (by rfl) fun y hy => ?_
  obtain ⟨rs, rfl, hr1, hr2⟩ := hy
  simp -implicitDefEqProofs only [↓yP, yT, Nat.reduceAdd, Nat.reduceMul, Nat.reduceSub, Nat.reduceLeDiff, Nat.reduceEqDiff, reduceCtorEq, Nat.reduceBEq]
  refine Rcall_pure (clex_spec rs (by omega)) (by rfl) fun y hy => ?_
  obtain ⟨ts, rfl, hlx⟩ := hy
  have hlen := hlx.len
  have heach := hlx.each
  simp -implicitDefEqProofs only [↓yP, yT, Nat.reduceAdd, Nat.reduceMul, Nat.reduceSub, Nat.reduceLeDiff, Nat.reduceEqDiff, reduceCtorEq, Nat.reduceBEq]
  refine Rcall_pure (value_spec ts (by omega) (fun t ht => by have := (heach t ht).1; omega)) (by rfl) fun y hy => ?_
  obtain ⟨vs, rfl, hv1, hv2, hv3⟩ := hy
  have hvs : ∀ t, t ∈ vs → (strOf t.text).length ≤ 10000000 ∧ (16 ≤ t.kind → t.kind ≤ 24 → t = signTok t.kind t.start) := fun t ht => by
    rcases hv2 t ht with h | ⟨s, f, h1, h2⟩
    · have := heach t h
      exact ⟨by omega, this.2⟩
    · subst h2
      exact ⟨by show (strOf s).length ≤ _; omega, fun h _ => by have h : 16 ≤ (13 : Int) := h; omega⟩
  simp -implicitDefEqProofs only [↓yP, yT, Nat.reduceAdd, Nat.reduceMul, Nat.reduceSub, Nat.reduceLeDiff, Nat.reduceEqDiff, reduceCtorEq, Nat.reduceBEq]
  refine Rcall_pure (mark_spec vs (by omega) (fun t ht => (hvs t ht).1)) (by rfl) fun y hy => ?_
  obtain ⟨out, rfl, hm⟩ := hy
  simp -implicitDefEqProofs only [↓yP, yT, Nat.reduceAdd, Nat.reduceMul, Nat.reduceSub, Nat.reduceLeDiff, Nat.reduceEqDiff, reduceCtorEq, Nat.reduceBEq]
  refine ⟨out, rfl, by have := hm.1; omega, fun u hu h1 h2 => ?_, rs, ts, vs, hr2, hlx, hv3, hm⟩
  obtain ⟨i, hi⟩ := List.getElem?_of_mem hu
  have hil : i < vs.length := by rw [← hm.1]; exact (List.getElem?_eq_some_iff.mp hi).1
  obtain ⟨t, ht⟩ := get_lt hil
  obtain ⟨u', hu', h3⟩ := hm.2 i t ht
  rw [hi] at hu'
  cases hu'
  rcases h3 with rfl | ⟨_, h4, _⟩
  · exact (hvs u (List.mem_of_getElem? ht)).2 h1 h2
  · omega
end Go.Vx.Seat
end
