/- Texts joined: VyLj VyLk VyLl VyLm VyLn VyLo VyQ1 VyH1 VyH2 VyR1. -/
import Derived.Test.YtbndpenalacjaaaVm38
import Derived.Test.YtbndpenalacjaaaVm36
import Derived.Test.YtbndpenalacjaaaVm37
import Derived.Test.YtbndpenalacjaaaVyLay
import Derived.OpenShut
import Derived.Test.YtbndpenalacjaaaVyLay1
/- What is kept of blanks: the small functions. -/
section
open Go Go.Vx Go.Proofs
set_option linter.unusedSimpArgs false
set_option linter.unusedVariables false
set_option maxRecDepth 10000
set_option maxHeartbeats 8000000
namespace Go.Vx.Seat
attribute [local congr] Rg_at Rt_at Ro_at Ri_at Rc_at Rto_at Rtk_at Rtf_at Rti_at
attribute [local irreducible] Rg Rt Ro Ri Rc Rto Rtk Rtf Rti Rw Rl Rd Rcall Rtcall kf
theorem fn62 : nth C1.P.funcs.toList 62 = some Try.f62 := by kernel_rfl
theorem fn48 : nth C1.P.funcs.toList 48 = some Try.f48 := by kernel_rfl
theorem fn49 : nth C1.P.funcs.toList 49 = some Try.f49 := by kernel_rfl
theorem fn50 : nth C1.P.funcs.toList 50 = some Try.f50 := by kernel_rfl
theorem fn51 : nth C1.P.funcs.toList 51 = some Try.f51 := by kernel_rfl
theorem has_spec (s t : ByteArray) (hs : (strOf s).length ≤ 100000000) (ht : (strOf t).length ≤ 1000) : PCall C1 62 [yd (.string s), yd (.string t)] fun y => ∃ b : Bool, y = yd (.bool b) := by
  refine Pf (by rfl) (by rfl) fn62 (by rfl) ?_
  simp only [Try.f62, List.length_cons, List.length_nil, List.replicate, List.cons_append, List.nil_append]
  simp -implicitDefEqProofs only [↓yP, yT, Nat.reduceAdd, Nat.reduceMul, Nat.reduceSub, Nat.reduceLeDiff, Nat.reduceEqDiff, reduceCtorEq, Nat.reduceBEq]
  refine Rl_inv (fun d e st => ∃ (i : Nat), e = ([yd (.string s), yd (.string t), .c .top, .c .top, .c .top, yd (.int .i64 (i : Nat)), .c .top, .c .top, .c .top, .c .top, .c .top, .c .top, .c .top, .c .top, .c .top, .c .top, .c .top, .c .top, .c .top, .c .top, .c .top, .c .top, .c .top, .c .top]) ∧ st = [] ∧ i + d = (strOf s).length + 1) [true, true, false, false, false, true] ((strOf s).length + 1) [] (by decide) (pinned_zero _) ⟨0, by (simp only [yE, Nat.reduceEqDiff, Nat.reduceAdd, reduceCtorEq]; try rfl), by (simp only [yE, Nat.reduceEqDiff, Nat.reduceAdd, reduceCtorEq]; try rfl), by omega⟩ ?_
  rintro d e st ⟨i, rfl, rfl, hd⟩
  have w1 : wrapK .i64 ((i : Int) + 1) = ((i + 1 : Nat) : Int) := wrap_succ (by omega)
  have w2 : wrapK .i64 ((i : Int) + ((strOf t).length : Nat)) = ((i + (strOf t).length : Nat) : Int) := wrap_nat (i := i + (strOf t).length) (by omega)
  by_cases h : i + (strOf t).length ≤ (strOf s).length
  · have t1 : leI ((i + (strOf t).length : Nat) : Int) ((strOf s).length : Nat) = true := leI_true (by omega)
    have c1 : (0 : Int) ≤ (i : Nat) := by omega
    have c2 : ((i : Nat) : Int) ≤ ((i + (strOf t).length : Nat) : Int) := by omega
    have c3 : ((i + (strOf t).length : Nat) : Int) ≤ ((strOf s).length : Nat) := by omega
    cases h2 : (strOf (strMk (((strOf s).drop i).take (i + (strOf t).length - i))) == strOf t) with
    | true =>
      simp -implicitDefEqProofs only [↓yP, yT, Nat.reduceAdd, Nat.reduceMul, Nat.reduceSub, Nat.reduceLeDiff, Nat.reduceEqDiff, reduceCtorEq, Nat.reduceBEq, opLen.eq_1, xindex.eq_1, xslice.eq_1, Int.toNat_natCast, w2, t1, c1, c2, c3, xstr_eql, h2]
      exact ⟨_, rfl⟩
    | false =>
      simp -implicitDefEqProofs only [↓yP, yT, Nat.reduceAdd, Nat.reduceMul, Nat.reduceSub, Nat.reduceLeDiff, Nat.reduceEqDiff, reduceCtorEq, Nat.reduceBEq, opLen.eq_1, xindex.eq_1, xslice.eq_1, Int.toNat_natCast, w1, w2, t1, c1, c2, c3, xstr_eql, h2]
      refine ⟨d - 1, [], by omega, by decide, pinned_zero _, i + 1, by (simp only [yE, Nat.reduceEqDiff, Nat.reduceAdd, reduceCtorEq]; try rfl), by (simp only [yE, Nat.reduceEqDiff, Nat.reduceAdd, reduceCtorEq]; try rfl), by omega⟩
  · have t1 : leI ((i + (strOf t).length : Nat) : Int) ((strOf s).length : Nat) = false := leI_false (by omega)
    simp -implicitDefEqProofs only [↓yP, yT, Nat.reduceAdd, Nat.reduceMul, Nat.reduceSub, Nat.reduceLeDiff, Nat.reduceEqDiff, reduceCtorEq, Nat.reduceBEq, opLen.eq_1, xindex.eq_1, xslice.eq_1, Int.toNat_natCast, w2, t1]
    exact ⟨_, rfl⟩
theorem keeps_spec (s : ByteArray) (hs : (strOf s).length ≤ 100000000) : PCall C1 48 [yd (.string s)] fun y => ∃ b : Bool, y = yd (.bool b) := by
  have i00 : Int.toNat 0 = 0 := rfl
  have c0 : (0 : Int) ≤ 0 := by omega
  refine Pf (by rfl) (by rfl) fn48 (by rfl) ?_
  simp only [Try.f48, List.length_cons, List.length_nil, List.replicate, List.cons_append, List.nil_append]
  by_cases h : 0 < (strOf s).length
  · obtain ⟨c, hc⟩ := get_lt h
    have t1 : leI ((strOf s).length : Nat) 0 = false := leI_false (by omega)
    cases h1 : eqI (c.toNat : Nat) 33 with
    | true =>
      simp -implicitDefEqProofs only [↓yP, yT, Nat.reduceAdd, Nat.reduceMul, Nat.reduceSub, Nat.reduceLeDiff, Nat.reduceEqDiff, reduceCtorEq, Nat.reduceBEq, opLen.eq_1, xindex.eq_1, xslice.eq_1, Int.toNat_natCast, t1, c0, i00, hc, h1]
      exact ⟨_, rfl⟩
    | false =>
      simp -implicitDefEqProofs only [↓yP, yT, Nat.reduceAdd, Nat.reduceMul, Nat.reduceSub, Nat.reduceLeDiff, Nat.reduceEqDiff, reduceCtorEq, Nat.reduceBEq, opLen.eq_1, xindex.eq_1, xslice.eq_1, Int.toNat_natCast, t1, c0, i00, hc, h1]
      refine Rcall_pure (has_spec s ⟨#[64, 108, 105, 99, 101, 110, 115, 101]⟩ hs (by decide)) (by rfl) fun y hy => ?_
      obtain ⟨b, rfl⟩ := hy
      cases b with
      | true =>
        simp -implicitDefEqProofs only [↓yP, yT, Nat.reduceAdd, Nat.reduceMul, Nat.reduceSub, Nat.reduceLeDiff, Nat.reduceEqDiff, reduceCtorEq, Nat.reduceBEq]
        exact ⟨_, rfl⟩
      | false =>
        simp -implicitDefEqProofs only [↓yP, yT, Nat.reduceAdd, Nat.reduceMul, Nat.reduceSub, Nat.reduceLeDiff, Nat.reduceEqDiff, reduceCtorEq, Nat.reduceBEq]
        refine Rcall_pure (has_spec s ⟨#[64, 112, 114, 101, 115, 101, 114, 118, 101]⟩ hs (by decide)) (by rfl) fun y hy => ?_
        obtain ⟨b, rfl⟩ := hy
        simp -implicitDefEqProofs only [↓yP, yT, Nat.reduceAdd, Nat.reduceMul, Nat.reduceSub, Nat.reduceLeDiff, Nat.reduceEqDiff, reduceCtorEq, Nat.reduceBEq]
        exact ⟨_, rfl⟩
  · have t1 : leI ((strOf s).length : Nat) 0 = true := leI_true (by omega)
    simp -implicitDefEqProofs only [↓yP, yT, Nat.reduceAdd, Nat.reduceMul, Nat.reduceSub, Nat.reduceLeDiff, Nat.reduceEqDiff, reduceCtorEq, Nat.reduceBEq, opLen.eq_1, xindex.eq_1, xslice.eq_1, Int.toNat_natCast, t1]
    refine Rcall_pure (has_spec s ⟨#[64, 108, 105, 99, 101, 110, 115, 101]⟩ hs (by decide)) (by rfl) fun y hy => ?_
    obtain ⟨b, rfl⟩ := hy
    cases b with
    | true =>
      simp -implicitDefEqProofs only [↓yP, yT, Nat.reduceAdd, Nat.reduceMul, Nat.reduceSub, Nat.reduceLeDiff, Nat.reduceEqDiff, reduceCtorEq, Nat.reduceBEq]
      exact ⟨_, rfl⟩
    | false =>
      simp -implicitDefEqProofs only [↓yP, yT, Nat.reduceAdd, Nat.reduceMul, Nat.reduceSub, Nat.reduceLeDiff, Nat.reduceEqDiff, reduceCtorEq, Nat.reduceBEq]
      refine Rcall_pure (has_spec s ⟨#[64, 112, 114, 101, 115, 101, 114, 118, 101]⟩ hs (by decide)) (by rfl) fun y hy => ?_
      obtain ⟨b, rfl⟩ := hy
      simp -implicitDefEqProofs only [↓yP, yT, Nat.reduceAdd, Nat.reduceMul, Nat.reduceSub, Nat.reduceLeDiff, Nat.reduceEqDiff, reduceCtorEq, Nat.reduceBEq]
      exact ⟨_, rfl⟩
theorem line_spec (t : Tok) : PCall C1 49 [t.yv] fun y => ∃ b : Bool, y = yd (.bool b) := by
  refine Pf (by rfl) (by rfl) fn49 (by rfl) ?_
  simp only [Try.f49, List.length_cons, List.length_nil, List.replicate, List.cons_append, List.nil_append]
  simp only [Tok.yv, Tok.cs, Tok.pc, List.map_cons, List.map_nil]
  cases h1 : eqI t.kind 6 <;> cases h2 : eqI t.kind 9 <;> cases h3 : (strOf t.text == strOf ⟨#[92]⟩)
  all_goals
    simp -implicitDefEqProofs only [↓yP, yT, Nat.reduceAdd, Nat.reduceMul, Nat.reduceSub, Nat.reduceLeDiff, Nat.reduceEqDiff, reduceCtorEq, Nat.reduceBEq, h1, h2, h3, xstr_eql]
    exact ⟨_, rfl⟩
theorem before_spec (l : List Tok) (cs : List Int) (i : Int) (hc : cs.length ≤ 100000000) (h1 : i < l.length) : PCall C1 50 [.c (.p (rT l)), .c (.p (rI cs)), yd (.int .i64 i)] fun y => ∃ b : Bool, y = yd (.bool b) := by
  by_cases h0 : 0 ≤ i
  · obtain ⟨n, rfl⟩ := Int.eq_ofNat_of_zero_le h0
    obtain ⟨t, ht⟩ := get_lt (l := l) (i := n) (by omega)
    have t0 : leI 0 (n : Nat) = true := leI_true (by omega)
    refine Pf (by rfl) (by rfl) fn50 (by rfl) ?_
    simp only [Try.f50, List.length_cons, List.length_nil, List.replicate, List.cons_append, List.nil_append]
    simp -implicitDefEqProofs only [↓yP, yT, Nat.reduceAdd, Nat.reduceMul, Nat.reduceSub, Nat.reduceLeDiff, Nat.reduceEqDiff, reduceCtorEq, Nat.reduceBEq, t0, get_map ht, Tok.pc, nn]
    cases q1 : eqI t.kind 19 with
    | true =>
      simp -implicitDefEqProofs only [↓yP, yT, Nat.reduceAdd, Nat.reduceMul, Nat.reduceSub, Nat.reduceLeDiff, Nat.reduceEqDiff, reduceCtorEq, Nat.reduceBEq, q1]
      exact ⟨_, rfl⟩
    | false =>
    cases q2 : eqI t.kind 20 with
    | true =>
      simp -implicitDefEqProofs only [↓yP, yT, Nat.reduceAdd, Nat.reduceMul, Nat.reduceSub, Nat.reduceLeDiff, Nat.reduceEqDiff, reduceCtorEq, Nat.reduceBEq, q1, q2]
      exact ⟨_, rfl⟩
    | false =>
    cases q3 : eqI t.kind 21 with
    | true =>
      simp -implicitDefEqProofs only [↓yP, yT, Nat.reduceAdd, Nat.reduceMul, Nat.reduceSub, Nat.reduceLeDiff, Nat.reduceEqDiff, reduceCtorEq, Nat.reduceBEq, q1, q2, q3]
      exact ⟨_, rfl⟩
    | false =>
    cases q4 : eqI t.kind 2 with
    | true =>
      simp -implicitDefEqProofs only [↓yP, yT, Nat.reduceAdd, Nat.reduceMul, Nat.reduceSub, Nat.reduceLeDiff, Nat.reduceEqDiff, reduceCtorEq, Nat.reduceBEq, q1, q2, q3, q4]
      exact ⟨_, rfl⟩
    | false =>
    cases q5 : eqI t.kind 23 with
    | true =>
      simp -implicitDefEqProofs only [↓yP, yT, Nat.reduceAdd, Nat.reduceMul, Nat.reduceSub, Nat.reduceLeDiff, Nat.reduceEqDiff, reduceCtorEq, Nat.reduceBEq, q1, q2, q3, q4, q5]
      exact ⟨_, rfl⟩
    | false =>
    cases q6 : eqI t.kind 18 with
    | true =>
      simp -implicitDefEqProofs only [↓yP, yT, Nat.reduceAdd, Nat.reduceMul, Nat.reduceSub, Nat.reduceLeDiff, Nat.reduceEqDiff, reduceCtorEq, Nat.reduceBEq, q1, q2, q3, q4, q5, q6]
      exact ⟨_, rfl⟩
    | false =>
    cases q7 : eqI t.kind 17 with
    | true =>
      simp -implicitDefEqProofs only [↓yP, yT, Nat.reduceAdd, Nat.reduceMul, Nat.reduceSub, Nat.reduceLeDiff, Nat.reduceEqDiff, reduceCtorEq, Nat.reduceBEq, q1, q2, q3, q4, q5, q6, q7]
      first
      | exact ⟨_, rfl⟩
      | (refine Rcall_pure (in_spec cs _ hc) (by rfl) fun y hy => ?_
         subst hy
         simp -implicitDefEqProofs only [↓yP, yT, Nat.reduceAdd, Nat.reduceMul, Nat.reduceSub, Nat.reduceLeDiff, Nat.reduceEqDiff, reduceCtorEq, Nat.reduceBEq]
         exact ⟨_, rfl⟩)
    | false =>
    simp -implicitDefEqProofs only [↓yP, yT, Nat.reduceAdd, Nat.reduceMul, Nat.reduceSub, Nat.reduceLeDiff, Nat.reduceEqDiff, reduceCtorEq, Nat.reduceBEq, q1, q2, q3, q4, q5, q6, q7]
    refine Rcall_pure (in_spec cs _ hc) (by rfl) fun y hy => ?_
    subst hy
    simp -implicitDefEqProofs only [↓yP, yT, Nat.reduceAdd, Nat.reduceMul, Nat.reduceSub, Nat.reduceLeDiff, Nat.reduceEqDiff, reduceCtorEq, Nat.reduceBEq]
    exact ⟨_, rfl⟩
  · have t0 : leI 0 i = false := leI_false (by omega)
    refine Pf (by rfl) (by rfl) fn50 (by rfl) ?_
    simp only [Try.f50, List.length_cons, List.length_nil, List.replicate, List.cons_append, List.nil_append]
    simp -implicitDefEqProofs only [↓yP, yT, Nat.reduceAdd, Nat.reduceMul, Nat.reduceSub, Nat.reduceLeDiff, Nat.reduceEqDiff, reduceCtorEq, Nat.reduceBEq, t0]
    exact ⟨_, rfl⟩
theorem after_spec (l : List Tok) (cs : List Int) (n : Nat) (hc : cs.length ≤ 100000000) : PCall C1 51 [.c (.p (rT l)), .c (.p (rI cs)), yd (.int .i64 (n : Nat))] fun y => ∃ b : Bool, y = yd (.bool b) := by
  by_cases h0 : n < l.length
  · obtain ⟨t, ht⟩ := get_lt h0
    have t0 : leI (l.length : Nat) (n : Nat) = false := leI_false (by omega)
    refine Pf (by rfl) (by rfl) fn51 (by rfl) ?_
    simp only [Try.f51, List.length_cons, List.length_nil, List.replicate, List.cons_append, List.nil_append]
    simp -implicitDefEqProofs only [↓yP, yT, Nat.reduceAdd, Nat.reduceMul, Nat.reduceSub, Nat.reduceLeDiff, Nat.reduceEqDiff, reduceCtorEq, Nat.reduceBEq, t0, get_map ht, Tok.pc, nn]
    cases q1 : eqI t.kind 19 with
    | true =>
      simp -implicitDefEqProofs only [↓yP, yT, Nat.reduceAdd, Nat.reduceMul, Nat.reduceSub, Nat.reduceLeDiff, Nat.reduceEqDiff, reduceCtorEq, Nat.reduceBEq, q1]
      exact ⟨_, rfl⟩
    | false =>
    cases q2 : eqI t.kind 20 with
    | true =>
      simp -implicitDefEqProofs only [↓yP, yT, Nat.reduceAdd, Nat.reduceMul, Nat.reduceSub, Nat.reduceLeDiff, Nat.reduceEqDiff, reduceCtorEq, Nat.reduceBEq, q1, q2]
      exact ⟨_, rfl⟩
    | false =>
    cases q3 : eqI t.kind 22 with
    | true =>
      simp -implicitDefEqProofs only [↓yP, yT, Nat.reduceAdd, Nat.reduceMul, Nat.reduceSub, Nat.reduceLeDiff, Nat.reduceEqDiff, reduceCtorEq, Nat.reduceBEq, q1, q2, q3]
      exact ⟨_, rfl⟩
    | false =>
    cases q4 : eqI t.kind 24 with
    | true =>
      simp -implicitDefEqProofs only [↓yP, yT, Nat.reduceAdd, Nat.reduceMul, Nat.reduceSub, Nat.reduceLeDiff, Nat.reduceEqDiff, reduceCtorEq, Nat.reduceBEq, q1, q2, q3, q4]
      exact ⟨_, rfl⟩
    | false =>
    cases q5 : eqI t.kind 18 with
    | true =>
      simp -implicitDefEqProofs only [↓yP, yT, Nat.reduceAdd, Nat.reduceMul, Nat.reduceSub, Nat.reduceLeDiff, Nat.reduceEqDiff, reduceCtorEq, Nat.reduceBEq, q1, q2, q3, q4, q5]
      exact ⟨_, rfl⟩
    | false =>
    cases q6 : eqI t.kind 17 with
    | true =>
      simp -implicitDefEqProofs only [↓yP, yT, Nat.reduceAdd, Nat.reduceMul, Nat.reduceSub, Nat.reduceLeDiff, Nat.reduceEqDiff, reduceCtorEq, Nat.reduceBEq, q1, q2, q3, q4, q5, q6]
      exact ⟨_, rfl⟩
    | false =>
    cases q7 : eqI t.kind 17 with
    | true =>
      simp -implicitDefEqProofs only [↓yP, yT, Nat.reduceAdd, Nat.reduceMul, Nat.reduceSub, Nat.reduceLeDiff, Nat.reduceEqDiff, reduceCtorEq, Nat.reduceBEq, q1, q2, q3, q4, q5, q6, q7]
      first
      | exact ⟨_, rfl⟩
      | (refine Rcall_pure (in_spec cs _ hc) (by rfl) fun y hy => ?_
         subst hy
         simp -implicitDefEqProofs only [↓yP, yT, Nat.reduceAdd, Nat.reduceMul, Nat.reduceSub, Nat.reduceLeDiff, Nat.reduceEqDiff, reduceCtorEq, Nat.reduceBEq]
         exact ⟨_, rfl⟩)
    | false =>
    simp -implicitDefEqProofs only [↓yP, yT, Nat.reduceAdd, Nat.reduceMul, Nat.reduceSub, Nat.reduceLeDiff, Nat.reduceEqDiff, reduceCtorEq, Nat.reduceBEq, q1, q2, q3, q4, q5, q6, q7]
    refine Rcall_pure (in_spec cs _ hc) (by rfl) fun y hy => ?_
    subst hy
    simp -implicitDefEqProofs only [↓yP, yT, Nat.reduceAdd, Nat.reduceMul, Nat.reduceSub, Nat.reduceLeDiff, Nat.reduceEqDiff, reduceCtorEq, Nat.reduceBEq]
    exact ⟨_, rfl⟩
  · have t0 : leI (l.length : Nat) (n : Nat) = true := leI_true (by omega)
    refine Pf (by rfl) (by rfl) fn51 (by rfl) ?_
    simp only [Try.f51, List.length_cons, List.length_nil, List.replicate, List.cons_append, List.nil_append]
    simp -implicitDefEqProofs only [↓yP, yT, Nat.reduceAdd, Nat.reduceMul, Nat.reduceSub, Nat.reduceLeDiff, Nat.reduceEqDiff, reduceCtorEq, Nat.reduceBEq, t0]
    exact ⟨_, rfl⟩
end Go.Vx.Seat
end
/- What tokens come to. -/
section
open Go Go.Vx Go.Proofs
set_option linter.unusedSimpArgs false
set_option linter.unusedVariables false
set_option maxRecDepth 10000
set_option maxHeartbeats 2000000
namespace Go.Vx.Seat
attribute [local congr] Rg_at Rt_at Ro_at Ri_at Rc_at Rto_at Rtk_at Rtf_at Rti_at
attribute [local irreducible] Rg Rt Ro Ri Rc Rto Rtk Rtf Rti Rw Rl Rd Rcall Rtcall kf
theorem fn31 : nth C1.P.funcs.toList 31 = some Try.f31 := by kernel_rfl
/-- A blank. -/
def spTok (s : ByteArray) (f : Int) : Tok := ⟨13, s, ⟨#[]⟩, false, ⟨#[]⟩, ⟨#[]⟩, false, false, 0, 0, 0, 0, f⟩
def OrSp (l : List Tok) (u : Tok) : Prop := u ∈ l ∨ ∃ s f, (strOf s).length ≤ 1 ∧ u = spTok s f
theorem value_spec (l : List Tok) (hl : l.length ≤ 1000000) (htx : ∀ t, t ∈ l → (strOf t.text).length ≤ 100000000) : PCall C1 31 [.c (.p (rT l))] fun y => ∃ out : List Tok, y = .c (.p (rT out)) ∧ out.length ≤ l.length ∧ (∀ u, u ∈ out → OrSp l u) ∧ ((∀ t, t ∈ l → quiet t.kind = false) → out = l) := by
  have hcl := colonsTo_length l l.length
  refine Pf (by rfl) (by rfl) fn31 (by rfl) ?_
  simp only [Try.f31, List.length_cons, List.length_nil, List.replicate, List.cons_append, List.nil_append]
  simp -implicitDefEqProofs only [↓yP, yT, Nat.reduceAdd, Nat.reduceMul, Nat.reduceSub, Nat.reduceLeDiff, Nat.reduceEqDiff, reduceCtorEq, Nat.reduceBEq]
  refine Rcall_pure (colons_spec l hl) (by rfl) fun y hy => ?_
  subst hy
  simp -implicitDefEqProofs only [↓yP, yT, Nat.reduceAdd, Nat.reduceMul, Nat.reduceSub, Nat.reduceLeDiff, Nat.reduceEqDiff, reduceCtorEq, Nat.reduceBEq]
  refine Rl_nil 4 13 (by decide) rfl ?_
  refine Rl_inv (fun d e s => ∃ (i : Nat) (out : List Tok) (la : Int), e = ([.c (.p (rT l)), .c .top, .c .top, .c (.p (rI (colonsTo l l.length))), .c (.own 0 13 0 out.length), yd (.int .i64 la), yd (.int .i64 (i : Nat)), .c .top, .c .top, .c .top, .c .top, .c .top, .c .top, .c .top, .c .top, .c .top, .c .top, .c .top, .c .top, .c .top, .c .top, .c .top, .c .top, .c .top, .c .top, .c .top, .c .top, .c .top, .c .top, .c .top, .c .top, .c .top, .c .top, .c .top, .c .top, .c .top, .c .top, .c .top, .c .top, .c .top, .c .top, .c .top, .c .top, .c .top, .c .top, .c .top, .c .top, .c .top, .c .top, .c .top, .c .top, .c .top, .c .top, .c .top, .c .top, .c .top, .c .top, .c .top, .c .top, .c .top, .c .top, .c .top, .c .top, .c .top, .c .top, .c .top, .c .top, .c .top, .c .top, .c .top, .c .top, .c .top, .c .top, .c .top, .c .top, .c .top, .c .top, .c .top, .c .top, .c .top, .c .top, .c .top, .c .top, .c .top, .c .top, .c .top, .c .top, .c .top, .c .top, .c .top, .c .top, .c .top, .c .top, .c .top, .c .top, .c .top, .c .top, .c .top, .c .top, .c .top, .c .top, .c .top, .c .top, .c .top, .c .top, .c .top, .c .top, .c .top, .c .top, .c .top, .c .top, .c .top, .c .top, .c .top, .c .top, .c .top, .c .top, .c .top, .c .top, .c .top, .c .top, .c .top, .c .top, .c .top, .c .top, .c .top, .c .top, .c .top, .c .top, .c .top, .c .top, .c .top, .c .top, .c .top, .c .top, .c .top, .c .top]) ∧ s = [.row 13 (out.map Tok.pc)] ∧ i + d = l.length ∧ (-1 ≤ la ∧ la < i) ∧ out.length ≤ i ∧ (∀ u, u ∈ out → OrSp l u) ∧ ((∀ t, t ∈ l → quiet t.kind = false) → out = l.take i)) [true, false, false, true, true, true, true] l.length [0] (by decide) (pinned_zero _) ⟨0, [], -1, by (simp only [yE, Nat.reduceEqDiff, Nat.reduceAdd, reduceCtorEq]; try rfl), by (simp only [yE, Nat.reduceEqDiff, Nat.reduceAdd, reduceCtorEq]; try rfl), by omega, by omega, by simp, fun u hu => by simp at hu, fun _ => by simp⟩ ?_
  rintro d e s ⟨i, out, la, rfl, rfl, hd, hla, hol, hval, hex⟩
  by_cases hi : i < l.length
  · obtain ⟨t, ht⟩ := get_lt hi
    have t1 : leI (l.length : Nat) (i : Nat) = false := leI_false (by omega)
    have w1 : wrapK .i64 ((i : Int) + 1) = ((i + 1 : Nat) : Int) := wrap_succ (by omega)
    have b1 : (out.length + 1) * 128 ≤ 70368744177664 := by omega
    simp -implicitDefEqProofs only [↓yP, yT, Nat.reduceAdd, Nat.reduceMul, Nat.reduceSub, Nat.reduceLeDiff, Nat.reduceEqDiff, reduceCtorEq, Nat.reduceBEq, t1, get_map ht, Tok.pc]
    refine Rcall_pure (quiet_spec t) (by rfl) fun y hy => ?_
    subst hy
    cases hqt : quiet t.kind with
    | false =>
      simp -implicitDefEqProofs only [↓yP, yT, Nat.reduceAdd, Nat.reduceMul, Nat.reduceSub, Nat.reduceLeDiff, Nat.reduceEqDiff, reduceCtorEq, Nat.reduceBEq, get_map ht, Tok.pc, b1, w1]
      refine ⟨d - 1, [2], by omega, by decide, pinned_zero _, i + 1, out ++ [t], (i : Nat), by (simp only [yE, Nat.reduceEqDiff, Nat.reduceAdd, reduceCtorEq]; try rfl), ?_, by omega, by omega, by simp; omega, ?_, fun hq => ?_⟩
      · simp only [yE, Nat.reduceEqDiff, Nat.reduceAdd, reduceCtorEq, List.map_append]; rfl
      · intro u hu
        rcases List.mem_append.mp hu with hu | hu
        · exact hval u hu
        · rw [List.mem_singleton.mp hu]; exact .inl (List.mem_of_getElem? ht)
      · rw [hex hq, List.take_add_one, ht]; rfl
    | true =>
      simp -implicitDefEqProofs only [↓yP, yT, Nat.reduceAdd, Nat.reduceMul, Nat.reduceSub, Nat.reduceLeDiff, Nat.reduceEqDiff, reduceCtorEq, Nat.reduceBEq]
      refine Rl_nil 9 13 (by decide) rfl ?_
      refine Rl_inv (fun d' e s => ∃ (k : Nat) (sp : Int) (ks : List Tok), e = ([.c (.p (rT l)), .c .top, .c .top, .c (.p (rI (colonsTo l l.length))), .c (.own 0 13 0 out.length), yd (.int .i64 la), .c .top, yd (.int .i64 (k : Nat)), yd (.int .i64 sp), .c (.own 1 13 0 ks.length), .c .top, .c .top, .c .top, .c .top, .c .top, .c .top, .c .top, .c .top, .c .top, .c .top, .c .top, .c .top, .c .top, .c .top, .c .top, .c .top, .c .top, .c .top, .c .top, .c .top, .c .top, .c .top, .c .top, .c .top, .c .top, .c .top, .c .top, .c .top, .c .top, .c .top, .c .top, .c .top, .c .top, .c .top, .c .top, .c .top, .c .top, .c .top, .c .top, .c .top, .c .top, .c .top, .c .top, .c .top, .c .top, .c .top, .c .top, .c .top, .c .top, .c .top, .c .top, .c .top, .c .top, .c .top, .c .top, .c .top, .c .top, .c .top, .c .top, .c .top, .c .top, .c .top, .c .top, .c .top, .c .top, .c .top, .c .top, .c .top, .c .top, .c .top, .c .top, .c .top, .c .top, .c .top, .c .top, .c .top, .c .top, .c .top, .c .top, .c .top, .c .top, .c .top, .c .top, .c .top, .c .top, .c .top, .c .top, .c .top, .c .top, .c .top, .c .top, .c .top, .c .top, .c .top, .c .top, .c .top, .c .top, .c .top, .c .top, .c .top, .c .top, .c .top, .c .top, .c .top, .c .top, .c .top, .c .top, .c .top, .c .top, .c .top, .c .top, .c .top, .c .top, .c .top, .c .top, .c .top, .c .top, .c .top, .c .top, .c .top, .c .top, .c .top, .c .top, .c .top, .c .top, .c .top, .c .top]) ∧ s = [.row 13 (out.map Tok.pc), .row 13 (ks.map Tok.pc)] ∧ k + d' = l.length ∧ i ≤ k ∧ (sp = -1 ∨ ∃ n : Nat, sp = n ∧ n < l.length ∧ ks.length + 1 ≤ k - i) ∧ ks.length ≤ k - i ∧ (∀ u, u ∈ ks → u ∈ l)) [true, false, false, true, true, true, false, true, true, true] d [0, 1] (by decide) (pinned_zero _) ⟨i, -1, [], by (simp only [yE, Nat.reduceEqDiff, Nat.reduceAdd, reduceCtorEq]; try rfl), by (simp only [yE, Nat.reduceEqDiff, Nat.reduceAdd, reduceCtorEq]; try rfl), by omega, by omega, .inl rfl, by simp, fun u hu => by simp at hu⟩ ?_
      rintro d' e s ⟨k, sp, ks, rfl, rfl, hd', hik, hsp, hkl, hks⟩
      have vb1 : (out.length + ks.length) * 128 ≤ 70368744177664 := by omega
      by_cases hkl2 : k < l.length
      · obtain ⟨u, hu⟩ := get_lt hkl2
        have hum := List.mem_of_getElem? hu
        have t2 : leI (l.length : Nat) (k : Nat) = false := leI_false (by omega)
        have v1 : wrapK .i64 ((k : Int) + 1) = ((k + 1 : Nat) : Int) := wrap_succ (by omega)
        have kb1 : (ks.length + 1) * 128 ≤ 70368744177664 := by omega
        simp -implicitDefEqProofs only [↓yP, yT, Nat.reduceAdd, Nat.reduceMul, Nat.reduceSub, Nat.reduceLeDiff, Nat.reduceEqDiff, reduceCtorEq, Nat.reduceBEq, t2, get_map hu, Tok.pc]
        refine Rcall_pure (quiet_spec u) (by rfl) fun y hy => ?_
        subst hy
        cases hqu : quiet u.kind with
        | true =>
          cases q1 : eqI u.kind 13 with
          | true =>
            have q2 : eqI u.kind 25 = false := eqI_false (by have := of_eqT q1; omega)
            rcases hsp with rfl | ⟨n, rfl, hn, hsl⟩
            · have s0 : leI 0 (-1) = false := rfl
              simp -implicitDefEqProofs only [↓yP, yT, Nat.reduceAdd, Nat.reduceMul, Nat.reduceSub, Nat.reduceLeDiff, Nat.reduceEqDiff, reduceCtorEq, Nat.reduceBEq, get_map hu, Tok.pc, q1, q2, s0, v1]
              refine ⟨d' - 1, [0, 1], by omega, by decide, pinned_zero _, k + 1, (k : Nat), ks, by (simp only [yE, Nat.reduceEqDiff, Nat.reduceAdd, reduceCtorEq]; try rfl), by (simp only [yE, Nat.reduceEqDiff, Nat.reduceAdd, reduceCtorEq]; try rfl), by omega, by omega, .inr ⟨k, rfl, hkl2, by omega⟩, by omega, hks⟩
            · have s0 : leI 0 ((n : Nat) : Int) = true := leI_true (by omega)
              simp -implicitDefEqProofs only [↓yP, yT, Nat.reduceAdd, Nat.reduceMul, Nat.reduceSub, Nat.reduceLeDiff, Nat.reduceEqDiff, reduceCtorEq, Nat.reduceBEq, get_map hu, Tok.pc, q1, q2, s0, v1]
              refine ⟨d' - 1, [0, 1], by omega, by decide, pinned_zero _, k + 1, (n : Nat), ks, by (simp only [yE, Nat.reduceEqDiff, Nat.reduceAdd, reduceCtorEq]; try rfl), by (simp only [yE, Nat.reduceEqDiff, Nat.reduceAdd, reduceCtorEq]; try rfl), by omega, by omega, .inr ⟨n, rfl, hn, by omega⟩, by omega, hks⟩
          | false =>
            have hsp' : sp = -1 ∨ ∃ n : Nat, sp = n ∧ n < l.length ∧ ks.length + 2 ≤ k + 1 - i := hsp.imp (fun h => h) fun ⟨n, a, b, c⟩ => ⟨n, a, b, by omega⟩
            cases q2 : eqI u.kind 25 with
            | true =>
              simp -implicitDefEqProofs only [↓yP, yT, Nat.reduceAdd, Nat.reduceMul, Nat.reduceSub, Nat.reduceLeDiff, Nat.reduceEqDiff, reduceCtorEq, Nat.reduceBEq, get_map hu, Tok.pc, q1, q2]
              refine Rcall_pure (keeps_spec u.text (htx u hum)) (by rfl) fun y hy => ?_
              obtain ⟨b, rfl⟩ := hy
              cases b with
              | true =>
                simp -implicitDefEqProofs only [↓yP, yT, Nat.reduceAdd, Nat.reduceMul, Nat.reduceSub, Nat.reduceLeDiff, Nat.reduceEqDiff, reduceCtorEq, Nat.reduceBEq, get_map hu, Tok.pc, kb1, v1]
                refine ⟨d' - 1, [0, 3], by omega, by decide, pinned_zero _, k + 1, sp, ks ++ [u], by (simp only [yE, Nat.reduceEqDiff, Nat.reduceAdd, reduceCtorEq]; try rfl), ?_, by omega, by omega, hsp'.imp (fun h => h) (fun ⟨n, a, b, c⟩ => ⟨n, a, b, by simp; omega⟩), by simp; omega, ?_⟩
                · simp only [yE, Nat.reduceEqDiff, Nat.reduceAdd, reduceCtorEq, List.map_append]; rfl
                · intro w hw
                  rcases List.mem_append.mp hw with hw | hw
                  · exact hks w hw
                  · rw [List.mem_singleton.mp hw]; exact hum
              | false =>
                simp -implicitDefEqProofs only [↓yP, yT, Nat.reduceAdd, Nat.reduceMul, Nat.reduceSub, Nat.reduceLeDiff, Nat.reduceEqDiff, reduceCtorEq, Nat.reduceBEq, v1]
                refine ⟨d' - 1, [0, 1], by omega, by decide, pinned_zero _, k + 1, sp, ks, by (simp only [yE, Nat.reduceEqDiff, Nat.reduceAdd, reduceCtorEq]; try rfl), by (simp only [yE, Nat.reduceEqDiff, Nat.reduceAdd, reduceCtorEq]; try rfl), by omega, by omega, hsp'.imp (fun h => h) (fun ⟨n, a, b, c⟩ => ⟨n, a, b, by omega⟩), by omega, hks⟩
            | false =>
              simp -implicitDefEqProofs only [↓yP, yT, Nat.reduceAdd, Nat.reduceMul, Nat.reduceSub, Nat.reduceLeDiff, Nat.reduceEqDiff, reduceCtorEq, Nat.reduceBEq, get_map hu, Tok.pc, q1, q2, v1]
              refine ⟨d' - 1, [0, 1], by omega, by decide, pinned_zero _, k + 1, sp, ks, by (simp only [yE, Nat.reduceEqDiff, Nat.reduceAdd, reduceCtorEq]; try rfl), by (simp only [yE, Nat.reduceEqDiff, Nat.reduceAdd, reduceCtorEq]; try rfl), by omega, by omega, hsp'.imp (fun h => h) (fun ⟨n, a, b, c⟩ => ⟨n, a, b, by omega⟩), by omega, hks⟩
        | false =>
          have hik' := ltk hik (fun h => by subst h; rw [ht] at hu; cases hu; rw [hqt] at hqu; cases hqu)
          simp -implicitDefEqProofs only [↓yP, yT, Nat.reduceAdd, Nat.reduceMul, Nat.reduceSub, Nat.reduceLeDiff, Nat.reduceEqDiff, reduceCtorEq, Nat.reduceBEq]
          have hko : ks.length ≤ k - i := by omega
          rcases hsp with rfl | ⟨n, rfl, hn, hsl⟩
          · have s0 : leI 0 (-1) = false := rfl
            simp -implicitDefEqProofs only [↓yP, yT, Nat.reduceAdd, Nat.reduceMul, Nat.reduceSub, Nat.reduceLeDiff, Nat.reduceEqDiff, reduceCtorEq, Nat.reduceBEq, s0, vb1, Nat.reduceLT]
            refine ⟨l.length - k, [3], by omega, by decide, pinned_zero _, k, out ++ ks, la, by (simp only [yE, Nat.reduceEqDiff, Nat.reduceAdd, reduceCtorEq]; try rfl), ?_, by omega, by omega, by simp; omega, ?_, fun hq => by exfalso; rw [hq t (List.mem_of_getElem? ht)] at hqt; cases hqt⟩
            · simp only [yE, Nat.reduceEqDiff, Nat.reduceAdd, reduceCtorEq, List.map_append]; try rfl
            · intro u hu
              rcases List.mem_append.mp hu with hu | hu
              · exact hval u hu
              · exact .inl (hks u hu)
          · have s0 : leI 0 ((n : Nat) : Int) = true := leI_true (by omega)
            obtain ⟨tn, htn⟩ := get_lt hn
            have vb2 : (out.length + 1) * 128 ≤ 70368744177664 := by omega
            have vb3 : (out.length + 1 + ks.length) * 128 ≤ 70368744177664 := by omega
            have vb4 : (out.length + ks.length + 1) * 128 ≤ 70368744177664 := by rw [Nat.add_right_comm]; exact vb3
            by_cases hla0 : 0 ≤ la
            · obtain ⟨m, rfl⟩ := Int.eq_ofNat_of_zero_le hla0
              have s1 : leI 0 ((m : Nat) : Int) = true := leI_true (by omega)
              obtain ⟨tm, htm⟩ := get_lt (l := l) (i := m) (by omega)
              simp -implicitDefEqProofs only [↓yP, yT, Nat.reduceAdd, Nat.reduceMul, Nat.reduceSub, Nat.reduceLeDiff, Nat.reduceEqDiff, reduceCtorEq, Nat.reduceBEq, s0, s1, get_map htn, get_map htm, Tok.pc, Nat.reduceLT]
              refine Rcall_pure (line_spec tm) (by rfl) fun y hy => ?_
              obtain ⟨b, rfl⟩ := hy
              cases b with
              | true =>
                simp -implicitDefEqProofs only [↓yP, yT, Nat.reduceAdd, Nat.reduceMul, Nat.reduceSub, Nat.reduceLeDiff, Nat.reduceEqDiff, reduceCtorEq, Nat.reduceBEq, vb1, vb2, vb3, Nat.reduceLT]
                refine ⟨l.length - k, [5], by omega, by decide, pinned_zero _, k, out ++ [spTok ⟨#[10]⟩ tn.start] ++ ks, (m : Nat), by (simp only [yE, Nat.reduceEqDiff, Nat.reduceAdd, reduceCtorEq]; try rfl), ?_, by omega, by omega, by simp; omega, ?_, fun hq => by exfalso; rw [hq t (List.mem_of_getElem? ht)] at hqt; cases hqt⟩
                · simp only [yE, Nat.reduceEqDiff, Nat.reduceAdd, reduceCtorEq, List.map_append]; try rfl
                · intro u hu
                  simp only [List.mem_append, List.mem_singleton] at hu
                  rcases hu with (hu | hu) | hu
                  · exact hval u hu
                  · exact .inr ⟨_, _, by show 1 ≤ 1; omega, hu⟩
                  · exact .inl (hks u hu)
              | false =>
                generalize hlam : ((m : Nat) : Int) = la at hla hla0 s1 ⊢
                simp -implicitDefEqProofs only [↓yP, yT, Nat.reduceAdd, Nat.reduceMul, Nat.reduceSub, Nat.reduceLeDiff, Nat.reduceEqDiff, reduceCtorEq, Nat.reduceBEq, s0]
                refine Rcall_pure (before_spec l (colonsTo l l.length) la (by omega) (by omega)) (by rfl) fun y hy => ?_
                obtain ⟨b, rfl⟩ := hy
                cases b with
                | true =>
                  simp -implicitDefEqProofs only [↓yP, yT, Nat.reduceAdd, Nat.reduceMul, Nat.reduceSub, Nat.reduceLeDiff, Nat.reduceEqDiff, reduceCtorEq, Nat.reduceBEq, vb1, Nat.reduceLT]
                  refine ⟨l.length - k, [3], by omega, by decide, pinned_zero _, k, out ++ ks, la, by (simp only [yE, Nat.reduceEqDiff, Nat.reduceAdd, reduceCtorEq]; try rfl), ?_, by omega, by omega, by simp; omega, ?_, fun hq => by exfalso; rw [hq t (List.mem_of_getElem? ht)] at hqt; cases hqt⟩
                  · simp only [yE, Nat.reduceEqDiff, Nat.reduceAdd, reduceCtorEq, List.map_append]; try rfl
                  · intro u hu
                    rcases List.mem_append.mp hu with hu | hu
                    · exact hval u hu
                    · exact .inl (hks u hu)
                | false =>
                  simp -implicitDefEqProofs only [↓yP, yT, Nat.reduceAdd, Nat.reduceMul, Nat.reduceSub, Nat.reduceLeDiff, Nat.reduceEqDiff, reduceCtorEq, Nat.reduceBEq]
                  refine Rcall_pure (after_spec l (colonsTo l l.length) k (by omega)) (by rfl) fun y hy => ?_
                  obtain ⟨b, rfl⟩ := hy
                  cases b with
                  | true =>
                    simp -implicitDefEqProofs only [↓yP, yT, Nat.reduceAdd, Nat.reduceMul, Nat.reduceSub, Nat.reduceLeDiff, Nat.reduceEqDiff, reduceCtorEq, Nat.reduceBEq, vb1, Nat.reduceLT]
                    refine ⟨l.length - k, [3], by omega, by decide, pinned_zero _, k, out ++ ks, la, by (simp only [yE, Nat.reduceEqDiff, Nat.reduceAdd, reduceCtorEq]; try rfl), ?_, by omega, by omega, by simp; omega, ?_, fun hq => by exfalso; rw [hq t (List.mem_of_getElem? ht)] at hqt; cases hqt⟩
                    · simp only [yE, Nat.reduceEqDiff, Nat.reduceAdd, reduceCtorEq, List.map_append]; try rfl
                    · intro u hu
                      rcases List.mem_append.mp hu with hu | hu
                      · exact hval u hu
                      · exact .inl (hks u hu)
                  | false =>
                    simp -implicitDefEqProofs only [↓yP, yT, Nat.reduceAdd, Nat.reduceMul, Nat.reduceSub, Nat.reduceLeDiff, Nat.reduceEqDiff, reduceCtorEq, Nat.reduceBEq]
                    refine Rd_trace ?_
                    have tk1 : (out.map Tok.pc ++ ks.map Tok.pc).length = out.length + ks.length := by simp
                    have tk2 : (out.map Tok.pc ++ ks.map Tok.pc).take (out.length + ks.length) = out.map Tok.pc ++ ks.map Tok.pc := List.take_of_length_le (by simp)
                    simp -implicitDefEqProofs only [↓yP, yT, Nat.reduceAdd, Nat.reduceMul, Nat.reduceSub, Nat.reduceLeDiff, Nat.reduceEqDiff, reduceCtorEq, Nat.reduceBEq, rdOf, tgOf, vb1, vb4, tk1, tk2, Nat.reduceLT]
                    refine ⟨l.length - k, [5], by omega, by decide, pinned_zero _, k, out ++ ks ++ [spTok ⟨#[32]⟩ tn.start], la, by (simp only [yE, Nat.reduceEqDiff, Nat.reduceAdd, reduceCtorEq]; try rfl), ?_, by omega, by omega, by simp; omega, ?_, fun hq => by exfalso; rw [hq t (List.mem_of_getElem? ht)] at hqt; cases hqt⟩
                    · simp only [yE, Nat.reduceEqDiff, Nat.reduceAdd, reduceCtorEq, List.map_append]; try rfl
                    · intro u hu
                      simp only [List.mem_append, List.mem_singleton] at hu
                      rcases hu with (hu | hu) | hu
                      · exact hval u hu
                      · exact .inl (hks u hu)
                      · exact .inr ⟨_, _, by show 1 ≤ 1; omega, hu⟩
            · have s1 : leI 0 la = false := leI_false (by omega)
              simp -implicitDefEqProofs only [↓yP, yT, Nat.reduceAdd, Nat.reduceMul, Nat.reduceSub, Nat.reduceLeDiff, Nat.reduceEqDiff, reduceCtorEq, Nat.reduceBEq, s0, s1, get_map htn, Tok.pc, Nat.reduceLT]
              refine Rcall_pure (before_spec l (colonsTo l l.length) la (by omega) (by omega)) (by rfl) fun y hy => ?_
              obtain ⟨b, rfl⟩ := hy
              cases b with
              | true =>
                simp -implicitDefEqProofs only [↓yP, yT, Nat.reduceAdd, Nat.reduceMul, Nat.reduceSub, Nat.reduceLeDiff, Nat.reduceEqDiff, reduceCtorEq, Nat.reduceBEq, vb1, Nat.reduceLT]
                refine ⟨l.length - k, [3], by omega, by decide, pinned_zero _, k, out ++ ks, la, by (simp only [yE, Nat.reduceEqDiff, Nat.reduceAdd, reduceCtorEq]; try rfl), ?_, by omega, by omega, by simp; omega, ?_, fun hq => by exfalso; rw [hq t (List.mem_of_getElem? ht)] at hqt; cases hqt⟩
                · simp only [yE, Nat.reduceEqDiff, Nat.reduceAdd, reduceCtorEq, List.map_append]; try rfl
                · intro u hu
                  rcases List.mem_append.mp hu with hu | hu
                  · exact hval u hu
                  · exact .inl (hks u hu)
              | false =>
                simp -implicitDefEqProofs only [↓yP, yT, Nat.reduceAdd, Nat.reduceMul, Nat.reduceSub, Nat.reduceLeDiff, Nat.reduceEqDiff, reduceCtorEq, Nat.reduceBEq]
                refine Rcall_pure (after_spec l (colonsTo l l.length) k (by omega)) (by rfl) fun y hy => ?_
                obtain ⟨b, rfl⟩ := hy
                cases b with
                | true =>
                  simp -implicitDefEqProofs only [↓yP, yT, Nat.reduceAdd, Nat.reduceMul, Nat.reduceSub, Nat.reduceLeDiff, Nat.reduceEqDiff, reduceCtorEq, Nat.reduceBEq, vb1, Nat.reduceLT]
                  refine ⟨l.length - k, [3], by omega, by decide, pinned_zero _, k, out ++ ks, la, by (simp only [yE, Nat.reduceEqDiff, Nat.reduceAdd, reduceCtorEq]; try rfl), ?_, by omega, by omega, by simp; omega, ?_, fun hq => by exfalso; rw [hq t (List.mem_of_getElem? ht)] at hqt; cases hqt⟩
                  · simp only [yE, Nat.reduceEqDiff, Nat.reduceAdd, reduceCtorEq, List.map_append]; try rfl
                  · intro u hu
                    rcases List.mem_append.mp hu with hu | hu
                    · exact hval u hu
                    · exact .inl (hks u hu)
                | false =>
                  simp -implicitDefEqProofs only [↓yP, yT, Nat.reduceAdd, Nat.reduceMul, Nat.reduceSub, Nat.reduceLeDiff, Nat.reduceEqDiff, reduceCtorEq, Nat.reduceBEq]
                  refine Rd_trace ?_
                  have tk1 : (out.map Tok.pc ++ ks.map Tok.pc).length = out.length + ks.length := by simp
                  have tk2 : (out.map Tok.pc ++ ks.map Tok.pc).take (out.length + ks.length) = out.map Tok.pc ++ ks.map Tok.pc := List.take_of_length_le (by simp)
                  simp -implicitDefEqProofs only [↓yP, yT, Nat.reduceAdd, Nat.reduceMul, Nat.reduceSub, Nat.reduceLeDiff, Nat.reduceEqDiff, reduceCtorEq, Nat.reduceBEq, rdOf, tgOf, vb1, vb4, tk1, tk2, Nat.reduceLT]
                  refine ⟨l.length - k, [5], by omega, by decide, pinned_zero _, k, out ++ ks ++ [spTok ⟨#[32]⟩ tn.start], la, by (simp only [yE, Nat.reduceEqDiff, Nat.reduceAdd, reduceCtorEq]; try rfl), ?_, by omega, by omega, by simp; omega, ?_, fun hq => by exfalso; rw [hq t (List.mem_of_getElem? ht)] at hqt; cases hqt⟩
                  · simp only [yE, Nat.reduceEqDiff, Nat.reduceAdd, reduceCtorEq, List.map_append]; try rfl
                  · intro u hu
                    simp only [List.mem_append, List.mem_singleton] at hu
                    rcases hu with (hu | hu) | hu
                    · exact hval u hu
                    · exact .inl (hks u hu)
                    · exact .inr ⟨_, _, by show 1 ≤ 1; omega, hu⟩
      · have t2 : leI (l.length : Nat) (k : Nat) = true := leI_true (by omega)
        have hik' : i < k := by omega
        simp -implicitDefEqProofs only [↓yP, yT, Nat.reduceAdd, Nat.reduceMul, Nat.reduceSub, Nat.reduceLeDiff, Nat.reduceEqDiff, reduceCtorEq, Nat.reduceBEq, t2]
        have hko : ks.length ≤ k - i := by omega
        rcases hsp with rfl | ⟨n, rfl, hn, hsl⟩
        · have s0 : leI 0 (-1) = false := rfl
          simp -implicitDefEqProofs only [↓yP, yT, Nat.reduceAdd, Nat.reduceMul, Nat.reduceSub, Nat.reduceLeDiff, Nat.reduceEqDiff, reduceCtorEq, Nat.reduceBEq, s0, vb1, Nat.reduceLT]
          refine ⟨l.length - k, [3], by omega, by decide, pinned_zero _, k, out ++ ks, la, by (simp only [yE, Nat.reduceEqDiff, Nat.reduceAdd, reduceCtorEq]; try rfl), ?_, by omega, by omega, by simp; omega, ?_, fun hq => by exfalso; rw [hq t (List.mem_of_getElem? ht)] at hqt; cases hqt⟩
          · simp only [yE, Nat.reduceEqDiff, Nat.reduceAdd, reduceCtorEq, List.map_append]; try rfl
          · intro u hu
            rcases List.mem_append.mp hu with hu | hu
            · exact hval u hu
            · exact .inl (hks u hu)
        · have s0 : leI 0 ((n : Nat) : Int) = true := leI_true (by omega)
          obtain ⟨tn, htn⟩ := get_lt hn
          have vb2 : (out.length + 1) * 128 ≤ 70368744177664 := by omega
          have vb3 : (out.length + 1 + ks.length) * 128 ≤ 70368744177664 := by omega
          have vb4 : (out.length + ks.length + 1) * 128 ≤ 70368744177664 := by rw [Nat.add_right_comm]; exact vb3
          by_cases hla0 : 0 ≤ la
          · obtain ⟨m, rfl⟩ := Int.eq_ofNat_of_zero_le hla0
            have s1 : leI 0 ((m : Nat) : Int) = true := leI_true (by omega)
            obtain ⟨tm, htm⟩ := get_lt (l := l) (i := m) (by omega)
            simp -implicitDefEqProofs only [↓yP, yT, Nat.reduceAdd, Nat.reduceMul, Nat.reduceSub, Nat.reduceLeDiff, Nat.reduceEqDiff, reduceCtorEq, Nat.reduceBEq, s0, s1, get_map htn, get_map htm, Tok.pc, Nat.reduceLT]
            refine Rcall_pure (line_spec tm) (by rfl) fun y hy => ?_
            obtain ⟨b, rfl⟩ := hy
            cases b with
            | true =>
              simp -implicitDefEqProofs only [↓yP, yT, Nat.reduceAdd, Nat.reduceMul, Nat.reduceSub, Nat.reduceLeDiff, Nat.reduceEqDiff, reduceCtorEq, Nat.reduceBEq, vb1, vb2, vb3, Nat.reduceLT]
              refine ⟨l.length - k, [5], by omega, by decide, pinned_zero _, k, out ++ [spTok ⟨#[10]⟩ tn.start] ++ ks, (m : Nat), by (simp only [yE, Nat.reduceEqDiff, Nat.reduceAdd, reduceCtorEq]; try rfl), ?_, by omega, by omega, by simp; omega, ?_, fun hq => by exfalso; rw [hq t (List.mem_of_getElem? ht)] at hqt; cases hqt⟩
              · simp only [yE, Nat.reduceEqDiff, Nat.reduceAdd, reduceCtorEq, List.map_append]; try rfl
              · intro u hu
                simp only [List.mem_append, List.mem_singleton] at hu
                rcases hu with (hu | hu) | hu
                · exact hval u hu
                · exact .inr ⟨_, _, by show 1 ≤ 1; omega, hu⟩
                · exact .inl (hks u hu)
            | false =>
              generalize hlam : ((m : Nat) : Int) = la at hla hla0 s1 ⊢
              simp -implicitDefEqProofs only [↓yP, yT, Nat.reduceAdd, Nat.reduceMul, Nat.reduceSub, Nat.reduceLeDiff, Nat.reduceEqDiff, reduceCtorEq, Nat.reduceBEq, s0]
              refine Rcall_pure (before_spec l (colonsTo l l.length) la (by omega) (by omega)) (by rfl) fun y hy => ?_
              obtain ⟨b, rfl⟩ := hy
              cases b with
              | true =>
                simp -implicitDefEqProofs only [↓yP, yT, Nat.reduceAdd, Nat.reduceMul, Nat.reduceSub, Nat.reduceLeDiff, Nat.reduceEqDiff, reduceCtorEq, Nat.reduceBEq, vb1, Nat.reduceLT]
                refine ⟨l.length - k, [3], by omega, by decide, pinned_zero _, k, out ++ ks, la, by (simp only [yE, Nat.reduceEqDiff, Nat.reduceAdd, reduceCtorEq]; try rfl), ?_, by omega, by omega, by simp; omega, ?_, fun hq => by exfalso; rw [hq t (List.mem_of_getElem? ht)] at hqt; cases hqt⟩
                · simp only [yE, Nat.reduceEqDiff, Nat.reduceAdd, reduceCtorEq, List.map_append]; try rfl
                · intro u hu
                  rcases List.mem_append.mp hu with hu | hu
                  · exact hval u hu
                  · exact .inl (hks u hu)
              | false =>
                simp -implicitDefEqProofs only [↓yP, yT, Nat.reduceAdd, Nat.reduceMul, Nat.reduceSub, Nat.reduceLeDiff, Nat.reduceEqDiff, reduceCtorEq, Nat.reduceBEq]
                refine Rcall_pure (after_spec l (colonsTo l l.length) k (by omega)) (by rfl) fun y hy => ?_
                obtain ⟨b, rfl⟩ := hy
                cases b with
                | true =>
                  simp -implicitDefEqProofs only [↓yP, yT, Nat.reduceAdd, Nat.reduceMul, Nat.reduceSub, Nat.reduceLeDiff, Nat.reduceEqDiff, reduceCtorEq, Nat.reduceBEq, vb1, Nat.reduceLT]
                  refine ⟨l.length - k, [3], by omega, by decide, pinned_zero _, k, out ++ ks, la, by (simp only [yE, Nat.reduceEqDiff, Nat.reduceAdd, reduceCtorEq]; try rfl), ?_, by omega, by omega, by simp; omega, ?_, fun hq => by exfalso; rw [hq t (List.mem_of_getElem? ht)] at hqt; cases hqt⟩
                  · simp only [yE, Nat.reduceEqDiff, Nat.reduceAdd, reduceCtorEq, List.map_append]; try rfl
                  · intro u hu
                    rcases List.mem_append.mp hu with hu | hu
                    · exact hval u hu
                    · exact .inl (hks u hu)
                | false =>
                  simp -implicitDefEqProofs only [↓yP, yT, Nat.reduceAdd, Nat.reduceMul, Nat.reduceSub, Nat.reduceLeDiff, Nat.reduceEqDiff, reduceCtorEq, Nat.reduceBEq]
                  refine Rd_trace ?_
                  have tk1 : (out.map Tok.pc ++ ks.map Tok.pc).length = out.length + ks.length := by simp
                  have tk2 : (out.map Tok.pc ++ ks.map Tok.pc).take (out.length + ks.length) = out.map Tok.pc ++ ks.map Tok.pc := List.take_of_length_le (by simp)
                  simp -implicitDefEqProofs only [↓yP, yT, Nat.reduceAdd, Nat.reduceMul, Nat.reduceSub, Nat.reduceLeDiff, Nat.reduceEqDiff, reduceCtorEq, Nat.reduceBEq, rdOf, tgOf, vb1, vb4, tk1, tk2, Nat.reduceLT]
                  refine ⟨l.length - k, [5], by omega, by decide, pinned_zero _, k, out ++ ks ++ [spTok ⟨#[32]⟩ tn.start], la, by (simp only [yE, Nat.reduceEqDiff, Nat.reduceAdd, reduceCtorEq]; try rfl), ?_, by omega, by omega, by simp; omega, ?_, fun hq => by exfalso; rw [hq t (List.mem_of_getElem? ht)] at hqt; cases hqt⟩
                  · simp only [yE, Nat.reduceEqDiff, Nat.reduceAdd, reduceCtorEq, List.map_append]; try rfl
                  · intro u hu
                    simp only [List.mem_append, List.mem_singleton] at hu
                    rcases hu with (hu | hu) | hu
                    · exact hval u hu
                    · exact .inl (hks u hu)
                    · exact .inr ⟨_, _, by show 1 ≤ 1; omega, hu⟩
          · have s1 : leI 0 la = false := leI_false (by omega)
            simp -implicitDefEqProofs only [↓yP, yT, Nat.reduceAdd, Nat.reduceMul, Nat.reduceSub, Nat.reduceLeDiff, Nat.reduceEqDiff, reduceCtorEq, Nat.reduceBEq, s0, s1, get_map htn, Tok.pc, Nat.reduceLT]
            refine Rcall_pure (before_spec l (colonsTo l l.length) la (by omega) (by omega)) (by rfl) fun y hy => ?_
            obtain ⟨b, rfl⟩ := hy
            cases b with
            | true =>
              simp -implicitDefEqProofs only [↓yP, yT, Nat.reduceAdd, Nat.reduceMul, Nat.reduceSub, Nat.reduceLeDiff, Nat.reduceEqDiff, reduceCtorEq, Nat.reduceBEq, vb1, Nat.reduceLT]
              refine ⟨l.length - k, [3], by omega, by decide, pinned_zero _, k, out ++ ks, la, by (simp only [yE, Nat.reduceEqDiff, Nat.reduceAdd, reduceCtorEq]; try rfl), ?_, by omega, by omega, by simp; omega, ?_, fun hq => by exfalso; rw [hq t (List.mem_of_getElem? ht)] at hqt; cases hqt⟩
              · simp only [yE, Nat.reduceEqDiff, Nat.reduceAdd, reduceCtorEq, List.map_append]; try rfl
              · intro u hu
                rcases List.mem_append.mp hu with hu | hu
                · exact hval u hu
                · exact .inl (hks u hu)
            | false =>
              simp -implicitDefEqProofs only [↓yP, yT, Nat.reduceAdd, Nat.reduceMul, Nat.reduceSub, Nat.reduceLeDiff, Nat.reduceEqDiff, reduceCtorEq, Nat.reduceBEq]
              refine Rcall_pure (after_spec l (colonsTo l l.length) k (by omega)) (by rfl) fun y hy => ?_
              obtain ⟨b, rfl⟩ := hy
              cases b with
              | true =>
                simp -implicitDefEqProofs only [↓yP, yT, Nat.reduceAdd, Nat.reduceMul, Nat.reduceSub, Nat.reduceLeDiff, Nat.reduceEqDiff, reduceCtorEq, Nat.reduceBEq, vb1, Nat.reduceLT]
                refine ⟨l.length - k, [3], by omega, by decide, pinned_zero _, k, out ++ ks, la, by (simp only [yE, Nat.reduceEqDiff, Nat.reduceAdd, reduceCtorEq]; try rfl), ?_, by omega, by omega, by simp; omega, ?_, fun hq => by exfalso; rw [hq t (List.mem_of_getElem? ht)] at hqt; cases hqt⟩
                · simp only [yE, Nat.reduceEqDiff, Nat.reduceAdd, reduceCtorEq, List.map_append]; try rfl
                · intro u hu
                  rcases List.mem_append.mp hu with hu | hu
                  · exact hval u hu
                  · exact .inl (hks u hu)
              | false =>
                simp -implicitDefEqProofs only [↓yP, yT, Nat.reduceAdd, Nat.reduceMul, Nat.reduceSub, Nat.reduceLeDiff, Nat.reduceEqDiff, reduceCtorEq, Nat.reduceBEq]
                refine Rd_trace ?_
                have tk1 : (out.map Tok.pc ++ ks.map Tok.pc).length = out.length + ks.length := by simp
                have tk2 : (out.map Tok.pc ++ ks.map Tok.pc).take (out.length + ks.length) = out.map Tok.pc ++ ks.map Tok.pc := List.take_of_length_le (by simp)
                simp -implicitDefEqProofs only [↓yP, yT, Nat.reduceAdd, Nat.reduceMul, Nat.reduceSub, Nat.reduceLeDiff, Nat.reduceEqDiff, reduceCtorEq, Nat.reduceBEq, rdOf, tgOf, vb1, vb4, tk1, tk2, Nat.reduceLT]
                refine ⟨l.length - k, [5], by omega, by decide, pinned_zero _, k, out ++ ks ++ [spTok ⟨#[32]⟩ tn.start], la, by (simp only [yE, Nat.reduceEqDiff, Nat.reduceAdd, reduceCtorEq]; try rfl), ?_, by omega, by omega, by simp; omega, ?_, fun hq => by exfalso; rw [hq t (List.mem_of_getElem? ht)] at hqt; cases hqt⟩
                · simp only [yE, Nat.reduceEqDiff, Nat.reduceAdd, reduceCtorEq, List.map_append]; try rfl
                · intro u hu
                  simp only [List.mem_append, List.mem_singleton] at hu
                  rcases hu with (hu | hu) | hu
                  · exact hval u hu
                  · exact .inl (hks u hu)
                  · exact .inr ⟨_, _, by show 1 ≤ 1; omega, hu⟩
  · have t1 : leI (l.length : Nat) (i : Nat) = true := leI_true (by omega)
    obtain rfl : i = l.length := by omega
    rw [List.take_length] at hex
    simp -implicitDefEqProofs only [↓yP, yT, Nat.reduceAdd, Nat.reduceMul, Nat.reduceSub, Nat.reduceLeDiff, Nat.reduceEqDiff, reduceCtorEq, Nat.reduceBEq, t1]
    exact ⟨out, rfl, by omega, hval, hex⟩
end Go.Vx.Seat
end
/- Colours, read. -/
section
open Go Go.Vx Go.Proofs
set_option linter.unusedSimpArgs false
set_option linter.unusedVariables false
set_option maxRecDepth 20000
set_option maxHeartbeats 4000000
namespace Go.Vx.Seat
attribute [local congr] Rg_at Rt_at Ro_at Ri_at Rc_at Rto_at Rtk_at Rtf_at Rti_at
attribute [local irreducible] Rg Rt Ro Ri Rc Rto Rtk Rtf Rti Rw Rl Rd Rcall Rtcall kf
theorem fn46 : nth C1.P.funcs.toList 46 = some Try.f46 := by kernel_rfl
theorem fn60 : nth C1.P.funcs.toList 60 = some Try.f60 := by kernel_rfl
theorem fn61 : nth C1.P.funcs.toList 61 = some Try.f61 := by kernel_rfl
theorem fn47 : nth C1.P.funcs.toList 47 = some Try.f47 := by kernel_rfl
theorem fn77 : nth C1.P.funcs.toList 77 = some Try.f77 := by kernel_rfl
def es (b : ByteArray) : List PC := [.d (.string b)]
abbrev rS (l : List ByteArray) : PC := .row 1 (l.map es)
theorem esGet {l : List ByteArray} {i : Nat} {c : ByteArray} (h : l[i]? = some c) : (l.map es)[i]? = some [.d (.string c)] := get_map h
theorem coloured_spec (s : ByteArray) (hs : (strOf s).length ≤ 10000000) : PCall C1 46 [yd (.string s)] fun y => ∃ b : Bool, y = yd (.bool b) := by
  refine Pf (by rfl) (by rfl) fn46 (by rfl) ?_
  simp only [Try.f46, List.length_cons, List.length_nil, List.replicate, List.cons_append, List.nil_append]
  simp -implicitDefEqProofs only [↓yP, yT, Nat.reduceAdd, Nat.reduceMul, Nat.reduceSub, Nat.reduceLeDiff, Nat.reduceEqDiff, reduceCtorEq, Nat.reduceBEq, Nat.reduceLT]
  refine Rl_inv (fun d e st => ∃ (i : Nat) (ns : List ByteArray), e = ([yd (.string s), .c .top, .c .top, .c (.own 0 1 0 7), yd (.int .i64 (i : Nat)), .c .top, .c .top, .c .top, .c .top, .c .top, .c .top, .c .top, .c .top, .c .top, .c .top, .c .top, .c .top, .c .top, .c .top]) ∧ st = [.row 1 (ns.map es)] ∧ ns.length = 7 ∧ i + d = 7) [true, false, false, true, true] 7 [0] (by decide) (pinned_zero _) ⟨0, [_, _, _, _, _, _, _], by (simp only [yE, Nat.reduceEqDiff, Nat.reduceAdd, reduceCtorEq]; try rfl), by (simp only [yE, Nat.reduceEqDiff, Nat.reduceAdd, reduceCtorEq]; try rfl), rfl, rfl⟩ ?_
  rintro d e st ⟨i, ns, rfl, rfl, hn, hd⟩
  by_cases hi : i < 7
  · obtain ⟨c, hc⟩ := get_lt (l := ns) (i := i) (by omega)
    have t1 : leI ((7 : Nat) : Int) (i : Nat) = false := leI_false (by omega)
    have c1 : (0 : Int) ≤ (i : Nat) := by omega
    have c2 : ((i : Nat) : Int) < ((7 : Nat) : Int) := by omega
    have w1 : wrapK .i64 ((i : Int) + 1) = ((i + 1 : Nat) : Int) := wrap_succ (by omega)
    simp -implicitDefEqProofs only [↓yP, yT, Nat.reduceAdd, Nat.reduceMul, Nat.reduceSub, Nat.reduceLeDiff, Nat.reduceEqDiff, reduceCtorEq, Nat.reduceBEq, t1]
    refine Rd_calm (by rw [C1_P]; kernel_rfl) ?_
    simp -implicitDefEqProofs only [↓yP, yT, Nat.reduceAdd, Nat.reduceMul, Nat.reduceSub, Nat.reduceLeDiff, Nat.reduceEqDiff, reduceCtorEq, Nat.reduceBEq, c1, c2, esGet hc, nn]
    refine Rcall_pure (lower_spec s hs) (by rfl) fun y hy => ?_
    obtain ⟨z, rfl, hz⟩ := hy
    cases h1 : (strOf c == strOf z) with
    | true =>
      simp -implicitDefEqProofs only [↓yP, yT, Nat.reduceAdd, Nat.reduceMul, Nat.reduceSub, Nat.reduceLeDiff, Nat.reduceEqDiff, reduceCtorEq, Nat.reduceBEq, xstr_eql, h1]
      exact ⟨_, rfl⟩
    | false =>
      simp -implicitDefEqProofs only [↓yP, yT, Nat.reduceAdd, Nat.reduceMul, Nat.reduceSub, Nat.reduceLeDiff, Nat.reduceEqDiff, reduceCtorEq, Nat.reduceBEq, xstr_eql, h1, w1]
      refine ⟨d - 1, [0], by omega, by decide, pinned_zero _, i + 1, ns, by (simp only [yE, Nat.reduceEqDiff, Nat.reduceAdd, reduceCtorEq]; try rfl), by (simp only [yE, Nat.reduceEqDiff, Nat.reduceAdd, reduceCtorEq]; try rfl), by omega, by omega⟩
  · have t1 : leI ((7 : Nat) : Int) (i : Nat) = true := leI_true (by omega)
    simp -implicitDefEqProofs only [↓yP, yT, Nat.reduceAdd, Nat.reduceMul, Nat.reduceSub, Nat.reduceLeDiff, Nat.reduceEqDiff, reduceCtorEq, Nat.reduceBEq, t1]
    exact ⟨_, rfl⟩
theorem hex17_spec (c : Int) : PCall C1 61 [yd (.int .u8 c)] fun y => ∃ d : Int, y = yd (.int .i64 d) := by
  refine Pf (by rfl) (by rfl) fn61 (by rfl) ?_
  simp only [Try.f61, List.length_cons, List.length_nil, List.replicate, List.cons_append, List.nil_append]
  cases h1 : leI 48 c <;> cases h2 : leI c 57 <;> cases h3 : leI 97 c <;> cases h4 : leI c 102 <;> cases h5 : leI 65 c <;> cases h6 : leI c 70
  all_goals
    simp -implicitDefEqProofs only [↓yP, yT, Nat.reduceAdd, Nat.reduceMul, Nat.reduceSub, Nat.reduceLeDiff, Nat.reduceEqDiff, reduceCtorEq, Nat.reduceBEq, h1, h2, h3, h4, h5, h6]
    exact ⟨_, rfl⟩
end Go.Vx.Seat
end
/- Colours, read: the table of names, a colour's digits. -/
section
open Go Go.Vx Go.Proofs
set_option linter.unusedSimpArgs false
set_option linter.unusedVariables false
set_option maxRecDepth 20000
set_option maxHeartbeats 4000000
namespace Go.Vx.Seat
attribute [local congr] Rg_at Rt_at Ro_at Ri_at Rc_at Rto_at Rtk_at Rtf_at Rti_at
attribute [local irreducible] Rg Rt Ro Ri Rc Rto Rtk Rtf Rti Rw Rl Rd Rcall Rtcall kf
theorem table_spec : PCall C1 77 [] fun y => ∃ (ns : List ByteArray) (cs : List Int), y = .tup [.c (.p (rS ns)), .c (.p (rI cs))] ∧ ns.length = 38 ∧ cs.length = 38 := by
  refine Pf (by rfl) (by rfl) fn77 (by rfl) ?_
  simp only [Try.f77, List.length_cons, List.length_nil, List.replicate, List.cons_append, List.nil_append]
  simp -implicitDefEqProofs only [↓yP, yT, Nat.reduceAdd, Nat.reduceMul, Nat.reduceSub, Nat.reduceLeDiff, Nat.reduceEqDiff, reduceCtorEq, Nat.reduceBEq, Nat.reduceLT]
  exact ⟨[_, _, _, _, _, _, _, _, _, _, _, _, _, _, _, _, _, _, _, _, _, _, _, _, _, _, _, _, _, _, _, _, _, _, _, _, _, _], [_, _, _, _, _, _, _, _, _, _, _, _, _, _, _, _, _, _, _, _, _, _, _, _, _, _, _, _, _, _, _, _, _, _, _, _, _, _], rfl, rfl, rfl⟩
/-- Four numbers. -/
def c4 (a b c d : Int) : YV := .agg [.p (.d (.int .i64 a)), .p (.d (.int .i64 b)), .p (.d (.int .i64 c)), .p (.d (.int .i64 d))]
def ColR (y : YV) : Prop := ∃ (a b c d : Int) (ok : Bool), y = .tup [c4 a b c d, yd (.bool ok)]
theorem xshr8 (a : Int) : xshift .shr .i64 a 8 = some (.int .i64 (shrI a 8)) := xshr a 8
theorem xshr16 (a : Int) : xshift .shr .i64 a 16 = some (.int .i64 (shrI a 16)) := xshr a 16
theorem named17_spec (s : ByteArray) (hs : (strOf s).length ≤ 10000000) : PCall C1 60 [yd (.string s)] ColR := by
  refine Pf (by rfl) (by rfl) fn60 (by rfl) ?_
  simp only [Try.f60, List.length_cons, List.length_nil, List.replicate, List.cons_append, List.nil_append]
  simp -implicitDefEqProofs only [↓yP, yT, Nat.reduceAdd, Nat.reduceMul, Nat.reduceSub, Nat.reduceLeDiff, Nat.reduceEqDiff, reduceCtorEq, Nat.reduceBEq]
  refine Rcall_pure table_spec (by rfl) fun y hy => ?_
  obtain ⟨ns, cs, rfl, hn, hc⟩ := hy
  simp -implicitDefEqProofs only [↓yP, yT, Nat.reduceAdd, Nat.reduceMul, Nat.reduceSub, Nat.reduceLeDiff, Nat.reduceEqDiff, reduceCtorEq, Nat.reduceBEq]
  refine Rl_inv (fun d e st => ∃ (i : Nat), e = ([yd (.string s), .c .top, .c (.ptr 0 0 0 0), .c .top, .c (.p (rS ns)), .c (.p (rI cs)), yd (.int .i64 (i : Nat)), .c .top, .c .top, .c .top, .c .top, .c .top, .c .top, .c .top, .c .top, .c .top, .c .top, .c .top, .c .top, .c .top, .c .top, .c .top, .c .top, .c .top, .c .top, .c .top, .c .top, .c .top, .c .top, .c .top, .c .top, .c .top, .c .top, .c .top, .c .top, .c .top, .c .top, .c .top, .c .top, .c .top, .c .top, .c .top]) ∧ st = [.box [.p (.d (.int .i64 0)), .p (.d (.int .i64 0)), .p (.d (.int .i64 0)), .p (.d (.int .i64 0))]] ∧ i + d = ns.length) [true, false, true, false, true, true, true] ns.length [0] (by decide) (pinned_zero _) ⟨0, by (simp only [yE, Nat.reduceEqDiff, Nat.reduceAdd, reduceCtorEq]; try rfl), by (simp only [yE, Nat.reduceEqDiff, Nat.reduceAdd, reduceCtorEq]; try rfl), by omega⟩ ?_
  rintro d e st ⟨i, rfl, rfl, hd⟩
  by_cases hi : i < ns.length
  · obtain ⟨c, hcc⟩ := get_lt (l := ns) (i := i) (by omega)
    obtain ⟨v, hv⟩ := get_lt (l := cs) (i := i) (by omega)
    have t1 : leI (ns.length : Nat) (i : Nat) = false := leI_false (by omega)
    have w1 : wrapK .i64 ((i : Int) + 1) = ((i + 1 : Nat) : Int) := wrap_succ (by omega)
    simp -implicitDefEqProofs only [↓yP, yT, Nat.reduceAdd, Nat.reduceMul, Nat.reduceSub, Nat.reduceLeDiff, Nat.reduceEqDiff, reduceCtorEq, Nat.reduceBEq, t1]
    refine Rd_calm (by rw [C1_P]; kernel_rfl) ?_
    simp -implicitDefEqProofs only [↓yP, yT, Nat.reduceAdd, Nat.reduceMul, Nat.reduceSub, Nat.reduceLeDiff, Nat.reduceEqDiff, reduceCtorEq, Nat.reduceBEq, esGet hcc, nn]
    refine Rcall_pure (lower_spec s hs) (by rfl) fun y hy => ?_
    obtain ⟨z, rfl, hz⟩ := hy
    cases h1 : (strOf c == strOf z) with
    | true =>
      simp -implicitDefEqProofs only [↓yP, yT, Nat.reduceAdd, Nat.reduceMul, Nat.reduceSub, Nat.reduceLeDiff, Nat.reduceEqDiff, reduceCtorEq, Nat.reduceBEq, xstr_eql, h1]
      refine Rd_trace ?_
      simp -implicitDefEqProofs only [↓yP, yT, Nat.reduceAdd, Nat.reduceMul, Nat.reduceSub, Nat.reduceLeDiff, Nat.reduceEqDiff, reduceCtorEq, Nat.reduceBEq, rdOf, tgOf, get_map hv, ei, nn, xshr8, xshr16, Nat.reduceLT]
      exact ⟨_, _, _, _, _, rfl⟩
    | false =>
      simp -implicitDefEqProofs only [↓yP, yT, Nat.reduceAdd, Nat.reduceMul, Nat.reduceSub, Nat.reduceLeDiff, Nat.reduceEqDiff, reduceCtorEq, Nat.reduceBEq, xstr_eql, h1, w1]
      refine ⟨d - 1, [0], by omega, by decide, pinned_zero _, i + 1, by (simp only [yE, Nat.reduceEqDiff, Nat.reduceAdd, reduceCtorEq]; try rfl), by (simp only [yE, Nat.reduceEqDiff, Nat.reduceAdd, reduceCtorEq]; try rfl), by omega⟩
  · have t1 : leI (ns.length : Nat) (i : Nat) = true := leI_true (by omega)
    simp -implicitDefEqProofs only [↓yP, yT, Nat.reduceAdd, Nat.reduceMul, Nat.reduceSub, Nat.reduceLeDiff, Nat.reduceEqDiff, reduceCtorEq, Nat.reduceBEq, t1, Nat.reduceLT]
    exact ⟨_, _, _, _, _, rfl⟩
end Go.Vx.Seat
end
/- Colours, read: of a token. -/
section
open Go Go.Vx Go.Proofs
set_option linter.unusedSimpArgs false
set_option linter.unusedVariables false
set_option maxRecDepth 20000
set_option maxHeartbeats 4000000
namespace Go.Vx.Seat
attribute [local congr] Rg_at Rt_at Ro_at Ri_at Rc_at Rto_at Rtk_at Rtf_at Rti_at
attribute [local irreducible] Rg Rt Ro Ri Rc Rto Rtk Rtf Rti Rw Rl Rd Rcall Rtcall kf
def ColQ (t : Tok) (y : YV) : Prop := ∃ (a b c d : Int) (ok : Bool), y = .tup [c4 a b c d, yd (.bool ok)] ∧ (ok = true → t.kind = 1 ∨ t.kind = 4)
theorem ColQ.no {t : Tok} {y : YV} {a b c d : Int} (h : y = .tup [c4 a b c d, yd (.bool false)]) : ColQ t y := ⟨a, b, c, d, false, h, fun h => by cases h⟩
theorem readColour_spec (t : Tok) (hs : (strOf t.text).length ≤ 10000000) : PCall C1 47 [t.yv] (ColQ t) := by
  cases q1 : eqI t.kind 1 with
  | true =>
    refine Pf (by rfl) (by rfl) fn47 (by rfl) ?_
    simp only [Try.f47, List.length_cons, List.length_nil, List.replicate, List.cons_append, List.nil_append]
    simp only [Tok.yv, Tok.cs, Tok.pc, List.map_cons, List.map_nil]
    simp -implicitDefEqProofs only [↓yP, yT, Nat.reduceAdd, Nat.reduceMul, Nat.reduceSub, Nat.reduceLeDiff, Nat.reduceEqDiff, reduceCtorEq, Nat.reduceBEq, q1]
    refine Rcall_pure (named17_spec t.text hs) (by rfl) fun y hy => ?_
    obtain ⟨a, b, c, d, ok, rfl⟩ := hy
    simp only [c4]
    simp -implicitDefEqProofs only [↓yP, yT, Nat.reduceAdd, Nat.reduceMul, Nat.reduceSub, Nat.reduceLeDiff, Nat.reduceEqDiff, reduceCtorEq, Nat.reduceBEq, Nat.reduceLT]
    exact ⟨a, b, c, d, ok, rfl, fun _ => .inl (of_eqT q1)⟩
  | false =>
  cases q4 : eqI t.kind 4 with
  | false =>
    refine Pf (by rfl) (by rfl) fn47 (by rfl) ?_
    simp only [Try.f47, List.length_cons, List.length_nil, List.replicate, List.cons_append, List.nil_append]
    simp only [Tok.yv, Tok.cs, Tok.pc, List.map_cons, List.map_nil]
    simp -implicitDefEqProofs only [↓yP, yT, Nat.reduceAdd, Nat.reduceMul, Nat.reduceSub, Nat.reduceLeDiff, Nat.reduceEqDiff, reduceCtorEq, Nat.reduceBEq, opLen.eq_1, q1, q4, Nat.reduceLT]
    exact .no rfl
  | true =>
  refine Pf (by rfl) (by rfl) fn47 (by rfl) ?_
  simp only [Try.f47, List.length_cons, List.length_nil, List.replicate, List.cons_append, List.nil_append]
  simp only [Tok.yv, Tok.cs, Tok.pc, List.map_cons, List.map_nil]
  cases n3 : eqI ((strOf t.text).length : Nat) 3 with
  | true =>
    have hn := of_eqT n3
    have t6 : leI 6 ((strOf t.text).length : Nat) = false := leI_false (by omega)
    simp -implicitDefEqProofs only [↓yP, yT, Nat.reduceAdd, Nat.reduceMul, Nat.reduceSub, Nat.reduceLeDiff, Nat.reduceEqDiff, reduceCtorEq, Nat.reduceBEq, opLen.eq_1, q1, q4, n3, Nat.reduceLT]
    refine Rl_inv (fun d e st => ∃ (i : Nat) (a b c dq : Int), e = ([.c .top, .c (.ptr 0 0 0 0), .c (.ptr 1 0 0 0), .c .top, yd (.int .i64 ((strOf t.text).length : Nat)), .c (.ptr 2 0 0 0), yd (.int .i64 (i : Nat)), .c .top, .c .top, .c .top, .c .top, .c .top, .c .top, .c .top, .c .top, .c .top, .c .top, .c .top, .c .top, .c .top, .c .top, .c .top, .c .top, .c .top, .c .top, .c .top, .c .top, .c .top, .c .top, .c .top, .c .top, .c .top, .c .top, .c .top, .c .top, .c .top, .c .top, .c .top, .c .top, .c .top, .c .top, .c .top, .c .top, .c .top, .c .top, .c .top, .c .top, .c .top, .c .top, .c .top, .c .top, .c .top, .c .top, .c .top, .c .top, .c .top, .c .top, .c .top, .c .top, .c .top, .c .top, .c .top, .c .top, .c .top, .c .top, .c .top, .c .top, .c .top, .c .top, .c .top, .c .top, .c .top, .c .top, .c .top, .c .top, .c .top, .c .top, .c .top, .c .top]) ∧ st = [.box t.cs, .box [.p (.d (.int .i64 0)), .p (.d (.int .i64 0)), .p (.d (.int .i64 0)), .p (.d (.int .i64 0))], .box [.p (.d (.int .i64 a)), .p (.d (.int .i64 b)), .p (.d (.int .i64 c)), .p (.d (.int .i64 dq))]] ∧ i + d = (strOf t.text).length) [false, true, true, false, true, true, true] (strOf t.text).length [0, 1, 2] (by decide) (pinned_zero _) ⟨0, 0, 0, 0, 255, by (simp only [yE, Nat.reduceEqDiff, Nat.reduceAdd, reduceCtorEq]; try rfl), by (simp only [yE, Nat.reduceEqDiff, Nat.reduceAdd, reduceCtorEq]; try rfl), by omega⟩ ?_
    rintro dd e st ⟨i, a, b, c, dq, rfl, rfl, hd⟩
    by_cases hi : i < (strOf t.text).length
    · obtain ⟨ch, hch⟩ := get_lt hi
      have u1 : leI ((strOf t.text).length : Nat) (i : Nat) = false := leI_false (by omega)
      have f1 : (0 : Int) ≤ (i : Nat) := by omega
      simp only [Tok.cs, Tok.pc, List.map_cons, List.map_nil]
      simp -implicitDefEqProofs only [↓yP, yT, Nat.reduceAdd, Nat.reduceMul, Nat.reduceSub, Nat.reduceLeDiff, Nat.reduceEqDiff, reduceCtorEq, Nat.reduceBEq, opLen.eq_1, xindex.eq_1, xslice.eq_1, Int.toNat_natCast, u1, f1, hch]
      refine Rcall_pure (hex17_spec _) (by rfl) fun y hy => ?_
      obtain ⟨hx, rfl⟩ := hy
      cases h0 : leI 0 hx with
      | false =>
        simp -implicitDefEqProofs only [↓yP, yT, Nat.reduceAdd, Nat.reduceMul, Nat.reduceSub, Nat.reduceLeDiff, Nat.reduceEqDiff, reduceCtorEq, Nat.reduceBEq, h0, Nat.reduceLT]
        exact .no rfl
      | true =>
        simp -implicitDefEqProofs only [↓yP, yT, Nat.reduceAdd, Nat.reduceMul, Nat.reduceSub, Nat.reduceLeDiff, Nat.reduceEqDiff, reduceCtorEq, Nat.reduceBEq, h0]
        clear u1 f1 hch h0
        have hj : i = 0 ∨ i = 1 ∨ i = 2 ∨ i = 3 := by omega
        rcases hj with rfl | rfl | rfl | rfl
        · have f2 : ((0 : Nat) : Int) < ((4 : Nat) : Int) := by omega
          have f1 : (0 : Int) ≤ ((0 : Nat) : Int) := by omega
          have w1 : wrapK .i64 (((0 : Nat) : Int) + 1) = ((0 + 1 : Nat) : Int) := rfl
          simp -implicitDefEqProofs only [↓yP, yT, Nat.reduceAdd, Nat.reduceMul, Nat.reduceSub, Nat.reduceLeDiff, Nat.reduceEqDiff, reduceCtorEq, Nat.reduceBEq, opLen.eq_1, xindex.eq_1, xslice.eq_1, Int.toNat_natCast, t6, f1, f2, w1, Nat.reduceLT]
          refine ⟨dd - 1, [0, 1, 2], by omega, by decide, pinned_zero _, 0 + 1, (wrapK .i64 (17 * hx)), b, c, dq, by (simp only [yE, Nat.reduceEqDiff, Nat.reduceAdd, reduceCtorEq]; try rfl), by (simp only [yE, Nat.reduceEqDiff, Nat.reduceAdd, reduceCtorEq]; try rfl), by omega⟩
        · have f2 : ((1 : Nat) : Int) < ((4 : Nat) : Int) := by omega
          have f1 : (0 : Int) ≤ ((1 : Nat) : Int) := by omega
          have w1 : wrapK .i64 (((1 : Nat) : Int) + 1) = ((1 + 1 : Nat) : Int) := rfl
          simp -implicitDefEqProofs only [↓yP, yT, Nat.reduceAdd, Nat.reduceMul, Nat.reduceSub, Nat.reduceLeDiff, Nat.reduceEqDiff, reduceCtorEq, Nat.reduceBEq, opLen.eq_1, xindex.eq_1, xslice.eq_1, Int.toNat_natCast, t6, f1, f2, w1, Nat.reduceLT]
          refine ⟨dd - 1, [0, 1, 2], by omega, by decide, pinned_zero _, 1 + 1, a, (wrapK .i64 (17 * hx)), c, dq, by (simp only [yE, Nat.reduceEqDiff, Nat.reduceAdd, reduceCtorEq]; try rfl), by (simp only [yE, Nat.reduceEqDiff, Nat.reduceAdd, reduceCtorEq]; try rfl), by omega⟩
        · have f2 : ((2 : Nat) : Int) < ((4 : Nat) : Int) := by omega
          have f1 : (0 : Int) ≤ ((2 : Nat) : Int) := by omega
          have w1 : wrapK .i64 (((2 : Nat) : Int) + 1) = ((2 + 1 : Nat) : Int) := rfl
          simp -implicitDefEqProofs only [↓yP, yT, Nat.reduceAdd, Nat.reduceMul, Nat.reduceSub, Nat.reduceLeDiff, Nat.reduceEqDiff, reduceCtorEq, Nat.reduceBEq, opLen.eq_1, xindex.eq_1, xslice.eq_1, Int.toNat_natCast, t6, f1, f2, w1, Nat.reduceLT]
          refine ⟨dd - 1, [0, 1, 2], by omega, by decide, pinned_zero _, 2 + 1, a, b, (wrapK .i64 (17 * hx)), dq, by (simp only [yE, Nat.reduceEqDiff, Nat.reduceAdd, reduceCtorEq]; try rfl), by (simp only [yE, Nat.reduceEqDiff, Nat.reduceAdd, reduceCtorEq]; try rfl), by omega⟩
        · have f2 : ((3 : Nat) : Int) < ((4 : Nat) : Int) := by omega
          have f1 : (0 : Int) ≤ ((3 : Nat) : Int) := by omega
          have w1 : wrapK .i64 (((3 : Nat) : Int) + 1) = ((3 + 1 : Nat) : Int) := rfl
          simp -implicitDefEqProofs only [↓yP, yT, Nat.reduceAdd, Nat.reduceMul, Nat.reduceSub, Nat.reduceLeDiff, Nat.reduceEqDiff, reduceCtorEq, Nat.reduceBEq, opLen.eq_1, xindex.eq_1, xslice.eq_1, Int.toNat_natCast, t6, f1, f2, w1, Nat.reduceLT]
          refine ⟨dd - 1, [0, 1, 2], by omega, by decide, pinned_zero _, 3 + 1, a, b, c, (wrapK .i64 (17 * hx)), by (simp only [yE, Nat.reduceEqDiff, Nat.reduceAdd, reduceCtorEq]; try rfl), by (simp only [yE, Nat.reduceEqDiff, Nat.reduceAdd, reduceCtorEq]; try rfl), by omega⟩
    · have u1 : leI ((strOf t.text).length : Nat) (i : Nat) = true := leI_true (by omega)
      simp -implicitDefEqProofs only [↓yP, yT, Nat.reduceAdd, Nat.reduceMul, Nat.reduceSub, Nat.reduceLeDiff, Nat.reduceEqDiff, reduceCtorEq, Nat.reduceBEq, u1, Nat.reduceLT]
      exact ⟨_, _, _, _, true, rfl, fun _ => .inr (of_eqT q4)⟩
  | false =>
  cases n4 : eqI ((strOf t.text).length : Nat) 4 with
  | true =>
    have hn := of_eqT n4
    have t6 : leI 6 ((strOf t.text).length : Nat) = false := leI_false (by omega)
    simp -implicitDefEqProofs only [↓yP, yT, Nat.reduceAdd, Nat.reduceMul, Nat.reduceSub, Nat.reduceLeDiff, Nat.reduceEqDiff, reduceCtorEq, Nat.reduceBEq, opLen.eq_1, q1, q4, n3, n4, Nat.reduceLT]
    refine Rl_inv (fun d e st => ∃ (i : Nat) (a b c dq : Int), e = ([.c .top, .c (.ptr 0 0 0 0), .c (.ptr 1 0 0 0), .c .top, yd (.int .i64 ((strOf t.text).length : Nat)), .c (.ptr 2 0 0 0), yd (.int .i64 (i : Nat)), .c .top, .c .top, .c .top, .c .top, .c .top, .c .top, .c .top, .c .top, .c .top, .c .top, .c .top, .c .top, .c .top, .c .top, .c .top, .c .top, .c .top, .c .top, .c .top, .c .top, .c .top, .c .top, .c .top, .c .top, .c .top, .c .top, .c .top, .c .top, .c .top, .c .top, .c .top, .c .top, .c .top, .c .top, .c .top, .c .top, .c .top, .c .top, .c .top, .c .top, .c .top, .c .top, .c .top, .c .top, .c .top, .c .top, .c .top, .c .top, .c .top, .c .top, .c .top, .c .top, .c .top, .c .top, .c .top, .c .top, .c .top, .c .top, .c .top, .c .top, .c .top, .c .top, .c .top, .c .top, .c .top, .c .top, .c .top, .c .top, .c .top, .c .top, .c .top, .c .top]) ∧ st = [.box t.cs, .box [.p (.d (.int .i64 0)), .p (.d (.int .i64 0)), .p (.d (.int .i64 0)), .p (.d (.int .i64 0))], .box [.p (.d (.int .i64 a)), .p (.d (.int .i64 b)), .p (.d (.int .i64 c)), .p (.d (.int .i64 dq))]] ∧ i + d = (strOf t.text).length) [false, true, true, false, true, true, true] (strOf t.text).length [0, 1, 2] (by decide) (pinned_zero _) ⟨0, 0, 0, 0, 255, by (simp only [yE, Nat.reduceEqDiff, Nat.reduceAdd, reduceCtorEq]; try rfl), by (simp only [yE, Nat.reduceEqDiff, Nat.reduceAdd, reduceCtorEq]; try rfl), by omega⟩ ?_
    rintro dd e st ⟨i, a, b, c, dq, rfl, rfl, hd⟩
    by_cases hi : i < (strOf t.text).length
    · obtain ⟨ch, hch⟩ := get_lt hi
      have u1 : leI ((strOf t.text).length : Nat) (i : Nat) = false := leI_false (by omega)
      have f1 : (0 : Int) ≤ (i : Nat) := by omega
      simp only [Tok.cs, Tok.pc, List.map_cons, List.map_nil]
      simp -implicitDefEqProofs only [↓yP, yT, Nat.reduceAdd, Nat.reduceMul, Nat.reduceSub, Nat.reduceLeDiff, Nat.reduceEqDiff, reduceCtorEq, Nat.reduceBEq, opLen.eq_1, xindex.eq_1, xslice.eq_1, Int.toNat_natCast, u1, f1, hch]
      refine Rcall_pure (hex17_spec _) (by rfl) fun y hy => ?_
      obtain ⟨hx, rfl⟩ := hy
      cases h0 : leI 0 hx with
      | false =>
        simp -implicitDefEqProofs only [↓yP, yT, Nat.reduceAdd, Nat.reduceMul, Nat.reduceSub, Nat.reduceLeDiff, Nat.reduceEqDiff, reduceCtorEq, Nat.reduceBEq, h0, Nat.reduceLT]
        exact .no rfl
      | true =>
        simp -implicitDefEqProofs only [↓yP, yT, Nat.reduceAdd, Nat.reduceMul, Nat.reduceSub, Nat.reduceLeDiff, Nat.reduceEqDiff, reduceCtorEq, Nat.reduceBEq, h0]
        clear u1 f1 hch h0
        have hj : i = 0 ∨ i = 1 ∨ i = 2 ∨ i = 3 := by omega
        rcases hj with rfl | rfl | rfl | rfl
        · have f2 : ((0 : Nat) : Int) < ((4 : Nat) : Int) := by omega
          have f1 : (0 : Int) ≤ ((0 : Nat) : Int) := by omega
          have w1 : wrapK .i64 (((0 : Nat) : Int) + 1) = ((0 + 1 : Nat) : Int) := rfl
          simp -implicitDefEqProofs only [↓yP, yT, Nat.reduceAdd, Nat.reduceMul, Nat.reduceSub, Nat.reduceLeDiff, Nat.reduceEqDiff, reduceCtorEq, Nat.reduceBEq, opLen.eq_1, xindex.eq_1, xslice.eq_1, Int.toNat_natCast, t6, f1, f2, w1, Nat.reduceLT]
          refine ⟨dd - 1, [0, 1, 2], by omega, by decide, pinned_zero _, 0 + 1, (wrapK .i64 (17 * hx)), b, c, dq, by (simp only [yE, Nat.reduceEqDiff, Nat.reduceAdd, reduceCtorEq]; try rfl), by (simp only [yE, Nat.reduceEqDiff, Nat.reduceAdd, reduceCtorEq]; try rfl), by omega⟩
        · have f2 : ((1 : Nat) : Int) < ((4 : Nat) : Int) := by omega
          have f1 : (0 : Int) ≤ ((1 : Nat) : Int) := by omega
          have w1 : wrapK .i64 (((1 : Nat) : Int) + 1) = ((1 + 1 : Nat) : Int) := rfl
          simp -implicitDefEqProofs only [↓yP, yT, Nat.reduceAdd, Nat.reduceMul, Nat.reduceSub, Nat.reduceLeDiff, Nat.reduceEqDiff, reduceCtorEq, Nat.reduceBEq, opLen.eq_1, xindex.eq_1, xslice.eq_1, Int.toNat_natCast, t6, f1, f2, w1, Nat.reduceLT]
          refine ⟨dd - 1, [0, 1, 2], by omega, by decide, pinned_zero _, 1 + 1, a, (wrapK .i64 (17 * hx)), c, dq, by (simp only [yE, Nat.reduceEqDiff, Nat.reduceAdd, reduceCtorEq]; try rfl), by (simp only [yE, Nat.reduceEqDiff, Nat.reduceAdd, reduceCtorEq]; try rfl), by omega⟩
        · have f2 : ((2 : Nat) : Int) < ((4 : Nat) : Int) := by omega
          have f1 : (0 : Int) ≤ ((2 : Nat) : Int) := by omega
          have w1 : wrapK .i64 (((2 : Nat) : Int) + 1) = ((2 + 1 : Nat) : Int) := rfl
          simp -implicitDefEqProofs only [↓yP, yT, Nat.reduceAdd, Nat.reduceMul, Nat.reduceSub, Nat.reduceLeDiff, Nat.reduceEqDiff, reduceCtorEq, Nat.reduceBEq, opLen.eq_1, xindex.eq_1, xslice.eq_1, Int.toNat_natCast, t6, f1, f2, w1, Nat.reduceLT]
          refine ⟨dd - 1, [0, 1, 2], by omega, by decide, pinned_zero _, 2 + 1, a, b, (wrapK .i64 (17 * hx)), dq, by (simp only [yE, Nat.reduceEqDiff, Nat.reduceAdd, reduceCtorEq]; try rfl), by (simp only [yE, Nat.reduceEqDiff, Nat.reduceAdd, reduceCtorEq]; try rfl), by omega⟩
        · have f2 : ((3 : Nat) : Int) < ((4 : Nat) : Int) := by omega
          have f1 : (0 : Int) ≤ ((3 : Nat) : Int) := by omega
          have w1 : wrapK .i64 (((3 : Nat) : Int) + 1) = ((3 + 1 : Nat) : Int) := rfl
          simp -implicitDefEqProofs only [↓yP, yT, Nat.reduceAdd, Nat.reduceMul, Nat.reduceSub, Nat.reduceLeDiff, Nat.reduceEqDiff, reduceCtorEq, Nat.reduceBEq, opLen.eq_1, xindex.eq_1, xslice.eq_1, Int.toNat_natCast, t6, f1, f2, w1, Nat.reduceLT]
          refine ⟨dd - 1, [0, 1, 2], by omega, by decide, pinned_zero _, 3 + 1, a, b, c, (wrapK .i64 (17 * hx)), by (simp only [yE, Nat.reduceEqDiff, Nat.reduceAdd, reduceCtorEq]; try rfl), by (simp only [yE, Nat.reduceEqDiff, Nat.reduceAdd, reduceCtorEq]; try rfl), by omega⟩
    · have u1 : leI ((strOf t.text).length : Nat) (i : Nat) = true := leI_true (by omega)
      simp -implicitDefEqProofs only [↓yP, yT, Nat.reduceAdd, Nat.reduceMul, Nat.reduceSub, Nat.reduceLeDiff, Nat.reduceEqDiff, reduceCtorEq, Nat.reduceBEq, u1, Nat.reduceLT]
      exact ⟨_, _, _, _, true, rfl, fun _ => .inr (of_eqT q4)⟩
  | false =>
  cases n6 : eqI ((strOf t.text).length : Nat) 6 with
  | true =>
    have hn := of_eqT n6
    have t6 : leI 6 ((strOf t.text).length : Nat) = true := leI_true (by omega)
    simp -implicitDefEqProofs only [↓yP, yT, Nat.reduceAdd, Nat.reduceMul, Nat.reduceSub, Nat.reduceLeDiff, Nat.reduceEqDiff, reduceCtorEq, Nat.reduceBEq, opLen.eq_1, q1, q4, n3, n4, n6, Nat.reduceLT]
    refine Rl_inv (fun d e st => ∃ (i : Nat) (a b c dq : Int), e = ([.c .top, .c (.ptr 0 0 0 0), .c (.ptr 1 0 0 0), .c .top, yd (.int .i64 ((strOf t.text).length : Nat)), .c (.ptr 2 0 0 0), yd (.int .i64 (i : Nat)), .c .top, .c .top, .c .top, .c .top, .c .top, .c .top, .c .top, .c .top, .c .top, .c .top, .c .top, .c .top, .c .top, .c .top, .c .top, .c .top, .c .top, .c .top, .c .top, .c .top, .c .top, .c .top, .c .top, .c .top, .c .top, .c .top, .c .top, .c .top, .c .top, .c .top, .c .top, .c .top, .c .top, .c .top, .c .top, .c .top, .c .top, .c .top, .c .top, .c .top, .c .top, .c .top, .c .top, .c .top, .c .top, .c .top, .c .top, .c .top, .c .top, .c .top, .c .top, .c .top, .c .top, .c .top, .c .top, .c .top, .c .top, .c .top, .c .top, .c .top, .c .top, .c .top, .c .top, .c .top, .c .top, .c .top, .c .top, .c .top, .c .top, .c .top, .c .top, .c .top]) ∧ st = [.box t.cs, .box [.p (.d (.int .i64 0)), .p (.d (.int .i64 0)), .p (.d (.int .i64 0)), .p (.d (.int .i64 0))], .box [.p (.d (.int .i64 a)), .p (.d (.int .i64 b)), .p (.d (.int .i64 c)), .p (.d (.int .i64 dq))]] ∧ i + d = (strOf t.text).length) [false, true, true, false, true, true, true] (strOf t.text).length [0, 1, 2] (by decide) (pinned_zero _) ⟨0, 0, 0, 0, 255, by (simp only [yE, Nat.reduceEqDiff, Nat.reduceAdd, reduceCtorEq]; try rfl), by (simp only [yE, Nat.reduceEqDiff, Nat.reduceAdd, reduceCtorEq]; try rfl), by omega⟩ ?_
    rintro dd e st ⟨i, a, b, c, dq, rfl, rfl, hd⟩
    by_cases hi : i < (strOf t.text).length
    · obtain ⟨ch, hch⟩ := get_lt hi
      have u1 : leI ((strOf t.text).length : Nat) (i : Nat) = false := leI_false (by omega)
      have f1 : (0 : Int) ≤ (i : Nat) := by omega
      simp only [Tok.cs, Tok.pc, List.map_cons, List.map_nil]
      simp -implicitDefEqProofs only [↓yP, yT, Nat.reduceAdd, Nat.reduceMul, Nat.reduceSub, Nat.reduceLeDiff, Nat.reduceEqDiff, reduceCtorEq, Nat.reduceBEq, opLen.eq_1, xindex.eq_1, xslice.eq_1, Int.toNat_natCast, u1, f1, hch]
      refine Rcall_pure (hex17_spec _) (by rfl) fun y hy => ?_
      obtain ⟨hx, rfl⟩ := hy
      cases h0 : leI 0 hx with
      | false =>
        simp -implicitDefEqProofs only [↓yP, yT, Nat.reduceAdd, Nat.reduceMul, Nat.reduceSub, Nat.reduceLeDiff, Nat.reduceEqDiff, reduceCtorEq, Nat.reduceBEq, h0, Nat.reduceLT]
        exact .no rfl
      | true =>
        simp -implicitDefEqProofs only [↓yP, yT, Nat.reduceAdd, Nat.reduceMul, Nat.reduceSub, Nat.reduceLeDiff, Nat.reduceEqDiff, reduceCtorEq, Nat.reduceBEq, h0]
        clear u1 f1 hch h0
        have hj : i = 0 ∨ i = 1 ∨ i = 2 ∨ i = 3 ∨ i = 4 ∨ i = 5 ∨ i = 6 ∨ i = 7 := by omega
        rcases hj with rfl | rfl | rfl | rfl | rfl | rfl | rfl | rfl
        · have f1 : (0 : Int) ≤ ((0 : Nat) : Int) := by omega
          have f3 : ((0 : Nat) : Int).tmod 2 = 0 := rfl
          have f4 : IntKind.wrap .i64 (((0 : Nat) : Int).tdiv 2) = ((0 : Nat) : Int) := rfl
          have f5 : (0 : Int) ≤ ((0 : Nat) : Int) := by omega
          have f6 : ((0 : Nat) : Int) < ((4 : Nat) : Int) := by omega
          have f7 : eqI 0 0 = true := rfl
          have z2 : ((2 : Int) = 0) = False := by simp
          have w1 : wrapK .i64 (((0 : Nat) : Int) + 1) = ((0 + 1 : Nat) : Int) := rfl
          simp -implicitDefEqProofs only [↓yP, yT, Nat.reduceAdd, Nat.reduceMul, Nat.reduceSub, Nat.reduceLeDiff, Nat.reduceEqDiff, reduceCtorEq, Nat.reduceBEq, opLen.eq_1, xindex.eq_1, xslice.eq_1, Int.toNat_natCast, t6, f1, f3, f4, f5, f6, f7, z2, w1, Nat.reduceLT]
          refine ⟨dd - 1, [0, 1, 2], by omega, by decide, pinned_zero _, 0 + 1, (wrapK .i64 (16 * hx)), b, c, dq, by (simp only [yE, Nat.reduceEqDiff, Nat.reduceAdd, reduceCtorEq]; try rfl), by (simp only [yE, Nat.reduceEqDiff, Nat.reduceAdd, reduceCtorEq]; try rfl), by omega⟩
        · have f1 : (0 : Int) ≤ ((1 : Nat) : Int) := by omega
          have f3 : ((1 : Nat) : Int).tmod 2 = 1 := rfl
          have f4 : IntKind.wrap .i64 (((1 : Nat) : Int).tdiv 2) = ((0 : Nat) : Int) := rfl
          have f5 : (0 : Int) ≤ ((0 : Nat) : Int) := by omega
          have f6 : ((0 : Nat) : Int) < ((4 : Nat) : Int) := by omega
          have f7 : eqI 1 0 = false := rfl
          have z2 : ((2 : Int) = 0) = False := by simp
          have w1 : wrapK .i64 (((1 : Nat) : Int) + 1) = ((1 + 1 : Nat) : Int) := rfl
          simp -implicitDefEqProofs only [↓yP, yT, Nat.reduceAdd, Nat.reduceMul, Nat.reduceSub, Nat.reduceLeDiff, Nat.reduceEqDiff, reduceCtorEq, Nat.reduceBEq, opLen.eq_1, xindex.eq_1, xslice.eq_1, Int.toNat_natCast, t6, f1, f3, f4, f5, f6, f7, z2, w1, Nat.reduceLT]
          refine ⟨dd - 1, [0, 1, 2], by omega, by decide, pinned_zero _, 1 + 1, (wrapK .i64 (a + hx)), b, c, dq, by (simp only [yE, Nat.reduceEqDiff, Nat.reduceAdd, reduceCtorEq]; try rfl), by (simp only [yE, Nat.reduceEqDiff, Nat.reduceAdd, reduceCtorEq]; try rfl), by omega⟩
        · have f1 : (0 : Int) ≤ ((2 : Nat) : Int) := by omega
          have f3 : ((2 : Nat) : Int).tmod 2 = 0 := rfl
          have f4 : IntKind.wrap .i64 (((2 : Nat) : Int).tdiv 2) = ((1 : Nat) : Int) := rfl
          have f5 : (0 : Int) ≤ ((1 : Nat) : Int) := by omega
          have f6 : ((1 : Nat) : Int) < ((4 : Nat) : Int) := by omega
          have f7 : eqI 0 0 = true := rfl
          have z2 : ((2 : Int) = 0) = False := by simp
          have w1 : wrapK .i64 (((2 : Nat) : Int) + 1) = ((2 + 1 : Nat) : Int) := rfl
          simp -implicitDefEqProofs only [↓yP, yT, Nat.reduceAdd, Nat.reduceMul, Nat.reduceSub, Nat.reduceLeDiff, Nat.reduceEqDiff, reduceCtorEq, Nat.reduceBEq, opLen.eq_1, xindex.eq_1, xslice.eq_1, Int.toNat_natCast, t6, f1, f3, f4, f5, f6, f7, z2, w1, Nat.reduceLT]
          refine ⟨dd - 1, [0, 1, 2], by omega, by decide, pinned_zero _, 2 + 1, a, (wrapK .i64 (16 * hx)), c, dq, by (simp only [yE, Nat.reduceEqDiff, Nat.reduceAdd, reduceCtorEq]; try rfl), by (simp only [yE, Nat.reduceEqDiff, Nat.reduceAdd, reduceCtorEq]; try rfl), by omega⟩
        · have f1 : (0 : Int) ≤ ((3 : Nat) : Int) := by omega
          have f3 : ((3 : Nat) : Int).tmod 2 = 1 := rfl
          have f4 : IntKind.wrap .i64 (((3 : Nat) : Int).tdiv 2) = ((1 : Nat) : Int) := rfl
          have f5 : (0 : Int) ≤ ((1 : Nat) : Int) := by omega
          have f6 : ((1 : Nat) : Int) < ((4 : Nat) : Int) := by omega
          have f7 : eqI 1 0 = false := rfl
          have z2 : ((2 : Int) = 0) = False := by simp
          have w1 : wrapK .i64 (((3 : Nat) : Int) + 1) = ((3 + 1 : Nat) : Int) := rfl
          simp -implicitDefEqProofs only [↓yP, yT, Nat.reduceAdd, Nat.reduceMul, Nat.reduceSub, Nat.reduceLeDiff, Nat.reduceEqDiff, reduceCtorEq, Nat.reduceBEq, opLen.eq_1, xindex.eq_1, xslice.eq_1, Int.toNat_natCast, t6, f1, f3, f4, f5, f6, f7, z2, w1, Nat.reduceLT]
          refine ⟨dd - 1, [0, 1, 2], by omega, by decide, pinned_zero _, 3 + 1, a, (wrapK .i64 (b + hx)), c, dq, by (simp only [yE, Nat.reduceEqDiff, Nat.reduceAdd, reduceCtorEq]; try rfl), by (simp only [yE, Nat.reduceEqDiff, Nat.reduceAdd, reduceCtorEq]; try rfl), by omega⟩
        · have f1 : (0 : Int) ≤ ((4 : Nat) : Int) := by omega
          have f3 : ((4 : Nat) : Int).tmod 2 = 0 := rfl
          have f4 : IntKind.wrap .i64 (((4 : Nat) : Int).tdiv 2) = ((2 : Nat) : Int) := rfl
          have f5 : (0 : Int) ≤ ((2 : Nat) : Int) := by omega
          have f6 : ((2 : Nat) : Int) < ((4 : Nat) : Int) := by omega
          have f7 : eqI 0 0 = true := rfl
          have z2 : ((2 : Int) = 0) = False := by simp
          have w1 : wrapK .i64 (((4 : Nat) : Int) + 1) = ((4 + 1 : Nat) : Int) := rfl
          simp -implicitDefEqProofs only [↓yP, yT, Nat.reduceAdd, Nat.reduceMul, Nat.reduceSub, Nat.reduceLeDiff, Nat.reduceEqDiff, reduceCtorEq, Nat.reduceBEq, opLen.eq_1, xindex.eq_1, xslice.eq_1, Int.toNat_natCast, t6, f1, f3, f4, f5, f6, f7, z2, w1, Nat.reduceLT]
          refine ⟨dd - 1, [0, 1, 2], by omega, by decide, pinned_zero _, 4 + 1, a, b, (wrapK .i64 (16 * hx)), dq, by (simp only [yE, Nat.reduceEqDiff, Nat.reduceAdd, reduceCtorEq]; try rfl), by (simp only [yE, Nat.reduceEqDiff, Nat.reduceAdd, reduceCtorEq]; try rfl), by omega⟩
        · have f1 : (0 : Int) ≤ ((5 : Nat) : Int) := by omega
          have f3 : ((5 : Nat) : Int).tmod 2 = 1 := rfl
          have f4 : IntKind.wrap .i64 (((5 : Nat) : Int).tdiv 2) = ((2 : Nat) : Int) := rfl
          have f5 : (0 : Int) ≤ ((2 : Nat) : Int) := by omega
          have f6 : ((2 : Nat) : Int) < ((4 : Nat) : Int) := by omega
          have f7 : eqI 1 0 = false := rfl
          have z2 : ((2 : Int) = 0) = False := by simp
          have w1 : wrapK .i64 (((5 : Nat) : Int) + 1) = ((5 + 1 : Nat) : Int) := rfl
          simp -implicitDefEqProofs only [↓yP, yT, Nat.reduceAdd, Nat.reduceMul, Nat.reduceSub, Nat.reduceLeDiff, Nat.reduceEqDiff, reduceCtorEq, Nat.reduceBEq, opLen.eq_1, xindex.eq_1, xslice.eq_1, Int.toNat_natCast, t6, f1, f3, f4, f5, f6, f7, z2, w1, Nat.reduceLT]
          refine ⟨dd - 1, [0, 1, 2], by omega, by decide, pinned_zero _, 5 + 1, a, b, (wrapK .i64 (c + hx)), dq, by (simp only [yE, Nat.reduceEqDiff, Nat.reduceAdd, reduceCtorEq]; try rfl), by (simp only [yE, Nat.reduceEqDiff, Nat.reduceAdd, reduceCtorEq]; try rfl), by omega⟩
        · have f1 : (0 : Int) ≤ ((6 : Nat) : Int) := by omega
          have f3 : ((6 : Nat) : Int).tmod 2 = 0 := rfl
          have f4 : IntKind.wrap .i64 (((6 : Nat) : Int).tdiv 2) = ((3 : Nat) : Int) := rfl
          have f5 : (0 : Int) ≤ ((3 : Nat) : Int) := by omega
          have f6 : ((3 : Nat) : Int) < ((4 : Nat) : Int) := by omega
          have f7 : eqI 0 0 = true := rfl
          have z2 : ((2 : Int) = 0) = False := by simp
          have w1 : wrapK .i64 (((6 : Nat) : Int) + 1) = ((6 + 1 : Nat) : Int) := rfl
          simp -implicitDefEqProofs only [↓yP, yT, Nat.reduceAdd, Nat.reduceMul, Nat.reduceSub, Nat.reduceLeDiff, Nat.reduceEqDiff, reduceCtorEq, Nat.reduceBEq, opLen.eq_1, xindex.eq_1, xslice.eq_1, Int.toNat_natCast, t6, f1, f3, f4, f5, f6, f7, z2, w1, Nat.reduceLT]
          refine ⟨dd - 1, [0, 1, 2], by omega, by decide, pinned_zero _, 6 + 1, a, b, c, (wrapK .i64 (16 * hx)), by (simp only [yE, Nat.reduceEqDiff, Nat.reduceAdd, reduceCtorEq]; try rfl), by (simp only [yE, Nat.reduceEqDiff, Nat.reduceAdd, reduceCtorEq]; try rfl), by omega⟩
        · have f1 : (0 : Int) ≤ ((7 : Nat) : Int) := by omega
          have f3 : ((7 : Nat) : Int).tmod 2 = 1 := rfl
          have f4 : IntKind.wrap .i64 (((7 : Nat) : Int).tdiv 2) = ((3 : Nat) : Int) := rfl
          have f5 : (0 : Int) ≤ ((3 : Nat) : Int) := by omega
          have f6 : ((3 : Nat) : Int) < ((4 : Nat) : Int) := by omega
          have f7 : eqI 1 0 = false := rfl
          have z2 : ((2 : Int) = 0) = False := by simp
          have w1 : wrapK .i64 (((7 : Nat) : Int) + 1) = ((7 + 1 : Nat) : Int) := rfl
          simp -implicitDefEqProofs only [↓yP, yT, Nat.reduceAdd, Nat.reduceMul, Nat.reduceSub, Nat.reduceLeDiff, Nat.reduceEqDiff, reduceCtorEq, Nat.reduceBEq, opLen.eq_1, xindex.eq_1, xslice.eq_1, Int.toNat_natCast, t6, f1, f3, f4, f5, f6, f7, z2, w1, Nat.reduceLT]
          refine ⟨dd - 1, [0, 1, 2], by omega, by decide, pinned_zero _, 7 + 1, a, b, c, (wrapK .i64 (dq + hx)), by (simp only [yE, Nat.reduceEqDiff, Nat.reduceAdd, reduceCtorEq]; try rfl), by (simp only [yE, Nat.reduceEqDiff, Nat.reduceAdd, reduceCtorEq]; try rfl), by omega⟩
    · have u1 : leI ((strOf t.text).length : Nat) (i : Nat) = true := leI_true (by omega)
      simp -implicitDefEqProofs only [↓yP, yT, Nat.reduceAdd, Nat.reduceMul, Nat.reduceSub, Nat.reduceLeDiff, Nat.reduceEqDiff, reduceCtorEq, Nat.reduceBEq, u1, Nat.reduceLT]
      exact ⟨_, _, _, _, true, rfl, fun _ => .inr (of_eqT q4)⟩
  | false =>
  cases n8 : eqI ((strOf t.text).length : Nat) 8 with
  | true =>
    have hn := of_eqT n8
    have t6 : leI 6 ((strOf t.text).length : Nat) = true := leI_true (by omega)
    simp -implicitDefEqProofs only [↓yP, yT, Nat.reduceAdd, Nat.reduceMul, Nat.reduceSub, Nat.reduceLeDiff, Nat.reduceEqDiff, reduceCtorEq, Nat.reduceBEq, opLen.eq_1, q1, q4, n3, n4, n6, n8, Nat.reduceLT]
    refine Rl_inv (fun d e st => ∃ (i : Nat) (a b c dq : Int), e = ([.c .top, .c (.ptr 0 0 0 0), .c (.ptr 1 0 0 0), .c .top, yd (.int .i64 ((strOf t.text).length : Nat)), .c (.ptr 2 0 0 0), yd (.int .i64 (i : Nat)), .c .top, .c .top, .c .top, .c .top, .c .top, .c .top, .c .top, .c .top, .c .top, .c .top, .c .top, .c .top, .c .top, .c .top, .c .top, .c .top, .c .top, .c .top, .c .top, .c .top, .c .top, .c .top, .c .top, .c .top, .c .top, .c .top, .c .top, .c .top, .c .top, .c .top, .c .top, .c .top, .c .top, .c .top, .c .top, .c .top, .c .top, .c .top, .c .top, .c .top, .c .top, .c .top, .c .top, .c .top, .c .top, .c .top, .c .top, .c .top, .c .top, .c .top, .c .top, .c .top, .c .top, .c .top, .c .top, .c .top, .c .top, .c .top, .c .top, .c .top, .c .top, .c .top, .c .top, .c .top, .c .top, .c .top, .c .top, .c .top, .c .top, .c .top, .c .top, .c .top]) ∧ st = [.box t.cs, .box [.p (.d (.int .i64 0)), .p (.d (.int .i64 0)), .p (.d (.int .i64 0)), .p (.d (.int .i64 0))], .box [.p (.d (.int .i64 a)), .p (.d (.int .i64 b)), .p (.d (.int .i64 c)), .p (.d (.int .i64 dq))]] ∧ i + d = (strOf t.text).length) [false, true, true, false, true, true, true] (strOf t.text).length [0, 1, 2] (by decide) (pinned_zero _) ⟨0, 0, 0, 0, 255, by (simp only [yE, Nat.reduceEqDiff, Nat.reduceAdd, reduceCtorEq]; try rfl), by (simp only [yE, Nat.reduceEqDiff, Nat.reduceAdd, reduceCtorEq]; try rfl), by omega⟩ ?_
    rintro dd e st ⟨i, a, b, c, dq, rfl, rfl, hd⟩
    by_cases hi : i < (strOf t.text).length
    · obtain ⟨ch, hch⟩ := get_lt hi
      have u1 : leI ((strOf t.text).length : Nat) (i : Nat) = false := leI_false (by omega)
      have f1 : (0 : Int) ≤ (i : Nat) := by omega
      simp only [Tok.cs, Tok.pc, List.map_cons, List.map_nil]
      simp -implicitDefEqProofs only [↓yP, yT, Nat.reduceAdd, Nat.reduceMul, Nat.reduceSub, Nat.reduceLeDiff, Nat.reduceEqDiff, reduceCtorEq, Nat.reduceBEq, opLen.eq_1, xindex.eq_1, xslice.eq_1, Int.toNat_natCast, u1, f1, hch]
      refine Rcall_pure (hex17_spec _) (by rfl) fun y hy => ?_
      obtain ⟨hx, rfl⟩ := hy
      cases h0 : leI 0 hx with
      | false =>
        simp -implicitDefEqProofs only [↓yP, yT, Nat.reduceAdd, Nat.reduceMul, Nat.reduceSub, Nat.reduceLeDiff, Nat.reduceEqDiff, reduceCtorEq, Nat.reduceBEq, h0, Nat.reduceLT]
        exact .no rfl
      | true =>
        simp -implicitDefEqProofs only [↓yP, yT, Nat.reduceAdd, Nat.reduceMul, Nat.reduceSub, Nat.reduceLeDiff, Nat.reduceEqDiff, reduceCtorEq, Nat.reduceBEq, h0]
        clear u1 f1 hch h0
        have hj : i = 0 ∨ i = 1 ∨ i = 2 ∨ i = 3 ∨ i = 4 ∨ i = 5 ∨ i = 6 ∨ i = 7 := by omega
        rcases hj with rfl | rfl | rfl | rfl | rfl | rfl | rfl | rfl
        · have f1 : (0 : Int) ≤ ((0 : Nat) : Int) := by omega
          have f3 : ((0 : Nat) : Int).tmod 2 = 0 := rfl
          have f4 : IntKind.wrap .i64 (((0 : Nat) : Int).tdiv 2) = ((0 : Nat) : Int) := rfl
          have f5 : (0 : Int) ≤ ((0 : Nat) : Int) := by omega
          have f6 : ((0 : Nat) : Int) < ((4 : Nat) : Int) := by omega
          have f7 : eqI 0 0 = true := rfl
          have z2 : ((2 : Int) = 0) = False := by simp
          have w1 : wrapK .i64 (((0 : Nat) : Int) + 1) = ((0 + 1 : Nat) : Int) := rfl
          simp -implicitDefEqProofs only [↓yP, yT, Nat.reduceAdd, Nat.reduceMul, Nat.reduceSub, Nat.reduceLeDiff, Nat.reduceEqDiff, reduceCtorEq, Nat.reduceBEq, opLen.eq_1, xindex.eq_1, xslice.eq_1, Int.toNat_natCast, t6, f1, f3, f4, f5, f6, f7, z2, w1, Nat.reduceLT]
          refine ⟨dd - 1, [0, 1, 2], by omega, by decide, pinned_zero _, 0 + 1, (wrapK .i64 (16 * hx)), b, c, dq, by (simp only [yE, Nat.reduceEqDiff, Nat.reduceAdd, reduceCtorEq]; try rfl), by (simp only [yE, Nat.reduceEqDiff, Nat.reduceAdd, reduceCtorEq]; try rfl), by omega⟩
        · have f1 : (0 : Int) ≤ ((1 : Nat) : Int) := by omega
          have f3 : ((1 : Nat) : Int).tmod 2 = 1 := rfl
          have f4 : IntKind.wrap .i64 (((1 : Nat) : Int).tdiv 2) = ((0 : Nat) : Int) := rfl
          have f5 : (0 : Int) ≤ ((0 : Nat) : Int) := by omega
          have f6 : ((0 : Nat) : Int) < ((4 : Nat) : Int) := by omega
          have f7 : eqI 1 0 = false := rfl
          have z2 : ((2 : Int) = 0) = False := by simp
          have w1 : wrapK .i64 (((1 : Nat) : Int) + 1) = ((1 + 1 : Nat) : Int) := rfl
          simp -implicitDefEqProofs only [↓yP, yT, Nat.reduceAdd, Nat.reduceMul, Nat.reduceSub, Nat.reduceLeDiff, Nat.reduceEqDiff, reduceCtorEq, Nat.reduceBEq, opLen.eq_1, xindex.eq_1, xslice.eq_1, Int.toNat_natCast, t6, f1, f3, f4, f5, f6, f7, z2, w1, Nat.reduceLT]
          refine ⟨dd - 1, [0, 1, 2], by omega, by decide, pinned_zero _, 1 + 1, (wrapK .i64 (a + hx)), b, c, dq, by (simp only [yE, Nat.reduceEqDiff, Nat.reduceAdd, reduceCtorEq]; try rfl), by (simp only [yE, Nat.reduceEqDiff, Nat.reduceAdd, reduceCtorEq]; try rfl), by omega⟩
        · have f1 : (0 : Int) ≤ ((2 : Nat) : Int) := by omega
          have f3 : ((2 : Nat) : Int).tmod 2 = 0 := rfl
          have f4 : IntKind.wrap .i64 (((2 : Nat) : Int).tdiv 2) = ((1 : Nat) : Int) := rfl
          have f5 : (0 : Int) ≤ ((1 : Nat) : Int) := by omega
          have f6 : ((1 : Nat) : Int) < ((4 : Nat) : Int) := by omega
          have f7 : eqI 0 0 = true := rfl
          have z2 : ((2 : Int) = 0) = False := by simp
          have w1 : wrapK .i64 (((2 : Nat) : Int) + 1) = ((2 + 1 : Nat) : Int) := rfl
          simp -implicitDefEqProofs only [↓yP, yT, Nat.reduceAdd, Nat.reduceMul, Nat.reduceSub, Nat.reduceLeDiff, Nat.reduceEqDiff, reduceCtorEq, Nat.reduceBEq, opLen.eq_1, xindex.eq_1, xslice.eq_1, Int.toNat_natCast, t6, f1, f3, f4, f5, f6, f7, z2, w1, Nat.reduceLT]
          refine ⟨dd - 1, [0, 1, 2], by omega, by decide, pinned_zero _, 2 + 1, a, (wrapK .i64 (16 * hx)), c, dq, by (simp only [yE, Nat.reduceEqDiff, Nat.reduceAdd, reduceCtorEq]; try rfl), by (simp only [yE, Nat.reduceEqDiff, Nat.reduceAdd, reduceCtorEq]; try rfl), by omega⟩
        · have f1 : (0 : Int) ≤ ((3 : Nat) : Int) := by omega
          have f3 : ((3 : Nat) : Int).tmod 2 = 1 := rfl
          have f4 : IntKind.wrap .i64 (((3 : Nat) : Int).tdiv 2) = ((1 : Nat) : Int) := rfl
          have f5 : (0 : Int) ≤ ((1 : Nat) : Int) := by omega
          have f6 : ((1 : Nat) : Int) < ((4 : Nat) : Int) := by omega
          have f7 : eqI 1 0 = false := rfl
          have z2 : ((2 : Int) = 0) = False := by simp
          have w1 : wrapK .i64 (((3 : Nat) : Int) + 1) = ((3 + 1 : Nat) : Int) := rfl
          simp -implicitDefEqProofs only [↓yP, yT, Nat.reduceAdd, Nat.reduceMul, Nat.reduceSub, Nat.reduceLeDiff, Nat.reduceEqDiff, reduceCtorEq, Nat.reduceBEq, opLen.eq_1, xindex.eq_1, xslice.eq_1, Int.toNat_natCast, t6, f1, f3, f4, f5, f6, f7, z2, w1, Nat.reduceLT]
          refine ⟨dd - 1, [0, 1, 2], by omega, by decide, pinned_zero _, 3 + 1, a, (wrapK .i64 (b + hx)), c, dq, by (simp only [yE, Nat.reduceEqDiff, Nat.reduceAdd, reduceCtorEq]; try rfl), by (simp only [yE, Nat.reduceEqDiff, Nat.reduceAdd, reduceCtorEq]; try rfl), by omega⟩
        · have f1 : (0 : Int) ≤ ((4 : Nat) : Int) := by omega
          have f3 : ((4 : Nat) : Int).tmod 2 = 0 := rfl
          have f4 : IntKind.wrap .i64 (((4 : Nat) : Int).tdiv 2) = ((2 : Nat) : Int) := rfl
          have f5 : (0 : Int) ≤ ((2 : Nat) : Int) := by omega
          have f6 : ((2 : Nat) : Int) < ((4 : Nat) : Int) := by omega
          have f7 : eqI 0 0 = true := rfl
          have z2 : ((2 : Int) = 0) = False := by simp
          have w1 : wrapK .i64 (((4 : Nat) : Int) + 1) = ((4 + 1 : Nat) : Int) := rfl
          simp -implicitDefEqProofs only [↓yP, yT, Nat.reduceAdd, Nat.reduceMul, Nat.reduceSub, Nat.reduceLeDiff, Nat.reduceEqDiff, reduceCtorEq, Nat.reduceBEq, opLen.eq_1, xindex.eq_1, xslice.eq_1, Int.toNat_natCast, t6, f1, f3, f4, f5, f6, f7, z2, w1, Nat.reduceLT]
          refine ⟨dd - 1, [0, 1, 2], by omega, by decide, pinned_zero _, 4 + 1, a, b, (wrapK .i64 (16 * hx)), dq, by (simp only [yE, Nat.reduceEqDiff, Nat.reduceAdd, reduceCtorEq]; try rfl), by (simp only [yE, Nat.reduceEqDiff, Nat.reduceAdd, reduceCtorEq]; try rfl), by omega⟩
        · have f1 : (0 : Int) ≤ ((5 : Nat) : Int) := by omega
          have f3 : ((5 : Nat) : Int).tmod 2 = 1 := rfl
          have f4 : IntKind.wrap .i64 (((5 : Nat) : Int).tdiv 2) = ((2 : Nat) : Int) := rfl
          have f5 : (0 : Int) ≤ ((2 : Nat) : Int) := by omega
          have f6 : ((2 : Nat) : Int) < ((4 : Nat) : Int) := by omega
          have f7 : eqI 1 0 = false := rfl
          have z2 : ((2 : Int) = 0) = False := by simp
          have w1 : wrapK .i64 (((5 : Nat) : Int) + 1) = ((5 + 1 : Nat) : Int) := rfl
          simp -implicitDefEqProofs only [↓yP, yT, Nat.reduceAdd, Nat.reduceMul, Nat.reduceSub, Nat.reduceLeDiff, Nat.reduceEqDiff, reduceCtorEq, Nat.reduceBEq, opLen.eq_1, xindex.eq_1, xslice.eq_1, Int.toNat_natCast, t6, f1, f3, f4, f5, f6, f7, z2, w1, Nat.reduceLT]
          refine ⟨dd - 1, [0, 1, 2], by omega, by decide, pinned_zero _, 5 + 1, a, b, (wrapK .i64 (c + hx)), dq, by (simp only [yE, Nat.reduceEqDiff, Nat.reduceAdd, reduceCtorEq]; try rfl), by (simp only [yE, Nat.reduceEqDiff, Nat.reduceAdd, reduceCtorEq]; try rfl), by omega⟩
        · have f1 : (0 : Int) ≤ ((6 : Nat) : Int) := by omega
          have f3 : ((6 : Nat) : Int).tmod 2 = 0 := rfl
          have f4 : IntKind.wrap .i64 (((6 : Nat) : Int).tdiv 2) = ((3 : Nat) : Int) := rfl
          have f5 : (0 : Int) ≤ ((3 : Nat) : Int) := by omega
          have f6 : ((3 : Nat) : Int) < ((4 : Nat) : Int) := by omega
          have f7 : eqI 0 0 = true := rfl
          have z2 : ((2 : Int) = 0) = False := by simp
          have w1 : wrapK .i64 (((6 : Nat) : Int) + 1) = ((6 + 1 : Nat) : Int) := rfl
          simp -implicitDefEqProofs only [↓yP, yT, Nat.reduceAdd, Nat.reduceMul, Nat.reduceSub, Nat.reduceLeDiff, Nat.reduceEqDiff, reduceCtorEq, Nat.reduceBEq, opLen.eq_1, xindex.eq_1, xslice.eq_1, Int.toNat_natCast, t6, f1, f3, f4, f5, f6, f7, z2, w1, Nat.reduceLT]
          refine ⟨dd - 1, [0, 1, 2], by omega, by decide, pinned_zero _, 6 + 1, a, b, c, (wrapK .i64 (16 * hx)), by (simp only [yE, Nat.reduceEqDiff, Nat.reduceAdd, reduceCtorEq]; try rfl), by (simp only [yE, Nat.reduceEqDiff, Nat.reduceAdd, reduceCtorEq]; try rfl), by omega⟩
        · have f1 : (0 : Int) ≤ ((7 : Nat) : Int) := by omega
          have f3 : ((7 : Nat) : Int).tmod 2 = 1 := rfl
          have f4 : IntKind.wrap .i64 (((7 : Nat) : Int).tdiv 2) = ((3 : Nat) : Int) := rfl
          have f5 : (0 : Int) ≤ ((3 : Nat) : Int) := by omega
          have f6 : ((3 : Nat) : Int) < ((4 : Nat) : Int) := by omega
          have f7 : eqI 1 0 = false := rfl
          have z2 : ((2 : Int) = 0) = False := by simp
          have w1 : wrapK .i64 (((7 : Nat) : Int) + 1) = ((7 + 1 : Nat) : Int) := rfl
          simp -implicitDefEqProofs only [↓yP, yT, Nat.reduceAdd, Nat.reduceMul, Nat.reduceSub, Nat.reduceLeDiff, Nat.reduceEqDiff, reduceCtorEq, Nat.reduceBEq, opLen.eq_1, xindex.eq_1, xslice.eq_1, Int.toNat_natCast, t6, f1, f3, f4, f5, f6, f7, z2, w1, Nat.reduceLT]
          refine ⟨dd - 1, [0, 1, 2], by omega, by decide, pinned_zero _, 7 + 1, a, b, c, (wrapK .i64 (dq + hx)), by (simp only [yE, Nat.reduceEqDiff, Nat.reduceAdd, reduceCtorEq]; try rfl), by (simp only [yE, Nat.reduceEqDiff, Nat.reduceAdd, reduceCtorEq]; try rfl), by omega⟩
    · have u1 : leI ((strOf t.text).length : Nat) (i : Nat) = true := leI_true (by omega)
      simp -implicitDefEqProofs only [↓yP, yT, Nat.reduceAdd, Nat.reduceMul, Nat.reduceSub, Nat.reduceLeDiff, Nat.reduceEqDiff, reduceCtorEq, Nat.reduceBEq, u1, Nat.reduceLT]
      exact ⟨_, _, _, _, true, rfl, fun _ => .inr (of_eqT q4)⟩
  | false =>
    simp -implicitDefEqProofs only [↓yP, yT, Nat.reduceAdd, Nat.reduceMul, Nat.reduceSub, Nat.reduceLeDiff, Nat.reduceEqDiff, reduceCtorEq, Nat.reduceBEq, opLen.eq_1, q1, q4, n3, n4, n6, n8, Nat.reduceLT]
    exact .no rfl
end Go.Vx.Seat
end
/- Colours, marked. -/
section
open Go Go.Vx Go.Proofs
set_option linter.unusedSimpArgs false
set_option linter.unusedVariables false
set_option maxRecDepth 20000
set_option maxHeartbeats 4000000
namespace Go.Vx.Seat
attribute [local congr] Rg_at Rt_at Ro_at Ri_at Rc_at Rto_at Rtk_at Rtf_at Rti_at
attribute [local irreducible] Rg Rt Ro Ri Rc Rto Rtk Rtf Rti Rw Rl Rd Rcall Rtcall kf
theorem fn30 : nth C1.P.funcs.toList 30 = some Try.f30 := by kernel_rfl
theorem fn17 : nth C1.P.funcs.toList 17 = some Try.f17 := by kernel_rfl
theorem colonsTo_mem {ts : List Tok} {n : Nat} {c : Int} (h : c ∈ colonsTo ts n) : ∃ k : Nat, c = (k : Nat) ∧ k < n := by
  simp only [colonsTo, List.mem_map, List.mem_filter, List.mem_range] at h
  obtain ⟨k, ⟨h1, _⟩, h2⟩ := h
  exact ⟨k, h2.symm, h1⟩
def colTok (a b c d f : Int) : Tok := ⟨26, ⟨#[]⟩, ⟨#[]⟩, false, ⟨#[]⟩, ⟨#[]⟩, false, false, a, b, c, d, f⟩
/-- Tokens, some names and hashes of them turned to colours. -/
def Marked (l out : List Tok) : Prop := out.length = l.length ∧ ∀ (i : Nat) (t : Tok), l[i]? = some t → ∃ u : Tok, out[i]? = some u ∧ (u = t ∨ ((t.kind = 1 ∨ t.kind = 4) ∧ u.kind = 26 ∧ u.start = t.start))
theorem Marked.refl (l : List Tok) : Marked l l := ⟨rfl, fun i t h => ⟨t, h, .inl rfl⟩⟩
theorem Marked.set {l out : List Tok} (h : Marked l out) {k : Nat} {t : Tok} {a b c d : Int} (ht : l[k]? = some t) (hk : t.kind = 1 ∨ t.kind = 4) : Marked l (out.set k (colTok a b c d t.start)) := by
  refine ⟨by simp [h.1], fun i v hv => ?_⟩
  by_cases hik : i = k
  · subst hik
    rw [ht] at hv; cases hv
    have : i < out.length := by rw [h.1]; exact (List.getElem?_eq_some_iff.mp ht).1
    exact ⟨colTok a b c d t.start, by rw [List.getElem?_set]; simp [this], .inr ⟨hk, rfl, rfl⟩⟩
  · obtain ⟨u, hu, h2⟩ := h.2 i v hv
    exact ⟨u, by rw [List.getElem?_set, if_neg (Ne.symm hik)]; exact hu, h2⟩
theorem mark_spec (l : List Tok) (hl : l.length ≤ 1000000) (htx : ∀ t, t ∈ l → (strOf t.text).length ≤ 10000000) : PCall C1 30 [.c (.p (rT l))] fun y => ∃ out : List Tok, y = .c (.p (rT out)) ∧ Marked l out := by
  have b0 : l.length * 128 ≤ 70368744177664 := by omega
  have hcl := colonsTo_length l l.length
  refine Pf (by rfl) (by rfl) fn30 (by rfl) ?_
  simp only [Try.f30, List.length_cons, List.length_nil, List.replicate, List.cons_append, List.nil_append]
  simp -implicitDefEqProofs only [↓yP, yT, Nat.reduceAdd, Nat.reduceMul, Nat.reduceSub, Nat.reduceLeDiff, Nat.reduceEqDiff, reduceCtorEq, Nat.reduceBEq, b0]
  refine Rcall_pure (colons_spec l hl) (by rfl) fun y hy => ?_
  subst hy
  simp -implicitDefEqProofs only [↓yP, yT, Nat.reduceAdd, Nat.reduceMul, Nat.reduceSub, Nat.reduceLeDiff, Nat.reduceEqDiff, reduceCtorEq, Nat.reduceBEq]
  refine Rcall_pure (nest_spec l hl) (by rfl) fun y hy => ?_
  subst hy
  have hcm : ∀ c, c ∈ colonsTo l l.length → ∃ k : Nat, c = (k : Nat) ∧ k < l.length := fun c hc => colonsTo_mem hc
  generalize colonsTo l l.length = cs at hcl hcm ⊢
  simp -implicitDefEqProofs only [↓yP, yT, Nat.reduceAdd, Nat.reduceMul, Nat.reduceSub, Nat.reduceLeDiff, Nat.reduceEqDiff, reduceCtorEq, Nat.reduceBEq]
  refine Rl_inv (fun d e s => ∃ (i : Nat) (out : List Tok), e = ([.c (.p (rT l)), .c .top, .c .top, .c (.own 0 13 0 l.length), .c (.p (rI cs)), .c (.p (rII (nest l))), yd (.int .i64 (i : Nat)), .c .top, .c .top, .c .top, .c .top, .c .top, .c .top, .c .top, .c .top, .c .top, .c .top, .c .top, .c .top, .c .top, .c .top, .c .top, .c .top, .c .top, .c .top, .c .top, .c .top, .c .top, .c .top, .c .top, .c .top, .c .top, .c .top, .c .top, .c .top, .c .top, .c .top, .c .top, .c .top, .c .top, .c .top, .c .top, .c .top, .c .top, .c .top, .c .top, .c .top, .c .top, .c .top, .c .top, .c .top, .c .top, .c .top, .c .top, .c .top, .c .top, .c .top, .c .top, .c .top, .c .top, .c .top, .c .top, .c .top, .c .top, .c .top, .c .top, .c .top, .c .top, .c .top, .c .top, .c .top, .c .top, .c .top, .c .top, .c .top, .c .top, .c .top, .c .top, .c .top, .c .top, .c .top, .c .top, .c .top, .c .top, .c .top, .c .top, .c .top, .c .top, .c .top, .c .top, .c .top, .c .top, .c .top, .c .top, .c .top, .c .top, .c .top, .c .top, .c .top, .c .top, .c .top, .c .top, .c .top, .c .top, .c .top]) ∧ s = [.row 13 (out.map Tok.pc)] ∧ i + d = cs.length ∧ Marked l out) [true, false, false, true, true, true, true] cs.length [0] (by decide) (pinned_zero _) ⟨0, l, by (simp only [yE, Nat.reduceEqDiff, Nat.reduceAdd, reduceCtorEq]; try rfl), by (simp only [yE, Nat.reduceEqDiff, Nat.reduceAdd, reduceCtorEq]; try rfl), by omega, .refl l⟩ ?_
  rintro d e s ⟨i, out, rfl, rfl, hd, hm⟩
  by_cases hi : i < cs.length
  · obtain ⟨c, hc⟩ := get_lt hi
    obtain ⟨at', rfl, hatl⟩ := hcm c (List.mem_of_getElem? hc)
    have t1 : leI (cs.length : Nat) (i : Nat) = false := leI_false (by omega)
    have w1 : wrapK .i64 ((i : Int) + 1) = ((i + 1 : Nat) : Int) := wrap_succ (by omega)
    have wa : wrapK .i64 ((at' : Int) + 1) = ((at' + 1 : Nat) : Int) := wrap_succ (by omega)
    have wb : wrapK .i64 ((at' : Int) - 1) = (at' : Int) - 1 := wrap_int (by omega) (by omega)
    simp -implicitDefEqProofs only [↓yP, yT, Nat.reduceAdd, Nat.reduceMul, Nat.reduceSub, Nat.reduceLeDiff, Nat.reduceEqDiff, reduceCtorEq, Nat.reduceBEq, t1, get_map hc, ei, nn, wb]
    refine Rl_inv (fun d1 e s => ∃ (j : Nat), e = ([.c (.p (rT l)), .c .top, .c .top, .c (.own 0 13 0 l.length), .c (.p (rI cs)), .c (.p (rII (nest l))), yd (.int .i64 (i : Nat)), yd (.int .i64 (at' : Nat)), yd (.int .i64 ((j : Int) - 1)), .c .top, .c .top, .c .top, .c .top, .c .top, .c .top, .c .top, .c .top, .c .top, .c .top, .c .top, .c .top, .c .top, .c .top, .c .top, .c .top, .c .top, .c .top, .c .top, .c .top, .c .top, .c .top, .c .top, .c .top, .c .top, .c .top, .c .top, .c .top, .c .top, .c .top, .c .top, .c .top, .c .top, .c .top, .c .top, .c .top, .c .top, .c .top, .c .top, .c .top, .c .top, .c .top, .c .top, .c .top, .c .top, .c .top, .c .top, .c .top, .c .top, .c .top, .c .top, .c .top, .c .top, .c .top, .c .top, .c .top, .c .top, .c .top, .c .top, .c .top, .c .top, .c .top, .c .top, .c .top, .c .top, .c .top, .c .top, .c .top, .c .top, .c .top, .c .top, .c .top, .c .top, .c .top, .c .top, .c .top, .c .top, .c .top, .c .top, .c .top, .c .top, .c .top, .c .top, .c .top, .c .top, .c .top, .c .top, .c .top, .c .top, .c .top, .c .top, .c .top, .c .top, .c .top, .c .top, .c .top]) ∧ s = [.row 13 (out.map Tok.pc)] ∧ j = d1 ∧ j ≤ at') [true, false, false, true, true, true, true, true, true] at' [0] (by decide) (pinned_zero _) ⟨at', by (simp only [yE, Nat.reduceEqDiff, Nat.reduceAdd, reduceCtorEq]; try rfl), by (simp only [yE, Nat.reduceEqDiff, Nat.reduceAdd, reduceCtorEq]; try rfl), rfl, by omega⟩ ?_
    rintro d1 e s ⟨j, rfl, rfl, hj1, hj2⟩
    cases j with
    | zero =>
      have t3 : leI 0 (((0 : Nat) : Int) - 1) = false := leI_false (by omega)
      simp -implicitDefEqProofs only [↓yP, yT, Nat.reduceAdd, Nat.reduceMul, Nat.reduceSub, Nat.reduceLeDiff, Nat.reduceEqDiff, reduceCtorEq, Nat.reduceBEq, t3, w1]
      refine ⟨d - 1, [0], by omega, by decide, pinned_zero _, i + 1, out, by (simp only [yE, Nat.reduceEqDiff, Nat.reduceAdd, reduceCtorEq]; try rfl), by (simp only [yE, Nat.reduceEqDiff, Nat.reduceAdd, reduceCtorEq]; try rfl), by omega, hm⟩
    | succ j =>
      have e7 : ((j + 1 : Nat) : Int) - 1 = (j : Nat) := by omega
      have t3 : leI 0 (j : Nat) = true := leI_true (by omega)
      have w8 : wrapK .i64 ((j : Int) - 1) = (j : Int) - 1 := wrap_int (by omega) (by omega)
      obtain ⟨v, hv⟩ := get_lt (show j < l.length by omega)
      rw [e7]
      simp -implicitDefEqProofs only [↓yP, yT, Nat.reduceAdd, Nat.reduceMul, Nat.reduceSub, Nat.reduceLeDiff, Nat.reduceEqDiff, reduceCtorEq, Nat.reduceBEq, t3, get_map hv, Tok.pc, nn]
      refine Rcall_pure (quiet_spec v) (by rfl) fun y hy => ?_
      subst hy
      cases hq : quiet v.kind with
      | true =>
        simp -implicitDefEqProofs only [↓yP, yT, Nat.reduceAdd, Nat.reduceMul, Nat.reduceSub, Nat.reduceLeDiff, Nat.reduceEqDiff, reduceCtorEq, Nat.reduceBEq, w8]
        refine ⟨d1 - 1, [0], by omega, by decide, pinned_zero _, j, by (simp only [yE, Nat.reduceEqDiff, Nat.reduceAdd, reduceCtorEq]; try rfl), by (simp only [yE, Nat.reduceEqDiff, Nat.reduceAdd, reduceCtorEq]; try rfl), by omega, by omega⟩
      | false =>
        simp -implicitDefEqProofs only [↓yP, yT, Nat.reduceAdd, Nat.reduceMul, Nat.reduceSub, Nat.reduceLeDiff, Nat.reduceEqDiff, reduceCtorEq, Nat.reduceBEq, t3, get_map hv, Tok.pc, nn]
        refine Rcall_pure (coloured_spec v.text (htx v (List.mem_of_getElem? hv))) (by rfl) fun y hy => ?_
        obtain ⟨b, rfl⟩ := hy
        cases b with
        | false =>
          simp -implicitDefEqProofs only [↓yP, yT, Nat.reduceAdd, Nat.reduceMul, Nat.reduceSub, Nat.reduceLeDiff, Nat.reduceEqDiff, reduceCtorEq, Nat.reduceBEq, w1]
          refine ⟨d - 1, [0], by omega, by decide, pinned_zero _, i + 1, out, by (simp only [yE, Nat.reduceEqDiff, Nat.reduceAdd, reduceCtorEq]; try rfl), by (simp only [yE, Nat.reduceEqDiff, Nat.reduceAdd, reduceCtorEq]; try rfl), by omega, hm⟩
        | true =>
          simp -implicitDefEqProofs only [↓yP, yT, Nat.reduceAdd, Nat.reduceMul, Nat.reduceSub, Nat.reduceLeDiff, Nat.reduceEqDiff, reduceCtorEq, Nat.reduceBEq, wa]
          refine Rl_inv (fun d2 e s => ∃ (k : Nat) (out : List Tok), e = ([.c (.p (rT l)), .c .top, .c .top, .c (.own 0 13 0 l.length), .c (.p (rI cs)), .c (.p (rII (nest l))), yd (.int .i64 (i : Nat)), yd (.int .i64 (at' : Nat)), .c .top, yd (.int .i64 (k : Nat)), .c .top, .c .top, .c .top, .c .top, .c .top, .c .top, .c .top, .c .top, .c .top, .c .top, .c .top, .c .top, .c .top, .c .top, .c .top, .c .top, .c .top, .c .top, .c .top, .c .top, .c .top, .c .top, .c .top, .c .top, .c .top, .c .top, .c .top, .c .top, .c .top, .c .top, .c .top, .c .top, .c .top, .c .top, .c .top, .c .top, .c .top, .c .top, .c .top, .c .top, .c .top, .c .top, .c .top, .c .top, .c .top, .c .top, .c .top, .c .top, .c .top, .c .top, .c .top, .c .top, .c .top, .c .top, .c .top, .c .top, .c .top, .c .top, .c .top, .c .top, .c .top, .c .top, .c .top, .c .top, .c .top, .c .top, .c .top, .c .top, .c .top, .c .top, .c .top, .c .top, .c .top, .c .top, .c .top, .c .top, .c .top, .c .top, .c .top, .c .top, .c .top, .c .top, .c .top, .c .top, .c .top, .c .top, .c .top, .c .top, .c .top, .c .top, .c .top, .c .top, .c .top, .c .top, .c .top]) ∧ s = [.row 13 (out.map Tok.pc)] ∧ k + d2 = l.length ∧ Marked l out) [true, false, false, true, true, true, true, true, false, true] (l.length - (at' + 1)) [0] (by decide) (pinned_zero _) ⟨at' + 1, out, by (simp only [yE, Nat.reduceEqDiff, Nat.reduceAdd, reduceCtorEq]; try rfl), by (simp only [yE, Nat.reduceEqDiff, Nat.reduceAdd, reduceCtorEq]; try rfl), by omega, hm⟩ ?_
          rintro d2 e s ⟨k, out, rfl, rfl, hk, hm⟩
          by_cases hkl : k < l.length
          · obtain ⟨t, ht⟩ := get_lt hkl
            have hnk := nest_at l hkl
            have hna := nest_at l hatl
            have t2 : leI (l.length : Nat) (k : Nat) = false := leI_false (by omega)
            have v1 : wrapK .i64 ((k : Int) + 1) = ((k + 1 : Nat) : Int) := wrap_succ (by omega)
            simp -implicitDefEqProofs only [↓yP, yT, Nat.reduceAdd, Nat.reduceMul, Nat.reduceSub, Nat.reduceLeDiff, Nat.reduceEqDiff, reduceCtorEq, Nat.reduceBEq, t2]
            refine Rd_calm (by rw [C1_P]; kernel_rfl) ?_
            cases h5 : eqI ((openAt l k).length : Nat) ((openAt l at').length : Nat) with
            | false =>
              simp -implicitDefEqProofs only [↓yP, yT, Nat.reduceAdd, Nat.reduceMul, Nat.reduceSub, Nat.reduceLeDiff, Nat.reduceEqDiff, reduceCtorEq, Nat.reduceBEq, get_map hnk, get_map hna, e2, h5, v1, nn]
              refine ⟨d2 - 1, [0], by omega, by decide, pinned_zero _, k + 1, out, by (simp only [yE, Nat.reduceEqDiff, Nat.reduceAdd, reduceCtorEq]; try rfl), by (simp only [yE, Nat.reduceEqDiff, Nat.reduceAdd, reduceCtorEq]; try rfl), by omega, hm⟩
            | true =>
              cases h6 : eqI t.kind 17 with
              | true =>
                simp -implicitDefEqProofs only [↓yP, yT, Nat.reduceAdd, Nat.reduceMul, Nat.reduceSub, Nat.reduceLeDiff, Nat.reduceEqDiff, reduceCtorEq, Nat.reduceBEq, get_map hnk, get_map hna, e2, h5, nn, get_map ht, Tok.pc, h6, w1]
                refine ⟨d - 1, [0], by omega, by decide, pinned_zero _, i + 1, out, by (simp only [yE, Nat.reduceEqDiff, Nat.reduceAdd, reduceCtorEq]; try rfl), by (simp only [yE, Nat.reduceEqDiff, Nat.reduceAdd, reduceCtorEq]; try rfl), by omega, hm⟩
              | false =>
              cases h7 : eqI t.kind 20 with
              | true =>
                simp -implicitDefEqProofs only [↓yP, yT, Nat.reduceAdd, Nat.reduceMul, Nat.reduceSub, Nat.reduceLeDiff, Nat.reduceEqDiff, reduceCtorEq, Nat.reduceBEq, get_map hnk, get_map hna, e2, h5, nn, get_map ht, Tok.pc, h6, h7, w1]
                refine ⟨d - 1, [0], by omega, by decide, pinned_zero _, i + 1, out, by (simp only [yE, Nat.reduceEqDiff, Nat.reduceAdd, reduceCtorEq]; try rfl), by (simp only [yE, Nat.reduceEqDiff, Nat.reduceAdd, reduceCtorEq]; try rfl), by omega, hm⟩
              | false =>
                simp -implicitDefEqProofs only [↓yP, yT, Nat.reduceAdd, Nat.reduceMul, Nat.reduceSub, Nat.reduceLeDiff, Nat.reduceEqDiff, reduceCtorEq, Nat.reduceBEq, get_map hnk, get_map hna, e2, h5, nn, get_map ht, Tok.pc, h6, h7]
                refine Rcall_pure (readColour_spec t (htx t (List.mem_of_getElem? ht))) (by rfl) fun y hy => ?_
                obtain ⟨a, b, c, q, ok, rfl, hok⟩ := hy
                simp only [c4]
                cases ok with
                | false =>
                  simp -implicitDefEqProofs only [↓yP, yT, Nat.reduceAdd, Nat.reduceMul, Nat.reduceSub, Nat.reduceLeDiff, Nat.reduceEqDiff, reduceCtorEq, Nat.reduceBEq, v1, Nat.reduceLT]
                  refine ⟨d2 - 1, [0], by omega, by decide, pinned_zero _, k + 1, out, by (simp only [yE, Nat.reduceEqDiff, Nat.reduceAdd, reduceCtorEq]; try rfl), by (simp only [yE, Nat.reduceEqDiff, Nat.reduceAdd, reduceCtorEq]; try rfl), by omega, hm⟩
                | true =>
                  obtain ⟨u, hu, _⟩ := hm.2 k t ht
                  have c1 : (0 : Int) ≤ (k : Nat) := by omega
                  have c2 : ((k : Nat) : Int) < (l.length : Nat) := by omega
                  simp -implicitDefEqProofs only [↓yP, yT, Nat.reduceAdd, Nat.reduceMul, Nat.reduceSub, Nat.reduceLeDiff, Nat.reduceEqDiff, reduceCtorEq, Nat.reduceBEq, Nat.reduceLT]
                  refine Rd_trace ?_
                  simp -implicitDefEqProofs only [↓yP, yT, Nat.reduceAdd, Nat.reduceMul, Nat.reduceSub, Nat.reduceLeDiff, Nat.reduceEqDiff, reduceCtorEq, Nat.reduceBEq, rdOf, tgOf, get_map ht, get_map hu, Tok.pc, nn, c1, c2, v1, Nat.reduceLT]
                  refine ⟨d2 - 1, [0], by omega, by decide, pinned_zero _, k + 1, out.set k (colTok a b c q t.start), by (simp only [yE, Nat.reduceEqDiff, Nat.reduceAdd, reduceCtorEq]; try rfl), ?_, by omega, hm.set ht (hok rfl)⟩
                  simp only [yE, Nat.reduceEqDiff, Nat.reduceAdd, reduceCtorEq, List.map_set]; rfl
          · have t2 : leI (l.length : Nat) (k : Nat) = true := leI_true (by omega)
            simp -implicitDefEqProofs only [↓yP, yT, Nat.reduceAdd, Nat.reduceMul, Nat.reduceSub, Nat.reduceLeDiff, Nat.reduceEqDiff, reduceCtorEq, Nat.reduceBEq, t2, w1]
            refine ⟨d - 1, [0], by omega, by decide, pinned_zero _, i + 1, out, by (simp only [yE, Nat.reduceEqDiff, Nat.reduceAdd, reduceCtorEq]; try rfl), by (simp only [yE, Nat.reduceEqDiff, Nat.reduceAdd, reduceCtorEq]; try rfl), by omega, hm⟩
  · have t1 : leI (cs.length : Nat) (i : Nat) = true := leI_true (by omega)
    have hol := hm.1
    have hlt : l.length ≤ out.length := by omega
    have htk : (out.map Tok.pc).take l.length = out.map Tok.pc := List.take_of_length_le (by simp; omega)
    simp -implicitDefEqProofs only [↓yP, yT, Nat.reduceAdd, Nat.reduceMul, Nat.reduceSub, Nat.reduceLeDiff, Nat.reduceEqDiff, reduceCtorEq, Nat.reduceBEq, t1, htk, hlt]
    exact ⟨out, rfl, hm⟩
end Go.Vx.Seat
end
/- A style sheet's tokens; CtreeBack: the walk. -/
section
open Go Go.Vx Go.Proofs
set_option linter.unusedSimpArgs false
set_option linter.unusedVariables false
set_option maxRecDepth 20000
set_option maxHeartbeats 4000000
namespace Go.Vx.Seat
attribute [local congr] Rg_at Rt_at Ro_at Ri_at Rc_at Rto_at Rtk_at Rtf_at Rti_at
attribute [local irreducible] Rg Rt Ro Ri Rc Rto Rtk Rtf Rti Rw Rl Rd Rcall Rtcall kf
theorem fn4 : nth C1.P.funcs.toList 4 = some Try.f4 := by kernel_rfl
theorem Lexed.each {l : List Rn} {i : Nat} {ts : List Tok} (h : Lexed l i ts) : ∀ t, t ∈ ts → (strOf t.text).length ≤ 4 * l.length ∧ (16 ≤ t.kind → t.kind ≤ 24 → t = mkTok t.kind t.start) := by
  induction h with
  | nil => intro t ht; simp at ht
  | @snoc i k ts x t h1 h2 h3 h4 h5 h6 ih =>
    intro u hu
    rcases List.mem_append.mp hu with hu | hu
    · exact ih u hu
    · rw [List.mem_singleton.mp hu]
      refine ⟨h5.text, fun a b => ?_⟩
      have := h5.sign a b
      show { t with start := x.a } = mkTok t.kind x.a
      generalize t.kind = kk at this
      rw [this]; rfl
/-- What the tokens of bytes are. -/
structure CssOf (bs : List Int) (out : List Tok) : Prop where
  len : out.length ≤ bs.length
  signs : Signs out
  how : ∃ (rs : List Rn) (ts vs : List Tok), (Asc bs → rs = ascR bs bs.length) ∧ Lexed rs rs.length ts ∧ ((∀ t, t ∈ ts → quiet t.kind = false) → vs = ts) ∧ Marked vs out
theorem css_spec (bs : List Int) (hl : bs.length ≤ 100000) : PCall C1 17 [.c (.p (rB bs))] fun y => ∃ out : List Tok, y = .c (.p (rT out)) ∧ CssOf bs out := by
  refine Pf (by rfl) (by rfl) fn17 (by rfl) ?_
  simp only [Try.f17, List.length_cons, List.length_nil, List.replicate, List.cons_append, List.nil_append]
  simp -implicitDefEqProofs only [↓yP, yT, Nat.reduceAdd, Nat.reduceMul, Nat.reduceSub, Nat.reduceLeDiff, Nat.reduceEqDiff, reduceCtorEq, Nat.reduceBEq]
  refine Rcall_pure (runes_spec bs (by omega)) (by rfl) fun y hy => ?_
  obtain ⟨rs, rfl, hr1, hr2⟩ := hy
  simp -implicitDefEqProofs only [↓yP, yT, Nat.reduceAdd, Nat.reduceMul, Nat.reduceSub, Nat.reduceLeDiff, Nat.reduceEqDiff, reduceCtorEq, Nat.reduceBEq]
  refine Rcall_pure (clex_spec rs (by omega)) (by rfl) fun y hy => ?_
  obtain ⟨ts, rfl, hlx⟩ := hy
  have hlen := hlx.len
  have heach := hlx.each
  simp -implicitDefEqProofs only [↓yP, yT, Nat.reduceAdd, Nat.reduceMul, Nat.reduceSub, Nat.reduceLeDiff, Nat.reduceEqDiff, reduceCtorEq, Nat.reduceBEq]
  refine Rcall_pure (value_spec ts (by omega) (fun t ht => by have := (heach t ht).1; omega)) (by rfl) fun y hy => ?_
  obtain ⟨vs, rfl, hv1, hv2, hv3⟩ := hy
  have hvs : ∀ t, t ∈ vs → (strOf t.text).length ≤ 10000000 ∧ (16 ≤ t.kind → t.kind ≤ 24 → t = mkTok t.kind t.start) := fun t ht => by
    rcases hv2 t ht with h | ⟨s, f, h1, h2⟩
    · have := heach t h
      exact ⟨by omega, this.2⟩
    · subst h2
      exact ⟨by show (strOf s).length ≤ _; omega, fun h _ => by have h : 16 ≤ (13 : Int) := h; omega⟩
  simp -implicitDefEqProofs only [↓yP, yT, Nat.reduceAdd, Nat.reduceMul, Nat.reduceSub, Nat.reduceLeDiff, Nat.reduceEqDiff, reduceCtorEq, Nat.reduceBEq]
  refine Rcall_pure (mark_spec vs (by omega) (fun t ht => (hvs t ht).1)) (by rfl) fun y hy => ?_
  obtain ⟨out, rfl, hm⟩ := hy
  simp -implicitDefEqProofs only [↓yP, yT, Nat.reduceAdd, Nat.reduceMul, Nat.reduceSub, Nat.reduceLeDiff, Nat.reduceEqDiff, reduceCtorEq, Nat.reduceBEq]
  refine ⟨out, rfl, by have := hm.1; omega, fun u hu h1 h2 => ?_, rs, ts, vs, hr2, hlx, hv3, hm⟩
  obtain ⟨i, hi⟩ := List.getElem?_of_mem hu
  have hil : i < vs.length := by rw [← hm.1]; exact (List.getElem?_eq_some_iff.mp hi).1
  obtain ⟨t, ht⟩ := get_lt hil
  obtain ⟨u', hu', h3⟩ := hm.2 i t ht
  rw [hi] at hu'
  cases hu'
  rcases h3 with rfl | ⟨_, h4, _⟩
  · exact (hvs u (List.mem_of_getElem? ht)).2 h1 h2
  · omega
theorem back_spec (bs : List Int) : PCall C1 4 [.c (.p (rB bs))] fun y => y = yd (.bool true) := by
  refine Pf (by rfl) (by rfl) fn4 (by rfl) ?_
  simp only [Try.f4, List.length_cons, List.length_nil, List.replicate, List.cons_append, List.nil_append]
  simp -implicitDefEqProofs only [↓yP, yT, Nat.reduceAdd, Nat.reduceMul, Nat.reduceSub, Nat.reduceLeDiff, Nat.reduceEqDiff, reduceCtorEq, Nat.reduceBEq]
  refine Rcall_pure alive_spec (by rfl) fun y hy => ?_
  subst hy
  by_cases hl : bs.length ≤ 300
  · have t1 : leI (bs.length : Nat) 300 = true := leI_true (by omega)
    simp -implicitDefEqProofs only [↓yP, yT, Nat.reduceAdd, Nat.reduceMul, Nat.reduceSub, Nat.reduceLeDiff, Nat.reduceEqDiff, reduceCtorEq, Nat.reduceBEq, t1]
    refine Rcall_pure (css_spec bs (by omega)) (by rfl) fun y hy => ?_
    obtain ⟨out, rfl, hc⟩ := hy
    have hol := hc.len
    obtain ⟨w, hw1, hw2⟩ := parse_wt out
    simp -implicitDefEqProofs only [↓yP, yT, Nat.reduceAdd, Nat.reduceMul, Nat.reduceSub, Nat.reduceLeDiff, Nat.reduceEqDiff, reduceCtorEq, Nat.reduceBEq]
    refine Rcall_pure (parseP_spec out (by omega)) (by rfl) fun y hy => ?_
    subst hy
    rw [parse_same]
    simp -implicitDefEqProofs only [↓yP, yT, Nat.reduceAdd, Nat.reduceMul, Nat.reduceSub, Nat.reduceLeDiff, Nat.reduceEqDiff, reduceCtorEq, Nat.reduceBEq]
    refine Rcall_pure (tokensP_spec hw1 (by omega)) (by rfl) fun y hy => ?_
    subst hy
    rw [parse_back hc.signs]
    simp -implicitDefEqProofs only [↓yP, yT, Nat.reduceAdd, Nat.reduceMul, Nat.reduceSub, Nat.reduceLeDiff, Nat.reduceEqDiff, reduceCtorEq, Nat.reduceBEq]
    refine Rcall_pure (sameTok_refl out (by omega)) (by rfl) fun y hy => ?_
    subst hy
    simp -implicitDefEqProofs only [↓yP, yT, Nat.reduceAdd, Nat.reduceMul, Nat.reduceSub, Nat.reduceLeDiff, Nat.reduceEqDiff, reduceCtorEq, Nat.reduceBEq]
  · have t1 : leI (bs.length : Nat) 300 = false := leI_false (by omega)
    simp -implicitDefEqProofs only [↓yP, yT, Nat.reduceAdd, Nat.reduceMul, Nat.reduceSub, Nat.reduceLeDiff, Nat.reduceEqDiff, reduceCtorEq, Nat.reduceBEq, t1]
end Go.Vx.Seat
end
/- What the law's arguments read as: tokens, nodes. -/
section
open Go Go.Vx Go.Proofs
set_option linter.unusedSimpArgs false
set_option linter.unusedVariables false
set_option maxRecDepth 100000
namespace Go.Vx.Seat
theorem ce3 : Try.prog.cellsOf 3 = 1 := by kernel_rfl
theorem ce4 : Try.prog.cellsOf 4 = 1 := by kernel_rfl
theorem ce9 : Try.prog.cellsOf 9 = 1 := by kernel_rfl
theorem ce22 : Try.prog.cellsOf 22 = 1 := by kernel_rfl
theorem ce23 : Try.prog.cellsOf 23 = 1 := by kernel_rfl
theorem ce41 : Try.prog.cellsOf 41 = 3 := by kernel_rfl
theorem ce42 : Try.prog.cellsOf 42 = 4 := by kernel_rfl
theorem ce44 : Try.prog.cellsOf 44 = 13 := by kernel_rfl
theorem ce47 : Try.prog.cellsOf 47 = 9 := by kernel_rfl
theorem be44 : Try.prog.bytesOf 44 = 128 := by kernel_rfl
theorem be47 : Try.prog.bytesOf 47 = 104 := by kernel_rfl
section
variable {D : Type} {enc : TypeId × Value → D} {w : World} {base : Nat}
theorem rd_int {m : Nat} {v : Value} {x : DataW D × List MemPlace} (h : DataW.trod enc Try.prog w 0 (fun _ => true) true m 3 [v] = some x) : ∃ n, v = .int .i64 n := by
  obtain ⟨n, h1, _⟩ := DataW.trod_int Try.underlying3 h
  exact ⟨n, by simpa using h1⟩
theorem rd_bool {m : Nat} {v : Value} {x : DataW D × List MemPlace} (h : DataW.trod enc Try.prog w 0 (fun _ => true) true m 4 [v] = some x) : ∃ b, v = .bool b := by
  obtain ⟨n, h1, _⟩ := DataW.trod_bool Try.underlying4 h
  exact ⟨n, by simpa using h1⟩
theorem rd_str {m : Nat} {v : Value} {x : DataW D × List MemPlace} (h : DataW.trod enc Try.prog w 0 (fun _ => true) true m 9 [v] = some x) : ∃ s, v = .string s := by
  obtain ⟨n, h1, _⟩ := DataW.trod_string Try.underlying9 h
  exact ⟨n, by simpa using h1⟩
theorem rd_num {m : Nat} {a b c : Value} {x : DataW D × List MemPlace} (h : DataW.trod enc Try.prog w 0 (fun _ => true) true m 41 [a, b, c] = some x) : ∃ n s t, a = .bool n ∧ b = .string s ∧ c = .string t := by
  obtain ⟨xs, n, rfl, _, _, hn, hf⟩ := DataW.trod_struct Try.underlying41 h
  match xs, hn with
  | [x0, x1, x2], _ =>
    have f0 : DataW.trod enc Try.prog w 0 (fun _ => true) true n 4 [a] = some x0 := by simpa [ce4] using hf 0 _ rfl
    have f1 : DataW.trod enc Try.prog w 0 (fun _ => true) true n 9 [b] = some x1 := by simpa [ce9] using hf 1 _ rfl
    have f2 : DataW.trod enc Try.prog w 0 (fun _ => true) true n 9 [c] = some x2 := by simpa [ce9] using hf 2 _ rfl
    obtain ⟨_, rfl⟩ := rd_bool f0
    obtain ⟨_, rfl⟩ := rd_str f1
    obtain ⟨_, rfl⟩ := rd_str f2
    exact ⟨_, _, _, rfl, rfl, rfl⟩
theorem rd_col {m : Nat} {a b c d : Value} {x : DataW D × List MemPlace} (h : DataW.trod enc Try.prog w 0 (fun _ => true) true m 42 [a, b, c, d] = some x) : ∃ i j k l, a = .int .i64 i ∧ b = .int .i64 j ∧ c = .int .i64 k ∧ d = .int .i64 l := by
  obtain ⟨xs, n, rfl, _, _, hn, hf⟩ := DataW.trod_array Try.underlying42 h
  match xs, hn with
  | [x0, x1, x2, x3], _ =>
    have f0 : DataW.trod enc Try.prog w 0 (fun _ => true) true n 3 [a] = some x0 := by simpa [ce3] using hf 0 (by omega)
    have f1 : DataW.trod enc Try.prog w 0 (fun _ => true) true n 3 [b] = some x1 := by simpa [ce3] using hf 1 (by omega)
    have f2 : DataW.trod enc Try.prog w 0 (fun _ => true) true n 3 [c] = some x2 := by simpa [ce3] using hf 2 (by omega)
    have f3 : DataW.trod enc Try.prog w 0 (fun _ => true) true n 3 [d] = some x3 := by simpa [ce3] using hf 3 (by omega)
    obtain ⟨_, rfl⟩ := rd_int f0
    obtain ⟨_, rfl⟩ := rd_int f1
    obtain ⟨_, rfl⟩ := rd_int f2
    obtain ⟨_, rfl⟩ := rd_int f3
    exact ⟨_, _, _, _, rfl, rfl, rfl, rfl⟩
theorem lays_tok (m : Nat) : Lays enc Try.prog w base m 44 fun ps => ∃ t : Tok, ps = t.pc := by
  intro cs x φ h hi hx _
  obtain ⟨xs, n, rfl, _, hl, hn, hf⟩ := DataW.trod_struct Try.underlying44 hx
  rw [ce44] at hl
  match cs, hl, xs, hn with
  | [a0, a1, a2, a3, a4, a5, a6, a7, a8, a9, a10, a11, a12], _, [x0, x1, x2, x3, x4, x5, x6, x7], _ =>
    have f0 : DataW.trod enc Try.prog w 0 (fun _ => true) true n 3 [a0] = some x0 := by simpa [ce3] using hf 0 _ rfl
    have f1 : DataW.trod enc Try.prog w 0 (fun _ => true) true n 9 [a1] = some x1 := by simpa [ce9] using hf 1 _ rfl
    have f2 : DataW.trod enc Try.prog w 0 (fun _ => true) true n 9 [a2] = some x2 := by simpa [ce9] using hf 2 _ rfl
    have f3 : DataW.trod enc Try.prog w 0 (fun _ => true) true n 41 [a3, a4, a5] = some x3 := by simpa [ce41] using hf 3 _ rfl
    have f4 : DataW.trod enc Try.prog w 0 (fun _ => true) true n 4 [a6] = some x4 := by simpa [ce4] using hf 4 _ rfl
    have f5 : DataW.trod enc Try.prog w 0 (fun _ => true) true n 4 [a7] = some x5 := by simpa [ce4] using hf 5 _ rfl
    have f6 : DataW.trod enc Try.prog w 0 (fun _ => true) true n 42 [a8, a9, a10, a11] = some x6 := by simpa [ce42] using hf 6 _ rfl
    have f7 : DataW.trod enc Try.prog w 0 (fun _ => true) true n 3 [a12] = some x7 := by simpa [ce3] using hf 7 _ rfl
    obtain ⟨k, rfl⟩ := rd_int f0
    obtain ⟨s1, rfl⟩ := rd_str f1
    obtain ⟨s2, rfl⟩ := rd_str f2
    obtain ⟨b, d, e, rfl, rfl, rfl⟩ := rd_num f3
    obtain ⟨b1, rfl⟩ := rd_bool f4
    obtain ⟨b2, rfl⟩ := rd_bool f5
    obtain ⟨c0, c1, c2, c3, rfl, rfl, rfl, rfl⟩ := rd_col f6
    obtain ⟨s, rfl⟩ := rd_int f7
    exact ⟨φ, h, _, _, hi, .refl _ _, Laid.dry rfl, ⟨k, s1, s2, b, d, e, b1, b2, c0, c1, c2, c3, s⟩, rfl⟩
theorem all_map {α β : Type} {f : α → β} {p : α → Prop} : ∀ {l : List β}, (∀ x, x ∈ l → ∃ a, p a ∧ x = f a) → ∃ ys : List α, (∀ a, a ∈ ys → p a) ∧ l = ys.map f
  | [], _ => ⟨[], by simp, rfl⟩
  | x :: l, h => by
    obtain ⟨a, h1, h2⟩ := h x (List.mem_cons_self ..)
    obtain ⟨ys, h3, h4⟩ := all_map (l := l) fun y hy => h y (List.mem_cons_of_mem _ hy)
    refine ⟨a :: ys, fun b hb => ?_, by rw [h2, h4]; rfl⟩
    rcases List.mem_cons.mp hb with rfl | hb
    · exact h1
    · exact h3 b hb
theorem lays_toks {g : Nat} (hg : ∃ c el fr, w.heap[g]? = some (.cells c el fr)) (m : Nat) : Lays enc Try.prog w base m 22 fun ps => ∃ ts : List Tok, ts.length ≤ maxL ∧ ps = [rT ts] := by
  cases m with
  | zero => intro cs x φ h hi hx _; simp [DataW.trod] at hx
  | succ m =>
    intro cs x φ h hi hx hw
    obtain ⟨φ', h', us, ps, i1, g1, l1, els, rfl, hle, hE⟩ := lays_slice (lays_tok m) Try.underlying22 (by rw [ce44]; omega) hg cs x φ h hi hx hw
    rw [be44] at hle
    unfold reachBytes at hle
    obtain ⟨ts, _, rfl⟩ := all_map (f := Tok.pc) (p := fun _ => True) fun p hp => let ⟨t, ht⟩ := hE p hp; ⟨t, trivial, ht⟩
    exact ⟨φ', h', us, _, i1, g1, l1, ts, by rw [List.length_map] at hle; unfold maxL; omega, by rw [ce44]⟩
theorem lays_node {g : Nat} (hg : ∃ c el fr, w.heap[g]? = some (.cells c el fr)) : ∀ m, Lays enc Try.prog w base m 47 (fun ps => ∃ n : Nd, NdMax n ∧ ps = n.pc) ∧ Lays enc Try.prog w base m 23 (fun ps => ∃ ns : List Nd, ns.length ≤ maxL ∧ (∀ x, x ∈ ns → NdMax x) ∧ ps = [rN ns])
  | 0 => ⟨fun cs x φ h hi hx _ => by simp [DataW.trod] at hx, fun cs x φ h hi hx _ => by simp [DataW.trod] at hx⟩
  | m + 1 => by
    obtain ⟨ih1, ih2⟩ := lays_node hg m
    refine ⟨fun cs x φ h hi hx hw => ?_, fun cs x φ h hi hx hw => ?_⟩
    · obtain ⟨xs, n, hnm, hxe, hl, hn, hf⟩ := DataW.trod_struct Try.underlying47 hx
      obtain rfl : m = n := by omega
      rw [ce47] at hl
      rw [hxe] at hw
      clear hxe hx
      match cs, hl, xs, hn with
      | [a0, a1, a2, a3, a4, a5, a6, a7, a8], _, [x0, x1, x2, x3, x4, x5, x6, x7, x8], _ =>
        have f0 : DataW.trod enc Try.prog w 0 (fun _ => true) true m 3 [a0] = some x0 := by simpa [ce3] using hf 0 _ rfl
        have f1 : DataW.trod enc Try.prog w 0 (fun _ => true) true m 22 [a1] = some x1 := by simpa [ce22] using hf 1 _ rfl
        have f2 : DataW.trod enc Try.prog w 0 (fun _ => true) true m 22 [a2] = some x2 := by simpa [ce22] using hf 2 _ rfl
        have f3 : DataW.trod enc Try.prog w 0 (fun _ => true) true m 23 [a3] = some x3 := by simpa [ce23] using hf 3 _ rfl
        have f4 : DataW.trod enc Try.prog w 0 (fun _ => true) true m 4 [a4] = some x4 := by simpa [ce4] using hf 4 _ rfl
        have f5 : DataW.trod enc Try.prog w 0 (fun _ => true) true m 4 [a5] = some x5 := by simpa [ce4] using hf 5 _ rfl
        have f6 : DataW.trod enc Try.prog w 0 (fun _ => true) true m 4 [a6] = some x6 := by simpa [ce4] using hf 6 _ rfl
        have f7 : DataW.trod enc Try.prog w 0 (fun _ => true) true m 3 [a7] = some x7 := by simpa [ce3] using hf 7 _ rfl
        have f8 : DataW.trod enc Try.prog w 0 (fun _ => true) true m 3 [a8] = some x8 := by simpa [ce3] using hf 8 _ rfl
        simp only [DataW.weights, Try.underlying47, DataW.weightsEach, List.map_cons, List.map_nil, List.all_append, Bool.and_eq_true] at hw
        obtain ⟨_, w1, w2, w3, _⟩ := hw
        obtain ⟨k, rfl⟩ := rd_int f0
        obtain ⟨o, rfl⟩ := rd_bool f4
        obtain ⟨s, rfl⟩ := rd_bool f5
        obtain ⟨e, rfl⟩ := rd_bool f6
        obtain ⟨at0, rfl⟩ := rd_int f7
        obtain ⟨la, rfl⟩ := rd_int f8
        obtain ⟨φ1, h1, u1, p1, i1, g1, l1, hd, hhd, rfl⟩ := lays_toks hg m _ _ φ h hi f1 w1
        obtain ⟨φ2, h2, u2, p2, i2, g2, l2, tl, htl, rfl⟩ := lays_toks hg m _ _ φ1 h1 i1 f2 w2
        obtain ⟨φ3, h3, u3, p3, i3, g3, l3, ks, hks, hkm, rfl⟩ := ih2 _ _ φ2 h2 i2 f3 w3
        have d0 : Laid φ3 h3 [Value.int .i64 k] [.int .i64 k] [.d (.int .i64 k)] := Laid.dry rfl
        have d4 : Laid φ3 h3 [Value.bool o, .bool s, .bool e, .int .i64 at0, .int .i64 la] [Value.bool o, .bool s, .bool e, .int .i64 at0, .int .i64 la] [.d (.bool o), .d (.bool s), .d (.bool e), .d (.int .i64 at0), .d (.int .i64 la)] := Laid.dry rfl
        have := d0.app (((l1.mono g2).mono g3).app ((l2.mono g3).app (l3.app d4)))
        exact ⟨φ3, h3, _, _, i3, (g1.trans g2).trans g3, this, .mk k hd tl ks o s e at0 la, .mk hhd htl hks hkm, by rw [pc_mk]; rfl⟩
    · obtain ⟨φ', h', us, ps, i1, g1, l1, els, rfl, hle, hE⟩ := lays_slice ih1 Try.underlying23 (by rw [ce47]; omega) hg cs x φ h hi hx hw
      rw [be47] at hle
      unfold reachBytes at hle
      obtain ⟨ns, hm, rfl⟩ := all_map (f := Nd.pc) (p := NdMax) fun p hp => hE p hp
      exact ⟨φ', h', us, _, i1, g1, l1, ns, by rw [List.length_map] at hle; unfold maxL; omega, hm, by rw [ce47]⟩
end
end Go.Vx.Seat
end
/- CtreeTells is true of whatever reads as tokens and nodes, and turns nothing that stood before the call. -/
section
open Go Go.Vx Go.Proofs Go.RowKit
set_option linter.unusedSimpArgs false
set_option linter.unusedVariables false
set_option maxRecDepth 100000
namespace Go.Vx.Seat
section
variable {D : Type} {enc : TypeId × Value → D} {w : World}
/-- A slice that comes in is nil or lies in a block. -/
theorem ground {t e : TypeId} {r : Reach} {base : Nat} {v : Value} (ht : Try.prog.underlying t = some (.slice e)) (hv : Value.okWide Try.prog w r base t v) : v = .slice none 0 0 ∨ ((∃ a n c, v = .slice (some a) n c) ∧ ∃ (g : Nat) (c : Array Value) (el : TypeId) (fr : Nat × Nat), w.heap[g]? = some (Obj.cells c el fr)) := by
  unfold Value.okWide at hv
  rw [ht] at hv
  simp only at hv
  unfold Cell.okWide at hv
  rw [ht] at hv
  simp only at hv
  unfold Cell.ok at hv
  rw [ht] at hv
  cases v with
  | slice a n c =>
    cases a with
    | none =>
      left
      split at hv
      all_goals first | (simp_all; done) | rfl | exact hv.elim
    | some a =>
      right
      simp only at hv
      obtain ⟨_, _, hh⟩ := hv
      obtain ⟨_, _, row, cells, hs, _⟩ := hh
      refine ⟨⟨a, n, c, rfl⟩, a.block, ?_⟩
      unfold World.shape? at hs
      split at hs
      · rename_i c el fr hw; exact ⟨c, el, fr, hw⟩
      · cases hs
  | _ => simp at hv
theorem args_in {r : Reach} {base : Nat} {v0 v1 : Value} {x0 x1 : DataW D × List MemPlace} {m0 m1 : Nat} (k0 : Value.okWide Try.prog w r base 22 v0) (k1 : Value.okWide Try.prog w r base 23 v1)
    (h0 : DataW.trod enc Try.prog w 0 (fun _ => true) true m0 22 v0.cells.toList = some x0) (h1 : DataW.trod enc Try.prog w 0 (fun _ => true) true m1 23 v1.cells.toList = some x1) (w0 : (x0.1.weights Try.prog 22).all (· ≤ reachBytes) = true) (w1 : (x1.1.weights Try.prog 23).all (· ≤ reachBytes) = true) :
    ∃ (φ : Phi) (h : H) (us : List Value) (ts : List Tok) (ns : List Nd), Go.Vx.In w.heap.size φ h w ∧ Laid φ h us [v0, v1] [rT ts, rN ns] ∧ ts.length ≤ maxL ∧ ns.length ≤ maxL ∧ ∀ x, x ∈ ns → NdMax x := by
  have go : (∃ (g : Nat) (c : Array Value) (el : TypeId) (fr : Nat × Nat), w.heap[g]? = some (Obj.cells c el fr)) → v0.cells.toList = [v0] → v1.cells.toList = [v1] → ∃ (φ : Phi) (h : H) (us : List Value) (ts : List Tok) (ns : List Nd), Go.Vx.In w.heap.size φ h w ∧ Laid φ h us [v0, v1] [rT ts, rN ns] ∧ ts.length ≤ maxL ∧ ns.length ≤ maxL ∧ ∀ x, x ∈ ns → NdMax x := by
    rintro ⟨g, hg⟩ c0 c1
    rw [c0] at h0
    rw [c1] at h1
    obtain ⟨φ1, h1', u1, p1, i1, g1, l1, ts, hts, rfl⟩ := lays_toks hg m0 _ _ _ _ (Go.Vx.In.nil w.heap.size w) h0 w0
    obtain ⟨φ2, h2', u2, p2, i2, g2, l2, ns, hns, hnm, rfl⟩ := (lays_node hg m1).2 _ _ _ _ i1 h1 w1
    exact ⟨φ2, h2', _, ts, ns, i2, (l1.mono g2).app l2, hts, hns, hnm⟩
  rcases ground Try.underlying22 k0 with rfl | ⟨⟨a, n, c, rfl⟩, hg⟩
  · rcases ground Try.underlying23 k1 with rfl | ⟨⟨a, n, c, rfl⟩, hg⟩
    · refine ⟨_, _, [.slice none 0 0, .slice none 0 0], [], [], Go.Vx.In.nil _ _, ⟨All2.same fun v hv => ?_, (L2.single PRep.nil).cons PRep.nil⟩, by simp, by simp, by simp⟩
      rcases List.mem_cons.mp hv with rfl | hv
      · exact CR_dry rfl
      · rw [List.mem_singleton.mp hv]; exact CR_dry rfl
    · exact go hg rfl rfl
  · rcases ground Try.underlying23 k1 with rfl | ⟨⟨a', n', c', rfl⟩, _⟩
    · exact go hg rfl rfl
    · exact go hg rfl rfl
theorem slice_VR {φ : Phi} {u v : Value} {sz : Nat} {els : List (List PC)} {R : Nat → Prop} {h : H} (hp : PRep R h (.row sz els) u) (hc : CR φ u v) : VR φ u v := by
  rcases hp.lay with ⟨rfl, _⟩ | ⟨b, off, blk, rfl, _⟩ <;> exact hc
theorem tells_calls {r : Reach} {base : Nat} {v0 v1 : Value} {x0 x1 : DataW D × List MemPlace} {m0 m1 : Nat} (k0 : Value.okWide Try.prog w r base 22 v0) (k1 : Value.okWide Try.prog w r base 23 v1)
    (h0 : DataW.trod enc Try.prog w 0 (fun _ => true) true m0 22 v0.cells.toList = some x0) (h1 : DataW.trod enc Try.prog w 0 (fun _ => true) true m1 23 v1.cells.toList = some x1) (w0 : (x0.1.weights Try.prog 22).all (· ≤ reachBytes) = true) (w1 : (x1.1.weights Try.prog 23).all (· ≤ reachBytes) = true) :
    Calls Try.prog 3 #[v0, v1] w fun e w' => e = .returned (.bool true) ∧ Below w.heap.size w w' := by
  obtain ⟨φ, h, us, ts, ns, hi, hl, b0, b1, b2⟩ := args_in k0 k1 h0 h1 w0 w1
  obtain ⟨hc, hp⟩ := hl
  match us, hp.1, hc, hp with
  | [u0, u1], _, hc, hp =>
    have p0 : PRep (fun b => b < h.n) h (rT ts) u0 := hp.2 0 _ _ rfl rfl
    have p1 : PRep (fun b => b < h.n) h (rN ns) u1 := hp.2 1 _ _ rfl rfl
    obtain ⟨n, v, h', hx, R', y, hy, hv, _⟩ := tells_spec ts ns b0 b1 b2 0 (fun b => b < h.n) h [u0, u1] (Nat.zero_le _) (fun b hb => hb) (L2.cons (show VRep [] (fun b => b < h.n) h (.c (.p (rT ts))) u0 from p0) (L2.single (show VRep [] (fun b => b < h.n) h (.c (.p (rN ns))) u1 from p1)))
    subst hy
    obtain rfl : v = .bool true := by cases hv; rfl
    have ha : All2 (VR φ) [u0, u1] #[v0, v1].toList := ⟨rfl, fun i u hu => by
      match i, hu with
      | 0, hu => cases hu; obtain ⟨v, e, hr⟩ := hc.2 0 u0 rfl; exact ⟨v, e, slice_VR p0 hr⟩
      | 1, hu => cases hu; obtain ⟨v, e, hr⟩ := hc.2 1 u1 rfl; exact ⟨v, e, slice_VR p1 hr⟩⟩
    refine Calls.mono (calls_of_xfun good1 hx rfl hi.hr (Nat.le_refl _) ha fun i g1 g2 => ?_) fun e w' ⟨v', he, φ', hv', st⟩ => ?_
    · cases e : φ i with
      | none => rfl
      | some l => have := hi.dom i l e; omega
    · subst he
      exact ⟨by rw [hv'.bool], st.below⟩
end
end Go.Vx.Seat
end
/- What a law of one text, of bytes, reads. -/
section
open Go Go.Vx Go.Proofs Go.RowKit
set_option linter.unusedSimpArgs false
set_option linter.unusedVariables false
set_option maxRecDepth 100000
namespace Go.Vx.Seat
theorem ce5 : Try.prog.cellsOf 5 = 1 := by kernel_rfl
section
variable {D : Type} {enc : TypeId × Value → D} {w : World} {base : Nat}
theorem ground1 {t e : TypeId} {r : Reach} {base : Nat} {v : Value} (ht : Try.prog.underlying t = some (.slice e)) (hv : Value.okWide Try.prog w r base t v) : v = .slice none 0 0 ∨ ∃ a n c, v = .slice (some a) n c ∧ ∃ (c : Array Value) (el : TypeId) (fr : Nat × Nat), w.heap[a.block]? = some (Obj.cells c el fr) := by
  unfold Value.okWide at hv
  rw [ht] at hv
  simp only at hv
  unfold Cell.okWide at hv
  rw [ht] at hv
  simp only at hv
  unfold Cell.ok at hv
  rw [ht] at hv
  cases v with
  | slice a n c =>
    cases a with
    | none =>
      left
      split at hv
      all_goals first | (simp_all; done) | rfl | exact hv.elim
    | some a =>
      right
      simp only at hv
      obtain ⟨_, _, hh⟩ := hv
      obtain ⟨_, _, row, cells, hs, _⟩ := hh
      refine ⟨a, n, c, rfl, ?_⟩
      unfold World.shape? at hs
      split at hs
      · rename_i c el fr hw; exact ⟨c, el, fr, hw⟩
      · cases hs
  | _ => simp at hv
theorem lays_u8 (m : Nat) : Lays enc Try.prog w base m 5 fun ps => ∃ n : Int, ps = eb n := by
  intro cs x φ h hi hx _
  have hl : ∃ v, cs = [v] ∧ ∃ n, v = .int .u8 n := by
    obtain ⟨n, h1, _⟩ := DataW.trod_int Try.underlying5 hx
    exact ⟨_, h1, n, rfl⟩
  obtain ⟨v, rfl, n, rfl⟩ := hl
  exact ⟨φ, h, _, _, hi, .refl _ _, Laid.dry rfl, n, rfl⟩
theorem bytes_in {r : Reach} {base : Nat} {v0 : Value} {x0 : DataW D × List MemPlace} {m0 : Nat} (k0 : Value.okWide Try.prog w r base 32 v0)
    (h0 : DataW.trod enc Try.prog w 0 (fun _ => true) true m0 32 v0.cells.toList = some x0) (w0 : (x0.1.weights Try.prog 32).all (· ≤ reachBytes) = true) :
    ∃ (φ : Phi) (h : H) (us : List Value) (bs : List Int), Go.Vx.In w.heap.size φ h w ∧ Laid φ h us [v0] [rB bs] ∧ bs.length ≤ reachBytes := by
  rcases ground1 Try.underlying32 k0 with rfl | ⟨a, n, c, rfl, hg⟩
  · refine ⟨_, _, [.slice none 0 0], [], Go.Vx.In.nil _ _, ⟨All2.same fun v hv => ?_, L2.single PRep.nil⟩, by simp⟩
    rw [List.mem_singleton.mp hv]; exact CR_dry rfl
  · cases m0 with
    | zero => simp [DataW.trod] at h0
    | succ m =>
      have h0' : DataW.trod enc Try.prog w 0 (fun _ => true) true (m + 1) 32 [.slice (some a) n c] = some x0 := h0
      obtain ⟨φ', h', us, ps, i1, g1, l1, els, rfl, hle, hE⟩ := lays_slice1 (lays_u8 m) Try.underlying32 (by rw [ce5]; omega) (fun a' n' c' e => by cases e; exact hg) x0 _ _ (Go.Vx.In.nil w.heap.size w) h0' w0
      obtain ⟨bs, _, rfl⟩ := all_map (f := eb) (p := fun _ => True) fun p hp => let ⟨t, ht⟩ := hE p hp; ⟨t, trivial, ht⟩
      have hb : Try.prog.bytesOf 5 = 1 := by kernel_rfl
      rw [hb, List.length_map, Nat.mul_one] at hle
      exact ⟨φ', h', us, bs, i1, by rw [ce5] at l1; exact l1, hle⟩
theorem bytes_calls {f : FuncId} {r : Reach} {base : Nat} {v0 : Value} {x0 : DataW D × List MemPlace} {m0 : Nat} (ht : C1.told f = none) (hf : ∀ bs, PCall C1 f [.c (.p (rB bs))] fun y => y = yd (.bool true)) (k0 : Value.okWide Try.prog w r base 32 v0)
    (h0 : DataW.trod enc Try.prog w 0 (fun _ => true) true m0 32 v0.cells.toList = some x0) (w0 : (x0.1.weights Try.prog 32).all (· ≤ reachBytes) = true) :
    Calls Try.prog f #[v0] w fun e w' => e = .returned (.bool true) ∧ Below w.heap.size w w' := by
  obtain ⟨φ, h, us, bs, hi, hl, _⟩ := bytes_in k0 h0 w0
  obtain ⟨hc, hp⟩ := hl
  match us, hp.1, hc, hp with
  | [u0], _, hc, hp =>
    have p0 : PRep (fun b => b < h.n) h (rB bs) u0 := hp.2 0 _ _ rfl rfl
    obtain ⟨n, v, h', hx, R', y, hy, hv, _⟩ := hf bs 0 (fun b => b < h.n) h [u0] (Nat.zero_le _) (fun b hb => hb) (L2.single (show VRep [] (fun b => b < h.n) h (.c (.p (rB bs))) u0 from p0))
    subst hy
    obtain rfl : v = .bool true := by cases hv; rfl
    have ha : All2 (VR φ) [u0] #[v0].toList := ⟨rfl, fun i u hu => by
      match i, hu with
      | 0, hu => cases hu; obtain ⟨v, e, hr⟩ := hc.2 0 u0 rfl; exact ⟨v, e, slice_VR p0 hr⟩⟩
    refine Calls.mono (calls_of_xfun good1 hx ht hi.hr (Nat.le_refl _) ha fun i g1 g2 => ?_) fun e w' ⟨v', he, φ', hv', st⟩ => ?_
    · cases e : φ i with
      | none => rfl
      | some l => have := hi.dom i l e; omega
    · subst he
      exact ⟨by rw [hv'.bool], st.below⟩
end
end Go.Vx.Seat
end
