/- Texts joined: VyM4 VyN1 VyN2 VyK1 VyK2 VyK3 VyC2 VyK4 VyC3 VyC4 VyW0 VyN3 VyN4 VyC5 VyC6 VyF1 VyC7a VyE1a VyW2. -/
import Derived.Test.YtbndpenalacjaaaVm38
import Derived.Test.YtbndpenalacjaaaVm37
import Derived.Test.YtbndpenalacjaaaVyOwn
import Derived.Lib.IndexLaws
import Derived.Lib.IndexMore
import Derived.Test.YtbndpenalacjaaaVyFrame
set_option linter.unusedSimpArgs false
set_option linter.unusedVariables false
section
open Go Go.Vx Go.Proofs
set_option maxRecDepth 10000
set_option maxHeartbeats 8000000
namespace Go.Vx.Seat
attribute [local irreducible] Rg Rt Ro Ri Rc Rto Rtk Rtf Rti Rw Rl Rd Rcall Rtcall kf
def signK (x : Int) : Int := if eqI x 58 then 16 else if eqI x 59 then 17 else if eqI x 44 then 18 else if eqI x 123 then 19 else if eqI x 125 then 20 else if eqI x 40 then 21 else if eqI x 41 then 22 else if eqI x 91 then 23 else if eqI x 93 then 24 else 9
noncomputable def oneT (l : List Rn) : Tok × List Rn :=
  if follows0 l (strOf ⟨#[47, 42]⟩) then (lexTok 25 (bstr (textF (commF (l.drop 2)).1)), (commF (l.drop 2)).2)
  else if blankB (hd l) then (lexTok 13 (if eqI (hd l) 10 then ⟨#[10]⟩ else ⟨#[32]⟩), blanks l)
  else if eqI (hd l) 34 then quoteT l
  else if eqI (hd l) 39 then quoteT l
  else if eqI (hd l) 35 && (inB (hd (l.drop 1)) || esc0 (l.drop 1)) then (⟨4, bstr (takeF (l.drop 1)).1, ⟨#[]⟩, false, ⟨#[]⟩, ⟨#[]⟩, begins0 (l.drop 1), false, 0, 0, 0, 0, 0⟩, (takeF (l.drop 1)).2)
  else if numeral0 l then numT l
  else if follows0 l (strOf ⟨#[45, 45, 62]⟩) then (lexTok 15 ⟨#[]⟩, l.drop 3)
  else if follows0 l (strOf ⟨#[60, 33, 45, 45]⟩) then (lexTok 14 ⟨#[]⟩, l.drop 4)
  else if begins0 l then namedT l
  else if eqI (hd l) 64 && begins0 (l.drop 1) then (lexTok 3 (bstr (takeF (l.drop 1)).1), (takeF (l.drop 1)).2)
  else if eqI (signK (hd l)) 9 then (lexTok 9 (bstr (textF (l.take 1))), l.drop 1) else (lexTok (signK (hd l)) ⟨#[]⟩, l.drop 1)
theorem oneX_spec (l : List Rn) (i : Nat) (hl : l.length ≤ 1000000) (hi : i < l.length) : PCall C1 52 [.c (.p (rR l)), yd (.int .i64 (i : Nat))] (LexX l i (oneT (l.drop i))) := by
  obtain ⟨x, hx⟩ := get_lt hi
  have hat := atR_get hx
  have hL : Seat.hd (l.drop i) = x.r := by rw [hd_drop, hat]
  have hL1 : (l.drop i).drop 1 = l.drop (i + 1) := List.drop_drop ..
  have w1 : wrapK .i64 ((i : Int) + 1) = ((i + 1 : Nat) : Int) := wrap_succ (by omega)
  have w2 : wrapK .i64 ((i : Int) + 2) = ((i + 2 : Nat) : Int) := wrap_nat (i := i + 2) (by omega)
  have w3 : wrapK .i64 ((i : Int) + 3) = ((i + 3 : Nat) : Int) := wrap_nat (i := i + 3) (by omega)
  have w4 : wrapK .i64 ((i : Int) + 4) = ((i + 4 : Nat) : Int) := wrap_nat (i := i + 4) (by omega)
  refine Pf (by rfl) (by rfl) fn52 (by rfl) ?_
  simp only [Try.f52, List.length_cons, List.length_nil, List.replicate, List.cons_append, List.nil_append]
  simp -implicitDefEqProofs only [↓yP, yT, Nat.reduceAdd, Nat.reduceLeDiff, reduceCtorEq, rnGet hx]
  refine Rcall_pure (follows_spec l i ⟨#[47, 42]⟩ (by omega) (by decide)) (by rfl) fun y hy => ?_
  subst hy
  cases h1 : followsB l i (strOf ⟨#[47, 42]⟩) with
  | true =>
    obtain ⟨a1, a2⟩ := follows_at (c := 47) (cs := [42]) h1
    obtain ⟨a2, _⟩ := follows_at (c := 42) (cs := []) a2
    have hi1 := at_lt (l := l) (i := i + 1) (by rw [a2]; decide)
    rw [follows_drop] at h1
    have hO : oneT (l.drop i) = (lexTok 25 (bstr (textF (commF (l.drop (i + 2))).1)), (commF (l.drop (i + 2))).2) := by simp only [oneT, h1, if_true, List.drop_drop]
    rw [hO]
    simp -implicitDefEqProofs only [↓yP, yT, w2]
    refine Rl_inv (fun d e st => ∃ (k : Nat), e = ([.c (.p (rR l)), yd (.int .i64 (i : Nat)), Tp, Tp, .c (.ptr 0 0 0 0), Tp, Tp, Tp, yd (.int .i64 (k : Nat)), Tp, Tp, Tp, Tp, Tp, Tp, Tp, Tp, Tp, Tp, Tp, Tp, Tp, Tp, Tp, Tp, Tp, Tp, Tp, Tp, Tp, Tp, Tp, Tp, Tp, Tp, Tp, Tp, Tp, Tp, Tp, Tp, Tp, Tp, Tp, Tp, Tp, Tp, Tp, Tp, Tp, Tp, Tp, Tp, Tp, Tp, Tp, Tp, Tp, Tp, Tp, Tp, Tp, Tp, Tp, Tp, Tp, Tp, Tp, Tp, Tp, Tp, Tp, Tp, Tp, Tp, Tp, Tp, Tp, Tp, Tp, Tp, Tp, Tp, Tp, Tp, Tp, Tp, Tp, Tp, Tp, Tp, Tp, Tp, Tp, Tp, Tp, Tp, Tp, Tp, Tp, Tp, Tp, Tp, Tp, Tp, Tp, Tp, Tp, Tp, Tp, Tp, Tp, Tp, Tp, Tp, Tp, Tp, Tp, Tp, Tp, Tp, Tp, Tp, Tp, Tp, Tp, Tp, Tp, Tp, Tp, Tp, Tp, Tp, Tp, Tp, Tp, Tp, Tp, Tp, Tp, Tp, Tp, Tp, Tp, Tp, Tp, Tp, Tp, Tp, Tp, Tp, Tp, Tp, Tp, Tp, Tp, Tp, Tp, Tp, Tp, Tp, Tp, Tp, Tp, Tp, Tp, Tp, Tp, Tp, Tp, Tp, Tp, Tp, Tp, Tp, Tp, Tp, Tp, Tp, Tp, Tp, Tp, Tp, Tp, Tp, Tp, Tp, Tp, Tp, Tp]) ∧ st = [.box zt] ∧ k + d = l.length ∧ i + 2 ≤ k ∧ commF (l.drop (i + 2)) = ((l.drop (i + 2)).take (k - (i + 2)) ++ (commF (l.drop k)).1, (commF (l.drop k)).2)) [true, true, false, false, true, false, false, false, true] (l.length - (i + 2)) [0] (by decide) (pinned_zero _) ⟨i + 2, by (simp only [yE]; try rfl), by (simp only [yE]; try rfl), by omega, by omega, by simp⟩ ?_
    rintro d e st ⟨k, rfl, rfl, hd, hk, hcm⟩
    have v1 : wrapK .i64 ((k : Int) + 1) = ((k + 1 : Nat) : Int) := wrap_succ (by omega)
    have v2 : wrapK .i64 ((k : Int) + 2) = ((k + 2 : Nat) : Int) := wrap_nat (i := k + 2) (by omega)
    by_cases hkl : k < l.length
    · obtain ⟨z, hz⟩ := get_lt hkl
      have hdz := drop_cons hz
      have hf0 : follows0 (l.drop k) (strOf ⟨#[42, 47]⟩) = (eqI z.r 42 && eqI (Seat.hd (l.drop (k + 1))) 47) := by
        rw [hdz]
        show (eqI z.r 42 && (eqI (Seat.hd ((z :: l.drop (k + 1)).drop 1)) 47 && true)) = _
        rw [Bool.and_true]; rfl
      have t1 : leI (l.length : Nat) (k : Nat) = false := leI_false (by omega)
      simp -implicitDefEqProofs only [↓yP, yT, t1]
      refine Rcall_pure (follows_spec l k ⟨#[42, 47]⟩ (by omega) (by decide)) (by rfl) fun y hy => ?_
      subst hy
      cases h2 : followsB l k (strOf ⟨#[42, 47]⟩) with
      | false =>
        rw [follows_drop, hf0] at h2
        simp -implicitDefEqProofs only [↓yP, yT, v1]
        refine ⟨d - 1, [0], by omega, by decide, pinned_zero _, k + 1, by (simp only [yE]; try rfl), by (simp only [yE]; try rfl), by omega, by omega, ?_⟩
        rw [hcm, hdz, commF, if_neg (by rw [h2]; simp), show k + 1 - (i + 2) = (k - (i + 2)) + 1 by omega, List.take_add_one, List.getElem?_drop, show i + 2 + (k - (i + 2)) = k by omega, hz]
        simp
      | true =>
        obtain ⟨_, b2⟩ := follows_at (c := 42) (cs := [47]) h2
        obtain ⟨b2, _⟩ := follows_at (c := 47) (cs := []) b2
        have hk1 := at_lt (l := l) (i := k + 1) (by rw [b2]; decide)
        rw [follows_drop, hf0] at h2
        rw [hdz, commF, if_pos h2, List.append_nil, List.drop_drop] at hcm
        simp -implicitDefEqProofs only [↓yP, yT, v2, t1, w2]
        refine Rcall_pure (rawX_spec l (i + 2) k hl hk (by omega)) (by rfl) fun y hy => ?_
        subst hy
        simp -implicitDefEqProofs only [↓yP, yT, Nat.reduceAdd, Nat.reduceLeDiff, reduceCtorEq, zt13, ztd]
        exact ⟨lexTok 25 (bstr (textF ((l.drop (i + 2)).take (k - (i + 2))))), k + 2, rfl, by omega, by omega, by rw [hcm]⟩
    · have t1 : leI (l.length : Nat) (k : Nat) = true := leI_true (by omega)
      have hkl' : k = l.length := by omega
      subst hkl'
      have hdn : l.drop l.length = [] := List.drop_eq_nil_of_le (by omega)
      rw [hdn, commF, List.append_nil] at hcm
      simp -implicitDefEqProofs only [↓yP, yT, t1, v2, w2]
      refine Rcall_pure (rawX_spec l (i + 2) l.length hl (by omega) (by omega)) (by rfl) fun y hy => ?_
      subst hy
      simp -implicitDefEqProofs only [↓yP, yT, Nat.reduceAdd, Nat.reduceLeDiff, reduceCtorEq, zt13, ztd]
      exact ⟨lexTok 25 (bstr (textF ((l.drop (i + 2)).take (l.length - (i + 2))))), l.length, rfl, by omega, by omega, by rw [hcm, hdn]⟩
  | false =>
  rw [follows_drop] at h1
  simp -implicitDefEqProofs only [↓yP, yT]
  refine Rcall_pure (blank_spec1 _) (by rfl) fun y hy => ?_
  subst hy
  cases h2 : blankB x.r with
  | true =>
    have hO : oneT (l.drop i) = (lexTok 13 (if eqI x.r 10 then ⟨#[10]⟩ else ⟨#[32]⟩), blanks (l.drop i)) := by simp only [oneT, hL, h1, h2, if_true, Bool.false_eq_true, if_false]
    rw [hO]
    simp -implicitDefEqProofs only [↓yP, yT]
    refine Rl_inv (fun d e st => ∃ (k : Nat), e = ([.c (.p (rR l)), Tp, Tp, Tp, .c (.ptr 0 0 0 0), Tp, yd (.int .i64 x.r), Tp, Tp, Tp, yd (.int .i64 (k : Nat)), Tp, Tp, Tp, Tp, Tp, Tp, Tp, Tp, Tp, Tp, Tp, Tp, Tp, Tp, Tp, Tp, Tp, Tp, Tp, Tp, Tp, Tp, Tp, Tp, Tp, Tp, Tp, Tp, Tp, Tp, Tp, Tp, Tp, Tp, Tp, Tp, Tp, Tp, Tp, Tp, Tp, Tp, Tp, Tp, Tp, Tp, Tp, Tp, Tp, Tp, Tp, Tp, Tp, Tp, Tp, Tp, Tp, Tp, Tp, Tp, Tp, Tp, Tp, Tp, Tp, Tp, Tp, Tp, Tp, Tp, Tp, Tp, Tp, Tp, Tp, Tp, Tp, Tp, Tp, Tp, Tp, Tp, Tp, Tp, Tp, Tp, Tp, Tp, Tp, Tp, Tp, Tp, Tp, Tp, Tp, Tp, Tp, Tp, Tp, Tp, Tp, Tp, Tp, Tp, Tp, Tp, Tp, Tp, Tp, Tp, Tp, Tp, Tp, Tp, Tp, Tp, Tp, Tp, Tp, Tp, Tp, Tp, Tp, Tp, Tp, Tp, Tp, Tp, Tp, Tp, Tp, Tp, Tp, Tp, Tp, Tp, Tp, Tp, Tp, Tp, Tp, Tp, Tp, Tp, Tp, Tp, Tp, Tp, Tp, Tp, Tp, Tp, Tp, Tp, Tp, Tp, Tp, Tp, Tp, Tp, Tp, Tp, Tp, Tp, Tp, Tp, Tp, Tp, Tp, Tp, Tp, Tp, Tp, Tp, Tp, Tp, Tp, Tp, Tp]) ∧ st = [.box zt] ∧ k + d = l.length ∧ i ≤ k ∧ (k = i → blankB (atR l (k : Nat)) = true) ∧ blanks (l.drop i) = blanks (l.drop k)) [true, false, false, false, true, false, true, false, false, false, true] (l.length - i) [0] (by decide) (pinned_zero _) ⟨i, by (simp only [yE]; try rfl), by (simp only [yE]; try rfl), by omega, by omega, fun _ => by rw [hat]; exact h2, rfl⟩ ?_
    rintro d e st ⟨k, rfl, rfl, hd, hk, hkb, hbk⟩
    have v1 : wrapK .i64 ((k : Int) + 1) = ((k + 1 : Nat) : Int) := wrap_succ (by omega)
    simp -implicitDefEqProofs only [↓yP, yT]
    refine Rcall_pure (at_spec l _) (by rfl) fun y hy => ?_
    subst hy
    simp -implicitDefEqProofs only [yT]
    refine Rcall_pure (blank_spec1 _) (by rfl) fun y hy => ?_
    subst hy
    cases h3 : blankB (atR l (k : Nat)) with
    | true =>
      have hkl := at_lt (l := l) (i := k) (fun e => by rw [e] at h3; exact absurd h3 (by decide))
      simp -implicitDefEqProofs only [↓yP, yT, v1]
      refine ⟨d - 1, [0], by omega, by decide, pinned_zero _, k + 1, by (simp only [yE]; try rfl), by (simp only [yE]; try rfl), by omega, by omega, fun h => by omega, by rw [hbk, blanks_go h3]⟩
    | false =>
      rw [blanks_stop h3] at hbk
      have hik := ltk hk (fun h => by rw [hkb h] at h3; cases h3)
      cases h4 : eqI x.r 10 with
      | true =>
        simp -implicitDefEqProofs only [↓yP, yT, Nat.reduceAdd, Nat.reduceLeDiff, reduceCtorEq, h4, zt13, ztd]
        exact ⟨lexTok 13 ⟨#[10]⟩, k, rfl, by omega, by omega, by rw [hbk]⟩
      | false =>
        simp -implicitDefEqProofs only [↓yP, yT, Nat.reduceAdd, Nat.reduceLeDiff, reduceCtorEq, h4, zt13, ztd]
        exact ⟨lexTok 13 ⟨#[32]⟩, k, rfl, by omega, by omega, by rw [hbk]⟩
  | false =>
  cases h3 : eqI x.r 34 with
  | true =>
    simp -implicitDefEqProofs only [↓yP, yT, h3]
    refine Rcall_pure (quotedX_spec l i hl hi) (by rfl) fun y hy => ?_
    obtain ⟨t, k, rfl, k1, k2, ht⟩ := hy
    simp only [Tok.yv, Tok.cs, Tok.pc, List.map_cons, List.map_nil]
    simp -implicitDefEqProofs only [↓yP, yT, Nat.reduceAdd, reduceCtorEq]
    exact ⟨t, k, rfl, k1, k2, by simp only [oneT, hL, h1, h2, h3, if_true, Bool.false_eq_true, if_false]; exact ht⟩
  | false =>
  cases h4 : eqI x.r 39 with
  | true =>
    simp -implicitDefEqProofs only [↓yP, yT, h3, h4]
    refine Rcall_pure (quotedX_spec l i hl hi) (by rfl) fun y hy => ?_
    obtain ⟨t, k, rfl, k1, k2, ht⟩ := hy
    simp only [Tok.yv, Tok.cs, Tok.pc, List.map_cons, List.map_nil]
    simp -implicitDefEqProofs only [↓yP, yT, Nat.reduceAdd, reduceCtorEq]
    exact ⟨t, k, rfl, k1, k2, by simp only [oneT, hL, h1, h2, h3, h4, if_true, Bool.false_eq_true, if_false]; exact ht⟩
  | false =>
  cases h5 : eqI x.r 35 with
  | true =>
    simp -implicitDefEqProofs only [↓yP, yT, h3, h4, h5, w1]
    refine Rcall_pure (at_spec l _) (by rfl) fun y hy => ?_
    subst hy
    simp -implicitDefEqProofs only [yT]
    refine Rcall_pure (in_spec1 _) (by rfl) fun y hy => ?_
    subst hy
    rw [← hd_drop]
    cases h6 : inB (Seat.hd (l.drop (i + 1))) with
    | true =>
      simp -implicitDefEqProofs only [↓yP, yT, w1]
      refine Rcall_pure (takeX_spec l (i + 1) hl (by omega)) (by rfl) fun y hy => ?_
      obtain ⟨k, rfl, hk1, hk2, _, hk3⟩ := hy
      simp -implicitDefEqProofs only [↓yP, yT, w1]
      refine Rcall_pure (begins_spec l (i + 1) (by omega)) (by rfl) fun y hy => ?_
      subst hy
      rw [begins_drop]
      simp -implicitDefEqProofs only [↓yP, yT, Nat.reduceAdd, Nat.reduceLeDiff, reduceCtorEq]
      exact ⟨⟨4, bstr (takeF (l.drop (i + 1))).1, ⟨#[]⟩, false, ⟨#[]⟩, ⟨#[]⟩, begins0 (l.drop (i + 1)), false, 0, 0, 0, 0, 0⟩, k, rfl, by omega, by omega, by simp only [oneT, hL, h1, h2, h3, h4, h5, hL1, h6, Bool.true_or, Bool.and_self, if_true, Bool.false_eq_true, if_false, hk3]⟩
    | false =>
      simp -implicitDefEqProofs only [yT, w1]
      refine Rcall_pure (escape_spec l (i + 1) (by omega)) (by rfl) fun y hy => ?_
      subst hy
      rw [esc_drop]
      cases h7 : esc0 (l.drop (i + 1)) with
      | true =>
        simp -implicitDefEqProofs only [↓yP, yT, w1]
        refine Rcall_pure (takeX_spec l (i + 1) hl (by omega)) (by rfl) fun y hy => ?_
        obtain ⟨k, rfl, hk1, hk2, _, hk3⟩ := hy
        simp -implicitDefEqProofs only [↓yP, yT, w1]
        refine Rcall_pure (begins_spec l (i + 1) (by omega)) (by rfl) fun y hy => ?_
        subst hy
        rw [begins_drop]
        simp -implicitDefEqProofs only [↓yP, yT, Nat.reduceAdd, Nat.reduceLeDiff, reduceCtorEq]
        exact ⟨⟨4, bstr (takeF (l.drop (i + 1))).1, ⟨#[]⟩, false, ⟨#[]⟩, ⟨#[]⟩, begins0 (l.drop (i + 1)), false, 0, 0, 0, 0, 0⟩, k, rfl, by omega, by omega, by simp only [oneT, hL, h1, h2, h3, h4, h5, hL1, h6, h7, Bool.or_true, Bool.and_self, if_true, Bool.false_eq_true, if_false, hk3]⟩
      | false =>
        have hH : (eqI x.r 35 && (inB (Seat.hd (l.drop (i + 1))) || esc0 (l.drop (i + 1)))) = false := by rw [h6, h7, Bool.or_self, Bool.and_false]
        simp -implicitDefEqProofs only [↓yP, yT]
        refine Rcall_pure (numeral_spec l i (by omega)) (by rfl) fun y hy => ?_
        subst hy
        cases n1 : numeralB l i with
        | true =>
          have n1' := n1
          rw [numeral_drop] at n1'
          simp -implicitDefEqProofs only [↓yP, yT]
          refine Rcall_pure (numbersX_spec l i hl hi n1) (by rfl) fun y hy => ?_
          obtain ⟨t, k, rfl, k1, k2, ht⟩ := hy
          simp only [Tok.yv, Tok.cs, Tok.pc, List.map_cons, List.map_nil]
          simp -implicitDefEqProofs only [↓yP, yT, Nat.reduceAdd, reduceCtorEq]
          exact ⟨t, k, rfl, k1, k2, by simp only [oneT, hL, hL1, h1, h2, h3, h4, hH, n1', if_true, Bool.false_eq_true, if_false]; exact ht⟩
        | false =>
        rw [numeral_drop] at n1
        simp -implicitDefEqProofs only [↓yP, yT]
        refine Rcall_pure (follows_spec l i ⟨#[45, 45, 62]⟩ (by omega) (by decide)) (by rfl) fun y hy => ?_
        subst hy
        cases n2 : followsB l i (strOf ⟨#[45, 45, 62]⟩) with
        | true =>
          obtain ⟨a1, a2⟩ := follows_at (c := 45) (cs := [45, 62]) n2
          obtain ⟨_, a2⟩ := follows_at (c := 45) (cs := [62]) a2
          obtain ⟨a2, _⟩ := follows_at (c := 62) (cs := []) a2
          have hi1 := at_lt (l := l) (i := i + 1 + 1) (by rw [a2]; decide)
          rw [follows_drop] at n2
          simp -implicitDefEqProofs only [↓yP, yT, Nat.reduceAdd, Nat.reduceLeDiff, reduceCtorEq, w3]
          exact ⟨lexTok 15 ⟨#[]⟩, i + 3, rfl, by omega, by omega, by simp only [oneT, hL, hL1, h1, h2, h3, h4, hH, n1, n2, if_true, Bool.false_eq_true, if_false, List.drop_drop]⟩
        | false =>
        rw [follows_drop] at n2
        simp -implicitDefEqProofs only [↓yP, yT]
        refine Rcall_pure (follows_spec l i ⟨#[60, 33, 45, 45]⟩ (by omega) (by decide)) (by rfl) fun y hy => ?_
        subst hy
        cases n3 : followsB l i (strOf ⟨#[60, 33, 45, 45]⟩) with
        | true =>
          obtain ⟨a1, a2⟩ := follows_at (c := 60) (cs := [33, 45, 45]) n3
          obtain ⟨_, a2⟩ := follows_at (c := 33) (cs := [45, 45]) a2
          obtain ⟨_, a2⟩ := follows_at (c := 45) (cs := [45]) a2
          obtain ⟨a2, _⟩ := follows_at (c := 45) (cs := []) a2
          have hi1 := at_lt (l := l) (i := i + 1 + 1 + 1) (by rw [a2]; decide)
          rw [follows_drop] at n3
          simp -implicitDefEqProofs only [↓yP, yT, Nat.reduceAdd, Nat.reduceLeDiff, reduceCtorEq, w4]
          exact ⟨lexTok 14 ⟨#[]⟩, i + 4, rfl, by omega, by omega, by simp only [oneT, hL, hL1, h1, h2, h3, h4, hH, n1, n2, n3, if_true, Bool.false_eq_true, if_false, List.drop_drop]⟩
        | false =>
        rw [follows_drop] at n3
        simp -implicitDefEqProofs only [↓yP, yT]
        refine Rcall_pure (begins_spec l i (by omega)) (by rfl) fun y hy => ?_
        subst hy
        cases n4 : beginsB l i with
        | true =>
          have n4' := n4
          rw [begins_drop] at n4'
          simp -implicitDefEqProofs only [↓yP, yT]
          refine Rcall_pure (namedX_spec l i hl hi (begins_in n4)) (by rfl) fun y hy => ?_
          obtain ⟨t, k, rfl, k1, k2, ht⟩ := hy
          simp only [Tok.yv, Tok.cs, Tok.pc, List.map_cons, List.map_nil]
          simp -implicitDefEqProofs only [↓yP, yT, Nat.reduceAdd, reduceCtorEq]
          exact ⟨t, k, rfl, k1, k2, by simp only [oneT, hL, hL1, h1, h2, h3, h4, hH, n1, n2, n3, n4', if_true, Bool.false_eq_true, if_false]; exact ht⟩
        | false =>
        rw [begins_drop] at n4
        cases n5 : eqI x.r 64 with
        | true =>
          simp -implicitDefEqProofs only [↓yP, yT, n5, w1]
          refine Rcall_pure (begins_spec l (i + 1) (by omega)) (by rfl) fun y hy => ?_
          subst hy
          rw [begins_drop]
          cases n6 : begins0 (l.drop (i + 1)) with
          | true =>
            simp -implicitDefEqProofs only [↓yP, yT, w1]
            refine Rcall_pure (takeX_spec l (i + 1) hl (by omega)) (by rfl) fun y hy => ?_
            obtain ⟨k, rfl, hk1, hk2, _, hk3⟩ := hy
            simp -implicitDefEqProofs only [↓yP, yT, Nat.reduceAdd, Nat.reduceLeDiff, reduceCtorEq]
            exact ⟨lexTok 3 (bstr (takeF (l.drop (i + 1))).1), k, rfl, by omega, by omega, by simp only [oneT, hL, hL1, h1, h2, h3, h4, hH, n1, n2, n3, n4, n5, n6, Bool.and_self, if_true, Bool.false_eq_true, if_false, hk3, List.drop_drop]⟩
          | false =>
            have hO : oneT (l.drop i) = if eqI (signK x.r) 9 then (lexTok 9 (bstr (textF ((l.drop i).take 1))), l.drop (i + 1)) else (lexTok (signK x.r) ⟨#[]⟩, l.drop (i + 1)) := by
              simp only [oneT, hL, hL1, h1, h2, h3, h4, hH, n1, n2, n3, n4, n5, n6, Bool.and_false, Bool.false_eq_true, if_false, List.drop_drop]
            simp -implicitDefEqProofs only [↓yP, yT]
            rw [hO]
            refine Rl_inv (fun d e st => ∃ (j : Nat), e = ([.c (.p (rR l)), yd (.int .i64 (i : Nat)), Tp, Tp, .c (.ptr 0 0 0 0), Tp, yd (.int .i64 x.r), yd (.string ⟨#[58, 59, 44, 123, 125, 40, 41, 91, 93]⟩), Tp, Tp, Tp, Tp, Tp, Tp, Tp, Tp, yd (.int .i64 (j : Nat)), Tp, Tp, Tp, Tp, Tp, Tp, Tp, Tp, Tp, Tp, Tp, Tp, Tp, Tp, Tp, Tp, Tp, Tp, Tp, Tp, Tp, Tp, Tp, Tp, Tp, Tp, Tp, Tp, Tp, Tp, Tp, Tp, Tp, Tp, Tp, Tp, Tp, Tp, Tp, Tp, Tp, Tp, Tp, Tp, Tp, Tp, Tp, Tp, Tp, Tp, Tp, Tp, Tp, Tp, Tp, Tp, Tp, Tp, Tp, Tp, Tp, Tp, Tp, Tp, Tp, Tp, Tp, Tp, Tp, Tp, Tp, Tp, Tp, Tp, Tp, Tp, Tp, Tp, Tp, Tp, Tp, Tp, Tp, Tp, Tp, Tp, Tp, Tp, Tp, Tp, Tp, Tp, Tp, Tp, Tp, Tp, Tp, Tp, Tp, Tp, Tp, Tp, Tp, Tp, Tp, Tp, Tp, Tp, Tp, Tp, Tp, Tp, Tp, Tp, Tp, Tp, Tp, Tp, Tp, Tp, Tp, Tp, Tp, Tp, Tp, Tp, Tp, Tp, Tp, Tp, Tp, Tp, Tp, Tp, Tp, Tp, Tp, Tp, Tp, Tp, Tp, Tp, Tp, Tp, Tp, Tp, Tp, Tp, Tp, Tp, Tp, Tp, Tp, Tp, Tp, Tp, Tp, Tp, Tp, Tp, Tp, Tp, Tp, Tp, Tp, Tp, Tp, Tp, Tp, Tp, Tp, Tp, Tp]) ∧ st = [.box zt] ∧ j + d = 9 ∧ ∀ m c, m < j → [58, 59, 44, 123, 125, 40, 41, 91, 93][m]? = some c → c ≠ x.r) [true, true, false, false, true, false, true, true, false, false, false, false, false, false, false, false, true] 9 [0] (by decide) (pinned_zero _) ⟨0, by (simp only [yE]; try rfl), by (simp only [yE]; try rfl), by omega, fun m c h => absurd h (Nat.not_lt_zero m)⟩ ?_
            rintro d e st ⟨j, rfl, rfl, hd, hj⟩
            have hlen : (strOf ⟨#[58, 59, 44, 123, 125, 40, 41, 91, 93]⟩).length = 9 := rfl
            by_cases hj9 : j < 9
            · obtain ⟨c, hc⟩ := get_lt (l := strOf ⟨#[58, 59, 44, 123, 125, 40, 41, 91, 93]⟩) (i := j) (by rw [hlen]; exact hj9)
              have t1 : leI ((9 : Nat) : Int) (j : Nat) = false := leI_false (by omega)
              have c0 : (0 : Int) ≤ (j : Nat) := by omega
              have v1 : wrapK .i64 ((j : Int) + 1) = ((j + 1 : Nat) : Int) := wrap_succ (by omega)
              have v2 : wrapK .i64 (16 + (j : Int)) = ((16 + j : Nat) : Int) := wrap_nat (i := 16 + j) (by omega)
              cases m1 : eqI ((c.toNat : Nat) : Int) x.r with
              | true =>
                have m1' := of_eqT m1
                simp -implicitDefEqProofs only [↓yP, yT, Nat.reduceAdd, Nat.reduceLeDiff, reduceCtorEq, opLen.eq_1, xindex.eq_1, hlen, t1, c0, hc, u8_i64, m1, v2, w1, zt13, ztd]
                refine ⟨lexTok ((16 + j : Nat) : Int) ⟨#[]⟩, i + 1, rfl, by omega, by omega, ?_⟩
                have hjj : j = 0 ∨ j = 1 ∨ j = 2 ∨ j = 3 ∨ j = 4 ∨ j = 5 ∨ j = 6 ∨ j = 7 ∨ j = 8 := by omega
                rcases hjj with rfl | rfl | rfl | rfl | rfl | rfl | rfl | rfl | rfl
                all_goals
                  cases hc
                  rw [← m1']
                  rfl
              | false =>
                simp -implicitDefEqProofs only [↓yP, yT, opLen.eq_1, xindex.eq_1, hlen, t1, c0, hc, u8_i64, m1, v1]
                refine ⟨d - 1, [0], by omega, by decide, pinned_zero _, j + 1, by (simp only [yE]; try rfl), by (simp only [yE]; try rfl), by omega, fun m c' hm hc' => ?_⟩
                rcases Nat.lt_or_ge m j with g | g
                · exact hj m c' g hc'
                · obtain rfl : m = j := by omega
                  have hcc : ((c.toNat : Nat) : Int) = c' := by
                    have hjj : m = 0 ∨ m = 1 ∨ m = 2 ∨ m = 3 ∨ m = 4 ∨ m = 5 ∨ m = 6 ∨ m = 7 ∨ m = 8 := by omega
                    rcases hjj with rfl | rfl | rfl | rfl | rfl | rfl | rfl | rfl | rfl <;> (cases hc; cases hc'; rfl)
                  rw [← hcc]; exact of_eqF m1
            · have t1 : leI ((9 : Nat) : Int) (j : Nat) = true := leI_true (by omega)
              have hS : signK x.r = 9 := by
                unfold signK
                rw [eqI_false (fun e => hj 0 58 (by omega) rfl e.symm), eqI_false (fun e => hj 1 59 (by omega) rfl e.symm), eqI_false (fun e => hj 2 44 (by omega) rfl e.symm), eqI_false (fun e => hj 3 123 (by omega) rfl e.symm), eqI_false (fun e => hj 4 125 (by omega) rfl e.symm), eqI_false (fun e => hj 5 40 (by omega) rfl e.symm), eqI_false (fun e => hj 6 41 (by omega) rfl e.symm), eqI_false (fun e => hj 7 91 (by omega) rfl e.symm), eqI_false (fun e => hj 8 93 (by omega) rfl e.symm)]
                rfl
              rw [hS]
              simp -implicitDefEqProofs only [↓yP, yT, opLen.eq_1, hlen, t1, w1]
              refine Rcall_pure (rawX_spec l i (i + 1) hl (by omega) (by omega)) (by rfl) fun y hy => ?_
              subst hy
              rw [Nat.add_sub_cancel_left]
              simp -implicitDefEqProofs only [↓yP, yT, Nat.reduceAdd, Nat.reduceLeDiff, reduceCtorEq, w1, zt13, ztd]
              exact ⟨lexTok 9 (bstr (textF ((l.drop i).take 1))), i + 1, rfl, by omega, by omega, rfl⟩
        | false =>
          have hO : oneT (l.drop i) = if eqI (signK x.r) 9 then (lexTok 9 (bstr (textF ((l.drop i).take 1))), l.drop (i + 1)) else (lexTok (signK x.r) ⟨#[]⟩, l.drop (i + 1)) := by
            simp only [oneT, hL, hL1, h1, h2, h3, h4, hH, n1, n2, n3, n4, n5, Bool.false_and, Bool.false_eq_true, if_false, List.drop_drop]
          simp -implicitDefEqProofs only [↓yP, yT, n5]
          rw [hO]
          refine Rl_inv (fun d e st => ∃ (j : Nat), e = ([.c (.p (rR l)), yd (.int .i64 (i : Nat)), Tp, Tp, .c (.ptr 0 0 0 0), Tp, yd (.int .i64 x.r), yd (.string ⟨#[58, 59, 44, 123, 125, 40, 41, 91, 93]⟩), Tp, Tp, Tp, Tp, Tp, Tp, Tp, Tp, yd (.int .i64 (j : Nat)), Tp, Tp, Tp, Tp, Tp, Tp, Tp, Tp, Tp, Tp, Tp, Tp, Tp, Tp, Tp, Tp, Tp, Tp, Tp, Tp, Tp, Tp, Tp, Tp, Tp, Tp, Tp, Tp, Tp, Tp, Tp, Tp, Tp, Tp, Tp, Tp, Tp, Tp, Tp, Tp, Tp, Tp, Tp, Tp, Tp, Tp, Tp, Tp, Tp, Tp, Tp, Tp, Tp, Tp, Tp, Tp, Tp, Tp, Tp, Tp, Tp, Tp, Tp, Tp, Tp, Tp, Tp, Tp, Tp, Tp, Tp, Tp, Tp, Tp, Tp, Tp, Tp, Tp, Tp, Tp, Tp, Tp, Tp, Tp, Tp, Tp, Tp, Tp, Tp, Tp, Tp, Tp, Tp, Tp, Tp, Tp, Tp, Tp, Tp, Tp, Tp, Tp, Tp, Tp, Tp, Tp, Tp, Tp, Tp, Tp, Tp, Tp, Tp, Tp, Tp, Tp, Tp, Tp, Tp, Tp, Tp, Tp, Tp, Tp, Tp, Tp, Tp, Tp, Tp, Tp, Tp, Tp, Tp, Tp, Tp, Tp, Tp, Tp, Tp, Tp, Tp, Tp, Tp, Tp, Tp, Tp, Tp, Tp, Tp, Tp, Tp, Tp, Tp, Tp, Tp, Tp, Tp, Tp, Tp, Tp, Tp, Tp, Tp, Tp, Tp, Tp, Tp, Tp, Tp, Tp, Tp, Tp, Tp]) ∧ st = [.box zt] ∧ j + d = 9 ∧ ∀ m c, m < j → [58, 59, 44, 123, 125, 40, 41, 91, 93][m]? = some c → c ≠ x.r) [true, true, false, false, true, false, true, true, false, false, false, false, false, false, false, false, true] 9 [0] (by decide) (pinned_zero _) ⟨0, by (simp only [yE]; try rfl), by (simp only [yE]; try rfl), by omega, fun m c h => absurd h (Nat.not_lt_zero m)⟩ ?_
          rintro d e st ⟨j, rfl, rfl, hd, hj⟩
          have hlen : (strOf ⟨#[58, 59, 44, 123, 125, 40, 41, 91, 93]⟩).length = 9 := rfl
          by_cases hj9 : j < 9
          · obtain ⟨c, hc⟩ := get_lt (l := strOf ⟨#[58, 59, 44, 123, 125, 40, 41, 91, 93]⟩) (i := j) (by rw [hlen]; exact hj9)
            have t1 : leI ((9 : Nat) : Int) (j : Nat) = false := leI_false (by omega)
            have c0 : (0 : Int) ≤ (j : Nat) := by omega
            have v1 : wrapK .i64 ((j : Int) + 1) = ((j + 1 : Nat) : Int) := wrap_succ (by omega)
            have v2 : wrapK .i64 (16 + (j : Int)) = ((16 + j : Nat) : Int) := wrap_nat (i := 16 + j) (by omega)
            cases m1 : eqI ((c.toNat : Nat) : Int) x.r with
            | true =>
              have m1' := of_eqT m1
              simp -implicitDefEqProofs only [↓yP, yT, Nat.reduceAdd, Nat.reduceLeDiff, reduceCtorEq, opLen.eq_1, xindex.eq_1, hlen, t1, c0, hc, u8_i64, m1, v2, w1, zt13, ztd]
              refine ⟨lexTok ((16 + j : Nat) : Int) ⟨#[]⟩, i + 1, rfl, by omega, by omega, ?_⟩
              have hjj : j = 0 ∨ j = 1 ∨ j = 2 ∨ j = 3 ∨ j = 4 ∨ j = 5 ∨ j = 6 ∨ j = 7 ∨ j = 8 := by omega
              rcases hjj with rfl | rfl | rfl | rfl | rfl | rfl | rfl | rfl | rfl
              all_goals
                cases hc
                rw [← m1']
                rfl
            | false =>
              simp -implicitDefEqProofs only [↓yP, yT, opLen.eq_1, xindex.eq_1, hlen, t1, c0, hc, u8_i64, m1, v1]
              refine ⟨d - 1, [0], by omega, by decide, pinned_zero _, j + 1, by (simp only [yE]; try rfl), by (simp only [yE]; try rfl), by omega, fun m c' hm hc' => ?_⟩
              rcases Nat.lt_or_ge m j with g | g
              · exact hj m c' g hc'
              · obtain rfl : m = j := by omega
                have hcc : ((c.toNat : Nat) : Int) = c' := by
                  have hjj : m = 0 ∨ m = 1 ∨ m = 2 ∨ m = 3 ∨ m = 4 ∨ m = 5 ∨ m = 6 ∨ m = 7 ∨ m = 8 := by omega
                  rcases hjj with rfl | rfl | rfl | rfl | rfl | rfl | rfl | rfl | rfl <;> (cases hc; cases hc'; rfl)
                rw [← hcc]; exact of_eqF m1
          · have t1 : leI ((9 : Nat) : Int) (j : Nat) = true := leI_true (by omega)
            have hS : signK x.r = 9 := by
              unfold signK
              rw [eqI_false (fun e => hj 0 58 (by omega) rfl e.symm), eqI_false (fun e => hj 1 59 (by omega) rfl e.symm), eqI_false (fun e => hj 2 44 (by omega) rfl e.symm), eqI_false (fun e => hj 3 123 (by omega) rfl e.symm), eqI_false (fun e => hj 4 125 (by omega) rfl e.symm), eqI_false (fun e => hj 5 40 (by omega) rfl e.symm), eqI_false (fun e => hj 6 41 (by omega) rfl e.symm), eqI_false (fun e => hj 7 91 (by omega) rfl e.symm), eqI_false (fun e => hj 8 93 (by omega) rfl e.symm)]
              rfl
            rw [hS]
            simp -implicitDefEqProofs only [↓yP, yT, opLen.eq_1, hlen, t1, w1]
            refine Rcall_pure (rawX_spec l i (i + 1) hl (by omega) (by omega)) (by rfl) fun y hy => ?_
            subst hy
            rw [Nat.add_sub_cancel_left]
            simp -implicitDefEqProofs only [↓yP, yT, Nat.reduceAdd, Nat.reduceLeDiff, reduceCtorEq, w1, zt13, ztd]
            exact ⟨lexTok 9 (bstr (textF ((l.drop i).take 1))), i + 1, rfl, by omega, by omega, rfl⟩
  | false =>
    have hH : (eqI x.r 35 && (inB (Seat.hd (l.drop (i + 1))) || esc0 (l.drop (i + 1)))) = false := by rw [h5]; rfl
    simp -implicitDefEqProofs only [↓yP, yT, h3, h4, h5]
    refine Rcall_pure (numeral_spec l i (by omega)) (by rfl) fun y hy => ?_
    subst hy
    cases n1 : numeralB l i with
    | true =>
      have n1' := n1
      rw [numeral_drop] at n1'
      simp -implicitDefEqProofs only [↓yP, yT]
      refine Rcall_pure (numbersX_spec l i hl hi n1) (by rfl) fun y hy => ?_
      obtain ⟨t, k, rfl, k1, k2, ht⟩ := hy
      simp only [Tok.yv, Tok.cs, Tok.pc, List.map_cons, List.map_nil]
      simp -implicitDefEqProofs only [↓yP, yT, Nat.reduceAdd, reduceCtorEq]
      exact ⟨t, k, rfl, k1, k2, by simp only [oneT, hL, hL1, h1, h2, h3, h4, hH, n1', if_true, Bool.false_eq_true, if_false]; exact ht⟩
    | false =>
    rw [numeral_drop] at n1
    simp -implicitDefEqProofs only [↓yP, yT]
    refine Rcall_pure (follows_spec l i ⟨#[45, 45, 62]⟩ (by omega) (by decide)) (by rfl) fun y hy => ?_
    subst hy
    cases n2 : followsB l i (strOf ⟨#[45, 45, 62]⟩) with
    | true =>
      obtain ⟨a1, a2⟩ := follows_at (c := 45) (cs := [45, 62]) n2
      obtain ⟨_, a2⟩ := follows_at (c := 45) (cs := [62]) a2
      obtain ⟨a2, _⟩ := follows_at (c := 62) (cs := []) a2
      have hi1 := at_lt (l := l) (i := i + 1 + 1) (by rw [a2]; decide)
      rw [follows_drop] at n2
      simp -implicitDefEqProofs only [↓yP, yT, Nat.reduceAdd, Nat.reduceLeDiff, reduceCtorEq, w3]
      exact ⟨lexTok 15 ⟨#[]⟩, i + 3, rfl, by omega, by omega, by simp only [oneT, hL, hL1, h1, h2, h3, h4, hH, n1, n2, if_true, Bool.false_eq_true, if_false, List.drop_drop]⟩
    | false =>
    rw [follows_drop] at n2
    simp -implicitDefEqProofs only [↓yP, yT]
    refine Rcall_pure (follows_spec l i ⟨#[60, 33, 45, 45]⟩ (by omega) (by decide)) (by rfl) fun y hy => ?_
    subst hy
    cases n3 : followsB l i (strOf ⟨#[60, 33, 45, 45]⟩) with
    | true =>
      obtain ⟨a1, a2⟩ := follows_at (c := 60) (cs := [33, 45, 45]) n3
      obtain ⟨_, a2⟩ := follows_at (c := 33) (cs := [45, 45]) a2
      obtain ⟨_, a2⟩ := follows_at (c := 45) (cs := [45]) a2
      obtain ⟨a2, _⟩ := follows_at (c := 45) (cs := []) a2
      have hi1 := at_lt (l := l) (i := i + 1 + 1 + 1) (by rw [a2]; decide)
      rw [follows_drop] at n3
      simp -implicitDefEqProofs only [↓yP, yT, Nat.reduceAdd, Nat.reduceLeDiff, reduceCtorEq, w4]
      exact ⟨lexTok 14 ⟨#[]⟩, i + 4, rfl, by omega, by omega, by simp only [oneT, hL, hL1, h1, h2, h3, h4, hH, n1, n2, n3, if_true, Bool.false_eq_true, if_false, List.drop_drop]⟩
    | false =>
    rw [follows_drop] at n3
    simp -implicitDefEqProofs only [↓yP, yT]
    refine Rcall_pure (begins_spec l i (by omega)) (by rfl) fun y hy => ?_
    subst hy
    cases n4 : beginsB l i with
    | true =>
      have n4' := n4
      rw [begins_drop] at n4'
      simp -implicitDefEqProofs only [↓yP, yT]
      refine Rcall_pure (namedX_spec l i hl hi (begins_in n4)) (by rfl) fun y hy => ?_
      obtain ⟨t, k, rfl, k1, k2, ht⟩ := hy
      simp only [Tok.yv, Tok.cs, Tok.pc, List.map_cons, List.map_nil]
      simp -implicitDefEqProofs only [↓yP, yT, Nat.reduceAdd, reduceCtorEq]
      exact ⟨t, k, rfl, k1, k2, by simp only [oneT, hL, hL1, h1, h2, h3, h4, hH, n1, n2, n3, n4', if_true, Bool.false_eq_true, if_false]; exact ht⟩
    | false =>
    rw [begins_drop] at n4
    cases n5 : eqI x.r 64 with
    | true =>
      simp -implicitDefEqProofs only [↓yP, yT, n5, w1]
      refine Rcall_pure (begins_spec l (i + 1) (by omega)) (by rfl) fun y hy => ?_
      subst hy
      rw [begins_drop]
      cases n6 : begins0 (l.drop (i + 1)) with
      | true =>
        simp -implicitDefEqProofs only [↓yP, yT, w1]
        refine Rcall_pure (takeX_spec l (i + 1) hl (by omega)) (by rfl) fun y hy => ?_
        obtain ⟨k, rfl, hk1, hk2, _, hk3⟩ := hy
        simp -implicitDefEqProofs only [↓yP, yT, Nat.reduceAdd, Nat.reduceLeDiff, reduceCtorEq]
        exact ⟨lexTok 3 (bstr (takeF (l.drop (i + 1))).1), k, rfl, by omega, by omega, by simp only [oneT, hL, hL1, h1, h2, h3, h4, hH, n1, n2, n3, n4, n5, n6, Bool.and_self, if_true, Bool.false_eq_true, if_false, hk3, List.drop_drop]⟩
      | false =>
        have hO : oneT (l.drop i) = if eqI (signK x.r) 9 then (lexTok 9 (bstr (textF ((l.drop i).take 1))), l.drop (i + 1)) else (lexTok (signK x.r) ⟨#[]⟩, l.drop (i + 1)) := by
          simp only [oneT, hL, hL1, h1, h2, h3, h4, hH, n1, n2, n3, n4, n5, n6, Bool.and_false, Bool.false_eq_true, if_false, List.drop_drop]
        simp -implicitDefEqProofs only [↓yP, yT]
        rw [hO]
        refine Rl_inv (fun d e st => ∃ (j : Nat), e = ([.c (.p (rR l)), yd (.int .i64 (i : Nat)), Tp, Tp, .c (.ptr 0 0 0 0), Tp, yd (.int .i64 x.r), yd (.string ⟨#[58, 59, 44, 123, 125, 40, 41, 91, 93]⟩), Tp, Tp, Tp, Tp, Tp, Tp, Tp, Tp, yd (.int .i64 (j : Nat)), Tp, Tp, Tp, Tp, Tp, Tp, Tp, Tp, Tp, Tp, Tp, Tp, Tp, Tp, Tp, Tp, Tp, Tp, Tp, Tp, Tp, Tp, Tp, Tp, Tp, Tp, Tp, Tp, Tp, Tp, Tp, Tp, Tp, Tp, Tp, Tp, Tp, Tp, Tp, Tp, Tp, Tp, Tp, Tp, Tp, Tp, Tp, Tp, Tp, Tp, Tp, Tp, Tp, Tp, Tp, Tp, Tp, Tp, Tp, Tp, Tp, Tp, Tp, Tp, Tp, Tp, Tp, Tp, Tp, Tp, Tp, Tp, Tp, Tp, Tp, Tp, Tp, Tp, Tp, Tp, Tp, Tp, Tp, Tp, Tp, Tp, Tp, Tp, Tp, Tp, Tp, Tp, Tp, Tp, Tp, Tp, Tp, Tp, Tp, Tp, Tp, Tp, Tp, Tp, Tp, Tp, Tp, Tp, Tp, Tp, Tp, Tp, Tp, Tp, Tp, Tp, Tp, Tp, Tp, Tp, Tp, Tp, Tp, Tp, Tp, Tp, Tp, Tp, Tp, Tp, Tp, Tp, Tp, Tp, Tp, Tp, Tp, Tp, Tp, Tp, Tp, Tp, Tp, Tp, Tp, Tp, Tp, Tp, Tp, Tp, Tp, Tp, Tp, Tp, Tp, Tp, Tp, Tp, Tp, Tp, Tp, Tp, Tp, Tp, Tp, Tp, Tp, Tp, Tp, Tp, Tp, Tp, Tp]) ∧ st = [.box zt] ∧ j + d = 9 ∧ ∀ m c, m < j → [58, 59, 44, 123, 125, 40, 41, 91, 93][m]? = some c → c ≠ x.r) [true, true, false, false, true, false, true, true, false, false, false, false, false, false, false, false, true] 9 [0] (by decide) (pinned_zero _) ⟨0, by (simp only [yE]; try rfl), by (simp only [yE]; try rfl), by omega, fun m c h => absurd h (Nat.not_lt_zero m)⟩ ?_
        rintro d e st ⟨j, rfl, rfl, hd, hj⟩
        have hlen : (strOf ⟨#[58, 59, 44, 123, 125, 40, 41, 91, 93]⟩).length = 9 := rfl
        by_cases hj9 : j < 9
        · obtain ⟨c, hc⟩ := get_lt (l := strOf ⟨#[58, 59, 44, 123, 125, 40, 41, 91, 93]⟩) (i := j) (by rw [hlen]; exact hj9)
          have t1 : leI ((9 : Nat) : Int) (j : Nat) = false := leI_false (by omega)
          have c0 : (0 : Int) ≤ (j : Nat) := by omega
          have v1 : wrapK .i64 ((j : Int) + 1) = ((j + 1 : Nat) : Int) := wrap_succ (by omega)
          have v2 : wrapK .i64 (16 + (j : Int)) = ((16 + j : Nat) : Int) := wrap_nat (i := 16 + j) (by omega)
          cases m1 : eqI ((c.toNat : Nat) : Int) x.r with
          | true =>
            have m1' := of_eqT m1
            simp -implicitDefEqProofs only [↓yP, yT, Nat.reduceAdd, Nat.reduceLeDiff, reduceCtorEq, opLen.eq_1, xindex.eq_1, hlen, t1, c0, hc, u8_i64, m1, v2, w1, zt13, ztd]
            refine ⟨lexTok ((16 + j : Nat) : Int) ⟨#[]⟩, i + 1, rfl, by omega, by omega, ?_⟩
            have hjj : j = 0 ∨ j = 1 ∨ j = 2 ∨ j = 3 ∨ j = 4 ∨ j = 5 ∨ j = 6 ∨ j = 7 ∨ j = 8 := by omega
            rcases hjj with rfl | rfl | rfl | rfl | rfl | rfl | rfl | rfl | rfl
            all_goals
              cases hc
              rw [← m1']
              rfl
          | false =>
            simp -implicitDefEqProofs only [↓yP, yT, opLen.eq_1, xindex.eq_1, hlen, t1, c0, hc, u8_i64, m1, v1]
            refine ⟨d - 1, [0], by omega, by decide, pinned_zero _, j + 1, by (simp only [yE]; try rfl), by (simp only [yE]; try rfl), by omega, fun m c' hm hc' => ?_⟩
            rcases Nat.lt_or_ge m j with g | g
            · exact hj m c' g hc'
            · obtain rfl : m = j := by omega
              have hcc : ((c.toNat : Nat) : Int) = c' := by
                have hjj : m = 0 ∨ m = 1 ∨ m = 2 ∨ m = 3 ∨ m = 4 ∨ m = 5 ∨ m = 6 ∨ m = 7 ∨ m = 8 := by omega
                rcases hjj with rfl | rfl | rfl | rfl | rfl | rfl | rfl | rfl | rfl <;> (cases hc; cases hc'; rfl)
              rw [← hcc]; exact of_eqF m1
        · have t1 : leI ((9 : Nat) : Int) (j : Nat) = true := leI_true (by omega)
          have hS : signK x.r = 9 := by
            unfold signK
            rw [eqI_false (fun e => hj 0 58 (by omega) rfl e.symm), eqI_false (fun e => hj 1 59 (by omega) rfl e.symm), eqI_false (fun e => hj 2 44 (by omega) rfl e.symm), eqI_false (fun e => hj 3 123 (by omega) rfl e.symm), eqI_false (fun e => hj 4 125 (by omega) rfl e.symm), eqI_false (fun e => hj 5 40 (by omega) rfl e.symm), eqI_false (fun e => hj 6 41 (by omega) rfl e.symm), eqI_false (fun e => hj 7 91 (by omega) rfl e.symm), eqI_false (fun e => hj 8 93 (by omega) rfl e.symm)]
            rfl
          rw [hS]
          simp -implicitDefEqProofs only [↓yP, yT, opLen.eq_1, hlen, t1, w1]
          refine Rcall_pure (rawX_spec l i (i + 1) hl (by omega) (by omega)) (by rfl) fun y hy => ?_
          subst hy
          rw [Nat.add_sub_cancel_left]
          simp -implicitDefEqProofs only [↓yP, yT, Nat.reduceAdd, Nat.reduceLeDiff, reduceCtorEq, w1, zt13, ztd]
          exact ⟨lexTok 9 (bstr (textF ((l.drop i).take 1))), i + 1, rfl, by omega, by omega, rfl⟩
    | false =>
      have hO : oneT (l.drop i) = if eqI (signK x.r) 9 then (lexTok 9 (bstr (textF ((l.drop i).take 1))), l.drop (i + 1)) else (lexTok (signK x.r) ⟨#[]⟩, l.drop (i + 1)) := by
        simp only [oneT, hL, hL1, h1, h2, h3, h4, hH, n1, n2, n3, n4, n5, Bool.false_and, Bool.false_eq_true, if_false, List.drop_drop]
      simp -implicitDefEqProofs only [↓yP, yT, n5]
      rw [hO]
      refine Rl_inv (fun d e st => ∃ (j : Nat), e = ([.c (.p (rR l)), yd (.int .i64 (i : Nat)), Tp, Tp, .c (.ptr 0 0 0 0), Tp, yd (.int .i64 x.r), yd (.string ⟨#[58, 59, 44, 123, 125, 40, 41, 91, 93]⟩), Tp, Tp, Tp, Tp, Tp, Tp, Tp, Tp, yd (.int .i64 (j : Nat)), Tp, Tp, Tp, Tp, Tp, Tp, Tp, Tp, Tp, Tp, Tp, Tp, Tp, Tp, Tp, Tp, Tp, Tp, Tp, Tp, Tp, Tp, Tp, Tp, Tp, Tp, Tp, Tp, Tp, Tp, Tp, Tp, Tp, Tp, Tp, Tp, Tp, Tp, Tp, Tp, Tp, Tp, Tp, Tp, Tp, Tp, Tp, Tp, Tp, Tp, Tp, Tp, Tp, Tp, Tp, Tp, Tp, Tp, Tp, Tp, Tp, Tp, Tp, Tp, Tp, Tp, Tp, Tp, Tp, Tp, Tp, Tp, Tp, Tp, Tp, Tp, Tp, Tp, Tp, Tp, Tp, Tp, Tp, Tp, Tp, Tp, Tp, Tp, Tp, Tp, Tp, Tp, Tp, Tp, Tp, Tp, Tp, Tp, Tp, Tp, Tp, Tp, Tp, Tp, Tp, Tp, Tp, Tp, Tp, Tp, Tp, Tp, Tp, Tp, Tp, Tp, Tp, Tp, Tp, Tp, Tp, Tp, Tp, Tp, Tp, Tp, Tp, Tp, Tp, Tp, Tp, Tp, Tp, Tp, Tp, Tp, Tp, Tp, Tp, Tp, Tp, Tp, Tp, Tp, Tp, Tp, Tp, Tp, Tp, Tp, Tp, Tp, Tp, Tp, Tp, Tp, Tp, Tp, Tp, Tp, Tp, Tp, Tp, Tp, Tp, Tp, Tp, Tp, Tp, Tp, Tp, Tp, Tp]) ∧ st = [.box zt] ∧ j + d = 9 ∧ ∀ m c, m < j → [58, 59, 44, 123, 125, 40, 41, 91, 93][m]? = some c → c ≠ x.r) [true, true, false, false, true, false, true, true, false, false, false, false, false, false, false, false, true] 9 [0] (by decide) (pinned_zero _) ⟨0, by (simp only [yE]; try rfl), by (simp only [yE]; try rfl), by omega, fun m c h => absurd h (Nat.not_lt_zero m)⟩ ?_
      rintro d e st ⟨j, rfl, rfl, hd, hj⟩
      have hlen : (strOf ⟨#[58, 59, 44, 123, 125, 40, 41, 91, 93]⟩).length = 9 := rfl
      by_cases hj9 : j < 9
      · obtain ⟨c, hc⟩ := get_lt (l := strOf ⟨#[58, 59, 44, 123, 125, 40, 41, 91, 93]⟩) (i := j) (by rw [hlen]; exact hj9)
        have t1 : leI ((9 : Nat) : Int) (j : Nat) = false := leI_false (by omega)
        have c0 : (0 : Int) ≤ (j : Nat) := by omega
        have v1 : wrapK .i64 ((j : Int) + 1) = ((j + 1 : Nat) : Int) := wrap_succ (by omega)
        have v2 : wrapK .i64 (16 + (j : Int)) = ((16 + j : Nat) : Int) := wrap_nat (i := 16 + j) (by omega)
        cases m1 : eqI ((c.toNat : Nat) : Int) x.r with
        | true =>
          have m1' := of_eqT m1
          simp -implicitDefEqProofs only [↓yP, yT, Nat.reduceAdd, Nat.reduceLeDiff, reduceCtorEq, opLen.eq_1, xindex.eq_1, hlen, t1, c0, hc, u8_i64, m1, v2, w1, zt13, ztd]
          refine ⟨lexTok ((16 + j : Nat) : Int) ⟨#[]⟩, i + 1, rfl, by omega, by omega, ?_⟩
          have hjj : j = 0 ∨ j = 1 ∨ j = 2 ∨ j = 3 ∨ j = 4 ∨ j = 5 ∨ j = 6 ∨ j = 7 ∨ j = 8 := by omega
          rcases hjj with rfl | rfl | rfl | rfl | rfl | rfl | rfl | rfl | rfl
          all_goals
            cases hc
            rw [← m1']
            rfl
        | false =>
          simp -implicitDefEqProofs only [↓yP, yT, opLen.eq_1, xindex.eq_1, hlen, t1, c0, hc, u8_i64, m1, v1]
          refine ⟨d - 1, [0], by omega, by decide, pinned_zero _, j + 1, by (simp only [yE]; try rfl), by (simp only [yE]; try rfl), by omega, fun m c' hm hc' => ?_⟩
          rcases Nat.lt_or_ge m j with g | g
          · exact hj m c' g hc'
          · obtain rfl : m = j := by omega
            have hcc : ((c.toNat : Nat) : Int) = c' := by
              have hjj : m = 0 ∨ m = 1 ∨ m = 2 ∨ m = 3 ∨ m = 4 ∨ m = 5 ∨ m = 6 ∨ m = 7 ∨ m = 8 := by omega
              rcases hjj with rfl | rfl | rfl | rfl | rfl | rfl | rfl | rfl | rfl <;> (cases hc; cases hc'; rfl)
            rw [← hcc]; exact of_eqF m1
      · have t1 : leI ((9 : Nat) : Int) (j : Nat) = true := leI_true (by omega)
        have hS : signK x.r = 9 := by
          unfold signK
          rw [eqI_false (fun e => hj 0 58 (by omega) rfl e.symm), eqI_false (fun e => hj 1 59 (by omega) rfl e.symm), eqI_false (fun e => hj 2 44 (by omega) rfl e.symm), eqI_false (fun e => hj 3 123 (by omega) rfl e.symm), eqI_false (fun e => hj 4 125 (by omega) rfl e.symm), eqI_false (fun e => hj 5 40 (by omega) rfl e.symm), eqI_false (fun e => hj 6 41 (by omega) rfl e.symm), eqI_false (fun e => hj 7 91 (by omega) rfl e.symm), eqI_false (fun e => hj 8 93 (by omega) rfl e.symm)]
          rfl
        rw [hS]
        simp -implicitDefEqProofs only [↓yP, yT, opLen.eq_1, hlen, t1, w1]
        refine Rcall_pure (rawX_spec l i (i + 1) hl (by omega) (by omega)) (by rfl) fun y hy => ?_
        subst hy
        rw [Nat.add_sub_cancel_left]
        simp -implicitDefEqProofs only [↓yP, yT, Nat.reduceAdd, Nat.reduceLeDiff, reduceCtorEq, w1, zt13, ztd]
        exact ⟨lexTok 9 (bstr (textF ((l.drop i).take 1))), i + 1, rfl, by omega, by omega, rfl⟩
noncomputable def lexF (l : List Rn) : List Tok := match l with
  | [] => []
  | x :: r => { (oneT (x :: r)).1 with start := x.a } :: (if h : (oneT (x :: r)).2.length < (x :: r).length then lexF (oneT (x :: r)).2 else [])
termination_by l.length
decreasing_by exact h
theorem lexF_nil : lexF [] = [] := by rw [lexF]
theorem clexX_spec (l : List Rn) (hl : l.length ≤ 1000000) : PCall C1 32 [.c (.p (rR l))] fun y => y = .c (.p (rT (lexF l))) := by
  refine Pf (by rfl) (by rfl) fn32 (by rfl) ?_
  simp only [Try.f32, List.length_cons, List.length_nil, List.replicate, List.cons_append, List.nil_append]
  simp -implicitDefEqProofs only [↓yP, yT]
  refine Rl_nil 3 13 (by decide) rfl ?_
  refine Rl_inv (fun d e s => ∃ (i : Nat) (ts : List Tok), e = ([.c (.p (rR l)), Tp, Tp, .c (.own 0 13 0 ts.length), yd (.int .i64 (i : Nat)), Tp, Tp, Tp, Tp, Tp, Tp, Tp, Tp, Tp, Tp, Tp, Tp, Tp, Tp, Tp, Tp, Tp, Tp, Tp, Tp, Tp, Tp, Tp, Tp]) ∧ s = [.row 13 (ts.map Tok.pc)] ∧ i + d = l.length ∧ ts.length ≤ i ∧ lexF l = ts ++ lexF (l.drop i)) [true, false, false, true, true] l.length [0] (by decide) (pinned_zero _) ⟨0, [], by (simp only [yE]; try rfl), by (simp only [yE]; try rfl), by omega, by simp, by simp⟩ ?_
  rintro d e s ⟨i, ts, rfl, rfl, hd, hlen, hlx⟩
  by_cases hi : i < l.length
  · obtain ⟨x, hx⟩ := get_lt hi
    have hdc := drop_cons hx
    have t1 : leI (l.length : Nat) (i : Nat) = false := leI_false (by omega)
    have b1 : (ts.length + 1) * 128 ≤ 70368744177664 := by omega
    simp -implicitDefEqProofs only [↓yP, yT, t1]
    refine Rcall_pure (oneX_spec l i hl hi) (by rfl) fun y hy => ?_
    obtain ⟨t, k, rfl, k1, k2, ht⟩ := hy
    have hlt : (oneT (x :: l.drop (i + 1))).2.length < (x :: l.drop (i + 1)).length := by
      rw [← hdc, ht]; simp; omega
    rw [hdc, lexF, dif_pos hlt, ← hdc, ht] at hlx
    simp only [Tok.yv, Tok.cs, Tok.pc, List.map_cons, List.map_nil]
    simp -implicitDefEqProofs only [↓yP, yT, Nat.reduceAdd, Nat.reduceMul, Nat.reduceLeDiff, reduceCtorEq, rnGet hx, b1]
    refine ⟨l.length - k, [3], by omega, by decide, pinned_zero _, k, ts ++ [{ t with start := x.a }], by (simp only [yE]; try rfl), ?_, by omega, by simp; omega, by rw [hlx]; simp⟩
    simp only [yE, List.map_append]; rfl
  · have t1 : leI (l.length : Nat) (i : Nat) = true := leI_true (by omega)
    obtain rfl : i = l.length := by omega
    rw [List.drop_length, lexF_nil, List.append_nil] at hlx
    rw [hlx]
    simp -implicitDefEqProofs only [↓yP, yT, reduceCtorEq, t1]
end Go.Vx.Seat
end
section
open Go Go.Vx Go.Proofs
namespace Go.Vx.Seat
theorem suf_cons {α : Type} {r l : List α} (x : α) (h : r <:+ l) : r <:+ x :: l := h.trans (List.suffix_cons x l)
theorem skipB_suf (l : List Rn) : skipB l <:+ l := by
  unfold skipB
  split
  · exact List.suffix_refl _
  · split
    · exact List.suffix_cons _ _
    · exact List.suffix_refl _
theorem hexN_suf : ∀ (n : Nat) (x : Int) (l : List Rn), (hexN n x l).2 <:+ l
  | 0, x, l => List.suffix_refl _
  | n + 1, x, [] => List.suffix_refl _
  | n + 1, x, c :: l => by
    unfold hexN
    split
    · exact suf_cons c (hexN_suf n _ l)
    · exact List.suffix_refl _
theorem escF_suf (l : List Rn) : (escF l).2 <:+ l := by
  unfold escF
  split
  · exact List.suffix_refl _
  · rename_i c r
    split
    · exact (skipB_suf _).trans (hexN_suf 6 0 (c :: r))
    · exact List.suffix_cons _ _
theorem takeF_suf : ∀ (n : Nat) (l : List Rn), l.length ≤ n → (takeF l).2 <:+ l := by
  intro n
  induction n with
  | zero => intro l h; have : l = [] := List.eq_nil_of_length_eq_zero (by omega); subst this; rw [takeF_nil]; exact List.suffix_refl _
  | succ n ih =>
    intro l h
    cases l with
    | nil => rw [takeF_nil]; exact List.suffix_refl _
    | cons x r =>
      have hr : r.length ≤ n := by simpa using h
      cases h1 : inB x.r with
      | true => rw [takeF_in h1]; exact suf_cons x (ih r hr)
      | false =>
        cases h2 : esc0 (x :: r) with
        | true => rw [takeF_esc h1 h2]; exact suf_cons x ((ih _ (by have := escF_le r; omega)).trans (escF_suf r))
        | false => rw [takeF_end h1 h2]; exact List.suffix_refl _
theorem quotedF_suf (q : Int) : ∀ (n : Nat) (l : List Rn), l.length ≤ n → (quotedF q l).2.2 <:+ l := by
  intro n
  induction n with
  | zero => intro l h; have : l = [] := List.eq_nil_of_length_eq_zero (by omega); subst this; rw [quotedF_nil]; exact List.suffix_refl _
  | succ n ih =>
    intro l h
    cases l with
    | nil => rw [quotedF_nil]; exact List.suffix_refl _
    | cons x r =>
      have hr : r.length ≤ n := by simpa using h
      cases h1 : eqI x.r q with
      | true => rw [quotedF_shut h1]; exact List.suffix_cons _ _
      | false =>
        cases h2 : eqI x.r 10 with
        | true => rw [quotedF_nl h1 h2]; exact List.suffix_refl _
        | false =>
          cases h3 : eqI x.r 92 with
          | false => rw [quotedF_plain h1 h2 h3]; exact suf_cons x (ih r hr)
          | true =>
            cases r with
            | nil => rw [quotedF_lone h1 h2 h3]; exact List.nil_suffix
            | cons y r' =>
              cases h4 : eqI y.r 10 with
              | true => rw [quotedF_escnl h1 h2 h3 h4]; exact suf_cons x (suf_cons y (ih r' (by simp at hr; omega)))
              | false => rw [quotedF_esc h1 h2 h3 h4]; exact suf_cons x ((ih _ (by have := escF_le (y :: r'); omega)).trans (escF_suf _))
theorem badF_suf : ∀ (n : Nat) (l : List Rn), l.length ≤ n → badF l <:+ l := by
  intro n
  induction n with
  | zero => intro l h; have : l = [] := List.eq_nil_of_length_eq_zero (by omega); subst this; rw [badF_nil]; exact List.suffix_refl _
  | succ n ih =>
    intro l h
    cases l with
    | nil => rw [badF_nil]; exact List.suffix_refl _
    | cons x r =>
      have hr : r.length ≤ n := by simpa using h
      cases h1 : eqI x.r 41 with
      | true => rw [badF_shut h1]; exact List.suffix_cons _ _
      | false =>
        cases h2 : esc0 (x :: r) with
        | true => rw [badF_esc h1 h2]; exact suf_cons x ((ih _ (by have := escF_le r; omega)).trans (escF_suf r))
        | false => rw [badF_plain h1 h2]; exact suf_cons x (ih r hr)
theorem blanks_suf (l : List Rn) : blanks l <:+ l := List.dropWhile_suffix _
theorem urlF_suf : ∀ (n : Nat) (l : List Rn), l.length ≤ n → (urlF l).2 <:+ l := by
  intro n
  induction n with
  | zero => intro l h; have : l = [] := List.eq_nil_of_length_eq_zero (by omega); subst this; rw [urlF_nil]; exact List.suffix_refl _
  | succ n ih =>
    intro l h
    cases l with
    | nil => rw [urlF_nil]; exact List.suffix_refl _
    | cons x r =>
      have hr : r.length ≤ n := by simpa using h
      cases h1 : eqI x.r 41 with
      | true => rw [urlF_shut h1]; exact List.suffix_cons _ _
      | false =>
        cases h2 : blankB x.r with
        | true =>
          cases h3 : blanks r with
          | nil => rw [urlF_bl0 h1 h2 h3]; exact List.nil_suffix
          | cons y r' =>
            have hs : y :: r' <:+ r := h3 ▸ blanks_suf r
            cases h4 : eqI y.r 41 with
            | true => rw [urlF_bl1 h1 h2 h3 h4]; exact suf_cons x ((List.suffix_cons y r').trans hs)
            | false => rw [urlF_bl2 h1 h2 h3 h4]; exact suf_cons x ((badF_suf _ _ (Nat.le_refl _)).trans hs)
        | false =>
          cases h3 : urlBad x r with
          | true => rw [urlF_bad h1 h2 h3]; exact badF_suf _ _ (Nat.le_refl _)
          | false =>
            cases h4 : eqI x.r 92 with
            | true => rw [urlF_esc h1 h2 h3 h4]; exact suf_cons x ((ih _ (by have := escF_le r; omega)).trans (escF_suf r))
            | false => rw [urlF_plain h1 h2 h3 h4]; exact suf_cons x (ih r hr)
theorem commF_suf : ∀ l : List Rn, (commF l).2 <:+ l
  | [] => List.suffix_refl _
  | x :: r => by
    unfold commF
    split
    · exact suf_cons x (List.drop_suffix 1 r)
    · exact suf_cons x (commF_suf r)
theorem digs_suf (l : List Rn) : digs l <:+ l := List.dropWhile_suffix _
theorem numA_suf (l : List Rn) : numA l <:+ l := by
  unfold numA
  split
  · exact (digs_suf _).trans (List.drop_suffix 1 l)
  · exact digs_suf l
theorem numB_suf (l : List Rn) : (numB l).2 <:+ l := by
  unfold numB
  split
  · exact (digs_suf _).trans (List.drop_suffix 2 l)
  · exact List.suffix_refl _
theorem numC_suf (b : Bool) (l : List Rn) : (numC b l).2 <:+ l := by
  unfold numC
  cases h1 : (eqI (hd l) 101 || eqI (hd l) 69) with
  | false => exact List.suffix_refl _
  | true =>
    simp only [if_true]
    have hs : (if isSign (l.drop 1) then l.drop 2 else l.drop 1) <:+ l := by
      cases isSign (l.drop 1)
      · exact List.drop_suffix 1 l
      · exact List.drop_suffix 2 l
    cases h2 : digitB (hd (if isSign (l.drop 1) then l.drop 2 else l.drop 1)) with
    | false => exact List.suffix_refl _
    | true => exact (digs_suf _).trans hs
theorem numF_suf (l : List Rn) : (numF l).2 <:+ l := (numC_suf _ _).trans ((numB_suf _).trans (numA_suf l))
theorem quoteT_suf (x : Rn) (r : List Rn) : (quoteT (x :: r)).2 <:+ r := quotedF_suf _ _ _ (Nat.le_refl _)
theorem urlT_suf (g s : List Rn) : (urlT g s).2 <:+ s := by
  have h := (urlF_suf _ (blanks s) (Nat.le_refl _)).trans (blanks_suf s)
  unfold urlT
  split
  · rename_i e; rw [e] at h; exact h
  · rename_i e; rw [e] at h; exact h
theorem namedT_suf (l : List Rn) : (namedT l).2 <:+ (takeF l).2 := by
  unfold namedT
  simp only
  split
  · split
    · exact (urlT_suf _ _).trans (List.drop_suffix 1 _)
    · exact List.drop_suffix 1 _
  · exact List.suffix_refl _
theorem numT_suf (l : List Rn) : (numT l).2 <:+ (numF l).2 := by
  unfold numT numE
  split
  · exact takeF_suf _ _ (Nat.le_refl _)
  · split
    · exact List.drop_suffix 1 _
    · exact List.suffix_refl _
def spB (r : Int) : Bool := eqI r 125 || blankB r
def J (f : Rn → Rn) (t l : List Rn) : List Rn := l.map f ++ t
def Sl (t l : List Rn) : Prop := t = [] ∨ ∃ u z, l = u ++ [z] ∧ spB z.r = true
section
variable {t : List Rn}
theorem Sl.nil (h : Sl t []) : t = [] := by
  rcases h with h | ⟨u, z, h, _⟩
  · exact h
  · exact absurd h (by simp)
theorem Sl.suf {r l : List Rn} (h : Sl t r) (hs : r <:+ l) : Sl t l := by
  rcases h with h | ⟨u, z, rfl, hz⟩
  · exact .inl h
  · obtain ⟨p, rfl⟩ := hs
    exact .inr ⟨p ++ u, z, by simp, hz⟩
theorem Sl.tail {x : Rn} {r : List Rn} (h : Sl t (x :: r)) (hx : spB x.r = false) : Sl t r := by
  rcases h with h | ⟨u, z, h, hz⟩
  · exact .inl h
  · cases u with
    | nil => simp at h; rw [← h.1, hx] at hz; cases hz
    | cons y u' => simp at h; exact .inr ⟨u', z, h.2, hz⟩
theorem sp_ne {r c : Int} (h : eqI r c = true) (hc : spB c = false) : spB r = false := by rw [of_eqT h]; exact hc
end
section
variable {f : Rn → Rn} {t : List Rn}
theorem J_nil (h : t = []) : J f t [] = [] := by rw [h]; rfl
theorem J_cons (x : Rn) (l : List Rn) : J f t (x :: l) = f x :: J f t l := rfl
variable (hf : ∀ x, (f x).r = x.r)
include hf
theorem hd_J {l : List Rn} (h : Sl t l) : hd (J f t l) = hd l := by
  cases l with
  | nil => rw [J_nil h.nil]
  | cons x r => exact hf x
theorem esc0_J {l : List Rn} (h : Sl t l) : esc0 (J f t l) = esc0 l := by
  cases l with
  | nil => rw [J_nil h.nil]
  | cons x r =>
    show (eqI (f x).r 92 && !eqI (hd (J f t r)) 10) = (eqI x.r 92 && !eqI (hd r) 10)
    rw [hf]
    cases h1 : eqI x.r 92 with
    | false => rfl
    | true => rw [hd_J hf (h.tail (sp_ne h1 (by decide)))]
theorem hexN_J : ∀ (n : Nat) (x : Int) (l : List Rn), Sl t (hexN n x l).2 → hexN n x (J f t l) = ((hexN n x l).1, J f t (hexN n x l).2)
  | 0, x, l, h => rfl
  | n + 1, x, [], h => by
    show hexN (n + 1) x (J f t []) = (x, J f t [])
    rw [J_nil (Sl.nil (t := t) h)]; rfl
  | n + 1, x, c :: l, h => by
    rw [J_cons]
    simp only [hexN, hf] at h ⊢
    split
    · rename_i h1; rw [if_pos h1] at h; exact hexN_J n _ l h
    · rfl
theorem skipB_J {l : List Rn} (h : Sl t (skipB l)) : skipB (J f t l) = J f t (skipB l) := by
  cases l with
  | nil => rw [J_nil h.nil]; exact (J_nil h.nil).symm
  | cons x r =>
    rw [J_cons]
    simp only [skipB, hf]
    split <;> rfl
theorem escF_J {l : List Rn} (h : Sl t (escF l).2) : escF (J f t l) = ((escF l).1, J f t (escF l).2) := by
  cases l with
  | nil => rw [J_nil h.nil]; exact Prod.ext rfl (J_nil h.nil).symm
  | cons x r =>
    rw [J_cons]
    simp only [escF, hf] at h ⊢
    split
    · rename_i h1
      rw [if_pos h1] at h
      have h2 := hexN_J hf 6 0 (x :: r) (h.suf (skipB_suf _))
      rw [J_cons] at h2
      rw [h2, skipB_J hf h]
    · rfl
theorem takeF_J : ∀ (n : Nat) (l : List Rn), l.length ≤ n → Sl t (takeF l).2 → takeF (J f t l) = ((takeF l).1, J f t (takeF l).2) := by
  intro n
  induction n with
  | zero =>
    intro l h hs
    have : l = [] := List.eq_nil_of_length_eq_zero (by omega)
    subst this
    rw [takeF_nil] at hs ⊢
    rw [J_nil hs.nil, takeF_nil]
  | succ n ih =>
    intro l h hs
    cases l with
    | nil => rw [takeF_nil] at hs ⊢; rw [J_nil hs.nil, takeF_nil]
    | cons x r =>
      have hr : r.length ≤ n := by simpa using h
      have hsl : Sl t (x :: r) := hs.suf (takeF_suf _ _ (Nat.le_refl _))
      have he := esc0_J hf hsl
      rw [J_cons] at he ⊢
      cases h1 : inB x.r with
      | true => rw [takeF_in h1] at hs ⊢; rw [takeF_in (by rw [hf]; exact h1), hf, ih r hr hs]
      | false =>
        cases h2 : esc0 (x :: r) with
        | true =>
          rw [takeF_esc h1 h2] at hs ⊢
          rw [takeF_esc (by rw [hf]; exact h1) (by rw [he]; exact h2), escF_J hf (hs.suf (takeF_suf _ _ (Nat.le_refl _))), ih _ (by have := escF_le r; omega) hs]
        | false => rw [takeF_end h1 h2] at hs ⊢; rw [takeF_end (by rw [hf]; exact h1) (by rw [he]; exact h2)]; rfl
theorem quotedF_J (q : Int) : ∀ (n : Nat) (l : List Rn), l.length ≤ n → Sl t (quotedF q l).2.2 → quotedF q (J f t l) = ((quotedF q l).1, (quotedF q l).2.1, J f t (quotedF q l).2.2) := by
  intro n
  induction n with
  | zero =>
    intro l h hs
    have : l = [] := List.eq_nil_of_length_eq_zero (by omega)
    subst this
    rw [quotedF_nil] at hs ⊢
    rw [J_nil hs.nil, quotedF_nil]
  | succ n ih =>
    intro l h hs
    cases l with
    | nil => rw [quotedF_nil] at hs ⊢; rw [J_nil hs.nil, quotedF_nil]
    | cons x r =>
      have hr : r.length ≤ n := by simpa using h
      have hsl : Sl t (x :: r) := hs.suf (quotedF_suf _ _ _ (Nat.le_refl _))
      rw [J_cons]
      cases h1 : eqI x.r q with
      | true => rw [quotedF_shut h1, quotedF_shut (by rw [hf]; exact h1)]
      | false =>
        cases h2 : eqI x.r 10 with
        | true => rw [quotedF_nl h1 h2, quotedF_nl (by rw [hf]; exact h1) (by rw [hf]; exact h2)]; rfl
        | false =>
          cases h3 : eqI x.r 92 with
          | false => rw [quotedF_plain h1 h2 h3] at hs ⊢; rw [quotedF_plain (by rw [hf]; exact h1) (by rw [hf]; exact h2) (by rw [hf]; exact h3), hf, ih r hr hs]
          | true =>
            cases r with
            | nil =>
              rw [quotedF_lone h1 h2 h3] at hs ⊢
              rw [J_nil hs.nil, quotedF_lone (by rw [hf]; exact h1) (by rw [hf]; exact h2) (by rw [hf]; exact h3)]
            | cons y r' =>
              rw [J_cons]
              cases h4 : eqI y.r 10 with
              | true =>
                rw [quotedF_escnl h1 h2 h3 h4] at hs ⊢
                rw [quotedF_escnl (by rw [hf]; exact h1) (by rw [hf]; exact h2) (by rw [hf]; exact h3) (by rw [hf]; exact h4), ih r' (by simp at hr; omega) hs]
              | false =>
                rw [quotedF_esc h1 h2 h3 h4] at hs ⊢
                have he := escF_J hf (hs.suf (quotedF_suf _ _ _ (Nat.le_refl _)))
                rw [J_cons] at he
                rw [quotedF_esc (by rw [hf]; exact h1) (by rw [hf]; exact h2) (by rw [hf]; exact h3) (by rw [hf]; exact h4), he, ih _ (by have := escF_le (y :: r'); omega) hs]
theorem badF_J : ∀ (n : Nat) (l : List Rn), l.length ≤ n → Sl t (badF l) → badF (J f t l) = J f t (badF l) := by
  intro n
  induction n with
  | zero =>
    intro l h hs
    have : l = [] := List.eq_nil_of_length_eq_zero (by omega)
    subst this
    rw [badF_nil] at hs ⊢
    rw [J_nil hs.nil, badF_nil]
  | succ n ih =>
    intro l h hs
    cases l with
    | nil => rw [badF_nil] at hs ⊢; rw [J_nil hs.nil, badF_nil]
    | cons x r =>
      have hr : r.length ≤ n := by simpa using h
      have he := esc0_J hf (hs.suf (badF_suf _ _ (Nat.le_refl _)))
      rw [J_cons] at he ⊢
      cases h1 : eqI x.r 41 with
      | true => rw [badF_shut h1, badF_shut (by rw [hf]; exact h1)]
      | false =>
        cases h2 : esc0 (x :: r) with
        | true =>
          rw [badF_esc h1 h2] at hs ⊢
          rw [badF_esc (by rw [hf]; exact h1) (by rw [he]; exact h2), escF_J hf (hs.suf (badF_suf _ _ (Nat.le_refl _))), ih _ (by have := escF_le r; omega) hs]
        | false =>
          rw [badF_plain h1 h2] at hs ⊢
          rw [badF_plain (by rw [hf]; exact h1) (by rw [he]; exact h2), ih r hr hs]
theorem dropWhile_J (p : Int → Bool) : ∀ (l : List Rn), Sl t (l.dropWhile fun x => p x.r) → (J f t l).dropWhile (fun x => p x.r) = J f t (l.dropWhile fun x => p x.r)
  | [], h => by rw [J_nil h.nil]; exact (J_nil h.nil).symm
  | x :: r, h => by
    rw [J_cons]
    cases h1 : p x.r with
    | true =>
      have e1 : (f x :: J f t r).dropWhile (fun x => p x.r) = (J f t r).dropWhile (fun x => p x.r) := List.dropWhile_cons_of_pos (by show p (f x).r = true; rw [hf]; exact h1)
      have e2 : (x :: r).dropWhile (fun x => p x.r) = r.dropWhile (fun x => p x.r) := List.dropWhile_cons_of_pos h1
      rw [e2] at h
      rw [e1, e2]
      exact dropWhile_J p r h
    | false =>
      have e1 : (f x :: J f t r).dropWhile (fun x => p x.r) = f x :: J f t r := List.dropWhile_cons_of_neg (by show ¬ p (f x).r = true; rw [hf, h1]; simp)
      have e2 : (x :: r).dropWhile (fun x => p x.r) = x :: r := List.dropWhile_cons_of_neg (by show ¬ p x.r = true; rw [h1]; simp)
      rw [e1, e2]; rfl
theorem blanks_J {l : List Rn} (h : Sl t (blanks l)) : blanks (J f t l) = J f t (blanks l) := dropWhile_J hf blankB l h
theorem urlBad_J {x : Rn} {r : List Rn} (h : Sl t (x :: r)) : urlBad (f x) (J f t r) = urlBad x r := by
  have he := esc0_J hf h
  rw [J_cons] at he
  simp only [urlBad, hf, he]
theorem urlF_J : ∀ (n : Nat) (l : List Rn), l.length ≤ n → Sl t (urlF l).2 → urlF (J f t l) = ((urlF l).1, J f t (urlF l).2) := by
  intro n
  induction n with
  | zero =>
    intro l h hs
    have : l = [] := List.eq_nil_of_length_eq_zero (by omega)
    subst this
    rw [urlF_nil] at hs ⊢
    rw [J_nil hs.nil, urlF_nil]
  | succ n ih =>
    intro l h hs
    cases l with
    | nil => rw [urlF_nil] at hs ⊢; rw [J_nil hs.nil, urlF_nil]
    | cons x r =>
      have hr : r.length ≤ n := by simpa using h
      have hub := urlBad_J hf (hs.suf (urlF_suf _ _ (Nat.le_refl _)))
      rw [J_cons]
      cases h1 : eqI x.r 41 with
      | true => rw [urlF_shut h1, urlF_shut (by rw [hf]; exact h1)]
      | false =>
        cases h2 : blankB x.r with
        | true =>
          cases h3 : blanks r with
          | nil =>
            rw [urlF_bl0 h1 h2 h3] at hs ⊢
            have hb := blanks_J hf (l := r) (by rw [h3]; exact hs)
            rw [h3] at hb
            rw [urlF_bl0 (by rw [hf]; exact h1) (by rw [hf]; exact h2) (by rw [hb, J_nil hs.nil]), J_nil hs.nil]
          | cons y r' =>
            cases h4 : eqI y.r 41 with
            | true =>
              rw [urlF_bl1 h1 h2 h3 h4] at hs ⊢
              have hb := blanks_J hf (l := r) (by rw [h3]; exact hs.suf (List.suffix_cons _ _))
              rw [h3, J_cons] at hb
              rw [urlF_bl1 (by rw [hf]; exact h1) (by rw [hf]; exact h2) hb (by rw [hf]; exact h4)]
            | false =>
              rw [urlF_bl2 h1 h2 h3 h4] at hs ⊢
              have hb := blanks_J hf (l := r) (by rw [h3]; exact hs.suf (badF_suf _ _ (Nat.le_refl _)))
              rw [h3, J_cons] at hb
              have hbd := badF_J hf _ (y :: r') (Nat.le_refl _) hs
              rw [J_cons] at hbd
              rw [urlF_bl2 (by rw [hf]; exact h1) (by rw [hf]; exact h2) hb (by rw [hf]; exact h4), hbd]
        | false =>
          cases h3 : urlBad x r with
          | true =>
            rw [urlF_bad h1 h2 h3] at hs ⊢
            have hbd := badF_J hf _ (x :: r) (Nat.le_refl _) hs
            rw [J_cons] at hbd
            rw [urlF_bad (by rw [hf]; exact h1) (by rw [hf]; exact h2) (by rw [hub]; exact h3), hbd]
          | false =>
            cases h4 : eqI x.r 92 with
            | true =>
              rw [urlF_esc h1 h2 h3 h4] at hs ⊢
              rw [urlF_esc (by rw [hf]; exact h1) (by rw [hf]; exact h2) (by rw [hub]; exact h3) (by rw [hf]; exact h4), escF_J hf (hs.suf (urlF_suf _ _ (Nat.le_refl _))), ih _ (by have := escF_le r; omega) hs]
            | false =>
              rw [urlF_plain h1 h2 h3 h4] at hs ⊢
              rw [urlF_plain (by rw [hf]; exact h1) (by rw [hf]; exact h2) (by rw [hub]; exact h3) (by rw [hf]; exact h4), hf, ih r hr hs]
theorem commF_J : ∀ (l : List Rn), Sl t (commF l).2 → commF (J f t l) = ((commF l).1.map f, J f t (commF l).2)
  | [], h => by rw [J_nil h.nil]; exact Prod.ext rfl (J_nil h.nil).symm
  | x :: r, h => by
    have hsl : Sl t (x :: r) := h.suf (commF_suf _)
    have hc : (eqI (f x).r 42 && eqI (hd (J f t r)) 47) = (eqI x.r 42 && eqI (hd r) 47) := by
      rw [hf]
      cases h1 : eqI x.r 42 with
      | false => rfl
      | true => rw [hd_J hf (hsl.tail (sp_ne h1 (by decide)))]
    rw [J_cons]
    simp only [commF, hc] at h ⊢
    cases hb : (eqI x.r 42 && eqI (hd r) 47) with
    | true =>
      simp only [if_true, List.map_nil]
      cases r with
      | nil => rw [Bool.and_eq_true] at hb; exact absurd hb.2 (by decide)
      | cons y r' => rfl
    | false =>
      rw [hb] at h
      simp only [Bool.false_eq_true, if_false] at h ⊢
      rw [commF_J r h]; rfl
omit hf in
theorem used_J {l r : List Rn} (h : r <:+ l) : used (J f t l) (J f t r) = (used l r).map f := by
  have hl := h.length_le
  have e : (J f t l).length - (J f t r).length = l.length - r.length := by simp [J]; omega
  rw [used, used, e, J, List.take_append_of_le_length (by simp), List.map_take]
theorem textF_map (l : List Rn) : textF (l.map f) = textF l := by
  rw [textF, textF, List.flatMap_map]
  congr 1; funext x; rw [hf]
omit hf in
theorem Sl.digs {l : List Rn} (h : Sl t l) : Sl t (digs l) := by
  induction l with
  | nil => exact h
  | cons x r ih =>
    unfold Seat.digs
    cases h1 : digitB x.r with
    | true =>
      rw [List.dropWhile_cons_of_pos (by simpa using h1)]
      refine ih (h.tail ?_)
      have := h1
      simp only [digitB, leI_eq, Bool.and_eq_true, decide_eq_true_eq] at this
      simp only [spB, blankB, eqI_eq, Bool.or_eq_false_iff, decide_eq_false_iff_not]
      omega
    | false => rw [List.dropWhile_cons_of_neg (by simp [h1])]; exact h
theorem digs_J {l : List Rn} (h : Sl t l) : digs (J f t l) = J f t (digs l) := dropWhile_J hf digitB l h.digs
omit hf in
theorem Sl.drop1 {l : List Rn} {c : Int} (h : Sl t l) (h1 : eqI (hd l) c = true) (hc : spB c = false) (hm : eqI (-1) c = false) : Sl t (l.drop 1) ∧ J f t (l.drop 1) = (J f t l).drop 1 := by
  cases l with
  | nil => rw [show hd [] = -1 from rfl, hm] at h1; cases h1
  | cons x r => exact ⟨h.tail (sp_ne h1 hc), rfl⟩
theorem isSign_J {l : List Rn} (h : Sl t l) : isSign (J f t l) = isSign l := by rw [isSign, hd_J hf h]; rfl
omit hf in
theorem Sl.sign {l : List Rn} (h : Sl t l) : Sl t (if isSign l then l.drop 1 else l) ∧ (isSign l = true → J f t (l.drop 1) = (J f t l).drop 1) := by
  cases h1 : isSign l with
  | false => exact ⟨h, fun h => by cases h⟩
  | true =>
    have h2 : eqI (hd l) 43 = true ∨ eqI (hd l) 45 = true := by simpa [isSign] using h1
    have := h2.elim (fun h3 => Sl.drop1 (f := f) h h3 (by decide) (by decide)) (fun h3 => Sl.drop1 (f := f) h h3 (by decide) (by decide))
    exact ⟨this.1, fun _ => this.2⟩
theorem sign_J {l : List Rn} (h : Sl t l) : (if isSign (J f t l) then (J f t l).drop 1 else J f t l) = J f t (if isSign l then l.drop 1 else l) := by
  rw [isSign_J hf h]
  cases h1 : isSign l with
  | false => rfl
  | true => exact ((Sl.sign (f := f) h).2 h1).symm
theorem point_J {l : List Rn} (h : Sl t l) : (eqI (hd (J f t l)) 46 && digitB (hd ((J f t l).drop 1))) = (eqI (hd l) 46 && digitB (hd (l.drop 1))) := by
  rw [hd_J hf h]
  cases h1 : eqI (hd l) 46 with
  | false => rfl
  | true =>
    obtain ⟨h2, h3⟩ := Sl.drop1 (f := f) h h1 (by decide) (by decide)
    rw [← h3, hd_J hf h2]
theorem numeral0_J {l : List Rn} (h : Sl t l) : numeral0 (J f t l) = numeral0 l := by
  have h1 := (Sl.sign (f := f) h).1
  unfold numeral0
  simp only
  rw [sign_J hf h, point_J hf h1, hd_J hf h1]
theorem numA_J {l : List Rn} (h : Sl t l) : numA (J f t l) = J f t (numA l) ∧ Sl t (numA l) := by
  have h1 := (Sl.sign (f := f) h).1
  rw [numA, numA, sign_J hf h, digs_J hf h1]
  exact ⟨rfl, h1.digs⟩
omit hf in
theorem Sl.drop2 {l : List Rn} (h : Sl t l) (h1 : eqI (hd l) 46 = true) (h2 : digitB (hd (l.drop 1)) = true) : Sl t (l.drop 2) ∧ J f t (l.drop 2) = (J f t l).drop 2 := by
  cases l with
  | nil => rw [show eqI (hd []) 46 = false from rfl] at h1; cases h1
  | cons x r =>
    have hr := h.tail (sp_ne h1 (by decide))
    cases r with
    | nil => rw [show digitB (hd ([x].drop 1)) = false from rfl] at h2; cases h2
    | cons y r' =>
      have h2 : digitB y.r = true := h2
      refine ⟨hr.tail ?_, rfl⟩
      simp only [digitB, leI_eq, Bool.and_eq_true, decide_eq_true_eq] at h2
      simp only [spB, blankB, eqI_eq, Bool.or_eq_false_iff, decide_eq_false_iff_not]
      omega
theorem numB_J {l : List Rn} (h : Sl t l) : numB (J f t l) = ((numB l).1, J f t (numB l).2) ∧ Sl t (numB l).2 := by
  rw [numB, numB, point_J hf h]
  cases h1 : (eqI (hd l) 46 && digitB (hd (l.drop 1))) with
  | false => exact ⟨rfl, h⟩
  | true =>
    rw [Bool.and_eq_true] at h1
    obtain ⟨h2, h3⟩ := Sl.drop2 (f := f) h h1.1 h1.2
    simp only [if_true]
    rw [← h3, digs_J hf h2]
    exact ⟨rfl, h2.digs⟩
theorem numC_J {b : Bool} {l : List Rn} (h : Sl t l) : numC b (J f t l) = ((numC b l).1, J f t (numC b l).2) ∧ Sl t (numC b l).2 := by
  rw [numC, numC, hd_J hf h]
  cases h1 : (eqI (hd l) 101 || eqI (hd l) 69) with
  | false => exact ⟨rfl, h⟩
  | true =>
    have hd1 : Sl t (l.drop 1) ∧ J f t (l.drop 1) = (J f t l).drop 1 := by
      rcases Bool.or_eq_true_iff.mp h1 with h1 | h1
      · exact Sl.drop1 h h1 (by decide) (by decide)
      · exact Sl.drop1 h h1 (by decide) (by decide)
    have h5 := (Sl.sign (f := f) hd1.1).1
    have h6 := sign_J hf hd1.1
    rw [hd1.2, List.drop_drop, List.drop_drop] at h6
    rw [List.drop_drop] at h5
    simp only [if_true, Nat.reduceAdd] at h5 h6 ⊢
    rw [h6, hd_J hf h5]
    cases h7 : digitB (hd (if isSign (l.drop 1) then l.drop 2 else l.drop 1)) with
    | false => exact ⟨rfl, h⟩
    | true =>
      simp only [if_true]
      rw [digs_J hf h5]
      exact ⟨rfl, h5.digs⟩
theorem numF_J {l : List Rn} (h : Sl t l) : numF (J f t l) = ((numF l).1, J f t (numF l).2) ∧ Sl t (numF l).2 := by
  obtain ⟨a1, a2⟩ := numA_J hf h
  obtain ⟨b1, b2⟩ := numB_J hf a2
  rw [numF, numF, a1, b1]
  exact numC_J hf b2
theorem begins0_J {l : List Rn} (h : Sl t l) : begins0 (J f t l) = begins0 l := by
  cases l with
  | nil => rw [J_nil h.nil]
  | cons x r =>
    have he := esc0_J hf h
    rw [J_cons] at he ⊢
    simp only [begins0, hf, he]
    cases h1 : eqI x.r 45 with
    | false => rfl
    | true =>
      have hr := h.tail (sp_ne h1 (by decide))
      rw [hd_J hf hr, esc0_J hf hr]
theorem follows0_J : ∀ (s : List UInt8) (l : List Rn), (∀ c, c ∈ s → spB (c.toNat : Nat) = false) → Sl t l → follows0 (J f t l) s = follows0 l s
  | [], l, _, _ => by cases l <;> (unfold follows0; rfl)
  | c :: cs, l, hc, h => by
    rw [follows0, follows0, hd_J hf h]
    cases h1 : eqI (hd l) (c.toNat : Nat) with
    | false => rfl
    | true =>
      have hm : eqI (-1) (c.toNat : Nat) = false := eqI_false (by omega)
      obtain ⟨h2, h3⟩ := Sl.drop1 (f := f) h h1 (hc c (by simp)) hm
      rw [← h3, follows0_J cs (l.drop 1) (fun d hd => hc d (by simp [hd])) h2]
end
end Go.Vx.Seat
end
section
open Go Go.Vx Go.Proofs
namespace Go.Vx.Seat
theorem follows0_length : ∀ (s : List UInt8) (l : List Rn), follows0 l s = true → s.length ≤ l.length
  | [], l, _ => by simp
  | c :: cs, l, h => by
    rw [follows0, Bool.and_eq_true] at h
    cases l with
    | nil => rw [show hd [] = -1 from rfl, eqI_false (by omega)] at h; exact absurd h.1 (by simp)
    | cons x r => have := follows0_length cs r h.2; simp only [List.length_cons]; omega
theorem hd_of {l : List Rn} {c : Int} (h : eqI (hd l) c = true) (hm : eqI (-1) c = false) : ∃ x r, l = x :: r ∧ eqI x.r c = true := by
  cases l with
  | nil => rw [show hd [] = -1 from rfl, hm] at h; cases h
  | cons x r => exact ⟨x, r, rfl, h⟩
theorem takeF_begins {x : Rn} {r : List Rn} (h : begins0 (x :: r) = true) : (takeF (x :: r)).2 <:+ r := by
  cases h1 : inB x.r with
  | true => rw [takeF_in h1]; exact takeF_suf _ _ (Nat.le_refl _)
  | false =>
    have h2 : esc0 (x :: r) = true := by
      simp only [begins0] at h
      cases h3 : eqI x.r 45 with
      | true => rw [inB, h3] at h1; simp at h1
      | false =>
        rw [h3] at h
        simp only [Bool.false_eq_true, if_false] at h
        cases h4 : startB x.r with
        | true => rw [inB, h4] at h1; simp at h1
        | false => rw [h4] at h; simpa using h
    rw [takeF_esc h1 h2]; exact (takeF_suf _ _ (Nat.le_refl _)).trans (escF_suf r)
theorem numF_begins {x : Rn} {r : List Rn} (h : numeral0 (x :: r) = true) : (numF (x :: r)).2 <:+ r := by
  unfold numF
  cases h1 : isSign (x :: r) with
  | true =>
    have : numA (x :: r) = digs r := by rw [numA, h1]; rfl
    rw [this]; exact (numC_suf _ _).trans ((numB_suf _).trans (digs_suf r))
  | false =>
    rw [numeral0, h1] at h
    simp only [Bool.false_eq_true, if_false] at h
    cases h2 : digitB x.r with
    | true =>
      have : numA (x :: r) = digs r := by rw [numA, h1]; simp only [Bool.false_eq_true, if_false]; rw [digs, List.dropWhile_cons_of_pos (by simpa using h2)]; rfl
      rw [this]; exact (numC_suf _ _).trans ((numB_suf _).trans (digs_suf r))
    | false =>
      have e : numA (x :: r) = x :: r := by rw [numA, h1]; simp only [Bool.false_eq_true, if_false]; rw [digs, List.dropWhile_cons_of_neg (by simp [h2])]
      have h3 : eqI x.r 46 = true ∧ digitB (hd r) = true := by
        rw [show hd (x :: r) = x.r from rfl, h2] at h; simpa using h
      have e2 : (numB (x :: r)).2 = digs (r.drop 1) := by rw [numB, show hd (x :: r) = x.r from rfl, show (x :: r).drop 1 = r from rfl, h3.1, h3.2]; rfl
      rw [e]
      refine (numC_suf _ _).trans ?_
      rw [e2]; exact (digs_suf _).trans (List.drop_suffix 1 r)
theorem ite_of {α : Type} {p : α → Prop} {c : Prop} [Decidable c] {a b : α} (h1 : c → p a) (h2 : ¬ c → p b) : p (if c then a else b) := by
  by_cases h : c
  · rw [if_pos h]; exact h1 h
  · rw [if_neg h]; exact h2 h
theorem oneT_suf (x : Rn) (r : List Rn) : (oneT (x :: r)).2 <:+ r := by
  unfold oneT
  refine ite_of (p := fun q : Tok × List Rn => q.2 <:+ r) (fun h => (commF_suf _).trans (List.drop_suffix 1 r)) fun _ => ?_
  refine ite_of (p := fun q : Tok × List Rn => q.2 <:+ r) (fun h => ?_) fun _ => ?_
  · show blanks (x :: r) <:+ r
    rw [blanks, List.dropWhile_cons_of_pos (by exact h)]; exact blanks_suf r
  refine ite_of (p := fun q : Tok × List Rn => q.2 <:+ r) (fun h => quoteT_suf x r) fun _ => ?_
  refine ite_of (p := fun q : Tok × List Rn => q.2 <:+ r) (fun h => quoteT_suf x r) fun _ => ?_
  refine ite_of (p := fun q : Tok × List Rn => q.2 <:+ r) (fun h => takeF_suf _ r (Nat.le_refl _)) fun _ => ?_
  refine ite_of (p := fun q : Tok × List Rn => q.2 <:+ r) (fun h => (numT_suf _).trans (numF_begins h)) fun _ => ?_
  refine ite_of (p := fun q : Tok × List Rn => q.2 <:+ r) (fun h => List.drop_suffix 2 r) fun _ => ?_
  refine ite_of (p := fun q : Tok × List Rn => q.2 <:+ r) (fun h => List.drop_suffix 3 r) fun _ => ?_
  refine ite_of (p := fun q : Tok × List Rn => q.2 <:+ r) (fun h => (namedT_suf _).trans (takeF_begins h)) fun _ => ?_
  refine ite_of (p := fun q : Tok × List Rn => q.2 <:+ r) (fun h => takeF_suf _ r (Nat.le_refl _)) fun _ => ?_
  exact ite_of (p := fun q : Tok × List Rn => q.2 <:+ r) (fun h => List.suffix_refl _) fun _ => List.suffix_refl _
theorem oneT_lt (x : Rn) (r : List Rn) : (oneT (x :: r)).2.length < (x :: r).length := by
  have := (oneT_suf x r).length_le; simp only [List.length_cons]; omega
theorem lexF_cons (x : Rn) (r : List Rn) : lexF (x :: r) = { (oneT (x :: r)).1 with start := x.a } :: lexF (oneT (x :: r)).2 := by
  rw [lexF, dif_pos (oneT_lt x r)]
theorem urlT_kind (g s : List Rn) : (urlT g s).1.kind = 7 ∨ (urlT g s).1.kind = 8 := by
  unfold urlT; split
  · exact .inl rfl
  · exact .inr rfl
theorem namedT_kind (l : List Rn) : (namedT l).1.kind = 1 ∨ (namedT l).1.kind = 2 ∨ (namedT l).1.kind = 7 ∨ (namedT l).1.kind = 8 := by
  unfold namedT
  simp only
  split
  · split
    · exact .inr (.inr (urlT_kind _ _))
    · exact .inr (.inl rfl)
  · exact .inl rfl
theorem numT_kind (l : List Rn) : (numT l).1.kind = 10 ∨ (numT l).1.kind = 11 ∨ (numT l).1.kind = 12 := by
  unfold numT numE
  split
  · exact .inr (.inr rfl)
  · split
    · exact .inr (.inl rfl)
    · exact .inl rfl
theorem quoteT_kind (l : List Rn) : (quoteT l).1.kind = 5 ∨ (quoteT l).1.kind = 6 := by
  unfold quoteT
  simp only
  split
  · exact .inr rfl
  · exact .inl rfl
theorem signK_20 {x : Int} (h : signK x = 20) : x = 125 := by
  unfold signK at h
  repeat' (split at h)
  all_goals first | (exact of_eqT (by assumption)) | (exact absurd h (by decide))
theorem signK_13 (x : Int) : signK x ≠ 13 := by
  unfold signK
  repeat' split
  all_goals decide
theorem oneT_kind (l : List Rn) : ((oneT l).1.kind = 20 → hd l = 125) ∧ ((oneT l).1.kind = 13 → blankB (hd l) = true) := by
  unfold oneT
  refine ite_of (p := fun q : Tok × List Rn => (q.1.kind = 20 → hd l = 125) ∧ (q.1.kind = 13 → blankB (hd l) = true)) (fun h => ⟨fun h => absurd h (by decide : (25 : Int) ≠ 20), fun h => absurd h (by decide : (25 : Int) ≠ 13)⟩) fun _ => ?_
  refine ite_of (p := fun q : Tok × List Rn => (q.1.kind = 20 → hd l = 125) ∧ (q.1.kind = 13 → blankB (hd l) = true)) (fun h => ⟨fun h => absurd h (by decide : (13 : Int) ≠ 20), fun _ => h⟩) fun _ => ?_
  refine ite_of (p := fun q : Tok × List Rn => (q.1.kind = 20 → hd l = 125) ∧ (q.1.kind = 13 → blankB (hd l) = true)) (fun h => by have := quoteT_kind l; exact ⟨fun h => by omega, fun h => by omega⟩) fun _ => ?_
  refine ite_of (p := fun q : Tok × List Rn => (q.1.kind = 20 → hd l = 125) ∧ (q.1.kind = 13 → blankB (hd l) = true)) (fun h => by have := quoteT_kind l; exact ⟨fun h => by omega, fun h => by omega⟩) fun _ => ?_
  refine ite_of (p := fun q : Tok × List Rn => (q.1.kind = 20 → hd l = 125) ∧ (q.1.kind = 13 → blankB (hd l) = true)) (fun h => ⟨fun h => absurd h (by decide : (4 : Int) ≠ 20), fun h => absurd h (by decide : (4 : Int) ≠ 13)⟩) fun _ => ?_
  refine ite_of (p := fun q : Tok × List Rn => (q.1.kind = 20 → hd l = 125) ∧ (q.1.kind = 13 → blankB (hd l) = true)) (fun h => by have := numT_kind l; exact ⟨fun h => by omega, fun h => by omega⟩) fun _ => ?_
  refine ite_of (p := fun q : Tok × List Rn => (q.1.kind = 20 → hd l = 125) ∧ (q.1.kind = 13 → blankB (hd l) = true)) (fun h => ⟨fun h => absurd h (by decide : (15 : Int) ≠ 20), fun h => absurd h (by decide : (15 : Int) ≠ 13)⟩) fun _ => ?_
  refine ite_of (p := fun q : Tok × List Rn => (q.1.kind = 20 → hd l = 125) ∧ (q.1.kind = 13 → blankB (hd l) = true)) (fun h => ⟨fun h => absurd h (by decide : (14 : Int) ≠ 20), fun h => absurd h (by decide : (14 : Int) ≠ 13)⟩) fun _ => ?_
  refine ite_of (p := fun q : Tok × List Rn => (q.1.kind = 20 → hd l = 125) ∧ (q.1.kind = 13 → blankB (hd l) = true)) (fun h => by have := namedT_kind l; exact ⟨fun h => by omega, fun h => by omega⟩) fun _ => ?_
  refine ite_of (p := fun q : Tok × List Rn => (q.1.kind = 20 → hd l = 125) ∧ (q.1.kind = 13 → blankB (hd l) = true)) (fun h => ⟨fun h => absurd h (by decide : (3 : Int) ≠ 20), fun h => absurd h (by decide : (3 : Int) ≠ 13)⟩) fun _ => ?_
  exact ite_of (p := fun q : Tok × List Rn => (q.1.kind = 20 → hd l = 125) ∧ (q.1.kind = 13 → blankB (hd l) = true)) (fun h => ⟨fun h => absurd h (by decide : (9 : Int) ≠ 20), fun h => absurd h (by decide : (9 : Int) ≠ 13)⟩) fun _ => ⟨fun h => signK_20 h, fun h => absurd h (signK_13 _)⟩
section
variable {f : Rn → Rn} {t : List Rn}
theorem J_drop {l : List Rn} {k : Nat} (h : k ≤ l.length) : (J f t l).drop k = J f t (l.drop k) := by
  rw [J, List.drop_append_of_le_length (by simpa using h), ← List.map_drop]; rfl
variable (hf : ∀ x, (f x).r = x.r)
include hf
theorem quoteT_J {x : Rn} {r : List Rn} (h : Sl t (quoteT (x :: r)).2) : quoteT (J f t (x :: r)) = ((quoteT (x :: r)).1, J f t (quoteT (x :: r)).2) := by
  have h1 := quotedF_J hf x.r _ r (Nat.le_refl _) h
  have hs : (quotedF x.r r).2.2 <:+ x :: r := suf_cons x (quotedF_suf _ _ _ (Nat.le_refl _))
  have e1 : hd (J f t (x :: r)) = x.r := hf x
  have e2 : (J f t (x :: r)).drop 1 = J f t r := rfl
  have e3 : hd (x :: r) = x.r := rfl
  have e4 : (x :: r).drop 1 = r := rfl
  unfold quoteT
  simp only [e1, e2, e3, e4, h1, used_J hs, textF_map hf]
theorem urlT_J {g s : List Rn} (hg : s <:+ g) (h : Sl t (urlT g s).2) : urlT (J f t g) (J f t s) = ((urlT g s).1, J f t (urlT g s).2) := by
  have hsu := (urlF_suf _ (blanks s) (Nat.le_refl _))
  unfold urlT at h ⊢
  rcases hu : urlF (blanks s) with ⟨o, r⟩
  rw [hu] at h hsu
  have hr : Sl t r := by cases o <;> exact h
  have hb := blanks_J hf (hr.suf hsu)
  have h1 := urlF_J hf _ (blanks s) (Nat.le_refl _) (by rw [hu]; exact hr)
  rw [hb, h1, hu]
  cases o with
  | none =>
    simp only
    rw [used_J (hsu.trans ((blanks_suf s).trans hg)), textF_map hf]
  | some bs => rfl
theorem namedT_J {l : List Rn} (h : Sl t (namedT l).2) : namedT (J f t l) = ((namedT l).1, J f t (namedT l).2) := by
  have hp := h.suf (namedT_suf l)
  have h1 := takeF_J hf _ l (Nat.le_refl _) hp
  have hsf := takeF_suf _ l (Nat.le_refl _)
  unfold namedT at h ⊢
  simp only at h ⊢
  rw [h1]
  simp only
  rw [hd_J hf hp]
  cases h2 : eqI (hd (takeF l).2) 40 with
  | false => rfl
  | true =>
    rw [h2] at h
    simp only [if_true] at h ⊢
    obtain ⟨hp1, hp2⟩ := Sl.drop1 (f := f) hp h2 (by decide) (by decide)
    rw [← hp2]
    cases h3 : (strOf (lowF (bstr (takeF l).1)) == strOf ⟨#[117, 114, 108]⟩) with
    | false => rfl
    | true =>
      rw [h3] at h
      have hbl : Sl t (blanks ((takeF l).2.drop 1)) := by
        cases h4 : eqI (hd (blanks ((takeF l).2.drop 1))) 34 with
        | true =>
          obtain ⟨x, r, hx, _⟩ := hd_of h4 (by decide)
          rw [h4] at h
          simp only [Bool.not_true, Bool.and_false, Bool.false_and, Bool.false_eq_true, if_false] at h
          have hs := blanks_suf ((takeF l).2.drop 1)
          rw [hx] at hs ⊢
          rcases h with h | ⟨u, z, hu, hz⟩
          · exact .inl h
          · obtain ⟨p, hp⟩ := hs
            rw [hu] at hp
            refine .inr ?_
            rcases List.eq_nil_or_concat (x :: r) with e | ⟨v, w, e⟩
            · cases e
            · rw [List.concat_eq_append] at e
              rw [e, ← List.append_assoc] at hp
              have := List.append_inj' hp rfl
              refine ⟨v, w, e, ?_⟩
              have h5 := this.2
              simp at h5; rw [h5]; exact hz
        | false =>
          cases h5 : eqI (hd (blanks ((takeF l).2.drop 1))) 39 with
          | true =>
            obtain ⟨x, r, hx, _⟩ := hd_of h5 (by decide)
            rw [h5] at h
            simp only [Bool.not_true, Bool.and_false, Bool.false_eq_true, if_false] at h
            have hs := blanks_suf ((takeF l).2.drop 1)
            rw [hx] at hs ⊢
            rcases h with h | ⟨u, z, hu, hz⟩
            · exact .inl h
            · obtain ⟨p, hp⟩ := hs
              rw [hu] at hp
              refine .inr ?_
              rcases List.eq_nil_or_concat (x :: r) with e | ⟨v, w, e⟩
              · cases e
              · rw [List.concat_eq_append] at e
                rw [e, ← List.append_assoc] at hp
                have := List.append_inj' hp rfl
                refine ⟨v, w, e, ?_⟩
                have h5 := this.2
                simp at h5; rw [h5]; exact hz
          | false =>
            rw [h4, h5] at h
            simp only [Bool.not_false, Bool.and_true, if_true] at h
            have hsu := urlF_suf _ (blanks ((takeF l).2.drop 1)) (Nat.le_refl _)
            unfold urlT at h
            rcases hu : urlF (blanks ((takeF l).2.drop 1)) with ⟨o, r⟩
            rw [hu] at h hsu
            have hr : Sl t r := by cases o <;> exact h
            exact hr.suf hsu
      rw [blanks_J hf hbl, hd_J hf hbl]
      cases h4 : (true && !eqI (hd (blanks ((takeF l).2.drop 1))) 34 && !eqI (hd (blanks ((takeF l).2.drop 1))) 39) with
      | false => rfl
      | true =>
        rw [h4] at h
        simp only [if_true] at h ⊢
        exact urlT_J hf ((List.drop_suffix 1 _).trans hsf) h
theorem numT_J {l : List Rn} (hl : Sl t l) (h : Sl t (numT l).2) : numT (J f t l) = ((numT l).1, J f t (numT l).2) := by
  obtain ⟨h1, h2⟩ := numF_J hf hl
  have hu := used_J (f := f) (t := t) (numF_suf l)
  unfold numT at h ⊢
  rw [hd_J hf hl, h1]
  simp only
  rw [hu, textF_map hf]
  generalize eqI (hd l) 43 = sg at h ⊢
  generalize (numF l).1 = fl at h ⊢
  generalize bstr (textF (used l (numF l).2)) = st at h ⊢
  generalize (numF l).2 = r at h h2 ⊢
  unfold numE at h ⊢
  rw [begins0_J hf h2, hd_J hf h2]
  cases c1 : begins0 r with
  | true =>
    rw [c1] at h
    simp only [if_true] at h ⊢
    rw [takeF_J hf _ r (Nat.le_refl _) h]
  | false =>
    simp only [Bool.false_eq_true, if_false]
    cases c2 : eqI (hd r) 37 with
    | true =>
      simp only [if_true]
      rw [← (Sl.drop1 (f := f) h2 c2 (by decide) (by decide)).2]
    | false => rfl
theorem oneT_J {x : Rn} {r : List Rn} (h : Sl t (oneT (x :: r)).2) : oneT (J f t (x :: r)) = ((oneT (x :: r)).1, J f t (oneT (x :: r)).2) := by
  have hl : Sl t (x :: r) := h.suf (suf_cons x (oneT_suf x r))
  have q1 := follows0_J hf (strOf ⟨#[47, 42]⟩) (x :: r) (by decide) hl
  have q2 := follows0_J hf (strOf ⟨#[45, 45, 62]⟩) (x :: r) (by decide) hl
  have q3 := follows0_J hf (strOf ⟨#[60, 33, 45, 45]⟩) (x :: r) (by decide) hl
  have q4 := hd_J hf hl
  have q5 := numeral0_J hf hl
  have q6 := begins0_J hf hl
  have q7 : (eqI (hd (x :: r)) 35 && (inB (hd ((J f t (x :: r)).drop 1)) || esc0 ((J f t (x :: r)).drop 1))) = (eqI (hd (x :: r)) 35 && (inB (hd ((x :: r).drop 1)) || esc0 ((x :: r).drop 1))) := by
    cases c : eqI (hd (x :: r)) 35 with
    | false => rfl
    | true =>
      obtain ⟨a1, a2⟩ := Sl.drop1 (f := f) hl c (by decide) (by decide)
      rw [← a2, hd_J hf a1, esc0_J hf a1]
  have q8 : (eqI (hd (x :: r)) 64 && begins0 ((J f t (x :: r)).drop 1)) = (eqI (hd (x :: r)) 64 && begins0 ((x :: r).drop 1)) := by
    cases c : eqI (hd (x :: r)) 64 with
    | false => rfl
    | true =>
      obtain ⟨a1, a2⟩ := Sl.drop1 (f := f) hl c (by decide) (by decide)
      rw [← a2, begins0_J hf a1]
  unfold oneT at h ⊢
  rw [q1, q2, q3, q4, q5, q6, q7, q8]
  cases c1 : follows0 (x :: r) (strOf ⟨#[47, 42]⟩) with
  | true =>
    rw [c1] at h
    simp only [if_true] at h ⊢
    rw [J_drop (k := 2) (follows0_length _ _ c1), commF_J hf _ h, textF_map hf]
  | false =>
  rw [c1] at h
  simp only [Bool.false_eq_true, if_false] at h ⊢
  cases c2 : blankB (hd (x :: r)) with
  | true =>
    rw [c2] at h
    simp only [if_true] at h ⊢
    rw [blanks_J hf h]
  | false =>
  rw [c2] at h
  simp only [Bool.false_eq_true, if_false] at h ⊢
  cases c3 : eqI (hd (x :: r)) 34 with
  | true =>
    rw [c3] at h
    simp only [if_true] at h ⊢
    exact quoteT_J hf h
  | false =>
  rw [c3] at h
  simp only [Bool.false_eq_true, if_false] at h ⊢
  cases c4 : eqI (hd (x :: r)) 39 with
  | true =>
    rw [c4] at h
    simp only [if_true] at h ⊢
    exact quoteT_J hf h
  | false =>
  rw [c4] at h
  simp only [Bool.false_eq_true, if_false] at h ⊢
  cases c5 : (eqI (hd (x :: r)) 35 && (inB (hd ((x :: r).drop 1)) || esc0 ((x :: r).drop 1))) with
  | true =>
    rw [c5] at h
    simp only [if_true] at h ⊢
    rw [Bool.and_eq_true] at c5
    obtain ⟨a1, a2⟩ := Sl.drop1 (f := f) hl c5.1 (by decide) (by decide)
    rw [← a2, takeF_J hf _ _ (Nat.le_refl _) h, begins0_J hf a1]
  | false =>
  rw [c5] at h
  simp only [Bool.false_eq_true, if_false] at h ⊢
  cases c6 : numeral0 (x :: r) with
  | true =>
    rw [c6] at h
    simp only [if_true] at h ⊢
    exact numT_J hf hl h
  | false =>
  rw [c6] at h
  simp only [Bool.false_eq_true, if_false] at h ⊢
  cases c7 : follows0 (x :: r) (strOf ⟨#[45, 45, 62]⟩) with
  | true =>
    simp only [if_true]
    rw [J_drop (k := 3) (follows0_length _ _ c7)]
  | false =>
  rw [c7] at h
  simp only [Bool.false_eq_true, if_false] at h ⊢
  cases c8 : follows0 (x :: r) (strOf ⟨#[60, 33, 45, 45]⟩) with
  | true =>
    simp only [if_true]
    rw [J_drop (k := 4) (follows0_length _ _ c8)]
  | false =>
  rw [c8] at h
  simp only [Bool.false_eq_true, if_false] at h ⊢
  cases c9 : begins0 (x :: r) with
  | true =>
    rw [c9] at h
    simp only [if_true] at h ⊢
    exact namedT_J hf h
  | false =>
  rw [c9] at h
  simp only [Bool.false_eq_true, if_false] at h ⊢
  cases c10 : (eqI (hd (x :: r)) 64 && begins0 ((x :: r).drop 1)) with
  | true =>
    rw [c10] at h
    simp only [if_true] at h ⊢
    rw [show (J f t (x :: r)).drop 1 = J f t ((x :: r).drop 1) from rfl, takeF_J hf _ _ (Nat.le_refl _) h]
  | false =>
  simp only [Bool.false_eq_true, if_false]
  have e1 : (J f t (x :: r)).drop 1 = J f t r := rfl
  have e2 : textF ((J f t (x :: r)).take 1) = textF ((x :: r).take 1) := textF_map hf [x]
  rw [e1, e2]
  cases c11 : eqI (signK (hd (x :: r))) 9 <;> rfl
end
end Go.Vx.Seat
end
section
open Go Go.Vx Go.Proofs
set_option maxRecDepth 10000
set_option maxHeartbeats 4000000
namespace Go.Vx.Seat
attribute [local irreducible] Rg Rt Ro Ri Rc Rto Rtk Rtf Rti Rw Rl Rd Rcall Rtcall kf
theorem fn62 : nth C1.P.funcs.toList 62 = some Try.f62 := by kernel_rfl
theorem fn48 : nth C1.P.funcs.toList 48 = some Try.f48 := by kernel_rfl
theorem xstr_eq2 (a b : ByteArray) : xstr .eql a b = some (.bool (strOf a == strOf b)) := rfl
theorem occ_take (s t : List UInt8) (i : Nat) : Lib.occAt s t i = ((s.drop i).take t.length == t) := by
  rw [Lib.occAt, Bool.eq_iff_iff, List.isPrefixOf_iff_prefix, List.prefix_iff_eq_take, beq_iff_eq]
  exact ⟨fun h => h.symm, fun h => h.symm⟩
theorem contains_hit {s t : List UInt8} {i : Nat} (h : ∀ j, j < i → Lib.occAt s t j = false) (hi : i ≤ s.length) (ho : Lib.occAt s t i = true) : Lib.contains s t = true := by
  rw [Lib.contains, Lib.index_first hi ho h]; simp
theorem contains_past {s t : List UInt8} {i : Nat} (ht : t ≠ []) (h : ∀ j, j < i → Lib.occAt s t j = false) (hi : s.length < i + t.length) : Lib.contains s t = false := by
  rw [Lib.contains, Lib.index_past ht h hi]; rfl
theorem hasX_spec (s t : ByteArray) (hs : (strOf s).length ≤ 100000000) (ht : (strOf t).length ≤ 100) (ht0 : strOf t ≠ []) : PCall C1 62 [yd (.string s), yd (.string t)] fun y => y = yd (.bool (Lib.contains (strOf s) (strOf t))) := by
  refine Pf (by rfl) (by rfl) fn62 (by rfl) ?_
  simp only [Try.f62, List.length_cons, List.length_nil, List.replicate, List.cons_append, List.nil_append]
  simp -implicitDefEqProofs only [↓yP, yT]
  refine Rl_inv (fun d e st => ∃ (i : Nat), e = ([yd (.string s), yd (.string t), Tp, Tp, Tp, yd (.int .i64 (i : Nat)), Tp, Tp, Tp, Tp, Tp, Tp, Tp, Tp, Tp, Tp, Tp, Tp, Tp, Tp, Tp, Tp, Tp, Tp]) ∧ st = [] ∧ i + d = (strOf s).length + 1 ∧ ∀ j, j < i → Lib.occAt (strOf s) (strOf t) j = false) [true, true, false, false, false, true] ((strOf s).length + 1) [] (by decide) (pinned_zero _) ⟨0, by (simp only [yE]; try rfl), rfl, by omega, fun j hj => absurd hj (Nat.not_lt_zero j)⟩ ?_
  rintro d e st ⟨i, rfl, rfl, hd, hno⟩
  have w1 : wrapK .i64 ((i : Int) + 1) = ((i + 1 : Nat) : Int) := wrap_succ (by omega)
  have w2 : wrapK .i64 ((i : Int) + ((strOf t).length : Nat)) = ((i + (strOf t).length : Nat) : Int) := wrap_nat (i := i + (strOf t).length) (by omega)
  by_cases h : i + (strOf t).length ≤ (strOf s).length
  · have t1 : leI ((i + (strOf t).length : Nat) : Int) ((strOf s).length : Nat) = true := leI_true (by omega)
    have c1 : (0 : Int) ≤ (i : Nat) := by omega
    have c2 : ((i : Nat) : Int) ≤ ((i + (strOf t).length : Nat) : Int) := by omega
    have c3 : ((i + (strOf t).length : Nat) : Int) ≤ ((strOf s).length : Nat) := by omega
    have h3 : (strOf (strMk (((strOf s).drop i).take (i + (strOf t).length - i))) == strOf t) = Lib.occAt (strOf s) (strOf t) i := by
      rw [occ_take, show i + (strOf t).length - i = (strOf t).length by omega]; rfl
    cases h2 : Lib.occAt (strOf s) (strOf t) i with
    | true =>
      rw [h2] at h3
      simp -implicitDefEqProofs only [↓yP, yT, reduceCtorEq, opLen.eq_1, xslice.eq_1, w2, t1, c1, c2, c3, xstr_eq2, h3]
      rw [contains_hit hno (by omega) h2]
    | false =>
      rw [h2] at h3
      simp -implicitDefEqProofs only [↓yP, yT, opLen.eq_1, xslice.eq_1, w1, w2, t1, c1, c2, c3, xstr_eq2, h3]
      refine ⟨d - 1, [], by omega, by decide, pinned_zero _, i + 1, by (simp only [yE]; try rfl), by (simp only [yE]; try rfl), by omega, fun j hj => ?_⟩
      by_cases e : j = i
      · rw [e]; exact h2
      · exact hno j (by omega)
  · have t1 : leI ((i + (strOf t).length : Nat) : Int) ((strOf s).length : Nat) = false := leI_false (by omega)
    simp -implicitDefEqProofs only [↓yP, yT, reduceCtorEq, opLen.eq_1, w2, t1]
    rw [contains_past ht0 hno (by omega)]
end Go.Vx.Seat
end
section
open Go Go.Vx Go.Proofs
set_option maxRecDepth 10000
set_option maxHeartbeats 4000000
namespace Go.Vx.Seat
attribute [local irreducible] Rg Rt Ro Ri Rc Rto Rtk Rtf Rti Rw Rl Rd Rcall Rtcall kf
def licence : ByteArray := ⟨#[64, 108, 105, 99, 101, 110, 115, 101]⟩
def preserve : ByteArray := ⟨#[64, 112, 114, 101, 115, 101, 114, 118, 101]⟩
def bangs (l : List UInt8) : Bool := match l with | c :: _ => c == 33 | [] => false
def keepB (s : ByteArray) : Bool := bangs (strOf s) || (Lib.contains (strOf s) (strOf licence) || Lib.contains (strOf s) (strOf preserve))
theorem keepsR_spec (s : ByteArray) (hs : (strOf s).length ≤ 100000000) : PCall C1 48 [yd (.string s)] fun y => y = yd (.bool (keepB s)) := by
  have i00 : Int.toNat 0 = 0 := rfl
  have c0 : (0 : Int) ≤ 0 := by omega
  refine Pf (by rfl) (by rfl) fn48 (by rfl) ?_
  simp only [Try.f48, List.length_cons, List.length_nil, List.replicate, List.cons_append, List.nil_append]
  by_cases h : 0 < (strOf s).length
  · obtain ⟨c, hc⟩ := get_lt h
    have t1 : leI ((strOf s).length : Nat) 0 = false := leI_false (by omega)
    have hbe : bangs (strOf s) = eqI (c.toNat : Nat) 33 := by
      cases hl : strOf s with
      | nil => rw [hl] at h; simp at h
      | cons d r =>
        rw [hl] at hc; simp at hc; subst hc
        rw [bangs, eqI_eq, Bool.eq_iff_iff, beq_iff_eq, decide_eq_true_eq]
        constructor
        · intro e; rw [e]; rfl
        · intro e; apply UInt8.toNat_inj.mp; have : d.toNat = 33 := by omega
          rw [this]; rfl
    cases h1 : eqI (c.toNat : Nat) 33 with
    | true =>
      simp -implicitDefEqProofs only [↓yP, yT, reduceCtorEq, opLen.eq_1, xindex.eq_1, t1, c0, i00, hc, h1]
      rw [keepB, hbe, h1]; rfl
    | false =>
      have hb : bangs (strOf s) = false := by rw [hbe, h1]
      simp -implicitDefEqProofs only [↓yP, yT, opLen.eq_1, xindex.eq_1, t1, c0, i00, hc, h1]
      refine Rcall_pure (hasX_spec s ⟨#[64, 108, 105, 99, 101, 110, 115, 101]⟩ hs (by decide) (by decide)) (by rfl) fun y hy => ?_
      subst hy
      cases k1 : Lib.contains (strOf s) (strOf ⟨#[64, 108, 105, 99, 101, 110, 115, 101]⟩) with
      | true =>
        simp -implicitDefEqProofs only [↓yP, yT, reduceCtorEq]
        rw [keepB, hb, licence, k1]; rfl
      | false =>
        simp -implicitDefEqProofs only [yT]
        refine Rcall_pure (hasX_spec s ⟨#[64, 112, 114, 101, 115, 101, 114, 118, 101]⟩ hs (by decide) (by decide)) (by rfl) fun y hy => ?_
        subst hy
        simp -implicitDefEqProofs only [↓yP, yT, reduceCtorEq]
        rw [keepB, hb, licence, k1, preserve]; rfl
  · have t1 : leI ((strOf s).length : Nat) 0 = true := leI_true (by omega)
    have hb : bangs (strOf s) = false := by
      cases hl : strOf s with
      | nil => rfl
      | cons d r => rw [hl] at h; simp at h
    simp -implicitDefEqProofs only [↓yP, yT, opLen.eq_1, t1]
    refine Rcall_pure (hasX_spec s ⟨#[64, 108, 105, 99, 101, 110, 115, 101]⟩ hs (by decide) (by decide)) (by rfl) fun y hy => ?_
    subst hy
    cases k1 : Lib.contains (strOf s) (strOf ⟨#[64, 108, 105, 99, 101, 110, 115, 101]⟩) with
    | true =>
      simp -implicitDefEqProofs only [↓yP, yT, reduceCtorEq]
      rw [keepB, hb, licence, k1]; rfl
    | false =>
      simp -implicitDefEqProofs only [yT]
      refine Rcall_pure (hasX_spec s ⟨#[64, 112, 114, 101, 115, 101, 114, 118, 101]⟩ hs (by decide) (by decide)) (by rfl) fun y hy => ?_
      subst hy
      simp -implicitDefEqProofs only [↓yP, yT, reduceCtorEq]
      rw [keepB, hb, licence, k1, preserve]; rfl
end Go.Vx.Seat
end
section
open Go Go.Vx Go.Proofs
set_option maxRecDepth 10000
set_option maxHeartbeats 4000000
namespace Go.Vx.Seat
attribute [local irreducible] Rg Rt Ro Ri Rc Rto Rtk Rtf Rti Rw Rl Rd Rcall Rtcall kf
theorem fn49 : nth C1.P.funcs.toList 49 = some Try.f49 := by kernel_rfl
def lineB (t : Tok) : Bool := eqI t.kind 6 || (eqI t.kind 9 && (strOf t.text == strOf ⟨#[92]⟩))
theorem lineX_spec (t : Tok) : PCall C1 49 [t.yv] fun y => y = yd (.bool (lineB t)) := by
  refine Pf (by rfl) (by rfl) fn49 (by rfl) ?_
  simp only [Try.f49, List.length_cons, List.length_nil, List.replicate, List.cons_append, List.nil_append]
  simp only [Tok.yv, Tok.cs, Tok.pc, List.map_cons, List.map_nil]
  unfold lineB
  cases h1 : eqI t.kind 6 <;> cases h2 : eqI t.kind 9 <;> cases h3 : (strOf t.text == strOf ⟨#[92]⟩)
  all_goals
    simp -implicitDefEqProofs only [↓yP, yT, reduceCtorEq, h1, h2, h3, xstr_eq2]
  all_goals rfl
end Go.Vx.Seat
end
section
open Go Go.Vx Go.Proofs
set_option maxRecDepth 10000
set_option maxHeartbeats 4000000
namespace Go.Vx.Seat
attribute [local irreducible] Rg Rt Ro Ri Rc Rto Rtk Rtf Rti Rw Rl Rd Rcall Rtcall kf
theorem fn19 : nth C1.P.funcs.toList 19 = some Try.f19 := by kernel_rfl
def allBlocks (l : List Int) : Bool := l.all fun k => decide (k = 20)
theorem blocks_spec (l : List Int) (hl : l.length ≤ 100000000) : PCall C1 35 [.c (.p (rI l))] fun y => y = yd (.bool (allBlocks l)) := by
  refine Pf (by rfl) (by rfl) fn35 (by rfl) ?_
  simp only [Try.f35, List.length_cons, List.length_nil, List.replicate, List.cons_append, List.nil_append]
  simp -implicitDefEqProofs only [↓yP, yT]
  refine Rl_inv (fun d e s => ∃ i : Nat, e = [.c (.p (rI l)), Tp, Tp, yd (.int .i64 i), Tp, Tp, Tp, Tp, Tp, Tp, Tp, Tp, Tp, Tp, Tp] ∧ s = [] ∧ i + d = l.length ∧ ∀ (j : Nat) (a : Int), j < i → l[j]? = some a → a = 20) [true, false, false, true] l.length [] (by decide) (pinned_zero _) ⟨0, rfl, rfl, by omega, fun j a hj => by omega⟩ ?_
  rintro d e s ⟨i, rfl, rfl, hd, hne⟩
  by_cases hi : i < l.length
  · obtain ⟨a, ha⟩ := get_lt hi
    have t1 : leI (l.length : Nat) (i : Nat) = false := leI_false (by omega)
    by_cases he : a = 20
    · simp -implicitDefEqProofs only [↓yP, yT, t1, get_map ha, ei, he, eqI_true, wrap_succ (show i < 9000000000000000000 by omega)]
      refine ⟨d - 1, [], by omega, by decide, pinned_zero _, i + 1, rfl, rfl, by omega, fun j b hj hb => ?_⟩
      by_cases e : j = i
      · subst e; rw [ha] at hb; cases hb; exact he
      · exact hne j b (by omega) hb
    · simp -implicitDefEqProofs only [↓yP, yT, reduceCtorEq, t1, get_map ha, ei, eqI_false he]
      have : allBlocks l = false := by
        rw [allBlocks, List.all_eq_false]
        exact ⟨a, List.mem_of_getElem? ha, by simp [he]⟩
      simp [this]
  · have t1 : leI (l.length : Nat) (i : Nat) = true := leI_true (by omega)
    simp -implicitDefEqProofs only [↓yP, yT, reduceCtorEq, t1]
    have : allBlocks l = true := by
      rw [allBlocks, List.all_eq_true]
      intro k hk
      obtain ⟨j, hj, he⟩ := List.getElem_of_mem hk
      simp [hne j k (by omega) (by rw [List.getElem?_eq_getElem hj, he])]
    simp [this]
theorem part_spec (ts : List Tok) (rows : List (List Int)) (i : Nat) (t : Tok) (r : List Int) (hi : ts[i]? = some t) (hr : rows[i]? = some r) (hb : r.length ≤ 100000000) :
    PCall C1 36 [.c (.p (rT ts)), .c (.p (rII rows)), yd (.int .i64 i)] fun y => y = yd (.bool (partK t.kind && allBlocks r)) := by
  refine Pf (by rfl) (by rfl) fn36 (by rfl) ?_
  simp only [Try.f36, List.length_cons, List.length_nil, List.replicate, List.cons_append, List.nil_append]
  unfold partK
  by_cases k1 : t.kind = 19
  · have e1 : eqI t.kind 19 = true := by rw [k1]; rfl
    simp -implicitDefEqProofs only [↓yP, yT, Nat.reduceAdd, reduceCtorEq, get_map hi, get_map hr, Tok.pc, e2, e1]
    refine Rcall_pure (blocks_spec r hb) (by rfl) fun y hy => ?_
    subst hy
    simp -implicitDefEqProofs only [↓yP, yT, reduceCtorEq]
    simp [k1]
  have e1 : eqI t.kind 19 = false := eqI_false k1
  by_cases k2 : t.kind = 20
  · have e2' : eqI t.kind 20 = true := by rw [k2]; rfl
    simp -implicitDefEqProofs only [↓yP, yT, Nat.reduceAdd, reduceCtorEq, get_map hi, get_map hr, Tok.pc, e2, e1, e2']
    refine Rcall_pure (blocks_spec r hb) (by rfl) fun y hy => ?_
    subst hy
    simp -implicitDefEqProofs only [↓yP, yT, reduceCtorEq]
    simp [k2]
  have e2' : eqI t.kind 20 = false := eqI_false k2
  by_cases k3 : t.kind = 17
  · have e3 : eqI t.kind 17 = true := by rw [k3]; rfl
    simp -implicitDefEqProofs only [↓yP, yT, Nat.reduceAdd, reduceCtorEq, get_map hi, get_map hr, Tok.pc, e2, e1, e2', e3]
    refine Rcall_pure (blocks_spec r hb) (by rfl) fun y hy => ?_
    subst hy
    simp -implicitDefEqProofs only [↓yP, yT, reduceCtorEq]
    simp [k3]
  · have e3 : eqI t.kind 17 = false := eqI_false k3
    simp -implicitDefEqProofs only [↓yP, yT, Nat.reduceAdd, reduceCtorEq, get_map hi, Tok.pc, e1, e2', e3]
    simp [k1, k2, k3]
def nestStep (o : List Int) (k : Int) : List Int :=
  if o.getLast? = some k then o.dropLast else if closes k > 0 then o ++ [closes k] else o
def openAt (ts : List Tok) : Nat → List Int
  | 0 => []
  | i + 1 => match ts[i]? with | some t => nestStep (openAt ts i) t.kind | none => openAt ts i
def nest (ts : List Tok) : List (List Int) := (List.range ts.length).map (openAt ts)
theorem nestStep_length (o : List Int) (k : Int) : (nestStep o k).length ≤ o.length + 1 := by
  unfold nestStep
  split
  · simp; omega
  · split
    · simp
    · omega
theorem openAt_length (ts : List Tok) : ∀ i, (openAt ts i).length ≤ i
  | 0 => by simp [openAt]
  | i + 1 => by
    have := openAt_length ts i
    unfold openAt
    split
    · rename_i t _
      have := nestStep_length (openAt ts i) t.kind
      omega
    · omega
theorem nest_length (ts : List Tok) : (nest ts).length = ts.length := by simp [nest]
theorem nest_at (ts : List Tok) {i : Nat} (hi : i < ts.length) : (nest ts)[i]? = some (openAt ts i) := by
  simp [nest, hi]
theorem openAt_succ {ts : List Tok} {i : Nat} {t : Tok} (h : ts[i]? = some t) : openAt ts (i + 1) = nestStep (openAt ts i) t.kind := by
  rw [openAt, h]
end Go.Vx.Seat
end
section
open Go Go.Vx Go.Proofs
set_option maxRecDepth 10000
set_option maxHeartbeats 4000000
namespace Go.Vx.Seat
attribute [local irreducible] Rg Rt Ro Ri Rc Rto Rtk Rtf Rti Rw Rl Rd Rcall Rtcall kf
theorem fn50 : nth C1.P.funcs.toList 50 = some Try.f50 := by kernel_rfl
theorem fn51 : nth C1.P.funcs.toList 51 = some Try.f51 := by kernel_rfl
def opens7 (k : Int) : Bool := eqI k 19 || (eqI k 20 || (eqI k 21 || (eqI k 2 || (eqI k 23 || (eqI k 18 || eqI k 17)))))
def shuts6 (k : Int) : Bool := eqI k 19 || (eqI k 20 || (eqI k 22 || (eqI k 24 || (eqI k 18 || eqI k 17))))
def befB (l : List Tok) (cs : List Int) (n : Nat) : Bool := match l[n]? with | some t => opens7 t.kind || cs.contains ((n : Nat) : Int) | none => true
def aftB (l : List Tok) (cs : List Int) (n : Nat) : Bool := match l[n]? with | some t => shuts6 t.kind || cs.contains ((n : Nat) : Int) | none => true
theorem beforeX_spec (l : List Tok) (cs : List Int) (n : Nat) (hc : cs.length ≤ 100000000) (h1 : n < l.length) : PCall C1 50 [.c (.p (rT l)), .c (.p (rI cs)), yd (.int .i64 (n : Nat))] fun y => y = yd (.bool (befB l cs n)) := by
  obtain ⟨t, ht⟩ := get_lt (l := l) (i := n) h1
  have t0 : leI 0 (n : Nat) = true := leI_true (by omega)
  have e : befB l cs n = (opens7 t.kind || cs.contains ((n : Nat) : Int)) := by rw [befB, ht]
  rw [e, opens7]
  refine Pf (by rfl) (by rfl) fn50 (by rfl) ?_
  simp only [Try.f50, List.length_cons, List.length_nil, List.replicate, List.cons_append, List.nil_append]
  simp -implicitDefEqProofs only [↓yP, yT, Nat.reduceAdd, reduceCtorEq, t0, get_map ht, Tok.pc]
  cases q1 : eqI t.kind 19 <;> cases q2 : eqI t.kind 20 <;> cases q3 : eqI t.kind 21 <;> cases q4 : eqI t.kind 2 <;> cases q5 : eqI t.kind 23 <;> cases q6 : eqI t.kind 18 <;> cases q7 : eqI t.kind 17
  all_goals
    first
    | (simp -implicitDefEqProofs only [↓yP, yT, reduceCtorEq, q2, q3, q4, q5, q6, q7]; done)
    | (simp -implicitDefEqProofs only [↓yP, yT, q2, q3, q4, q5, q6, q7]
       refine Rcall_pure (in_spec cs _ hc) (by rfl) fun y hy => ?_
       subst hy
       simp -implicitDefEqProofs only [↓yP, yT, reduceCtorEq]
       done)
theorem afterX_spec (l : List Tok) (cs : List Int) (n : Nat) (hc : cs.length ≤ 100000000) : PCall C1 51 [.c (.p (rT l)), .c (.p (rI cs)), yd (.int .i64 (n : Nat))] fun y => y = yd (.bool (aftB l cs n)) := by
  by_cases h0 : n < l.length
  · obtain ⟨t, ht⟩ := get_lt h0
    have t0 : leI (l.length : Nat) (n : Nat) = false := leI_false (by omega)
    have e : aftB l cs n = (shuts6 t.kind || cs.contains ((n : Nat) : Int)) := by rw [aftB, ht]
    rw [e, shuts6]
    refine Pf (by rfl) (by rfl) fn51 (by rfl) ?_
    simp only [Try.f51, List.length_cons, List.length_nil, List.replicate, List.cons_append, List.nil_append]
    simp -implicitDefEqProofs only [↓yP, yT, Nat.reduceAdd, reduceCtorEq, t0, get_map ht, Tok.pc]
    cases q1 : eqI t.kind 19 <;> cases q2 : eqI t.kind 20 <;> cases q3 : eqI t.kind 22 <;> cases q4 : eqI t.kind 24 <;> cases q5 : eqI t.kind 18 <;> cases q6 : eqI t.kind 17
    all_goals
      first
      | (simp -implicitDefEqProofs only [↓yP, yT, reduceCtorEq, q2, q3, q4, q5, q6]; done)
      | (simp -implicitDefEqProofs only [↓yP, yT, q2, q3, q4, q5, q6]
         refine Rcall_pure (in_spec cs _ hc) (by rfl) fun y hy => ?_
         subst hy
         simp -implicitDefEqProofs only [↓yP, yT, reduceCtorEq]
         done)
  · have t0 : leI (l.length : Nat) (n : Nat) = true := leI_true (by omega)
    have e : aftB l cs n = true := by rw [aftB, List.getElem?_eq_none (by omega)]
    rw [e]
    refine Pf (by rfl) (by rfl) fn51 (by rfl) ?_
    simp only [Try.f51, List.length_cons, List.length_nil, List.replicate, List.cons_append, List.nil_append]
    simp -implicitDefEqProofs only [↓yP, yT, reduceCtorEq, t0]
end Go.Vx.Seat
end
section
open Go Go.Vx Go.Proofs
set_option maxRecDepth 10000
set_option maxHeartbeats 4000000
namespace Go.Vx.Seat
attribute [local irreducible] Rg Rt Ro Ri Rc Rto Rtk Rtf Rti Rw Rl Rd Rcall Rtcall kf
def opens (ts : List Tok) (i : Nat) : List (List PC) := (List.range i).map fun j => e2 (openAt ts j)
theorem opens_length (ts : List Tok) (i : Nat) : (opens ts i).length = i := by simp [opens]
theorem opens_succ (ts : List Tok) (i : Nat) : opens ts (i + 1) = opens ts i ++ [e2 (openAt ts i)] := by simp [opens, List.range_succ]
theorem opens_take (ts : List Tok) (i : Nat) : (opens ts i).take i = opens ts i := List.take_of_length_le (by rw [opens_length]; omega)
theorem opens_nest (ts : List Tok) : opens ts ts.length = (nest ts).map e2 := by simp [opens, nest]
theorem nest_take (ts : List Tok) : ((nest ts).map e2).take ts.length = (nest ts).map e2 := List.take_of_length_le (by simp [nest_length])
theorem nest_spec (ts : List Tok) (hl : ts.length ≤ 1000000) : PCall C1 19 [.c (.p (rT ts))] fun y => y = .c (.p (rII (nest ts))) := by
  refine Pf (by rfl) (by rfl) fn19 (by rfl) ?_
  simp only [Try.f19, List.length_cons, List.length_nil, List.replicate, List.cons_append, List.nil_append]
  simp -implicitDefEqProofs only [↓yP, yT]
  refine Rl_nil 3 1 (by decide) rfl ?_
  refine Rl_nil0 4 1 rfl ?_
  refine Rl_inv (fun d e s => ∃ i : Nat, e = [.c (.p (rT ts)), Tp, Tp, .c (.own 0 1 0 i), .c (.p (rI (openAt ts i))), yd (.int .i64 i), Tp, Tp, Tp, Tp, Tp, Tp, Tp, Tp, Tp, Tp, Tp, Tp, Tp, Tp, Tp, Tp, Tp, Tp, Tp, Tp, Tp, Tp, Tp, Tp, Tp, Tp, Tp, Tp, Tp, Tp, Tp, Tp, Tp, Tp, Tp, Tp, Tp, Tp, Tp, Tp, Tp, Tp, Tp, Tp, Tp, Tp, Tp, Tp, Tp, Tp, Tp, Tp] ∧ s = [.row 1 (opens ts i)] ∧ i + d = ts.length) [true, false, false, true, true, true] ts.length [0] (by decide) (pinned_zero _) ⟨0, rfl, rfl, by omega⟩ ?_
  rintro d e s ⟨i, rfl, rfl, hd⟩
  have hol := openAt_length ts i
  by_cases hi : i < ts.length
  · obtain ⟨t, ht⟩ := get_lt hi
    have t1 : leI (ts.length : Nat) (i : Nat) = false := leI_false (by omega)
    have b1 : (openAt ts i).length * 8 ≤ 70368744177664 := by omega
    have b2 : (i + 1) * 24 ≤ 70368744177664 := by omega
    have b3 : i ≤ (opens ts i).length := by rw [opens_length]; omega
    simp -implicitDefEqProofs only [↓yP, yT, Nat.reduceAdd, Nat.reduceMul, Nat.reduceLeDiff, reduceCtorEq, t1, b1, b2, b3]
    refine Rd_calm (by rw [C1_P]; kernel_rfl) ?_
    have w1 : wrapK .i64 ((i : Int) + 1) = ((i + 1 : Nat) : Int) := wrap_succ (by omega)
    have hsucc := openAt_succ ht
    rcases hol0 : (openAt ts i).getLast? with _ | c
    · have ho : openAt ts i = [] := by simpa using hol0
      have t2 : leI ((openAt ts i).length : Nat) 0 = true := by rw [ho]; rfl
      simp -implicitDefEqProofs only [↓yP, yT, Nat.reduceAdd, reduceCtorEq, t2, get_map ht, Tok.pc]
      refine Rcall_pure (closes_spec t.kind) (by rfl) fun y hy => ?_
      subst hy
      by_cases hc : closes t.kind > 0
      · have t3 : leI (closes t.kind) 0 = false := leI_false (by omega)
        have b4 : ((openAt ts i).length + 1) * 8 ≤ 70368744177664 := by omega
        simp -implicitDefEqProofs only [↓yP, yT, t3]
        refine Rd_trace ?_
        simp -implicitDefEqProofs only [↓yP, yT, Nat.reduceAdd, reduceCtorEq, get_map ht, Tok.pc, b1]
        refine Rtcall_pure (closes_spec t.kind) (by rfl) fun y hy => ?_
        subst hy
        simp -implicitDefEqProofs only [↓yP, yT, Nat.reduceAdd, Nat.reduceMul, Nat.reduceLeDiff, reduceCtorEq, b4, w1]
        have hs2 : openAt ts (i + 1) = openAt ts i ++ [closes t.kind] := by rw [hsucc, nestStep, hol0, if_neg (by simp), if_pos hc]
        refine ⟨d - 1, [3], by omega, by decide, pinned_zero _, i + 1, ?_, ?_, by omega⟩
        · simp only [yE, Nat.reduceEqDiff, hs2, rI, List.map_append, ei]
        · simp only [yE, opens_succ, opens_take, e2]
      · have t3 : leI (closes t.kind) 0 = true := leI_true (by omega)
        simp -implicitDefEqProofs only [↓yP, yT, t3, w1]
        have hs2 : openAt ts (i + 1) = openAt ts i := by rw [hsucc, nestStep, hol0, if_neg (by simp), if_neg hc]
        refine ⟨d - 1, [3], by omega, by decide, pinned_zero _, i + 1, ?_, ?_, by omega⟩
        · simp only [yE, hs2]
        · simp only [yE, opens_succ, opens_take, e2]
    · have ho : (openAt ts i).length ≠ 0 := by intro h0; rw [List.length_eq_zero_iff.mp h0] at hol0; cases hol0
      have t2 : leI ((openAt ts i).length : Nat) 0 = false := leI_false (by omega)
      have w2 : wrapK .i64 (((openAt ts i).length : Int) - 1) = (((openAt ts i).length - 1 : Nat) : Int) := wrap_pred (by omega) (by omega)
      have hlast : (openAt ts i)[(openAt ts i).length - 1]? = some c := by rw [← List.getLast?_eq_getElem?]; exact hol0
      by_cases hck : c = t.kind
      · subst hck
        have b5 : ((openAt ts i).length - 1) * 8 ≤ 70368744177664 := by omega
        have b6 : (openAt ts i).length - 1 ≤ (openAt ts i).length := by omega
        have l6 : (((openAt ts i).length - 1 : Nat) : Int) ≤ ((openAt ts i).length : Nat) := by omega
        have hs2 : openAt ts (i + 1) = (openAt ts i).take ((openAt ts i).length - 1) := by rw [hsucc, nestStep, hol0, if_pos rfl, List.dropLast_eq_take]
        have hm : min ((openAt ts i).length - 1) (openAt ts i).length = (openAt ts i).length - 1 := by omega
        simp -implicitDefEqProofs only [↓yP, yT, Nat.reduceAdd, reduceCtorEq, t2, w1, w2, get_map ht, get_map hlast, ei, Tok.pc, eqI_true, b5, l6, Int.le_refl, List.length_take, hm]
        refine ⟨d - 1, [3], by omega, by decide, pinned_zero _, i + 1, ?_, ?_, by omega⟩
        · simp only [yE, Nat.reduceEqDiff, hs2, List.length_take, hm, List.take_take, Nat.min_self, rI, List.map_take]
        · simp only [yE, opens_succ, opens_take, e2]
      · have e1 : eqI c t.kind = false := eqI_false hck
        simp -implicitDefEqProofs only [↓yP, yT, Nat.reduceAdd, reduceCtorEq, t2, w2, get_map ht, get_map hlast, ei, Tok.pc, e1]
        refine Rcall_pure (closes_spec t.kind) (by rfl) fun y hy => ?_
        subst hy
        by_cases hc : closes t.kind > 0
        · have t3 : leI (closes t.kind) 0 = false := leI_false (by omega)
          have b4 : ((openAt ts i).length + 1) * 8 ≤ 70368744177664 := by omega
          simp -implicitDefEqProofs only [↓yP, yT, t3]
          refine Rd_trace ?_
          simp -implicitDefEqProofs only [↓yP, yT, Nat.reduceAdd, reduceCtorEq, get_map ht, Tok.pc, b1]
          refine Rtcall_pure (closes_spec t.kind) (by rfl) fun y hy => ?_
          subst hy
          simp -implicitDefEqProofs only [↓yP, yT, Nat.reduceAdd, Nat.reduceMul, Nat.reduceLeDiff, reduceCtorEq, b4, w1]
          have hs2 : openAt ts (i + 1) = openAt ts i ++ [closes t.kind] := by rw [hsucc, nestStep, hol0, if_neg (by simpa using hck), if_pos hc]
          refine ⟨d - 1, [3], by omega, by decide, pinned_zero _, i + 1, ?_, ?_, by omega⟩
          · simp only [yE, Nat.reduceEqDiff, hs2, rI, List.map_append, ei]
          · simp only [yE, opens_succ, opens_take, e2]
        · have t3 : leI (closes t.kind) 0 = true := leI_true (by omega)
          simp -implicitDefEqProofs only [↓yP, yT, t3, w1]
          have hs2 : openAt ts (i + 1) = openAt ts i := by rw [hsucc, nestStep, hol0, if_neg (by simpa using hck), if_neg hc]
          refine ⟨d - 1, [3], by omega, by decide, pinned_zero _, i + 1, ?_, ?_, by omega⟩
          · simp only [yE, hs2]
          · simp only [yE, opens_succ, opens_take, e2]
  · have t1 : leI (ts.length : Nat) (i : Nat) = true := leI_true (by omega)
    have : i = ts.length := by omega
    subst this
    simp -implicitDefEqProofs only [↓yP, yT, reduceCtorEq, t1, opens_nest, Nat.le_of_eq (nest_length ts).symm, nest_take]
end Go.Vx.Seat
end
section
open Go Go.Vx Go.Proofs
set_option maxRecDepth 10000
set_option maxHeartbeats 4000000
namespace Go.Vx.Seat
attribute [local irreducible] Rg Rt Ro Ri Rc Rto Rtk Rtf Rti Rw Rl Rd Rcall Rtcall kf
theorem fn20 : nth C1.P.funcs.toList 20 = some Try.f20 := by kernel_rfl
def kindAt (ts : List Tok) (i : Nat) : Int := match ts[i]? with | some t => t.kind | none => 0
theorem kindAt_some {ts : List Tok} {i : Nat} {t : Tok} (h : ts[i]? = some t) : kindAt ts i = t.kind := by rw [kindAt, h]
def partAt (ts : List Tok) (i : Nat) : Bool := partK (kindAt ts i) && allBlocks (openAt ts i)
def back (ts : List Tok) : Nat → Nat → Nat → Nat × Nat
  | 0, a, b => (a, b)
  | n + 1, a, b => if partAt ts n = true then (a, b) else if quiet (kindAt ts n) = true then back ts n a b else if kindAt ts n = 1 then back ts n (a + 1) b else back ts n a (b + 1)
def behind (ts : List Tok) (i : Nat) : Nat → Nat → Bool
  | 0, _ => true
  | d + 1, k => if (openAt ts k).length = (openAt ts i).length ∧ partK (kindAt ts k) = true then !decide (kindAt ts k = 19) else behind ts i d (k + 1)
def docColon (ts : List Tok) (i : Nat) : Bool := decide (kindAt ts i = 16) && decide ((openAt ts i).length ≠ 0) && allBlocks (openAt ts i) && decide (back ts i 0 0 = (1, 0)) && behind ts i (ts.length - (i + 1)) (i + 1)
def colonsTo (ts : List Tok) (n : Nat) : List Int := ((List.range n).filter (docColon ts)).map fun i : Nat => (i : Int)
theorem colonsTo_yes {ts : List Tok} {n : Nat} (h : docColon ts n = true) : colonsTo ts (n + 1) = colonsTo ts n ++ [(n : Int)] := by simp [colonsTo, List.range_succ, h]
theorem colonsTo_no {ts : List Tok} {n : Nat} (h : docColon ts n = false) : colonsTo ts (n + 1) = colonsTo ts n := by simp [colonsTo, List.range_succ, h]
theorem colonsTo_length (ts : List Tok) (n : Nat) : (colonsTo ts n).length ≤ n := by
  have := List.length_filter_le (docColon ts) (List.range n)
  simpa [colonsTo] using this
theorem colons_spec (ts : List Tok) (hl : ts.length ≤ 1000000) : PCall C1 20 [.c (.p (rT ts))] fun y => y = .c (.p (rI (colonsTo ts ts.length))) := by
  refine Pf (by rfl) (by rfl) fn20 (by rfl) ?_
  simp only [Try.f20, List.length_cons, List.length_nil, List.replicate, List.cons_append, List.nil_append]
  simp -implicitDefEqProofs only [↓yP, yT]
  refine Rcall_pure (nest_spec ts hl) (by rfl) fun y hy => ?_
  subst hy
  simp -implicitDefEqProofs only [↓yP, yT]
  refine Rl_nil 4 1 (by decide) rfl ?_
  refine Rl_inv (fun d e s => ∃ i : Nat, e = [.c (.p (rT ts)), Tp, Tp, .c (.p (rII (nest ts))), .c (.own 0 1 0 (colonsTo ts i).length), yd (.int .i64 i), Tp, Tp, Tp, Tp, Tp, Tp, Tp, Tp, Tp, Tp, Tp, Tp, Tp, Tp, Tp, Tp, Tp, Tp, Tp, Tp, Tp, Tp, Tp, Tp, Tp, Tp, Tp, Tp, Tp, Tp, Tp, Tp, Tp, Tp, Tp, Tp, Tp, Tp, Tp, Tp, Tp, Tp, Tp, Tp, Tp, Tp, Tp, Tp, Tp, Tp, Tp, Tp, Tp, Tp, Tp, Tp, Tp, Tp, Tp, Tp, Tp, Tp, Tp, Tp, Tp, Tp, Tp, Tp, Tp, Tp, Tp, Tp, Tp, Tp, Tp, Tp, Tp, Tp, Tp, Tp, Tp, Tp, Tp, Tp, Tp, Tp, Tp, Tp, Tp, Tp, Tp, Tp, Tp, Tp, Tp, Tp, Tp, Tp, Tp, Tp, Tp, Tp, Tp, Tp, Tp, Tp, Tp, Tp, Tp, Tp, Tp, Tp, Tp, Tp, Tp, Tp, Tp, Tp, Tp, Tp, Tp, Tp, Tp, Tp, Tp, Tp] ∧ s = [.row 1 ((colonsTo ts i).map ei)] ∧ i + d = ts.length) [true, false, false, true, true, true] ts.length [0] (by decide) (pinned_zero _) ⟨0, rfl, rfl, by omega⟩ ?_
  rintro d e s ⟨i, rfl, rfl, hd⟩
  have hol := openAt_length ts i
  by_cases hi : i < ts.length
  · obtain ⟨t, ht⟩ := get_lt hi
    have hn := nest_at ts hi
    have hk := kindAt_some ht
    have t1 : leI (ts.length : Nat) (i : Nat) = false := leI_false (by omega)
    have w1 : wrapK .i64 ((i : Int) + 1) = ((i + 1 : Nat) : Int) := wrap_succ (by omega)
    have hcl := colonsTo_length ts i
    have bcol : ((colonsTo ts i).length + 1) * 8 ≤ 70368744177664 := by omega
    by_cases k1 : t.kind = 16
    · have e1 : eqI t.kind 16 = true := by rw [k1]; rfl
      by_cases h0 : (openAt ts i).length = 0
      · have e2' : eqI ((openAt ts i).length : Nat) 0 = true := by rw [h0]; rfl
        simp -implicitDefEqProofs only [↓yP, yT, Nat.reduceAdd, reduceCtorEq, t1, get_map ht, Tok.pc, e1, get_map hn, e2, e2', w1]
        have hno : docColon ts i = false := by simp [docColon, h0]
        refine ⟨d - 1, [0], by omega, by decide, pinned_zero _, i + 1, ?_, ?_, by omega⟩
        · simp only [yE, colonsTo_no hno]
        · simp only [yE, colonsTo_no hno]
      have e2' : eqI ((openAt ts i).length : Nat) 0 = false := eqI_false (by omega)
      simp -implicitDefEqProofs only [↓yP, yT, Nat.reduceAdd, reduceCtorEq, t1, get_map ht, Tok.pc, e1, get_map hn, e2, e2']
      refine Rcall_pure (blocks_spec (openAt ts i) (by omega)) (by rfl) fun y hy => ?_
      subst hy
      cases hb : allBlocks (openAt ts i) with
      | false =>
        simp -implicitDefEqProofs only [↓yP, yT, w1]
        have hno : docColon ts i = false := by simp [docColon, hb]
        refine ⟨d - 1, [0], by omega, by decide, pinned_zero _, i + 1, ?_, ?_, by omega⟩
        · simp only [yE, colonsTo_no hno]
        · simp only [yE, colonsTo_no hno]
      | true =>
        simp -implicitDefEqProofs only [↓yP, yT]
        have w0 : wrapK .i64 ((i : Int) - 1) = (i : Int) - 1 := wrap_int (by omega) (by omega)
        refine Rl_inv (fun d' e s => ∃ n a b : Nat, e = [.c (.p (rT ts)), Tp, Tp, .c (.p (rII (nest ts))), .c (.own 0 1 0 (colonsTo ts i).length), yd (.int .i64 i), yd (.int .i64 a), yd (.int .i64 b), yd (.int .i64 ((n : Int) - 1)), Tp, Tp, Tp, Tp, Tp, Tp, Tp, Tp, Tp, Tp, Tp, Tp, Tp, Tp, Tp, Tp, Tp, Tp, Tp, Tp, Tp, Tp, Tp, Tp, Tp, Tp, Tp, Tp, Tp, Tp, Tp, Tp, Tp, Tp, Tp, Tp, Tp, Tp, Tp, Tp, Tp, Tp, Tp, Tp, Tp, Tp, Tp, Tp, Tp, Tp, Tp, Tp, Tp, Tp, Tp, Tp, Tp, Tp, Tp, Tp, Tp, Tp, Tp, Tp, Tp, Tp, Tp, Tp, Tp, Tp, Tp, Tp, Tp, Tp, Tp, Tp, Tp, Tp, Tp, Tp, Tp, Tp, Tp, Tp, Tp, Tp, Tp, Tp, Tp, Tp, Tp, Tp, Tp, Tp, Tp, Tp, Tp, Tp, Tp, Tp, Tp, Tp, Tp, Tp, Tp, Tp, Tp, Tp, Tp, Tp, Tp, Tp, Tp, Tp, Tp, Tp, Tp, Tp, Tp, Tp, Tp, Tp, Tp] ∧ s = [.row 1 ((colonsTo ts i).map ei)] ∧ n = d' ∧ a + b + n ≤ i ∧ back ts n a b = back ts i 0 0)
          [true, false, false, true, true, true, true, true, true] i [0] (by decide) (pinned_zero _) ⟨i, 0, 0, by simp only [yE, w0]; rfl, rfl, rfl, by omega, rfl⟩ ?_
        rintro d' e s ⟨n, a, b, rfl, rfl, hnd, hab, hback⟩
        cases n with
        | zero =>
          have t2 : leI 0 (((0 : Nat) : Int) - 1) = false := leI_false (by omega)
          have hb2 : back ts i 0 0 = (a, b) := by rw [← hback]; rfl
          simp -implicitDefEqProofs only [↓yP, yT, t2]
          by_cases ha : a = 1
          · have e4 : eqI (a : Nat) 1 = true := by rw [ha]; rfl
            by_cases hb1 : b = 0
            · have e5 : eqI (b : Nat) 0 = true := by rw [hb1]; rfl
              simp -implicitDefEqProofs only [↓yP, yT, e4, e5, w1]
              refine Rl_inv (fun d' e s => ∃ k : Nat, e = [.c (.p (rT ts)), Tp, Tp, .c (.p (rII (nest ts))), .c (.own 0 1 0 (colonsTo ts i).length), yd (.int .i64 i), Tp, Tp, Tp, yd (.bool true), yd (.int .i64 k), Tp, Tp, Tp, Tp, Tp, Tp, Tp, Tp, Tp, Tp, Tp, Tp, Tp, Tp, Tp, Tp, Tp, Tp, Tp, Tp, Tp, Tp, Tp, Tp, Tp, Tp, Tp, Tp, Tp, Tp, Tp, Tp, Tp, Tp, Tp, Tp, Tp, Tp, Tp, Tp, Tp, Tp, Tp, Tp, Tp, Tp, Tp, Tp, Tp, Tp, Tp, Tp, Tp, Tp, Tp, Tp, Tp, Tp, Tp, Tp, Tp, Tp, Tp, Tp, Tp, Tp, Tp, Tp, Tp, Tp, Tp, Tp, Tp, Tp, Tp, Tp, Tp, Tp, Tp, Tp, Tp, Tp, Tp, Tp, Tp, Tp, Tp, Tp, Tp, Tp, Tp, Tp, Tp, Tp, Tp, Tp, Tp, Tp, Tp, Tp, Tp, Tp, Tp, Tp, Tp, Tp, Tp, Tp, Tp, Tp, Tp, Tp, Tp, Tp, Tp, Tp, Tp, Tp, Tp, Tp, Tp] ∧ s = [.row 1 ((colonsTo ts i).map ei)] ∧ k + d' = ts.length ∧ i < k ∧ behind ts i d' k = behind ts i (ts.length - (i + 1)) (i + 1))
                [true, false, false, true, true, true, false, false, false, true, true] (ts.length - (i + 1)) [0] (by decide) (pinned_zero _) ⟨i + 1, by simp only [yE], by simp only [yE], by omega, by omega, rfl⟩ ?_
              rintro d' e s ⟨k, rfl, rfl, hkd, hik, hbeh⟩
              by_cases hkl : k < ts.length
              · obtain ⟨v, hv⟩ := get_lt hkl
                have hnv := nest_at ts hkl
                have hkv := kindAt_some hv
                have hol3 := openAt_length ts k
                have t3 : leI (ts.length : Nat) (k : Nat) = false := leI_false (by omega)
                have w3 : wrapK .i64 ((k : Int) + 1) = ((k + 1 : Nat) : Int) := wrap_succ (by omega)
                have hd1 : d' = (d' - 1) + 1 := by omega
                by_cases hlen : (openAt ts k).length = (openAt ts i).length
                · have e6 : eqI ((openAt ts k).length : Nat) ((openAt ts i).length : Nat) = true := by rw [hlen]; exact eqI_true _
                  simp -implicitDefEqProofs only [↓yP, yT, t3]
                  refine Rd_calm (by rw [C1_P]; kernel_rfl) ?_
                  by_cases q1 : v.kind = 19
                  · have f1 : eqI v.kind 19 = true := by rw [q1]; rfl
                    simp -implicitDefEqProofs only [↓yP, yT, Nat.reduceAdd, Nat.reduceEqDiff, reduceCtorEq, get_map hnv, get_map hn, e2, e6, get_map hv, Tok.pc, f1, w1]
                    have hno : docColon ts i = false := by
                      rw [docColon, ← hbeh, hd1, behind, if_pos ⟨hlen, by simp [partK, hkv, q1]⟩]; simp [hkv, q1]
                    refine ⟨d - 1, [0], by omega, by decide, pinned_zero _, i + 1, ?_, ?_, by omega⟩
                    · simp only [yE, colonsTo_no hno]
                    · simp only [yE, colonsTo_no hno]
                  have f1 : eqI v.kind 19 = false := eqI_false q1
                  by_cases q2 : v.kind = 20
                  · have f2 : eqI v.kind 20 = true := by rw [q2]; rfl
                    have hyes : docColon ts i = true := by
                      rw [docColon, ← hbeh, hd1, behind, if_pos ⟨hlen, by simp [partK, hkv, q2]⟩]; simp [hkv, hk, k1, q2, h0, hb, hb2, ha, hb1]
                    simp -implicitDefEqProofs only [↓yP, yT, Nat.reduceAdd, Nat.reduceMul, Nat.reduceLeDiff, Nat.reduceEqDiff, reduceCtorEq, get_map hnv, get_map hn, e2, e6, get_map hv, Tok.pc, f1, f2, w1, bcol]
                    refine ⟨d - 1, [2], by omega, by decide, pinned_zero _, i + 1, ?_, ?_, by omega⟩
                    · simp only [yE, colonsTo_yes hyes]
                    · simp only [yE, colonsTo_yes hyes, List.map_append, ei]
                  have f2 : eqI v.kind 20 = false := eqI_false q2
                  by_cases q3 : v.kind = 17
                  · have f3 : eqI v.kind 17 = true := by rw [q3]; rfl
                    have hyes : docColon ts i = true := by
                      rw [docColon, ← hbeh, hd1, behind, if_pos ⟨hlen, by simp [partK, hkv, q3]⟩]; simp [hkv, hk, k1, q3, h0, hb, hb2, ha, hb1]
                    simp -implicitDefEqProofs only [↓yP, yT, Nat.reduceAdd, Nat.reduceMul, Nat.reduceLeDiff, Nat.reduceEqDiff, reduceCtorEq, get_map hnv, get_map hn, e2, e6, get_map hv, Tok.pc, f1, f2, f3, w1, bcol]
                    refine ⟨d - 1, [2], by omega, by decide, pinned_zero _, i + 1, ?_, ?_, by omega⟩
                    · simp only [yE, colonsTo_yes hyes]
                    · simp only [yE, colonsTo_yes hyes, List.map_append, ei]
                  · have f3 : eqI v.kind 17 = false := eqI_false q3
                    simp -implicitDefEqProofs only [↓yP, yT, Nat.reduceAdd, reduceCtorEq, get_map hnv, get_map hn, e2, e6, get_map hv, Tok.pc, f1, f2, f3, w3]
                    refine ⟨d' - 1, [0], by omega, by decide, pinned_zero _, k + 1, ?_, ?_, by omega, by omega, ?_⟩
                    · simp only [yE]
                    · simp only [yE]
                    · rw [← hbeh, hd1, behind, if_neg (by simp [partK, hkv, q1, q2, q3])]; rfl
                · have e6 : eqI ((openAt ts k).length : Nat) ((openAt ts i).length : Nat) = false := eqI_false (by omega)
                  simp -implicitDefEqProofs only [↓yP, yT, t3]
                  refine Rd_calm (by rw [C1_P]; kernel_rfl) ?_
                  simp -implicitDefEqProofs only [↓yP, yT, get_map hnv, get_map hn, e2, e6, w3]
                  refine ⟨d' - 1, [0], by omega, by decide, pinned_zero _, k + 1, ?_, ?_, by omega, by omega, ?_⟩
                  · simp only [yE]
                  · simp only [yE]
                  · rw [← hbeh, hd1, behind, if_neg (by simp [hlen])]; rfl
              · have t3 : leI (ts.length : Nat) (k : Nat) = true := leI_true (by omega)
                have hd0 : d' = 0 := by omega
                have hyes : docColon ts i = true := by
                  rw [docColon, ← hbeh, hd0, behind]; simp [hk, k1, h0, hb, hb2, ha, hb1]
                simp -implicitDefEqProofs only [↓yP, yT, Nat.reduceAdd, Nat.reduceMul, Nat.reduceLeDiff, reduceCtorEq, t3, w1, bcol]
                refine ⟨d - 1, [2], by omega, by decide, pinned_zero _, i + 1, ?_, ?_, by omega⟩
                · simp only [yE, colonsTo_yes hyes]
                · simp only [yE, colonsTo_yes hyes, List.map_append, ei]
            · have e5 : eqI (b : Nat) 0 = false := eqI_false (by omega)
              have hno : docColon ts i = false := by simp [docColon, hb2, ha, hb1]
              simp -implicitDefEqProofs only [↓yP, yT, e4, e5, w1]
              refine ⟨d - 1, [0], by omega, by decide, pinned_zero _, i + 1, ?_, ?_, by omega⟩
              · simp only [yE, colonsTo_no hno]
              · simp only [yE, colonsTo_no hno]
          · have e4 : eqI (a : Nat) 1 = false := eqI_false (by omega)
            have hno : docColon ts i = false := by simp [docColon, hb2, ha]
            simp -implicitDefEqProofs only [↓yP, yT, e4, w1]
            refine ⟨d - 1, [0], by omega, by decide, pinned_zero _, i + 1, ?_, ?_, by omega⟩
            · simp only [yE, colonsTo_no hno]
            · simp only [yE, colonsTo_no hno]
        | succ n =>
          have hn1 : ((n + 1 : Nat) : Int) - 1 = (n : Nat) := by omega
          have t2 : leI 0 ((n : Nat) : Int) = true := leI_true (by omega)
          obtain ⟨u, hu⟩ := get_lt (show n < ts.length by omega)
          have hnn := nest_at ts (show n < ts.length by omega)
          have hku := kindAt_some hu
          have hol2 := openAt_length ts n
          have w2 : wrapK .i64 ((n : Int) - 1) = (n : Int) - 1 := wrap_int (by omega) (by omega)
          simp -implicitDefEqProofs only [↓yP, yT, hn1, t2]
          refine Rcall_pure (part_spec ts (nest ts) n u (openAt ts n) hu hnn (by omega)) (by rfl) fun y hy => ?_
          subst hy
          cases hp : (partK u.kind && allBlocks (openAt ts n)) with
          | true =>
            have hb2 : back ts i 0 0 = (a, b) := by rw [← hback, back, partAt, hku, if_pos hp]
            simp -implicitDefEqProofs only [↓yP, yT]
            by_cases ha : a = 1
            · have e4 : eqI (a : Nat) 1 = true := by rw [ha]; rfl
              by_cases hb1 : b = 0
              · have e5 : eqI (b : Nat) 0 = true := by rw [hb1]; rfl
                simp -implicitDefEqProofs only [↓yP, yT, e4, e5, w1]
                refine Rl_inv (fun d' e s => ∃ k : Nat, e = [.c (.p (rT ts)), Tp, Tp, .c (.p (rII (nest ts))), .c (.own 0 1 0 (colonsTo ts i).length), yd (.int .i64 i), Tp, Tp, Tp, yd (.bool true), yd (.int .i64 k), Tp, Tp, Tp, Tp, Tp, Tp, Tp, Tp, Tp, Tp, Tp, Tp, Tp, Tp, Tp, Tp, Tp, Tp, Tp, Tp, Tp, Tp, Tp, Tp, Tp, Tp, Tp, Tp, Tp, Tp, Tp, Tp, Tp, Tp, Tp, Tp, Tp, Tp, Tp, Tp, Tp, Tp, Tp, Tp, Tp, Tp, Tp, Tp, Tp, Tp, Tp, Tp, Tp, Tp, Tp, Tp, Tp, Tp, Tp, Tp, Tp, Tp, Tp, Tp, Tp, Tp, Tp, Tp, Tp, Tp, Tp, Tp, Tp, Tp, Tp, Tp, Tp, Tp, Tp, Tp, Tp, Tp, Tp, Tp, Tp, Tp, Tp, Tp, Tp, Tp, Tp, Tp, Tp, Tp, Tp, Tp, Tp, Tp, Tp, Tp, Tp, Tp, Tp, Tp, Tp, Tp, Tp, Tp, Tp, Tp, Tp, Tp, Tp, Tp, Tp, Tp, Tp, Tp, Tp, Tp, Tp] ∧ s = [.row 1 ((colonsTo ts i).map ei)] ∧ k + d' = ts.length ∧ i < k ∧ behind ts i d' k = behind ts i (ts.length - (i + 1)) (i + 1))
                  [true, false, false, true, true, true, false, false, false, true, true] (ts.length - (i + 1)) [0] (by decide) (pinned_zero _) ⟨i + 1, by simp only [yE], by simp only [yE], by omega, by omega, rfl⟩ ?_
                rintro d' e s ⟨k, rfl, rfl, hkd, hik, hbeh⟩
                by_cases hkl : k < ts.length
                · obtain ⟨v, hv⟩ := get_lt hkl
                  have hnv := nest_at ts hkl
                  have hkv := kindAt_some hv
                  have hol3 := openAt_length ts k
                  have t3 : leI (ts.length : Nat) (k : Nat) = false := leI_false (by omega)
                  have w3 : wrapK .i64 ((k : Int) + 1) = ((k + 1 : Nat) : Int) := wrap_succ (by omega)
                  have hd1 : d' = (d' - 1) + 1 := by omega
                  by_cases hlen : (openAt ts k).length = (openAt ts i).length
                  · have e6 : eqI ((openAt ts k).length : Nat) ((openAt ts i).length : Nat) = true := by rw [hlen]; exact eqI_true _
                    simp -implicitDefEqProofs only [↓yP, yT, t3]
                    refine Rd_calm (by rw [C1_P]; kernel_rfl) ?_
                    by_cases q1 : v.kind = 19
                    · have f1 : eqI v.kind 19 = true := by rw [q1]; rfl
                      simp -implicitDefEqProofs only [↓yP, yT, Nat.reduceAdd, Nat.reduceEqDiff, reduceCtorEq, get_map hnv, get_map hn, e2, e6, get_map hv, Tok.pc, f1, w1]
                      have hno : docColon ts i = false := by
                        rw [docColon, ← hbeh, hd1, behind, if_pos ⟨hlen, by simp [partK, hkv, q1]⟩]; simp [hkv, q1]
                      refine ⟨d - 1, [0], by omega, by decide, pinned_zero _, i + 1, ?_, ?_, by omega⟩
                      · simp only [yE, colonsTo_no hno]
                      · simp only [yE, colonsTo_no hno]
                    have f1 : eqI v.kind 19 = false := eqI_false q1
                    by_cases q2 : v.kind = 20
                    · have f2 : eqI v.kind 20 = true := by rw [q2]; rfl
                      have hyes : docColon ts i = true := by
                        rw [docColon, ← hbeh, hd1, behind, if_pos ⟨hlen, by simp [partK, hkv, q2]⟩]; simp [hkv, hk, k1, q2, h0, hb, hb2, ha, hb1]
                      simp -implicitDefEqProofs only [↓yP, yT, Nat.reduceAdd, Nat.reduceMul, Nat.reduceLeDiff, Nat.reduceEqDiff, reduceCtorEq, get_map hnv, get_map hn, e2, e6, get_map hv, Tok.pc, f1, f2, w1, bcol]
                      refine ⟨d - 1, [2], by omega, by decide, pinned_zero _, i + 1, ?_, ?_, by omega⟩
                      · simp only [yE, colonsTo_yes hyes]
                      · simp only [yE, colonsTo_yes hyes, List.map_append, ei]
                    have f2 : eqI v.kind 20 = false := eqI_false q2
                    by_cases q3 : v.kind = 17
                    · have f3 : eqI v.kind 17 = true := by rw [q3]; rfl
                      have hyes : docColon ts i = true := by
                        rw [docColon, ← hbeh, hd1, behind, if_pos ⟨hlen, by simp [partK, hkv, q3]⟩]; simp [hkv, hk, k1, q3, h0, hb, hb2, ha, hb1]
                      simp -implicitDefEqProofs only [↓yP, yT, Nat.reduceAdd, Nat.reduceMul, Nat.reduceLeDiff, Nat.reduceEqDiff, reduceCtorEq, get_map hnv, get_map hn, e2, e6, get_map hv, Tok.pc, f1, f2, f3, w1, bcol]
                      refine ⟨d - 1, [2], by omega, by decide, pinned_zero _, i + 1, ?_, ?_, by omega⟩
                      · simp only [yE, colonsTo_yes hyes]
                      · simp only [yE, colonsTo_yes hyes, List.map_append, ei]
                    · have f3 : eqI v.kind 17 = false := eqI_false q3
                      simp -implicitDefEqProofs only [↓yP, yT, Nat.reduceAdd, reduceCtorEq, get_map hnv, get_map hn, e2, e6, get_map hv, Tok.pc, f1, f2, f3, w3]
                      refine ⟨d' - 1, [0], by omega, by decide, pinned_zero _, k + 1, ?_, ?_, by omega, by omega, ?_⟩
                      · simp only [yE]
                      · simp only [yE]
                      · rw [← hbeh, hd1, behind, if_neg (by simp [partK, hkv, q1, q2, q3])]; rfl
                  · have e6 : eqI ((openAt ts k).length : Nat) ((openAt ts i).length : Nat) = false := eqI_false (by omega)
                    simp -implicitDefEqProofs only [↓yP, yT, t3]
                    refine Rd_calm (by rw [C1_P]; kernel_rfl) ?_
                    simp -implicitDefEqProofs only [↓yP, yT, get_map hnv, get_map hn, e2, e6, w3]
                    refine ⟨d' - 1, [0], by omega, by decide, pinned_zero _, k + 1, ?_, ?_, by omega, by omega, ?_⟩
                    · simp only [yE]
                    · simp only [yE]
                    · rw [← hbeh, hd1, behind, if_neg (by simp [hlen])]; rfl
                · have t3 : leI (ts.length : Nat) (k : Nat) = true := leI_true (by omega)
                  have hd0 : d' = 0 := by omega
                  have hyes : docColon ts i = true := by
                    rw [docColon, ← hbeh, hd0, behind]; simp [hk, k1, h0, hb, hb2, ha, hb1]
                  simp -implicitDefEqProofs only [↓yP, yT, Nat.reduceAdd, Nat.reduceMul, Nat.reduceLeDiff, reduceCtorEq, t3, w1, bcol]
                  refine ⟨d - 1, [2], by omega, by decide, pinned_zero _, i + 1, ?_, ?_, by omega⟩
                  · simp only [yE, colonsTo_yes hyes]
                  · simp only [yE, colonsTo_yes hyes, List.map_append, ei]
              · have e5 : eqI (b : Nat) 0 = false := eqI_false (by omega)
                have hno : docColon ts i = false := by simp [docColon, hb2, ha, hb1]
                simp -implicitDefEqProofs only [↓yP, yT, e4, e5, w1]
                refine ⟨d - 1, [0], by omega, by decide, pinned_zero _, i + 1, ?_, ?_, by omega⟩
                · simp only [yE, colonsTo_no hno]
                · simp only [yE, colonsTo_no hno]
            · have e4 : eqI (a : Nat) 1 = false := eqI_false (by omega)
              have hno : docColon ts i = false := by simp [docColon, hb2, ha]
              simp -implicitDefEqProofs only [↓yP, yT, e4, w1]
              refine ⟨d - 1, [0], by omega, by decide, pinned_zero _, i + 1, ?_, ?_, by omega⟩
              · simp only [yE, colonsTo_no hno]
              · simp only [yE, colonsTo_no hno]
          | false =>
            have hp2 : ¬ partAt ts n = true := by rw [partAt, hku, hp]; simp
            simp -implicitDefEqProofs only [↓yP, yT, Nat.reduceAdd, reduceCtorEq, get_map hu, Tok.pc]
            refine Rcall_pure (quiet_spec u) (by rfl) fun y hy => ?_
            subst hy
            cases hq : quiet u.kind with
            | true =>
              simp -implicitDefEqProofs only [↓yP, yT, w2]
              refine ⟨d' - 1, [0], by omega, by decide, pinned_zero _, n, a, b, ?_, ?_, by omega, by omega, ?_⟩
              · simp only [yE]
              · simp only [yE]
              · rw [← hback, back, if_neg hp2, hku, if_pos hq]
            | false =>
              by_cases k2 : u.kind = 1
              · have e3 : eqI u.kind 1 = true := by rw [k2]; rfl
                simp -implicitDefEqProofs only [↓yP, yT, Nat.reduceAdd, reduceCtorEq, w2, get_map hu, Tok.pc, e3, wrap_succ (show a < 9000000000000000000 by omega)]
                refine ⟨d' - 1, [0], by omega, by decide, pinned_zero _, n, a + 1, b, ?_, ?_, by omega, by omega, ?_⟩
                · simp only [yE]
                · simp only [yE]
                · rw [← hback, back, if_neg hp2, hku, if_neg (by rw [hq]; simp), if_pos k2]
              · have e3 : eqI u.kind 1 = false := eqI_false k2
                simp -implicitDefEqProofs only [↓yP, yT, Nat.reduceAdd, reduceCtorEq, w2, get_map hu, Tok.pc, e3, wrap_succ (show b < 9000000000000000000 by omega)]
                refine ⟨d' - 1, [0], by omega, by decide, pinned_zero _, n, a, b + 1, ?_, ?_, by omega, by omega, ?_⟩
                · simp only [yE]
                · simp only [yE]
                · rw [← hback, back, if_neg hp2, hku, if_neg (by rw [hq]; simp), if_neg k2]
    · have e1 : eqI t.kind 16 = false := eqI_false k1
      simp -implicitDefEqProofs only [↓yP, yT, Nat.reduceAdd, reduceCtorEq, t1, get_map ht, Tok.pc, e1, w1]
      have hno : docColon ts i = false := by simp [docColon, hk, k1]
      refine ⟨d - 1, [0], by omega, by decide, pinned_zero _, i + 1, ?_, ?_, by omega⟩
      · simp only [yE, colonsTo_no hno]
      · simp only [yE, colonsTo_no hno]
  · have t1 : leI (ts.length : Nat) (i : Nat) = true := leI_true (by omega)
    have : i = ts.length := by omega
    subst this
    simp -implicitDefEqProofs only [↓yP, yT, reduceCtorEq, t1]
end Go.Vx.Seat
end
section
open Go Go.Vx Go.Proofs
namespace Go.Vx.Seat
def blankTok (s : ByteArray) (f : Int) : Tok := ⟨13, s, ⟨#[]⟩, false, ⟨#[]⟩, ⟨#[]⟩, false, false, 0, 0, 0, 0, f⟩
def kp (t : Tok) : Bool := eqI t.kind 25 && keepB t.text
def keptN (ts : List Tok) (i : Nat) : Nat → List Tok
  | 0 => []
  | m + 1 => keptN ts i m ++ (match ts[i + m]? with | some t => (if kp t then [t] else []) | none => [])
def spaceN (ts : List Tok) (i : Nat) : Nat → Option Nat
  | 0 => none
  | m + 1 => match spaceN ts i m with
    | some k => some k
    | none => match ts[i + m]? with | some t => (if eqI t.kind 13 then some (i + m) else none) | none => none
def fromAt (ts : List Tok) (n : Nat) : Int := match ts[n]? with | some t => t.start | none => 0
def lineAt (ts : List Tok) : Nat → Bool
  | 0 => false
  | j + 1 => match ts[j]? with | some t => lineB t | none => false
def goBef (ts : List Tok) (cols : List Int) : Nat → Bool
  | 0 => true
  | j + 1 => befB ts cols j
def runOut (ts : List Tok) (cols : List Int) (i k : Nat) : List Tok :=
  match spaceN ts i (k - i) with
  | none => keptN ts i (k - i)
  | some n => if lineAt ts i then blankTok ⟨#[10]⟩ (fromAt ts n) :: keptN ts i (k - i)
    else if goBef ts cols i || aftB ts cols k then keptN ts i (k - i) else keptN ts i (k - i) ++ [blankTok ⟨#[32]⟩ (fromAt ts n)]
def qend (ts : List Tok) : Nat → Nat → Nat
  | 0, k => k
  | d + 1, k => if quiet (kindAt ts k) then qend ts d (k + 1) else k
theorem qend_ge (ts : List Tok) : ∀ d k, k ≤ qend ts d k ∧ qend ts d k ≤ k + d
  | 0, k => by simp [qend]
  | d + 1, k => by
    have := qend_ge ts d (k + 1)
    unfold qend
    split <;> omega
def valF (ts : List Tok) (cols : List Int) (i : Nat) : List Tok :=
  if h : i < ts.length then
    (if quiet (kindAt ts i) then runOut ts cols i (qend ts (ts.length - (i + 1)) (i + 1)) ++ valF ts cols (qend ts (ts.length - (i + 1)) (i + 1)) else ts[i] :: valF ts cols (i + 1))
  else []
termination_by ts.length - i
decreasing_by
  all_goals first | (have := qend_ge ts (ts.length - (i + 1)) (i + 1); omega) | omega
theorem valF_end {ts : List Tok} {cols : List Int} {i : Nat} (h : ts.length ≤ i) : valF ts cols i = [] := by rw [valF, dif_neg (by omega)]
theorem valF_one {ts : List Tok} {cols : List Int} {i : Nat} {t : Tok} (h : ts[i]? = some t) (hq : quiet t.kind = false) : valF ts cols i = t :: valF ts cols (i + 1) := by
  obtain ⟨hl, he⟩ := List.getElem?_eq_some_iff.mp h
  rw [valF, dif_pos hl, if_neg (by rw [kindAt_some h, hq]; simp), he]
theorem qend_eq {ts : List Tok} : ∀ {d k n : Nat}, (∀ j, k ≤ j → j < n → quiet (kindAt ts j) = true) → k ≤ n → n ≤ k + d → (n = k + d ∨ quiet (kindAt ts n) = false) → qend ts d k = n
  | 0, k, n, _, h1, h2, _ => by simp [qend]; omega
  | d + 1, k, n, hq, h1, h2, h3 => by
    unfold qend
    by_cases e : k = n
    · subst e
      rcases h3 with h3 | h3
      · omega
      · rw [if_neg (by rw [h3]; simp)]
    · rw [if_pos (hq k (Nat.le_refl _) (by omega))]
      exact qend_eq (fun j hj => hq j (by omega)) (by omega) (by omega) (by rcases h3 with h3 | h3; exact .inl (by omega); exact .inr h3)
theorem valF_run {ts : List Tok} {cols : List Int} {i m : Nat} (hm : 0 < m) (hl : i + m ≤ ts.length) (hq : ∀ j, j < m → quiet (kindAt ts (i + j)) = true) (he : i + m = ts.length ∨ quiet (kindAt ts (i + m)) = false) :
    valF ts cols i = runOut ts cols i (i + m) ++ valF ts cols (i + m) := by
  have h1 : qend ts (ts.length - (i + 1)) (i + 1) = i + m := qend_eq (fun j h1 h2 => by have := hq (j - i) (by omega); rwa [show i + (j - i) = j by omega] at this) (by omega) (by omega) (by rcases he with he | he; exact .inl (by omega); exact .inr he)
  rw [valF, dif_pos (by omega), if_pos (by have := hq 0 hm; simpa using this), h1]
theorem kept_length (ts : List Tok) (i : Nat) : ∀ m, (keptN ts i m).length + (match spaceN ts i m with | some _ => 1 | none => 0) ≤ m
  | 0 => by simp [keptN, spaceN]
  | m + 1 => by
    have ih := kept_length ts i m
    simp only [keptN, spaceN, List.length_append]
    cases h : ts[i + m]? with
    | none =>
      simp only [List.length_nil]
      cases hs : spaceN ts i m with
      | none => rw [hs] at ih; simp only at ih ⊢; omega
      | some k => rw [hs] at ih; simp only at ih ⊢; omega
    | some t =>
      simp only
      by_cases k1 : kp t
      · have h25 : eqI t.kind 13 = false := by
          simp only [kp, Bool.and_eq_true] at k1
          have h1 := k1.1
          rw [eqI_eq, decide_eq_true_eq] at h1
          exact eqI_false (by omega)
        rw [if_pos k1, h25]
        simp only [List.length_singleton]
        cases hs : spaceN ts i m with
        | none => rw [hs] at ih; simp at ih ⊢; omega
        | some k => rw [hs] at ih; simp only at ih ⊢; omega
      · rw [if_neg k1]
        simp only [List.length_nil]
        cases hs : spaceN ts i m with
        | none => rw [hs] at ih; simp only at ih ⊢; split <;> first | omega | (simp_all; omega) | simp_all
        | some k => rw [hs] at ih; simp only at ih ⊢; omega
theorem kept_le (ts : List Tok) (i m : Nat) : (keptN ts i m).length ≤ m := by have := kept_length ts i m; omega
theorem bytes_le (a b : Nat) (ha : a ≤ 2000000) (hb : b ≤ 2000000) : (a + b) * 128 ≤ 70368744177664 := by omega
theorem space_lt {ts : List Tok} {i : Nat} : ∀ {m n : Nat}, spaceN ts i m = some n → i ≤ n ∧ n < i + m ∧ n < ts.length ∧ kindAt ts n = 13
  | 0, n, h => by cases h
  | m + 1, n, h => by
    unfold spaceN at h
    split at h
    · rename_i k hk
      cases h
      have := space_lt hk
      exact ⟨by omega, by omega, this.2.2⟩
    · split at h
      · rename_i t ht
        split at h
        · rename_i hq
          cases h
          have := (List.getElem?_eq_some_iff.mp ht).1
          rw [eqI_eq, decide_eq_true_eq] at hq
          exact ⟨by omega, by omega, this, by rw [kindAt_some ht, hq]⟩
        · cases h
      · cases h
def encS : Option Nat → Int
  | none => -1
  | some n => (n : Nat)
end Go.Vx.Seat
end
section
open Go Go.Vx Go.Proofs
namespace Go.Vx.Seat
def st0 (x : Rn) : Rn := ⟨x.r, 0⟩
theorem st0_r (x : Rn) : (st0 x).r = x.r := rfl
def strip (t : Tok) : Tok := { t with start := 0 }
theorem lexF_at (x : Rn) (r : List Rn) {T : Tok × List Rn} (h : oneT (st0 x :: r) = T) : lexF (st0 x :: r) = strip T.1 :: lexF T.2 := by rw [lexF_cons, h]; rfl
theorem lex_strip : ∀ (n : Nat) (l : List Rn), l.length ≤ n → lexF (l.map st0) = (lexF l).map strip := by
  intro n
  induction n with
  | zero => intro l h; have : l = [] := List.eq_nil_of_length_eq_zero (by omega); subst this; rw [lexF_nil]; exact lexF_nil
  | succ n ih =>
    intro l h
    cases l with
    | nil => rw [lexF_nil]; exact lexF_nil
    | cons x r =>
      have h1 := oneT_J (f := st0) (t := []) st0_r (x := x) (r := r) (.inl rfl)
      have e : J st0 [] (x :: r) = st0 x :: (r.map st0) := by simp [J]
      have e2 : J st0 [] (oneT (x :: r)).2 = (oneT (x :: r)).2.map st0 := by simp [J]
      rw [e, e2] at h1
      rw [List.map_cons, lexF_at x _ h1, lexF_cons, List.map_cons, ih _ (by have := oneT_lt x r; simp only [List.length_cons] at this h; omega)]
      rfl
theorem follows0_no {l : List Rn} {c : UInt8} {cs : List UInt8} (h : eqI (hd l) (c.toNat : Nat) = false) : follows0 l (c :: cs) = false := by rw [follows0, h]; rfl
theorem one_shut {x : Rn} (r : List Rn) (h : x.r = 125) : oneT (x :: r) = (lexTok 20 ⟨#[]⟩, r) := by
  have hh : hd (x :: r) = 125 := h
  have q1 : follows0 (x :: r) (strOf ⟨#[47, 42]⟩) = false := follows0_no (c := 47) (cs := [42]) (by rw [hh]; decide)
  have q2 : follows0 (x :: r) (strOf ⟨#[45, 45, 62]⟩) = false := follows0_no (c := 45) (cs := [45, 62]) (by rw [hh]; decide)
  have q3 : follows0 (x :: r) (strOf ⟨#[60, 33, 45, 45]⟩) = false := follows0_no (c := 60) (cs := [33, 45, 45]) (by rw [hh]; decide)
  have q4 : numeral0 (x :: r) = false := by
    have : isSign (x :: r) = false := by rw [isSign, hh]; decide
    rw [numeral0, this]; simp only [Bool.false_eq_true, if_false]; rw [hh, show digitB 125 = false from by decide, show eqI 125 46 = false from by decide]; rfl
  have q5 : begins0 (x :: r) = false := by
    simp only [begins0, esc0, hh, h, show eqI 125 45 = false from by decide, show eqI 125 92 = false from by decide, show startB 125 = false from by decide, Bool.false_eq_true, if_false, Bool.false_and, Bool.or_self]
  unfold oneT
  rw [q1, q2, q3, q4, q5, hh]
  simp only [show blankB 125 = false from by decide, show eqI 125 34 = false from by decide, show eqI 125 39 = false from by decide, show eqI 125 35 = false from by decide, show eqI 125 64 = false from by decide, show signK 125 = 20 from by decide, show eqI 20 9 = false from by decide, Bool.false_eq_true, if_false, Bool.false_and]
  rfl
theorem blank_is {r : Int} (h : blankB r = true) : r = 32 ∨ r = 9 ∨ r = 10 := by
  simp only [blankB, Bool.or_eq_true] at h
  rcases h with (h | h) | h
  · exact .inl (of_eqT h)
  · exact .inr (.inl (of_eqT h))
  · exact .inr (.inr (of_eqT h))
theorem one_blank {x : Rn} (r : List Rn) (h : blankB x.r = true) : oneT (x :: r) = (lexTok 13 (if eqI x.r 10 then ⟨#[10]⟩ else ⟨#[32]⟩), blanks r) := by
  have hh : hd (x :: r) = x.r := rfl
  have q1 : follows0 (x :: r) (strOf ⟨#[47, 42]⟩) = false := follows0_no (c := 47) (cs := [42]) (by rw [hh]; rcases blank_is h with e | e | e <;> (rw [e]; decide))
  have q2 : blanks (x :: r) = blanks r := blanks_cons h
  unfold oneT
  rw [q1, hh, h, q2]
  simp only [Bool.false_eq_true, if_false, if_true]
theorem blanks_all : ∀ {l : List Rn}, blanks l = [] → ∀ x, x ∈ l → blankB x.r = true
  | [], _, x, hx => by simp at hx
  | y :: r, h, x, hx => by
    cases h1 : blankB y.r with
    | false => rw [blanks, List.dropWhile_cons_of_neg (by show ¬ blankB y.r = true; rw [h1]; simp)] at h; cases h
    | true =>
      rw [blanks_cons h1] at h
      rcases List.mem_cons.mp hx with rfl | hx
      · exact h1
      · exact blanks_all (l := r) h x hx
theorem blanks_over (t : List Rn) : ∀ {l : List Rn}, (∀ x, x ∈ l → blankB x.r = true) → blanks (l.map st0 ++ t) = blanks t
  | [], _ => rfl
  | y :: r, h => by
    have h1 : blankB y.r = true := h y (by simp)
    have : blanks ((y :: r).map st0 ++ t) = blanks (r.map st0 ++ t) := by rw [blanks, List.map_cons, List.cons_append, List.dropWhile_cons_of_pos (by exact h1)]; rfl
    rw [this, blanks_over t fun x hx => h x (by simp [hx])]
theorem lex_ne {x : Rn} {r : List Rn} : lexF (x :: r) ≠ [] := by rw [lexF_cons]; simp
theorem lex_join (t : List Rn) : ∀ (n : Nat) (l : List Rn), l.length ≤ n → ∀ tk, (lexF l).getLast? = some tk →
    (tk.kind = 20 → lexF (l.map st0 ++ t) = (lexF l).map strip ++ lexF t) ∧ (tk.kind = 13 → lexF (l.map st0 ++ t) = (lexF l).map strip ++ lexF (blanks t)) ∧ (tk.kind = 20 ∨ tk.kind = 13 → ∃ u z, l = u ++ [z] ∧ spB z.r = true) := by
  intro n
  induction n with
  | zero => intro l h tk htk; have : l = [] := List.eq_nil_of_length_eq_zero (by omega); subst this; rw [lexF_nil] at htk; cases htk
  | succ n ih =>
    intro l h tk htk
    cases l with
    | nil => rw [lexF_nil] at htk; cases htk
    | cons x r =>
      have hlt := oneT_lt x r
      have hkd := oneT_kind (x :: r)
      cases hrest : (oneT (x :: r)).2 with
      | nil =>
        have hlx := lexF_cons x r
        rw [hrest, lexF_nil] at hlx
        rw [hlx] at htk
        simp only [List.getLast?_singleton, Option.some.injEq] at htk
        have hk : tk.kind = (oneT (x :: r)).1.kind := by rw [← htk]
        refine ⟨fun h20 => ?_, fun h13 => ?_, fun hor => ?_⟩
        · have hx : x.r = 125 := hkd.1 (by rw [← hk]; exact h20)
          have h1 := one_shut r hx
          rw [h1] at hrest
          have hr : r = [] := hrest
          subst hr
          rw [hlx, h1]
          exact lexF_at x t (one_shut t hx)
        · have hx : blankB x.r = true := hkd.2 (by rw [← hk]; exact h13)
          have h1 := one_blank r hx
          rw [h1] at hrest
          have hall := blanks_all (l := r) hrest
          rw [hlx, h1, List.map_cons, List.cons_append]
          refine (lexF_at x _ (one_blank (r.map st0 ++ t) hx)).trans ?_
          rw [blanks_over t hall]; rfl
        · rcases hor with h20 | h13
          · have hx : x.r = 125 := hkd.1 (by rw [← hk]; exact h20)
            have h1 := one_shut r hx
            rw [h1] at hrest
            have hr : r = [] := hrest
            subst hr
            exact ⟨[], x, rfl, by rw [hx]; decide⟩
          · have hx : blankB x.r = true := hkd.2 (by rw [← hk]; exact h13)
            rw [one_blank r hx] at hrest
            have hall := blanks_all (l := r) hrest
            rcases List.eq_nil_or_concat (x :: r) with e | ⟨u, z, e⟩
            · cases e
            · rw [List.concat_eq_append] at e
              refine ⟨u, z, e, ?_⟩
              have hz : z ∈ x :: r := by rw [e]; simp
              have : blankB z.r = true := by
                rcases List.mem_cons.mp hz with rfl | hz
                · exact hx
                · exact hall z hz
              rw [spB, this]; simp
      | cons y r2 =>
        have hlx := lexF_cons x r
        rw [hrest] at hlx
        have hle : (y :: r2).length ≤ n := by rw [hrest] at hlt; simp only [List.length_cons] at hlt h ⊢; omega
        have htk2 : (lexF (y :: r2)).getLast? = some tk := by
          rw [hlx] at htk
          rcases List.eq_nil_or_concat (lexF (y :: r2)) with e | ⟨u, z, e⟩
          · exact absurd e lex_ne
          · rw [List.concat_eq_append] at e
            rw [e, ← List.cons_append, List.getLast?_concat] at htk
            rw [e, List.getLast?_concat]; exact htk
        obtain ⟨i1, i2, i3⟩ := ih _ hle tk htk2
        have hsuf : y :: r2 <:+ x :: r := hrest ▸ suf_cons x (oneT_suf x r)
        have hgo : tk.kind = 20 ∨ tk.kind = 13 → lexF ((x :: r).map st0 ++ t) = strip (oneT (x :: r)).1 :: lexF ((y :: r2).map st0 ++ t) := fun hor => by
          have hs : Sl t (oneT (x :: r)).2 := by rw [hrest]; exact .inr (i3 hor)
          have h1 := oneT_J (f := st0) st0_r hs
          rw [hrest] at h1
          rw [List.map_cons, List.cons_append]
          exact lexF_at x _ h1
        refine ⟨fun h20 => ?_, fun h13 => ?_, fun hor => ?_⟩
        · rw [hgo (.inl h20), i1 h20, hlx]; rfl
        · rw [hgo (.inr h13), i2 h13, hlx]; rfl
        · obtain ⟨u, z, hu, hz⟩ := i3 hor
          obtain ⟨p, hp⟩ := hsuf
          exact ⟨p ++ u, z, by rw [← hp, hu]; simp, hz⟩
theorem lex_blanks (t : List Rn) : ∃ q, (q = [] ∨ ∃ s f, q = [blankTok s f]) ∧ lexF t = q ++ lexF (blanks t) := by
  cases t with
  | nil => exact ⟨[], .inl rfl, rfl⟩
  | cons x r =>
    cases h : blankB x.r with
    | false =>
      refine ⟨[], .inl rfl, ?_⟩
      rw [blanks, List.dropWhile_cons_of_neg (by show ¬ blankB x.r = true; rw [h]; simp)]; rfl
    | true =>
      refine ⟨[blankTok (if eqI x.r 10 then ⟨#[10]⟩ else ⟨#[32]⟩) x.a], .inr ⟨_, _, rfl⟩, ?_⟩
      have e : blanks (x :: r) = blanks r := blanks_cons h
      rw [e, lexF_cons, one_blank r h]; rfl
theorem putB_le (r : Int) : (putB r).length ≤ 4 := (putB_len r).2
theorem takeF_len : ∀ (n : Nat) (l : List Rn), l.length ≤ n → (takeF l).1.length + 4 * (takeF l).2.length ≤ 4 * l.length := by
  intro n
  induction n with
  | zero => intro l h; have : l = [] := List.eq_nil_of_length_eq_zero (by omega); subst this; rw [takeF_nil]; simp
  | succ n ih =>
    intro l h
    cases l with
    | nil => rw [takeF_nil]; simp
    | cons x r =>
      have hr : r.length ≤ n := by simpa using h
      cases h1 : inB x.r with
      | true => rw [takeF_in h1]; have := ih r hr; have := putB_le x.r; simp only [List.length_append, List.length_cons]; omega
      | false =>
        cases h2 : esc0 (x :: r) with
        | true => rw [takeF_esc h1 h2]; have h3 := escF_le r; have := ih _ (show (escF r).2.length ≤ n by omega); have := putB_le (escF r).1; simp only [List.length_append, List.length_cons]; omega
        | false => rw [takeF_end h1 h2]; simp
theorem quotedF_len (q : Int) : ∀ (n : Nat) (l : List Rn), l.length ≤ n → (quotedF q l).1.length + 4 * (quotedF q l).2.2.length ≤ 4 * l.length := by
  intro n
  induction n with
  | zero => intro l h; have : l = [] := List.eq_nil_of_length_eq_zero (by omega); subst this; rw [quotedF_nil]; simp
  | succ n ih =>
    intro l h
    cases l with
    | nil => rw [quotedF_nil]; simp
    | cons x r =>
      have hr : r.length ≤ n := by simpa using h
      cases h1 : eqI x.r q with
      | true => rw [quotedF_shut h1]; simp; omega
      | false =>
        cases h2 : eqI x.r 10 with
        | true => rw [quotedF_nl h1 h2]; simp
        | false =>
          cases h3 : eqI x.r 92 with
          | false => rw [quotedF_plain h1 h2 h3]; have := ih r hr; have := putB_le x.r; simp only [List.length_append, List.length_cons]; omega
          | true =>
            cases r with
            | nil => rw [quotedF_lone h1 h2 h3]; simp
            | cons y r' =>
              cases h4 : eqI y.r 10 with
              | true => rw [quotedF_escnl h1 h2 h3 h4]; have := ih r' (by simp at hr; omega); simp only [List.length_cons]; omega
              | false => rw [quotedF_esc h1 h2 h3 h4]; have h3 := escF_le (y :: r'); have := ih _ (show (escF (y :: r')).2.length ≤ n by omega); have := putB_le (escF (y :: r')).1; simp only [List.length_append, List.length_cons] at h3 ⊢; omega
theorem urlF_len : ∀ (n : Nat) (l : List Rn), l.length ≤ n → ∀ bs, (urlF l).1 = some bs → bs.length ≤ 4 * l.length := by
  intro n
  induction n with
  | zero => intro l h bs hb; have : l = [] := List.eq_nil_of_length_eq_zero (by omega); subst this; rw [urlF_nil] at hb; cases hb; simp
  | succ n ih =>
    intro l h bs hb
    cases l with
    | nil => rw [urlF_nil] at hb; cases hb; simp
    | cons x r =>
      have hr : r.length ≤ n := by simpa using h
      cases h1 : eqI x.r 41 with
      | true => rw [urlF_shut h1] at hb; cases hb; simp
      | false =>
        cases h2 : blankB x.r with
        | true =>
          cases h3 : blanks r with
          | nil => rw [urlF_bl0 h1 h2 h3] at hb; cases hb; simp
          | cons y r' =>
            cases h4 : eqI y.r 41 with
            | true => rw [urlF_bl1 h1 h2 h3 h4] at hb; cases hb; simp
            | false => rw [urlF_bl2 h1 h2 h3 h4] at hb; cases hb
        | false =>
          cases h3 : urlBad x r with
          | true => rw [urlF_bad h1 h2 h3] at hb; cases hb
          | false =>
            cases h4 : eqI x.r 92 with
            | true =>
              rw [urlF_esc h1 h2 h3 h4] at hb
              simp only [Option.map_eq_some_iff] at hb
              obtain ⟨cs, hc, rfl⟩ := hb
              have h5 := escF_le r
              have := ih _ (show (escF r).2.length ≤ n by omega) cs hc
              have := putB_le (escF r).1
              simp only [List.length_append, List.length_cons]; omega
            | false =>
              rw [urlF_plain h1 h2 h3 h4] at hb
              simp only [Option.map_eq_some_iff] at hb
              obtain ⟨cs, hc, rfl⟩ := hb
              have := ih r hr cs hc
              have := putB_le x.r
              simp only [List.length_append, List.length_cons]; omega
theorem commF_len : ∀ l : List Rn, (commF l).1.length ≤ l.length
  | [] => by simp [commF]
  | x :: r => by
    unfold commF
    split
    · simp
    · have := commF_len r; simp only [List.length_cons]; omega
theorem used_len (l r : List Rn) : (used l r).length ≤ l.length := by rw [used, List.length_take]; omega
theorem text_used (l r : List Rn) : (strOf (bstr (textF (used l r)))).length ≤ 4 * l.length := by
  rw [bstr_len]; have := textF_len (used l r); have := used_len l r; omega
theorem urlT_text {g s : List Rn} (h : s <:+ g) : (strOf (urlT g s).1.text).length ≤ 4 * g.length := by
  unfold urlT
  rcases hu : urlF (blanks s) with ⟨o, r⟩
  cases o with
  | none => exact text_used g r
  | some bs =>
    show (strOf (bstr bs)).length ≤ _
    rw [bstr_len]
    have := urlF_len _ (blanks s) (Nat.le_refl _) bs (by rw [hu])
    have := blanks_le s
    have := h.length_le
    omega
theorem namedT_text (l : List Rn) : (strOf (namedT l).1.text).length ≤ 4 * l.length := by
  have h1 := takeF_len _ l (Nat.le_refl _)
  have h2 : (strOf (bstr (takeF l).1)).length ≤ 4 * l.length := by rw [bstr_len]; omega
  unfold namedT
  refine ite_of (p := fun q : Tok × List Rn => (strOf q.1.text).length ≤ 4 * l.length) (fun _ => ?_) fun _ => h2
  refine ite_of (p := fun q : Tok × List Rn => (strOf q.1.text).length ≤ 4 * l.length) (fun _ => ?_) fun _ => h2
  exact urlT_text ((List.drop_suffix 1 _).trans (takeF_suf _ _ (Nat.le_refl _)))
theorem quoteT_text (x : Rn) (r : List Rn) : (strOf (quoteT (x :: r)).1.text).length ≤ 4 * (x :: r).length := by
  unfold quoteT
  show (strOf (ite _ _ _ : Tok).text).length ≤ _
  refine ite_of (p := fun q : Tok => (strOf q.text).length ≤ 4 * (x :: r).length) (fun _ => text_used _ _) fun _ => ?_
  show (strOf (bstr _)).length ≤ _
  rw [bstr_len]
  have := quotedF_len x.r _ r (Nat.le_refl _)
  show (quotedF x.r r).1.length ≤ _
  simp only [List.length_cons]; omega
theorem numT_text (l : List Rn) : (strOf (numT l).1.text).length = 0 := by
  unfold numT numE
  refine ite_of (p := fun q : Tok × List Rn => (strOf q.1.text).length = 0) (fun _ => rfl) fun _ => ?_
  exact ite_of (p := fun q : Tok × List Rn => (strOf q.1.text).length = 0) (fun _ => rfl) fun _ => rfl
theorem oneT_text (x : Rn) (r : List Rn) : (strOf (oneT (x :: r)).1.text).length ≤ 4 * (x :: r).length := by
  have h0 : ∀ k, (strOf (lexTok k ⟨#[]⟩).text).length ≤ 4 * (x :: r).length := fun k => by show 0 ≤ _; omega
  unfold oneT
  refine ite_of (p := fun q : Tok × List Rn => (strOf q.1.text).length ≤ 4 * (x :: r).length) (fun _ => ?_) fun _ => ?_
  · show (strOf (bstr _)).length ≤ _
    rw [bstr_len]
    have h1 := textF_len (commF ((x :: r).drop 2)).1
    have h2 := commF_len ((x :: r).drop 2)
    have h3 : ((x :: r).drop 2).length ≤ (x :: r).length := by rw [List.length_drop]; omega
    omega
  refine ite_of (p := fun q : Tok × List Rn => (strOf q.1.text).length ≤ 4 * (x :: r).length) (fun _ => ?_) fun _ => ?_
  · refine ite_of (p := fun q : ByteArray => (strOf q).length ≤ 4 * (x :: r).length) (fun _ => ?_) fun _ => ?_
    · show 1 ≤ _; simp only [List.length_cons]; omega
    · show 1 ≤ _; simp only [List.length_cons]; omega
  refine ite_of (p := fun q : Tok × List Rn => (strOf q.1.text).length ≤ 4 * (x :: r).length) (fun _ => quoteT_text x r) fun _ => ?_
  refine ite_of (p := fun q : Tok × List Rn => (strOf q.1.text).length ≤ 4 * (x :: r).length) (fun _ => quoteT_text x r) fun _ => ?_
  have htk : (strOf (bstr (takeF ((x :: r).drop 1)).1)).length ≤ 4 * (x :: r).length := by
    rw [bstr_len]
    have := takeF_len _ r (Nat.le_refl _)
    show (takeF r).1.length ≤ _
    simp only [List.length_cons]; omega
  refine ite_of (p := fun q : Tok × List Rn => (strOf q.1.text).length ≤ 4 * (x :: r).length) (fun _ => htk) fun _ => ?_
  refine ite_of (p := fun q : Tok × List Rn => (strOf q.1.text).length ≤ 4 * (x :: r).length) (fun _ => by rw [numT_text]; omega) fun _ => ?_
  refine ite_of (p := fun q : Tok × List Rn => (strOf q.1.text).length ≤ 4 * (x :: r).length) (fun _ => h0 15) fun _ => ?_
  refine ite_of (p := fun q : Tok × List Rn => (strOf q.1.text).length ≤ 4 * (x :: r).length) (fun _ => h0 14) fun _ => ?_
  refine ite_of (p := fun q : Tok × List Rn => (strOf q.1.text).length ≤ 4 * (x :: r).length) (fun _ => namedT_text _) fun _ => ?_
  refine ite_of (p := fun q : Tok × List Rn => (strOf q.1.text).length ≤ 4 * (x :: r).length) (fun _ => htk) fun _ => ?_
  refine ite_of (p := fun q : Tok × List Rn => (strOf q.1.text).length ≤ 4 * (x :: r).length) (fun _ => ?_) fun _ => h0 _
  show (strOf (bstr _)).length ≤ _
  rw [bstr_len]
  have := textF_len ((x :: r).take 1)
  have : ((x :: r).take 1).length = 1 := rfl
  simp only [List.length_cons]; omega
theorem lexF_text : ∀ (n : Nat) (l : List Rn), l.length ≤ n → (lexF l).length ≤ l.length ∧ ∀ t, t ∈ lexF l → (strOf t.text).length ≤ 4 * n := by
  intro n
  induction n with
  | zero => intro l h; have : l = [] := List.eq_nil_of_length_eq_zero (by omega); subst this; rw [lexF_nil]; exact ⟨by simp, fun t ht => by simp at ht⟩
  | succ n ih =>
    intro l h
    cases l with
    | nil => rw [lexF_nil]; exact ⟨by simp, fun t ht => by simp at ht⟩
    | cons x r =>
      have hlt := oneT_lt x r
      obtain ⟨i1, i2⟩ := ih (oneT (x :: r)).2 (by simp only [List.length_cons] at hlt h; omega)
      rw [lexF_cons]
      refine ⟨by simp only [List.length_cons] at hlt h ⊢; omega, fun t ht => ?_⟩
      rcases List.mem_cons.mp ht with rfl | ht
      · have := oneT_text x r
        show (strOf (oneT (x :: r)).1.text).length ≤ _
        omega
      · have := i2 t ht; omega
end Go.Vx.Seat
end
section
open Go Go.Vx Go.Proofs
namespace Go.Vx.Seat
theorem crlf_suf (r : List Int) : crlf r <:+ r := by
  unfold crlf
  split
  · split
    · exact List.suffix_cons _ _
    · exact List.suffix_refl _
  · exact List.suffix_refl _
theorem runeF_suf (x : Int) (r : List Int) : (runeF x r).2 <:+ r := by
  unfold runeF
  refine ite_of (p := fun q : Int × List Int => q.2 <:+ r) (fun _ => List.suffix_refl _) fun _ => ?_
  refine ite_of (p := fun q : Int × List Int => q.2 <:+ r) (fun _ => List.suffix_refl _) fun _ => ?_
  exact ite_of (p := fun q : Int × List Int => q.2 <:+ r) (fun _ => crlf_suf r) fun _ => List.suffix_refl _
def restF (c : Int) (r : List Int) : Int × List Int := runeF (nextF c r).1 (r.drop ((nextF c r).2 - 1))
theorem restF_suf (c : Int) (r : List Int) : (restF c r).2 <:+ r := (runeF_suf _ _).trans (List.drop_suffix _ _)
theorem runesF_eq (pos : Nat) (c : Int) (r : List Int) : runesF pos (c :: r) = ⟨(restF c r).1, (pos : Nat)⟩ :: runesF (pos + ((c :: r).length - (restF c r).2.length)) (restF c r).2 := by rw [runesF]; rfl
theorem runesF_len : ∀ (n : Nat) (bs : List Int), bs.length ≤ n → ∀ pos, (runesF pos bs).length ≤ bs.length := by
  intro n
  induction n with
  | zero => intro bs h pos; have : bs = [] := List.eq_nil_of_length_eq_zero (by omega); subst this; rw [runesF_nil]; simp
  | succ n ih =>
    intro bs h pos
    cases bs with
    | nil => rw [runesF_nil]; simp
    | cons c r =>
      have h1 := (restF_suf c r).length_le
      have hr : r.length ≤ n := by simpa using h
      rw [runesF_eq]
      have := ih (restF c r).2 (by omega) (pos + ((c :: r).length - (restF c r).2.length))
      simp only [List.length_cons] at this ⊢; omega
def RS (bs : List Int) : List Rn := (runesF 0 bs).map st0
theorem RS_any : ∀ (n : Nat) (bs : List Int), bs.length ≤ n → ∀ p q, (runesF p bs).map st0 = (runesF q bs).map st0 := by
  intro n
  induction n with
  | zero => intro bs h p q; have : bs = [] := List.eq_nil_of_length_eq_zero (by omega); subst this; rw [runesF_nil, runesF_nil]
  | succ n ih =>
    intro bs h p q
    cases bs with
    | nil => rw [runesF_nil, runesF_nil]
    | cons c r =>
      have h1 := (restF_suf c r).length_le
      have hr : r.length ≤ n := by simpa using h
      rw [runesF_eq, runesF_eq, List.map_cons, List.map_cons, ih (restF c r).2 (by omega) _ (q + ((c :: r).length - (restF c r).2.length))]
      rfl
theorem RS_nil : RS [] = [] := by rw [RS, runesF_nil]; rfl
theorem RS_cons (c : Int) (r : List Int) : RS (c :: r) = ⟨(restF c r).1, 0⟩ :: RS (restF c r).2 := by
  rw [RS, runesF_eq, List.map_cons, RS_any _ _ (Nat.le_refl _) _ 0]; rfl
theorem contF_J {c : Int} (b : List Int) (hc : tl c = false) : ∀ (u : List Int) (m : Nat) (y : Int), contF m y (u ++ [c] ++ b) = contF m y (u ++ [c])
  | _, 0, y => rfl
  | [], m + 1, y => by
    show contF (m + 1) y (c :: b) = contF (m + 1) y [c]
    rw [contF_succ, contF_succ, hc]; rfl
  | d :: u, m + 1, y => by
    show contF (m + 1) y (d :: (u ++ [c] ++ b)) = contF (m + 1) y (d :: (u ++ [c]))
    rw [contF_succ, contF_succ, contF_J b hc u m]
theorem nextF_J {c : Int} (b : List Int) (hc : tl c = false) (d : Int) (u : List Int) : nextF d (u ++ [c] ++ b) = nextF d (u ++ [c]) := by
  unfold nextF
  simp only [contF_J b hc]
theorem wrap_byte {c : Int} (h0 : 0 ≤ c) (h1 : c < 256) : wrapK .i64 c = c := wrap_int (by omega) (by omega)
theorem nextE_low {N : Nat} {L y x : Int} {n : Nat} (hL : 128 ≤ L) (h : nextE N L y = (x, n)) : 128 ≤ x := by
  unfold nextE at h
  split at h
  · cases h; decide
  · rename_i h1
    cases h
    simp only [Bool.or_eq_true, not_or] at h1
    have := h1.1
    simp only [Bool.not_eq_true', Bool.not_eq_false] at this
    have := of_leT this
    omega
theorem matchE_low {o : Option Int} {N : Nat} {L x : Int} {n : Nat} (hL : 128 ≤ L) (h : (match o with | some y => nextE N L y | none => (65533, 1)) = (x, n)) : 128 ≤ x := by
  cases o with
  | none => cases h; decide
  | some y => exact nextE_low hL h
theorem next_small {c : Int} {r : List Int} {x : Int} {n : Nat} (h0 : 0 ≤ c) (h1 : c < 256) (h : nextF c r = (x, n)) (hx : x < 128) : c = x ∧ ∀ r', nextF c r' = (x, 1) := by
  unfold nextF at h
  rw [wrap_byte h0 h1] at h
  cases q1 : leI 128 c with
  | false =>
    rw [q1] at h
    simp only [Bool.not_false, if_true] at h
    have e : ∀ r', nextF c r' = nextE 1 0 c := fun r' => by unfold nextF; rw [wrap_byte h0 h1, q1]; rfl
    have e2 : nextE 1 0 c = (c, 1) := by
      unfold nextE
      rw [leI_true (by omega), leI_true (by omega), leI_false (show ¬ (55296 : Int) ≤ c by omega)]; rfl
    have e3 : (x, n) = (c, 1) := by rw [← e2, ← h]; rfl
    cases e3
    exact ⟨rfl, fun r' => (e r').trans e2⟩
  | true =>
    exfalso
    rw [q1] at h
    simp only [Bool.not_true, Bool.false_eq_true, if_false] at h
    have : 128 ≤ x := by
      revert h
      refine ite_of (p := fun q : Int × Nat => q = (x, n) → 128 ≤ x) (fun _ h => by cases h; decide) fun _ => ?_
      refine ite_of (p := fun q : Int × Nat => q = (x, n) → 128 ≤ x) (fun _ h => matchE_low (by decide) h) fun _ => ?_
      refine ite_of (p := fun q : Int × Nat => q = (x, n) → 128 ≤ x) (fun _ h => matchE_low (by decide) h) fun _ => ?_
      exact ite_of (p := fun q : Int × Nat => q = (x, n) → 128 ≤ x) (fun _ h => matchE_low (by decide) h) fun _ h => by cases h; decide
    omega
theorem sp_is {r : Int} (h : spB r = true) : r = 125 ∨ r = 32 ∨ r = 9 ∨ r = 10 := by
  rw [spB, Bool.or_eq_true] at h
  rcases h with h | h
  · exact .inl (of_eqT h)
  · exact .inr (blank_is h)
theorem runeF_sp {x : Int} {r : List Int} (h : spB (runeF x r).1 = true) : x = 125 ∨ x = 32 ∨ x = 9 ∨ x = 10 ∨ x = 12 ∨ x = 13 := by
  unfold runeF at h
  revert h
  refine ite_of (p := fun q : Int × List Int => spB q.1 = true → _) (fun _ h => absurd (show spB 65533 = true from h) (by decide)) fun _ => ?_
  refine ite_of (p := fun q : Int × List Int => spB q.1 = true → _) (fun h _ => by have := of_eqT h; omega) fun _ => ?_
  refine ite_of (p := fun q : Int × List Int => spB q.1 = true → _) (fun h _ => by have := of_eqT h; omega) fun _ h => ?_
  have := sp_is h; omega
theorem runeF_same {x : Int} (h : x ≠ 13) (r b : List Int) : runeF x (r ++ b) = ((runeF x r).1, (runeF x r).2 ++ b) := by
  have e : eqI x 13 = false := eqI_false h
  unfold runeF
  rw [e]
  cases eqI x 0 with
  | true => rfl
  | false => cases eqI x 12 <;> rfl
theorem runeF_13 (r : List Int) : runeF 13 r = (10, crlf r) := rfl
theorem runeF_J {x : Int} {r : List Int} (hr : r ≠ []) (b : List Int) : runeF x (r ++ b) = ((runeF x r).1, (runeF x r).2 ++ b) := by
  by_cases h : x = 13
  · subst h
    cases r with
    | nil => exact absurd rfl hr
    | cons c r' =>
      rw [runeF_13, runeF_13]
      show (10, crlf (c :: (r' ++ b))) = (10, crlf (c :: r') ++ b)
      unfold crlf
      simp only
      cases eqI c 10 <;> rfl
  · exact runeF_same h r b
theorem RS_10 (b : List Int) : RS (10 :: b) = ⟨10, 0⟩ :: RS b := by
  have h : restF 10 b = (10, b) := by
    have : nextF 10 b = (10, 1) := rfl
    rw [restF, this]; rfl
  rw [RS_cons, h]
theorem RS_ne (c : Int) (r : List Int) : RS (c :: r) ≠ [] := by rw [RS_cons]; simp
def InR (bs : List Int) : Prop := ∀ c, c ∈ bs → 0 ≤ c ∧ c < 256
theorem rs_join (b : List Int) : ∀ (n : Nat) (a : List Int), a.length ≤ n → InR a → ∀ z, (RS a).getLast? = some z → spB z.r = true →
    (RS (a ++ b) = RS a ++ RS b ∨ ∃ b', b = 10 :: b' ∧ RS (a ++ b) = RS a ++ RS b') ∧ ∃ u c, a = u ++ [c] ∧ tl c = false := by
  intro n
  induction n with
  | zero => intro a h hin z hz; have : a = [] := List.eq_nil_of_length_eq_zero (by omega); subst this; rw [RS_nil] at hz; cases hz
  | succ n ih =>
    intro a h hin z hz hsp
    cases a with
    | nil => rw [RS_nil] at hz; cases hz
    | cons c r =>
      obtain ⟨hc0, hc1⟩ := hin c (by simp)
      have hr : r.length ≤ n := by simpa using h
      have hsuf := restF_suf c r
      cases hfin : (restF c r).2 with
      | nil =>
        have hra := RS_cons c r
        rw [hfin, RS_nil] at hra
        rw [hra] at hz
        simp only [List.getLast?_singleton, Option.some.injEq] at hz
        have hv : spB (restF c r).1 = true := by rw [← hz] at hsp; exact hsp
        obtain ⟨x, m, hxm⟩ : ∃ x m, nextF c r = (x, m) := ⟨_, _, rfl⟩
        have hx := runeF_sp (x := (nextF c r).1) (r := r.drop ((nextF c r).2 - 1)) hv
        rw [hxm] at hx
        simp only at hx
        obtain ⟨rfl, hany⟩ := next_small hc0 hc1 hxm (by omega)
        have hres : ∀ r', restF c r' = runeF c r' := fun r' => by rw [restF, hany]; rfl
        have htl : tl c = false := by rcases hx with e | e | e | e | e | e <;> (rw [e]; decide)
        by_cases h13 : c = 13
        · subst h13
          rw [hres, runeF_13] at hfin
          simp only at hfin
          cases r with
          | nil =>
            refine ⟨?_, [], 13, rfl, by decide⟩
            cases b with
            | nil => exact .inl (by rw [RS_nil]; simp)
            | cons d b' =>
              by_cases hd : d = 10
              · subst hd
                refine .inr ⟨b', rfl, ?_⟩
                show RS (13 :: 10 :: b') = _
                rw [RS_cons 13 (10 :: b'), RS_cons 13 [], hres, hres, runeF_13, runeF_13, show crlf (10 :: b') = b' from rfl, show crlf [] = [] from rfl, RS_nil]; rfl
              · refine .inl ?_
                have : crlf (d :: b') = d :: b' := by rw [crlf, if_neg (by rw [eqI_false hd]; simp)]
                show RS (13 :: d :: b') = _
                rw [RS_cons 13 (d :: b'), RS_cons 13 [], hres, hres, runeF_13, runeF_13, this, show crlf [] = [] from rfl, RS_nil]; rfl
          | cons d r' =>
            have hd : d = 10 ∧ r' = [] := by
              unfold crlf at hfin
              simp only at hfin
              split at hfin
              · rename_i h1; exact ⟨of_eqT h1, hfin⟩
              · cases hfin
            obtain ⟨rfl, rfl⟩ := hd
            refine ⟨.inl ?_, [13], 10, rfl, by decide⟩
            show RS (13 :: 10 :: b) = _
            rw [RS_cons 13 (10 :: b), RS_cons 13 [10], hres, hres, runeF_13, runeF_13, show crlf (10 :: b) = b from rfl, show crlf [10] = [] from rfl, RS_nil]; rfl
        · have e := runeF_same h13 r []
          have hrn : (runeF c r).2 = r := by
            unfold runeF
            rw [eqI_false h13]
            cases eqI c 0 with
            | true => rfl
            | false => cases eqI c 12 <;> rfl
          rw [hres, hrn] at hfin
          subst hfin
          refine ⟨.inl ?_, [], c, rfl, htl⟩
          show RS (c :: b) = _
          have := runeF_same h13 [] b
          rw [RS_cons c b, RS_cons c [], hres, hres, show b = [] ++ b from rfl, this, hrn, RS_nil]; rfl
      | cons d r2 =>
        have hra := RS_cons c r
        rw [hfin] at hra
        rw [hfin] at hsuf
        have hle : (d :: r2).length ≤ n := by have := hsuf.length_le; omega
        have hz2 : (RS (d :: r2)).getLast? = some z := by
          rw [hra] at hz
          rcases List.eq_nil_or_concat (RS (d :: r2)) with e | ⟨u, w, e⟩
          · exact absurd e (RS_ne _ _)
          · rw [List.concat_eq_append] at e
            rw [e, ← List.cons_append, List.getLast?_concat] at hz
            rw [e, List.getLast?_concat]; exact hz
        obtain ⟨i1, u, c', hu, hc'⟩ := ih _ hle (fun q hq => hin q (by obtain ⟨p, hp⟩ := hsuf; rw [← hp]; simp only [List.mem_cons, List.mem_append] at hq ⊢; exact .inr (.inr hq))) z hz2 hsp
        obtain ⟨p, hp⟩ := hsuf
        have hrr : r = (p ++ u) ++ [c'] := by rw [← hp, hu]; simp
        have hnx : nextF c (r ++ b) = nextF c r := by rw [hrr]; exact nextF_J b hc' c (p ++ u)
        have hdrop : r.drop ((nextF c r).2 - 1) ≠ [] := fun e => by
          have := runeF_suf (nextF c r).1 (r.drop ((nextF c r).2 - 1))
          rw [show (runeF (nextF c r).1 (r.drop ((nextF c r).2 - 1))).2 = d :: r2 from hfin, e] at this
          exact absurd this.length_le (by simp)
        have hlen : (nextF c r).2 - 1 ≤ r.length := by
          rcases Nat.lt_or_ge r.length ((nextF c r).2 - 1) with hh | hh
          · exact absurd (List.drop_eq_nil_of_le (by omega)) hdrop
          · exact hh
        have hrest : restF c (r ++ b) = ((restF c r).1, (d :: r2) ++ b) := by
          rw [restF, hnx, List.drop_append_of_le_length hlen, runeF_J hdrop]
          show ((restF c r).1, (restF c r).2 ++ b) = _
          rw [hfin]
        have hgo : RS ((c :: r) ++ b) = ⟨(restF c r).1, 0⟩ :: RS ((d :: r2) ++ b) := by
          show RS (c :: (r ++ b)) = _
          rw [RS_cons c (r ++ b), hrest]
        refine ⟨?_, c :: (p ++ u), c', by rw [hrr]; rfl, hc'⟩
        rcases i1 with i1 | ⟨b', hb, i1⟩
        · exact .inl (by rw [hgo, hra, i1]; rfl)
        · exact .inr ⟨b', hb, by rw [hgo, hra, i1]; rfl⟩
end Go.Vx.Seat
end
section
open Go Go.Vx Go.Proofs
set_option maxRecDepth 10000
set_option maxHeartbeats 4000000
namespace Go.Vx.Seat
attribute [local irreducible] Rg Rt Ro Ri Rc Rto Rtk Rtf Rti Rw Rl Rd Rcall Rtcall kf
theorem fn25 : nth C1.P.funcs.toList 25 = some Try.f25 := by kernel_rfl
def plOf (o : List Int) (k : Int) : Nat × Bool × Bool := let o1 := if o.getLast? = some k then o.dropLast else o; (o1.length, allBlocks o1, decide (o.getLast? = some k))
def pl (ts : List Tok) (i : Nat) : Nat × Bool × Bool := plOf (openAt ts i) (kindAt ts i)
def ep (p : Nat × Bool × Bool) : List PC := [.d (.int .i64 p.1), .d (.bool p.2.1), .d (.bool p.2.2)]
def zp : List PC := [.d (.int .i64 0), .d (.bool false), .d (.bool false)]
def plTo (ts : List Tok) (i : Nat) : List (List PC) := (List.range i).map (fun j => ep (pl ts j)) ++ List.replicate (ts.length - i) zp
theorem plTo_length {ts : List Tok} {i : Nat} (h : i ≤ ts.length) : (plTo ts i).length = ts.length := by simp [plTo]; omega
theorem plTo_get {ts : List Tok} {i : Nat} (h : i < ts.length) : (plTo ts i)[i]? = some zp := by
  rw [plTo, List.getElem?_append_right (by simp)]
  simp only [List.length_map, List.length_range, Nat.sub_self]
  rw [List.getElem?_replicate, if_pos (by omega)]
theorem plTo_set {ts : List Tok} {i : Nat} (h : i < ts.length) : (plTo ts i).set i (ep (pl ts i)) = plTo ts (i + 1) := by
  rw [plTo, List.set_append_right _ _ (by simp), plTo, List.range_succ, List.map_append, List.append_assoc]
  congr 1
  rw [List.length_map, List.length_range, Nat.sub_self, show ts.length - i = (ts.length - (i + 1)) + 1 by omega, List.replicate_succ]
  rfl
def cnt (o : List Int) : Nat := (o.filter fun k => decide (k ≠ 20)).length
theorem cnt_blocks (o : List Int) : eqI (cnt o : Nat) 0 = allBlocks o := by
  rw [eqI_eq, Bool.eq_iff_iff, decide_eq_true_eq, allBlocks, List.all_eq_true]
  have : ((cnt o : Nat) : Int) = 0 ↔ cnt o = 0 := by omega
  rw [this, cnt, List.length_eq_zero_iff, List.filter_eq_nil_iff]
  simp
theorem cnt_length (o : List Int) : cnt o ≤ o.length := List.length_filter_le _ _
theorem cnt_snoc (o : List Int) (k : Int) : cnt (o ++ [k]) = cnt o + (if k = 20 then 0 else 1) := by
  simp only [cnt, List.filter_append, List.length_append]
  by_cases h : k = 20 <;> simp [h]
theorem snoc_of_last {o : List Int} {k : Int} (h : o.getLast? = some k) : o = o.dropLast ++ [k] := by
  have hne : o ≠ [] := by intro hn; subst hn; cases h
  rw [List.getLast?_eq_some_getLast hne] at h
  rw [← Option.some.inj h, List.dropLast_concat_getLast hne]
theorem open_kinds (ts : List Tok) : ∀ i, ∀ k, k ∈ openAt ts i → k = 20 ∨ k = 22 ∨ k = 24
  | 0, k, h => by simp [openAt] at h
  | i + 1, k, h => by
    unfold openAt at h
    split at h
    · rename_i t _
      unfold nestStep at h
      split at h
      · exact open_kinds ts i k (List.dropLast_subset _ h)
      · split at h
        · rcases List.mem_append.mp h with h | h
          · exact open_kinds ts i k h
          · rw [List.mem_singleton] at h
            subst h
            unfold closes at *
            split
            · omega
            · split
              · omega
              · split
                · omega
                · rename_i hc h1 h2 h3; simp [h1, h2, h3] at hc
        · exact open_kinds ts i k h
    · exact open_kinds ts i k h
theorem closes_shut {k : Int} (h : k = 20 ∨ k = 22 ∨ k = 24) : closes k = 0 := by
  unfold closes
  rw [if_neg (by omega), if_neg (by omega), if_neg (by omega)]
theorem closes_pos (k : Int) : closes k = 0 ∨ closes k > 0 := by
  unfold closes
  split
  · omega
  · split
    · omega
    · split <;> omega
def plE (ts : List Tok) (j : Nat) : List PC := ep (pl ts j)
abbrev rP (ts : List Tok) : PC := .row 3 ((List.range ts.length).map (plE ts))
theorem places_spec (ts : List Tok) (hl : ts.length ≤ 1000000) : PCall C1 25 [.c (.p (rT ts))] fun y => y = .c (.p (rP ts)) := by
  refine Pf (by rfl) (by rfl) fn25 (by rfl) ?_
  simp only [Try.f25, List.length_cons, List.length_nil, List.replicate, List.cons_append, List.nil_append]
  have b0 : ((16 : Nat) : Int) * ((ts.length : Nat) : Int) ≤ 70368744177664 := by omega
  have b1 : ((ts.length : Nat) : Int) ≤ 70368744177664 := by omega
  simp -implicitDefEqProofs only [↓yP, yT, Nat.reduceAdd, b0, b1]
  refine Rl_nil 4 1 (by decide) rfl ?_
  refine Rl_inv (fun d e s => ∃ (i : Nat) (E : List (List PC)), e = [Tp, Tp, Tp, .c (.own 0 3 0 ts.length), .c (.own 1 1 0 (openAt ts i).length), yd (.int .i64 (cnt (openAt ts i))), Tp, Tp, Tp, Tp, Tp, Tp, Tp, .c (.p (rT ts)), yd (.int .i64 ts.length), yd (.int .i64 i), Tp, Tp, Tp, Tp, Tp, Tp, Tp, Tp, Tp, Tp, Tp, Tp, Tp, Tp, Tp, Tp, Tp, Tp, Tp, Tp, Tp, Tp, Tp, Tp, Tp, Tp, Tp, Tp, Tp, Tp, Tp, Tp, Tp, Tp, Tp, Tp, Tp, Tp, Tp, Tp, Tp, Tp, Tp, Tp, Tp, Tp, Tp, Tp, Tp, Tp, Tp, Tp, Tp, Tp, Tp, Tp, Tp, Tp] ∧ s = [.row 3 (plTo ts i), .row 1 E] ∧ i + d = ts.length ∧ (openAt ts i).length ≤ E.length ∧ E.take (openAt ts i).length = (openAt ts i).map ei)
    [false, false, false, true, true, true, false, false, false, false, false, false, false, true, true, true] ts.length [0, 1] (by decide) (pinned_zero _) ⟨0, [], by simp only [yE]; rfl, by simp only [yE]; rfl, by omega, by simp [openAt], by simp [openAt]⟩ ?_
  rintro d e s ⟨i, E, rfl, rfl, hd, hE1, hE2⟩
  have hol := openAt_length ts i
  have hcn := cnt_length (openAt ts i)
  by_cases hi : i < ts.length
  · obtain ⟨t, ht⟩ := get_lt hi
    have hk := kindAt_some ht
    have hsucc := openAt_succ ht
    have t1 : leI (ts.length : Nat) (i : Nat) = false := leI_false (by omega)
    have w1 : wrapK .i64 ((i : Int) + 1) = ((i + 1 : Nat) : Int) := wrap_succ (by omega)
    have hg := plTo_get hi
    have hll := plTo_length (ts := ts) (i := i) (by omega)
    have hsg : ∀ x, ((plTo ts i).set i x)[i]? = some x := fun x => by rw [List.getElem?_set, if_pos rfl, if_pos (by omega)]
    simp -implicitDefEqProofs only [↓yP, yT, Nat.reduceAdd, reduceCtorEq, t1, get_map ht, Tok.pc]
    refine Rd_calm (by rw [C1_P]; kernel_rfl) ?_
    have ilt : ((i : Nat) : Int) < ((ts.length : Nat) : Int) := by omega
    have hset : (plTo ts i).set i (ep (pl ts i)) = plTo ts (i + 1) := plTo_set hi
    rcases hol0 : (openAt ts i).getLast? with _ | c
    · have ho : openAt ts i = [] := by simpa using hol0
      have t2 : leI ((openAt ts i).length : Nat) 0 = true := by rw [ho]; rfl
      have hck : True := trivial
      have hpl : ep (pl ts i) = [.d (.int .i64 ((openAt ts i).length : Nat)), .d (.bool (allBlocks (openAt ts i))), .d (.bool false)] := by
        simp [pl, plOf, ep, hol0]
      rw [hpl] at hset
      simp -implicitDefEqProofs only [↓yP, yT, Nat.reduceAdd, Nat.reduceLeDiff, reduceCtorEq, t2, hg, hsg, zp, cnt_blocks, ilt]
      refine Rcall_pure (closer_spec t.kind) (by rfl) fun y hy => ?_
      subst hy
      rcases closes_pos t.kind with hc | hc
      · have t3 : eqI (closes t.kind) 0 = true := by rw [hc]; rfl
        have hs2 : openAt ts (i + 1) = openAt ts i := by rw [hsucc, nestStep, if_neg (by rw [hol0]; simp []), if_neg (by omega)]
        simp -implicitDefEqProofs only [↓yP, yT, t3, w1]
        refine ⟨d - 1, [0, 1], by omega, by decide, pinned_zero _, i + 1, E, ?_, ?_, by omega, by rw [hs2]; exact hE1, by rw [hs2]; exact hE2⟩
        · simp only [yE, reduceCtorEq, hs2]
        · simp only [yE, hset]
      · have t3 : eqI (closes t.kind) 0 = false := eqI_false (by omega)
        have hs2 : openAt ts (i + 1) = openAt ts i ++ [closes t.kind] := by rw [hsucc, nestStep, if_neg (by rw [hol0]; simp []), if_pos hc]
        have b4 : ((openAt ts i).length + 1) * 8 ≤ 70368744177664 := by omega
        have hE3 : (List.map ei (openAt ts i) ++ [[PC.d (.int .i64 (closes t.kind))]]) = (openAt ts (i + 1)).map ei := by rw [hs2, List.map_append]; rfl
        by_cases c20 : closes t.kind = 20
        · have t4 : eqI (closes t.kind) 20 = true := by rw [c20]; rfl
          simp -implicitDefEqProofs only [↓yP, yT, Nat.reduceAdd, Nat.reduceMul, Nat.reduceLeDiff, reduceCtorEq, t3, t4, w1, hE1, hE2, b4]
          refine ⟨d - 1, [0, 4], by omega, by decide, pinned_zero _, i + 1, List.map ei (openAt ts i) ++ [[PC.d (.int .i64 (closes t.kind))]], ?_, ?_, by omega, ?_, ?_⟩
          · simp only [yE, reduceCtorEq, hs2, cnt_snoc, if_pos c20]
          · simp only [yE, hset]
          · rw [hE3]; simp
          · rw [hE3, take_map_len]
        · have t4 : eqI (closes t.kind) 20 = false := eqI_false c20
          have w4 : wrapK .i64 ((cnt (openAt ts i) : Int) + 1) = ((cnt (openAt ts i) + 1 : Nat) : Int) := wrap_succ (by omega)
          simp -implicitDefEqProofs only [↓yP, yT, Nat.reduceAdd, Nat.reduceMul, Nat.reduceLeDiff, reduceCtorEq, t3, t4, w1, w4, hE1, hE2, b4]
          refine ⟨d - 1, [0, 4], by omega, by decide, pinned_zero _, i + 1, List.map ei (openAt ts i) ++ [[PC.d (.int .i64 (closes t.kind))]], ?_, ?_, by omega, ?_, ?_⟩
          · simp only [yE, reduceCtorEq, hs2, cnt_snoc, if_neg c20]
          · simp only [yE, hset]
          · rw [hE3]; simp
          · rw [hE3, take_map_len]
    · have ho : (openAt ts i).length ≠ 0 := by intro h0; rw [List.length_eq_zero_iff.mp h0] at hol0; cases hol0
      have t2 : leI ((openAt ts i).length : Nat) 0 = false := leI_false (by omega)
      have w2 : wrapK .i64 (((openAt ts i).length : Int) - 1) = (((openAt ts i).length - 1 : Nat) : Int) := wrap_pred (by omega) (by omega)
      have hlast : (openAt ts i)[(openAt ts i).length - 1]? = some c := by rw [← List.getLast?_eq_getElem?]; exact hol0
      have hlE : E[(openAt ts i).length - 1]? = some (ei c) := by
        have h1 := get_map (f := ei) hlast
        rw [← hE2, List.getElem?_take, if_pos (by omega)] at h1; exact h1
      have ilt2 : (((openAt ts i).length - 1 : Nat) : Int) < ((openAt ts i).length : Nat) := by omega
      by_cases hck : c = t.kind
      · subst hck
        have hsn := snoc_of_last hol0
        have hkc := open_kinds ts i t.kind (List.mem_of_getElem? hlast)
        have hl1 : (openAt ts i).dropLast.length = (openAt ts i).length - 1 := by simp
        have l6 : (((openAt ts i).length - 1 : Nat) : Int) ≤ ((openAt ts i).length : Nat) := by omega
        have hs2 : openAt ts (i + 1) = (openAt ts i).dropLast := by rw [hsucc, nestStep, hol0, if_pos rfl]
        have hpl : ep (pl ts i) = [.d (.int .i64 ((openAt ts i).length - 1 : Nat)), .d (.bool (allBlocks (openAt ts i).dropLast)), .d (.bool true)] := by
          simp [pl, plOf, ep, hol0, hk]
        rw [hpl] at hset
        have hcl : closes t.kind = 0 := closes_shut hkc
        have hE3 : E.take ((openAt ts i).length - 1) = (openAt ts i).dropLast.map ei := by
          rw [List.dropLast_eq_take, List.map_take, ← hE2, List.take_take, Nat.min_eq_left (by omega)]
        have hcn2 : cnt (openAt ts i) = cnt (openAt ts i).dropLast + (if t.kind = 20 then 0 else 1) := by
          rw [← cnt_snoc, ← hsn]
        by_cases c20 : t.kind = 20
        · have t4 : eqI t.kind 20 = true := by rw [c20]; rfl
          rw [if_pos c20, Nat.add_zero] at hcn2
          simp -implicitDefEqProofs only [↓yP, yT, Nat.reduceAdd, Nat.reduceLeDiff, reduceCtorEq, t2, hg, hsg, zp, ilt, w2, ilt2, hlE, ei, eqI_true, t4, l6, hcn2, cnt_blocks]
          refine Rcall_pure (closer_spec t.kind) (by rfl) fun y hy => ?_
          subst hy
          have t3 : eqI (closes t.kind) 0 = true := by rw [hcl]; rfl
          simp -implicitDefEqProofs only [↓yP, yT, t3, w1]
          refine ⟨d - 1, [0, 1], by omega, by decide, pinned_zero _, i + 1, E, ?_, ?_, by omega, by rw [hs2, hl1]; omega, by rw [hs2, hl1]; exact hE3⟩
          · simp only [yE, reduceCtorEq, hs2, hl1]
          · simp only [yE, hset]
        · have t4 : eqI t.kind 20 = false := eqI_false c20
          rw [if_neg c20] at hcn2
          have w4 : wrapK .i64 ((((cnt (openAt ts i).dropLast + 1 : Nat)) : Int) - 1) = ((cnt (openAt ts i).dropLast : Nat) : Int) := wrap_pred (by omega) (by omega)
          simp -implicitDefEqProofs only [↓yP, yT, Nat.reduceAdd, Nat.reduceLeDiff, reduceCtorEq, t2, hg, hsg, zp, ilt, w2, ilt2, hlE, ei, eqI_true, t4, l6, hcn2, w4, cnt_blocks]
          refine Rcall_pure (closer_spec t.kind) (by rfl) fun y hy => ?_
          subst hy
          have t3 : eqI (closes t.kind) 0 = true := by rw [hcl]; rfl
          simp -implicitDefEqProofs only [↓yP, yT, t3, w1]
          refine ⟨d - 1, [0, 1], by omega, by decide, pinned_zero _, i + 1, E, ?_, ?_, by omega, by rw [hs2, hl1]; omega, by rw [hs2, hl1]; exact hE3⟩
          · simp only [yE, reduceCtorEq, hs2, hl1]
          · simp only [yE, hset]
      · have e1 : eqI c t.kind = false := eqI_false hck
        have hpl : ep (pl ts i) = [.d (.int .i64 ((openAt ts i).length : Nat)), .d (.bool (allBlocks (openAt ts i))), .d (.bool false)] := by
          simp [pl, plOf, ep, hol0, hk, hck]
        rw [hpl] at hset
        simp -implicitDefEqProofs only [↓yP, yT, Nat.reduceAdd, Nat.reduceLeDiff, reduceCtorEq, t2, hg, hsg, zp, cnt_blocks, ilt, w2, ilt2, hlE, ei, e1]
        refine Rcall_pure (closer_spec t.kind) (by rfl) fun y hy => ?_
        subst hy
        rcases closes_pos t.kind with hc | hc
        · have t3 : eqI (closes t.kind) 0 = true := by rw [hc]; rfl
          have hs2 : openAt ts (i + 1) = openAt ts i := by rw [hsucc, nestStep, if_neg (by rw [hol0]; simp [hck]), if_neg (by omega)]
          simp -implicitDefEqProofs only [↓yP, yT, t3, w1]
          refine ⟨d - 1, [0, 1], by omega, by decide, pinned_zero _, i + 1, E, ?_, ?_, by omega, by rw [hs2]; exact hE1, by rw [hs2]; exact hE2⟩
          · simp only [yE, reduceCtorEq, hs2]
          · simp only [yE, hset]
        · have t3 : eqI (closes t.kind) 0 = false := eqI_false (by omega)
          have hs2 : openAt ts (i + 1) = openAt ts i ++ [closes t.kind] := by rw [hsucc, nestStep, if_neg (by rw [hol0]; simp [hck]), if_pos hc]
          have b4 : ((openAt ts i).length + 1) * 8 ≤ 70368744177664 := by omega
          have hE3 : (List.map ei (openAt ts i) ++ [[PC.d (.int .i64 (closes t.kind))]]) = (openAt ts (i + 1)).map ei := by rw [hs2, List.map_append]; rfl
          by_cases c20 : closes t.kind = 20
          · have t4 : eqI (closes t.kind) 20 = true := by rw [c20]; rfl
            simp -implicitDefEqProofs only [↓yP, yT, Nat.reduceAdd, Nat.reduceMul, Nat.reduceLeDiff, reduceCtorEq, t3, t4, w1, hE1, hE2, b4]
            refine ⟨d - 1, [0, 4], by omega, by decide, pinned_zero _, i + 1, List.map ei (openAt ts i) ++ [[PC.d (.int .i64 (closes t.kind))]], ?_, ?_, by omega, ?_, ?_⟩
            · simp only [yE, reduceCtorEq, hs2, cnt_snoc, if_pos c20]
            · simp only [yE, hset]
            · rw [hE3]; simp
            · rw [hE3, take_map_len]
          · have t4 : eqI (closes t.kind) 20 = false := eqI_false c20
            have w4 : wrapK .i64 ((cnt (openAt ts i) : Int) + 1) = ((cnt (openAt ts i) + 1 : Nat) : Int) := wrap_succ (by omega)
            simp -implicitDefEqProofs only [↓yP, yT, Nat.reduceAdd, Nat.reduceMul, Nat.reduceLeDiff, reduceCtorEq, t3, t4, w1, w4, hE1, hE2, b4]
            refine ⟨d - 1, [0, 4], by omega, by decide, pinned_zero _, i + 1, List.map ei (openAt ts i) ++ [[PC.d (.int .i64 (closes t.kind))]], ?_, ?_, by omega, ?_, ?_⟩
            · simp only [yE, reduceCtorEq, hs2, cnt_snoc, if_neg c20]
            · simp only [yE, hset]
            · rw [hE3]; simp
            · rw [hE3, take_map_len]
  · have t1 : leI (ts.length : Nat) (i : Nat) = true := leI_true (by omega)
    have : i = ts.length := by omega
    subst this
    have hf : plTo ts ts.length = (List.range ts.length).map (plE ts) := by simp [plTo, plE]
    have hl2 : ts.length ≤ (plTo ts ts.length).length := by rw [plTo_length (Nat.le_refl _)]; omega
    have hl3 : (plTo ts ts.length).take ts.length = plTo ts ts.length := List.take_of_length_le (by rw [plTo_length (Nat.le_refl _)]; omega)
    simp -implicitDefEqProofs only [↓yP, yT, reduceCtorEq, t1, hl2, hl3]
    rw [hf]
end Go.Vx.Seat
end
section
open Go Go.Vx Go.Proofs
set_option maxRecDepth 10000
set_option maxHeartbeats 4000000
namespace Go.Vx.Seat
attribute [local irreducible] Rg Rt Ro Ri Rc Rto Rtk Rtf Rti Rw Rl Rd Rcall Rtcall kf
theorem fn42 : nth C1.P.funcs.toList 42 = some Try.f42 := by kernel_rfl
theorem fn26 : nth C1.P.funcs.toList 26 = some Try.f26 := by kernel_rfl
theorem plGet {ts : List Tok} {i : Nat} (h : i < ts.length) : ((List.range ts.length).map (plE ts))[i]? = some [.d (.int .i64 ((pl ts i).1 : Nat)), .d (.bool (pl ts i).2.1), .d (.bool (pl ts i).2.2)] := by simp [h, plE, ep]
def plainFrom (ts : List Tok) (i : Nat) : Nat → Nat → Bool
  | 0, _ => true
  | d + 1, k => if (pl ts k).1 < (pl ts i).1 then true else if (pl ts k).1 = (pl ts i).1 ∧ partK (kindAt ts k) = true then !decide (kindAt ts k = 19) else plainFrom ts i d (k + 1)
def plainAt (ts : List Tok) (i : Nat) : Bool := plainFrom ts i (ts.length - (i + 1)) (i + 1)
theorem pl_le (ts : List Tok) (i : Nat) : (pl ts i).1 ≤ i := by
  have := openAt_length ts i
  unfold pl plOf
  simp only
  split
  · simp; omega
  · exact this
theorem plain_spec (ts : List Tok) (i : Nat) (hl : ts.length ≤ 1000000) (hi : i < ts.length) : PCall C1 42 [.c (.p (rT ts)), .c (.p (rP ts)), yd (.int .i64 i)] fun y => y = yd (.bool (plainAt ts i)) := by
  refine Pf (by rfl) (by rfl) fn42 (by rfl) ?_
  simp only [Try.f42, List.length_cons, List.length_nil, List.replicate, List.cons_append, List.nil_append]
  have w1 : wrapK .i64 ((i : Int) + 1) = ((i + 1 : Nat) : Int) := wrap_succ (by omega)
  simp -implicitDefEqProofs only [↓yP, yT, w1]
  refine Rl_inv (fun d e s => ∃ k : Nat, e = [.c (.p (rT ts)), .c (.p (rP ts)), yd (.int .i64 i), Tp, Tp, Tp, Tp, yd (.int .i64 k), Tp, Tp, Tp, Tp, Tp, Tp, Tp, Tp, Tp, Tp, Tp, Tp, Tp, Tp, Tp, Tp, Tp, Tp, Tp, Tp, Tp, Tp, Tp, Tp, Tp, Tp, Tp, Tp, Tp, Tp, Tp, Tp, Tp, Tp, Tp, Tp, Tp, Tp, Tp, Tp, Tp, Tp, Tp, Tp, Tp] ∧ s = [] ∧ k + d = ts.length ∧ plainFrom ts i d k = plainAt ts i) [true, true, true, false, false, false, false, true] (ts.length - (i + 1)) [] (by decide) (pinned_zero _)
    ⟨i + 1, by simp only [yE], rfl, by omega, rfl⟩ ?_
  rintro d e s ⟨k, rfl, rfl, hd, hp⟩
  have hli := pl_le ts i
  by_cases hk : k < ts.length
  · obtain ⟨t, ht⟩ := get_lt hk
    have hkk := kindAt_some ht
    have hlk := pl_le ts k
    have t1 : leI (ts.length : Nat) (k : Nat) = false := leI_false (by omega)
    have w2 : wrapK .i64 ((k : Int) + 1) = ((k + 1 : Nat) : Int) := wrap_succ (by omega)
    have hd1 : d = (d - 1) + 1 := by omega
    simp -implicitDefEqProofs only [↓yP, yT, t1]
    refine Rd_calm (by rw [C1_P]; kernel_rfl) ?_
    by_cases c1 : (pl ts k).1 < (pl ts i).1
    · have t2 : leI ((pl ts i).1 : Nat) ((pl ts k).1 : Nat) = false := leI_false (by omega)
      simp -implicitDefEqProofs only [↓yP, yT, Nat.reduceAdd, reduceCtorEq, plGet hk, plGet hi, t2]
      rw [← hp, hd1, plainFrom, if_pos c1]
    have t2 : leI ((pl ts i).1 : Nat) ((pl ts k).1 : Nat) = true := leI_true (by omega)
    simp -implicitDefEqProofs only [↓yP, yT, Nat.reduceAdd, reduceCtorEq, plGet hk, plGet hi, t2]
    refine Rd_calm (by rw [C1_P]; kernel_rfl) ?_
    by_cases c2 : (pl ts k).1 = (pl ts i).1
    · have t3 : eqI ((pl ts k).1 : Nat) ((pl ts i).1 : Nat) = true := by rw [c2]; exact eqI_true _
      simp -implicitDefEqProofs only [↓yP, yT, Nat.reduceAdd, reduceCtorEq, plGet hk, plGet hi, t3, get_map ht, Tok.pc]
      refine Rcall_pure (cpart_spec t) (by rfl) fun y hy => ?_
      subst hy
      cases hpk : partK t.kind with
      | true =>
        by_cases q1 : t.kind = 19
        · have f1 : eqI t.kind 19 = true := by rw [q1]; rfl
          simp -implicitDefEqProofs only [↓yP, yT, Nat.reduceAdd, reduceCtorEq, get_map ht, Tok.pc, f1]
          rw [← hp, hd1, plainFrom, if_neg c1, if_pos ⟨c2, by rw [hkk]; exact hpk⟩, hkk]
          simp [q1]
        · have f1 : eqI t.kind 19 = false := eqI_false q1
          simp -implicitDefEqProofs only [↓yP, yT, Nat.reduceAdd, reduceCtorEq, get_map ht, Tok.pc, f1]
          rw [← hp, hd1, plainFrom, if_neg c1, if_pos ⟨c2, by rw [hkk]; exact hpk⟩, hkk]
          simp [q1]
      | false =>
        simp -implicitDefEqProofs only [↓yP, yT, w2]
        refine ⟨d - 1, [], by omega, by decide, pinned_zero _, k + 1, ?_, rfl, by omega, ?_⟩
        · simp only [yE]
        · rw [← hp, hd1, plainFrom, if_neg c1, if_neg (by rw [hkk, hpk]; simp)]; rfl
    · have t3 : eqI ((pl ts k).1 : Nat) ((pl ts i).1 : Nat) = false := eqI_false (by omega)
      simp -implicitDefEqProofs only [↓yP, yT, Nat.reduceAdd, reduceCtorEq, plGet hk, plGet hi, t3, w2]
      refine ⟨d - 1, [], by omega, by decide, pinned_zero _, k + 1, ?_, rfl, by omega, ?_⟩
      · simp only [yE]
      · rw [← hp, hd1, plainFrom, if_neg c1, if_neg (by simp [c2])]; rfl
  · have t1 : leI (ts.length : Nat) (k : Nat) = true := leI_true (by omega)
    have hd0 : d = 0 := by omega
    simp -implicitDefEqProofs only [↓yP, yT, reduceCtorEq, t1]
    rw [← hp, hd0, plainFrom]
def since (ts : List Tok) : Nat → Nat × Bool
  | 0 => (0, false)
  | i + 1 => if quiet (kindAt ts i) = true then since ts i else if partK (kindAt ts i) = true ∧ (pl ts i).2.1 = true then (0, (since ts i).2) else ((since ts i).1 + 1, decide (kindAt ts i = 1))
theorem since_le (ts : List Tok) : ∀ i, (since ts i).1 ≤ i
  | 0 => by simp [since]
  | i + 1 => by
    have := since_le ts i
    unfold since
    split
    · omega
    · split
      · simp
      · simp; omega
def isColon (ts : List Tok) (i : Nat) : Bool := decide (kindAt ts i = 16) && (pl ts i).2.1 && decide (0 < (pl ts i).1) && decide ((since ts i).1 = 1) && (since ts i).2 && plainAt ts i
def colonsP (ts : List Tok) (n : Nat) : List Int := ((List.range n).filter (isColon ts)).map fun i : Nat => (i : Int)
theorem colonsP_yes {ts : List Tok} {n : Nat} (h : isColon ts n = true) : colonsP ts (n + 1) = colonsP ts n ++ [(n : Int)] := by simp [colonsP, List.range_succ, h]
theorem colonsP_no {ts : List Tok} {n : Nat} (h : isColon ts n = false) : colonsP ts (n + 1) = colonsP ts n := by simp [colonsP, List.range_succ, h]
theorem colonsP_length (ts : List Tok) (n : Nat) : (colonsP ts n).length ≤ n := by
  have := List.length_filter_le (isColon ts) (List.range n)
  simpa [colonsP] using this
theorem colonsP_spec (ts : List Tok) (hl : ts.length ≤ 1000000) : PCall C1 26 [.c (.p (rT ts))] fun y => y = .c (.p (rI (colonsP ts ts.length))) := by
  refine Pf (by rfl) (by rfl) fn26 (by rfl) ?_
  simp only [Try.f26, List.length_cons, List.length_nil, List.replicate, List.cons_append, List.nil_append]
  simp -implicitDefEqProofs only [↓yP, yT]
  refine Rcall_pure (places_spec ts hl) (by rfl) fun y hy => ?_
  subst hy
  simp -implicitDefEqProofs only [↓yP, yT]
  refine Rl_nil 4 1 (by decide) rfl ?_
  refine Rl_inv (fun d e s => ∃ i : Nat, e = [.c (.p (rT ts)), Tp, Tp, .c (.p (rP ts)), .c (.own 0 1 0 (colonsP ts i).length), yd (.int .i64 (since ts i).1), yd (.bool (since ts i).2), Tp, Tp, Tp, Tp, .c (.p (rT ts)), yd (.int .i64 ts.length), yd (.int .i64 i), Tp, Tp, Tp, Tp, Tp, Tp, Tp, Tp, Tp, Tp, Tp, Tp, Tp, Tp, Tp, Tp, Tp, Tp, Tp, Tp, Tp, Tp, Tp, Tp, Tp, Tp, Tp, Tp, Tp, Tp, Tp, Tp, Tp, Tp, Tp, Tp, Tp, Tp, Tp, Tp, Tp, Tp, Tp, Tp, Tp, Tp, Tp, Tp, Tp, Tp, Tp, Tp, Tp, Tp, Tp, Tp, Tp, Tp, Tp, Tp] ∧ s = [.row 1 ((colonsP ts i).map ei)] ∧ i + d = ts.length)
    [true, false, false, true, true, true, true, false, false, false, false, true, true, true] ts.length [0] (by decide) (pinned_zero _) ⟨0, by simp only [yE]; rfl, by simp only [yE]; rfl, by omega⟩ ?_
  rintro d e s ⟨i, rfl, rfl, hd⟩
  by_cases hi : i < ts.length
  · obtain ⟨t, ht⟩ := get_lt hi
    have hk := kindAt_some ht
    have hli := pl_le ts i
    have hsl := since_le ts i
    have hcl := colonsP_length ts i
    have bcol : ((colonsP ts i).length + 1) * 8 ≤ 70368744177664 := by omega
    have t1 : leI (ts.length : Nat) (i : Nat) = false := leI_false (by omega)
    have w1 : wrapK .i64 ((i : Int) + 1) = ((i + 1 : Nat) : Int) := wrap_succ (by omega)
    have w3 : wrapK .i64 (((since ts i).1 : Int) + 1) = (((since ts i).1 + 1 : Nat) : Int) := wrap_succ (by omega)
    simp -implicitDefEqProofs only [↓yP, yT, Nat.reduceAdd, reduceCtorEq, t1, get_map ht, Tok.pc]
    refine Rcall_pure (blank_spec t) (by rfl) fun y hy => ?_
    subst hy
    cases hq : quiet t.kind with
    | true =>
      have hno : isColon ts i = false := by
        simp only [quiet, Bool.or_eq_true, decide_eq_true_eq] at hq
        have : t.kind ≠ 16 := by omega
        simp [isColon, hk, this]
      have hsin : since ts (i + 1) = since ts i := by rw [since, hk, if_pos hq]
      simp -implicitDefEqProofs only [↓yP, yT, Nat.reduceEqDiff, w1]
      refine ⟨d - 1, [0], by omega, by decide, pinned_zero _, i + 1, ?_, ?_, by omega⟩
      · simp only [yE, colonsP_no hno, hsin]
      · simp only [yE, colonsP_no hno]
    | false =>
      have hq' : ¬ quiet (kindAt ts i) = true := by rw [hk, hq]; simp
      simp -implicitDefEqProofs only [↓yP, yT, Nat.reduceAdd]
      refine Rcall_pure (cpart_spec t) (by rfl) fun y hy => ?_
      subst hy
      by_cases hpb : partK t.kind = true ∧ (pl ts i).2.1 = true
      · obtain ⟨hp1, hp2⟩ := hpb
        have hno : isColon ts i = false := by
          simp only [partK, Bool.or_eq_true, decide_eq_true_eq] at hp1
          have : t.kind ≠ 16 := by omega
          simp [isColon, hk, this]
        have hsin : since ts (i + 1) = (0, (since ts i).2) := by rw [since, if_neg hq', hk, if_pos ⟨hp1, hp2⟩]
        simp -implicitDefEqProofs only [↓yP, yT, Nat.reduceAdd, Nat.reduceLeDiff, Nat.reduceEqDiff, reduceCtorEq, hp1, plGet hi, hp2, w1]
        refine ⟨d - 1, [0], by omega, by decide, pinned_zero _, i + 1, ?_, ?_, by omega⟩
        · simp only [yE, colonsP_no hno, hsin]
          rfl
        · simp only [yE, colonsP_no hno]
      · have hsin : since ts (i + 1) = ((since ts i).1 + 1, decide (t.kind = 1)) := by rw [since, if_neg hq', hk, if_neg hpb]
        cases hp1 : partK t.kind with
        | true =>
          have hp2 : (pl ts i).2.1 = false := by
            cases hb : (pl ts i).2.1 with
            | false => rfl
            | true => exact absurd ⟨hp1, hb⟩ hpb
          have k16 : t.kind ≠ 16 := by
            simp only [partK, Bool.or_eq_true, decide_eq_true_eq] at hp1
            omega
          have f1 : eqI t.kind 16 = false := eqI_false k16
          have hno : isColon ts i = false := by simp [isColon, hk, k16]
          simp -implicitDefEqProofs only [↓yP, yT, Nat.reduceAdd, Nat.reduceLeDiff, reduceCtorEq, plGet hi, hp2, f1]
          refine Rd_calm (by rw [C1_P]; kernel_rfl) ?_
          simp -implicitDefEqProofs only [↓yP, yT, w1, w3]
          refine ⟨d - 1, [0], by omega, by decide, pinned_zero _, i + 1, ?_, ?_, by omega⟩
          · simp only [yE, colonsP_no hno, hsin, eqI_eq]
          · simp only [yE, colonsP_no hno]
        | false =>
          by_cases k16 : t.kind = 16
          · have f1 : eqI t.kind 16 = true := by rw [k16]; rfl
            cases hb : (pl ts i).2.1 with
            | false =>
              have hno : isColon ts i = false := by simp [isColon, hb]
              simp -implicitDefEqProofs only [↓yP, yT, Nat.reduceAdd, Nat.reduceLeDiff, reduceCtorEq, plGet hi, hb, f1]
              refine Rd_calm (by rw [C1_P]; kernel_rfl) ?_
              simp -implicitDefEqProofs only [↓yP, yT, w1, w3]
              refine ⟨d - 1, [0], by omega, by decide, pinned_zero _, i + 1, ?_, ?_, by omega⟩
              · simp only [yE, colonsP_no hno, hsin, eqI_eq]
              · simp only [yE, colonsP_no hno]
            | true =>
              by_cases hd0 : 0 < (pl ts i).1
              · have f2 : leI ((pl ts i).1 : Nat) 0 = false := leI_false (by omega)
                by_cases hn1 : (since ts i).1 = 1
                · have f3 : eqI ((since ts i).1 : Nat) 1 = true := by rw [hn1]; rfl
                  cases hid : (since ts i).2 with
                  | false =>
                    have hno : isColon ts i = false := by simp [isColon, hid]
                    simp -implicitDefEqProofs only [↓yP, yT, Nat.reduceAdd, Nat.reduceLeDiff, reduceCtorEq, plGet hi, hb, f1, f2, f3]
                    refine Rd_calm (by rw [C1_P]; kernel_rfl) ?_
                    simp -implicitDefEqProofs only [↓yP, yT, w1, w3]
                    refine ⟨d - 1, [0], by omega, by decide, pinned_zero _, i + 1, ?_, ?_, by omega⟩
                    · simp only [yE, colonsP_no hno, hsin, eqI_eq]
                    · simp only [yE, colonsP_no hno]
                  | true =>
                    simp -implicitDefEqProofs only [↓yP, yT, Nat.reduceAdd, Nat.reduceLeDiff, reduceCtorEq, plGet hi, hb, f1, f2, f3]
                    refine Rcall_pure (plain_spec ts i hl hi) (by rfl) fun y hy => ?_
                    subst hy
                    cases hpl : plainAt ts i with
                    | false =>
                      have hno : isColon ts i = false := by simp [isColon, hpl]
                      simp -implicitDefEqProofs only [↓yP, yT]
                      refine Rd_calm (by rw [C1_P]; kernel_rfl) ?_
                      simp -implicitDefEqProofs only [↓yP, yT, w1, w3]
                      refine ⟨d - 1, [0], by omega, by decide, pinned_zero _, i + 1, ?_, ?_, by omega⟩
                      · simp only [yE, colonsP_no hno, hsin, eqI_eq]
                      · simp only [yE, colonsP_no hno]
                    | true =>
                      have hyes : isColon ts i = true := by simp [isColon, hk, k16, hb, hd0, hn1, hid, hpl]
                      simp -implicitDefEqProofs only [↓yP, yT, Nat.reduceAdd, Nat.reduceMul, Nat.reduceLeDiff, reduceCtorEq, bcol]
                      refine Rd_calm (by rw [C1_P]; kernel_rfl) ?_
                      simp -implicitDefEqProofs only [↓yP, yT, w1, w3]
                      refine ⟨d - 1, [3], by omega, by decide, pinned_zero _, i + 1, ?_, ?_, by omega⟩
                      · simp only [yE, colonsP_yes hyes, hsin, eqI_eq]
                      · simp only [yE, colonsP_yes hyes, List.map_append, ei]
                · have f3 : eqI ((since ts i).1 : Nat) 1 = false := eqI_false (by omega)
                  have hno : isColon ts i = false := by simp [isColon, hn1]
                  simp -implicitDefEqProofs only [↓yP, yT, Nat.reduceAdd, Nat.reduceLeDiff, reduceCtorEq, plGet hi, hb, f1, f2, f3]
                  refine Rd_calm (by rw [C1_P]; kernel_rfl) ?_
                  simp -implicitDefEqProofs only [↓yP, yT, w1, w3]
                  refine ⟨d - 1, [0], by omega, by decide, pinned_zero _, i + 1, ?_, ?_, by omega⟩
                  · simp only [yE, colonsP_no hno, hsin, eqI_eq]
                  · simp only [yE, colonsP_no hno]
              · have f2 : leI ((pl ts i).1 : Nat) 0 = true := leI_true (by omega)
                have hno : isColon ts i = false := by simp [isColon, hd0]
                simp -implicitDefEqProofs only [↓yP, yT, Nat.reduceAdd, Nat.reduceLeDiff, reduceCtorEq, plGet hi, hb, f1, f2]
                refine Rd_calm (by rw [C1_P]; kernel_rfl) ?_
                simp -implicitDefEqProofs only [↓yP, yT, w1, w3]
                refine ⟨d - 1, [0], by omega, by decide, pinned_zero _, i + 1, ?_, ?_, by omega⟩
                · simp only [yE, colonsP_no hno, hsin, eqI_eq]
                · simp only [yE, colonsP_no hno]
          · have f1 : eqI t.kind 16 = false := eqI_false k16
            have hno : isColon ts i = false := by simp [isColon, hk, k16]
            simp -implicitDefEqProofs only [↓yP, yT, f1]
            refine Rd_calm (by rw [C1_P]; kernel_rfl) ?_
            simp -implicitDefEqProofs only [↓yP, yT, w1, w3]
            refine ⟨d - 1, [0], by omega, by decide, pinned_zero _, i + 1, ?_, ?_, by omega⟩
            · simp only [yE, colonsP_no hno, hsin, eqI_eq]
            · simp only [yE, colonsP_no hno]
  · have t1 : leI (ts.length : Nat) (i : Nat) = true := leI_true (by omega)
    have : i = ts.length := by omega
    subst this
    simp -implicitDefEqProofs only [↓yP, yT, reduceCtorEq, t1]
end Go.Vx.Seat
end
section
open Go Go.Vx Go.Proofs
namespace Go.Vx.Seat
def Shuts (k : Int) : Prop := k = 22 ∨ k = 24 ∨ k = 20
theorem closes_shuts {k : Int} (h : closes k > 0) : Shuts (closes k) := by
  unfold closes at h ⊢
  unfold Shuts
  split
  · simp
  · split
    · simp
    · split
      · simp
      · simp_all
theorem closes_20 {k : Int} (h : closes k = 20) : k = 19 := by
  unfold closes at h
  split at h
  · omega
  · split at h
    · omega
    · split at h <;> omega
theorem openAt_shuts (ts : List Tok) : ∀ (i : Nat) (k : Int), k ∈ openAt ts i → Shuts k
  | 0, k, h => by simp [openAt] at h
  | i + 1, k, h => by
    have ih := openAt_shuts ts i k
    unfold openAt at h
    split at h
    · unfold nestStep at h
      split at h
      · exact ih ((List.dropLast_sublist _).subset h)
      · split at h
        · rename_i hc
          rcases List.mem_append.mp h with h | h
          · exact ih h
          · rw [List.mem_singleton.mp h]; exact closes_shuts hc
        · exact ih h
    · exact ih h
theorem last_shuts {ts : List Tok} {i : Nat} {k : Int} (h : (openAt ts i).getLast? = some k) : Shuts k := openAt_shuts ts i k (List.mem_of_getLast? h)
theorem blocks_mem {o : List Int} (h : allBlocks o = true) {k : Int} (hk : k ∈ o) : k = 20 := by
  have := List.all_eq_true.mp h k hk
  simpa using this
theorem blocks_last {o : List Int} (h : allBlocks o = true) (hn : 0 < o.length) : o.getLast? = some 20 := by
  cases hl : o.getLast? with
  | none => rw [List.getLast?_eq_none_iff.mp hl] at hn; simp at hn
  | some a => rw [blocks_mem h (List.mem_of_getLast? hl)]
def Above (ts : List Tok) (o : List Int) (k : Nat) : Prop := ∃ rest, openAt ts k = o ++ rest ∧ rest.head? ≠ some 20
theorem Above.same {ts : List Tok} {o : List Int} {k : Nat} (h : openAt ts k = o) : Above ts o k := ⟨[], by simp [h], by simp⟩
theorem Above.len {ts : List Tok} {o : List Int} {k : Nat} (h : Above ts o k) : o.length ≤ (openAt ts k).length := by
  obtain ⟨r, h1, _⟩ := h; rw [h1]; simp
theorem Above.eq {ts : List Tok} {o : List Int} {k : Nat} (h : Above ts o k) (hl : (openAt ts k).length = o.length) : openAt ts k = o := by
  obtain ⟨r, h1, _⟩ := h
  rw [h1] at hl ⊢
  have : r = [] := by cases r with | nil => rfl | cons a r => simp at hl
  simp [this]
theorem Above.blocks {ts : List Tok} {o : List Int} {k : Nat} (h : Above ts o k) (hb : allBlocks (openAt ts k) = true) : openAt ts k = o := by
  obtain ⟨r, h1, h2⟩ := h
  cases r with
  | nil => simpa using h1
  | cons a r => exact absurd (by rw [List.head?_cons, blocks_mem hb (k := a) (by rw [h1]; simp)]) h2
def stopD (ts : List Tok) (n k : Nat) : Prop := (openAt ts k).length = n ∧ (kindAt ts k = 19 ∨ (kindAt ts k = 20 ∧ 0 < n))
theorem getLast_app {o r : List Int} (h : r ≠ []) : (o ++ r).getLast? = r.getLast? := by
  rw [List.getLast?_append]; cases hr : r.getLast? with
  | none => exact absurd (List.getLast?_eq_none_iff.mp hr) h
  | some a => rfl
theorem Above.step {ts : List Tok} {o : List Int} {k : Nat} (h : Above ts o k) (hb : allBlocks o = true) (hk : k < ts.length) (hs : ¬ stopD ts o.length k) : Above ts o (k + 1) := by
  obtain ⟨r, h1, h2⟩ := h
  have ht : ts[k]? = some ts[k] := List.getElem?_eq_getElem hk
  have hkk := kindAt_some ht
  unfold stopD at hs
  rw [Above, openAt_succ ht, ← hkk]
  generalize kindAt ts k = K at hs
  rw [h1] at hs ⊢
  unfold nestStep
  cases r with
  | nil =>
    simp only [List.append_nil] at hs ⊢
    split
    · rename_i hl
      have hm := blocks_mem hb (List.mem_of_getLast? hl)
      have : 0 < o.length := List.length_pos_of_mem (List.mem_of_getLast? hl)
      exact absurd ⟨by simp, .inr ⟨hm, this⟩⟩ hs
    · split
      · refine ⟨[closes K], rfl, fun h => ?_⟩
        have : closes K = 20 := by simpa using h
        exact hs ⟨by simp, .inl (closes_20 this)⟩
      · exact ⟨[], by simp, by simp⟩
  | cons a r =>
    split
    · refine ⟨(a :: r).dropLast, by rw [List.dropLast_append_of_ne_nil (by simp)], ?_⟩
      cases r with
      | nil => simp
      | cons b r => simpa using h2
    · split
      · exact ⟨a :: r ++ [closes K], by simp, by simpa using h2⟩
      · exact ⟨a :: r, rfl, h2⟩
theorem pl_closes {ts : List Tok} {k : Nat} (h : (openAt ts k).getLast? = some (kindAt ts k)) : (pl ts k).1 = (openAt ts k).length - 1 := by
  simp [pl, plOf, h]
theorem pl_open {ts : List Tok} {k : Nat} (h : ¬ (openAt ts k).getLast? = some (kindAt ts k)) : pl ts k = ((openAt ts k).length, allBlocks (openAt ts k), false) := by
  simp [pl, plOf, h]
theorem Above.lt {ts : List Tok} {o : List Int} {k : Nat} (h : Above ts o k) (hb : allBlocks o = true) : (pl ts k).1 < o.length ↔ (openAt ts k).length = o.length ∧ kindAt ts k = 20 ∧ 0 < o.length := by
  have hl := h.len
  by_cases hc : (openAt ts k).getLast? = some (kindAt ts k)
  · rw [pl_closes hc]
    constructor
    · intro h1
      have h2 : (openAt ts k).length = o.length := by omega
      have h3 := h.eq h2
      rw [h3] at hc
      exact ⟨h2, blocks_mem hb (List.mem_of_getLast? hc), List.length_pos_of_mem (List.mem_of_getLast? hc)⟩
    · rintro ⟨h1, h2, h3⟩
      omega
  · rw [pl_open hc]
    constructor
    · intro h1; simp only at h1; omega
    · rintro ⟨h1, h2, h3⟩
      rw [h.eq h1, h2] at hc
      exact absurd (blocks_last hb h3) hc
theorem Above.part {ts : List Tok} {o : List Int} {k : Nat} (h : Above ts o k) (hb : allBlocks o = true) (hn : ¬ (pl ts k).1 < o.length) : ((pl ts k).1 = o.length ∧ partK (kindAt ts k) = true) ↔ ((openAt ts k).length = o.length ∧ partK (kindAt ts k) = true) := by
  by_cases hc : (openAt ts k).getLast? = some (kindAt ts k)
  · have hp := pl_closes hc
    obtain ⟨r, h1, h2⟩ := h
    have hsh := last_shuts hc
    have hlen : (openAt ts k).length = o.length + r.length := by rw [h1]; simp
    cases r with
    | nil =>
      exfalso
      have : 0 < (openAt ts k).length := List.length_pos_of_mem (List.mem_of_getLast? hc)
      simp at hlen
      omega
    | cons a r =>
      constructor
      · rintro ⟨h3, h4⟩
        exfalso
        have hr : r = [] := by
          cases r with
          | nil => rfl
          | cons b r => simp at hlen; omega
        subst hr
        rw [h1, getLast_app (by simp)] at hc
        simp at hc h2
        rcases hsh with h | h | h
        · rw [h] at h4; simp [partK] at h4
        · rw [h] at h4; simp [partK] at h4
        · rw [h] at hc; exact h2 hc
      · rintro ⟨h3, h4⟩
        simp at hlen; omega
  · rw [pl_open hc]
theorem not_last {ts : List Tok} {i : Nat} {k : Int} (h : ¬ Shuts k) : ¬ (openAt ts i).getLast? = some k := fun hl => h (last_shuts hl)
theorem plain_behind {ts : List Tok} {i : Nat} (hb : allBlocks (openAt ts i) = true) (hp : (pl ts i).1 = (openAt ts i).length) : ∀ (d k : Nat), k + d = ts.length → Above ts (openAt ts i) k → plainFrom ts i d k = behind ts i d k
  | 0, k, _, _ => by rw [plainFrom, behind]
  | d + 1, k, hd, ha => by
    rw [plainFrom, behind, hp]
    by_cases h1 : (pl ts k).1 < (openAt ts i).length
    · obtain ⟨h2, h3, h4⟩ := (ha.lt hb).mp h1
      rw [if_pos h1, if_pos ⟨h2, by rw [h3]; rfl⟩, h3]; rfl
    · rw [if_neg h1]
      by_cases h2 : (openAt ts k).length = (openAt ts i).length ∧ partK (kindAt ts k) = true
      · rw [if_pos ((ha.part hb h1).mpr h2), if_pos h2]
      · rw [if_neg fun h => h2 ((ha.part hb h1).mp h), if_neg h2]
        refine plain_behind hb hp d (k + 1) (by omega) (ha.step hb (by omega) ?_)
        rintro ⟨h3, h4⟩
        refine h2 ⟨h3, ?_⟩
        rcases h4 with h4 | h4
        · rw [h4]; rfl
        · rw [h4.1]; rfl
theorem part_at (ts : List Tok) (i : Nat) : (partK (kindAt ts i) = true ∧ (pl ts i).2.1 = true) ↔ partAt ts i = true := by
  rw [partAt, Bool.and_eq_true]
  refine and_congr_right fun hp => ?_
  by_cases hc : (openAt ts i).getLast? = some (kindAt ts i)
  · have hsh := last_shuts hc
    have h20 : kindAt ts i = 20 := by
      rcases hsh with h | h | h
      · rw [h] at hp; simp [partK] at hp
      · rw [h] at hp; simp [partK] at hp
      · exact h
    rw [h20] at hc
    have hd : openAt ts i = (openAt ts i).dropLast ++ [20] := by
      obtain ⟨ys, hy⟩ := List.getLast?_eq_some_iff.mp hc
      rw [hy, List.dropLast_concat]
    simp only [pl, plOf, h20, hc, if_pos]
    conv => rhs; rw [hd]
    simp [allBlocks]
  · rw [pl_open hc]
theorem back_add (ts : List Tok) : ∀ (n a b : Nat), back ts n a b = (a + (back ts n 0 0).1, b + (back ts n 0 0).2)
  | 0, a, b => by simp [back]
  | n + 1, a, b => by
    unfold back
    split
    · simp
    · split
      · exact back_add ts n a b
      · split
        · rw [back_add ts n (a + 1) b, back_add ts n (0 + 1) 0]; simp; omega
        · rw [back_add ts n a (b + 1), back_add ts n 0 (0 + 1)]; simp; omega
theorem since_back (ts : List Tok) : ∀ n : Nat, (since ts n).1 = (back ts n 0 0).1 + (back ts n 0 0).2 ∧ ((since ts n).1 = 1 → ((since ts n).2 = true ↔ (back ts n 0 0).1 = 1))
  | 0 => by simp [since, back]
  | n + 1 => by
    obtain ⟨h1, h2⟩ := since_back ts n
    have hp := part_at ts n
    unfold since back
    by_cases hq : quiet (kindAt ts n) = true
    · have hno : ¬ partAt ts n = true := by
        rw [partAt, Bool.and_eq_true]
        rintro ⟨h3, _⟩
        simp [quiet] at hq
        rcases hq with h | h <;> rw [h] at h3 <;> simp [partK] at h3
      rw [if_pos hq, if_neg hno, if_pos hq]
      exact ⟨h1, h2⟩
    · rw [if_neg hq]
      by_cases hpa : partAt ts n = true
      · rw [if_pos (hp.mpr hpa), if_pos hpa]; simp
      · rw [if_neg fun h => hpa (hp.mp h), if_neg hpa, if_neg hq]
        by_cases h3 : kindAt ts n = 1
        · rw [if_pos h3, back_add]; simp [h3]; omega
        · rw [if_neg h3, back_add]; simp [h3]; omega
theorem colon_same (ts : List Tok) {i : Nat} (hi : i < ts.length) : isColon ts i = docColon ts i := by
  rw [Bool.eq_iff_iff, isColon, docColon]
  simp only [Bool.and_eq_true, decide_eq_true_eq]
  by_cases hk : kindAt ts i = 16
  · have hno : ¬ (openAt ts i).getLast? = some (kindAt ts i) := not_last (by rw [hk]; simp [Shuts])
    have hpl := pl_open hno
    obtain ⟨s1, s2⟩ := since_back ts i
    rw [hpl]
    simp only
    by_cases hb : allBlocks (openAt ts i) = true
    · have h1 : plainAt ts i = behind ts i (ts.length - (i + 1)) (i + 1) := by
        refine plain_behind hb (by rw [hpl]) _ _ (by omega) ((Above.same rfl).step hb hi ?_)
        rintro ⟨_, h⟩
        rw [hk] at h; simp at h
      rw [h1]
      constructor
      · rintro ⟨⟨⟨⟨⟨_, _⟩, h2⟩, h3⟩, h4⟩, h5⟩
        have h6 := (s2 h3).mp h4
        refine ⟨⟨⟨⟨hk, by omega⟩, hb⟩, ?_⟩, h5⟩
        exact Prod.ext h6 (by simp only; omega)
      · rintro ⟨⟨⟨⟨_, h2⟩, _⟩, h3⟩, h5⟩
        rw [h3] at s1 s2
        have h4 : (since ts i).1 = 1 := by simpa using s1
        exact ⟨⟨⟨⟨⟨hk, hb⟩, by omega⟩, h4⟩, (s2 h4).mpr rfl⟩, h5⟩
    · simp [hb]
  · simp [hk]
theorem colons_same (ts : List Tok) : colonsP ts ts.length = colonsTo ts ts.length := by
  rw [colonsP, colonsTo]
  congr 1
  refine List.filter_congr fun i hi => colon_same ts (by simpa using hi)
end Go.Vx.Seat
end
section
open Go Go.Vx Go.Proofs
set_option maxRecDepth 10000
set_option maxHeartbeats 4000000
namespace Go.Vx.Seat
attribute [local irreducible] Rg Rt Ro Ri Rc Rto Rtk Rtf Rti Rw Rl Rd Rcall Rtcall kf
theorem fn76 : nth C1.P.funcs.toList 76 = some Try.f76 := by kernel_rfl
theorem fn86 : nth C1.P.funcs.toList 86 = some Try.f86 := by kernel_rfl
theorem fn87 : nth C1.P.funcs.toList 87 = some Try.f87 := by kernel_rfl
theorem fn94 : nth C1.P.funcs.toList 94 = some Try.f94 := by kernel_rfl
theorem isNaN1 (n : Int) : PCall C1 87 [yd (.int .i64 n)] fun y => y = yd (.bool false) := by
  refine Pf (by rfl) (by rfl) fn87 (by rfl) ?_
  simp only [Try.f87, List.length_cons, List.length_nil, List.replicate, List.cons_append, List.nil_append]
  simp -implicitDefEqProofs only [↓yP, yT, reduceCtorEq, eqI_true]
theorem isNaN2 (n : Int) : PCall C1 94 [yd (.int .i64 n)] fun y => y = yd (.bool false) := by
  refine Pf (by rfl) (by rfl) fn94 (by rfl) ?_
  simp only [Try.f94, List.length_cons, List.length_nil, List.replicate, List.cons_append, List.nil_append]
  simp -implicitDefEqProofs only [↓yP, yT, reduceCtorEq, eqI_true]
theorem less_spec (a b : Int) : PCall C1 86 [yd (.int .i64 a), yd (.int .i64 b)] fun y => y = yd (.bool (!leI b a)) := by
  refine Pf (by rfl) (by rfl) fn86 (by rfl) ?_
  simp only [Try.f86, List.length_cons, List.length_nil, List.replicate, List.cons_append, List.nil_append]
  simp -implicitDefEqProofs only [↓yP, yT]
  refine Rcall_pure (isNaN2 a) (by rfl) fun y hy => ?_
  subst hy
  simp -implicitDefEqProofs only [↓yP, yT, reduceCtorEq]
theorem wrap_u64 {i : Nat} (h : i < 9000000000000000000) : wrapK .u64 ((i : Nat) : Int) = (i : Nat) := by
  rw [wrapK_eq]
  simp only [IntKind.wrap, IntKind.bits, IntKind.signed]
  have : (2 ^ 64 : Int) = 18446744073709551616 := by decide
  simp only [*, Bool.false_and, Bool.false_eq_true, if_false]
  omega
theorem shr_one (i : Nat) : xshift .shr .u64 ((i : Nat) : Int) 1 = some (.int .u64 ((i / 2 : Nat) : Int)) := by
  simp only [xshift, IntKind.bits]
  rw [if_neg (by omega)]
  congr 2
  show Int.fdiv (i : Int) (2 ^ (min 1 64)) = _
  rw [show (2 : Int) ^ (min 1 64) = 2 by decide, Int.fdiv_eq_ediv_of_nonneg _ (by omega)]
  omega
def Stands (l : List Int) (n : Int) (k : Nat) : Prop := k ≤ l.length ∧ (∀ (j : Nat) (a : Int), j < k → l[j]? = some a → a < n) ∧ ∀ (j : Nat) (a : Int), k ≤ j → l[j]? = some a → n ≤ a
def Rising (l : List Int) : Prop := ∀ (i j : Nat) (a b : Int), i < j → l[i]? = some a → l[j]? = some b → a < b
theorem search_spec (l : List Int) (n : Int) (hl : l.length ≤ 1000000) (hr : Rising l) : PCall C1 76 [.c (.p (rI l)), yd (.int .i64 n)] fun y => ∃ (k : Nat) (b : Bool), y = .tup [yd (.int .i64 k), yd (.bool b)] ∧ Stands l n k ∧ (b = true ↔ l[k]? = some n) := by
  refine Pf (by rfl) (by rfl) fn76 (by rfl) ?_
  simp only [Try.f76, List.length_cons, List.length_nil, List.replicate, List.cons_append, List.nil_append]
  simp -implicitDefEqProofs only [↓yP, yT]
  refine Rl_inv (fun d e s => ∃ i j : Nat, e = [.c (.p (rI l)), yd (.int .i64 n), Tp, Tp, Tp, Tp, yd (.int .i64 l.length), yd (.int .i64 i), yd (.int .i64 j), Tp, Tp, Tp, Tp, Tp, Tp, Tp, Tp, Tp, Tp, Tp, Tp, Tp, Tp, Tp, Tp, Tp, Tp, Tp, Tp, Tp, Tp, Tp, Tp, Tp, Tp, Tp, Tp, Tp, Tp, Tp, Tp, Tp, Tp, Tp, Tp, Tp, Tp, Tp, Tp, Tp, Tp, Tp, Tp, Tp] ∧ s = [] ∧ i ≤ j ∧ j ≤ l.length ∧ j - i = d ∧ (∀ (k : Nat) (a : Int), k < i → l[k]? = some a → a < n) ∧ ∀ (k : Nat) (a : Int), j ≤ k → l[k]? = some a → n ≤ a)
    [true, true, false, false, false, false, true, true, true] l.length [] (by decide) (pinned_zero _) ⟨0, l.length, by simp only [yE]; rfl, rfl, by omega, by omega, by omega, fun k a hk => by omega, fun k a hk ha => by have := lt_of_some ha; omega⟩ ?_
  rintro d e s ⟨i, j, rfl, rfl, hij, hjl, hd, hlo, hhi⟩
  by_cases hlt : i < j
  · have t1 : leI (j : Nat) (i : Nat) = false := leI_false (by omega)
    have wa : wrapK .i64 ((i : Int) + (j : Int)) = ((i + j : Nat) : Int) := by rw [show (i : Int) + (j : Int) = ((i + j : Nat) : Int) by omega]; exact wrap_nat (by omega)
    have wb : wrapK .u64 ((i + j : Nat) : Int) = ((i + j : Nat) : Int) := wrap_u64 (by omega)
    have wc : wrapK .i64 (((i + j) / 2 : Nat) : Int) = (((i + j) / 2 : Nat) : Int) := wrap_nat (by omega)
    have wd : wrapK .i64 ((((i + j) / 2 : Nat) : Int) + 1) = (((i + j) / 2 + 1 : Nat) : Int) := wrap_succ (by omega)
    obtain ⟨a, ha⟩ := get_lt (show (i + j) / 2 < l.length by omega)
    simp -implicitDefEqProofs only [↓yP, yT, t1, wa, wb, wc, shr_one, get_map ha, ei]
    refine Rcall_pure (less_spec a n) (by rfl) fun y hy => ?_
    subst hy
    by_cases hn : n ≤ a
    · have t2 : leI n a = true := leI_true hn
      simp -implicitDefEqProofs only [↓yP, yT, t2]
      refine ⟨j - i - 1 - ((j - i - 1) - ((i + j) / 2 - i)), [], by omega, by decide, pinned_zero _, i, (i + j) / 2, ?_, rfl, by omega, by omega, by omega, hlo, fun k b hk hb => ?_⟩
      · simp only [yE]
      · by_cases e : k = (i + j) / 2
        · subst e; rw [ha] at hb; cases hb; exact hn
        · have := hr _ _ _ _ (show (i + j) / 2 < k by omega) ha hb; omega
    · have t2 : leI n a = false := leI_false hn
      simp -implicitDefEqProofs only [↓yP, yT, t2, wd]
      refine ⟨j - ((i + j) / 2 + 1), [], by omega, by decide, pinned_zero _, (i + j) / 2 + 1, j, ?_, rfl, by omega, by omega, by omega, fun k b hk hb => ?_, hhi⟩
      · simp only [yE]
      · by_cases e : k = (i + j) / 2
        · subst e; rw [ha] at hb; cases hb; omega
        · have := hr _ _ _ _ (show k < (i + j) / 2 by omega) hb ha; omega
  · have t1 : leI (j : Nat) (i : Nat) = true := leI_true (by omega)
    have : i = j := by omega
    subst this
    by_cases hil : i < l.length
    · obtain ⟨a, ha⟩ := get_lt hil
      have t2 : leI (l.length : Nat) (i : Nat) = false := leI_false (by omega)
      by_cases hn : a = n
      · subst hn
        simp -implicitDefEqProofs only [↓yP, yT, reduceCtorEq, t1, t2, get_map ha, ei, eqI_true]
        exact ⟨i, true, rfl, ⟨by omega, hlo, hhi⟩, by simp [ha]⟩
      · have e1 : eqI a n = false := eqI_false hn
        simp -implicitDefEqProofs only [↓yP, yT, t1, t2, get_map ha, ei, e1]
        refine Rcall_pure (isNaN1 a) (by rfl) fun y hy => ?_
        subst hy
        simp -implicitDefEqProofs only [↓yP, yT, reduceCtorEq]
        exact ⟨i, false, rfl, ⟨by omega, hlo, hhi⟩, by simp [ha, hn]⟩
    · have t2 : leI (l.length : Nat) (i : Nat) = true := leI_true (by omega)
      simp -implicitDefEqProofs only [↓yP, yT, reduceCtorEq, t1, t2]
      exact ⟨i, false, rfl, ⟨by omega, hlo, hhi⟩, by rw [List.getElem?_eq_none (by omega)]; simp⟩
end Go.Vx.Seat
end
section
open Go Go.Vx Go.Proofs
set_option maxRecDepth 10000
set_option maxHeartbeats 4000000
namespace Go.Vx.Seat
attribute [local irreducible] Rg Rt Ro Ri Rc Rto Rtk Rtf Rti Rw Rl Rd Rcall Rtcall kf
theorem fn14 : nth C1.P.funcs.toList 14 = some Try.f14 := by kernel_rfl
def Tok.vals (t : Tok) : List Value :=
  [.int .i64 t.kind, .string t.text, .string t.unit, .bool t.neg, .string t.digits, .string t.exp, .bool t.flag, .bool t.sign, .int .i64 t.c0, .int .i64 t.c1, .int .i64 t.c2, .int .i64 t.c3, .int .i64 t.start]
noncomputable def tokEq (t u : Tok) : Bool := match cellsEq t.vals u.vals with | some b => b | none => false
theorem strOf_eq (a b : ByteArray) : strOf a = strOf b ↔ a = b := by
  constructor
  · intro h
    cases a; cases b
    simp only [strOf] at h
    congr 1
    exact Array.toList_inj.mp h
  · intro h; rw [h]
theorem tokEq_iff (t u : Tok) : tokEq t u = true ↔ t = u := by
  cases t; cases u
  simp only [tokEq, Tok.vals, cellsEq, cellEq, if_true, Bool.and_true, Bool.and_eq_true, decide_eq_true_eq, beq_iff_eq, strOf_eq, Tok.mk.injEq]
theorem cellsEq_tok (t u : Tok) : cellsEq t.vals u.vals = some (tokEq t u) := by
  simp only [tokEq, Tok.vals, cellsEq, cellEq, if_true]
theorem zeroTok : tyZero Try.prog 44 = some (.agg #[.int .i64 0, .string ⟨#[]⟩, .string ⟨#[]⟩, .bool false, .string ⟨#[]⟩, .string ⟨#[]⟩, .bool false, .bool false, .int .i64 0, .int .i64 0, .int .i64 0, .int .i64 0, .int .i64 0]) := by kernel_rfl
theorem eqsTok : C1.eqs.contains 44 = true := by kernel_rfl
theorem neq_tok (t u : Tok) : xbin Try.prog C1.eqs .neq 44 (.agg ⟨t.vals⟩) (.agg ⟨u.vals⟩) = some (.bool (!tokEq t u)) := by
  have h1 : likes (clist (.agg #[.int .i64 0, .string ⟨#[]⟩, .string ⟨#[]⟩, .bool false, .string ⟨#[]⟩, .string ⟨#[]⟩, .bool false, .bool false, .int .i64 0, .int .i64 0, .int .i64 0, .int .i64 0, .int .i64 0])) t.vals = true := rfl
  have h2 : likes (clist (.agg #[.int .i64 0, .string ⟨#[]⟩, .string ⟨#[]⟩, .bool false, .string ⟨#[]⟩, .string ⟨#[]⟩, .bool false, .bool false, .int .i64 0, .int .i64 0, .int .i64 0, .int .i64 0, .int .i64 0])) u.vals = true := rfl
  simp only [xbin, xbinA, eqsTok, if_true, aggEq, zeroTok]
  rw [h1, h2]
  simp only [Bool.and_self, if_true, cellsEq_tok]
theorem sameTok_spec (l m : List Tok) (hl : l.length ≤ 1000000) : PCall C1 14 [.c (.p (rT l)), .c (.p (rT m))] fun y => ∃ b : Bool, y = yd (.bool b) ∧ (b = true ↔ l = m) := by
  refine Pf (by rfl) (by rfl) fn14 (by rfl) ?_
  simp only [Try.f14, List.length_cons, List.length_nil, List.replicate, List.cons_append, List.nil_append]
  by_cases hlen : l.length = m.length
  · have f1 : eqI (l.length : Nat) (m.length : Nat) = true := by rw [hlen]; exact eqI_true _
    simp -implicitDefEqProofs only [↓yP, yT, f1]
    refine Rl_inv (fun d e s => ∃ i : Nat, e = [.c (.p (rT l)), .c (.p (rT m)), Tp, Tp, Tp, yd (.int .i64 i), Tp, Tp, Tp, Tp, Tp, Tp, Tp, Tp, Tp, Tp, Tp, Tp, Tp, Tp, Tp, Tp, Tp, Tp, Tp, Tp] ∧ s = [] ∧ i + d = l.length ∧ ∀ j, j < i → l[j]? = m[j]?) [true, true, false, false, false, true] l.length [] (by decide) (pinned_zero _) ⟨0, by simp only [yE]; rfl, rfl, by omega, fun j hj => by omega⟩ ?_
    rintro d e s ⟨i, rfl, rfl, hd, hsame⟩
    by_cases hi : i < l.length
    · obtain ⟨t, ht⟩ := get_lt hi
      obtain ⟨u, hu⟩ := get_lt (show i < m.length by omega)
      have t1 : leI (l.length : Nat) (i : Nat) = false := leI_false (by omega)
      have w1 : wrapK .i64 ((i : Int) + 1) = ((i + 1 : Nat) : Int) := wrap_succ (by omega)
      have hneq := neq_tok t u
      simp only [Tok.vals] at hneq
      simp -implicitDefEqProofs only [↓yP, yT, t1]
      refine Rd_calm (by rw [C1_P]; kernel_rfl) ?_
      cases hq : tokEq t u with
      | true =>
        rw [hq] at hneq
        have he := (tokEq_iff t u).mp hq
        simp -implicitDefEqProofs only [↓yP, yT, Nat.reduceAdd, reduceCtorEq, get_map ht, get_map hu, Tok.pc, hneq, w1]
        refine ⟨d - 1, [], by omega, by decide, pinned_zero _, i + 1, ?_, rfl, by omega, fun j hj => ?_⟩
        · simp only [yE]
        · by_cases e : j = i
          · subst e; rw [ht, hu, he]
          · exact hsame j (by omega)
      | false =>
        rw [hq] at hneq
        simp -implicitDefEqProofs only [↓yP, yT, Nat.reduceAdd, reduceCtorEq, get_map ht, get_map hu, Tok.pc, hneq]
        refine ⟨false, rfl, by simp; intro h; subst h; rw [ht] at hu; cases hu; rw [(tokEq_iff t t).mpr rfl] at hq; cases hq⟩
    · have t1 : leI (l.length : Nat) (i : Nat) = true := leI_true (by omega)
      simp -implicitDefEqProofs only [↓yP, yT, reduceCtorEq, t1]
      refine ⟨true, rfl, by simp; apply List.ext_getElem?; intro j; by_cases hj : j < i; exact hsame j hj; rw [List.getElem?_eq_none (by omega), List.getElem?_eq_none (by omega)]⟩
  · have f1 : eqI (l.length : Nat) (m.length : Nat) = false := eqI_false (by omega)
    simp -implicitDefEqProofs only [↓yP, yT, reduceCtorEq, f1]
    refine ⟨false, rfl, by simp; intro h; subst h; exact hlen rfl⟩
theorem sameTok_refl (l : List Tok) (hl : l.length ≤ 1000000) : PCall C1 14 [.c (.p (rT l)), .c (.p (rT l))] fun y => y = yd (.bool true) :=
  (sameTok_spec l l hl).mono fun y ⟨b, h1, h2⟩ => by rw [h1, h2.mpr rfl]
end Go.Vx.Seat
end
section
open Go Go.Vx Go.Proofs
namespace Go.Vx.Seat
def qt (t : Tok) : Bool := quiet t.kind
def nqt (t : Tok) : Bool := !quiet t.kind
def op (l : List Tok) : List Int := l.foldl (fun o t => nestStep o t.kind) []
theorem op_snoc (l : List Tok) (t : Tok) : op (l ++ [t]) = nestStep (op l) t.kind := by simp [op]
theorem open_take (ts : List Tok) : ∀ i, i ≤ ts.length → openAt ts i = op (ts.take i)
  | 0, _ => rfl
  | i + 1, h => by
    obtain ⟨t, ht⟩ := get_lt (l := ts) (i := i) (by omega)
    rw [openAt_succ ht, open_take ts i (by omega), List.take_add_one, ht]
    exact (op_snoc _ _).symm
def AllShut (o : List Int) : Prop := ∀ k, k ∈ o → Shuts k
theorem AllShut.step {o : List Int} (h : AllShut o) (q : Int) : AllShut (nestStep o q) := by
  intro k hk
  unfold nestStep at hk
  split at hk
  · exact h k ((List.dropLast_sublist _).subset hk)
  · split at hk
    · rename_i hc
      rcases List.mem_append.mp hk with hk | hk
      · exact h k hk
      · rw [List.mem_singleton.mp hk]; exact closes_shuts hc
    · exact h k hk
theorem AllShut.nil : AllShut [] := fun k h => by simp at h
theorem fold_shut : ∀ (l : List Tok) {o : List Int}, AllShut o → AllShut (l.foldl (fun o t => nestStep o t.kind) o)
  | [], o, h => h
  | t :: l, o, h => fold_shut l (h.step t.kind)
theorem op_shut (l : List Tok) : AllShut (op l) := fold_shut l .nil
theorem last_quiet {o : List Int} (h : AllShut o) {q : Int} (hq : quiet q = true) : ¬ o.getLast? = some q := fun hl => by
  have h1 := h q (List.mem_of_getLast? hl)
  simp only [quiet, Bool.or_eq_true, decide_eq_true_eq] at hq
  unfold Shuts at h1
  omega
theorem closes_quiet {q : Int} (hq : quiet q = true) : closes q = 0 := by
  simp only [quiet, Bool.or_eq_true, decide_eq_true_eq] at hq
  unfold closes
  rw [if_neg (by omega), if_neg (by omega), if_neg (by omega)]
theorem nest_quiet {o : List Int} (h : AllShut o) {q : Int} (hq : quiet q = true) : nestStep o q = o := by
  rw [nestStep, if_neg (last_quiet h hq), closes_quiet hq]; rfl
theorem op_nq : ∀ (l : List Tok) {o : List Int}, AllShut o → (l.filter nqt).foldl (fun o t => nestStep o t.kind) o = l.foldl (fun o t => nestStep o t.kind) o
  | [], o, h => rfl
  | t :: l, o, h => by
    cases hq : quiet t.kind with
    | true =>
      rw [List.filter_cons_of_neg (by simp [nqt, hq]), List.foldl_cons, nest_quiet h hq]
      exact op_nq l h
    | false =>
      rw [List.filter_cons_of_pos (by simp [nqt, hq]), List.foldl_cons, List.foldl_cons]
      exact op_nq l (h.step _)
theorem op_filter (l : List Tok) : op (l.filter nqt) = op l := op_nq l .nil
def st3 (s : List Int × Nat × Bool) (t : Tok) : List Int × Nat × Bool :=
  (nestStep s.1 t.kind, if quiet t.kind = true then s.2 else if partK t.kind = true ∧ (plOf s.1 t.kind).2.1 = true then (0, s.2.2) else (s.2.1 + 1, decide (t.kind = 1)))
def sn3 (l : List Tok) : List Int × Nat × Bool := l.foldl st3 ([], 0, false)
theorem sn3_snoc (l : List Tok) (t : Tok) : sn3 (l ++ [t]) = st3 (sn3 l) t := by simp [sn3]
theorem sn3_op (l : List Tok) : (sn3 l).1 = op l := by
  have key : ∀ (l : List Tok) (s : List Int × Nat × Bool), (l.foldl st3 s).1 = l.foldl (fun o t => nestStep o t.kind) s.1 := by
    intro l
    induction l with
    | nil => intro s; rfl
    | cons t l ih => intro s; rw [List.foldl_cons, List.foldl_cons, ih]; rfl
  exact key l _
theorem since_take (ts : List Tok) : ∀ i, i ≤ ts.length → since ts i = (sn3 (ts.take i)).2
  | 0, _ => rfl
  | i + 1, h => by
    obtain ⟨t, ht⟩ := get_lt (l := ts) (i := i) (by omega)
    have hk := kindAt_some ht
    have hpl : pl ts i = plOf (op (ts.take i)) t.kind := by rw [pl, hk, open_take ts i (by omega)]
    rw [since, List.take_add_one, ht, hk, hpl, since_take ts i (by omega)]
    show _ = (sn3 (ts.take i ++ [t])).2
    rw [sn3_snoc, st3, sn3_op]
theorem sn3_nq : ∀ (l : List Tok) {s : List Int × Nat × Bool}, AllShut s.1 → (l.filter nqt).foldl st3 s = l.foldl st3 s
  | [], s, h => rfl
  | t :: l, s, h => by
    cases hq : quiet t.kind with
    | true =>
      rw [List.filter_cons_of_neg (by simp [nqt, hq]), List.foldl_cons]
      have : st3 s t = s := by rw [st3, nest_quiet h hq, if_pos hq]
      rw [this]
      exact sn3_nq l h
    | false =>
      rw [List.filter_cons_of_pos (by simp [nqt, hq]), List.foldl_cons, List.foldl_cons]
      exact sn3_nq l (h.step _)
theorem sn3_filter (l : List Tok) : sn3 (l.filter nqt) = sn3 l := sn3_nq l .nil
def plainS (o : List Int) (D : Nat) : List Tok → Bool
  | [] => true
  | t :: r => if (plOf o t.kind).1 < D then true else if (plOf o t.kind).1 = D ∧ partK t.kind = true then !decide (t.kind = 19) else plainS (nestStep o t.kind) D r
theorem drop_at {ts : List Tok} {i : Nat} {t : Tok} (ht : ts[i]? = some t) : ts.drop i = t :: ts.drop (i + 1) := by
  obtain ⟨h1, h2⟩ := List.getElem?_eq_some_iff.mp ht
  rw [List.drop_eq_getElem_cons h1, h2]
theorem plain_drop (ts : List Tok) (i : Nat) : ∀ d k, k + d = ts.length → plainFrom ts i d k = plainS (openAt ts k) (pl ts i).1 (ts.drop k)
  | 0, k, h => by rw [plainFrom, List.drop_eq_nil_of_le (by omega)]; rfl
  | d + 1, k, h => by
    obtain ⟨t, ht⟩ := get_lt (l := ts) (i := k) (by omega)
    have hk := kindAt_some ht
    rw [plainFrom, plain_drop ts i d (k + 1) (by omega), drop_at ht, plainS, openAt_succ ht, hk]
    have hpl : pl ts k = plOf (openAt ts k) t.kind := by rw [pl, hk]
    rw [hpl]
theorem plOf_le (o : List Int) (k : Int) : (plOf o k).1 ≤ o.length := by
  unfold plOf
  simp only
  split
  · simp
  · exact Nat.le_refl _
theorem plain_low {o : List Int} {D : Nat} (h : o.length < D) : ∀ l, plainS o D l = true
  | [] => rfl
  | t :: r => by rw [plainS, if_pos (by have := plOf_le o t.kind; omega)]
theorem plain_nq : ∀ (l : List Tok) {o : List Int} {D : Nat}, AllShut o → plainS o D (l.filter nqt) = plainS o D l
  | [], o, D, h => rfl
  | t :: l, o, D, h => by
    cases hq : quiet t.kind with
    | true =>
      rw [List.filter_cons_of_neg (by simp [nqt, hq]), plainS]
      have h1 : (plOf o t.kind).1 = o.length := by simp [plOf, last_quiet h hq]
      have h2 : partK t.kind = false := by
        simp only [quiet, Bool.or_eq_true, decide_eq_true_eq] at hq
        rcases hq with hq | hq <;> rw [hq] <;> rfl
      rw [h1, h2, nest_quiet h hq]
      by_cases h3 : o.length < D
      · rw [if_pos h3, plain_low h3]
      · rw [if_neg h3, if_neg (by simp)]
        exact plain_nq l h
    | false =>
      rw [List.filter_cons_of_pos (by simp [nqt, hq]), plainS, plainS, plain_nq l (h.step _)]
def colAt (pre : List Tok) (t : Tok) (post : List Tok) : Bool :=
  decide (t.kind = 16) && (plOf (op pre) t.kind).2.1 && decide (0 < (plOf (op pre) t.kind).1) && decide ((sn3 pre).2.1 = 1) && (sn3 pre).2.2 && plainS (nestStep (op pre) t.kind) (plOf (op pre) t.kind).1 post
theorem colon_at {ts : List Tok} {i : Nat} {t : Tok} (ht : ts[i]? = some t) : isColon ts i = colAt (ts.take i) t (ts.drop (i + 1)) := by
  have hi := (List.getElem?_eq_some_iff.mp ht).1
  have hk := kindAt_some ht
  have hpl : pl ts i = plOf (op (ts.take i)) t.kind := by rw [pl, hk, open_take ts i (by omega)]
  rw [isColon, colAt, hk, since_take ts i (by omega), plainAt, plain_drop ts i _ _ (by omega), hpl, openAt_succ ht, open_take ts i (by omega)]
theorem colon_nq (pre post : List Tok) (t : Tok) : colAt (pre.filter nqt) t (post.filter nqt) = colAt pre t post := by
  rw [colAt, colAt, op_filter, sn3_filter, plain_nq post ((op_shut pre).step t.kind)]
theorem colon_congr {pre pre' post post' : List Tok} {t : Tok} (h1 : pre.filter nqt = pre'.filter nqt) (h2 : post.filter nqt = post'.filter nqt) : colAt pre t post = colAt pre' t post' := by
  rw [← colon_nq pre, ← colon_nq pre', h1, h2]
def lineL (pre : List Tok) : Bool := match pre.getLast? with | some t => lineB t | none => false
def goB (pre post : List Tok) : Bool := match pre.getLast? with | some t => opens7 t.kind || colAt pre.dropLast t post | none => true
def goA (pre : List Tok) : List Tok → Bool
  | [] => true
  | u :: r => shuts6 u.kind || colAt pre u r
def isSp (t : Tok) : Bool := eqI t.kind 13
def runR (pre run rest : List Tok) : List Tok := match run.find? isSp with
  | none => run.filter kp
  | some s => if lineL pre then blankTok ⟨#[10]⟩ s.start :: run.filter kp else if goB pre (run ++ rest) || goA (pre ++ run) rest then run.filter kp else run.filter kp ++ [blankTok ⟨#[32]⟩ s.start]
def valL (pre suf : List Tok) : List Tok := match suf with
  | [] => []
  | t :: r => if quiet t.kind = true then runR pre (t :: r.takeWhile qt) (r.dropWhile qt) ++ valL (pre ++ (t :: r.takeWhile qt)) (r.dropWhile qt) else t :: valL (pre ++ [t]) r
termination_by suf.length
decreasing_by
  · have := (List.dropWhile_sublist (l := r) qt).length_le
    simp; omega
  · simp
theorem valL_nil (pre : List Tok) : valL pre [] = [] := by rw [valL]
theorem valL_one (pre : List Tok) {t : Tok} (r : List Tok) (h : quiet t.kind = false) : valL pre (t :: r) = t :: valL (pre ++ [t]) r := by rw [valL, if_neg (by rw [h]; simp)]
theorem valL_run (pre : List Tok) {run rest : List Tok} (hr : run ≠ []) (hq : ∀ t, t ∈ run → quiet t.kind = true) (hn : ∀ u r, rest = u :: r → quiet u.kind = false) : valL pre (run ++ rest) = runR pre run rest ++ valL (pre ++ run) rest := by
  cases run with
  | nil => exact absurd rfl hr
  | cons t run =>
    have h1 : (run ++ rest).takeWhile qt = run := by
      rw [List.takeWhile_append_of_pos (p := qt) (fun a ha => hq a (List.mem_cons_of_mem _ ha))]
      cases rest with
      | nil => simp
      | cons u r => rw [List.takeWhile_cons_of_neg (by simp [qt, hn u r rfl])]; simp
    have h2 : (run ++ rest).dropWhile qt = rest := by
      rw [List.dropWhile_append_of_pos (p := qt) (fun a ha => hq a (List.mem_cons_of_mem _ ha))]
      cases rest with
      | nil => rfl
      | cons u r => rw [List.dropWhile_cons_of_neg (by simp [qt, hn u r rfl])]
    rw [List.cons_append, valL, if_pos (hq t (List.mem_cons_self ..)), h1, h2]
end Go.Vx.Seat
end
