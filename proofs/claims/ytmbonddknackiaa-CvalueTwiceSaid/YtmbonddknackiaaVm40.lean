/- Texts joined: VyL1 VyL2 VyL3 VyL4 VyL5 VyL6 VyL7 VyL8 VyL9 VyLa VyLb VyLc VyLd VyLe. -/
import Derived.Test.YtmbonddknackiaaVm37
import Derived.Test.YtmbonddknackiaaVyOwn
import Derived.Test.YtmbonddknackiaaVyCut
/- The lexer's small functions. -/
section
open Go Go.Vx Go.Proofs
set_option linter.unusedSimpArgs false
set_option linter.unusedVariables false
set_option maxRecDepth 10000
set_option maxHeartbeats 4000000
namespace Go.Vx.Seat
attribute [local congr] Rg_at Rt_at Ro_at Ri_at Rc_at Rto_at Rtk_at Rtf_at Rti_at
attribute [local irreducible] Rg Rt Ro Ri Rc Rto Rtk Rtf Rti Rw Rl Rd Rcall Rtcall kf
theorem fn76 : nth C1.P.funcs.toList 76 = some Try.f76 := by kernel_rfl
theorem fn72 : nth C1.P.funcs.toList 72 = some Try.f72 := by kernel_rfl
theorem fn101 : nth C1.P.funcs.toList 101 = some Try.f101 := by kernel_rfl
theorem fn78 : nth C1.P.funcs.toList 78 = some Try.f78 := by kernel_rfl
theorem fn75 : nth C1.P.funcs.toList 75 = some Try.f75 := by kernel_rfl
theorem fn92 : nth C1.P.funcs.toList 92 = some Try.f92 := by kernel_rfl
theorem fn79 : nth C1.P.funcs.toList 79 = some Try.f79 := by kernel_rfl
theorem fn102 : nth C1.P.funcs.toList 102 = some Try.f102 := by kernel_rfl
theorem fn82 : nth C1.P.funcs.toList 82 = some Try.f82 := by kernel_rfl
theorem fn81 : nth C1.P.funcs.toList 81 = some Try.f81 := by kernel_rfl
/-- A code point, and where it stands. -/
structure Rn where
  r : Int
  a : Int
def Rn.pc (x : Rn) : List PC := [.d (.int .i64 x.r), .d (.int .i64 x.a)]
abbrev rR (l : List Rn) : PC := .row 2 (l.map Rn.pc)
instance : Inhabited Rn := ⟨⟨0, 0⟩⟩
def atR (l : List Rn) (i : Int) : Int := if i < 0 then -1 else match l[i.toNat]? with | some x => x.r | none => -1
theorem atR_get {l : List Rn} {i : Nat} {x : Rn} (h : l[i]? = some x) : atR l (i : Nat) = x.r := by
  rw [atR, if_neg (by omega), Int.toNat_natCast, h]
theorem atR_out {l : List Rn} {i : Int} (h : (l.length : Int) ≤ i) : atR l i = -1 := by
  rw [atR, if_neg (by omega), List.getElem?_eq_none (by omega)]
theorem atR_in {l : List Rn} {i : Nat} (h : atR l (i : Nat) ≠ -1) : ∃ x, l[i]? = some x ∧ x.r = atR l (i : Nat) := by
  rcases hx : l[i]? with _ | x
  · exfalso; apply h; rw [atR, if_neg (by omega), Int.toNat_natCast, hx]
  · exact ⟨x, rfl, (atR_get hx).symm⟩
theorem of_leF {a b : Int} (h : leI a b = false) : b < a := by rw [leI_eq] at h; simpa using h
theorem of_leT {a b : Int} (h : leI a b = true) : a ≤ b := by rw [leI_eq] at h; simpa using h
theorem of_eqF {a b : Int} (h : eqI a b = false) : a ≠ b := by rw [eqI_eq] at h; simpa using h
theorem of_eqT {a b : Int} (h : eqI a b = true) : a = b := by rw [eqI_eq] at h; simpa using h
theorem at_spec (l : List Rn) (i : Int) : PCall C1 76 [.c (.p (rR l)), yd (.int .i64 i)] fun y => y = yd (.int .i64 (atR l i)) := by
  refine Pf (by rfl) (by rfl) fn76 (by rfl) ?_
  simp only [Try.f76, List.length_cons, List.length_nil, List.replicate, List.cons_append, List.nil_append]
  cases h1 : leI 0 i with
  | false =>
    have := of_leF h1
    simp -implicitDefEqProofs only [↓yP, yT, Nat.reduceAdd, Nat.reduceMul, Nat.reduceSub, Nat.reduceLeDiff, Nat.reduceEqDiff, reduceCtorEq, Nat.reduceBEq, h1, atR, this]
  | true =>
    have h1' := of_leT h1
    cases h2 : leI (l.length : Nat) i with
    | true =>
      simp -implicitDefEqProofs only [↓yP, yT, Nat.reduceAdd, Nat.reduceMul, Nat.reduceSub, Nat.reduceLeDiff, Nat.reduceEqDiff, reduceCtorEq, Nat.reduceBEq, h1, h2]
      rw [atR_out (of_leT h2)]
    | false =>
      have h2' := of_leF h2
      obtain ⟨n, rfl⟩ := Int.eq_ofNat_of_zero_le h1'
      obtain ⟨x, hx⟩ := get_lt (l := l) (i := n) (by omega)
      simp -implicitDefEqProofs only [↓yP, yT, Nat.reduceAdd, Nat.reduceMul, Nat.reduceSub, Nat.reduceLeDiff, Nat.reduceEqDiff, reduceCtorEq, Nat.reduceBEq, h1, h2, get_map hx, Rn.pc, atR_get hx]
def digitB (r : Int) : Bool := leI 48 r && leI r 57
theorem digit_spec (r : Int) : PCall C1 72 [yd (.int .i64 r)] fun y => y = yd (.bool (digitB r)) := by
  refine Pf (by rfl) (by rfl) fn72 (by rfl) ?_
  simp only [Try.f72, List.length_cons, List.length_nil, List.replicate, List.cons_append, List.nil_append]
  cases h1 : leI 48 r <;> cases h2 : leI r 57 <;> simp -implicitDefEqProofs only [↓yP, yT, Nat.reduceAdd, Nat.reduceMul, Nat.reduceSub, Nat.reduceLeDiff, Nat.reduceEqDiff, reduceCtorEq, Nat.reduceBEq, digitB, h1, h2] <;> rfl
def startB (r : Int) : Bool := (leI 97 r && leI r 122) || (leI 65 r && leI r 90) || eqI r 95 || leI 128 r
theorem start_spec (r : Int) : PCall C1 101 [yd (.int .i64 r)] fun y => y = yd (.bool (startB r)) := by
  refine Pf (by rfl) (by rfl) fn101 (by rfl) ?_
  simp only [Try.f101, List.length_cons, List.length_nil, List.replicate, List.cons_append, List.nil_append]
  cases h1 : leI 97 r <;> cases h2 : leI r 122 <;> cases h3 : leI 65 r <;> cases h4 : leI r 90 <;> cases h5 : eqI r 95 <;> cases h6 : leI 128 r <;> simp -implicitDefEqProofs only [↓yP, yT, Nat.reduceAdd, Nat.reduceMul, Nat.reduceSub, Nat.reduceLeDiff, Nat.reduceEqDiff, reduceCtorEq, Nat.reduceBEq, startB, h1, h2, h3, h4, h5, h6] <;> rfl
def inB (r : Int) : Bool := startB r || digitB r || eqI r 45
theorem in_spec1 (r : Int) : PCall C1 78 [yd (.int .i64 r)] fun y => y = yd (.bool (inB r)) := by
  refine Pf (by rfl) (by rfl) fn78 (by rfl) ?_
  simp only [Try.f78, List.length_cons, List.length_nil, List.replicate, List.cons_append, List.nil_append]
  simp -implicitDefEqProofs only [↓yP, yT, Nat.reduceAdd, Nat.reduceMul, Nat.reduceSub, Nat.reduceLeDiff, Nat.reduceEqDiff, reduceCtorEq, Nat.reduceBEq]
  refine Rcall_pure (start_spec r) (by rfl) fun y hy => ?_
  subst hy
  cases h1 : startB r with
  | true => cases h3 : eqI r 45 <;> simp -implicitDefEqProofs only [↓yP, yT, Nat.reduceAdd, Nat.reduceMul, Nat.reduceSub, Nat.reduceLeDiff, Nat.reduceEqDiff, reduceCtorEq, Nat.reduceBEq, inB, h1, h3]
  | false =>
    simp -implicitDefEqProofs only [↓yP, yT, Nat.reduceAdd, Nat.reduceMul, Nat.reduceSub, Nat.reduceLeDiff, Nat.reduceEqDiff, reduceCtorEq, Nat.reduceBEq]
    refine Rcall_pure (digit_spec r) (by rfl) fun y hy => ?_
    subst hy
    cases h2 : digitB r <;> cases h3 : eqI r 45 <;> simp -implicitDefEqProofs only [↓yP, yT, Nat.reduceAdd, Nat.reduceMul, Nat.reduceSub, Nat.reduceLeDiff, Nat.reduceEqDiff, reduceCtorEq, Nat.reduceBEq, inB, h1, h2, h3]
def blankB (r : Int) : Bool := eqI r 32 || eqI r 9 || eqI r 10
theorem blank_spec1 (r : Int) : PCall C1 75 [yd (.int .i64 r)] fun y => y = yd (.bool (blankB r)) := by
  refine Pf (by rfl) (by rfl) fn75 (by rfl) ?_
  simp only [Try.f75, List.length_cons, List.length_nil, List.replicate, List.cons_append, List.nil_append]
  cases h1 : eqI r 32 <;> cases h2 : eqI r 9 <;> cases h3 : eqI r 10 <;> simp -implicitDefEqProofs only [↓yP, yT, Nat.reduceAdd, Nat.reduceMul, Nat.reduceSub, Nat.reduceLeDiff, Nat.reduceEqDiff, reduceCtorEq, Nat.reduceBEq, blankB, h1, h2, h3]
/-- A digit of base 16, or below 0. -/
def hexR (r : Int) : Int := if digitB r = true then wrapK .i64 (r - 48) else if (leI 97 r && leI r 102) = true then wrapK .i64 (wrapK .i64 (r - 97) + 10) else if (leI 65 r && leI r 70) = true then wrapK .i64 (wrapK .i64 (r - 65) + 10) else -1
theorem hex_spec (r : Int) : PCall C1 92 [yd (.int .i64 r)] fun y => y = yd (.int .i64 (hexR r)) := by
  refine Pf (by rfl) (by rfl) fn92 (by rfl) ?_
  simp only [Try.f92, List.length_cons, List.length_nil, List.replicate, List.cons_append, List.nil_append]
  simp -implicitDefEqProofs only [↓yP, yT, Nat.reduceAdd, Nat.reduceMul, Nat.reduceSub, Nat.reduceLeDiff, Nat.reduceEqDiff, reduceCtorEq, Nat.reduceBEq]
  refine Rcall_pure (digit_spec r) (by rfl) fun y hy => ?_
  subst hy
  cases h1 : digitB r with
  | true => simp -implicitDefEqProofs only [↓yP, yT, Nat.reduceAdd, Nat.reduceMul, Nat.reduceSub, Nat.reduceLeDiff, Nat.reduceEqDiff, reduceCtorEq, Nat.reduceBEq, hexR, h1]
  | false => cases h2 : leI 97 r <;> cases h3 : leI r 102 <;> cases h4 : leI 65 r <;> cases h5 : leI r 70 <;> simp -implicitDefEqProofs only [↓yP, yT, Nat.reduceAdd, Nat.reduceMul, Nat.reduceSub, Nat.reduceLeDiff, Nat.reduceEqDiff, reduceCtorEq, Nat.reduceBEq, hexR, h1, h2, h3, h4, h5] <;> rfl
theorem hexR_out : hexR (-1) = -1 := by simp [hexR, digitB, leI_eq]
def escB (l : List Rn) (i : Nat) : Bool := eqI (atR l (i : Nat)) 92 && !eqI (atR l ((i + 1 : Nat) : Int)) 10
theorem escape_spec (l : List Rn) (i : Nat) (hi : i ≤ 5000000) : PCall C1 79 [.c (.p (rR l)), yd (.int .i64 (i : Nat))] fun y => y = yd (.bool (escB l i)) := by
  have w1 : wrapK .i64 ((i : Int) + 1) = ((i + 1 : Nat) : Int) := wrap_succ (by omega)
  refine Pf (by rfl) (by rfl) fn79 (by rfl) ?_
  simp only [Try.f79, List.length_cons, List.length_nil, List.replicate, List.cons_append, List.nil_append]
  simp -implicitDefEqProofs only [↓yP, yT, Nat.reduceAdd, Nat.reduceMul, Nat.reduceSub, Nat.reduceLeDiff, Nat.reduceEqDiff, reduceCtorEq, Nat.reduceBEq]
  refine Rcall_pure (at_spec l i) (by rfl) fun y hy => ?_
  subst hy
  cases h1 : eqI (atR l (i : Nat)) 92 with
  | false => simp -implicitDefEqProofs only [↓yP, yT, Nat.reduceAdd, Nat.reduceMul, Nat.reduceSub, Nat.reduceLeDiff, Nat.reduceEqDiff, reduceCtorEq, Nat.reduceBEq, Bool.true_and, Bool.false_and, Bool.and_true, Bool.and_false, escB, h1]
  | true =>
    simp -implicitDefEqProofs only [↓yP, yT, Nat.reduceAdd, Nat.reduceMul, Nat.reduceSub, Nat.reduceLeDiff, Nat.reduceEqDiff, reduceCtorEq, Nat.reduceBEq, h1, w1]
    refine Rcall_pure (at_spec l _) (by rfl) fun y hy => ?_
    subst hy
    cases h2 : eqI (atR l ((i + 1 : Nat) : Int)) 10 <;> simp -implicitDefEqProofs only [↓yP, yT, Nat.reduceAdd, Nat.reduceMul, Nat.reduceSub, Nat.reduceLeDiff, Nat.reduceEqDiff, reduceCtorEq, Nat.reduceBEq, Bool.true_and, Bool.false_and, Bool.and_true, Bool.and_false, escB, h1, h2]
theorem cap_spec (n a b : Int) : PCall C1 102 [yd (.int .i64 n), yd (.int .i64 a), yd (.int .i64 b)] fun y => y = yd (.int .i64 (if n < a then a else if b < n then b else n)) := by
  refine Pf (by rfl) (by rfl) fn102 (by rfl) ?_
  simp only [Try.f102, List.length_cons, List.length_nil, List.replicate, List.cons_append, List.nil_append]
  cases h1 : leI a n with
  | false =>
    have := of_leF h1
    simp -implicitDefEqProofs only [↓yP, yT, Nat.reduceAdd, Nat.reduceMul, Nat.reduceSub, Nat.reduceLeDiff, Nat.reduceEqDiff, reduceCtorEq, Nat.reduceBEq, h1, this]
  | true =>
    have h1' : ¬ n < a := by have := of_leT h1; omega
    cases h2 : leI n b with
    | false =>
      have := of_leF h2
      simp -implicitDefEqProofs only [↓yP, yT, Nat.reduceAdd, Nat.reduceMul, Nat.reduceSub, Nat.reduceLeDiff, Nat.reduceEqDiff, reduceCtorEq, Nat.reduceBEq, h1, h2, h1', this]
    | true =>
      have h2' : ¬ b < n := by have := of_leT h2; omega
      simp -implicitDefEqProofs only [↓yP, yT, Nat.reduceAdd, Nat.reduceMul, Nat.reduceSub, Nat.reduceLeDiff, Nat.reduceEqDiff, reduceCtorEq, Nat.reduceBEq, h1, h2, h1', h2']
def numeralB (l : List Rn) (i : Nat) : Bool :=
  let j := if eqI (atR l (i : Nat)) 43 || eqI (atR l (i : Nat)) 45 then i + 1 else i
  digitB (atR l (j : Nat)) || (eqI (atR l (j : Nat)) 46 && digitB (atR l ((j + 1 : Nat) : Int)))
theorem numeral_spec (l : List Rn) (i : Nat) (hi : i ≤ 4000000) : PCall C1 82 [.c (.p (rR l)), yd (.int .i64 (i : Nat))] fun y => y = yd (.bool (numeralB l i)) := by
  have w1 : wrapK .i64 ((i : Int) + 1) = ((i + 1 : Nat) : Int) := wrap_succ (by omega)
  have w2 : wrapK .i64 (((i + 1 : Nat) : Int) + 1) = ((i + 1 + 1 : Nat) : Int) := wrap_succ (by omega)
  refine Pf (by rfl) (by rfl) fn82 (by rfl) ?_
  simp only [Try.f82, List.length_cons, List.length_nil, List.replicate, List.cons_append, List.nil_append]
  simp -implicitDefEqProofs only [↓yP, yT, Nat.reduceAdd, Nat.reduceMul, Nat.reduceSub, Nat.reduceLeDiff, Nat.reduceEqDiff, reduceCtorEq, Nat.reduceBEq]
  refine Rcall_pure (at_spec l i) (by rfl) fun y hy => ?_
  subst hy
  cases h1 : eqI (atR l (i : Nat)) 43 <;> cases h2 : eqI (atR l (i : Nat)) 45
  · simp -implicitDefEqProofs only [↓yP, yT, Nat.reduceAdd, Nat.reduceMul, Nat.reduceSub, Nat.reduceLeDiff, Nat.reduceEqDiff, reduceCtorEq, Nat.reduceBEq, h1, h2]
    refine Rcall_pure (digit_spec _) (by rfl) fun y hy => ?_
    subst hy
    cases h3 : digitB (atR l (i : Nat)) with
    | true => simp -implicitDefEqProofs only [↓yP, yT, Nat.reduceAdd, Nat.reduceMul, Nat.reduceSub, Nat.reduceLeDiff, Nat.reduceEqDiff, reduceCtorEq, Nat.reduceBEq, Bool.true_and, Bool.false_and, Bool.and_true, Bool.and_false, numeralB, h1, h2, h3]
    | false =>
      cases h4 : eqI (atR l (i : Nat)) 46 with
      | false => simp -implicitDefEqProofs only [↓yP, yT, Nat.reduceAdd, Nat.reduceMul, Nat.reduceSub, Nat.reduceLeDiff, Nat.reduceEqDiff, reduceCtorEq, Nat.reduceBEq, Bool.true_and, Bool.false_and, Bool.and_true, Bool.and_false, numeralB, h1, h2, h3, h4]
      | true =>
        simp -implicitDefEqProofs only [↓yP, yT, Nat.reduceAdd, Nat.reduceMul, Nat.reduceSub, Nat.reduceLeDiff, Nat.reduceEqDiff, reduceCtorEq, Nat.reduceBEq, h1, h2, h3, h4, w1]
        refine Rcall_pure (at_spec l _) (by rfl) fun y hy => ?_
        subst hy
        simp -implicitDefEqProofs only [↓yP, yT, Nat.reduceAdd, Nat.reduceMul, Nat.reduceSub, Nat.reduceLeDiff, Nat.reduceEqDiff, reduceCtorEq, Nat.reduceBEq]
        refine Rcall_pure (digit_spec _) (by rfl) fun y hy => ?_
        subst hy
        simp -implicitDefEqProofs only [↓yP, yT, Nat.reduceAdd, Nat.reduceMul, Nat.reduceSub, Nat.reduceLeDiff, Nat.reduceEqDiff, reduceCtorEq, Nat.reduceBEq, Bool.true_and, Bool.false_and, Bool.and_true, Bool.and_false, numeralB, h1, h2, h3, h4]
  all_goals
    simp -implicitDefEqProofs only [↓yP, yT, Nat.reduceAdd, Nat.reduceMul, Nat.reduceSub, Nat.reduceLeDiff, Nat.reduceEqDiff, reduceCtorEq, Nat.reduceBEq, h1, h2, w1]
    refine Rcall_pure (at_spec l _) (by rfl) fun y hy => ?_
    subst hy
    simp -implicitDefEqProofs only [↓yP, yT, Nat.reduceAdd, Nat.reduceMul, Nat.reduceSub, Nat.reduceLeDiff, Nat.reduceEqDiff, reduceCtorEq, Nat.reduceBEq]
    refine Rcall_pure (digit_spec _) (by rfl) fun y hy => ?_
    subst hy
    cases h3 : digitB (atR l ((i + 1 : Nat) : Int)) with
    | true => simp -implicitDefEqProofs only [↓yP, yT, Nat.reduceAdd, Nat.reduceMul, Nat.reduceSub, Nat.reduceLeDiff, Nat.reduceEqDiff, reduceCtorEq, Nat.reduceBEq, Bool.true_and, Bool.false_and, Bool.and_true, Bool.and_false, numeralB, h1, h2, h3]
    | false =>
      cases h4 : eqI (atR l ((i + 1 : Nat) : Int)) 46 with
      | false => simp -implicitDefEqProofs only [↓yP, yT, Nat.reduceAdd, Nat.reduceMul, Nat.reduceSub, Nat.reduceLeDiff, Nat.reduceEqDiff, reduceCtorEq, Nat.reduceBEq, Bool.true_and, Bool.false_and, Bool.and_true, Bool.and_false, numeralB, h1, h2, h3, h4]
      | true =>
        simp -implicitDefEqProofs only [↓yP, yT, Nat.reduceAdd, Nat.reduceMul, Nat.reduceSub, Nat.reduceLeDiff, Nat.reduceEqDiff, reduceCtorEq, Nat.reduceBEq, h1, h2, h3, h4, w2]
        refine Rcall_pure (at_spec l _) (by rfl) fun y hy => ?_
        subst hy
        simp -implicitDefEqProofs only [↓yP, yT, Nat.reduceAdd, Nat.reduceMul, Nat.reduceSub, Nat.reduceLeDiff, Nat.reduceEqDiff, reduceCtorEq, Nat.reduceBEq]
        refine Rcall_pure (digit_spec _) (by rfl) fun y hy => ?_
        subst hy
        simp -implicitDefEqProofs only [↓yP, yT, Nat.reduceAdd, Nat.reduceMul, Nat.reduceSub, Nat.reduceLeDiff, Nat.reduceEqDiff, reduceCtorEq, Nat.reduceBEq, Bool.true_and, Bool.false_and, Bool.and_true, Bool.and_false, numeralB, h1, h2, h3, h4]
def beginsB (l : List Rn) (i : Nat) : Bool :=
  decide (i < l.length) && (if eqI (atR l (i : Nat)) 45 then startB (atR l ((i + 1 : Nat) : Int)) || eqI (atR l ((i + 1 : Nat) : Int)) 45 || escB l (i + 1) else startB (atR l (i : Nat)) || escB l i)
theorem begins_spec (l : List Rn) (i : Nat) (hi : i ≤ 4000000) : PCall C1 81 [.c (.p (rR l)), yd (.int .i64 (i : Nat))] fun y => y = yd (.bool (beginsB l i)) := by
  have w1 : wrapK .i64 ((i : Int) + 1) = ((i + 1 : Nat) : Int) := wrap_succ (by omega)
  refine Pf (by rfl) (by rfl) fn81 (by rfl) ?_
  simp only [Try.f81, List.length_cons, List.length_nil, List.replicate, List.cons_append, List.nil_append]
  have t0 : leI 0 (i : Nat) = true := leI_true (by omega)
  by_cases hl : i < l.length
  · have t1 : leI (l.length : Nat) (i : Nat) = false := leI_false (by omega)
    obtain ⟨x, hx⟩ := get_lt hl
    have hat := atR_get hx
    cases h1 : eqI x.r 45 with
    | true =>
      simp -implicitDefEqProofs only [↓yP, yT, Nat.reduceAdd, Nat.reduceMul, Nat.reduceSub, Nat.reduceLeDiff, Nat.reduceEqDiff, reduceCtorEq, Nat.reduceBEq, t0, t1, get_map hx, Rn.pc, h1, w1]
      refine Rcall_pure (at_spec l _) (by rfl) fun y hy => ?_
      subst hy
      simp -implicitDefEqProofs only [↓yP, yT, Nat.reduceAdd, Nat.reduceMul, Nat.reduceSub, Nat.reduceLeDiff, Nat.reduceEqDiff, reduceCtorEq, Nat.reduceBEq]
      refine Rcall_pure (start_spec _) (by rfl) fun y hy => ?_
      subst hy
      cases h2 : startB (atR l ((i + 1 : Nat) : Int)) <;> cases h3 : eqI (atR l ((i + 1 : Nat) : Int)) 45
      · simp -implicitDefEqProofs only [↓yP, yT, Nat.reduceAdd, Nat.reduceMul, Nat.reduceSub, Nat.reduceLeDiff, Nat.reduceEqDiff, reduceCtorEq, Nat.reduceBEq, h3, w1]
        refine Rcall_pure (escape_spec l _ (by omega)) (by rfl) fun y hy => ?_
        subst hy
        simp -implicitDefEqProofs only [↓yP, yT, Nat.reduceAdd, Nat.reduceMul, Nat.reduceSub, Nat.reduceLeDiff, Nat.reduceEqDiff, reduceCtorEq, Nat.reduceBEq, Bool.true_and, Bool.false_and, Bool.and_true, Bool.and_false, beginsB, hat, h1, h2, h3, hl, decide_true]
      all_goals simp -implicitDefEqProofs only [↓yP, yT, Nat.reduceAdd, Nat.reduceMul, Nat.reduceSub, Nat.reduceLeDiff, Nat.reduceEqDiff, reduceCtorEq, Nat.reduceBEq, Bool.true_and, Bool.false_and, Bool.and_true, Bool.and_false, h3, beginsB, hat, h1, h2, hl, decide_true]
    | false =>
      simp -implicitDefEqProofs only [↓yP, yT, Nat.reduceAdd, Nat.reduceMul, Nat.reduceSub, Nat.reduceLeDiff, Nat.reduceEqDiff, reduceCtorEq, Nat.reduceBEq, t0, t1, get_map hx, Rn.pc, h1]
      refine Rcall_pure (start_spec _) (by rfl) fun y hy => ?_
      subst hy
      cases h2 : startB x.r with
      | true => simp -implicitDefEqProofs only [↓yP, yT, Nat.reduceAdd, Nat.reduceMul, Nat.reduceSub, Nat.reduceLeDiff, Nat.reduceEqDiff, reduceCtorEq, Nat.reduceBEq, Bool.true_and, Bool.false_and, Bool.and_true, Bool.and_false, beginsB, hat, h1, h2, hl, decide_true]
      | false =>
        simp -implicitDefEqProofs only [↓yP, yT, Nat.reduceAdd, Nat.reduceMul, Nat.reduceSub, Nat.reduceLeDiff, Nat.reduceEqDiff, reduceCtorEq, Nat.reduceBEq]
        refine Rcall_pure (escape_spec l _ (by omega)) (by rfl) fun y hy => ?_
        subst hy
        simp -implicitDefEqProofs only [↓yP, yT, Nat.reduceAdd, Nat.reduceMul, Nat.reduceSub, Nat.reduceLeDiff, Nat.reduceEqDiff, reduceCtorEq, Nat.reduceBEq, Bool.true_and, Bool.false_and, Bool.and_true, Bool.and_false, beginsB, hat, h1, h2, hl, decide_true]
  · have t1 : leI (l.length : Nat) (i : Nat) = true := leI_true (by omega)
    simp -implicitDefEqProofs only [↓yP, yT, Nat.reduceAdd, Nat.reduceMul, Nat.reduceSub, Nat.reduceLeDiff, Nat.reduceEqDiff, reduceCtorEq, Nat.reduceBEq, Bool.true_and, Bool.false_and, Bool.and_true, Bool.and_false, t0, t1, beginsB, hl, decide_false]
end Go.Vx.Seat
end
/- The lexer's bytes. -/
section
open Go Go.Vx Go.Proofs
set_option linter.unusedSimpArgs false
set_option linter.unusedVariables false
set_option maxRecDepth 10000
set_option maxHeartbeats 4000000
namespace Go.Vx.Seat
attribute [local congr] Rg_at Rt_at Ro_at Ri_at Rc_at Rto_at Rtk_at Rtf_at Rti_at
attribute [local irreducible] Rg Rt Ro Ri Rc Rto Rtk Rtf Rti Rw Rl Rd Rcall Rtcall kf
theorem fn50 : nth C1.P.funcs.toList 50 = some Try.f50 := by kernel_rfl
theorem fn99 : nth C1.P.funcs.toList 99 = some Try.f99 := by kernel_rfl
theorem fn74 : nth C1.P.funcs.toList 74 = some Try.f74 := by kernel_rfl
theorem fn100 : nth C1.P.funcs.toList 100 = some Try.f100 := by kernel_rfl
theorem fn80 : nth C1.P.funcs.toList 80 = some Try.f80 := by kernel_rfl
theorem fn85 : nth C1.P.funcs.toList 85 = some Try.f85 := by kernel_rfl
theorem fn55 : nth C1.P.funcs.toList 55 = some Try.f55 := by kernel_rfl
theorem fn24 : nth C1.P.funcs.toList 24 = some Try.f24 := by kernel_rfl
def eb (n : Int) : List PC := [.d (.int .u8 n)]
abbrev rB (l : List Int) : PC := .row 1 (l.map eb)
def andI (a b : Int) : Int := IntKind.wrap .i64 (BitVec.ofInt IntKind.i64.bits a &&& BitVec.ofInt IntKind.i64.bits b).toNat
def orI (a b : Int) : Int := IntKind.wrap .i64 (BitVec.ofInt IntKind.i64.bits a ||| BitVec.ofInt IntKind.i64.bits b).toNat
def shrI (a n : Int) : Int := a.fdiv (2 ^ (min n.toNat IntKind.i64.bits))
theorem xint_and (a b : Int) : xint .and .i64 a b = some (.int .i64 (andI a b)) := rfl
theorem xint_or (a b : Int) : xint .or .i64 a b = some (.int .i64 (orI a b)) := rfl
theorem xshr (a : Int) (n : Nat) : xshift .shr .i64 a (n : Nat) = some (.int .i64 (shrI a (n : Nat))) := by
  rw [xshift, if_neg (by omega)]; rfl
theorem shr6 (a : Int) : xshift .shr .i64 a 6 = some (.int .i64 (shrI a 6)) := xshr a 6
theorem shr12 (a : Int) : xshift .shr .i64 a 12 = some (.int .i64 (shrI a 12)) := xshr a 12
theorem shr18 (a : Int) : xshift .shr .i64 a 18 = some (.int .i64 (shrI a 18)) := xshr a 18
def putR (r : Int) : Int := if (leI 0 r && leI r 1114111 && !(leI 55296 r && !leI 57344 r)) = true then r else 65533
/-- The bytes of a code point. -/
def putL (r : Int) : List Int :=
  if leI 128 r = false then [wrapK .u8 r]
  else if leI 2048 r = false then [wrapK .u8 (orI 192 (shrI r 6)), wrapK .u8 (orI 128 (andI r 63))]
  else if leI 65536 r = false then [wrapK .u8 (orI 224 (shrI r 12)), wrapK .u8 (orI 128 (andI (shrI r 6) 63)), wrapK .u8 (orI 128 (andI r 63))]
  else [wrapK .u8 (orI 240 (shrI r 18)), wrapK .u8 (orI 128 (andI (shrI r 12) 63)), wrapK .u8 (orI 128 (andI (shrI r 6) 63)), wrapK .u8 (orI 128 (andI r 63))]
def putB (r : Int) : List Int := putL (putR r)
theorem putB_len (r : Int) : 1 ≤ (putB r).length ∧ (putB r).length ≤ 4 := by
  unfold putB putL
  split
  · simp
  · split
    · simp
    · split <;> simp
theorem put_spec (r : Int) (els : List Int) (hl : els.length ≤ 1000000000) : YC C1 false 50 [.c (.own 0 1 0 (els.map eb).length), yd (.int .i64 r)] [.row 1 (els.map eb)] (KOwn 1 ((els ++ putB r).map eb)) := by
  refine Yf0 [] (by rfl) (by rfl) fn50 (by rfl) ?_
  simp only [Try.f50, List.length_cons, List.length_nil, List.replicate, List.cons_append, List.nil_append]
  have b1 : (els.length + 1) * 1 ≤ 70368744177664 := by omega
  have b2 : (els.length + 2) * 1 ≤ 70368744177664 := by omega
  have b3 : (els.length + 3) * 1 ≤ 70368744177664 := by omega
  have b4 : (els.length + 4) * 1 ≤ 70368744177664 := by omega
  have g1 : leI 128 65533 = true := rfl
  have g2 : leI 2048 65533 = true := rfl
  have g3 : leI 65536 65533 = false := rfl
  cases h1 : leI 0 r with
  | false =>
    cases h2 : leI r 1114111 <;> cases h3 : leI 55296 r <;> cases h4 : leI 57344 r
    all_goals
      have hp : putB r = [wrapK .u8 (orI 224 (shrI 65533 12)), wrapK .u8 (orI 128 (andI (shrI 65533 6) 63)), wrapK .u8 (orI 128 (andI 65533 63))] := by
        simp only [putB, putR, h1, h2, h3, h4, Bool.true_and, Bool.false_and, Bool.and_true, Bool.and_false, Bool.not_true, Bool.not_false, Bool.false_eq_true, if_true, if_false, putL, g1, g2, g3, reduceCtorEq]
      simp -implicitDefEqProofs only [↓yP, yT, Nat.reduceAdd, Nat.reduceMul, Nat.reduceSub, Nat.reduceLeDiff, Nat.reduceEqDiff, reduceCtorEq, Nat.reduceBEq, Nat.reduceLT, shr6, shr12, shr18, xint_and, xint_or, g1, g2, g3, h1, h2, h3, h4, b1, b2, b3, b4]
      refine ⟨[0, 2], by decide, pinned_one _, .inr ⟨?_, ?_⟩⟩
      · simp only [List.length_map, List.length_append, hp]; rfl
      · simp only [yE, Nat.reduceEqDiff, Nat.reduceAdd, reduceCtorEq, List.map_append, hp]; rfl
  | true =>
    cases h2 : leI r 1114111 with
    | false =>
      cases h3 : leI 55296 r <;> cases h4 : leI 57344 r
      all_goals
        have hp : putB r = [wrapK .u8 (orI 224 (shrI 65533 12)), wrapK .u8 (orI 128 (andI (shrI 65533 6) 63)), wrapK .u8 (orI 128 (andI 65533 63))] := by
          simp only [putB, putR, h1, h2, h3, h4, Bool.true_and, Bool.false_and, Bool.and_true, Bool.and_false, Bool.not_true, Bool.not_false, Bool.false_eq_true, if_true, if_false, putL, g1, g2, g3, reduceCtorEq]
        simp -implicitDefEqProofs only [↓yP, yT, Nat.reduceAdd, Nat.reduceMul, Nat.reduceSub, Nat.reduceLeDiff, Nat.reduceEqDiff, reduceCtorEq, Nat.reduceBEq, Nat.reduceLT, shr6, shr12, shr18, xint_and, xint_or, g1, g2, g3, h1, h2, h3, h4, b1, b2, b3, b4]
        refine ⟨[0, 2], by decide, pinned_one _, .inr ⟨?_, ?_⟩⟩
        · simp only [List.length_map, List.length_append, hp]; rfl
        · simp only [yE, Nat.reduceEqDiff, Nat.reduceAdd, reduceCtorEq, List.map_append, hp]; rfl
    | true =>
      cases h3 : leI 55296 r with
      | false =>
        cases h4 : leI 57344 r
        all_goals
          cases h5 : leI 128 r <;> cases h6 : leI 2048 r <;> cases h7 : leI 65536 r
          all_goals
            have hp : putB r = putL r := by
              simp only [putB, putR, h1, h2, h3, h4, Bool.true_and, Bool.false_and, Bool.and_true, Bool.and_false, Bool.not_true, Bool.not_false, Bool.false_eq_true, if_true, if_false]
            simp -implicitDefEqProofs only [↓yP, yT, Nat.reduceAdd, Nat.reduceMul, Nat.reduceSub, Nat.reduceLeDiff, Nat.reduceEqDiff, reduceCtorEq, Nat.reduceBEq, Nat.reduceLT, shr6, shr12, shr18, xint_and, xint_or, h1, h2, h3, h4, h5, h6, h7, b1, b2, b3, b4]
            refine ⟨[0, 2], by decide, pinned_one _, .inr ⟨?_, ?_⟩⟩
            · simp only [List.length_map, List.length_append, hp, putL, h5, h6, h7, if_true, if_false, reduceCtorEq]; rfl
            · simp only [yE, Nat.reduceEqDiff, Nat.reduceAdd, reduceCtorEq, List.map_append, hp, putL, h5, h6, h7]; rfl
      | true =>
        cases h4 : leI 57344 r with
        | false =>
          have hp : putB r = [wrapK .u8 (orI 224 (shrI 65533 12)), wrapK .u8 (orI 128 (andI (shrI 65533 6) 63)), wrapK .u8 (orI 128 (andI 65533 63))] := by
            simp only [putB, putR, h1, h2, h3, h4, Bool.true_and, Bool.false_and, Bool.and_true, Bool.and_false, Bool.not_true, Bool.not_false, Bool.false_eq_true, if_true, if_false, putL, g1, g2, g3, reduceCtorEq]
          simp -implicitDefEqProofs only [↓yP, yT, Nat.reduceAdd, Nat.reduceMul, Nat.reduceSub, Nat.reduceLeDiff, Nat.reduceEqDiff, reduceCtorEq, Nat.reduceBEq, Nat.reduceLT, shr6, shr12, shr18, xint_and, xint_or, g1, g2, g3, h1, h2, h3, h4, b1, b2, b3, b4]
          refine ⟨[0, 2], by decide, pinned_one _, .inr ⟨?_, ?_⟩⟩
          · simp only [List.length_map, List.length_append, hp]; rfl
          · simp only [yE, Nat.reduceEqDiff, Nat.reduceAdd, reduceCtorEq, List.map_append, hp]; rfl
        | true =>
          cases h5 : leI 128 r <;> cases h6 : leI 2048 r <;> cases h7 : leI 65536 r
          all_goals
            have hp : putB r = putL r := by
              simp only [putB, putR, h1, h2, h3, h4, Bool.true_and, Bool.false_and, Bool.and_true, Bool.and_false, Bool.not_true, Bool.not_false, Bool.false_eq_true, if_true, if_false]
            simp -implicitDefEqProofs only [↓yP, yT, Nat.reduceAdd, Nat.reduceMul, Nat.reduceSub, Nat.reduceLeDiff, Nat.reduceEqDiff, reduceCtorEq, Nat.reduceBEq, Nat.reduceLT, shr6, shr12, shr18, xint_and, xint_or, h1, h2, h3, h4, h5, h6, h7, b1, b2, b3, b4]
            refine ⟨[0, 2], by decide, pinned_one _, .inr ⟨?_, ?_⟩⟩
            · simp only [List.length_map, List.length_append, hp, putL, h5, h6, h7, if_true, if_false, reduceCtorEq]; rfl
            · simp only [yE, Nat.reduceEqDiff, Nat.reduceAdd, reduceCtorEq, List.map_append, hp, putL, h5, h6, h7]; rfl
end Go.Vx.Seat
end
/- Escapes, names, texts. -/
section
open Go Go.Vx Go.Proofs
set_option linter.unusedSimpArgs false
set_option linter.unusedVariables false
set_option maxRecDepth 10000
set_option maxHeartbeats 4000000
namespace Go.Vx.Seat
attribute [local congr] Rg_at Rt_at Ro_at Ri_at Rc_at Rto_at Rtk_at Rtf_at Rti_at
attribute [local irreducible] Rg Rt Ro Ri Rc Rto Rtk Rtf Rti Rw Rl Rd Rcall Rtcall kf
theorem hexR_neg {l : List Rn} {k : Nat} (h : l.length ≤ k) : hexR (atR l (k : Nat)) = -1 := by rw [atR_out (by omega)]; exact hexR_out
theorem escaped_spec (l : List Rn) (i : Nat) (hl : l.length ≤ 1000000) (hi : i < l.length) : PCall C1 100 [.c (.p (rR l)), yd (.int .i64 (i : Nat))] fun y => ∃ (x : Int) (k : Nat), y = .tup [yd (.int .i64 x), yd (.int .i64 (k : Nat))] ∧ i < k ∧ k ≤ l.length := by
  have w1 : wrapK .i64 ((i : Int) + 1) = ((i + 1 : Nat) : Int) := wrap_succ (by omega)
  have w2 : wrapK .i64 ((i : Int) + 2) = ((i + 2 : Nat) : Int) := wrap_nat (i := i + 2) (by omega)
  have w7 : wrapK .i64 ((i : Int) + 7) = ((i + 7 : Nat) : Int) := wrap_nat (i := i + 7) (by omega)
  refine Pf (by rfl) (by rfl) fn100 (by rfl) ?_
  simp only [Try.f100, List.length_cons, List.length_nil, List.replicate, List.cons_append, List.nil_append]
  simp -implicitDefEqProofs only [↓yP, yT, Nat.reduceAdd, Nat.reduceMul, Nat.reduceSub, Nat.reduceLeDiff, Nat.reduceEqDiff, reduceCtorEq, Nat.reduceBEq, w1]
  refine Rcall_pure (at_spec l _) (by rfl) fun y hy => ?_
  subst hy
  by_cases h1 : i + 1 < l.length
  · have t1 : leI (l.length : Nat) ((i + 1 : Nat) : Int) = false := leI_false (by omega)
    simp -implicitDefEqProofs only [↓yP, yT, Nat.reduceAdd, Nat.reduceMul, Nat.reduceSub, Nat.reduceLeDiff, Nat.reduceEqDiff, reduceCtorEq, Nat.reduceBEq, t1, w1]
    refine Rcall_pure (hex_spec _) (by rfl) fun y hy => ?_
    subst hy
    cases h2 : leI 0 (hexR (atR l ((i + 1 : Nat) : Int))) with
    | false =>
      simp -implicitDefEqProofs only [↓yP, yT, Nat.reduceAdd, Nat.reduceMul, Nat.reduceSub, Nat.reduceLeDiff, Nat.reduceEqDiff, reduceCtorEq, Nat.reduceBEq, h2, w2]
      exact ⟨_, i + 2, rfl, by omega, by omega⟩
    | true =>
      simp -implicitDefEqProofs only [↓yP, yT, Nat.reduceAdd, Nat.reduceMul, Nat.reduceSub, Nat.reduceLeDiff, Nat.reduceEqDiff, reduceCtorEq, Nat.reduceBEq, h2, w1]
      refine Rl_inv (fun d e s => ∃ (k : Nat) (x : Int), e = [.c (.p (rR l)), yd (.int .i64 (i : Nat)), .c .top, .c .top, .c .top, .c .top, .c .top, yd (.int .i64 x), yd (.int .i64 (k : Nat)), .c .top, .c .top, .c .top, .c .top, .c .top, .c .top, .c .top, .c .top, .c .top, .c .top, .c .top, .c .top, .c .top, .c .top, .c .top, .c .top, .c .top, .c .top, .c .top, .c .top, .c .top, .c .top, .c .top, .c .top, .c .top, .c .top, .c .top, .c .top, .c .top, .c .top, .c .top, .c .top, .c .top, .c .top, .c .top, .c .top, .c .top, .c .top, .c .top, .c .top, .c .top, .c .top, .c .top, .c .top, .c .top, .c .top, .c .top, .c .top, .c .top, .c .top, .c .top, .c .top, .c .top, .c .top, .c .top, .c .top, .c .top, .c .top, .c .top, .c .top, .c .top] ∧ s = [] ∧ k + d = l.length ∧ i < k) [true, true, false, false, false, false, false, true, true] (l.length - (i + 1)) [] (by decide) (pinned_zero _) ⟨i + 1, 0, by simp only [yE, Nat.reduceEqDiff, Nat.reduceAdd, reduceCtorEq], by simp only [yE, Nat.reduceEqDiff, Nat.reduceAdd, reduceCtorEq], by omega, by omega⟩ ?_
      rintro d e s ⟨k, x, rfl, rfl, hd, hk⟩
      by_cases h7 : k < i + 7
      · have t7 : leI ((i + 7 : Nat) : Int) (k : Nat) = false := leI_false (by omega)
        simp -implicitDefEqProofs only [↓yP, yT, Nat.reduceAdd, Nat.reduceMul, Nat.reduceSub, Nat.reduceLeDiff, Nat.reduceEqDiff, reduceCtorEq, Nat.reduceBEq, w7, t7]
        refine Rcall_pure (at_spec l _) (by rfl) fun y hy => ?_
        subst hy
        simp -implicitDefEqProofs only [↓yP, yT, Nat.reduceAdd, Nat.reduceMul, Nat.reduceSub, Nat.reduceLeDiff, Nat.reduceEqDiff, reduceCtorEq, Nat.reduceBEq]
        refine Rcall_pure (hex_spec _) (by rfl) fun y hy => ?_
        subst hy
        cases h8 : leI 0 (hexR (atR l (k : Nat))) with
        | true =>
          have hkl : k < l.length := Nat.lt_of_not_le fun hle => by
            rw [hexR_neg hle] at h8
            exact absurd h8 (by decide)
          have w3 : wrapK .i64 ((k : Int) + 1) = ((k + 1 : Nat) : Int) := wrap_succ (by omega)
          simp -implicitDefEqProofs only [↓yP, yT, Nat.reduceAdd, Nat.reduceMul, Nat.reduceSub, Nat.reduceLeDiff, Nat.reduceEqDiff, reduceCtorEq, Nat.reduceBEq, h8]
          refine Rcall_pure (at_spec l _) (by rfl) fun y hy => ?_
          subst hy
          simp -implicitDefEqProofs only [↓yP, yT, Nat.reduceAdd, Nat.reduceMul, Nat.reduceSub, Nat.reduceLeDiff, Nat.reduceEqDiff, reduceCtorEq, Nat.reduceBEq]
          refine Rcall_pure (hex_spec _) (by rfl) fun y hy => ?_
          subst hy
          simp -implicitDefEqProofs only [↓yP, yT, Nat.reduceAdd, Nat.reduceMul, Nat.reduceSub, Nat.reduceLeDiff, Nat.reduceEqDiff, reduceCtorEq, Nat.reduceBEq, w3]
          refine ⟨d - 1, [], by omega, by decide, pinned_zero _, k + 1, wrapK .i64 (wrapK .i64 (16 * x) + hexR (atR l (k : Nat))), ?_, rfl, by omega, by omega⟩
          simp only [yE, Nat.reduceEqDiff, Nat.reduceAdd, reduceCtorEq]
        | false =>
          simp -implicitDefEqProofs only [↓yP, yT, Nat.reduceAdd, Nat.reduceMul, Nat.reduceSub, Nat.reduceLeDiff, Nat.reduceEqDiff, reduceCtorEq, Nat.reduceBEq, h8]
          refine Rcall_pure (at_spec l _) (by rfl) fun y hy => ?_
          subst hy
          simp -implicitDefEqProofs only [↓yP, yT, Nat.reduceAdd, Nat.reduceMul, Nat.reduceSub, Nat.reduceLeDiff, Nat.reduceEqDiff, reduceCtorEq, Nat.reduceBEq]
          refine Rcall_pure (blank_spec1 _) (by rfl) fun y hy => ?_
          subst hy
          have w3 : wrapK .i64 ((k : Int) + 1) = ((k + 1 : Nat) : Int) := wrap_succ (by omega)
          cases q1 : blankB (atR l (k : Nat)) with
          | false =>
            simp -implicitDefEqProofs only [↓yP, yT, Nat.reduceAdd, Nat.reduceMul, Nat.reduceSub, Nat.reduceLeDiff, Nat.reduceEqDiff, reduceCtorEq, Nat.reduceBEq]
            cases q2 : eqI x 0 with
            | true =>
              simp -implicitDefEqProofs only [↓yP, yT, Nat.reduceAdd, Nat.reduceMul, Nat.reduceSub, Nat.reduceLeDiff, Nat.reduceEqDiff, reduceCtorEq, Nat.reduceBEq, q2, w3]
              exact ⟨_, _, rfl, by omega, by omega⟩
            | false =>
              cases q3 : leI x 1114111 with
              | false =>
                simp -implicitDefEqProofs only [↓yP, yT, Nat.reduceAdd, Nat.reduceMul, Nat.reduceSub, Nat.reduceLeDiff, Nat.reduceEqDiff, reduceCtorEq, Nat.reduceBEq, q2, q3, w3]
                exact ⟨_, _, rfl, by omega, by omega⟩
              | true =>
                cases q4 : leI 55296 x with
                | false =>
                  simp -implicitDefEqProofs only [↓yP, yT, Nat.reduceAdd, Nat.reduceMul, Nat.reduceSub, Nat.reduceLeDiff, Nat.reduceEqDiff, reduceCtorEq, Nat.reduceBEq, q2, q3, q4, w3]
                  exact ⟨_, _, rfl, by omega, by omega⟩
                | true =>
                  cases q5 : leI 57344 x
                  all_goals
                    simp -implicitDefEqProofs only [↓yP, yT, Nat.reduceAdd, Nat.reduceMul, Nat.reduceSub, Nat.reduceLeDiff, Nat.reduceEqDiff, reduceCtorEq, Nat.reduceBEq, q2, q3, q4, q5, w3]
                    exact ⟨_, _, rfl, by omega, by omega⟩
          | true =>
            have hk2 : k < l.length := Nat.lt_of_not_le fun hle => by
              rw [atR_out (by omega)] at q1
              exact absurd q1 (by decide)
            simp -implicitDefEqProofs only [↓yP, yT, Nat.reduceAdd, Nat.reduceMul, Nat.reduceSub, Nat.reduceLeDiff, Nat.reduceEqDiff, reduceCtorEq, Nat.reduceBEq, w3]
            cases q2 : eqI x 0 with
            | true =>
              simp -implicitDefEqProofs only [↓yP, yT, Nat.reduceAdd, Nat.reduceMul, Nat.reduceSub, Nat.reduceLeDiff, Nat.reduceEqDiff, reduceCtorEq, Nat.reduceBEq, q2, w3]
              exact ⟨_, _, rfl, by omega, by omega⟩
            | false =>
              cases q3 : leI x 1114111 with
              | false =>
                simp -implicitDefEqProofs only [↓yP, yT, Nat.reduceAdd, Nat.reduceMul, Nat.reduceSub, Nat.reduceLeDiff, Nat.reduceEqDiff, reduceCtorEq, Nat.reduceBEq, q2, q3, w3]
                exact ⟨_, _, rfl, by omega, by omega⟩
              | true =>
                cases q4 : leI 55296 x with
                | false =>
                  simp -implicitDefEqProofs only [↓yP, yT, Nat.reduceAdd, Nat.reduceMul, Nat.reduceSub, Nat.reduceLeDiff, Nat.reduceEqDiff, reduceCtorEq, Nat.reduceBEq, q2, q3, q4, w3]
                  exact ⟨_, _, rfl, by omega, by omega⟩
                | true =>
                  cases q5 : leI 57344 x
                  all_goals
                    simp -implicitDefEqProofs only [↓yP, yT, Nat.reduceAdd, Nat.reduceMul, Nat.reduceSub, Nat.reduceLeDiff, Nat.reduceEqDiff, reduceCtorEq, Nat.reduceBEq, q2, q3, q4, q5, w3]
                    exact ⟨_, _, rfl, by omega, by omega⟩
      · have t7 : leI ((i + 7 : Nat) : Int) (k : Nat) = true := leI_true (by omega)
        simp -implicitDefEqProofs only [↓yP, yT, Nat.reduceAdd, Nat.reduceMul, Nat.reduceSub, Nat.reduceLeDiff, Nat.reduceEqDiff, reduceCtorEq, Nat.reduceBEq, w7, t7]
        refine Rcall_pure (at_spec l _) (by rfl) fun y hy => ?_
        subst hy
        simp -implicitDefEqProofs only [↓yP, yT, Nat.reduceAdd, Nat.reduceMul, Nat.reduceSub, Nat.reduceLeDiff, Nat.reduceEqDiff, reduceCtorEq, Nat.reduceBEq]
        refine Rcall_pure (blank_spec1 _) (by rfl) fun y hy => ?_
        subst hy
        have w3 : wrapK .i64 ((k : Int) + 1) = ((k + 1 : Nat) : Int) := wrap_succ (by omega)
        cases q1 : blankB (atR l (k : Nat)) with
        | false =>
          simp -implicitDefEqProofs only [↓yP, yT, Nat.reduceAdd, Nat.reduceMul, Nat.reduceSub, Nat.reduceLeDiff, Nat.reduceEqDiff, reduceCtorEq, Nat.reduceBEq]
          cases q2 : eqI x 0 with
          | true =>
            simp -implicitDefEqProofs only [↓yP, yT, Nat.reduceAdd, Nat.reduceMul, Nat.reduceSub, Nat.reduceLeDiff, Nat.reduceEqDiff, reduceCtorEq, Nat.reduceBEq, q2, w3]
            exact ⟨_, _, rfl, by omega, by omega⟩
          | false =>
            cases q3 : leI x 1114111 with
            | false =>
              simp -implicitDefEqProofs only [↓yP, yT, Nat.reduceAdd, Nat.reduceMul, Nat.reduceSub, Nat.reduceLeDiff, Nat.reduceEqDiff, reduceCtorEq, Nat.reduceBEq, q2, q3, w3]
              exact ⟨_, _, rfl, by omega, by omega⟩
            | true =>
              cases q4 : leI 55296 x with
              | false =>
                simp -implicitDefEqProofs only [↓yP, yT, Nat.reduceAdd, Nat.reduceMul, Nat.reduceSub, Nat.reduceLeDiff, Nat.reduceEqDiff, reduceCtorEq, Nat.reduceBEq, q2, q3, q4, w3]
                exact ⟨_, _, rfl, by omega, by omega⟩
              | true =>
                cases q5 : leI 57344 x
                all_goals
                  simp -implicitDefEqProofs only [↓yP, yT, Nat.reduceAdd, Nat.reduceMul, Nat.reduceSub, Nat.reduceLeDiff, Nat.reduceEqDiff, reduceCtorEq, Nat.reduceBEq, q2, q3, q4, q5, w3]
                  exact ⟨_, _, rfl, by omega, by omega⟩
        | true =>
          have hk2 : k < l.length := Nat.lt_of_not_le fun hle => by
            rw [atR_out (by omega)] at q1
            exact absurd q1 (by decide)
          simp -implicitDefEqProofs only [↓yP, yT, Nat.reduceAdd, Nat.reduceMul, Nat.reduceSub, Nat.reduceLeDiff, Nat.reduceEqDiff, reduceCtorEq, Nat.reduceBEq, w3]
          cases q2 : eqI x 0 with
          | true =>
            simp -implicitDefEqProofs only [↓yP, yT, Nat.reduceAdd, Nat.reduceMul, Nat.reduceSub, Nat.reduceLeDiff, Nat.reduceEqDiff, reduceCtorEq, Nat.reduceBEq, q2, w3]
            exact ⟨_, _, rfl, by omega, by omega⟩
          | false =>
            cases q3 : leI x 1114111 with
            | false =>
              simp -implicitDefEqProofs only [↓yP, yT, Nat.reduceAdd, Nat.reduceMul, Nat.reduceSub, Nat.reduceLeDiff, Nat.reduceEqDiff, reduceCtorEq, Nat.reduceBEq, q2, q3, w3]
              exact ⟨_, _, rfl, by omega, by omega⟩
            | true =>
              cases q4 : leI 55296 x with
              | false =>
                simp -implicitDefEqProofs only [↓yP, yT, Nat.reduceAdd, Nat.reduceMul, Nat.reduceSub, Nat.reduceLeDiff, Nat.reduceEqDiff, reduceCtorEq, Nat.reduceBEq, q2, q3, q4, w3]
                exact ⟨_, _, rfl, by omega, by omega⟩
              | true =>
                cases q5 : leI 57344 x
                all_goals
                  simp -implicitDefEqProofs only [↓yP, yT, Nat.reduceAdd, Nat.reduceMul, Nat.reduceSub, Nat.reduceLeDiff, Nat.reduceEqDiff, reduceCtorEq, Nat.reduceBEq, q2, q3, q4, q5, w3]
                  exact ⟨_, _, rfl, by omega, by omega⟩
  · have t1 : leI (l.length : Nat) ((i + 1 : Nat) : Int) = true := leI_true (by omega)
    simp -implicitDefEqProofs only [↓yP, yT, Nat.reduceAdd, Nat.reduceMul, Nat.reduceSub, Nat.reduceLeDiff, Nat.reduceEqDiff, reduceCtorEq, Nat.reduceBEq, t1, w1]
    exact ⟨_, i + 1, rfl, by omega, by omega⟩
theorem ybytes_eb (bs : List Int) : ybytes (bs.map eb) = some (bs.map fun n => Value.int .u8 n) := by
  induction bs with
  | nil => rfl
  | cons n bs ih => simp only [List.map_cons, eb, ybytes, ih]
theorem bytesOf_u8 (bs : List Int) : bytesOf (bs.map fun n => Value.int .u8 n) = some (bs.map fun n => UInt8.ofNat n.toNat) := by
  induction bs with
  | nil => rfl
  | cons n bs ih => simp only [List.map_cons, bytesOf, ih]
def bstr (bs : List Int) : ByteArray := strMk (bs.map fun n => UInt8.ofNat n.toNat)
theorem bstr_len (bs : List Int) : (strOf (bstr bs)).length = bs.length := by simp [bstr, strOf, strMk]
theorem ofBytes (bs : List Int) : (match ybytes (bs.map eb) with | some l => (match bytesOf l with | some b => some (YOut.val (.c (.p (.d (.string (strMk b))))), ([] : Sto)) | none => none) | none => none) = some (YOut.val (yd (.string (bstr bs))), []) := by
  rw [ybytes_eb]
  simp only
  rw [bytesOf_u8]; rfl
end Go.Vx.Seat
end
/- Names and texts. -/
section
open Go Go.Vx Go.Proofs
set_option linter.unusedSimpArgs false
set_option linter.unusedVariables false
set_option maxRecDepth 10000
set_option maxHeartbeats 4000000
namespace Go.Vx.Seat
attribute [local congr] Rg_at Rt_at Ro_at Ri_at Rc_at Rto_at Rtk_at Rtf_at Rti_at
attribute [local irreducible] Rg Rt Ro Ri Rc Rto Rtk Rtf Rti Rw Rl Rd Rcall Rtcall kf
theorem rnGet {l : List Rn} {i : Nat} {x : Rn} (h : l[i]? = some x) : (l.map Rn.pc)[i]? = some [.d (.int .i64 x.r), .d (.int .i64 x.a)] := get_map h
theorem text_spec (l : List Rn) (hl : l.length ≤ 1000000) : PCall C1 99 [.c (.p (rR l))] fun y => ∃ s : ByteArray, y = yd (.string s) ∧ (strOf s).length ≤ 4 * l.length := by
  refine Pf (by rfl) (by rfl) fn99 (by rfl) ?_
  simp only [Try.f99, List.length_cons, List.length_nil, List.replicate, List.cons_append, List.nil_append]
  simp -implicitDefEqProofs only [↓yP, yT, Nat.reduceAdd, Nat.reduceMul, Nat.reduceSub, Nat.reduceLeDiff, Nat.reduceEqDiff, reduceCtorEq, Nat.reduceBEq]
  refine Rl_nil 3 1 (by decide) rfl ?_
  refine Rl_inv (fun d e s => ∃ (i : Nat) (bs : List Int), e = [.c (.p (rR l)), .c .top, .c .top, .c (.own 0 1 0 bs.length), yd (.int .i64 (i : Nat)), .c .top, .c .top, .c .top, .c .top, .c .top, .c .top, .c .top, .c .top, .c .top, .c .top, .c .top, .c .top, .c .top, .c .top, .c .top] ∧ s = [.row 1 (bs.map eb)] ∧ i + d = l.length ∧ bs.length ≤ 4 * i) [true, false, false, true, true] l.length [0] (by decide) (pinned_zero _) ⟨0, [], by (simp only [yE, Nat.reduceEqDiff, Nat.reduceAdd, reduceCtorEq]; try rfl), by (simp only [yE, Nat.reduceEqDiff, Nat.reduceAdd, reduceCtorEq]; try rfl), by omega, by simp⟩ ?_
  rintro d e s ⟨i, bs, rfl, rfl, hd, hb⟩
  by_cases hi : i < l.length
  · obtain ⟨x, hx⟩ := get_lt hi
    have t1 : leI (l.length : Nat) (i : Nat) = false := leI_false (by omega)
    have w1 : wrapK .i64 ((i : Int) + 1) = ((i + 1 : Nat) : Int) := wrap_succ (by omega)
    obtain ⟨p1, p2⟩ := putB_len x.r
    simp -implicitDefEqProofs only [↓yP, yT, Nat.reduceAdd, Nat.reduceMul, Nat.reduceSub, Nat.reduceLeDiff, Nat.reduceEqDiff, reduceCtorEq, Nat.reduceBEq, t1, rnGet hx]
    refine Rcall_own' (els := bs.map eb) (n' := (bs ++ putB x.r).length) (by simp) (by simp) (by rfl) (by rfl) (put_spec x.r bs (by omega)) ?_
    simp -implicitDefEqProofs only [↓yP, yT, Nat.reduceAdd, Nat.reduceMul, Nat.reduceSub, Nat.reduceLeDiff, Nat.reduceEqDiff, reduceCtorEq, Nat.reduceBEq, w1]
    refine ⟨d - 1, [1], by omega, by decide, pinned_zero _, i + 1, bs ++ putB x.r, ?_, ?_, by omega, by simp; omega⟩
    · simp only [yE, Nat.reduceEqDiff, Nat.reduceAdd, reduceCtorEq]
    · simp only [yE, Nat.reduceEqDiff, Nat.reduceAdd, reduceCtorEq]
  · have t1 : leI (l.length : Nat) (i : Nat) = true := leI_true (by omega)
    simp -implicitDefEqProofs only [↓yP, yT, Nat.reduceAdd, Nat.reduceMul, Nat.reduceSub, Nat.reduceLeDiff, Nat.reduceEqDiff, reduceCtorEq, Nat.reduceBEq, t1, ybytes_eb, bytesOf_u8]
    exact ⟨bstr bs, rfl, by rw [bstr_len]; omega⟩
theorem raw_spec (l : List Rn) (i k : Nat) (hl : l.length ≤ 1000000) (hi : i ≤ k) (hk : k ≤ l.length) : PCall C1 74 [.c (.p (rR l)), yd (.int .i64 (i : Nat)), yd (.int .i64 (k : Nat))] fun y => ∃ s : ByteArray, y = yd (.string s) ∧ (strOf s).length ≤ 4 * l.length := by
  refine Pf (by rfl) (by rfl) fn74 (by rfl) ?_
  simp only [Try.f74, List.length_cons, List.length_nil, List.replicate, List.cons_append, List.nil_append]
  have c1 : (0 : Int) ≤ (i : Nat) := by omega
  have c2 : ((i : Nat) : Int) ≤ (k : Nat) := by omega
  have c3 : ((k : Nat) : Int) ≤ (l.length : Nat) := by omega
  simp -implicitDefEqProofs only [↓yP, yT, Nat.reduceAdd, Nat.reduceMul, Nat.reduceSub, Nat.reduceLeDiff, Nat.reduceEqDiff, reduceCtorEq, Nat.reduceBEq, c1, c2, c3, ← List.map_take, ← List.map_drop]
  refine Rcall_pure (text_spec ((l.drop i).take (k - i)) (by simp; omega)) (by rfl) fun y hy => ?_
  obtain ⟨s, rfl, hs⟩ := hy
  simp -implicitDefEqProofs only [↓yP, yT, Nat.reduceAdd, Nat.reduceMul, Nat.reduceSub, Nat.reduceLeDiff, Nat.reduceEqDiff, reduceCtorEq, Nat.reduceBEq]
  exact ⟨s, rfl, by simp at hs; omega⟩
theorem take_spec (l : List Rn) (i : Nat) (hl : l.length ≤ 1000000) (hi : i ≤ l.length) : PCall C1 80 [.c (.p (rR l)), yd (.int .i64 (i : Nat))] fun y => ∃ (s : ByteArray) (k : Nat), y = .tup [yd (.string s), yd (.int .i64 (k : Nat))] ∧ i ≤ k ∧ k ≤ l.length ∧ (strOf s).length ≤ 4 * l.length ∧ (inB (atR l (i : Nat)) = true ∨ escB l i = true → i < k) ∧ (inB (atR l (i : Nat)) = true → inB (atR l ((i + 1 : Nat) : Int)) = false → escB l (i + 1) = false → k = i + 1) := by
  refine Pf (by rfl) (by rfl) fn80 (by rfl) ?_
  simp only [Try.f80, List.length_cons, List.length_nil, List.replicate, List.cons_append, List.nil_append]
  simp -implicitDefEqProofs only [↓yP, yT, Nat.reduceAdd, Nat.reduceMul, Nat.reduceSub, Nat.reduceLeDiff, Nat.reduceEqDiff, reduceCtorEq, Nat.reduceBEq]
  refine Rcall_pure (cap_spec _ _ _) (by rfl) fun y hy => ?_
  rw [if_neg (by omega), if_neg (by omega)] at hy
  subst hy
  simp -implicitDefEqProofs only [↓yP, yT, Nat.reduceAdd, Nat.reduceMul, Nat.reduceSub, Nat.reduceLeDiff, Nat.reduceEqDiff, reduceCtorEq, Nat.reduceBEq]
  refine Rl_nil 6 1 (by decide) rfl ?_
  refine Rl_inv (fun d e s => ∃ (k : Nat) (bs : List Int), e = [.c (.p (rR l)), yd (.int .i64 (k : Nat)), .c .top, .c .top, .c .top, .c .top, .c (.own 0 1 0 bs.length), .c .top, .c .top, .c .top, .c .top, .c .top, .c .top, .c .top, .c .top, .c .top, .c .top, .c .top, .c .top, .c .top, .c .top, .c .top, .c .top, .c .top, .c .top, .c .top, .c .top, .c .top, .c .top, .c .top, .c .top, .c .top, .c .top, .c .top, .c .top, .c .top, .c .top, .c .top, .c .top, .c .top, .c .top, .c .top, .c .top, .c .top, .c .top, .c .top, .c .top, .c .top, .c .top, .c .top, .c .top, .c .top, .c .top] ∧ s = [.row 1 (bs.map eb)] ∧ k + d = l.length ∧ i ≤ k ∧ bs.length ≤ 4 * k ∧ (inB (atR l (i : Nat)) = true → inB (atR l ((i + 1 : Nat) : Int)) = false → escB l (i + 1) = false → k ≤ i + 1)) [true, true, false, false, false, false, true] (l.length - i) [0] (by decide) (pinned_zero _) ⟨i, [], by (simp only [yE, Nat.reduceEqDiff, Nat.reduceAdd, reduceCtorEq]; try rfl), by (simp only [yE, Nat.reduceEqDiff, Nat.reduceAdd, reduceCtorEq]; try rfl), by omega, by omega, by simp, fun _ _ _ => by omega⟩ ?_
  rintro d e s ⟨k, bs, rfl, rfl, hd, hk, hb, hx1⟩
  by_cases hkl : k < l.length
  · obtain ⟨x, hx⟩ := get_lt hkl
    have hat := atR_get hx
    have t1 : leI (l.length : Nat) (k : Nat) = false := leI_false (by omega)
    have w1 : wrapK .i64 ((k : Int) + 1) = ((k + 1 : Nat) : Int) := wrap_succ (by omega)
    simp -implicitDefEqProofs only [↓yP, yT, Nat.reduceAdd, Nat.reduceMul, Nat.reduceSub, Nat.reduceLeDiff, Nat.reduceEqDiff, reduceCtorEq, Nat.reduceBEq, t1, rnGet hx]
    refine Rcall_pure (in_spec1 _) (by rfl) fun y hy => ?_
    subst hy
    cases h1 : inB x.r with
    | true =>
      obtain ⟨p1, p2⟩ := putB_len x.r
      simp -implicitDefEqProofs only [↓yP, yT, Nat.reduceAdd, Nat.reduceMul, Nat.reduceSub, Nat.reduceLeDiff, Nat.reduceEqDiff, reduceCtorEq, Nat.reduceBEq, rnGet hx]
      refine Rcall_own' (els := bs.map eb) (n' := (bs ++ putB x.r).length) (by simp) (by simp) (by rfl) (by rfl) (put_spec x.r bs (by omega)) ?_
      simp -implicitDefEqProofs only [↓yP, yT, Nat.reduceAdd, Nat.reduceMul, Nat.reduceSub, Nat.reduceLeDiff, Nat.reduceEqDiff, reduceCtorEq, Nat.reduceBEq, w1]
      refine ⟨d - 1, [1], by omega, by decide, pinned_zero _, k + 1, bs ++ putB x.r, ?_, ?_, by omega, by omega, by simp; omega, fun a1 a2 a3 => ?_⟩
      · (simp only [yE, Nat.reduceEqDiff, Nat.reduceAdd, reduceCtorEq]; try rfl)
      · (simp only [yE, Nat.reduceEqDiff, Nat.reduceAdd, reduceCtorEq]; try rfl)
      · have := hx1 a1 a2 a3
        rcases Nat.lt_or_ge i k with g | g
        · obtain rfl : k = i + 1 := by omega
          rw [hat, h1] at a2
          cases a2
        · omega
    | false =>
      simp -implicitDefEqProofs only [↓yP, yT, Nat.reduceAdd, Nat.reduceMul, Nat.reduceSub, Nat.reduceLeDiff, Nat.reduceEqDiff, reduceCtorEq, Nat.reduceBEq]
      refine Rcall_pure (escape_spec l k (by omega)) (by rfl) fun y hy => ?_
      subst hy
      cases h2 : escB l k with
      | true =>
        simp -implicitDefEqProofs only [↓yP, yT, Nat.reduceAdd, Nat.reduceMul, Nat.reduceSub, Nat.reduceLeDiff, Nat.reduceEqDiff, reduceCtorEq, Nat.reduceBEq]
        refine Rcall_pure (escaped_spec l k hl hkl) (by rfl) fun y hy => ?_
        obtain ⟨z, k', rfl, hk1, hk2⟩ := hy
        obtain ⟨p1, p2⟩ := putB_len z
        simp -implicitDefEqProofs only [↓yP, yT, Nat.reduceAdd, Nat.reduceMul, Nat.reduceSub, Nat.reduceLeDiff, Nat.reduceEqDiff, reduceCtorEq, Nat.reduceBEq]
        refine Rcall_own' (els := bs.map eb) (n' := (bs ++ putB z).length) (by simp) (by simp) (by rfl) (by rfl) (put_spec z bs (by omega)) ?_
        simp -implicitDefEqProofs only [↓yP, yT, Nat.reduceAdd, Nat.reduceMul, Nat.reduceSub, Nat.reduceLeDiff, Nat.reduceEqDiff, reduceCtorEq, Nat.reduceBEq]
        refine ⟨l.length - k', [1], by omega, by decide, pinned_zero _, k', bs ++ putB z, ?_, ?_, by omega, by omega, by simp; omega, fun a1 a2 a3 => ?_⟩
        · (simp only [yE, Nat.reduceEqDiff, Nat.reduceAdd, reduceCtorEq]; try rfl)
        · (simp only [yE, Nat.reduceEqDiff, Nat.reduceAdd, reduceCtorEq]; try rfl)
        · have := hx1 a1 a2 a3
          rcases Nat.lt_or_ge i k with g | g
          · obtain rfl : k = i + 1 := by omega
            rw [h2] at a3
            cases a3
          · obtain rfl : k = i := by omega
            rw [hat, h1] at a1
            cases a1
      | false =>
        simp -implicitDefEqProofs only [↓yP, yT, Nat.reduceAdd, Nat.reduceMul, Nat.reduceSub, Nat.reduceLeDiff, Nat.reduceEqDiff, reduceCtorEq, Nat.reduceBEq, ybytes_eb, bytesOf_u8]
        refine ⟨bstr bs, k, rfl, by omega, by omega, by rw [bstr_len]; omega, ?_, ?_⟩
        · rintro (a | a)
          · rcases Nat.lt_or_ge i k with g | g
            · exact g
            · obtain rfl : k = i := by omega
              rw [hat, h1] at a
              cases a
          · rcases Nat.lt_or_ge i k with g | g
            · exact g
            · obtain rfl : k = i := by omega
              rw [h2] at a
              cases a
        · intro a1 a2 a3
          have := hx1 a1 a2 a3
          rcases Nat.lt_or_ge i k with g | g
          · omega
          · obtain rfl : k = i := by omega
            rw [hat, h1] at a1
            cases a1
  · have t1 : leI (l.length : Nat) (k : Nat) = true := leI_true (by omega)
    have hout : ∀ j : Nat, l.length ≤ j → inB (atR l (j : Nat)) = false := fun j hj => by rw [atR_out (by omega)]; rfl
    have hoe : ∀ j : Nat, l.length ≤ j → escB l j = false := fun j hj => by rw [escB, atR_out (by omega)]; rfl
    simp -implicitDefEqProofs only [↓yP, yT, Nat.reduceAdd, Nat.reduceMul, Nat.reduceSub, Nat.reduceLeDiff, Nat.reduceEqDiff, reduceCtorEq, Nat.reduceBEq, t1, ybytes_eb, bytesOf_u8]
    refine ⟨bstr bs, k, rfl, by omega, by omega, by rw [bstr_len]; omega, ?_, ?_⟩
    · intro a
      rcases Nat.lt_or_ge i l.length with g | g
      · omega
      · rw [hout i g, hoe i g] at a
        simp at a
    · intro a1 a2 a3
      have := hx1 a1 a2 a3
      rcases Nat.lt_or_ge i k with g | g
      · omega
      · rw [hout i (by omega)] at a1
        cases a1
end Go.Vx.Seat
end
/- Does a text stand at a place? The next code point of bytes. -/
section
open Go Go.Vx Go.Proofs
set_option linter.unusedSimpArgs false
set_option linter.unusedVariables false
set_option maxRecDepth 10000
set_option maxHeartbeats 4000000
namespace Go.Vx.Seat
attribute [local congr] Rg_at Rt_at Ro_at Ri_at Rc_at Rto_at Rtk_at Rtf_at Rti_at
attribute [local irreducible] Rg Rt Ro Ri Rc Rto Rtk Rtf Rti Rw Rl Rd Rcall Rtcall kf
theorem fn73 : nth C1.P.funcs.toList 73 = some Try.f73 := by kernel_rfl
def followsB (l : List Rn) : Nat → List UInt8 → Bool
  | _, [] => true
  | i, c :: cs => eqI (atR l (i : Nat)) (c.toNat : Nat) && followsB l (i + 1) cs
theorem followsB_not {l : List Rn} {i : Nat} {c : UInt8} {cs : List UInt8} (h : atR l (i : Nat) ≠ (c.toNat : Nat)) : followsB l i (c :: cs) = false := by
  rw [followsB, eqI_false h]; rfl
theorem u8_i64 (c : UInt8) : wrapK .i64 ((c.toNat : Nat) : Int) = (c.toNat : Nat) := wrap_nat (by have := c.toNat_lt; omega)
theorem follows_spec (l : List Rn) (i : Nat) (s : ByteArray) (hi : i ≤ 4000000) (hs : (strOf s).length ≤ 100) : PCall C1 73 [.c (.p (rR l)), yd (.int .i64 (i : Nat)), yd (.string s)] fun y => y = yd (.bool (followsB l i (strOf s))) := by
  refine Pf (by rfl) (by rfl) fn73 (by rfl) ?_
  simp only [Try.f73, List.length_cons, List.length_nil, List.replicate, List.cons_append, List.nil_append]
  simp -implicitDefEqProofs only [↓yP, yT, Nat.reduceAdd, Nat.reduceMul, Nat.reduceSub, Nat.reduceLeDiff, Nat.reduceEqDiff, reduceCtorEq, Nat.reduceBEq]
  refine Rl_inv (fun d e st => ∃ k : Nat, e = [.c (.p (rR l)), yd (.int .i64 (i : Nat)), yd (.string s), .c .top, .c .top, .c .top, .c .top, yd (.int .i64 (k : Nat)), .c .top, .c .top, .c .top, .c .top, .c .top, .c .top, .c .top, .c .top, .c .top, .c .top, .c .top, .c .top, .c .top, .c .top, .c .top, .c .top] ∧ st = [] ∧ k + d = (strOf s).length ∧ followsB l (i + k) ((strOf s).drop k) = followsB l i (strOf s)) [true, true, true, false, false, false, false, true] (strOf s).length [] (by decide) (pinned_zero _) ⟨0, by (simp only [yE, Nat.reduceEqDiff, Nat.reduceAdd, reduceCtorEq]; try rfl), by (simp only [yE, Nat.reduceEqDiff, Nat.reduceAdd, reduceCtorEq]; try rfl), by omega, rfl⟩ ?_
  rintro d e st ⟨k, rfl, rfl, hd, hf⟩
  by_cases hk : k < (strOf s).length
  · obtain ⟨c, hc⟩ := get_lt hk
    have t1 : leI ((strOf s).length : Nat) (k : Nat) = false := leI_false (by omega)
    have w1 : wrapK .i64 ((k : Int) + 1) = ((k + 1 : Nat) : Int) := wrap_succ (by omega)
    have w2 : wrapK .i64 ((i : Int) + (k : Nat)) = ((i + k : Nat) : Int) := wrap_nat (i := i + k) (by omega)
    have hdr : (strOf s).drop k = c :: (strOf s).drop (k + 1) := by
      rw [List.getElem?_eq_getElem hk] at hc
      cases hc
      exact List.drop_eq_getElem_cons hk
    rw [hdr, followsB] at hf
    simp -implicitDefEqProofs only [↓yP, yT, Nat.reduceAdd, Nat.reduceMul, Nat.reduceSub, Nat.reduceLeDiff, Nat.reduceEqDiff, reduceCtorEq, Nat.reduceBEq, opLen.eq_1, xindex.eq_1, xslice.eq_1, Int.toNat_natCast, t1]
    refine Rd_calm (by rw [C1_P]; kernel_rfl) ?_
    simp -implicitDefEqProofs only [↓yP, yT, Nat.reduceAdd, Nat.reduceMul, Nat.reduceSub, Nat.reduceLeDiff, Nat.reduceEqDiff, reduceCtorEq, Nat.reduceBEq, opLen.eq_1, xindex.eq_1, xslice.eq_1, Int.toNat_natCast, w2]
    refine Rcall_pure (at_spec l _) (by rfl) fun y hy => ?_
    subst hy
    cases h1 : eqI (atR l ((i + k : Nat) : Int)) ((c.toNat : Nat) : Int) with
    | true =>
      rw [h1, Bool.true_and] at hf
      simp -implicitDefEqProofs only [↓yP, yT, Nat.reduceAdd, Nat.reduceMul, Nat.reduceSub, Nat.reduceLeDiff, Nat.reduceEqDiff, reduceCtorEq, Nat.reduceBEq, opLen.eq_1, xindex.eq_1, xslice.eq_1, Int.toNat_natCast, hc, u8_i64, h1, w1, nn]
      refine ⟨d - 1, [], by omega, by decide, pinned_zero _, k + 1, by (simp only [yE, Nat.reduceEqDiff, Nat.reduceAdd, reduceCtorEq]; try rfl), rfl, by omega, by rw [← hf]; rfl⟩
    | false =>
      rw [h1, Bool.false_and] at hf
      simp -implicitDefEqProofs only [↓yP, yT, Nat.reduceAdd, Nat.reduceMul, Nat.reduceSub, Nat.reduceLeDiff, Nat.reduceEqDiff, reduceCtorEq, Nat.reduceBEq, opLen.eq_1, xindex.eq_1, xslice.eq_1, Int.toNat_natCast, hc, u8_i64, h1, w1, nn, ← hf]
  · have t1 : leI ((strOf s).length : Nat) (k : Nat) = true := leI_true (by omega)
    rw [List.drop_eq_nil_of_le (by omega), followsB] at hf
    simp -implicitDefEqProofs only [↓yP, yT, Nat.reduceAdd, Nat.reduceMul, Nat.reduceSub, Nat.reduceLeDiff, Nat.reduceEqDiff, reduceCtorEq, Nat.reduceBEq, opLen.eq_1, xindex.eq_1, xslice.eq_1, Int.toNat_natCast, t1, ← hf]
end Go.Vx.Seat
end
/- The next code point of bytes; code points. -/
section
open Go Go.Vx Go.Proofs
set_option linter.unusedSimpArgs false
set_option linter.unusedVariables false
set_option maxRecDepth 10000
set_option maxHeartbeats 4000000
namespace Go.Vx.Seat
attribute [local congr] Rg_at Rt_at Ro_at Ri_at Rc_at Rto_at Rtk_at Rtf_at Rti_at
attribute [local irreducible] Rg Rt Ro Ri Rc Rto Rtk Rtf Rti Rw Rl Rd Rcall Rtcall kf
theorem ebGet {l : List Int} {i : Nat} {c : Int} (h : l[i]? = some c) : (l.map eb)[i]? = some [.d (.int .u8 c)] := get_map h
theorem tail_spec (bs : List Int) (k : Nat) : PCall C1 85 [.c (.p (rB bs)), yd (.int .i64 (k : Nat))] fun y => ∃ (x : Int) (b : Bool), y = .tup [yd (.int .i64 x), yd (.bool b)] ∧ (b = true → k < bs.length) := by
  refine Pf (by rfl) (by rfl) fn85 (by rfl) ?_
  simp only [Try.f85, List.length_cons, List.length_nil, List.replicate, List.cons_append, List.nil_append]
  by_cases hk : k < bs.length
  · obtain ⟨c, hc⟩ := get_lt hk
    have t1 : leI (bs.length : Nat) (k : Nat) = false := leI_false (by omega)
    cases h1 : eqI (IntKind.wrap .u8 (BitVec.ofInt IntKind.u8.bits c &&& BitVec.ofInt IntKind.u8.bits 192).toNat) 128
    all_goals
      simp -implicitDefEqProofs only [↓yP, yT, Nat.reduceAdd, Nat.reduceMul, Nat.reduceSub, Nat.reduceLeDiff, Nat.reduceEqDiff, reduceCtorEq, Nat.reduceBEq, t1, ebGet hc, h1]
      exact ⟨_, _, rfl, fun _ => hk⟩
  · have t1 : leI (bs.length : Nat) (k : Nat) = true := leI_true (by omega)
    simp -implicitDefEqProofs only [↓yP, yT, Nat.reduceAdd, Nat.reduceMul, Nat.reduceSub, Nat.reduceLeDiff, Nat.reduceEqDiff, reduceCtorEq, Nat.reduceBEq, t1]
    exact ⟨_, _, rfl, fun h => by cases h⟩
def shl6 (a : Int) : Int := IntKind.wrap .i64 (a * 2 ^ (min (6 : Int).toNat IntKind.i64.bits))
theorem xshl6 (a : Int) : xshift .shl .i64 a 6 = some (.int .i64 (shl6 a)) := by
  rw [xshift, if_neg (by omega)]; rfl
theorem next_spec (bs : List Int) (i : Nat) (hl : bs.length ≤ 1000000) (hi : i < bs.length) : PCall C1 55 [.c (.p (rB bs)), yd (.int .i64 (i : Nat))] fun y => ∃ (r : Int) (n : Nat) (ok : Bool), y = .tup [yd (.int .i64 r), yd (.int .i64 (n : Nat)), yd (.bool ok)] ∧ 1 ≤ n ∧ i + n ≤ bs.length ∧ (∀ c, bs[i]? = some c → 0 ≤ c → c < 128 → r = c ∧ n = 1) := by
  refine Pf (by rfl) (by rfl) fn55 (by rfl) ?_
  simp only [Try.f55, List.length_cons, List.length_nil, List.replicate, List.cons_append, List.nil_append]
  obtain ⟨c, hc⟩ := get_lt hi
  have t0 : leI 0 (i : Nat) = true := leI_true (by omega)
  have t1 : leI (bs.length : Nat) (i : Nat) = false := leI_false (by omega)
  cases h1 : leI 128 (wrapK .i64 c) with
  | false =>
    have h1' := of_leF h1
    simp -implicitDefEqProofs only [↓yP, yT, Nat.reduceAdd, Nat.reduceMul, Nat.reduceSub, Nat.reduceLeDiff, Nat.reduceEqDiff, reduceCtorEq, Nat.reduceBEq, t0, t1, ebGet hc, h1]
    refine Rl_inv (fun d e s => ∃ (j : Nat) (x : Int), e = [.c (.p (rB bs)), yd (.int .i64 (i : Nat)), .c .top, .c .top, .c .top, .c .top, .c .top, .c .top, yd (.int .i64 1), yd (.int .i64 x), yd (.int .i64 0), yd (.int .i64 (j : Nat)), .c .top, .c .top, .c .top, .c .top, .c .top, .c .top, .c .top, .c .top, .c .top, .c .top, .c .top, .c .top, .c .top, .c .top, .c .top, .c .top, .c .top, .c .top, .c .top, .c .top, .c .top, .c .top, .c .top, .c .top, .c .top, .c .top, .c .top, .c .top, .c .top, .c .top, .c .top, .c .top, .c .top, .c .top, .c .top, .c .top, .c .top, .c .top, .c .top, .c .top, .c .top, .c .top, .c .top, .c .top, .c .top, .c .top, .c .top, .c .top, .c .top, .c .top, .c .top, .c .top, .c .top, .c .top, .c .top, .c .top, .c .top, .c .top, .c .top, .c .top, .c .top, .c .top, .c .top, .c .top, .c .top, .c .top, .c .top, .c .top, .c .top, .c .top, .c .top, .c .top, .c .top, .c .top, .c .top, .c .top, .c .top, .c .top, .c .top, .c .top, .c .top, .c .top] ∧ s = [] ∧ j + d = 1 ∧ 1 ≤ j ∧ i + j ≤ bs.length ∧ (wrapK .i64 c < 128 → x = wrapK .i64 c)) [true, true, false, false, false, false, false, false, true, true, true, true] (1 - 1) [] (by decide) (pinned_zero _) ⟨1, wrapK .i64 c, by (simp only [yE, Nat.reduceEqDiff, Nat.reduceAdd, reduceCtorEq]; try rfl), by (simp only [yE, Nat.reduceEqDiff, Nat.reduceAdd, reduceCtorEq]; try rfl), by omega, by omega, by omega, fun hlt => by first | rfl | (exfalso; omega)⟩ ?_
    rintro d e s ⟨j, x, rfl, rfl, hd, hj, hij, hx⟩
    by_cases hjn : j < 1
    · have t1 : leI 1 (j : Nat) = false := leI_false (by omega)
      have w2 : wrapK .i64 ((i : Int) + (j : Nat)) = ((i + j : Nat) : Int) := wrap_nat (i := i + j) (by omega)
      have w1 : wrapK .i64 ((j : Int) + 1) = ((j + 1 : Nat) : Int) := wrap_succ (by omega)
      simp -implicitDefEqProofs only [↓yP, yT, Nat.reduceAdd, Nat.reduceMul, Nat.reduceSub, Nat.reduceLeDiff, Nat.reduceEqDiff, reduceCtorEq, Nat.reduceBEq, t1, w2]
      refine Rcall_pure (tail_spec bs (i + j)) (by rfl) fun y hy => ?_
      obtain ⟨z, b, rfl, hb⟩ := hy
      cases b with
      | false =>
        simp -implicitDefEqProofs only [↓yP, yT, Nat.reduceAdd, Nat.reduceMul, Nat.reduceSub, Nat.reduceLeDiff, Nat.reduceEqDiff, reduceCtorEq, Nat.reduceBEq]
        refine ⟨_, 1, _, rfl, by omega, by omega, fun c' hc' h1 h2 => ?_⟩
        exfalso
        rw [hc] at hc'
        cases hc'
        have e1 : wrapK .i64 c = c := wrap_int (by omega) (by omega)
        omega
      | true =>
        have hb := hb rfl
        simp -implicitDefEqProofs only [↓yP, yT, Nat.reduceAdd, Nat.reduceMul, Nat.reduceSub, Nat.reduceLeDiff, Nat.reduceEqDiff, reduceCtorEq, Nat.reduceBEq, w1, xshl6]
        refine ⟨d - 1, [], by omega, by decide, pinned_zero _, j + 1, orI (shl6 x) z, by (simp only [yE, Nat.reduceEqDiff, Nat.reduceAdd, reduceCtorEq]; try rfl), rfl, by omega, by omega, by omega, fun hlt => by exfalso; omega⟩
    · have t1 : leI 1 (j : Nat) = true := leI_true (by omega)
      simp -implicitDefEqProofs only [↓yP, yT, Nat.reduceAdd, Nat.reduceMul, Nat.reduceSub, Nat.reduceLeDiff, Nat.reduceEqDiff, reduceCtorEq, Nat.reduceBEq, t1]
      cases f1 : leI 0 x with
      | false =>
        simp -implicitDefEqProofs only [↓yP, yT, Nat.reduceAdd, Nat.reduceMul, Nat.reduceSub, Nat.reduceLeDiff, Nat.reduceEqDiff, reduceCtorEq, Nat.reduceBEq, f1]
        refine ⟨_, 1, _, rfl, by omega, by omega, fun c' hc' h1 h2 => ?_⟩
        exfalso
        have := of_leF f1
        rw [hc] at hc'
        cases hc'
        have e1 : wrapK .i64 c = c := wrap_int (by omega) (by omega)
        have e2 := hx (by omega)
        omega
      | true =>
        cases f2 : leI x 1114111 with
        | false =>
          simp -implicitDefEqProofs only [↓yP, yT, Nat.reduceAdd, Nat.reduceMul, Nat.reduceSub, Nat.reduceLeDiff, Nat.reduceEqDiff, reduceCtorEq, Nat.reduceBEq, f1, f2]
          refine ⟨_, 1, _, rfl, by omega, by omega, fun c' hc' h1 h2 => ?_⟩
          exfalso
          have := of_leF f2
          rw [hc] at hc'
          cases hc'
          have e1 : wrapK .i64 c = c := wrap_int (by omega) (by omega)
          have e2 := hx (by omega)
          omega
        | true =>
          cases f3 : leI 55296 x with
          | false =>
            simp -implicitDefEqProofs only [↓yP, yT, Nat.reduceAdd, Nat.reduceMul, Nat.reduceSub, Nat.reduceLeDiff, Nat.reduceEqDiff, reduceCtorEq, Nat.reduceBEq, f1, f2, f3]
            refine ⟨_, 1, _, rfl, by omega, by omega, fun c' hc' h1 h2 => ?_⟩
            rw [hc] at hc'
            cases hc'
            have e1 : wrapK .i64 c = c := wrap_int (by omega) (by omega)
            have e2 := hx (by omega)
            exact ⟨by omega, rfl⟩
          | true =>
            cases f4 : leI 57344 x with
            | false =>
              simp -implicitDefEqProofs only [↓yP, yT, Nat.reduceAdd, Nat.reduceMul, Nat.reduceSub, Nat.reduceLeDiff, Nat.reduceEqDiff, reduceCtorEq, Nat.reduceBEq, f1, f2, f3, f4]
              refine ⟨_, 1, _, rfl, by omega, by omega, fun c' hc' h1 h2 => ?_⟩
              exfalso
              have := of_leF f4
              have := of_leT f3
              rw [hc] at hc'
              cases hc'
              have e1 : wrapK .i64 c = c := wrap_int (by omega) (by omega)
              have e2 := hx (by omega)
              omega
            | true =>
              simp -implicitDefEqProofs only [↓yP, yT, Nat.reduceAdd, Nat.reduceMul, Nat.reduceSub, Nat.reduceLeDiff, Nat.reduceEqDiff, reduceCtorEq, Nat.reduceBEq, f1, f2, f3, f4]
              refine ⟨_, 1, _, rfl, by omega, by omega, fun c' hc' h1 h2 => ?_⟩
              rw [hc] at hc'
              cases hc'
              have e1 : wrapK .i64 c = c := wrap_int (by omega) (by omega)
              have e2 := hx (by omega)
              exact ⟨by omega, rfl⟩
  | true =>
    have h1' := of_leT h1
    cases h2 : leI 192 (wrapK .i64 c) with
    | false =>
      have h2' := of_leF h2
      have h3 : leI 224 (wrapK .i64 c) = false := leI_false (by omega)
      have h4 : leI 240 (wrapK .i64 c) = false := leI_false (by omega)
      simp -implicitDefEqProofs only [↓yP, yT, Nat.reduceAdd, Nat.reduceMul, Nat.reduceSub, Nat.reduceLeDiff, Nat.reduceEqDiff, reduceCtorEq, Nat.reduceBEq, t0, t1, ebGet hc, h1, h2, h3, h4]
      refine ⟨_, 1, _, rfl, by omega, by omega, fun c' hc' g1 g2 => ?_⟩
      exfalso
      rw [hc] at hc'
      cases hc'
      have e1 : wrapK .i64 c = c := wrap_int (by omega) (by omega)
      omega
    | true =>
      cases h3 : leI 224 (wrapK .i64 c) with
      | false =>
        simp -implicitDefEqProofs only [↓yP, yT, Nat.reduceAdd, Nat.reduceMul, Nat.reduceSub, Nat.reduceLeDiff, Nat.reduceEqDiff, reduceCtorEq, Nat.reduceBEq, t0, t1, ebGet hc, h1, h2, h3]
        refine Rl_inv (fun d e s => ∃ (j : Nat) (x : Int), e = [.c (.p (rB bs)), yd (.int .i64 (i : Nat)), .c .top, .c .top, .c .top, .c .top, .c .top, .c .top, yd (.int .i64 2), yd (.int .i64 x), yd (.int .i64 128), yd (.int .i64 (j : Nat)), .c .top, .c .top, .c .top, .c .top, .c .top, .c .top, .c .top, .c .top, .c .top, .c .top, .c .top, .c .top, .c .top, .c .top, .c .top, .c .top, .c .top, .c .top, .c .top, .c .top, .c .top, .c .top, .c .top, .c .top, .c .top, .c .top, .c .top, .c .top, .c .top, .c .top, .c .top, .c .top, .c .top, .c .top, .c .top, .c .top, .c .top, .c .top, .c .top, .c .top, .c .top, .c .top, .c .top, .c .top, .c .top, .c .top, .c .top, .c .top, .c .top, .c .top, .c .top, .c .top, .c .top, .c .top, .c .top, .c .top, .c .top, .c .top, .c .top, .c .top, .c .top, .c .top, .c .top, .c .top, .c .top, .c .top, .c .top, .c .top, .c .top, .c .top, .c .top, .c .top, .c .top, .c .top, .c .top, .c .top, .c .top, .c .top, .c .top, .c .top, .c .top, .c .top] ∧ s = [] ∧ j + d = 2 ∧ 1 ≤ j ∧ i + j ≤ bs.length ∧ (wrapK .i64 c < 128 → x = wrapK .i64 c)) [true, true, false, false, false, false, false, false, true, true, true, true] (2 - 1) [] (by decide) (pinned_zero _) ⟨1, andI (wrapK .i64 c) 31, by (simp only [yE, Nat.reduceEqDiff, Nat.reduceAdd, reduceCtorEq]; try rfl), by (simp only [yE, Nat.reduceEqDiff, Nat.reduceAdd, reduceCtorEq]; try rfl), by omega, by omega, by omega, fun hlt => by first | rfl | (exfalso; omega)⟩ ?_
        rintro d e s ⟨j, x, rfl, rfl, hd, hj, hij, hx⟩
        by_cases hjn : j < 2
        · have t1 : leI 2 (j : Nat) = false := leI_false (by omega)
          have w2 : wrapK .i64 ((i : Int) + (j : Nat)) = ((i + j : Nat) : Int) := wrap_nat (i := i + j) (by omega)
          have w1 : wrapK .i64 ((j : Int) + 1) = ((j + 1 : Nat) : Int) := wrap_succ (by omega)
          simp -implicitDefEqProofs only [↓yP, yT, Nat.reduceAdd, Nat.reduceMul, Nat.reduceSub, Nat.reduceLeDiff, Nat.reduceEqDiff, reduceCtorEq, Nat.reduceBEq, t1, w2]
          refine Rcall_pure (tail_spec bs (i + j)) (by rfl) fun y hy => ?_
          obtain ⟨z, b, rfl, hb⟩ := hy
          cases b with
          | false =>
            simp -implicitDefEqProofs only [↓yP, yT, Nat.reduceAdd, Nat.reduceMul, Nat.reduceSub, Nat.reduceLeDiff, Nat.reduceEqDiff, reduceCtorEq, Nat.reduceBEq]
            refine ⟨_, 1, _, rfl, by omega, by omega, fun c' hc' h1 h2 => ?_⟩
            exfalso
            rw [hc] at hc'
            cases hc'
            have e1 : wrapK .i64 c = c := wrap_int (by omega) (by omega)
            omega
          | true =>
            have hb := hb rfl
            simp -implicitDefEqProofs only [↓yP, yT, Nat.reduceAdd, Nat.reduceMul, Nat.reduceSub, Nat.reduceLeDiff, Nat.reduceEqDiff, reduceCtorEq, Nat.reduceBEq, w1, xshl6]
            refine ⟨d - 1, [], by omega, by decide, pinned_zero _, j + 1, orI (shl6 x) z, by (simp only [yE, Nat.reduceEqDiff, Nat.reduceAdd, reduceCtorEq]; try rfl), rfl, by omega, by omega, by omega, fun hlt => by exfalso; omega⟩
        · have t1 : leI 2 (j : Nat) = true := leI_true (by omega)
          simp -implicitDefEqProofs only [↓yP, yT, Nat.reduceAdd, Nat.reduceMul, Nat.reduceSub, Nat.reduceLeDiff, Nat.reduceEqDiff, reduceCtorEq, Nat.reduceBEq, t1]
          cases f1 : leI 128 x with
          | false =>
            simp -implicitDefEqProofs only [↓yP, yT, Nat.reduceAdd, Nat.reduceMul, Nat.reduceSub, Nat.reduceLeDiff, Nat.reduceEqDiff, reduceCtorEq, Nat.reduceBEq, f1]
            refine ⟨_, 1, _, rfl, by omega, by omega, fun c' hc' h1 h2 => ?_⟩
            exfalso
            have := of_leF f1
            rw [hc] at hc'
            cases hc'
            have e1 : wrapK .i64 c = c := wrap_int (by omega) (by omega)
            omega
          | true =>
            cases f2 : leI x 1114111 with
            | false =>
              simp -implicitDefEqProofs only [↓yP, yT, Nat.reduceAdd, Nat.reduceMul, Nat.reduceSub, Nat.reduceLeDiff, Nat.reduceEqDiff, reduceCtorEq, Nat.reduceBEq, f1, f2]
              refine ⟨_, 1, _, rfl, by omega, by omega, fun c' hc' h1 h2 => ?_⟩
              exfalso
              have := of_leF f2
              rw [hc] at hc'
              cases hc'
              have e1 : wrapK .i64 c = c := wrap_int (by omega) (by omega)
              omega
            | true =>
              cases f3 : leI 55296 x with
              | false =>
                simp -implicitDefEqProofs only [↓yP, yT, Nat.reduceAdd, Nat.reduceMul, Nat.reduceSub, Nat.reduceLeDiff, Nat.reduceEqDiff, reduceCtorEq, Nat.reduceBEq, f1, f2, f3]
                refine ⟨_, 2, _, rfl, by omega, by omega, fun c' hc' h1 h2 => ?_⟩
                exfalso
                rw [hc] at hc'
                cases hc'
                have e1 : wrapK .i64 c = c := wrap_int (by omega) (by omega)
                omega
              | true =>
                cases f4 : leI 57344 x with
                | false =>
                  simp -implicitDefEqProofs only [↓yP, yT, Nat.reduceAdd, Nat.reduceMul, Nat.reduceSub, Nat.reduceLeDiff, Nat.reduceEqDiff, reduceCtorEq, Nat.reduceBEq, f1, f2, f3, f4]
                  refine ⟨_, 1, _, rfl, by omega, by omega, fun c' hc' h1 h2 => ?_⟩
                  exfalso
                  have := of_leF f4
                  have := of_leT f3
                  rw [hc] at hc'
                  cases hc'
                  have e1 : wrapK .i64 c = c := wrap_int (by omega) (by omega)
                  omega
                | true =>
                  simp -implicitDefEqProofs only [↓yP, yT, Nat.reduceAdd, Nat.reduceMul, Nat.reduceSub, Nat.reduceLeDiff, Nat.reduceEqDiff, reduceCtorEq, Nat.reduceBEq, f1, f2, f3, f4]
                  refine ⟨_, 2, _, rfl, by omega, by omega, fun c' hc' h1 h2 => ?_⟩
                  exfalso
                  rw [hc] at hc'
                  cases hc'
                  have e1 : wrapK .i64 c = c := wrap_int (by omega) (by omega)
                  omega
      | true =>
        cases h4 : leI 240 (wrapK .i64 c) with
        | false =>
          simp -implicitDefEqProofs only [↓yP, yT, Nat.reduceAdd, Nat.reduceMul, Nat.reduceSub, Nat.reduceLeDiff, Nat.reduceEqDiff, reduceCtorEq, Nat.reduceBEq, t0, t1, ebGet hc, h1, h2, h3, h4]
          refine Rl_inv (fun d e s => ∃ (j : Nat) (x : Int), e = [.c (.p (rB bs)), yd (.int .i64 (i : Nat)), .c .top, .c .top, .c .top, .c .top, .c .top, .c .top, yd (.int .i64 3), yd (.int .i64 x), yd (.int .i64 2048), yd (.int .i64 (j : Nat)), .c .top, .c .top, .c .top, .c .top, .c .top, .c .top, .c .top, .c .top, .c .top, .c .top, .c .top, .c .top, .c .top, .c .top, .c .top, .c .top, .c .top, .c .top, .c .top, .c .top, .c .top, .c .top, .c .top, .c .top, .c .top, .c .top, .c .top, .c .top, .c .top, .c .top, .c .top, .c .top, .c .top, .c .top, .c .top, .c .top, .c .top, .c .top, .c .top, .c .top, .c .top, .c .top, .c .top, .c .top, .c .top, .c .top, .c .top, .c .top, .c .top, .c .top, .c .top, .c .top, .c .top, .c .top, .c .top, .c .top, .c .top, .c .top, .c .top, .c .top, .c .top, .c .top, .c .top, .c .top, .c .top, .c .top, .c .top, .c .top, .c .top, .c .top, .c .top, .c .top, .c .top, .c .top, .c .top, .c .top, .c .top, .c .top, .c .top, .c .top, .c .top, .c .top] ∧ s = [] ∧ j + d = 3 ∧ 1 ≤ j ∧ i + j ≤ bs.length ∧ (wrapK .i64 c < 128 → x = wrapK .i64 c)) [true, true, false, false, false, false, false, false, true, true, true, true] (3 - 1) [] (by decide) (pinned_zero _) ⟨1, andI (wrapK .i64 c) 15, by (simp only [yE, Nat.reduceEqDiff, Nat.reduceAdd, reduceCtorEq]; try rfl), by (simp only [yE, Nat.reduceEqDiff, Nat.reduceAdd, reduceCtorEq]; try rfl), by omega, by omega, by omega, fun hlt => by first | rfl | (exfalso; omega)⟩ ?_
          rintro d e s ⟨j, x, rfl, rfl, hd, hj, hij, hx⟩
          by_cases hjn : j < 3
          · have t1 : leI 3 (j : Nat) = false := leI_false (by omega)
            have w2 : wrapK .i64 ((i : Int) + (j : Nat)) = ((i + j : Nat) : Int) := wrap_nat (i := i + j) (by omega)
            have w1 : wrapK .i64 ((j : Int) + 1) = ((j + 1 : Nat) : Int) := wrap_succ (by omega)
            simp -implicitDefEqProofs only [↓yP, yT, Nat.reduceAdd, Nat.reduceMul, Nat.reduceSub, Nat.reduceLeDiff, Nat.reduceEqDiff, reduceCtorEq, Nat.reduceBEq, t1, w2]
            refine Rcall_pure (tail_spec bs (i + j)) (by rfl) fun y hy => ?_
            obtain ⟨z, b, rfl, hb⟩ := hy
            cases b with
            | false =>
              simp -implicitDefEqProofs only [↓yP, yT, Nat.reduceAdd, Nat.reduceMul, Nat.reduceSub, Nat.reduceLeDiff, Nat.reduceEqDiff, reduceCtorEq, Nat.reduceBEq]
              refine ⟨_, 1, _, rfl, by omega, by omega, fun c' hc' h1 h2 => ?_⟩
              exfalso
              rw [hc] at hc'
              cases hc'
              have e1 : wrapK .i64 c = c := wrap_int (by omega) (by omega)
              omega
            | true =>
              have hb := hb rfl
              simp -implicitDefEqProofs only [↓yP, yT, Nat.reduceAdd, Nat.reduceMul, Nat.reduceSub, Nat.reduceLeDiff, Nat.reduceEqDiff, reduceCtorEq, Nat.reduceBEq, w1, xshl6]
              refine ⟨d - 1, [], by omega, by decide, pinned_zero _, j + 1, orI (shl6 x) z, by (simp only [yE, Nat.reduceEqDiff, Nat.reduceAdd, reduceCtorEq]; try rfl), rfl, by omega, by omega, by omega, fun hlt => by exfalso; omega⟩
          · have t1 : leI 3 (j : Nat) = true := leI_true (by omega)
            simp -implicitDefEqProofs only [↓yP, yT, Nat.reduceAdd, Nat.reduceMul, Nat.reduceSub, Nat.reduceLeDiff, Nat.reduceEqDiff, reduceCtorEq, Nat.reduceBEq, t1]
            cases f1 : leI 2048 x with
            | false =>
              simp -implicitDefEqProofs only [↓yP, yT, Nat.reduceAdd, Nat.reduceMul, Nat.reduceSub, Nat.reduceLeDiff, Nat.reduceEqDiff, reduceCtorEq, Nat.reduceBEq, f1]
              refine ⟨_, 1, _, rfl, by omega, by omega, fun c' hc' h1 h2 => ?_⟩
              exfalso
              have := of_leF f1
              rw [hc] at hc'
              cases hc'
              have e1 : wrapK .i64 c = c := wrap_int (by omega) (by omega)
              omega
            | true =>
              cases f2 : leI x 1114111 with
              | false =>
                simp -implicitDefEqProofs only [↓yP, yT, Nat.reduceAdd, Nat.reduceMul, Nat.reduceSub, Nat.reduceLeDiff, Nat.reduceEqDiff, reduceCtorEq, Nat.reduceBEq, f1, f2]
                refine ⟨_, 1, _, rfl, by omega, by omega, fun c' hc' h1 h2 => ?_⟩
                exfalso
                have := of_leF f2
                rw [hc] at hc'
                cases hc'
                have e1 : wrapK .i64 c = c := wrap_int (by omega) (by omega)
                omega
              | true =>
                cases f3 : leI 55296 x with
                | false =>
                  simp -implicitDefEqProofs only [↓yP, yT, Nat.reduceAdd, Nat.reduceMul, Nat.reduceSub, Nat.reduceLeDiff, Nat.reduceEqDiff, reduceCtorEq, Nat.reduceBEq, f1, f2, f3]
                  refine ⟨_, 3, _, rfl, by omega, by omega, fun c' hc' h1 h2 => ?_⟩
                  exfalso
                  rw [hc] at hc'
                  cases hc'
                  have e1 : wrapK .i64 c = c := wrap_int (by omega) (by omega)
                  omega
                | true =>
                  cases f4 : leI 57344 x with
                  | false =>
                    simp -implicitDefEqProofs only [↓yP, yT, Nat.reduceAdd, Nat.reduceMul, Nat.reduceSub, Nat.reduceLeDiff, Nat.reduceEqDiff, reduceCtorEq, Nat.reduceBEq, f1, f2, f3, f4]
                    refine ⟨_, 1, _, rfl, by omega, by omega, fun c' hc' h1 h2 => ?_⟩
                    exfalso
                    have := of_leF f4
                    have := of_leT f3
                    rw [hc] at hc'
                    cases hc'
                    have e1 : wrapK .i64 c = c := wrap_int (by omega) (by omega)
                    omega
                  | true =>
                    simp -implicitDefEqProofs only [↓yP, yT, Nat.reduceAdd, Nat.reduceMul, Nat.reduceSub, Nat.reduceLeDiff, Nat.reduceEqDiff, reduceCtorEq, Nat.reduceBEq, f1, f2, f3, f4]
                    refine ⟨_, 3, _, rfl, by omega, by omega, fun c' hc' h1 h2 => ?_⟩
                    exfalso
                    rw [hc] at hc'
                    cases hc'
                    have e1 : wrapK .i64 c = c := wrap_int (by omega) (by omega)
                    omega
        | true =>
          cases h5 : leI 248 (wrapK .i64 c) with
          | false =>
            simp -implicitDefEqProofs only [↓yP, yT, Nat.reduceAdd, Nat.reduceMul, Nat.reduceSub, Nat.reduceLeDiff, Nat.reduceEqDiff, reduceCtorEq, Nat.reduceBEq, t0, t1, ebGet hc, h1, h2, h3, h4, h5]
            refine Rl_inv (fun d e s => ∃ (j : Nat) (x : Int), e = [.c (.p (rB bs)), yd (.int .i64 (i : Nat)), .c .top, .c .top, .c .top, .c .top, .c .top, .c .top, yd (.int .i64 4), yd (.int .i64 x), yd (.int .i64 65536), yd (.int .i64 (j : Nat)), .c .top, .c .top, .c .top, .c .top, .c .top, .c .top, .c .top, .c .top, .c .top, .c .top, .c .top, .c .top, .c .top, .c .top, .c .top, .c .top, .c .top, .c .top, .c .top, .c .top, .c .top, .c .top, .c .top, .c .top, .c .top, .c .top, .c .top, .c .top, .c .top, .c .top, .c .top, .c .top, .c .top, .c .top, .c .top, .c .top, .c .top, .c .top, .c .top, .c .top, .c .top, .c .top, .c .top, .c .top, .c .top, .c .top, .c .top, .c .top, .c .top, .c .top, .c .top, .c .top, .c .top, .c .top, .c .top, .c .top, .c .top, .c .top, .c .top, .c .top, .c .top, .c .top, .c .top, .c .top, .c .top, .c .top, .c .top, .c .top, .c .top, .c .top, .c .top, .c .top, .c .top, .c .top, .c .top, .c .top, .c .top, .c .top, .c .top, .c .top, .c .top, .c .top] ∧ s = [] ∧ j + d = 4 ∧ 1 ≤ j ∧ i + j ≤ bs.length ∧ (wrapK .i64 c < 128 → x = wrapK .i64 c)) [true, true, false, false, false, false, false, false, true, true, true, true] (4 - 1) [] (by decide) (pinned_zero _) ⟨1, andI (wrapK .i64 c) 7, by (simp only [yE, Nat.reduceEqDiff, Nat.reduceAdd, reduceCtorEq]; try rfl), by (simp only [yE, Nat.reduceEqDiff, Nat.reduceAdd, reduceCtorEq]; try rfl), by omega, by omega, by omega, fun hlt => by first | rfl | (exfalso; omega)⟩ ?_
            rintro d e s ⟨j, x, rfl, rfl, hd, hj, hij, hx⟩
            by_cases hjn : j < 4
            · have t1 : leI 4 (j : Nat) = false := leI_false (by omega)
              have w2 : wrapK .i64 ((i : Int) + (j : Nat)) = ((i + j : Nat) : Int) := wrap_nat (i := i + j) (by omega)
              have w1 : wrapK .i64 ((j : Int) + 1) = ((j + 1 : Nat) : Int) := wrap_succ (by omega)
              simp -implicitDefEqProofs only [↓yP, yT, Nat.reduceAdd, Nat.reduceMul, Nat.reduceSub, Nat.reduceLeDiff, Nat.reduceEqDiff, reduceCtorEq, Nat.reduceBEq, t1, w2]
              refine Rcall_pure (tail_spec bs (i + j)) (by rfl) fun y hy => ?_
              obtain ⟨z, b, rfl, hb⟩ := hy
              cases b with
              | false =>
                simp -implicitDefEqProofs only [↓yP, yT, Nat.reduceAdd, Nat.reduceMul, Nat.reduceSub, Nat.reduceLeDiff, Nat.reduceEqDiff, reduceCtorEq, Nat.reduceBEq]
                refine ⟨_, 1, _, rfl, by omega, by omega, fun c' hc' h1 h2 => ?_⟩
                exfalso
                rw [hc] at hc'
                cases hc'
                have e1 : wrapK .i64 c = c := wrap_int (by omega) (by omega)
                omega
              | true =>
                have hb := hb rfl
                simp -implicitDefEqProofs only [↓yP, yT, Nat.reduceAdd, Nat.reduceMul, Nat.reduceSub, Nat.reduceLeDiff, Nat.reduceEqDiff, reduceCtorEq, Nat.reduceBEq, w1, xshl6]
                refine ⟨d - 1, [], by omega, by decide, pinned_zero _, j + 1, orI (shl6 x) z, by (simp only [yE, Nat.reduceEqDiff, Nat.reduceAdd, reduceCtorEq]; try rfl), rfl, by omega, by omega, by omega, fun hlt => by exfalso; omega⟩
            · have t1 : leI 4 (j : Nat) = true := leI_true (by omega)
              simp -implicitDefEqProofs only [↓yP, yT, Nat.reduceAdd, Nat.reduceMul, Nat.reduceSub, Nat.reduceLeDiff, Nat.reduceEqDiff, reduceCtorEq, Nat.reduceBEq, t1]
              cases f1 : leI 65536 x with
              | false =>
                simp -implicitDefEqProofs only [↓yP, yT, Nat.reduceAdd, Nat.reduceMul, Nat.reduceSub, Nat.reduceLeDiff, Nat.reduceEqDiff, reduceCtorEq, Nat.reduceBEq, f1]
                refine ⟨_, 1, _, rfl, by omega, by omega, fun c' hc' h1 h2 => ?_⟩
                exfalso
                have := of_leF f1
                rw [hc] at hc'
                cases hc'
                have e1 : wrapK .i64 c = c := wrap_int (by omega) (by omega)
                omega
              | true =>
                cases f2 : leI x 1114111 with
                | false =>
                  simp -implicitDefEqProofs only [↓yP, yT, Nat.reduceAdd, Nat.reduceMul, Nat.reduceSub, Nat.reduceLeDiff, Nat.reduceEqDiff, reduceCtorEq, Nat.reduceBEq, f1, f2]
                  refine ⟨_, 1, _, rfl, by omega, by omega, fun c' hc' h1 h2 => ?_⟩
                  exfalso
                  have := of_leF f2
                  rw [hc] at hc'
                  cases hc'
                  have e1 : wrapK .i64 c = c := wrap_int (by omega) (by omega)
                  omega
                | true =>
                  cases f3 : leI 55296 x with
                  | false =>
                    simp -implicitDefEqProofs only [↓yP, yT, Nat.reduceAdd, Nat.reduceMul, Nat.reduceSub, Nat.reduceLeDiff, Nat.reduceEqDiff, reduceCtorEq, Nat.reduceBEq, f1, f2, f3]
                    refine ⟨_, 4, _, rfl, by omega, by omega, fun c' hc' h1 h2 => ?_⟩
                    exfalso
                    rw [hc] at hc'
                    cases hc'
                    have e1 : wrapK .i64 c = c := wrap_int (by omega) (by omega)
                    omega
                  | true =>
                    cases f4 : leI 57344 x with
                    | false =>
                      simp -implicitDefEqProofs only [↓yP, yT, Nat.reduceAdd, Nat.reduceMul, Nat.reduceSub, Nat.reduceLeDiff, Nat.reduceEqDiff, reduceCtorEq, Nat.reduceBEq, f1, f2, f3, f4]
                      refine ⟨_, 1, _, rfl, by omega, by omega, fun c' hc' h1 h2 => ?_⟩
                      exfalso
                      have := of_leF f4
                      have := of_leT f3
                      rw [hc] at hc'
                      cases hc'
                      have e1 : wrapK .i64 c = c := wrap_int (by omega) (by omega)
                      omega
                    | true =>
                      simp -implicitDefEqProofs only [↓yP, yT, Nat.reduceAdd, Nat.reduceMul, Nat.reduceSub, Nat.reduceLeDiff, Nat.reduceEqDiff, reduceCtorEq, Nat.reduceBEq, f1, f2, f3, f4]
                      refine ⟨_, 4, _, rfl, by omega, by omega, fun c' hc' h1 h2 => ?_⟩
                      exfalso
                      rw [hc] at hc'
                      cases hc'
                      have e1 : wrapK .i64 c = c := wrap_int (by omega) (by omega)
                      omega
          | true =>
            simp -implicitDefEqProofs only [↓yP, yT, Nat.reduceAdd, Nat.reduceMul, Nat.reduceSub, Nat.reduceLeDiff, Nat.reduceEqDiff, reduceCtorEq, Nat.reduceBEq, t0, t1, ebGet hc, h1, h2, h3, h4, h5]
            refine ⟨_, 1, _, rfl, by omega, by omega, fun c' hc' g1 g2 => ?_⟩
            exfalso
            rw [hc] at hc'
            cases hc'
            have e1 : wrapK .i64 c = c := wrap_int (by omega) (by omega)
            omega
end Go.Vx.Seat
end
/- Code points. -/
section
open Go Go.Vx Go.Proofs
set_option linter.unusedSimpArgs false
set_option linter.unusedVariables false
set_option maxRecDepth 10000
set_option maxHeartbeats 4000000
namespace Go.Vx.Seat
attribute [local congr] Rg_at Rt_at Ro_at Ri_at Rc_at Rto_at Rtk_at Rtf_at Rti_at
attribute [local irreducible] Rg Rt Ro Ri Rc Rto Rtk Rtf Rti Rw Rl Rd Rcall Rtcall kf
/-- Plain letters and signs. -/
def Asc (bs : List Int) : Prop := ∀ c, c ∈ bs → 32 ≤ c ∧ c < 127
def ascR (bs : List Int) (k : Nat) : List Rn := (List.range k).map fun j => ⟨(bs[j]?).getD 0, (j : Nat)⟩
theorem ascR_succ {bs : List Int} {k : Nat} {c : Int} (h : bs[k]? = some c) : ascR bs (k + 1) = ascR bs k ++ [⟨c, (k : Nat)⟩] := by simp [ascR, List.range_succ, h]
theorem runes_spec (bs : List Int) (hl : bs.length ≤ 1000000) : PCall C1 24 [.c (.p (rB bs))] fun y => ∃ rs : List Rn, y = .c (.p (rR rs)) ∧ rs.length ≤ bs.length ∧ (Asc bs → rs = ascR bs bs.length) := by
  refine Pf (by rfl) (by rfl) fn24 (by rfl) ?_
  simp only [Try.f24, List.length_cons, List.length_nil, List.replicate, List.cons_append, List.nil_append]
  simp -implicitDefEqProofs only [↓yP, yT, Nat.reduceAdd, Nat.reduceMul, Nat.reduceSub, Nat.reduceLeDiff, Nat.reduceEqDiff, reduceCtorEq, Nat.reduceBEq]
  refine Rl_nil 3 2 (by decide) rfl ?_
  refine Rl_inv (fun d e s => ∃ (i : Nat) (rs : List Rn), e = [.c (.p (rB bs)), .c .top, .c .top, .c (.own 0 2 0 rs.length), yd (.int .i64 (i : Nat)), .c .top, .c .top, .c .top, .c .top, .c .top, .c .top, .c .top, .c .top, .c .top, .c .top, .c .top, .c .top, .c .top, .c .top, .c .top, .c .top, .c .top, .c .top, .c .top, .c .top, .c .top, .c .top, .c .top, .c .top, .c .top, .c .top, .c .top, .c .top, .c .top, .c .top, .c .top, .c .top, .c .top, .c .top, .c .top, .c .top, .c .top, .c .top, .c .top, .c .top, .c .top, .c .top, .c .top, .c .top, .c .top, .c .top, .c .top, .c .top] ∧ s = [.row 2 (rs.map Rn.pc)] ∧ i + d = bs.length ∧ rs.length ≤ i ∧ (Asc bs → rs = ascR bs i)) [true, false, false, true, true] bs.length [0] (by decide) (pinned_zero _) ⟨0, [], by (simp only [yE, Nat.reduceEqDiff, Nat.reduceAdd, reduceCtorEq]; try rfl), by (simp only [yE, Nat.reduceEqDiff, Nat.reduceAdd, reduceCtorEq]; try rfl), by omega, by simp, fun _ => rfl⟩ ?_
  rintro d e s ⟨i, rs, rfl, rfl, hd, hrl, hasc⟩
  by_cases hi : i < bs.length
  · obtain ⟨c, hc⟩ := get_lt hi
    have t1 : leI (bs.length : Nat) (i : Nat) = false := leI_false (by omega)
    have b1 : (rs.length + 1) * 16 ≤ 70368744177664 := by omega
    simp -implicitDefEqProofs only [↓yP, yT, Nat.reduceAdd, Nat.reduceMul, Nat.reduceSub, Nat.reduceLeDiff, Nat.reduceEqDiff, reduceCtorEq, Nat.reduceBEq, t1]
    refine Rcall_pure (next_spec bs i hl hi) (by rfl) fun y hy => ?_
    obtain ⟨r, n, ok, rfl, hn1, hn2, hn3⟩ := hy
    have w2 : wrapK .i64 ((i : Int) + (n : Nat)) = ((i + n : Nat) : Int) := wrap_nat (i := i + n) (by omega)
    have w3 : wrapK .i64 (((i + n : Nat) : Int) + 1) = ((i + n + 1 : Nat) : Int) := wrap_succ (by omega)
    cases h0 : eqI r 0 with
    | true =>
      have := of_eqT h0
      simp -implicitDefEqProofs only [↓yP, yT, Nat.reduceAdd, Nat.reduceMul, Nat.reduceSub, Nat.reduceLeDiff, Nat.reduceEqDiff, reduceCtorEq, Nat.reduceBEq, w2, h0, b1]
      refine ⟨bs.length - (i + n), [2], by omega, by decide, pinned_zero _, (i + n), rs ++ [⟨65533, (i : Nat)⟩], ?_, ?_, by omega, by simp; omega, fun ha => ?_⟩
      · (simp only [yE, Nat.reduceEqDiff, Nat.reduceAdd, reduceCtorEq]; try rfl)
      · simp only [yE, Nat.reduceEqDiff, Nat.reduceAdd, reduceCtorEq, List.map_append]; rfl
      · have hra := hasc ha
        have hm := ha c (List.mem_of_getElem? hc)
        have e12 := hn3 c hc (Int.le_trans (by decide) hm.1) (Int.lt_trans hm.2 (by decide))
        have hm1 := hm.1
        clear hasc w2 w3 t1 hn3
        obtain ⟨e1, e2⟩ := e12
        first
        | (exfalso; omega)
        | (subst e2; rw [ascR_succ hc, hra]; simp only [e1])
    | false =>
      cases h12 : eqI r 12 with
      | true =>
        have := of_eqT h12
        simp -implicitDefEqProofs only [↓yP, yT, Nat.reduceAdd, Nat.reduceMul, Nat.reduceSub, Nat.reduceLeDiff, Nat.reduceEqDiff, reduceCtorEq, Nat.reduceBEq, w2, h0, h12, b1]
        refine ⟨bs.length - (i + n), [2], by omega, by decide, pinned_zero _, (i + n), rs ++ [⟨10, (i : Nat)⟩], ?_, ?_, by omega, by simp; omega, fun ha => ?_⟩
        · (simp only [yE, Nat.reduceEqDiff, Nat.reduceAdd, reduceCtorEq]; try rfl)
        · simp only [yE, Nat.reduceEqDiff, Nat.reduceAdd, reduceCtorEq, List.map_append]; rfl
        · have hra := hasc ha
          have hm := ha c (List.mem_of_getElem? hc)
          have e12 := hn3 c hc (Int.le_trans (by decide) hm.1) (Int.lt_trans hm.2 (by decide))
          have hm1 := hm.1
          clear hasc w2 w3 t1 hn3
          obtain ⟨e1, e2⟩ := e12
          first
          | (exfalso; omega)
          | (subst e2; rw [ascR_succ hc, hra]; simp only [e1])
      | false =>
        cases h13 : eqI r 13 with
        | false =>
          simp -implicitDefEqProofs only [↓yP, yT, Nat.reduceAdd, Nat.reduceMul, Nat.reduceSub, Nat.reduceLeDiff, Nat.reduceEqDiff, reduceCtorEq, Nat.reduceBEq, w2, h0, h12, h13, b1]
          refine ⟨bs.length - (i + n), [2], by omega, by decide, pinned_zero _, (i + n), rs ++ [⟨r, (i : Nat)⟩], ?_, ?_, by omega, by simp; omega, fun ha => ?_⟩
          · (simp only [yE, Nat.reduceEqDiff, Nat.reduceAdd, reduceCtorEq]; try rfl)
          · simp only [yE, Nat.reduceEqDiff, Nat.reduceAdd, reduceCtorEq, List.map_append]; rfl
          · have hra := hasc ha
            have hm := ha c (List.mem_of_getElem? hc)
            have e12 := hn3 c hc (Int.le_trans (by decide) hm.1) (Int.lt_trans hm.2 (by decide))
            have hm1 := hm.1
            clear hasc w2 w3 t1 hn3
            obtain ⟨e1, e2⟩ := e12
            first
            | (exfalso; omega)
            | (subst e2; rw [ascR_succ hc, hra]; simp only [e1])
        | true =>
          have := of_eqT h13
          by_cases hin : i + n < bs.length
          · obtain ⟨c2, hc2⟩ := get_lt hin
            have t2 : leI (bs.length : Nat) ((i + n : Nat) : Int) = false := leI_false (by omega)
            cases h10 : eqI c2 10 with
            | true =>
              simp -implicitDefEqProofs only [↓yP, yT, Nat.reduceAdd, Nat.reduceMul, Nat.reduceSub, Nat.reduceLeDiff, Nat.reduceEqDiff, reduceCtorEq, Nat.reduceBEq, w2, h0, h12, h13, b1, t2, ebGet hc2, h10, w3]
              refine ⟨bs.length - (i + n + 1), [2], by omega, by decide, pinned_zero _, (i + n + 1), rs ++ [⟨10, (i : Nat)⟩], ?_, ?_, by omega, by simp; omega, fun ha => ?_⟩
              · (simp only [yE, Nat.reduceEqDiff, Nat.reduceAdd, reduceCtorEq]; try rfl)
              · simp only [yE, Nat.reduceEqDiff, Nat.reduceAdd, reduceCtorEq, List.map_append]; rfl
              · have hra := hasc ha
                have hm := ha c (List.mem_of_getElem? hc)
                have e12 := hn3 c hc (Int.le_trans (by decide) hm.1) (Int.lt_trans hm.2 (by decide))
                have hm1 := hm.1
                clear hasc w2 w3 t1 hn3
                obtain ⟨e1, e2⟩ := e12
                first
                | (exfalso; omega)
                | (subst e2; rw [ascR_succ hc, hra]; simp only [e1])
            | false =>
              simp -implicitDefEqProofs only [↓yP, yT, Nat.reduceAdd, Nat.reduceMul, Nat.reduceSub, Nat.reduceLeDiff, Nat.reduceEqDiff, reduceCtorEq, Nat.reduceBEq, w2, h0, h12, h13, b1, t2, ebGet hc2, h10]
              refine ⟨bs.length - (i + n), [2], by omega, by decide, pinned_zero _, (i + n), rs ++ [⟨10, (i : Nat)⟩], ?_, ?_, by omega, by simp; omega, fun ha => ?_⟩
              · (simp only [yE, Nat.reduceEqDiff, Nat.reduceAdd, reduceCtorEq]; try rfl)
              · simp only [yE, Nat.reduceEqDiff, Nat.reduceAdd, reduceCtorEq, List.map_append]; rfl
              · have hra := hasc ha
                have hm := ha c (List.mem_of_getElem? hc)
                have e12 := hn3 c hc (Int.le_trans (by decide) hm.1) (Int.lt_trans hm.2 (by decide))
                have hm1 := hm.1
                clear hasc w2 w3 t1 hn3
                obtain ⟨e1, e2⟩ := e12
                first
                | (exfalso; omega)
                | (subst e2; rw [ascR_succ hc, hra]; simp only [e1])
          · have t2 : leI (bs.length : Nat) ((i + n : Nat) : Int) = true := leI_true (by omega)
            simp -implicitDefEqProofs only [↓yP, yT, Nat.reduceAdd, Nat.reduceMul, Nat.reduceSub, Nat.reduceLeDiff, Nat.reduceEqDiff, reduceCtorEq, Nat.reduceBEq, w2, h0, h12, h13, b1, t2]
            refine ⟨bs.length - (i + n), [2], by omega, by decide, pinned_zero _, (i + n), rs ++ [⟨10, (i : Nat)⟩], ?_, ?_, by omega, by simp; omega, fun ha => ?_⟩
            · (simp only [yE, Nat.reduceEqDiff, Nat.reduceAdd, reduceCtorEq]; try rfl)
            · simp only [yE, Nat.reduceEqDiff, Nat.reduceAdd, reduceCtorEq, List.map_append]; rfl
            · have hra := hasc ha
              have hm := ha c (List.mem_of_getElem? hc)
              have e12 := hn3 c hc (Int.le_trans (by decide) hm.1) (Int.lt_trans hm.2 (by decide))
              have hm1 := hm.1
              clear hasc w2 w3 t1 hn3
              obtain ⟨e1, e2⟩ := e12
              first
              | (exfalso; omega)
              | (subst e2; rw [ascR_succ hc, hra]; simp only [e1])
  · have t1 : leI (bs.length : Nat) (i : Nat) = true := leI_true (by omega)
    obtain rfl : i = bs.length := by omega
    simp -implicitDefEqProofs only [↓yP, yT, Nat.reduceAdd, Nat.reduceMul, Nat.reduceSub, Nat.reduceLeDiff, Nat.reduceEqDiff, reduceCtorEq, Nat.reduceBEq, t1]
    exact ⟨rs, rfl, hrl, hasc⟩
end Go.Vx.Seat
end
/- Where a bad url ends; strings; small letters. -/
section
open Go Go.Vx Go.Proofs
set_option linter.unusedSimpArgs false
set_option linter.unusedVariables false
set_option maxRecDepth 10000
set_option maxHeartbeats 4000000
namespace Go.Vx.Seat
attribute [local congr] Rg_at Rt_at Ro_at Ri_at Rc_at Rto_at Rtk_at Rtf_at Rti_at
attribute [local irreducible] Rg Rt Ro Ri Rc Rto Rtk Rtf Rti Rw Rl Rd Rcall Rtcall kf
theorem fn117 : nth C1.P.funcs.toList 117 = some Try.f117 := by kernel_rfl
theorem fn77 : nth C1.P.funcs.toList 77 = some Try.f77 := by kernel_rfl
theorem fn22 : nth C1.P.funcs.toList 22 = some Try.f22 := by kernel_rfl
theorem badUrl_spec (l : List Rn) (i : Nat) (hl : l.length ≤ 1000000) (hi : i ≤ l.length) : PCall C1 117 [.c (.p (rR l)), yd (.int .i64 (i : Nat))] fun y => ∃ k : Nat, y = yd (.int .i64 (k : Nat)) ∧ i ≤ k ∧ k ≤ l.length := by
  refine Pf (by rfl) (by rfl) fn117 (by rfl) ?_
  simp only [Try.f117, List.length_cons, List.length_nil, List.replicate, List.cons_append, List.nil_append]
  simp -implicitDefEqProofs only [↓yP, yT, Nat.reduceAdd, Nat.reduceMul, Nat.reduceSub, Nat.reduceLeDiff, Nat.reduceEqDiff, reduceCtorEq, Nat.reduceBEq]
  refine Rl_inv (fun d e s => ∃ (k : Nat), e = [.c (.p (rR l)), yd (.int .i64 (k : Nat)), .c .top, .c .top, .c .top, .c .top, .c .top, .c .top, .c .top, .c .top, .c .top, .c .top, .c .top, .c .top, .c .top, .c .top, .c .top, .c .top, .c .top, .c .top, .c .top, .c .top, .c .top, .c .top, .c .top, .c .top, .c .top, .c .top, .c .top, .c .top, .c .top] ∧ s = [] ∧ k + d = l.length ∧ i ≤ k) [true, true] (l.length - i) [] (by decide) (pinned_zero _) ⟨i, by (simp only [yE, Nat.reduceEqDiff, Nat.reduceAdd, reduceCtorEq]; try rfl), by (simp only [yE, Nat.reduceEqDiff, Nat.reduceAdd, reduceCtorEq]; try rfl), by omega, by omega⟩ ?_
  rintro d e s ⟨k, rfl, rfl, hd, hk⟩
  by_cases hkl : k < l.length
  · obtain ⟨x, hx⟩ := get_lt hkl
    have t1 : leI (l.length : Nat) (k : Nat) = false := leI_false (by omega)
    have w1 : wrapK .i64 ((k : Int) + 1) = ((k + 1 : Nat) : Int) := wrap_succ (by omega)
    cases h1 : eqI x.r 41 with
    | true =>
      simp -implicitDefEqProofs only [↓yP, yT, Nat.reduceAdd, Nat.reduceMul, Nat.reduceSub, Nat.reduceLeDiff, Nat.reduceEqDiff, reduceCtorEq, Nat.reduceBEq, t1, rnGet hx, h1, w1]
      exact ⟨k + 1, rfl, by omega, by omega⟩
    | false =>
      simp -implicitDefEqProofs only [↓yP, yT, Nat.reduceAdd, Nat.reduceMul, Nat.reduceSub, Nat.reduceLeDiff, Nat.reduceEqDiff, reduceCtorEq, Nat.reduceBEq, t1, rnGet hx, h1]
      refine Rcall_pure (escape_spec l k (by omega)) (by rfl) fun y hy => ?_
      subst hy
      cases h2 : escB l k with
      | true =>
        simp -implicitDefEqProofs only [↓yP, yT, Nat.reduceAdd, Nat.reduceMul, Nat.reduceSub, Nat.reduceLeDiff, Nat.reduceEqDiff, reduceCtorEq, Nat.reduceBEq]
        refine Rcall_pure (escaped_spec l k hl hkl) (by rfl) fun y hy => ?_
        obtain ⟨z, k', rfl, hk1, hk2⟩ := hy
        simp -implicitDefEqProofs only [↓yP, yT, Nat.reduceAdd, Nat.reduceMul, Nat.reduceSub, Nat.reduceLeDiff, Nat.reduceEqDiff, reduceCtorEq, Nat.reduceBEq]
        refine ⟨l.length - k', [], by omega, by decide, pinned_zero _, k', by (simp only [yE, Nat.reduceEqDiff, Nat.reduceAdd, reduceCtorEq]; try rfl), rfl, by omega, by omega⟩
      | false =>
        simp -implicitDefEqProofs only [↓yP, yT, Nat.reduceAdd, Nat.reduceMul, Nat.reduceSub, Nat.reduceLeDiff, Nat.reduceEqDiff, reduceCtorEq, Nat.reduceBEq, w1]
        refine ⟨d - 1, [], by omega, by decide, pinned_zero _, k + 1, by (simp only [yE, Nat.reduceEqDiff, Nat.reduceAdd, reduceCtorEq]; try rfl), rfl, by omega, by omega⟩
  · have t1 : leI (l.length : Nat) (k : Nat) = true := leI_true (by omega)
    simp -implicitDefEqProofs only [↓yP, yT, Nat.reduceAdd, Nat.reduceMul, Nat.reduceSub, Nat.reduceLeDiff, Nat.reduceEqDiff, reduceCtorEq, Nat.reduceBEq, t1]
    exact ⟨k, rfl, by omega, by omega⟩
/-- A token of a text and a kind. -/
def lexTok (k : Int) (s : ByteArray) : Tok := ⟨k, s, ⟨#[]⟩, false, ⟨#[]⟩, ⟨#[]⟩, false, false, 0, 0, 0, 0, 0⟩
/-- What is read of a token: its text is no longer than the code points; a sign is just that. -/
structure TokLex (l : List Rn) (t : Tok) : Prop where
  text : (strOf t.text).length ≤ 4 * l.length
  sign : 16 ≤ t.kind → t.kind ≤ 24 → t = lexTok t.kind ⟨#[]⟩
theorem TokLex.plain {l : List Rn} {k : Int} {s : ByteArray} (hs : (strOf s).length ≤ 4 * l.length) (hk : k < 16 ∨ 24 < k) : TokLex l (lexTok k s) := ⟨hs, fun h h2 => absurd hk (by have h : 16 ≤ k := h; have h2 : k ≤ 24 := h2; omega)⟩
/-- A token and where it ends. -/
def LexR (l : List Rn) (i : Nat) (y : YV) : Prop := ∃ (t : Tok) (k : Nat), y = .tup [t.yv, yd (.int .i64 (k : Nat))] ∧ i < k ∧ k ≤ l.length ∧ TokLex l t
def zt : List Ce := (lexTok 0 ⟨#[]⟩).cs
theorem zt13 : (13 ≤ zt.length) = True := by simp [zt, lexTok, Tok.cs, Tok.pc]
theorem ztd : zt.drop 13 = [] := rfl
theorem quoted_spec (l : List Rn) (i : Nat) (hl : l.length ≤ 1000000) (hi : i < l.length) : PCall C1 77 [.c (.p (rR l)), yd (.int .i64 (i : Nat))] (LexR l i) := by
  obtain ⟨x0, hx0⟩ := get_lt hi
  have w1 : wrapK .i64 ((i : Int) + 1) = ((i + 1 : Nat) : Int) := wrap_succ (by omega)
  refine Pf (by rfl) (by rfl) fn77 (by rfl) ?_
  simp only [Try.f77, List.length_cons, List.length_nil, List.replicate, List.cons_append, List.nil_append]
  simp -implicitDefEqProofs only [↓yP, yT, Nat.reduceAdd, Nat.reduceMul, Nat.reduceSub, Nat.reduceLeDiff, Nat.reduceEqDiff, reduceCtorEq, Nat.reduceBEq, rnGet hx0, w1]
  refine Rl_nil 8 1 (by decide) rfl ?_
  refine Rl_inv (fun d e s => ∃ (k : Nat) (bs : List Int), e = [.c (.p (rR l)), yd (.int .i64 (k : Nat)), .c .top, .c .top, .c (.ptr 0 0 0 0), .c .top, yd (.int .i64 (i : Nat)), yd (.int .i64 x0.r), .c (.own 1 1 0 bs.length), .c .top, .c .top, .c .top, .c .top, .c .top, .c .top, .c .top, .c .top, .c .top, .c .top, .c .top, .c .top, .c .top, .c .top, .c .top, .c .top, .c .top, .c .top, .c .top, .c .top, .c .top, .c .top, .c .top, .c .top, .c .top, .c .top, .c .top, .c .top, .c .top, .c .top, .c .top, .c .top, .c .top, .c .top, .c .top, .c .top, .c .top, .c .top, .c .top, .c .top, .c .top, .c .top, .c .top, .c .top, .c .top, .c .top, .c .top, .c .top, .c .top, .c .top, .c .top, .c .top, .c .top, .c .top, .c .top, .c .top, .c .top, .c .top, .c .top, .c .top, .c .top, .c .top, .c .top, .c .top, .c .top, .c .top, .c .top, .c .top, .c .top, .c .top, .c .top, .c .top, .c .top, .c .top, .c .top, .c .top, .c .top, .c .top, .c .top, .c .top, .c .top, .c .top, .c .top, .c .top, .c .top, .c .top, .c .top, .c .top, .c .top, .c .top, .c .top, .c .top, .c .top, .c .top, .c .top, .c .top, .c .top, .c .top, .c .top, .c .top, .c .top, .c .top, .c .top, .c .top] ∧ s = [.box zt, .row 1 (bs.map eb)] ∧ k + d = l.length ∧ i < k ∧ bs.length ≤ 4 * k) [true, true, false, false, true, false, true, true, true] (l.length - (i + 1)) [0, 1] (by decide) (pinned_zero _) ⟨i + 1, [], by (simp only [yE, Nat.reduceEqDiff, Nat.reduceAdd, reduceCtorEq]; try rfl), by (simp only [yE, Nat.reduceEqDiff, Nat.reduceAdd, reduceCtorEq]; try rfl), by omega, by omega, by simp⟩ ?_
  rintro d e s ⟨k, bs, rfl, rfl, hd, hk, hb⟩
  by_cases hkl : k < l.length
  · obtain ⟨x, hx⟩ := get_lt hkl
    have t1 : leI (l.length : Nat) (k : Nat) = false := leI_false (by omega)
    have v1 : wrapK .i64 ((k : Int) + 1) = ((k + 1 : Nat) : Int) := wrap_succ (by omega)
    have v2 : wrapK .i64 ((k : Int) + 2) = ((k + 2 : Nat) : Int) := wrap_nat (i := k + 2) (by omega)
    cases h1 : eqI x.r x0.r with
    | true =>
      simp -implicitDefEqProofs only [↓yP, yT, Nat.reduceAdd, Nat.reduceMul, Nat.reduceSub, Nat.reduceLeDiff, Nat.reduceEqDiff, reduceCtorEq, Nat.reduceBEq, t1, rnGet hx, h1, v1, ybytes_eb, bytesOf_u8, zt13, ztd]
      exact ⟨lexTok 5 (bstr bs), k + 1, rfl, by omega, by omega, .plain (by rw [bstr_len]; omega) (by decide)⟩
    | false =>
      cases h2 : eqI x.r 10 with
      | true =>
        simp -implicitDefEqProofs only [↓yP, yT, Nat.reduceAdd, Nat.reduceMul, Nat.reduceSub, Nat.reduceLeDiff, Nat.reduceEqDiff, reduceCtorEq, Nat.reduceBEq, t1, rnGet hx, h1, h2]
        refine Rcall_pure (raw_spec l i k hl (by omega) (by omega)) (by rfl) fun y hy => ?_
        obtain ⟨st, rfl, hst⟩ := hy
        simp -implicitDefEqProofs only [↓yP, yT, Nat.reduceAdd, Nat.reduceMul, Nat.reduceSub, Nat.reduceLeDiff, Nat.reduceEqDiff, reduceCtorEq, Nat.reduceBEq, zt13, ztd]
        exact ⟨lexTok 6 st, k, rfl, by omega, by omega, .plain hst (by decide)⟩
      | false =>
        cases h3 : eqI x.r 92 with
        | true =>
          by_cases hk1 : k + 1 < l.length
          · obtain ⟨x2, hx2⟩ := get_lt hk1
            have t2 : eqI ((k + 1 : Nat) : Int) (l.length : Nat) = false := eqI_false (by omega)
            cases h4 : eqI x2.r 10 with
            | true =>
              simp -implicitDefEqProofs only [↓yP, yT, Nat.reduceAdd, Nat.reduceMul, Nat.reduceSub, Nat.reduceLeDiff, Nat.reduceEqDiff, reduceCtorEq, Nat.reduceBEq, t1, rnGet hx, rnGet hx2, h1, h2, h3, h4, t2, v1, v2]
              refine ⟨d - 2, [0, 1], by omega, by decide, pinned_zero _, k + 2, bs, by (simp only [yE, Nat.reduceEqDiff, Nat.reduceAdd, reduceCtorEq]; try rfl), by (simp only [yE, Nat.reduceEqDiff, Nat.reduceAdd, reduceCtorEq]; try rfl), by omega, by omega, by omega⟩
            | false =>
              simp -implicitDefEqProofs only [↓yP, yT, Nat.reduceAdd, Nat.reduceMul, Nat.reduceSub, Nat.reduceLeDiff, Nat.reduceEqDiff, reduceCtorEq, Nat.reduceBEq, t1, rnGet hx, rnGet hx2, h1, h2, h3, h4, t2, v1]
              refine Rcall_pure (escaped_spec l k hl hkl) (by rfl) fun y hy => ?_
              obtain ⟨z, k', rfl, hk1, hk2⟩ := hy
              obtain ⟨p1, p2⟩ := putB_len z
              simp -implicitDefEqProofs only [↓yP, yT, Nat.reduceAdd, Nat.reduceMul, Nat.reduceSub, Nat.reduceLeDiff, Nat.reduceEqDiff, reduceCtorEq, Nat.reduceBEq]
              refine Rcall_own' (els := bs.map eb) (n' := (bs ++ putB z).length) (by simp) (by simp) (by rfl) (by rfl) (put_spec z bs (by omega)) ?_
              simp -implicitDefEqProofs only [↓yP, yT, Nat.reduceAdd, Nat.reduceMul, Nat.reduceSub, Nat.reduceLeDiff, Nat.reduceEqDiff, reduceCtorEq, Nat.reduceBEq]
              refine ⟨l.length - k', [0, 2], by omega, by decide, pinned_zero _, k', bs ++ putB z, by (simp only [yE, Nat.reduceEqDiff, Nat.reduceAdd, reduceCtorEq]; try rfl), by (simp only [yE, Nat.reduceEqDiff, Nat.reduceAdd, reduceCtorEq]; try rfl), by omega, by omega, by simp; omega⟩
          · have t2 : eqI ((k + 1 : Nat) : Int) (l.length : Nat) = true := by rw [show k + 1 = l.length by omega]; exact eqI_true _
            simp -implicitDefEqProofs only [↓yP, yT, Nat.reduceAdd, Nat.reduceMul, Nat.reduceSub, Nat.reduceLeDiff, Nat.reduceEqDiff, reduceCtorEq, Nat.reduceBEq, t1, rnGet hx, h1, h2, h3, t2, v1]
            refine ⟨d - 1, [0, 1], by omega, by decide, pinned_zero _, k + 1, bs, by (simp only [yE, Nat.reduceEqDiff, Nat.reduceAdd, reduceCtorEq]; try rfl), by (simp only [yE, Nat.reduceEqDiff, Nat.reduceAdd, reduceCtorEq]; try rfl), by omega, by omega, by omega⟩
        | false =>
          obtain ⟨p1, p2⟩ := putB_len x.r
          simp -implicitDefEqProofs only [↓yP, yT, Nat.reduceAdd, Nat.reduceMul, Nat.reduceSub, Nat.reduceLeDiff, Nat.reduceEqDiff, reduceCtorEq, Nat.reduceBEq, t1, rnGet hx, h1, h2, h3]
          refine Rcall_own' (els := bs.map eb) (n' := (bs ++ putB x.r).length) (by simp) (by simp) (by rfl) (by rfl) (put_spec x.r bs (by omega)) ?_
          simp -implicitDefEqProofs only [↓yP, yT, Nat.reduceAdd, Nat.reduceMul, Nat.reduceSub, Nat.reduceLeDiff, Nat.reduceEqDiff, reduceCtorEq, Nat.reduceBEq, v1]
          refine ⟨d - 1, [0, 2], by omega, by decide, pinned_zero _, k + 1, bs ++ putB x.r, by (simp only [yE, Nat.reduceEqDiff, Nat.reduceAdd, reduceCtorEq]; try rfl), by (simp only [yE, Nat.reduceEqDiff, Nat.reduceAdd, reduceCtorEq]; try rfl), by omega, by omega, by simp; omega⟩
  · have t1 : leI (l.length : Nat) (k : Nat) = true := leI_true (by omega)
    simp -implicitDefEqProofs only [↓yP, yT, Nat.reduceAdd, Nat.reduceMul, Nat.reduceSub, Nat.reduceLeDiff, Nat.reduceEqDiff, reduceCtorEq, Nat.reduceBEq, t1, ybytes_eb, bytesOf_u8, zt13, ztd]
    exact ⟨lexTok 5 (bstr bs), k, rfl, by omega, by omega, .plain (by rw [bstr_len]; omega) (by decide)⟩
end Go.Vx.Seat
end
/- Small letters; urls; names. -/
section
open Go Go.Vx Go.Proofs
set_option linter.unusedSimpArgs false
set_option linter.unusedVariables false
set_option maxRecDepth 10000
set_option maxHeartbeats 4000000
namespace Go.Vx.Seat
attribute [local congr] Rg_at Rt_at Ro_at Ri_at Rc_at Rto_at Rtk_at Rtf_at Rti_at
attribute [local irreducible] Rg Rt Ro Ri Rc Rto Rtk Rtf Rti Rw Rl Rd Rcall Rtcall kf
theorem fn104 : nth C1.P.funcs.toList 104 = some Try.f104 := by kernel_rfl
theorem fn84 : nth C1.P.funcs.toList 84 = some Try.f84 := by kernel_rfl
def sBytes (s : ByteArray) : List Int := (strOf s).map fun c => (c.toNat : Nat)
theorem byteCells_eb (s : ByteArray) : (byteCells s).map (fun v => [PC.d v]) = (sBytes s).map eb := by simp [byteCells, sBytes, eb]
theorem sBytes_len (s : ByteArray) : (sBytes s).length = (strOf s).length := by simp [sBytes]
theorem lower_spec (s : ByteArray) (hs : (strOf s).length ≤ 10000000) : PCall C1 22 [yd (.string s)] fun y => ∃ s' : ByteArray, y = yd (.string s') ∧ (strOf s').length = (strOf s).length := by
  have b0 : (strOf s).length ≤ 70368744177664 := by omega
  refine Pf (by rfl) (by rfl) fn22 (by rfl) ?_
  simp only [Try.f22, List.length_cons, List.length_nil, List.replicate, List.cons_append, List.nil_append]
  simp -implicitDefEqProofs only [↓yP, yT, Nat.reduceAdd, Nat.reduceMul, Nat.reduceSub, Nat.reduceLeDiff, Nat.reduceEqDiff, reduceCtorEq, Nat.reduceBEq, b0, byteCells_eb]
  refine Rl_inv (fun d e st => ∃ (i : Nat) (bs : List Int), e = [.c .top, .c .top, .c .top, .c (.own 0 1 0 bs.length), yd (.int .i64 (i : Nat)), .c .top, .c .top, .c .top, .c .top, .c .top, .c .top, .c .top, .c .top, .c .top, .c .top, .c .top, .c .top, .c .top, .c .top, .c .top, .c .top, .c .top, .c .top, .c .top, .c .top, .c .top, .c .top, .c .top, .c .top, .c .top, .c .top, .c .top, .c .top, .c .top, .c .top] ∧ st = [.row 1 (bs.map eb)] ∧ i + d = bs.length ∧ bs.length = (strOf s).length) [false, false, false, true, true] (strOf s).length [0] (by decide) (pinned_zero _) ⟨0, sBytes s, by rw [sBytes_len]; (simp only [yE, Nat.reduceEqDiff, Nat.reduceAdd, reduceCtorEq]; try rfl), by (simp only [yE, Nat.reduceEqDiff, Nat.reduceAdd, reduceCtorEq]; try rfl), by rw [sBytes_len]; omega, sBytes_len s⟩ ?_
  rintro d e st ⟨i, bs, rfl, rfl, hd, hb⟩
  by_cases hi : i < bs.length
  · obtain ⟨c, hc⟩ := get_lt hi
    have t1 : leI (bs.length : Nat) (i : Nat) = false := leI_false (by omega)
    have t0 : (0 : Int) ≤ (i : Nat) := by omega
    have t2 : ((i : Nat) : Int) < (bs.length : Nat) := by omega
    have w1 : wrapK .i64 ((i : Int) + 1) = ((i + 1 : Nat) : Int) := wrap_succ (by omega)
    cases h1 : leI 65 c with
    | false =>
      simp -implicitDefEqProofs only [↓yP, yT, Nat.reduceAdd, Nat.reduceMul, Nat.reduceSub, Nat.reduceLeDiff, Nat.reduceEqDiff, reduceCtorEq, Nat.reduceBEq, t1, t0, t2, ebGet hc, h1, w1, nn]
      refine ⟨d - 1, [0], by omega, by decide, pinned_zero _, i + 1, bs, by (simp only [yE, Nat.reduceEqDiff, Nat.reduceAdd, reduceCtorEq]; try rfl), by (simp only [yE, Nat.reduceEqDiff, Nat.reduceAdd, reduceCtorEq]; try rfl), by omega, hb⟩
    | true =>
      cases h2 : leI c 90 with
      | false =>
        simp -implicitDefEqProofs only [↓yP, yT, Nat.reduceAdd, Nat.reduceMul, Nat.reduceSub, Nat.reduceLeDiff, Nat.reduceEqDiff, reduceCtorEq, Nat.reduceBEq, t1, t0, t2, ebGet hc, h1, h2, w1, nn]
        refine ⟨d - 1, [0], by omega, by decide, pinned_zero _, i + 1, bs, by (simp only [yE, Nat.reduceEqDiff, Nat.reduceAdd, reduceCtorEq]; try rfl), by (simp only [yE, Nat.reduceEqDiff, Nat.reduceAdd, reduceCtorEq]; try rfl), by omega, hb⟩
      | true =>
        simp -implicitDefEqProofs only [↓yP, yT, Nat.reduceAdd, Nat.reduceMul, Nat.reduceSub, Nat.reduceLeDiff, Nat.reduceEqDiff, reduceCtorEq, Nat.reduceBEq, t1, t0, t2, ebGet hc, h1, h2, w1, nn]
        refine ⟨d - 1, [0], by omega, by decide, pinned_zero _, i + 1, bs.set i (wrapK .u8 (c + 32)), ?_, ?_, by simp; omega, by simp; omega⟩
        · simp only [yE, Nat.reduceEqDiff, Nat.reduceAdd, reduceCtorEq, List.length_set]
        · simp only [yE, Nat.reduceEqDiff, Nat.reduceAdd, reduceCtorEq, List.map_set]; rfl
  · have t1 : leI (bs.length : Nat) (i : Nat) = true := leI_true (by omega)
    simp -implicitDefEqProofs only [↓yP, yT, Nat.reduceAdd, Nat.reduceMul, Nat.reduceSub, Nat.reduceLeDiff, Nat.reduceEqDiff, reduceCtorEq, Nat.reduceBEq, t1, ybytes_eb, bytesOf_u8]
    exact ⟨bstr bs, rfl, by rw [bstr_len]; exact hb⟩
theorem url_spec (l : List Rn) (f i : Nat) (hl : l.length ≤ 1000000) (hf : f < i) (hi : i ≤ l.length) : PCall C1 104 [.c (.p (rR l)), yd (.int .i64 (f : Nat)), yd (.int .i64 (i : Nat))] (LexR l f) := by
  refine Pf (by rfl) (by rfl) fn104 (by rfl) ?_
  simp only [Try.f104, List.length_cons, List.length_nil, List.replicate, List.cons_append, List.nil_append]
  simp -implicitDefEqProofs only [↓yP, yT, Nat.reduceAdd, Nat.reduceMul, Nat.reduceSub, Nat.reduceLeDiff, Nat.reduceEqDiff, reduceCtorEq, Nat.reduceBEq]
  refine Rl_inv (fun d e s => ∃ (k : Nat), e = [.c (.p (rR l)), yd (.int .i64 (f : Nat)), yd (.int .i64 (k : Nat)), .c .top, .c .top, .c .top, .c (.ptr 0 0 0 0), .c .top, .c .top, .c .top, .c .top, .c .top, .c .top, .c .top, .c .top, .c .top, .c .top, .c .top, .c .top, .c .top, .c .top, .c .top, .c .top, .c .top, .c .top, .c .top, .c .top, .c .top, .c .top, .c .top, .c .top, .c .top, .c .top, .c .top, .c .top, .c .top, .c .top, .c .top, .c .top, .c .top, .c .top, .c .top, .c .top, .c .top, .c .top, .c .top, .c .top, .c .top, .c .top, .c .top, .c .top, .c .top, .c .top, .c .top, .c .top, .c .top, .c .top, .c .top, .c .top, .c .top, .c .top, .c .top, .c .top, .c .top, .c .top, .c .top, .c .top, .c .top, .c .top, .c .top, .c .top, .c .top, .c .top, .c .top, .c .top, .c .top, .c .top, .c .top, .c .top, .c .top, .c .top, .c .top, .c .top, .c .top, .c .top, .c .top, .c .top, .c .top, .c .top, .c .top, .c .top, .c .top, .c .top, .c .top, .c .top, .c .top, .c .top, .c .top, .c .top, .c .top, .c .top, .c .top, .c .top, .c .top, .c .top, .c .top, .c .top, .c .top, .c .top, .c .top, .c .top, .c .top, .c .top, .c .top, .c .top, .c .top, .c .top, .c .top, .c .top, .c .top, .c .top, .c .top, .c .top, .c .top, .c .top, .c .top, .c .top, .c .top, .c .top, .c .top, .c .top, .c .top, .c .top, .c .top, .c .top, .c .top, .c .top, .c .top, .c .top, .c .top, .c .top] ∧ s = [.box zt] ∧ k + d = l.length ∧ f < k) [true, true, true, false, false, false, true] (l.length - i) [0] (by decide) (pinned_zero _) ⟨i, by (simp only [yE, Nat.reduceEqDiff, Nat.reduceAdd, reduceCtorEq]; try rfl), by (simp only [yE, Nat.reduceEqDiff, Nat.reduceAdd, reduceCtorEq]; try rfl), by omega, by omega⟩ ?_
  rintro d e s ⟨k, rfl, rfl, hd, hk⟩
  have w1 : wrapK .i64 ((k : Int) + 1) = ((k + 1 : Nat) : Int) := wrap_succ (by omega)
  simp -implicitDefEqProofs only [↓yP, yT, Nat.reduceAdd, Nat.reduceMul, Nat.reduceSub, Nat.reduceLeDiff, Nat.reduceEqDiff, reduceCtorEq, Nat.reduceBEq]
  refine Rcall_pure (at_spec l _) (by rfl) fun y hy => ?_
  subst hy
  simp -implicitDefEqProofs only [↓yP, yT, Nat.reduceAdd, Nat.reduceMul, Nat.reduceSub, Nat.reduceLeDiff, Nat.reduceEqDiff, reduceCtorEq, Nat.reduceBEq]
  refine Rcall_pure (blank_spec1 _) (by rfl) fun y hy => ?_
  subst hy
  cases h1 : blankB (atR l (k : Nat)) with
  | true =>
    have hkl : k < l.length := Nat.lt_of_not_le fun hle => by
      rw [atR_out (by omega)] at h1
      exact absurd h1 (by decide)
    simp -implicitDefEqProofs only [↓yP, yT, Nat.reduceAdd, Nat.reduceMul, Nat.reduceSub, Nat.reduceLeDiff, Nat.reduceEqDiff, reduceCtorEq, Nat.reduceBEq, w1]
    refine ⟨d - 1, [0], by omega, by decide, pinned_zero _, k + 1, by (simp only [yE, Nat.reduceEqDiff, Nat.reduceAdd, reduceCtorEq]; try rfl), by (simp only [yE, Nat.reduceEqDiff, Nat.reduceAdd, reduceCtorEq]; try rfl), by omega, by omega⟩
  | false =>
    simp -implicitDefEqProofs only [↓yP, yT, Nat.reduceAdd, Nat.reduceMul, Nat.reduceSub, Nat.reduceLeDiff, Nat.reduceEqDiff, reduceCtorEq, Nat.reduceBEq]
    refine Rl_nil 8 1 (by decide) rfl ?_
    refine Rl_inv (fun d e s => ∃ (k : Nat) (bs : List Int), e = [.c (.p (rR l)), yd (.int .i64 (f : Nat)), yd (.int .i64 (k : Nat)), .c .top, .c .top, .c .top, .c (.ptr 0 0 0 0), .c .top, .c (.own 1 1 0 bs.length), .c .top, .c .top, .c .top, .c .top, .c .top, .c .top, .c .top, .c .top, .c .top, .c .top, .c .top, .c .top, .c .top, .c .top, .c .top, .c .top, .c .top, .c .top, .c .top, .c .top, .c .top, .c .top, .c .top, .c .top, .c .top, .c .top, .c .top, .c .top, .c .top, .c .top, .c .top, .c .top, .c .top, .c .top, .c .top, .c .top, .c .top, .c .top, .c .top, .c .top, .c .top, .c .top, .c .top, .c .top, .c .top, .c .top, .c .top, .c .top, .c .top, .c .top, .c .top, .c .top, .c .top, .c .top, .c .top, .c .top, .c .top, .c .top, .c .top, .c .top, .c .top, .c .top, .c .top, .c .top, .c .top, .c .top, .c .top, .c .top, .c .top, .c .top, .c .top, .c .top, .c .top, .c .top, .c .top, .c .top, .c .top, .c .top, .c .top, .c .top, .c .top, .c .top, .c .top, .c .top, .c .top, .c .top, .c .top, .c .top, .c .top, .c .top, .c .top, .c .top, .c .top, .c .top, .c .top, .c .top, .c .top, .c .top, .c .top, .c .top, .c .top, .c .top, .c .top, .c .top, .c .top, .c .top, .c .top, .c .top, .c .top, .c .top, .c .top, .c .top, .c .top, .c .top, .c .top, .c .top, .c .top, .c .top, .c .top, .c .top, .c .top, .c .top, .c .top, .c .top, .c .top, .c .top, .c .top, .c .top, .c .top, .c .top, .c .top, .c .top] ∧ s = [.box zt, .row 1 (bs.map eb)] ∧ k + d = l.length ∧ f < k ∧ bs.length ≤ 4 * k) [true, true, true, false, false, false, true, false, true] d [0, 1] (by decide) (pinned_zero _) ⟨k, [], by (simp only [yE, Nat.reduceEqDiff, Nat.reduceAdd, reduceCtorEq]; try rfl), by (simp only [yE, Nat.reduceEqDiff, Nat.reduceAdd, reduceCtorEq]; try rfl), by omega, by omega, by simp⟩ ?_
    clear h1 w1 hd hk k d
    rintro d e s ⟨k, bs, rfl, rfl, hd, hk, hb⟩
    by_cases hkl : k < l.length
    · obtain ⟨x, hx⟩ := get_lt hkl
      have t1 : leI (l.length : Nat) (k : Nat) = false := leI_false (by omega)
      have w1 : wrapK .i64 ((k : Int) + 1) = ((k + 1 : Nat) : Int) := wrap_succ (by omega)
      cases h1 : eqI x.r 41 with
      | true =>
        simp -implicitDefEqProofs only [↓yP, yT, Nat.reduceAdd, Nat.reduceMul, Nat.reduceSub, Nat.reduceLeDiff, Nat.reduceEqDiff, reduceCtorEq, Nat.reduceBEq, t1, rnGet hx, h1, w1, ybytes_eb, bytesOf_u8, zt13, ztd]
        exact ⟨lexTok 7 (bstr bs), k + 1, rfl, by omega, by omega, .plain (by rw [bstr_len]; omega) (by decide)⟩
      | false =>
        simp -implicitDefEqProofs only [↓yP, yT, Nat.reduceAdd, Nat.reduceMul, Nat.reduceSub, Nat.reduceLeDiff, Nat.reduceEqDiff, reduceCtorEq, Nat.reduceBEq, t1, rnGet hx, h1]
        refine Rcall_pure (blank_spec1 _) (by rfl) fun y hy => ?_
        subst hy
        cases h2 : blankB x.r with
        | true =>
          simp -implicitDefEqProofs only [↓yP, yT, Nat.reduceAdd, Nat.reduceMul, Nat.reduceSub, Nat.reduceLeDiff, Nat.reduceEqDiff, reduceCtorEq, Nat.reduceBEq]
          refine Rl_inv (fun d' e s => ∃ (j : Nat), e = [.c (.p (rR l)), yd (.int .i64 (f : Nat)), .c .top, .c .top, .c .top, .c .top, .c (.ptr 0 0 0 0), .c .top, .c (.own 1 1 0 bs.length), .c .top, yd (.int .i64 (j : Nat)), .c .top, .c .top, .c .top, .c .top, .c .top, .c .top, .c .top, .c .top, .c .top, .c .top, .c .top, .c .top, .c .top, .c .top, .c .top, .c .top, .c .top, .c .top, .c .top, .c .top, .c .top, .c .top, .c .top, .c .top, .c .top, .c .top, .c .top, .c .top, .c .top, .c .top, .c .top, .c .top, .c .top, .c .top, .c .top, .c .top, .c .top, .c .top, .c .top, .c .top, .c .top, .c .top, .c .top, .c .top, .c .top, .c .top, .c .top, .c .top, .c .top, .c .top, .c .top, .c .top, .c .top, .c .top, .c .top, .c .top, .c .top, .c .top, .c .top, .c .top, .c .top, .c .top, .c .top, .c .top, .c .top, .c .top, .c .top, .c .top, .c .top, .c .top, .c .top, .c .top, .c .top, .c .top, .c .top, .c .top, .c .top, .c .top, .c .top, .c .top, .c .top, .c .top, .c .top, .c .top, .c .top, .c .top, .c .top, .c .top, .c .top, .c .top, .c .top, .c .top, .c .top, .c .top, .c .top, .c .top, .c .top, .c .top, .c .top, .c .top, .c .top, .c .top, .c .top, .c .top, .c .top, .c .top, .c .top, .c .top, .c .top, .c .top, .c .top, .c .top, .c .top, .c .top, .c .top, .c .top, .c .top, .c .top, .c .top, .c .top, .c .top, .c .top, .c .top, .c .top, .c .top, .c .top, .c .top, .c .top, .c .top, .c .top] ∧ s = [.box zt, .row 1 (bs.map eb)] ∧ j + d' = l.length ∧ k ≤ j ∧ (j = k → blankB (atR l (j : Nat)) = true)) [true, true, false, false, false, false, true, false, true, false, true] d [0, 1] (by decide) (pinned_zero _) ⟨k, by (simp only [yE, Nat.reduceEqDiff, Nat.reduceAdd, reduceCtorEq]; try rfl), by (simp only [yE, Nat.reduceEqDiff, Nat.reduceAdd, reduceCtorEq]; try rfl), by omega, by omega, fun _ => by rw [atR_get hx]; exact h2⟩ ?_
          rintro d' e s ⟨j, rfl, rfl, hd', hj, hjk⟩
          have v1 : wrapK .i64 ((j : Int) + 1) = ((j + 1 : Nat) : Int) := wrap_succ (by omega)
          simp -implicitDefEqProofs only [↓yP, yT, Nat.reduceAdd, Nat.reduceMul, Nat.reduceSub, Nat.reduceLeDiff, Nat.reduceEqDiff, reduceCtorEq, Nat.reduceBEq]
          refine Rcall_pure (at_spec l _) (by rfl) fun y hy => ?_
          subst hy
          simp -implicitDefEqProofs only [↓yP, yT, Nat.reduceAdd, Nat.reduceMul, Nat.reduceSub, Nat.reduceLeDiff, Nat.reduceEqDiff, reduceCtorEq, Nat.reduceBEq]
          refine Rcall_pure (blank_spec1 _) (by rfl) fun y hy => ?_
          subst hy
          cases h3 : blankB (atR l (j : Nat)) with
          | true =>
            have hjl : j < l.length := Nat.lt_of_not_le fun hle => by
              rw [atR_out (by omega)] at h3
              exact absurd h3 (by decide)
            simp -implicitDefEqProofs only [↓yP, yT, Nat.reduceAdd, Nat.reduceMul, Nat.reduceSub, Nat.reduceLeDiff, Nat.reduceEqDiff, reduceCtorEq, Nat.reduceBEq, v1]
            refine ⟨d' - 1, [0, 1], by omega, by decide, pinned_zero _, j + 1, by (simp only [yE, Nat.reduceEqDiff, Nat.reduceAdd, reduceCtorEq]; try rfl), by (simp only [yE, Nat.reduceEqDiff, Nat.reduceAdd, reduceCtorEq]; try rfl), by omega, by omega, fun h => by omega⟩
          | false =>
            have hkj : k < j := by
              rcases Nat.lt_or_ge k j with g | g
              · exact g
              · rw [hjk (by omega)] at h3; cases h3
            by_cases hjl : j < l.length
            · obtain ⟨z, hz⟩ := get_lt hjl
              have t3 : leI (l.length : Nat) (j : Nat) = false := leI_false (by omega)
              cases h4 : eqI z.r 41 with
              | true =>
                simp -implicitDefEqProofs only [↓yP, yT, Nat.reduceAdd, Nat.reduceMul, Nat.reduceSub, Nat.reduceLeDiff, Nat.reduceEqDiff, reduceCtorEq, Nat.reduceBEq, t3, rnGet hz, h4]
                refine ⟨d', [0, 1], by omega, by decide, pinned_zero _, j, bs, by (simp only [yE, Nat.reduceEqDiff, Nat.reduceAdd, reduceCtorEq]; try rfl), by (simp only [yE, Nat.reduceEqDiff, Nat.reduceAdd, reduceCtorEq]; try rfl), by omega, by omega, by omega⟩
              | false =>
                simp -implicitDefEqProofs only [↓yP, yT, Nat.reduceAdd, Nat.reduceMul, Nat.reduceSub, Nat.reduceLeDiff, Nat.reduceEqDiff, reduceCtorEq, Nat.reduceBEq, t3, rnGet hz, h4]
                refine Rcall_pure (badUrl_spec l j hl (by omega)) (by rfl) fun y hy => ?_
                obtain ⟨k', rfl, hk1, hk2⟩ := hy
                simp -implicitDefEqProofs only [↓yP, yT, Nat.reduceAdd, Nat.reduceMul, Nat.reduceSub, Nat.reduceLeDiff, Nat.reduceEqDiff, reduceCtorEq, Nat.reduceBEq]
                refine Rcall_pure (raw_spec l f k' hl (by omega) (by omega)) (by rfl) fun y hy => ?_
                obtain ⟨st, rfl, hst⟩ := hy
                simp -implicitDefEqProofs only [↓yP, yT, Nat.reduceAdd, Nat.reduceMul, Nat.reduceSub, Nat.reduceLeDiff, Nat.reduceEqDiff, reduceCtorEq, Nat.reduceBEq, zt13, ztd]
                exact ⟨lexTok 8 st, k', rfl, by omega, by omega, .plain hst (by decide)⟩
            · have t3 : leI (l.length : Nat) (j : Nat) = true := leI_true (by omega)
              simp -implicitDefEqProofs only [↓yP, yT, Nat.reduceAdd, Nat.reduceMul, Nat.reduceSub, Nat.reduceLeDiff, Nat.reduceEqDiff, reduceCtorEq, Nat.reduceBEq, t3]
              refine ⟨d', [0, 1], by omega, by decide, pinned_zero _, j, bs, by (simp only [yE, Nat.reduceEqDiff, Nat.reduceAdd, reduceCtorEq]; try rfl), by (simp only [yE, Nat.reduceEqDiff, Nat.reduceAdd, reduceCtorEq]; try rfl), by omega, by omega, by omega⟩
        | false =>
          cases q1 : eqI x.r 34 with
          | true =>
            simp -implicitDefEqProofs only [↓yP, yT, Nat.reduceAdd, Nat.reduceMul, Nat.reduceSub, Nat.reduceLeDiff, Nat.reduceEqDiff, reduceCtorEq, Nat.reduceBEq, q1]
            refine Rcall_pure (badUrl_spec l k hl (by omega)) (by rfl) fun y hy => ?_
            obtain ⟨k', rfl, hk1, hk2⟩ := hy
            simp -implicitDefEqProofs only [↓yP, yT, Nat.reduceAdd, Nat.reduceMul, Nat.reduceSub, Nat.reduceLeDiff, Nat.reduceEqDiff, reduceCtorEq, Nat.reduceBEq]
            refine Rcall_pure (raw_spec l f k' hl (by omega) (by omega)) (by rfl) fun y hy => ?_
            obtain ⟨st, rfl, hst⟩ := hy
            simp -implicitDefEqProofs only [↓yP, yT, Nat.reduceAdd, Nat.reduceMul, Nat.reduceSub, Nat.reduceLeDiff, Nat.reduceEqDiff, reduceCtorEq, Nat.reduceBEq, zt13, ztd]
            exact ⟨lexTok 8 st, k', rfl, by omega, by omega, .plain hst (by decide)⟩
          | false =>
          cases q2 : eqI x.r 39 with
          | true =>
            simp -implicitDefEqProofs only [↓yP, yT, Nat.reduceAdd, Nat.reduceMul, Nat.reduceSub, Nat.reduceLeDiff, Nat.reduceEqDiff, reduceCtorEq, Nat.reduceBEq, q1, q2]
            refine Rcall_pure (badUrl_spec l k hl (by omega)) (by rfl) fun y hy => ?_
            obtain ⟨k', rfl, hk1, hk2⟩ := hy
            simp -implicitDefEqProofs only [↓yP, yT, Nat.reduceAdd, Nat.reduceMul, Nat.reduceSub, Nat.reduceLeDiff, Nat.reduceEqDiff, reduceCtorEq, Nat.reduceBEq]
            refine Rcall_pure (raw_spec l f k' hl (by omega) (by omega)) (by rfl) fun y hy => ?_
            obtain ⟨st, rfl, hst⟩ := hy
            simp -implicitDefEqProofs only [↓yP, yT, Nat.reduceAdd, Nat.reduceMul, Nat.reduceSub, Nat.reduceLeDiff, Nat.reduceEqDiff, reduceCtorEq, Nat.reduceBEq, zt13, ztd]
            exact ⟨lexTok 8 st, k', rfl, by omega, by omega, .plain hst (by decide)⟩
          | false =>
          cases q3 : eqI x.r 40 with
          | true =>
            simp -implicitDefEqProofs only [↓yP, yT, Nat.reduceAdd, Nat.reduceMul, Nat.reduceSub, Nat.reduceLeDiff, Nat.reduceEqDiff, reduceCtorEq, Nat.reduceBEq, q1, q2, q3]
            refine Rcall_pure (badUrl_spec l k hl (by omega)) (by rfl) fun y hy => ?_
            obtain ⟨k', rfl, hk1, hk2⟩ := hy
            simp -implicitDefEqProofs only [↓yP, yT, Nat.reduceAdd, Nat.reduceMul, Nat.reduceSub, Nat.reduceLeDiff, Nat.reduceEqDiff, reduceCtorEq, Nat.reduceBEq]
            refine Rcall_pure (raw_spec l f k' hl (by omega) (by omega)) (by rfl) fun y hy => ?_
            obtain ⟨st, rfl, hst⟩ := hy
            simp -implicitDefEqProofs only [↓yP, yT, Nat.reduceAdd, Nat.reduceMul, Nat.reduceSub, Nat.reduceLeDiff, Nat.reduceEqDiff, reduceCtorEq, Nat.reduceBEq, zt13, ztd]
            exact ⟨lexTok 8 st, k', rfl, by omega, by omega, .plain hst (by decide)⟩
          | false =>
          cases q4 : leI 9 x.r with
          | false =>
            simp -implicitDefEqProofs only [↓yP, yT, Nat.reduceAdd, Nat.reduceMul, Nat.reduceSub, Nat.reduceLeDiff, Nat.reduceEqDiff, reduceCtorEq, Nat.reduceBEq, q1, q2, q3, q4]
            refine Rcall_pure (badUrl_spec l k hl (by omega)) (by rfl) fun y hy => ?_
            obtain ⟨k', rfl, hk1, hk2⟩ := hy
            simp -implicitDefEqProofs only [↓yP, yT, Nat.reduceAdd, Nat.reduceMul, Nat.reduceSub, Nat.reduceLeDiff, Nat.reduceEqDiff, reduceCtorEq, Nat.reduceBEq]
            refine Rcall_pure (raw_spec l f k' hl (by omega) (by omega)) (by rfl) fun y hy => ?_
            obtain ⟨st, rfl, hst⟩ := hy
            simp -implicitDefEqProofs only [↓yP, yT, Nat.reduceAdd, Nat.reduceMul, Nat.reduceSub, Nat.reduceLeDiff, Nat.reduceEqDiff, reduceCtorEq, Nat.reduceBEq, zt13, ztd]
            exact ⟨lexTok 8 st, k', rfl, by omega, by omega, .plain hst (by decide)⟩
          | true =>
          cases q5 : eqI x.r 11 with
          | true =>
            simp -implicitDefEqProofs only [↓yP, yT, Nat.reduceAdd, Nat.reduceMul, Nat.reduceSub, Nat.reduceLeDiff, Nat.reduceEqDiff, reduceCtorEq, Nat.reduceBEq, q1, q2, q3, q4, q5]
            refine Rcall_pure (badUrl_spec l k hl (by omega)) (by rfl) fun y hy => ?_
            obtain ⟨k', rfl, hk1, hk2⟩ := hy
            simp -implicitDefEqProofs only [↓yP, yT, Nat.reduceAdd, Nat.reduceMul, Nat.reduceSub, Nat.reduceLeDiff, Nat.reduceEqDiff, reduceCtorEq, Nat.reduceBEq]
            refine Rcall_pure (raw_spec l f k' hl (by omega) (by omega)) (by rfl) fun y hy => ?_
            obtain ⟨st, rfl, hst⟩ := hy
            simp -implicitDefEqProofs only [↓yP, yT, Nat.reduceAdd, Nat.reduceMul, Nat.reduceSub, Nat.reduceLeDiff, Nat.reduceEqDiff, reduceCtorEq, Nat.reduceBEq, zt13, ztd]
            exact ⟨lexTok 8 st, k', rfl, by omega, by omega, .plain hst (by decide)⟩
          | false =>
          cases q6 : leI 14 x.r <;> cases q7 : leI 32 x.r
          case true.false =>
            simp -implicitDefEqProofs only [↓yP, yT, Nat.reduceAdd, Nat.reduceMul, Nat.reduceSub, Nat.reduceLeDiff, Nat.reduceEqDiff, reduceCtorEq, Nat.reduceBEq, q1, q2, q3, q4, q5, q6, q7]
            refine Rcall_pure (badUrl_spec l k hl (by omega)) (by rfl) fun y hy => ?_
            obtain ⟨k', rfl, hk1, hk2⟩ := hy
            simp -implicitDefEqProofs only [↓yP, yT, Nat.reduceAdd, Nat.reduceMul, Nat.reduceSub, Nat.reduceLeDiff, Nat.reduceEqDiff, reduceCtorEq, Nat.reduceBEq]
            refine Rcall_pure (raw_spec l f k' hl (by omega) (by omega)) (by rfl) fun y hy => ?_
            obtain ⟨st, rfl, hst⟩ := hy
            simp -implicitDefEqProofs only [↓yP, yT, Nat.reduceAdd, Nat.reduceMul, Nat.reduceSub, Nat.reduceLeDiff, Nat.reduceEqDiff, reduceCtorEq, Nat.reduceBEq, zt13, ztd]
            exact ⟨lexTok 8 st, k', rfl, by omega, by omega, .plain hst (by decide)⟩
          all_goals
            cases q8 : eqI x.r 127 with
            | true =>
              simp -implicitDefEqProofs only [↓yP, yT, Nat.reduceAdd, Nat.reduceMul, Nat.reduceSub, Nat.reduceLeDiff, Nat.reduceEqDiff, reduceCtorEq, Nat.reduceBEq, q1, q2, q3, q4, q5, q6, q7, q8]
              refine Rcall_pure (badUrl_spec l k hl (by omega)) (by rfl) fun y hy => ?_
              obtain ⟨k', rfl, hk1, hk2⟩ := hy
              simp -implicitDefEqProofs only [↓yP, yT, Nat.reduceAdd, Nat.reduceMul, Nat.reduceSub, Nat.reduceLeDiff, Nat.reduceEqDiff, reduceCtorEq, Nat.reduceBEq]
              refine Rcall_pure (raw_spec l f k' hl (by omega) (by omega)) (by rfl) fun y hy => ?_
              obtain ⟨st, rfl, hst⟩ := hy
              simp -implicitDefEqProofs only [↓yP, yT, Nat.reduceAdd, Nat.reduceMul, Nat.reduceSub, Nat.reduceLeDiff, Nat.reduceEqDiff, reduceCtorEq, Nat.reduceBEq, zt13, ztd]
              exact ⟨lexTok 8 st, k', rfl, by omega, by omega, .plain hst (by decide)⟩
            | false =>
            cases q9 : eqI x.r 92 with
            | false =>
              obtain ⟨p1, p2⟩ := putB_len x.r
              simp -implicitDefEqProofs only [↓yP, yT, Nat.reduceAdd, Nat.reduceMul, Nat.reduceSub, Nat.reduceLeDiff, Nat.reduceEqDiff, reduceCtorEq, Nat.reduceBEq, q1, q2, q3, q4, q5, q6, q7, q8, q9]
              refine Rcall_own' (els := bs.map eb) (n' := (bs ++ putB x.r).length) (by simp) (by simp) (by rfl) (by rfl) (put_spec x.r bs (by omega)) ?_
              simp -implicitDefEqProofs only [↓yP, yT, Nat.reduceAdd, Nat.reduceMul, Nat.reduceSub, Nat.reduceLeDiff, Nat.reduceEqDiff, reduceCtorEq, Nat.reduceBEq, w1]
              refine ⟨d - 1, [0, 2], by omega, by decide, pinned_zero _, k + 1, bs ++ putB x.r, by (simp only [yE, Nat.reduceEqDiff, Nat.reduceAdd, reduceCtorEq]; try rfl), by (simp only [yE, Nat.reduceEqDiff, Nat.reduceAdd, reduceCtorEq]; try rfl), by omega, by omega, by simp; omega⟩
            | true =>
              simp -implicitDefEqProofs only [↓yP, yT, Nat.reduceAdd, Nat.reduceMul, Nat.reduceSub, Nat.reduceLeDiff, Nat.reduceEqDiff, reduceCtorEq, Nat.reduceBEq, q1, q2, q3, q4, q5, q6, q7, q8, q9]
              refine Rcall_pure (escape_spec l k (by omega)) (by rfl) fun y hy => ?_
              subst hy
              cases q10 : escB l k with
              | false =>
                simp -implicitDefEqProofs only [↓yP, yT, Nat.reduceAdd, Nat.reduceMul, Nat.reduceSub, Nat.reduceLeDiff, Nat.reduceEqDiff, reduceCtorEq, Nat.reduceBEq, q1]
                refine Rcall_pure (badUrl_spec l k hl (by omega)) (by rfl) fun y hy => ?_
                obtain ⟨k', rfl, hk1, hk2⟩ := hy
                simp -implicitDefEqProofs only [↓yP, yT, Nat.reduceAdd, Nat.reduceMul, Nat.reduceSub, Nat.reduceLeDiff, Nat.reduceEqDiff, reduceCtorEq, Nat.reduceBEq]
                refine Rcall_pure (raw_spec l f k' hl (by omega) (by omega)) (by rfl) fun y hy => ?_
                obtain ⟨st, rfl, hst⟩ := hy
                simp -implicitDefEqProofs only [↓yP, yT, Nat.reduceAdd, Nat.reduceMul, Nat.reduceSub, Nat.reduceLeDiff, Nat.reduceEqDiff, reduceCtorEq, Nat.reduceBEq, zt13, ztd]
                exact ⟨lexTok 8 st, k', rfl, by omega, by omega, .plain hst (by decide)⟩
              | true =>
                simp -implicitDefEqProofs only [↓yP, yT, Nat.reduceAdd, Nat.reduceMul, Nat.reduceSub, Nat.reduceLeDiff, Nat.reduceEqDiff, reduceCtorEq, Nat.reduceBEq, q9]
                refine Rcall_pure (escaped_spec l k hl hkl) (by rfl) fun y hy => ?_
                obtain ⟨z, k', rfl, hk1, hk2⟩ := hy
                obtain ⟨p1, p2⟩ := putB_len z
                simp -implicitDefEqProofs only [↓yP, yT, Nat.reduceAdd, Nat.reduceMul, Nat.reduceSub, Nat.reduceLeDiff, Nat.reduceEqDiff, reduceCtorEq, Nat.reduceBEq]
                refine Rcall_own' (els := bs.map eb) (n' := (bs ++ putB z).length) (by simp) (by simp) (by rfl) (by rfl) (put_spec z bs (by omega)) ?_
                simp -implicitDefEqProofs only [↓yP, yT, Nat.reduceAdd, Nat.reduceMul, Nat.reduceSub, Nat.reduceLeDiff, Nat.reduceEqDiff, reduceCtorEq, Nat.reduceBEq]
                refine ⟨l.length - k', [0, 2], by omega, by decide, pinned_zero _, k', bs ++ putB z, by (simp only [yE, Nat.reduceEqDiff, Nat.reduceAdd, reduceCtorEq]; try rfl), by (simp only [yE, Nat.reduceEqDiff, Nat.reduceAdd, reduceCtorEq]; try rfl), by omega, by omega, by simp; omega⟩
    · have t1 : leI (l.length : Nat) (k : Nat) = true := leI_true (by omega)
      simp -implicitDefEqProofs only [↓yP, yT, Nat.reduceAdd, Nat.reduceMul, Nat.reduceSub, Nat.reduceLeDiff, Nat.reduceEqDiff, reduceCtorEq, Nat.reduceBEq, t1, ybytes_eb, bytesOf_u8, zt13, ztd]
      exact ⟨lexTok 7 (bstr bs), k, rfl, by omega, by omega, .plain (by rw [bstr_len]; omega) (by decide)⟩
end Go.Vx.Seat
end
/- Names. -/
section
open Go Go.Vx Go.Proofs
set_option linter.unusedSimpArgs false
set_option linter.unusedVariables false
set_option maxRecDepth 10000
set_option maxHeartbeats 4000000
namespace Go.Vx.Seat
attribute [local congr] Rg_at Rt_at Ro_at Ri_at Rc_at Rto_at Rtk_at Rtf_at Rti_at
attribute [local irreducible] Rg Rt Ro Ri Rc Rto Rtk Rtf Rti Rw Rl Rd Rcall Rtcall kf
/-- A token, where it ends, and what else is known. -/
def LexQ (l : List Rn) (i : Nat) (Q : Tok → Nat → Prop) (y : YV) : Prop := ∃ (t : Tok) (k : Nat), y = .tup [t.yv, yd (.int .i64 (k : Nat))] ∧ i < k ∧ k ≤ l.length ∧ TokLex l t ∧ Q t k
def NameQ (l : List Rn) (i : Nat) (t : Tok) (k : Nat) : Prop := inB (atR l (i : Nat)) = true → inB (atR l ((i + 1 : Nat) : Int)) = false → escB l (i + 1) = false → atR l ((i + 1 : Nat) : Int) ≠ 40 → t.kind = 1 ∧ k = i + 1
theorem xstr_eql (a b : ByteArray) : xstr .eql a b = some (.bool (strOf a == strOf b)) := rfl
theorem named_spec (l : List Rn) (i : Nat) (hl : l.length ≤ 1000000) (hi : i < l.length) (hb : inB (atR l (i : Nat)) = true ∨ escB l i = true) : PCall C1 84 [.c (.p (rR l)), yd (.int .i64 (i : Nat))] (LexQ l i (NameQ l i)) := by
  refine Pf (by rfl) (by rfl) fn84 (by rfl) ?_
  simp only [Try.f84, List.length_cons, List.length_nil, List.replicate, List.cons_append, List.nil_append]
  simp -implicitDefEqProofs only [↓yP, yT, Nat.reduceAdd, Nat.reduceMul, Nat.reduceSub, Nat.reduceLeDiff, Nat.reduceEqDiff, reduceCtorEq, Nat.reduceBEq]
  refine Rcall_pure (take_spec l i hl (by omega)) (by rfl) fun y hy => ?_
  obtain ⟨s, k, rfl, hk1, hk2, hs, hk3, hk4⟩ := hy
  have hik := hk3 hb
  have w1 : wrapK .i64 ((k : Int) + 1) = ((k + 1 : Nat) : Int) := wrap_succ (by omega)
  simp -implicitDefEqProofs only [↓yP, yT, Nat.reduceAdd, Nat.reduceMul, Nat.reduceSub, Nat.reduceLeDiff, Nat.reduceEqDiff, reduceCtorEq, Nat.reduceBEq]
  refine Rcall_pure (at_spec l _) (by rfl) fun y hy => ?_
  subst hy
  cases h1 : eqI (atR l (k : Nat)) 40 with
  | false =>
    simp -implicitDefEqProofs only [↓yP, yT, Nat.reduceAdd, Nat.reduceMul, Nat.reduceSub, Nat.reduceLeDiff, Nat.reduceEqDiff, reduceCtorEq, Nat.reduceBEq, h1, zt13, ztd]
    exact ⟨lexTok 1 s, k, rfl, by omega, by omega, .plain hs (by decide), fun a1 a2 a3 _ => ⟨rfl, hk4 a1 a2 a3⟩⟩
  | true =>
    have hk40 := of_eqT h1
    have hkl : k < l.length := Nat.lt_of_not_le fun hle => by
      rw [atR_out (by omega)] at hk40
      exact absurd hk40 (by decide)
    simp -implicitDefEqProofs only [↓yP, yT, Nat.reduceAdd, Nat.reduceMul, Nat.reduceSub, Nat.reduceLeDiff, Nat.reduceEqDiff, reduceCtorEq, Nat.reduceBEq, h1, w1]
    refine Rl_inv (fun d e st => ∃ (j : Nat), e = [.c (.p (rR l)), yd (.int .i64 (i : Nat)), .c .top, .c .top, .c (.ptr 0 0 0 0), .c .top, yd (.string s), yd (.int .i64 (k : Nat)), yd (.int .i64 (j : Nat)), .c .top, .c .top, .c .top, .c .top, .c .top, .c .top, .c .top, .c .top, .c .top, .c .top, .c .top, .c .top, .c .top, .c .top, .c .top, .c .top, .c .top, .c .top, .c .top, .c .top, .c .top, .c .top, .c .top, .c .top, .c .top, .c .top, .c .top, .c .top, .c .top, .c .top, .c .top, .c .top, .c .top, .c .top, .c .top, .c .top, .c .top, .c .top, .c .top, .c .top, .c .top, .c .top, .c .top, .c .top, .c .top, .c .top, .c .top] ∧ st = [.box zt] ∧ j + d = l.length) [true, true, false, false, true, false, true, true, true] (l.length - (k + 1)) [0] (by decide) (pinned_zero _) ⟨k + 1, by (simp only [yE, Nat.reduceEqDiff, Nat.reduceAdd, reduceCtorEq]; try rfl), by (simp only [yE, Nat.reduceEqDiff, Nat.reduceAdd, reduceCtorEq]; try rfl), by omega⟩ ?_
    rintro d e st ⟨j, rfl, rfl, hd⟩
    have v1 : wrapK .i64 ((j : Int) + 1) = ((j + 1 : Nat) : Int) := wrap_succ (by omega)
    simp -implicitDefEqProofs only [↓yP, yT, Nat.reduceAdd, Nat.reduceMul, Nat.reduceSub, Nat.reduceLeDiff, Nat.reduceEqDiff, reduceCtorEq, Nat.reduceBEq]
    refine Rcall_pure (at_spec l _) (by rfl) fun y hy => ?_
    subst hy
    simp -implicitDefEqProofs only [↓yP, yT, Nat.reduceAdd, Nat.reduceMul, Nat.reduceSub, Nat.reduceLeDiff, Nat.reduceEqDiff, reduceCtorEq, Nat.reduceBEq]
    refine Rcall_pure (blank_spec1 _) (by rfl) fun y hy => ?_
    subst hy
    cases h2 : blankB (atR l (j : Nat)) with
    | true =>
      have hjl : j < l.length := Nat.lt_of_not_le fun hle => by
        rw [atR_out (by omega)] at h2
        exact absurd h2 (by decide)
      simp -implicitDefEqProofs only [↓yP, yT, Nat.reduceAdd, Nat.reduceMul, Nat.reduceSub, Nat.reduceLeDiff, Nat.reduceEqDiff, reduceCtorEq, Nat.reduceBEq, v1]
      refine ⟨d - 1, [0], by omega, by decide, pinned_zero _, j + 1, by (simp only [yE, Nat.reduceEqDiff, Nat.reduceAdd, reduceCtorEq]; try rfl), by (simp only [yE, Nat.reduceEqDiff, Nat.reduceAdd, reduceCtorEq]; try rfl), by omega⟩
    | false =>
      simp -implicitDefEqProofs only [↓yP, yT, Nat.reduceAdd, Nat.reduceMul, Nat.reduceSub, Nat.reduceLeDiff, Nat.reduceEqDiff, reduceCtorEq, Nat.reduceBEq]
      refine Rcall_pure (lower_spec s (by omega)) (by rfl) fun y hy => ?_
      obtain ⟨s', rfl, hs'⟩ := hy
      cases h3 : (strOf s' == strOf ⟨#[117, 114, 108]⟩) with
      | false =>
        simp -implicitDefEqProofs only [↓yP, yT, Nat.reduceAdd, Nat.reduceMul, Nat.reduceSub, Nat.reduceLeDiff, Nat.reduceEqDiff, reduceCtorEq, Nat.reduceBEq, xstr_eql, h3, w1, zt13, ztd]
        exact ⟨lexTok 2 s, k + 1, rfl, by omega, by omega, .plain hs (by decide), fun a1 a2 a3 a4 => by exfalso; have := hk4 a1 a2 a3; subst this; exact a4 hk40⟩
      | true =>
        simp -implicitDefEqProofs only [↓yP, yT, Nat.reduceAdd, Nat.reduceMul, Nat.reduceSub, Nat.reduceLeDiff, Nat.reduceEqDiff, reduceCtorEq, Nat.reduceBEq, xstr_eql, h3]
        refine Rcall_pure (at_spec l _) (by rfl) fun y hy => ?_
        subst hy
        cases h4 : eqI (atR l (j : Nat)) 34 with
        | true =>
          simp -implicitDefEqProofs only [↓yP, yT, Nat.reduceAdd, Nat.reduceMul, Nat.reduceSub, Nat.reduceLeDiff, Nat.reduceEqDiff, reduceCtorEq, Nat.reduceBEq, h4, w1, zt13, ztd]
          exact ⟨lexTok 2 s, k + 1, rfl, by omega, by omega, .plain hs (by decide), fun a1 a2 a3 a4 => by exfalso; have := hk4 a1 a2 a3; subst this; exact a4 hk40⟩
        | false =>
          simp -implicitDefEqProofs only [↓yP, yT, Nat.reduceAdd, Nat.reduceMul, Nat.reduceSub, Nat.reduceLeDiff, Nat.reduceEqDiff, reduceCtorEq, Nat.reduceBEq, h4]
          refine Rcall_pure (at_spec l _) (by rfl) fun y hy => ?_
          subst hy
          cases h5 : eqI (atR l (j : Nat)) 39 with
          | true =>
            simp -implicitDefEqProofs only [↓yP, yT, Nat.reduceAdd, Nat.reduceMul, Nat.reduceSub, Nat.reduceLeDiff, Nat.reduceEqDiff, reduceCtorEq, Nat.reduceBEq, h5, w1, zt13, ztd]
            exact ⟨lexTok 2 s, k + 1, rfl, by omega, by omega, .plain hs (by decide), fun a1 a2 a3 a4 => by exfalso; have := hk4 a1 a2 a3; subst this; exact a4 hk40⟩
          | false =>
            simp -implicitDefEqProofs only [↓yP, yT, Nat.reduceAdd, Nat.reduceMul, Nat.reduceSub, Nat.reduceLeDiff, Nat.reduceEqDiff, reduceCtorEq, Nat.reduceBEq, h5, w1]
            refine Rcall_pure (url_spec l i (k + 1) hl (by omega) (by omega)) (by rfl) fun y hy => ?_
            obtain ⟨t, k', rfl, hk1', hk2', ht⟩ := hy
            simp only [Tok.yv, Tok.cs, Tok.pc, List.map_cons, List.map_nil]
            simp -implicitDefEqProofs only [↓yP, yT, Nat.reduceAdd, Nat.reduceMul, Nat.reduceSub, Nat.reduceLeDiff, Nat.reduceEqDiff, reduceCtorEq, Nat.reduceBEq, zt13, ztd]
            exact ⟨t, k', rfl, by omega, by omega, ht, fun a1 a2 a3 a4 => by exfalso; have := hk4 a1 a2 a3; subst this; exact a4 hk40⟩
end Go.Vx.Seat
end
/- Decimal numbers: the small functions. -/
section
open Go Go.Vx Go.Proofs
set_option linter.unusedSimpArgs false
set_option linter.unusedVariables false
set_option maxRecDepth 10000
set_option maxHeartbeats 4000000
namespace Go.Vx.Seat
attribute [local congr] Rg_at Rt_at Ro_at Ri_at Rc_at Rto_at Rtk_at Rtf_at Rti_at
attribute [local irreducible] Rg Rt Ro Ri Rc Rto Rtk Rtf Rti Rw Rl Rd Rcall Rtcall kf
theorem fn115 : nth C1.P.funcs.toList 115 = some Try.f115 := by kernel_rfl
theorem fn116 : nth C1.P.funcs.toList 116 = some Try.f116 := by kernel_rfl
theorem fn94 : nth C1.P.funcs.toList 94 = some Try.f94 := by kernel_rfl
theorem fn95 : nth C1.P.funcs.toList 95 = some Try.f95 := by kernel_rfl
theorem fn114 : nth C1.P.funcs.toList 114 = some Try.f114 := by kernel_rfl
theorem fn93 : nth C1.P.funcs.toList 93 = some Try.f93 := by kernel_rfl
theorem fn122 : nth C1.P.funcs.toList 122 = some Try.f122 := by kernel_rfl
theorem fn98 : nth C1.P.funcs.toList 98 = some Try.f98 := by kernel_rfl
theorem strOf_mk (l : List UInt8) : strOf (strMk l) = l := rfl
theorem run_spec (s : ByteArray) (i : Nat) (hs : (strOf s).length ≤ 100000000) (hi : i ≤ (strOf s).length) : PCall C1 115 [yd (.string s), yd (.int .i64 (i : Nat))] fun y => ∃ k : Nat, y = yd (.int .i64 (k : Nat)) ∧ i ≤ k ∧ k ≤ (strOf s).length := by
  refine Pf (by rfl) (by rfl) fn115 (by rfl) ?_
  simp only [Try.f115, List.length_cons, List.length_nil, List.replicate, List.cons_append, List.nil_append]
  simp -implicitDefEqProofs only [↓yP, yT, Nat.reduceAdd, Nat.reduceMul, Nat.reduceSub, Nat.reduceLeDiff, Nat.reduceEqDiff, reduceCtorEq, Nat.reduceBEq]
  refine Rl_inv (fun d e st => ∃ (k : Nat), e = [yd (.string s), yd (.int .i64 (k : Nat)), .c .top, .c .top, .c .top, .c .top, .c .top, .c .top, .c .top, .c .top, .c .top, .c .top, .c .top, .c .top, .c .top, .c .top, .c .top, .c .top, .c .top, .c .top, .c .top, .c .top, .c .top, .c .top] ∧ st = [] ∧ k + d = (strOf s).length ∧ i ≤ k) [true, true] ((strOf s).length - i) [] (by decide) (pinned_zero _) ⟨i, by (simp only [yE, Nat.reduceEqDiff, Nat.reduceAdd, reduceCtorEq]; try rfl), by (simp only [yE, Nat.reduceEqDiff, Nat.reduceAdd, reduceCtorEq]; try rfl), by omega, by omega⟩ ?_
  rintro d e st ⟨k, rfl, rfl, hd, hk⟩
  by_cases hkl : k < (strOf s).length
  · obtain ⟨c, hc⟩ := get_lt hkl
    have t0 : (0 : Int) ≤ (k : Nat) := by omega
    have t1 : leI ((strOf s).length : Nat) (k : Nat) = false := leI_false (by omega)
    have w1 : wrapK .i64 ((k : Int) + 1) = ((k + 1 : Nat) : Int) := wrap_succ (by omega)
    cases h1 : leI 48 (c.toNat : Nat) with
    | false =>
      simp -implicitDefEqProofs only [↓yP, yT, Nat.reduceAdd, Nat.reduceMul, Nat.reduceSub, Nat.reduceLeDiff, Nat.reduceEqDiff, reduceCtorEq, Nat.reduceBEq, opLen.eq_1, xindex.eq_1, xslice.eq_1, Int.toNat_natCast, t0, t1, hc, h1]
      exact ⟨k, rfl, by omega, by omega⟩
    | true =>
      cases h2 : leI (c.toNat : Nat) 57 with
      | false =>
        simp -implicitDefEqProofs only [↓yP, yT, Nat.reduceAdd, Nat.reduceMul, Nat.reduceSub, Nat.reduceLeDiff, Nat.reduceEqDiff, reduceCtorEq, Nat.reduceBEq, opLen.eq_1, xindex.eq_1, xslice.eq_1, Int.toNat_natCast, t0, t1, hc, h1, h2]
        exact ⟨k, rfl, by omega, by omega⟩
      | true =>
        simp -implicitDefEqProofs only [↓yP, yT, Nat.reduceAdd, Nat.reduceMul, Nat.reduceSub, Nat.reduceLeDiff, Nat.reduceEqDiff, reduceCtorEq, Nat.reduceBEq, opLen.eq_1, xindex.eq_1, xslice.eq_1, Int.toNat_natCast, t0, t1, hc, h1, h2, w1]
        refine ⟨d - 1, [], by omega, by decide, pinned_zero _, k + 1, by (simp only [yE, Nat.reduceEqDiff, Nat.reduceAdd, reduceCtorEq]; try rfl), rfl, by omega, by omega⟩
  · have t1 : leI ((strOf s).length : Nat) (k : Nat) = true := leI_true (by omega)
    simp -implicitDefEqProofs only [↓yP, yT, Nat.reduceAdd, Nat.reduceMul, Nat.reduceSub, Nat.reduceLeDiff, Nat.reduceEqDiff, reduceCtorEq, Nat.reduceBEq, opLen.eq_1, xindex.eq_1, xslice.eq_1, Int.toNat_natCast, t1]
    exact ⟨k, rfl, by omega, by omega⟩
theorem stripped_spec (s : ByteArray) (hs : (strOf s).length ≤ 100000000) : PCall C1 116 [yd (.string s)] fun y => ∃ s' : ByteArray, y = yd (.string s') ∧ (strOf s').length ≤ (strOf s).length := by
  refine Pf (by rfl) (by rfl) fn116 (by rfl) ?_
  simp only [Try.f116, List.length_cons, List.length_nil, List.replicate, List.cons_append, List.nil_append]
  simp -implicitDefEqProofs only [↓yP, yT, Nat.reduceAdd, Nat.reduceMul, Nat.reduceSub, Nat.reduceLeDiff, Nat.reduceEqDiff, reduceCtorEq, Nat.reduceBEq]
  refine Rl_inv (fun d e st => ∃ (s' : ByteArray), e = [yd (.string s'), .c .top, .c .top, .c .top, .c .top, .c .top, .c .top, .c .top, .c .top, .c .top, .c .top, .c .top, .c .top, .c .top] ∧ st = [] ∧ d = (strOf s').length ∧ (strOf s').length ≤ (strOf s).length) [true] (strOf s).length [] (by decide) (pinned_zero _) ⟨s, by (simp only [yE, Nat.reduceEqDiff, Nat.reduceAdd, reduceCtorEq]; try rfl), by (simp only [yE, Nat.reduceEqDiff, Nat.reduceAdd, reduceCtorEq]; try rfl), rfl, by omega⟩ ?_
  rintro d e st ⟨s', rfl, rfl, rfl, hk⟩
  by_cases h1 : 1 < (strOf s').length
  · have t1 : leI ((strOf s').length : Nat) 1 = false := leI_false (by omega)
    have t0 : (0 : Int) ≤ 0 := by omega
    have t2 : (1 : Int) ≤ ((strOf s').length : Nat) := by omega
    have t3 : (0 : Int) ≤ 1 := by omega
    obtain ⟨c, hc⟩ := get_lt (show 0 < (strOf s').length by omega)
    have h0 : Int.toNat 0 = 0 := rfl
    have h1' : Int.toNat 1 = 1 := rfl
    cases h2 : eqI (c.toNat : Nat) 48 with
    | false =>
      simp -implicitDefEqProofs only [↓yP, yT, Nat.reduceAdd, Nat.reduceMul, Nat.reduceSub, Nat.reduceLeDiff, Nat.reduceEqDiff, reduceCtorEq, Nat.reduceBEq, opLen.eq_1, xindex.eq_1, xslice.eq_1, Int.toNat_natCast, t0, t1, h0, hc, h2]
      exact ⟨s', rfl, hk⟩
    | true =>
      simp -implicitDefEqProofs only [↓yP, yT, Nat.reduceAdd, Nat.reduceMul, Nat.reduceSub, Nat.reduceLeDiff, Nat.reduceEqDiff, reduceCtorEq, Nat.reduceBEq, opLen.eq_1, xindex.eq_1, xslice.eq_1, Int.toNat_natCast, t0, t1, t2, t3, h0, h1', hc, h2, nn]
      refine ⟨(strOf s').length - 1, [], by omega, by decide, pinned_zero _, _, by (simp only [yE, Nat.reduceEqDiff, Nat.reduceAdd, reduceCtorEq]; try rfl), rfl, ?_, ?_⟩
      · simp [strOf_mk]
      · simp [strOf_mk]; omega
  · have t1 : leI ((strOf s').length : Nat) 1 = true := leI_true (by omega)
    simp -implicitDefEqProofs only [↓yP, yT, Nat.reduceAdd, Nat.reduceMul, Nat.reduceSub, Nat.reduceLeDiff, Nat.reduceEqDiff, reduceCtorEq, Nat.reduceBEq, opLen.eq_1, xindex.eq_1, xslice.eq_1, Int.toNat_natCast, t1]
    exact ⟨s', rfl, hk⟩
/-- Digits, at least one. -/
def Dg (l : List UInt8) : Prop := l ≠ [] ∧ ∀ c, c ∈ l → 48 ≤ c.toNat ∧ c.toNat ≤ 57
theorem xstr_neq (a b : ByteArray) : xstr .neq a b = some (.bool (!(strOf a == strOf b))) := rfl
theorem digits_spec (s : ByteArray) (hs : (strOf s).length ≤ 100000000) : PCall C1 93 [yd (.string s)] fun y => ∃ b : Bool, y = yd (.bool b) ∧ (b = true → Dg (strOf s)) := by
  refine Pf (by rfl) (by rfl) fn93 (by rfl) ?_
  simp only [Try.f93, List.length_cons, List.length_nil, List.replicate, List.cons_append, List.nil_append]
  simp -implicitDefEqProofs only [↓yP, yT, Nat.reduceAdd, Nat.reduceMul, Nat.reduceSub, Nat.reduceLeDiff, Nat.reduceEqDiff, reduceCtorEq, Nat.reduceBEq]
  refine Rl_inv (fun d e st => ∃ (i : Nat), e = [yd (.string s), .c .top, .c .top, yd (.int .i64 (i : Nat)), .c .top, .c .top, .c .top, .c .top, .c .top, .c .top, .c .top, .c .top, .c .top, .c .top, .c .top, .c .top, .c .top, .c .top, .c .top, .c .top, .c .top, .c .top] ∧ st = [] ∧ i + d = (strOf s).length ∧ ∀ c, c ∈ (strOf s).take i → 48 ≤ c.toNat ∧ c.toNat ≤ 57) [true, false, false, true] (strOf s).length [] (by decide) (pinned_zero _) ⟨0, by (simp only [yE, Nat.reduceEqDiff, Nat.reduceAdd, reduceCtorEq]; try rfl), by (simp only [yE, Nat.reduceEqDiff, Nat.reduceAdd, reduceCtorEq]; try rfl), by omega, by simp⟩ ?_
  rintro d e st ⟨k, rfl, rfl, hd, hk⟩
  by_cases hkl : k < (strOf s).length
  · obtain ⟨c, hc⟩ := get_lt hkl
    have t0 : (0 : Int) ≤ (k : Nat) := by omega
    have t1 : leI ((strOf s).length : Nat) (k : Nat) = false := leI_false (by omega)
    have w1 : wrapK .i64 ((k : Int) + 1) = ((k + 1 : Nat) : Int) := wrap_succ (by omega)
    cases h1 : leI 48 (c.toNat : Nat) with
    | false =>
      simp -implicitDefEqProofs only [↓yP, yT, Nat.reduceAdd, Nat.reduceMul, Nat.reduceSub, Nat.reduceLeDiff, Nat.reduceEqDiff, reduceCtorEq, Nat.reduceBEq, opLen.eq_1, xindex.eq_1, xslice.eq_1, Int.toNat_natCast, t0, t1, hc, h1]
      exact ⟨false, rfl, fun h => by cases h⟩
    | true =>
      cases h2 : leI (c.toNat : Nat) 57 with
      | false =>
        simp -implicitDefEqProofs only [↓yP, yT, Nat.reduceAdd, Nat.reduceMul, Nat.reduceSub, Nat.reduceLeDiff, Nat.reduceEqDiff, reduceCtorEq, Nat.reduceBEq, opLen.eq_1, xindex.eq_1, xslice.eq_1, Int.toNat_natCast, t0, t1, hc, h1, h2]
        exact ⟨false, rfl, fun h => by cases h⟩
      | true =>
        simp -implicitDefEqProofs only [↓yP, yT, Nat.reduceAdd, Nat.reduceMul, Nat.reduceSub, Nat.reduceLeDiff, Nat.reduceEqDiff, reduceCtorEq, Nat.reduceBEq, opLen.eq_1, xindex.eq_1, xslice.eq_1, Int.toNat_natCast, t0, t1, hc, h1, h2, w1]
        refine ⟨d - 1, [], by omega, by decide, pinned_zero _, k + 1, by (simp only [yE, Nat.reduceEqDiff, Nat.reduceAdd, reduceCtorEq]; try rfl), rfl, by omega, fun c' hc' => ?_⟩
        rw [List.take_add_one, hc] at hc'
        rcases List.mem_append.mp hc' with h | h
        · exact hk c' h
        · have : c' = c := by simpa using h
          subst this
          have := of_leT h1
          have := of_leT h2
          omega
  · have t1 : leI ((strOf s).length : Nat) (k : Nat) = true := leI_true (by omega)
    rw [List.take_of_length_le (by omega)] at hk
    simp -implicitDefEqProofs only [↓yP, yT, Nat.reduceAdd, Nat.reduceMul, Nat.reduceSub, Nat.reduceLeDiff, Nat.reduceEqDiff, reduceCtorEq, Nat.reduceBEq, opLen.eq_1, xindex.eq_1, xslice.eq_1, Int.toNat_natCast, t1, xstr_neq]
    refine ⟨_, rfl, fun h => ⟨fun hn => ?_, hk⟩⟩
    rw [hn] at h
    exact absurd h (by decide)
/-- What is behind a minus. -/
def unsg (l : List UInt8) : List UInt8 := match l with | 45 :: t => t | l => l
/-- A number as it is written: digits, no nought ahead. -/
def DecOk (l : List UInt8) : Prop := l ≠ [] ∧ Dg (unsg l) ∧ (unsg l = [48] ∨ ∀ c, (unsg l)[0]? = some c → c.toNat ≠ 48)
theorem mk_of (s : ByteArray) : strMk (strOf s) = s := rfl
theorem unsg_minus {l : List UInt8} {c : UInt8} (h : l[0]? = some c) (hc : c.toNat = 45) : unsg l = l.drop 1 := by
  cases l with
  | nil => cases h
  | cons a t =>
    have : a = c := by simpa using h
    subst this
    have : a = 45 := by rw [← UInt8.toNat_inj]; exact hc
    subst this; rfl
theorem unsg_plain {l : List UInt8} (h : ∀ c, l[0]? = some c → c.toNat ≠ 45) : unsg l = l := by
  cases l with
  | nil => rfl
  | cons a t =>
    have h1 := h a rfl
    unfold unsg
    split
    · rename_i h2
      cases h2
      exact absurd rfl h1
    · rfl
theorem rightDec_spec (s : ByteArray) (hs : (strOf s).length ≤ 100000000) : PCall C1 94 [yd (.string s)] fun y => ∃ b : Bool, y = yd (.bool b) ∧ (b = true → DecOk (strOf s)) := by
  have t00 : (0 : Int) ≤ 0 := by omega
  have i00 : Int.toNat 0 = 0 := rfl
  have i01 : Int.toNat 1 = 1 := rfl
  refine Pf (by rfl) (by rfl) fn94 (by rfl) ?_
  simp only [Try.f94, List.length_cons, List.length_nil, List.replicate, List.cons_append, List.nil_append]
  cases h1 : (strOf s == strOf ⟨#[48]⟩) with
  | true =>
    simp -implicitDefEqProofs only [↓yP, yT, Nat.reduceAdd, Nat.reduceMul, Nat.reduceSub, Nat.reduceLeDiff, Nat.reduceEqDiff, reduceCtorEq, Nat.reduceBEq, xstr_eql, h1]
    refine ⟨true, rfl, fun _ => ?_⟩
    have : strOf s = [48] := eq_of_beq h1
    rw [this]
    exact ⟨by simp, ⟨by simp [unsg], by simp [unsg]⟩, .inl rfl⟩
  | false =>
    by_cases h2 : 0 < (strOf s).length
    · obtain ⟨c, hc⟩ := get_lt h2
      have t1 : leI ((strOf s).length : Nat) 0 = false := leI_false (by omega)
      have t2 : (1 : Int) ≤ ((strOf s).length : Nat) := by omega
      have t3 : (0 : Int) ≤ 1 := by omega
      cases h3 : eqI (c.toNat : Nat) 45 with
      | true =>
        have hun := unsg_minus hc (by have := of_eqT h3; omega)
        have htk : ((strOf s).drop 1).take ((strOf s).length - 1) = (strOf s).drop 1 := List.take_of_length_le (by simp)
        simp -implicitDefEqProofs only [↓yP, yT, Nat.reduceAdd, Nat.reduceMul, Nat.reduceSub, Nat.reduceLeDiff, Nat.reduceEqDiff, reduceCtorEq, Nat.reduceBEq, opLen.eq_1, xindex.eq_1, xslice.eq_1, Int.toNat_natCast, xstr_eql, h1, t1, t00, t2, t3, i00, i01, hc, h3, htk, nn]
        refine Rcall_pure (digits_spec _ (by first | assumption | (simp [strOf_mk]; omega))) (by rfl) fun y hy => ?_
        obtain ⟨b, rfl, hb⟩ := hy
        cases b with
        | false =>
          simp -implicitDefEqProofs only [↓yP, yT, Nat.reduceAdd, Nat.reduceMul, Nat.reduceSub, Nat.reduceLeDiff, Nat.reduceEqDiff, reduceCtorEq, Nat.reduceBEq]
          exact ⟨false, rfl, fun h => by cases h⟩
        | true =>
          have hdg := hb rfl
          try rw [strOf_mk] at hdg
          obtain ⟨z, hz⟩ : ∃ z, ((strOf s).drop 1)[0]? = some z := get_lt (List.length_pos_iff.mpr hdg.1)
          cases h5 : eqI (z.toNat : Nat) 48 with
          | true =>
            simp -implicitDefEqProofs only [↓yP, yT, Nat.reduceAdd, Nat.reduceMul, Nat.reduceSub, Nat.reduceLeDiff, Nat.reduceEqDiff, reduceCtorEq, Nat.reduceBEq, opLen.eq_1, xindex.eq_1, xslice.eq_1, Int.toNat_natCast, strOf_mk, t00, i00, hz, h5]
            exact ⟨false, rfl, fun h => by cases h⟩
          | false =>
            have h5' := of_eqF h5
            simp -implicitDefEqProofs only [↓yP, yT, Nat.reduceAdd, Nat.reduceMul, Nat.reduceSub, Nat.reduceLeDiff, Nat.reduceEqDiff, reduceCtorEq, Nat.reduceBEq, opLen.eq_1, xindex.eq_1, xslice.eq_1, Int.toNat_natCast, strOf_mk, t00, i00, hz, h5]
            refine ⟨true, rfl, fun _ => ⟨?_, ?_, .inr ?_⟩⟩
            · intro h; rw [h] at hdg; exact hdg.1 rfl
            · rw [hun]; exact hdg
            · rw [hun]; intro c hc h; rw [hz] at hc; cases hc; exact h5' (by omega)
      | false =>
        have hun := unsg_plain (l := strOf s) (fun c' hc' h => by rw [hc] at hc'; cases hc'; exact of_eqF h3 (by omega))
        simp -implicitDefEqProofs only [↓yP, yT, Nat.reduceAdd, Nat.reduceMul, Nat.reduceSub, Nat.reduceLeDiff, Nat.reduceEqDiff, reduceCtorEq, Nat.reduceBEq, opLen.eq_1, xindex.eq_1, xslice.eq_1, Int.toNat_natCast, xstr_eql, h1, t1, t00, i00, hc, h3]
        refine Rcall_pure (digits_spec _ (by first | assumption | (simp [strOf_mk]; omega))) (by rfl) fun y hy => ?_
        obtain ⟨b, rfl, hb⟩ := hy
        cases b with
        | false =>
          simp -implicitDefEqProofs only [↓yP, yT, Nat.reduceAdd, Nat.reduceMul, Nat.reduceSub, Nat.reduceLeDiff, Nat.reduceEqDiff, reduceCtorEq, Nat.reduceBEq]
          exact ⟨false, rfl, fun h => by cases h⟩
        | true =>
          have hdg := hb rfl
          try rw [strOf_mk] at hdg
          obtain ⟨z, hz⟩ : ∃ z, (strOf s)[0]? = some z := get_lt (List.length_pos_iff.mpr hdg.1)
          cases h5 : eqI (z.toNat : Nat) 48 with
          | true =>
            simp -implicitDefEqProofs only [↓yP, yT, Nat.reduceAdd, Nat.reduceMul, Nat.reduceSub, Nat.reduceLeDiff, Nat.reduceEqDiff, reduceCtorEq, Nat.reduceBEq, opLen.eq_1, xindex.eq_1, xslice.eq_1, Int.toNat_natCast, strOf_mk, t00, i00, hz, h5]
            exact ⟨false, rfl, fun h => by cases h⟩
          | false =>
            have h5' := of_eqF h5
            simp -implicitDefEqProofs only [↓yP, yT, Nat.reduceAdd, Nat.reduceMul, Nat.reduceSub, Nat.reduceLeDiff, Nat.reduceEqDiff, reduceCtorEq, Nat.reduceBEq, opLen.eq_1, xindex.eq_1, xslice.eq_1, Int.toNat_natCast, strOf_mk, t00, i00, hz, h5]
            refine ⟨true, rfl, fun _ => ⟨?_, ?_, .inr ?_⟩⟩
            · intro h; rw [h] at hdg; exact hdg.1 rfl
            · rw [hun]; exact hdg
            · rw [hun]; intro c hc h; rw [hz] at hc; cases hc; exact h5' (by omega)
    · have t1 : leI ((strOf s).length : Nat) 0 = true := leI_true (by omega)
      have hnil : strOf s = [] := List.eq_nil_of_length_eq_zero (by omega)
      have hun : unsg (strOf s) = strOf s := by rw [hnil]; rfl
      simp -implicitDefEqProofs only [↓yP, yT, Nat.reduceAdd, Nat.reduceMul, Nat.reduceSub, Nat.reduceLeDiff, Nat.reduceEqDiff, reduceCtorEq, Nat.reduceBEq, opLen.eq_1, xindex.eq_1, xslice.eq_1, Int.toNat_natCast, xstr_eql, h1, t1]
      refine Rcall_pure (digits_spec s hs) (by rfl) fun y hy => ?_
      obtain ⟨b, rfl, hb⟩ := hy
      cases b with
      | false =>
        simp -implicitDefEqProofs only [↓yP, yT, Nat.reduceAdd, Nat.reduceMul, Nat.reduceSub, Nat.reduceLeDiff, Nat.reduceEqDiff, reduceCtorEq, Nat.reduceBEq]
        exact ⟨false, rfl, fun h => by cases h⟩
      | true => exact absurd hnil (hb rfl).1
theorem sign_spec (s : ByteArray) (hs : strOf s ≠ []) : PCall C1 95 [yd (.string s)] fun y => ∃ (b : Bool) (p : ByteArray), y = .tup [yd (.bool b), yd (.string p)] ∧ strOf p = unsg (strOf s) := by
  have t00 : (0 : Int) ≤ 0 := by omega
  have i00 : Int.toNat 0 = 0 := rfl
  have i01 : Int.toNat 1 = 1 := rfl
  have h2 : 0 < (strOf s).length := List.length_pos_iff.mpr hs
  refine Pf (by rfl) (by rfl) fn95 (by rfl) ?_
  simp only [Try.f95, List.length_cons, List.length_nil, List.replicate, List.cons_append, List.nil_append]
  obtain ⟨c, hc⟩ := get_lt h2
  have t2 : (1 : Int) ≤ ((strOf s).length : Nat) := by omega
  have t3 : (0 : Int) ≤ 1 := by omega
  cases h3 : eqI (c.toNat : Nat) 45 with
  | true =>
    have hun := unsg_minus hc (by have := of_eqT h3; omega)
    have htk : ((strOf s).drop 1).take ((strOf s).length - 1) = (strOf s).drop 1 := List.take_of_length_le (by simp)
    simp -implicitDefEqProofs only [↓yP, yT, Nat.reduceAdd, Nat.reduceMul, Nat.reduceSub, Nat.reduceLeDiff, Nat.reduceEqDiff, reduceCtorEq, Nat.reduceBEq, opLen.eq_1, xindex.eq_1, xslice.eq_1, Int.toNat_natCast, t00, i00, hc, h3]
    refine Rd_calm (by rw [C1_P]; kernel_rfl) ?_
    simp -implicitDefEqProofs only [↓yP, yT, Nat.reduceAdd, Nat.reduceMul, Nat.reduceSub, Nat.reduceLeDiff, Nat.reduceEqDiff, reduceCtorEq, Nat.reduceBEq, opLen.eq_1, xindex.eq_1, xslice.eq_1, Int.toNat_natCast, t00, t2, t3, i01, htk, nn]
    exact ⟨true, _, rfl, by rw [hun]; rfl⟩
  | false =>
    have hun := unsg_plain (l := strOf s) (fun c' hc' h => by rw [hc] at hc'; cases hc'; exact of_eqF h3 (by omega))
    simp -implicitDefEqProofs only [↓yP, yT, Nat.reduceAdd, Nat.reduceMul, Nat.reduceSub, Nat.reduceLeDiff, Nat.reduceEqDiff, reduceCtorEq, Nat.reduceBEq, opLen.eq_1, xindex.eq_1, xslice.eq_1, Int.toNat_natCast, t00, i00, hc, h3]
    exact ⟨false, s, rfl, hun.symm⟩
def smB (p q : List UInt8) : Bool := decide (p.length < q.length) || (decide (p.length = q.length) && lessBytes p q)
theorem xstr_add (a b : ByteArray) : xstr .add a b = if (strOf a).length + (strOf b).length ≤ 140737488355328 then some (.string (strMk (strOf a ++ strOf b))) else none := rfl
theorem xstr_lss (a b : ByteArray) : xstr .lss a b = some (.bool (lessBytes (strOf a) (strOf b))) := rfl
theorem smaller_spec (s t : ByteArray) : PCall C1 114 [yd (.string s), yd (.string t)] fun y => y = yd (.bool (smB (strOf s) (strOf t))) := by
  refine Pf (by rfl) (by rfl) fn114 (by rfl) ?_
  simp only [Try.f114, List.length_cons, List.length_nil, List.replicate, List.cons_append, List.nil_append]
  by_cases h1 : (strOf s).length < (strOf t).length
  · have t1 : leI ((strOf t).length : Nat) ((strOf s).length : Nat) = false := leI_false (by omega)
    simp -implicitDefEqProofs only [↓yP, yT, Nat.reduceAdd, Nat.reduceMul, Nat.reduceSub, Nat.reduceLeDiff, Nat.reduceEqDiff, reduceCtorEq, Nat.reduceBEq, opLen.eq_1, xindex.eq_1, xslice.eq_1, Int.toNat_natCast, t1, smB, h1, decide_true]
  · have t1 : leI ((strOf t).length : Nat) ((strOf s).length : Nat) = true := leI_true (by omega)
    by_cases h2 : (strOf s).length = (strOf t).length
    · have t2 : eqI ((strOf s).length : Nat) ((strOf t).length : Nat) = true := by rw [h2]; exact eqI_true _
      have t3 : leI ((strOf t).length : Nat) ((strOf t).length : Nat) = true := leI_true (by omega)
      have t4 : eqI ((strOf t).length : Nat) ((strOf t).length : Nat) = true := eqI_true _
      simp -implicitDefEqProofs only [↓yP, yT, Nat.reduceAdd, Nat.reduceMul, Nat.reduceSub, Nat.reduceLeDiff, Nat.reduceEqDiff, reduceCtorEq, Nat.reduceBEq, opLen.eq_1, xindex.eq_1, xslice.eq_1, Int.toNat_natCast, t1, t2, t3, t4, h2, xstr_lss, smB, Nat.lt_irrefl, decide_true, decide_false, Bool.true_and]
    · have t2 : eqI ((strOf s).length : Nat) ((strOf t).length : Nat) = false := eqI_false (by omega)
      simp -implicitDefEqProofs only [↓yP, yT, Nat.reduceAdd, Nat.reduceMul, Nat.reduceSub, Nat.reduceLeDiff, Nat.reduceEqDiff, reduceCtorEq, Nat.reduceBEq, opLen.eq_1, xindex.eq_1, xslice.eq_1, Int.toNat_natCast, t1, t2, smB, h1, h2, decide_false, Bool.false_and]
/-- The i-th digit from the end. -/
def dgI (l : List UInt8) (i : Nat) : Int := if l.length ≤ i then 0 else wrapK .i64 (wrapK .u8 ((((l[l.length - 1 - i]?).getD 0).toNat : Nat) - 48))
theorem digit1_spec (s : ByteArray) (i : Nat) (hs : (strOf s).length ≤ 100000000) (hi : i ≤ 100000002) : PCall C1 122 [yd (.string s), yd (.int .i64 (i : Nat))] fun y => y = yd (.int .i64 (dgI (strOf s) i)) := by
  refine Pf (by rfl) (by rfl) fn122 (by rfl) ?_
  simp only [Try.f122, List.length_cons, List.length_nil, List.replicate, List.cons_append, List.nil_append]
  by_cases h1 : (strOf s).length ≤ i
  · have t1 : leI ((strOf s).length : Nat) (i : Nat) = true := leI_true (by omega)
    simp -implicitDefEqProofs only [↓yP, yT, Nat.reduceAdd, Nat.reduceMul, Nat.reduceSub, Nat.reduceLeDiff, Nat.reduceEqDiff, reduceCtorEq, Nat.reduceBEq, opLen.eq_1, xindex.eq_1, xslice.eq_1, Int.toNat_natCast, t1, dgI, h1]
  · have t1 : leI ((strOf s).length : Nat) (i : Nat) = false := leI_false (by omega)
    have w1 : wrapK .i64 (((strOf s).length : Nat) - 1) = (((strOf s).length - 1 : Nat) : Int) := wrap_pred (by omega) (by omega)
    have w2 : wrapK .i64 ((((strOf s).length - 1 : Nat) : Int) - (i : Nat)) = (((strOf s).length - 1 - i : Nat) : Int) := by
      rw [show (((strOf s).length - 1 : Nat) : Int) - (i : Nat) = (((strOf s).length - 1 - i : Nat) : Int) by omega]; exact wrap_nat (by omega)
    have t2 : (0 : Int) ≤ (((strOf s).length - 1 - i : Nat) : Int) := by omega
    obtain ⟨c, hc⟩ := get_lt (show (strOf s).length - 1 - i < (strOf s).length by omega)
    simp -implicitDefEqProofs only [↓yP, yT, Nat.reduceAdd, Nat.reduceMul, Nat.reduceSub, Nat.reduceLeDiff, Nat.reduceEqDiff, reduceCtorEq, Nat.reduceBEq, opLen.eq_1, xindex.eq_1, xslice.eq_1, Int.toNat_natCast, t1, w1, w2, t2, hc, dgI, h1, Option.getD_some]
def DecS (n : Nat) : Prop := n ≤ 1000000000 → PCall C1 98 [yd (.int .i64 (n : Nat))] fun y => ∃ s : ByteArray, y = yd (.string s) ∧ (strOf s).length ≤ n + 1
theorem dec_step (n : Nat) (ih : ∀ m, m < n → DecS m) : DecS n := by
  intro hn
  refine Pf (by rfl) (by rfl) fn98 (by rfl) ?_
  simp only [Try.f98, List.length_cons, List.length_nil, List.replicate, List.cons_append, List.nil_append]
  have t0 : leI 0 (n : Nat) = true := leI_true (by omega)
  have r1 : ((n : Nat) : Int).tmod 10 = ((n % 10 : Nat) : Int) := by rw [Int.tmod_eq_emod_of_nonneg (by omega)]; omega
  have r2 : ((n : Nat) : Int).tdiv 10 = ((n / 10 : Nat) : Int) := by rw [Int.tdiv_eq_ediv_of_nonneg (by omega)]; omega
  have w1 : wrapK .i64 (((n % 10 : Nat) : Int) + 1) = ((n % 10 + 1 : Nat) : Int) := wrap_succ (by omega)
  have w2 : IntKind.wrap .i64 ((n / 10 : Nat) : Int) = ((n / 10 : Nat) : Int) := by rw [IntKind.wrap_i64]; omega
  have c1 : (0 : Int) ≤ ((n % 10 : Nat) : Int) := by omega
  have c2 : ((n % 10 : Nat) : Int) ≤ ((n % 10 + 1 : Nat) : Int) := by omega
  have c3 : ((n % 10 + 1 : Nat) : Int) ≤ ((strOf ⟨#[48, 49, 50, 51, 52, 53, 54, 55, 56, 57]⟩).length : Nat) := by show _ ≤ ((10 : Nat) : Int); omega
  have z10 : ((10 : Int) = 0) = False := by simp
  by_cases h9 : n ≤ 9
  · have t9 : leI (n : Nat) 9 = true := leI_true (by omega)
    simp -implicitDefEqProofs only [↓yP, yT, Nat.reduceAdd, Nat.reduceMul, Nat.reduceSub, Nat.reduceLeDiff, Nat.reduceEqDiff, reduceCtorEq, Nat.reduceBEq, opLen.eq_1, xindex.eq_1, xslice.eq_1, Int.toNat_natCast, t0, t9, r1, w1, c1, c2, c3, z10]
    exact ⟨_, rfl, by rw [strOf_mk]; simp; omega⟩
  · have t9 : leI (n : Nat) 9 = false := leI_false (by omega)
    simp -implicitDefEqProofs only [↓yP, yT, Nat.reduceAdd, Nat.reduceMul, Nat.reduceSub, Nat.reduceLeDiff, Nat.reduceEqDiff, reduceCtorEq, Nat.reduceBEq, opLen.eq_1, xindex.eq_1, xslice.eq_1, Int.toNat_natCast, t0, t9, r1, r2, w1, w2, c1, c2, c3, z10]
    refine Rcall_pure (ih (n / 10) (by omega) (by omega)) (by rfl) fun y hy => ?_
    obtain ⟨s, rfl, hs⟩ := hy
    have b1 : (strOf s).length + (((strOf ⟨#[48, 49, 50, 51, 52, 53, 54, 55, 56, 57]⟩).drop (n % 10)).take (n % 10 + 1 - n % 10)).length ≤ 140737488355328 := by
      have : (((strOf ⟨#[48, 49, 50, 51, 52, 53, 54, 55, 56, 57]⟩).drop (n % 10)).take (n % 10 + 1 - n % 10)).length ≤ 1 := by simp; omega
      omega
    simp -implicitDefEqProofs only [↓yP, yT, Nat.reduceAdd, Nat.reduceMul, Nat.reduceSub, Nat.reduceLeDiff, Nat.reduceEqDiff, reduceCtorEq, Nat.reduceBEq, xstr_add, strOf_mk, b1]
    refine ⟨_, rfl, ?_⟩
    rw [strOf_mk, List.length_append]
    have : (((strOf ⟨#[48, 49, 50, 51, 52, 53, 54, 55, 56, 57]⟩).drop (n % 10)).take (n % 10 + 1 - n % 10)).length ≤ 1 := by simp; omega
    omega
theorem dec_spec (n : Nat) : DecS n := by
  induction n using Nat.strongRecOn with
  | ind n ih => exact dec_step n ih
end Go.Vx.Seat
end
/- Digit by digit: the plain side. -/
section
open Go Go.Vx Go.Proofs
set_option linter.unusedSimpArgs false
set_option linter.unusedVariables false
namespace Go.Vx.Seat
theorem wrap_u8n {n : Nat} (h : n < 256) : wrapK .u8 ((n : Nat) : Int) = (n : Nat) := by rw [wrapK_eq, IntKind.wrap_u8]; omega
theorem dg_val {l : List UInt8} (hd : Dg l) {i : Nat} (hi : i < l.length) : ∃ c, l[l.length - 1 - i]? = some c ∧ dgI l i = ((c.toNat - 48 : Nat) : Int) ∧ 48 ≤ c.toNat ∧ c.toNat ≤ 57 := by
  obtain ⟨c, hc⟩ := get_lt (show l.length - 1 - i < l.length by omega)
  have h := hd.2 c (List.mem_of_getElem? hc)
  refine ⟨c, hc, ?_, h⟩
  rw [dgI, if_neg (by omega), hc, Option.getD_some, show ((c.toNat : Nat) : Int) - 48 = ((c.toNat - 48 : Nat) : Int) by omega, wrap_u8n (by omega), wrap_nat (by omega)]
theorem dg_out {l : List UInt8} {i : Nat} (hi : l.length ≤ i) : dgI l i = 0 := by rw [dgI, if_pos hi]
/-- No nought ahead. -/
def NoZ (l : List UInt8) : Prop := l = [48] ∨ ∀ c, l[0]? = some c → c.toNat ≠ 48
structure SubInv (a b : List UInt8) (i : Nat) (c : Int) : Prop where
  le : i ≤ a.length
  bit : c = 0 ∨ c = 1
  same : a.length = b.length → (c = 1 ↔ lessBytes (a.drop (a.length - i)) (b.drop (b.length - i)) = true)
  more : b.length < a.length → i = a.length → c = 0
theorem SubInv.start {a b : List UInt8} (ha : Dg a) : SubInv a b 0 0 :=
  ⟨by omega, .inl rfl, fun h => by simp [List.drop_of_length_le, lessBytes], fun _ h => absurd (List.eq_nil_of_length_eq_zero h.symm) ha.1⟩
theorem SubInv.end {a b : List UInt8} {c : Int} (h : SubInv a b a.length c) (hs : smB a b = false) : c = 0 := by
  simp only [smB, Bool.or_eq_false_iff, decide_eq_false_iff_not, Bool.and_eq_false_iff] at hs
  rcases Nat.lt_or_ge b.length a.length with g | g
  · exact h.more g rfl
  · have hl : a.length = b.length := by omega
    have hsm := h.same hl
    rw [Nat.sub_self, hl, Nat.sub_self, List.drop_zero, List.drop_zero] at hsm
    rcases hs.2 with k | k
    · exact absurd hl k
    · rcases h.bit with e | e
      · exact e
      · rw [hsm.mp e] at k; cases k
theorem drop_step {l : List UInt8} {i : Nat} {c : UInt8} (hi : i < l.length) (hc : l[l.length - 1 - i]? = some c) : l.drop (l.length - (i + 1)) = c :: l.drop (l.length - i) := by
  rw [show l.length - (i + 1) = l.length - 1 - i by omega, List.drop_eq_getElem_cons (by omega)]
  rw [List.getElem?_eq_getElem (by omega)] at hc
  rw [Option.some.inj hc, show l.length - 1 - i + 1 = l.length - i by omega]
theorem SubInv.step {a b : List UInt8} {i : Nat} {c : Int} (h : SubInv a b i c) (ha : Dg a) (hb : Dg b) (hz : NoZ a) (hle : b.length ≤ a.length) (hi : i < a.length) :
    -10 ≤ dgI a i - dgI b i - c ∧ dgI a i - dgI b i - c ≤ 9 ∧ -9 ≤ dgI a i - dgI b i ∧ dgI a i - dgI b i ≤ 9 ∧ SubInv a b (i + 1) (if dgI a i - dgI b i - c < 0 then 1 else 0) := by
  obtain ⟨x, hx, ex, x1, x2⟩ := dg_val ha hi
  rcases Nat.lt_or_ge i b.length with g | g
  · obtain ⟨y, hy, ey, y1, y2⟩ := dg_val hb g
    have hbit := h.bit
    refine ⟨by omega, by omega, by omega, by omega, ⟨by omega, by split <;> simp, fun hl => ?_, fun hm he => by omega⟩⟩
    have hs := h.same hl
    rw [drop_step hi hx, drop_step g hy, lessBytes]
    rcases Nat.lt_trichotomy x.toNat y.toNat with k | k | k
    · rw [if_pos (by omega)]
      have : decide (x < y) = true := by rw [decide_eq_true_eq]; exact UInt8.lt_iff_toNat_lt.mpr k
      simp [this]
    · have hxy : x = y := UInt8.toNat_inj.mp k
      subst hxy
      have : decide (x < x) = false := by rw [decide_eq_false_iff_not]; intro hlt; have := UInt8.lt_iff_toNat_lt.mp hlt; omega
      rw [this, Bool.false_or, beq_self_eq_true, Bool.true_and, ← hs]
      rcases hbit with e | e
      · rw [if_neg (by omega)]; simp [e]
      · rw [if_pos (by omega)]; simp [e]
    · rw [if_neg (by omega)]
      have h1 : decide (x < y) = false := by rw [decide_eq_false_iff_not]; intro hlt; have := UInt8.lt_iff_toNat_lt.mp hlt; omega
      have h2 : (x == y) = false := by rw [beq_eq_false_iff_ne]; intro e; subst e; omega
      rw [h1, h2]; simp
  · have ey := dg_out g
    have hbit := h.bit
    refine ⟨by omega, by omega, by omega, by omega, ⟨by omega, by split <;> simp, fun hl => by omega, fun hm he => ?_⟩⟩
    have h0 : a.length - 1 - i = 0 := by omega
    rw [h0] at hx
    have hne : x.toNat ≠ 48 := by
      rcases hz with e | e
      · have hb0 := List.length_pos_iff.mpr hb.1
        rw [e] at hm
        have : ([48] : List UInt8).length = 1 := rfl
        omega
      · exact e x hx
    rw [if_neg (by omega)]
end Go.Vx.Seat
end
/- Digit by digit: the walk. -/
section
open Go Go.Vx Go.Proofs
set_option linter.unusedSimpArgs false
set_option linter.unusedVariables false
set_option maxRecDepth 10000
set_option maxHeartbeats 4000000
namespace Go.Vx.Seat
attribute [local congr] Rg_at Rt_at Ro_at Ri_at Rc_at Rto_at Rtk_at Rtf_at Rti_at
attribute [local irreducible] Rg Rt Ro Ri Rc Rto Rtk Rtf Rti Rw Rl Rd Rcall Rtcall kf
theorem fn113 : nth C1.P.funcs.toList 113 = some Try.f113 := by kernel_rfl
theorem reckonAdd_spec (a b : ByteArray) (M : Nat) (ha : (strOf a).length ≤ M) (hb : (strOf b).length ≤ M) (hm : M ≤ 60000000) : PCall C1 113 [yd (.string a), yd (.string b), yd (.bool false)] fun y => ∃ s : ByteArray, y = yd (.string s) ∧ (strOf s).length ≤ M + 1 := by
  refine Pf (by rfl) (by rfl) fn113 (by rfl) ?_
  simp only [Try.f113, List.length_cons, List.length_nil, List.replicate, List.cons_append, List.nil_append]
  simp -implicitDefEqProofs only [↓yP, yT, Nat.reduceAdd, Nat.reduceMul, Nat.reduceSub, Nat.reduceLeDiff, Nat.reduceEqDiff, reduceCtorEq, Nat.reduceBEq]
  refine Rl_nil 7 1 (by decide) rfl ?_
  refine Rl_inv (fun d e s => ∃ (i : Nat) (c : Int) (bs : List Int), e = ([yd (.string a), yd (.string b), yd (.bool false), .c .top, .c .top, .c .top, .c .top, .c (.own 0 1 0 bs.length), yd (.int .i64 c), yd (.int .i64 (i : Nat)), .c .top, .c .top, .c .top, .c .top, .c .top, .c .top, .c .top, .c .top, .c .top, .c .top, .c .top, .c .top, .c .top, .c .top, .c .top, .c .top, .c .top, .c .top, .c .top, .c .top, .c .top, .c .top, .c .top, .c .top, .c .top, .c .top, .c .top, .c .top, .c .top, .c .top, .c .top, .c .top, .c .top, .c .top, .c .top, .c .top, .c .top, .c .top, .c .top, .c .top, .c .top, .c .top, .c .top, .c .top, .c .top, .c .top, .c .top, .c .top, .c .top, .c .top, .c .top, .c .top, .c .top, .c .top, .c .top, .c .top, .c .top, .c .top, .c .top, .c .top, .c .top, .c .top, .c .top, .c .top, .c .top, .c .top, .c .top, .c .top, .c .top, .c .top, .c .top, .c .top, .c .top, .c .top, .c .top, .c .top, .c .top, .c .top, .c .top, .c .top, .c .top, .c .top]) ∧ s = [.row 1 (bs.map eb)] ∧ bs.length = i ∧ i + d = M + 1 ∧ ((c = 0 ∨ c = 1) ∧ (M < i → c = 0))) [true, true, true, false, false, false, false, true, true, true] (M + 1) [0] (by decide) (pinned_zero _) ⟨0, 0, [], by (simp only [yE, Nat.reduceEqDiff, Nat.reduceAdd, reduceCtorEq]; try rfl), by (simp only [yE, Nat.reduceEqDiff, Nat.reduceAdd, reduceCtorEq]; try rfl), rfl, by omega, .inl rfl, fun h => by omega⟩ ?_
  rintro d e s ⟨i, c, bs, rfl, rfl, hbl, hd, hc, hcM⟩
  by_cases g1 : i < (strOf a).length
  · have t1 : leI ((strOf a).length : Nat) (i : Nat) = false := leI_false (by omega)
    simp -implicitDefEqProofs only [↓yP, yT, Nat.reduceAdd, Nat.reduceMul, Nat.reduceSub, Nat.reduceLeDiff, Nat.reduceEqDiff, reduceCtorEq, Nat.reduceBEq, opLen.eq_1, xindex.eq_1, xslice.eq_1, Int.toNat_natCast, t1]
    refine Rcall_pure (digit1_spec a i (by omega) (by omega)) (by rfl) fun y hy => ?_
    subst hy
    simp -implicitDefEqProofs only [↓yP, yT, Nat.reduceAdd, Nat.reduceMul, Nat.reduceSub, Nat.reduceLeDiff, Nat.reduceEqDiff, reduceCtorEq, Nat.reduceBEq]
    refine Rcall_pure (digit1_spec b i (by omega) (by omega)) (by rfl) fun y hy => ?_
    subst hy
    simp -implicitDefEqProofs only [↓yP, yT, Nat.reduceAdd, Nat.reduceMul, Nat.reduceSub, Nat.reduceLeDiff, Nat.reduceEqDiff, reduceCtorEq, Nat.reduceBEq]
    generalize hx : wrapK .i64 (wrapK .i64 (dgI (strOf a) i + dgI (strOf b) i) + c) = x
    have w1 : wrapK .i64 ((i : Int) + 1) = ((i + 1 : Nat) : Int) := wrap_succ (by omega)
    have b1 : (bs.length + 1) * 1 ≤ 70368744177664 := by omega
    cases h1 : leI x 9 with
    | false =>
      cases h3 : leI 0 (wrapK .i64 (x - 10)) with
      | true =>
        simp -implicitDefEqProofs only [↓yP, yT, Nat.reduceAdd, Nat.reduceMul, Nat.reduceSub, Nat.reduceLeDiff, Nat.reduceEqDiff, reduceCtorEq, Nat.reduceBEq, h1, h3, w1, b1, Nat.reduceLT]
        refine ⟨d - 1, [2], by omega, by decide, pinned_zero _, i + 1, 1, bs ++ [wrapK .u8 (wrapK .u8 (wrapK .i64 (x - 10)) + 48)], by (simp only [yE, Nat.reduceEqDiff, Nat.reduceAdd, reduceCtorEq]; try rfl), by simp only [yE, Nat.reduceEqDiff, Nat.reduceAdd, reduceCtorEq, List.map_append]; rfl, by simp; omega, by omega, ?_⟩
        refine ⟨by decide, fun hM => ?_⟩
        have dga := dg_out (l := strOf a) (i := i) (by omega)
        have dgb := dg_out (l := strOf b) (i := i) (by omega)
        have hxc : x = c := by
          rw [← hx, dga, dgb]
          rcases hc with rfl | rfl <;> rfl
        first
        | rfl
        | (exfalso; have := of_leF h1; rcases hc with e | e <;> omega)
        | (exfalso; have := of_leF h2; rcases hc with e | e <;> omega)
      | false =>
        simp -implicitDefEqProofs only [↓yP, yT, Nat.reduceAdd, Nat.reduceMul, Nat.reduceSub, Nat.reduceLeDiff, Nat.reduceEqDiff, reduceCtorEq, Nat.reduceBEq, h1, h3, w1, b1, Nat.reduceLT]
        refine ⟨d - 1, [2], by omega, by decide, pinned_zero _, i + 1, 1, bs ++ [wrapK .u8 (wrapK .u8 (wrapK .i64 (wrapK .i64 (x - 10) + 10)) + 48)], by (simp only [yE, Nat.reduceEqDiff, Nat.reduceAdd, reduceCtorEq]; try rfl), by simp only [yE, Nat.reduceEqDiff, Nat.reduceAdd, reduceCtorEq, List.map_append]; rfl, by simp; omega, by omega, ?_⟩
        refine ⟨by decide, fun hM => ?_⟩
        have dga := dg_out (l := strOf a) (i := i) (by omega)
        have dgb := dg_out (l := strOf b) (i := i) (by omega)
        have hxc : x = c := by
          rw [← hx, dga, dgb]
          rcases hc with rfl | rfl <;> rfl
        first
        | rfl
        | (exfalso; have := of_leF h1; rcases hc with e | e <;> omega)
        | (exfalso; have := of_leF h2; rcases hc with e | e <;> omega)
    | true =>
      cases h2 : leI 0 x with
      | true =>
        simp -implicitDefEqProofs only [↓yP, yT, Nat.reduceAdd, Nat.reduceMul, Nat.reduceSub, Nat.reduceLeDiff, Nat.reduceEqDiff, reduceCtorEq, Nat.reduceBEq, h1, h2, w1, b1, Nat.reduceLT]
        refine ⟨d - 1, [2], by omega, by decide, pinned_zero _, i + 1, 0, bs ++ [wrapK .u8 (wrapK .u8 (x) + 48)], by (simp only [yE, Nat.reduceEqDiff, Nat.reduceAdd, reduceCtorEq]; try rfl), by simp only [yE, Nat.reduceEqDiff, Nat.reduceAdd, reduceCtorEq, List.map_append]; rfl, by simp; omega, by omega, ?_⟩
        refine ⟨by decide, fun hM => ?_⟩
        have dga := dg_out (l := strOf a) (i := i) (by omega)
        have dgb := dg_out (l := strOf b) (i := i) (by omega)
        have hxc : x = c := by
          rw [← hx, dga, dgb]
          rcases hc with rfl | rfl <;> rfl
        first
        | rfl
        | (exfalso; have := of_leF h1; rcases hc with e | e <;> omega)
        | (exfalso; have := of_leF h2; rcases hc with e | e <;> omega)
      | false =>
        simp -implicitDefEqProofs only [↓yP, yT, Nat.reduceAdd, Nat.reduceMul, Nat.reduceSub, Nat.reduceLeDiff, Nat.reduceEqDiff, reduceCtorEq, Nat.reduceBEq, h1, h2, w1, b1, Nat.reduceLT]
        refine ⟨d - 1, [2], by omega, by decide, pinned_zero _, i + 1, 1, bs ++ [wrapK .u8 (wrapK .u8 (wrapK .i64 (x + 10)) + 48)], by (simp only [yE, Nat.reduceEqDiff, Nat.reduceAdd, reduceCtorEq]; try rfl), by simp only [yE, Nat.reduceEqDiff, Nat.reduceAdd, reduceCtorEq, List.map_append]; rfl, by simp; omega, by omega, ?_⟩
        refine ⟨by decide, fun hM => ?_⟩
        have dga := dg_out (l := strOf a) (i := i) (by omega)
        have dgb := dg_out (l := strOf b) (i := i) (by omega)
        have hxc : x = c := by
          rw [← hx, dga, dgb]
          rcases hc with rfl | rfl <;> rfl
        first
        | rfl
        | (exfalso; have := of_leF h1; rcases hc with e | e <;> omega)
        | (exfalso; have := of_leF h2; rcases hc with e | e <;> omega)
  · have t1 : leI ((strOf a).length : Nat) (i : Nat) = true := leI_true (by omega)
    by_cases g2 : i < (strOf b).length
    · have t2 : leI ((strOf b).length : Nat) (i : Nat) = false := leI_false (by omega)
      simp -implicitDefEqProofs only [↓yP, yT, Nat.reduceAdd, Nat.reduceMul, Nat.reduceSub, Nat.reduceLeDiff, Nat.reduceEqDiff, reduceCtorEq, Nat.reduceBEq, opLen.eq_1, xindex.eq_1, xslice.eq_1, Int.toNat_natCast, t1, t2]
      refine Rcall_pure (digit1_spec a i (by omega) (by omega)) (by rfl) fun y hy => ?_
      subst hy
      simp -implicitDefEqProofs only [↓yP, yT, Nat.reduceAdd, Nat.reduceMul, Nat.reduceSub, Nat.reduceLeDiff, Nat.reduceEqDiff, reduceCtorEq, Nat.reduceBEq]
      refine Rcall_pure (digit1_spec b i (by omega) (by omega)) (by rfl) fun y hy => ?_
      subst hy
      simp -implicitDefEqProofs only [↓yP, yT, Nat.reduceAdd, Nat.reduceMul, Nat.reduceSub, Nat.reduceLeDiff, Nat.reduceEqDiff, reduceCtorEq, Nat.reduceBEq]
      generalize hx : wrapK .i64 (wrapK .i64 (dgI (strOf a) i + dgI (strOf b) i) + c) = x
      have w1 : wrapK .i64 ((i : Int) + 1) = ((i + 1 : Nat) : Int) := wrap_succ (by omega)
      have b1 : (bs.length + 1) * 1 ≤ 70368744177664 := by omega
      cases h1 : leI x 9 with
      | false =>
        cases h3 : leI 0 (wrapK .i64 (x - 10)) with
        | true =>
          simp -implicitDefEqProofs only [↓yP, yT, Nat.reduceAdd, Nat.reduceMul, Nat.reduceSub, Nat.reduceLeDiff, Nat.reduceEqDiff, reduceCtorEq, Nat.reduceBEq, h1, h3, w1, b1, Nat.reduceLT]
          refine ⟨d - 1, [2], by omega, by decide, pinned_zero _, i + 1, 1, bs ++ [wrapK .u8 (wrapK .u8 (wrapK .i64 (x - 10)) + 48)], by (simp only [yE, Nat.reduceEqDiff, Nat.reduceAdd, reduceCtorEq]; try rfl), by simp only [yE, Nat.reduceEqDiff, Nat.reduceAdd, reduceCtorEq, List.map_append]; rfl, by simp; omega, by omega, ?_⟩
          refine ⟨by decide, fun hM => ?_⟩
          have dga := dg_out (l := strOf a) (i := i) (by omega)
          have dgb := dg_out (l := strOf b) (i := i) (by omega)
          have hxc : x = c := by
            rw [← hx, dga, dgb]
            rcases hc with rfl | rfl <;> rfl
          first
          | rfl
          | (exfalso; have := of_leF h1; rcases hc with e | e <;> omega)
          | (exfalso; have := of_leF h2; rcases hc with e | e <;> omega)
        | false =>
          simp -implicitDefEqProofs only [↓yP, yT, Nat.reduceAdd, Nat.reduceMul, Nat.reduceSub, Nat.reduceLeDiff, Nat.reduceEqDiff, reduceCtorEq, Nat.reduceBEq, h1, h3, w1, b1, Nat.reduceLT]
          refine ⟨d - 1, [2], by omega, by decide, pinned_zero _, i + 1, 1, bs ++ [wrapK .u8 (wrapK .u8 (wrapK .i64 (wrapK .i64 (x - 10) + 10)) + 48)], by (simp only [yE, Nat.reduceEqDiff, Nat.reduceAdd, reduceCtorEq]; try rfl), by simp only [yE, Nat.reduceEqDiff, Nat.reduceAdd, reduceCtorEq, List.map_append]; rfl, by simp; omega, by omega, ?_⟩
          refine ⟨by decide, fun hM => ?_⟩
          have dga := dg_out (l := strOf a) (i := i) (by omega)
          have dgb := dg_out (l := strOf b) (i := i) (by omega)
          have hxc : x = c := by
            rw [← hx, dga, dgb]
            rcases hc with rfl | rfl <;> rfl
          first
          | rfl
          | (exfalso; have := of_leF h1; rcases hc with e | e <;> omega)
          | (exfalso; have := of_leF h2; rcases hc with e | e <;> omega)
      | true =>
        cases h2 : leI 0 x with
        | true =>
          simp -implicitDefEqProofs only [↓yP, yT, Nat.reduceAdd, Nat.reduceMul, Nat.reduceSub, Nat.reduceLeDiff, Nat.reduceEqDiff, reduceCtorEq, Nat.reduceBEq, h1, h2, w1, b1, Nat.reduceLT]
          refine ⟨d - 1, [2], by omega, by decide, pinned_zero _, i + 1, 0, bs ++ [wrapK .u8 (wrapK .u8 (x) + 48)], by (simp only [yE, Nat.reduceEqDiff, Nat.reduceAdd, reduceCtorEq]; try rfl), by simp only [yE, Nat.reduceEqDiff, Nat.reduceAdd, reduceCtorEq, List.map_append]; rfl, by simp; omega, by omega, ?_⟩
          refine ⟨by decide, fun hM => ?_⟩
          have dga := dg_out (l := strOf a) (i := i) (by omega)
          have dgb := dg_out (l := strOf b) (i := i) (by omega)
          have hxc : x = c := by
            rw [← hx, dga, dgb]
            rcases hc with rfl | rfl <;> rfl
          first
          | rfl
          | (exfalso; have := of_leF h1; rcases hc with e | e <;> omega)
          | (exfalso; have := of_leF h2; rcases hc with e | e <;> omega)
        | false =>
          simp -implicitDefEqProofs only [↓yP, yT, Nat.reduceAdd, Nat.reduceMul, Nat.reduceSub, Nat.reduceLeDiff, Nat.reduceEqDiff, reduceCtorEq, Nat.reduceBEq, h1, h2, w1, b1, Nat.reduceLT]
          refine ⟨d - 1, [2], by omega, by decide, pinned_zero _, i + 1, 1, bs ++ [wrapK .u8 (wrapK .u8 (wrapK .i64 (x + 10)) + 48)], by (simp only [yE, Nat.reduceEqDiff, Nat.reduceAdd, reduceCtorEq]; try rfl), by simp only [yE, Nat.reduceEqDiff, Nat.reduceAdd, reduceCtorEq, List.map_append]; rfl, by simp; omega, by omega, ?_⟩
          refine ⟨by decide, fun hM => ?_⟩
          have dga := dg_out (l := strOf a) (i := i) (by omega)
          have dgb := dg_out (l := strOf b) (i := i) (by omega)
          have hxc : x = c := by
            rw [← hx, dga, dgb]
            rcases hc with rfl | rfl <;> rfl
          first
          | rfl
          | (exfalso; have := of_leF h1; rcases hc with e | e <;> omega)
          | (exfalso; have := of_leF h2; rcases hc with e | e <;> omega)
    · have t2 : leI ((strOf b).length : Nat) (i : Nat) = true := leI_true (by omega)
      by_cases g3 : c = 0
      · have t3 : leI c 0 = true := leI_true (by omega)
        simp -implicitDefEqProofs only [↓yP, yT, Nat.reduceAdd, Nat.reduceMul, Nat.reduceSub, Nat.reduceLeDiff, Nat.reduceEqDiff, reduceCtorEq, Nat.reduceBEq, opLen.eq_1, xindex.eq_1, xslice.eq_1, Int.toNat_natCast, t1, t2, t3]
        refine Rl_inv (fun d e s => ∃ n : Nat, e = [.c .top, .c .top, .c .top, .c .top, .c .top, .c .top, .c .top, .c (.own 0 1 0 bs.length), .c .top, .c .top, .c .top, yd (.int .i64 (n : Nat)), .c .top, .c .top, .c .top, .c .top, .c .top, .c .top, .c .top, .c .top, .c .top, .c .top, .c .top, .c .top, .c .top, .c .top, .c .top, .c .top, .c .top, .c .top, .c .top, .c .top, .c .top, .c .top, .c .top, .c .top, .c .top, .c .top, .c .top, .c .top, .c .top, .c .top, .c .top, .c .top, .c .top, .c .top, .c .top, .c .top, .c .top, .c .top, .c .top, .c .top, .c .top, .c .top, .c .top, .c .top, .c .top, .c .top, .c .top, .c .top, .c .top, .c .top, .c .top, .c .top, .c .top, .c .top, .c .top, .c .top, .c .top, .c .top, .c .top, .c .top, .c .top, .c .top, .c .top, .c .top, .c .top, .c .top, .c .top, .c .top, .c .top, .c .top, .c .top, .c .top, .c .top, .c .top, .c .top, .c .top, .c .top, .c .top, .c .top, .c .top] ∧ s = [.row 1 (bs.map eb)] ∧ n = d ∧ n ≤ bs.length) [false, false, false, false, false, false, false, true, false, false, false, true] bs.length [0] (by decide) (pinned_zero _) ⟨bs.length, by (simp only [yE, Nat.reduceEqDiff, Nat.reduceAdd, reduceCtorEq]; try rfl), by (simp only [yE, Nat.reduceEqDiff, Nat.reduceAdd, reduceCtorEq]; try rfl), rfl, by omega⟩ ?_
        rintro d1 e s ⟨n, rfl, rfl, hn1, hn2⟩
        by_cases h1n : 1 < n
        · have t5 : leI (n : Nat) 1 = false := leI_false (by omega)
          have w5 : wrapK .i64 ((n : Int) - 1) = ((n - 1 : Nat) : Int) := wrap_pred (by omega) (by omega)
          have c5 : (0 : Int) ≤ ((n - 1 : Nat) : Int) := by omega
          have c6 : ((n - 1 : Nat) : Int) < (bs.length : Nat) := by omega
          obtain ⟨z, hz⟩ := get_lt (show n - 1 < bs.length by omega)
          cases h5 : eqI z 48 with
          | true =>
            simp -implicitDefEqProofs only [↓yP, yT, Nat.reduceAdd, Nat.reduceMul, Nat.reduceSub, Nat.reduceLeDiff, Nat.reduceEqDiff, reduceCtorEq, Nat.reduceBEq, t5, w5, c5, c6, ebGet hz, h5, nn]
            refine ⟨d1 - 1, [0], by omega, by decide, pinned_zero _, n - 1, by (simp only [yE, Nat.reduceEqDiff, Nat.reduceAdd, reduceCtorEq]; try rfl), by (simp only [yE, Nat.reduceEqDiff, Nat.reduceAdd, reduceCtorEq]; try rfl), by omega, by omega⟩
          | false =>
            simp -implicitDefEqProofs only [↓yP, yT, Nat.reduceAdd, Nat.reduceMul, Nat.reduceSub, Nat.reduceLeDiff, Nat.reduceEqDiff, reduceCtorEq, Nat.reduceBEq, t5, w5, c5, c6, ebGet hz, h5, nn]
            refine Rl_nil 12 1 (by decide) rfl ?_
            refine Rl_inv (fun d e s => ∃ (j : Nat) (os : List Int), e = [.c .top, .c .top, .c .top, .c .top, .c .top, .c .top, .c .top, .c (.own 0 1 0 bs.length), .c .top, .c .top, .c .top, .c .top, .c (.own 1 1 0 os.length), yd (.int .i64 ((j : Int) - 1)), .c .top, .c .top, .c .top, .c .top, .c .top, .c .top, .c .top, .c .top, .c .top, .c .top, .c .top, .c .top, .c .top, .c .top, .c .top, .c .top, .c .top, .c .top, .c .top, .c .top, .c .top, .c .top, .c .top, .c .top, .c .top, .c .top, .c .top, .c .top, .c .top, .c .top, .c .top, .c .top, .c .top, .c .top, .c .top, .c .top, .c .top, .c .top, .c .top, .c .top, .c .top, .c .top, .c .top, .c .top, .c .top, .c .top, .c .top, .c .top, .c .top, .c .top, .c .top, .c .top, .c .top, .c .top, .c .top, .c .top, .c .top, .c .top, .c .top, .c .top, .c .top, .c .top, .c .top, .c .top, .c .top, .c .top, .c .top, .c .top, .c .top, .c .top, .c .top, .c .top, .c .top, .c .top, .c .top, .c .top, .c .top, .c .top] ∧ s = [.row 1 (bs.map eb), .row 1 (os.map eb)] ∧ j = d ∧ j ≤ bs.length ∧ os.length + j = n) [false, false, false, false, false, false, false, true, false, false, false, false, true, true] n [0, 1] (by decide) (pinned_zero _) ⟨n, [], by first | (simp only [yE, Nat.reduceEqDiff, Nat.reduceAdd, reduceCtorEq]; done) | (simp only [yE, Nat.reduceEqDiff, Nat.reduceAdd, reduceCtorEq]; rfl) | (rw [show ((n - 1 : Nat) : Int) = (n : Int) - 1 by omega]; simp only [yE, Nat.reduceEqDiff, Nat.reduceAdd, reduceCtorEq]; rfl), by (simp only [yE, Nat.reduceEqDiff, Nat.reduceAdd, reduceCtorEq]; try rfl), rfl, by omega, by simp⟩ ?_
            rintro d2 e s ⟨j, os, rfl, rfl, hj1, hj2, hj3⟩
            cases j with
            | zero =>
              have t6 : leI 0 (((0 : Nat) : Int) - 1) = false := leI_false (by omega)
              simp -implicitDefEqProofs only [↓yP, yT, Nat.reduceAdd, Nat.reduceMul, Nat.reduceSub, Nat.reduceLeDiff, Nat.reduceEqDiff, reduceCtorEq, Nat.reduceBEq, t6, ybytes_eb, bytesOf_u8]
              exact ⟨bstr os, rfl, by rw [bstr_len]; omega⟩
            | succ j =>
              have e7 : ((j + 1 : Nat) : Int) - 1 = (j : Nat) := by omega
              have t6 : leI 0 (j : Nat) = true := leI_true (by omega)
              have c7 : (0 : Int) ≤ (j : Nat) := by omega
              have c8 : ((j : Nat) : Int) < (bs.length : Nat) := by omega
              have w8 : wrapK .i64 ((j : Int) - 1) = (j : Int) - 1 := wrap_int (by omega) (by omega)
              have b8 : (os.length + 1) * 1 ≤ 70368744177664 := by omega
              obtain ⟨z8, hz8⟩ := get_lt (show j < bs.length by omega)
              rw [e7]
              simp -implicitDefEqProofs only [↓yP, yT, Nat.reduceAdd, Nat.reduceMul, Nat.reduceSub, Nat.reduceLeDiff, Nat.reduceEqDiff, reduceCtorEq, Nat.reduceBEq, t6, c7, c8, w8, b8, ebGet hz8, nn]
              refine ⟨d2 - 1, [0, 3], by omega, by decide, pinned_zero _, j, os ++ [z8], by (simp only [yE, Nat.reduceEqDiff, Nat.reduceAdd, reduceCtorEq]; try rfl), ?_, by omega, by omega, by simp; omega⟩
              simp only [yE, Nat.reduceEqDiff, Nat.reduceAdd, reduceCtorEq, List.map_append]; rfl
        · have t5 : leI (n : Nat) 1 = true := leI_true (by omega)
          have w5 : wrapK .i64 ((n : Int) - 1) = (n : Int) - 1 := wrap_int (by omega) (by omega)
          simp -implicitDefEqProofs only [↓yP, yT, Nat.reduceAdd, Nat.reduceMul, Nat.reduceSub, Nat.reduceLeDiff, Nat.reduceEqDiff, reduceCtorEq, Nat.reduceBEq, t5, w5]
          refine Rl_nil 12 1 (by decide) rfl ?_
          refine Rl_inv (fun d e s => ∃ (j : Nat) (os : List Int), e = [.c .top, .c .top, .c .top, .c .top, .c .top, .c .top, .c .top, .c (.own 0 1 0 bs.length), .c .top, .c .top, .c .top, .c .top, .c (.own 1 1 0 os.length), yd (.int .i64 ((j : Int) - 1)), .c .top, .c .top, .c .top, .c .top, .c .top, .c .top, .c .top, .c .top, .c .top, .c .top, .c .top, .c .top, .c .top, .c .top, .c .top, .c .top, .c .top, .c .top, .c .top, .c .top, .c .top, .c .top, .c .top, .c .top, .c .top, .c .top, .c .top, .c .top, .c .top, .c .top, .c .top, .c .top, .c .top, .c .top, .c .top, .c .top, .c .top, .c .top, .c .top, .c .top, .c .top, .c .top, .c .top, .c .top, .c .top, .c .top, .c .top, .c .top, .c .top, .c .top, .c .top, .c .top, .c .top, .c .top, .c .top, .c .top, .c .top, .c .top, .c .top, .c .top, .c .top, .c .top, .c .top, .c .top, .c .top, .c .top, .c .top, .c .top, .c .top, .c .top, .c .top, .c .top, .c .top, .c .top, .c .top, .c .top, .c .top, .c .top] ∧ s = [.row 1 (bs.map eb), .row 1 (os.map eb)] ∧ j = d ∧ j ≤ bs.length ∧ os.length + j = n) [false, false, false, false, false, false, false, true, false, false, false, false, true, true] n [0, 1] (by decide) (pinned_zero _) ⟨n, [], by first | (simp only [yE, Nat.reduceEqDiff, Nat.reduceAdd, reduceCtorEq]; done) | (simp only [yE, Nat.reduceEqDiff, Nat.reduceAdd, reduceCtorEq]; rfl) | (rw [show ((n - 1 : Nat) : Int) = (n : Int) - 1 by omega]; simp only [yE, Nat.reduceEqDiff, Nat.reduceAdd, reduceCtorEq]; rfl), by (simp only [yE, Nat.reduceEqDiff, Nat.reduceAdd, reduceCtorEq]; try rfl), rfl, by omega, by simp⟩ ?_
          rintro d2 e s ⟨j, os, rfl, rfl, hj1, hj2, hj3⟩
          cases j with
          | zero =>
            have t6 : leI 0 (((0 : Nat) : Int) - 1) = false := leI_false (by omega)
            simp -implicitDefEqProofs only [↓yP, yT, Nat.reduceAdd, Nat.reduceMul, Nat.reduceSub, Nat.reduceLeDiff, Nat.reduceEqDiff, reduceCtorEq, Nat.reduceBEq, t6, ybytes_eb, bytesOf_u8]
            exact ⟨bstr os, rfl, by rw [bstr_len]; omega⟩
          | succ j =>
            have e7 : ((j + 1 : Nat) : Int) - 1 = (j : Nat) := by omega
            have t6 : leI 0 (j : Nat) = true := leI_true (by omega)
            have c7 : (0 : Int) ≤ (j : Nat) := by omega
            have c8 : ((j : Nat) : Int) < (bs.length : Nat) := by omega
            have w8 : wrapK .i64 ((j : Int) - 1) = (j : Int) - 1 := wrap_int (by omega) (by omega)
            have b8 : (os.length + 1) * 1 ≤ 70368744177664 := by omega
            obtain ⟨z8, hz8⟩ := get_lt (show j < bs.length by omega)
            rw [e7]
            simp -implicitDefEqProofs only [↓yP, yT, Nat.reduceAdd, Nat.reduceMul, Nat.reduceSub, Nat.reduceLeDiff, Nat.reduceEqDiff, reduceCtorEq, Nat.reduceBEq, t6, c7, c8, w8, b8, ebGet hz8, nn]
            refine ⟨d2 - 1, [0, 3], by omega, by decide, pinned_zero _, j, os ++ [z8], by (simp only [yE, Nat.reduceEqDiff, Nat.reduceAdd, reduceCtorEq]; try rfl), ?_, by omega, by omega, by simp; omega⟩
            simp only [yE, Nat.reduceEqDiff, Nat.reduceAdd, reduceCtorEq, List.map_append]; rfl
      · have t3 : leI c 0 = false := leI_false (by rcases hc with e | e <;> omega)
        have hiM : i ≤ M := Nat.le_of_not_lt fun h => g3 (hcM h)
        simp -implicitDefEqProofs only [↓yP, yT, Nat.reduceAdd, Nat.reduceMul, Nat.reduceSub, Nat.reduceLeDiff, Nat.reduceEqDiff, reduceCtorEq, Nat.reduceBEq, opLen.eq_1, xindex.eq_1, xslice.eq_1, Int.toNat_natCast, t1, t2, t3]
        refine Rcall_pure (digit1_spec a i (by omega) (by omega)) (by rfl) fun y hy => ?_
        subst hy
        simp -implicitDefEqProofs only [↓yP, yT, Nat.reduceAdd, Nat.reduceMul, Nat.reduceSub, Nat.reduceLeDiff, Nat.reduceEqDiff, reduceCtorEq, Nat.reduceBEq]
        refine Rcall_pure (digit1_spec b i (by omega) (by omega)) (by rfl) fun y hy => ?_
        subst hy
        simp -implicitDefEqProofs only [↓yP, yT, Nat.reduceAdd, Nat.reduceMul, Nat.reduceSub, Nat.reduceLeDiff, Nat.reduceEqDiff, reduceCtorEq, Nat.reduceBEq]
        generalize hx : wrapK .i64 (wrapK .i64 (dgI (strOf a) i + dgI (strOf b) i) + c) = x
        have w1 : wrapK .i64 ((i : Int) + 1) = ((i + 1 : Nat) : Int) := wrap_succ (by omega)
        have b1 : (bs.length + 1) * 1 ≤ 70368744177664 := by omega
        cases h1 : leI x 9 with
        | false =>
          cases h3 : leI 0 (wrapK .i64 (x - 10)) with
          | true =>
            simp -implicitDefEqProofs only [↓yP, yT, Nat.reduceAdd, Nat.reduceMul, Nat.reduceSub, Nat.reduceLeDiff, Nat.reduceEqDiff, reduceCtorEq, Nat.reduceBEq, h1, h3, w1, b1, Nat.reduceLT]
            refine ⟨d - 1, [2], by omega, by decide, pinned_zero _, i + 1, 1, bs ++ [wrapK .u8 (wrapK .u8 (wrapK .i64 (x - 10)) + 48)], by (simp only [yE, Nat.reduceEqDiff, Nat.reduceAdd, reduceCtorEq]; try rfl), by simp only [yE, Nat.reduceEqDiff, Nat.reduceAdd, reduceCtorEq, List.map_append]; rfl, by simp; omega, by omega, ?_⟩
            refine ⟨by decide, fun hM => ?_⟩
            have dga := dg_out (l := strOf a) (i := i) (by omega)
            have dgb := dg_out (l := strOf b) (i := i) (by omega)
            have hxc : x = c := by
              rw [← hx, dga, dgb]
              rcases hc with rfl | rfl <;> rfl
            first
            | rfl
            | (exfalso; have := of_leF h1; rcases hc with e | e <;> omega)
            | (exfalso; have := of_leF h2; rcases hc with e | e <;> omega)
          | false =>
            simp -implicitDefEqProofs only [↓yP, yT, Nat.reduceAdd, Nat.reduceMul, Nat.reduceSub, Nat.reduceLeDiff, Nat.reduceEqDiff, reduceCtorEq, Nat.reduceBEq, h1, h3, w1, b1, Nat.reduceLT]
            refine ⟨d - 1, [2], by omega, by decide, pinned_zero _, i + 1, 1, bs ++ [wrapK .u8 (wrapK .u8 (wrapK .i64 (wrapK .i64 (x - 10) + 10)) + 48)], by (simp only [yE, Nat.reduceEqDiff, Nat.reduceAdd, reduceCtorEq]; try rfl), by simp only [yE, Nat.reduceEqDiff, Nat.reduceAdd, reduceCtorEq, List.map_append]; rfl, by simp; omega, by omega, ?_⟩
            refine ⟨by decide, fun hM => ?_⟩
            have dga := dg_out (l := strOf a) (i := i) (by omega)
            have dgb := dg_out (l := strOf b) (i := i) (by omega)
            have hxc : x = c := by
              rw [← hx, dga, dgb]
              rcases hc with rfl | rfl <;> rfl
            first
            | rfl
            | (exfalso; have := of_leF h1; rcases hc with e | e <;> omega)
            | (exfalso; have := of_leF h2; rcases hc with e | e <;> omega)
        | true =>
          cases h2 : leI 0 x with
          | true =>
            simp -implicitDefEqProofs only [↓yP, yT, Nat.reduceAdd, Nat.reduceMul, Nat.reduceSub, Nat.reduceLeDiff, Nat.reduceEqDiff, reduceCtorEq, Nat.reduceBEq, h1, h2, w1, b1, Nat.reduceLT]
            refine ⟨d - 1, [2], by omega, by decide, pinned_zero _, i + 1, 0, bs ++ [wrapK .u8 (wrapK .u8 (x) + 48)], by (simp only [yE, Nat.reduceEqDiff, Nat.reduceAdd, reduceCtorEq]; try rfl), by simp only [yE, Nat.reduceEqDiff, Nat.reduceAdd, reduceCtorEq, List.map_append]; rfl, by simp; omega, by omega, ?_⟩
            refine ⟨by decide, fun hM => ?_⟩
            have dga := dg_out (l := strOf a) (i := i) (by omega)
            have dgb := dg_out (l := strOf b) (i := i) (by omega)
            have hxc : x = c := by
              rw [← hx, dga, dgb]
              rcases hc with rfl | rfl <;> rfl
            first
            | rfl
            | (exfalso; have := of_leF h1; rcases hc with e | e <;> omega)
            | (exfalso; have := of_leF h2; rcases hc with e | e <;> omega)
          | false =>
            simp -implicitDefEqProofs only [↓yP, yT, Nat.reduceAdd, Nat.reduceMul, Nat.reduceSub, Nat.reduceLeDiff, Nat.reduceEqDiff, reduceCtorEq, Nat.reduceBEq, h1, h2, w1, b1, Nat.reduceLT]
            refine ⟨d - 1, [2], by omega, by decide, pinned_zero _, i + 1, 1, bs ++ [wrapK .u8 (wrapK .u8 (wrapK .i64 (x + 10)) + 48)], by (simp only [yE, Nat.reduceEqDiff, Nat.reduceAdd, reduceCtorEq]; try rfl), by simp only [yE, Nat.reduceEqDiff, Nat.reduceAdd, reduceCtorEq, List.map_append]; rfl, by simp; omega, by omega, ?_⟩
            refine ⟨by decide, fun hM => ?_⟩
            have dga := dg_out (l := strOf a) (i := i) (by omega)
            have dgb := dg_out (l := strOf b) (i := i) (by omega)
            have hxc : x = c := by
              rw [← hx, dga, dgb]
              rcases hc with rfl | rfl <;> rfl
            first
            | rfl
            | (exfalso; have := of_leF h1; rcases hc with e | e <;> omega)
            | (exfalso; have := of_leF h2; rcases hc with e | e <;> omega)
theorem reckonSub_spec (a b : ByteArray) (ha : (strOf a).length ≤ 60000000) (hA : Dg (strOf a)) (hB : Dg (strOf b)) (hz : NoZ (strOf a)) (hs : smB (strOf a) (strOf b) = false) : PCall C1 113 [yd (.string a), yd (.string b), yd (.bool true)] fun y => ∃ s : ByteArray, y = yd (.string s) ∧ (strOf s).length ≤ (strOf a).length + 1 := by
  have hle : (strOf b).length ≤ (strOf a).length := by
    simp only [smB, Bool.or_eq_false_iff, decide_eq_false_iff_not] at hs
    omega
  refine Pf (by rfl) (by rfl) fn113 (by rfl) ?_
  simp only [Try.f113, List.length_cons, List.length_nil, List.replicate, List.cons_append, List.nil_append]
  simp -implicitDefEqProofs only [↓yP, yT, Nat.reduceAdd, Nat.reduceMul, Nat.reduceSub, Nat.reduceLeDiff, Nat.reduceEqDiff, reduceCtorEq, Nat.reduceBEq]
  refine Rl_nil 7 1 (by decide) rfl ?_
  refine Rl_inv (fun d e s => ∃ (i : Nat) (c : Int) (bs : List Int), e = ([yd (.string a), yd (.string b), yd (.bool true), .c .top, .c .top, .c .top, .c .top, .c (.own 0 1 0 bs.length), yd (.int .i64 c), yd (.int .i64 (i : Nat)), .c .top, .c .top, .c .top, .c .top, .c .top, .c .top, .c .top, .c .top, .c .top, .c .top, .c .top, .c .top, .c .top, .c .top, .c .top, .c .top, .c .top, .c .top, .c .top, .c .top, .c .top, .c .top, .c .top, .c .top, .c .top, .c .top, .c .top, .c .top, .c .top, .c .top, .c .top, .c .top, .c .top, .c .top, .c .top, .c .top, .c .top, .c .top, .c .top, .c .top, .c .top, .c .top, .c .top, .c .top, .c .top, .c .top, .c .top, .c .top, .c .top, .c .top, .c .top, .c .top, .c .top, .c .top, .c .top, .c .top, .c .top, .c .top, .c .top, .c .top, .c .top, .c .top, .c .top, .c .top, .c .top, .c .top, .c .top, .c .top, .c .top, .c .top, .c .top, .c .top, .c .top, .c .top, .c .top, .c .top, .c .top, .c .top, .c .top, .c .top, .c .top, .c .top]) ∧ s = [.row 1 (bs.map eb)] ∧ bs.length = i ∧ i + d = (strOf a).length ∧ SubInv (strOf a) (strOf b) i c) [true, true, true, false, false, false, false, true, true, true] (strOf a).length [0] (by decide) (pinned_zero _) ⟨0, 0, [], by (simp only [yE, Nat.reduceEqDiff, Nat.reduceAdd, reduceCtorEq]; try rfl), by (simp only [yE, Nat.reduceEqDiff, Nat.reduceAdd, reduceCtorEq]; try rfl), rfl, by omega, .start hA⟩ ?_
  rintro d e s ⟨i, c, bs, rfl, rfl, hbl, hd, hinv⟩
  by_cases g1 : i < (strOf a).length
  · have t1 : leI ((strOf a).length : Nat) (i : Nat) = false := leI_false (by omega)
    obtain ⟨v1, v2, v3, v4, hstep⟩ := hinv.step hA hB hz hle g1
    simp -implicitDefEqProofs only [↓yP, yT, Nat.reduceAdd, Nat.reduceMul, Nat.reduceSub, Nat.reduceLeDiff, Nat.reduceEqDiff, reduceCtorEq, Nat.reduceBEq, opLen.eq_1, xindex.eq_1, xslice.eq_1, Int.toNat_natCast, t1]
    refine Rcall_pure (digit1_spec a i (by omega) (by omega)) (by rfl) fun y hy => ?_
    subst hy
    simp -implicitDefEqProofs only [↓yP, yT, Nat.reduceAdd, Nat.reduceMul, Nat.reduceSub, Nat.reduceLeDiff, Nat.reduceEqDiff, reduceCtorEq, Nat.reduceBEq]
    refine Rcall_pure (digit1_spec b i (by omega) (by omega)) (by rfl) fun y hy => ?_
    subst hy
    simp -implicitDefEqProofs only [↓yP, yT, Nat.reduceAdd, Nat.reduceMul, Nat.reduceSub, Nat.reduceLeDiff, Nat.reduceEqDiff, reduceCtorEq, Nat.reduceBEq]
    refine Rcall_pure (digit1_spec a i (by omega) (by omega)) (by rfl) fun y hy => ?_
    subst hy
    simp -implicitDefEqProofs only [↓yP, yT, Nat.reduceAdd, Nat.reduceMul, Nat.reduceSub, Nat.reduceLeDiff, Nat.reduceEqDiff, reduceCtorEq, Nat.reduceBEq]
    refine Rcall_pure (digit1_spec b i (by omega) (by omega)) (by rfl) fun y hy => ?_
    subst hy
    have u1 : wrapK .i64 (dgI (strOf a) i - dgI (strOf b) i) = dgI (strOf a) i - dgI (strOf b) i := wrap_int (by omega) (by omega)
    have u2 : wrapK .i64 (dgI (strOf a) i - dgI (strOf b) i - c) = dgI (strOf a) i - dgI (strOf b) i - c := wrap_int (by omega) (by omega)
    simp -implicitDefEqProofs only [↓yP, yT, Nat.reduceAdd, Nat.reduceMul, Nat.reduceSub, Nat.reduceLeDiff, Nat.reduceEqDiff, reduceCtorEq, Nat.reduceBEq, u1, u2]
    generalize hx : dgI (strOf a) i - dgI (strOf b) i - c = x at *
    clear u1 u2
    have w1 : wrapK .i64 ((i : Int) + 1) = ((i + 1 : Nat) : Int) := wrap_succ (by omega)
    have b1 : (bs.length + 1) * 1 ≤ 70368744177664 := by omega
    cases h1 : leI x 9 with
    | false =>
      cases h3 : leI 0 (wrapK .i64 (x - 10)) with
      | true =>
        simp -implicitDefEqProofs only [↓yP, yT, Nat.reduceAdd, Nat.reduceMul, Nat.reduceSub, Nat.reduceLeDiff, Nat.reduceEqDiff, reduceCtorEq, Nat.reduceBEq, h1, h3, w1, b1, Nat.reduceLT]
        refine ⟨d - 1, [2], by omega, by decide, pinned_zero _, i + 1, 1, bs ++ [wrapK .u8 (wrapK .u8 (wrapK .i64 (x - 10)) + 48)], by (simp only [yE, Nat.reduceEqDiff, Nat.reduceAdd, reduceCtorEq]; try rfl), by simp only [yE, Nat.reduceEqDiff, Nat.reduceAdd, reduceCtorEq, List.map_append]; rfl, by simp; omega, by omega, ?_⟩
        first
        | (exfalso; have := of_leF h1; omega)
        | (have h2' := of_leF h2; rw [if_pos (by omega)] at hstep; exact hstep)
        | (have h2' := of_leT h2; rw [if_neg (by omega)] at hstep; exact hstep)
      | false =>
        simp -implicitDefEqProofs only [↓yP, yT, Nat.reduceAdd, Nat.reduceMul, Nat.reduceSub, Nat.reduceLeDiff, Nat.reduceEqDiff, reduceCtorEq, Nat.reduceBEq, h1, h3, w1, b1, Nat.reduceLT]
        refine ⟨d - 1, [2], by omega, by decide, pinned_zero _, i + 1, 1, bs ++ [wrapK .u8 (wrapK .u8 (wrapK .i64 (wrapK .i64 (x - 10) + 10)) + 48)], by (simp only [yE, Nat.reduceEqDiff, Nat.reduceAdd, reduceCtorEq]; try rfl), by simp only [yE, Nat.reduceEqDiff, Nat.reduceAdd, reduceCtorEq, List.map_append]; rfl, by simp; omega, by omega, ?_⟩
        first
        | (exfalso; have := of_leF h1; omega)
        | (have h2' := of_leF h2; rw [if_pos (by omega)] at hstep; exact hstep)
        | (have h2' := of_leT h2; rw [if_neg (by omega)] at hstep; exact hstep)
    | true =>
      cases h2 : leI 0 x with
      | true =>
        simp -implicitDefEqProofs only [↓yP, yT, Nat.reduceAdd, Nat.reduceMul, Nat.reduceSub, Nat.reduceLeDiff, Nat.reduceEqDiff, reduceCtorEq, Nat.reduceBEq, h1, h2, w1, b1, Nat.reduceLT]
        refine ⟨d - 1, [2], by omega, by decide, pinned_zero _, i + 1, 0, bs ++ [wrapK .u8 (wrapK .u8 (x) + 48)], by (simp only [yE, Nat.reduceEqDiff, Nat.reduceAdd, reduceCtorEq]; try rfl), by simp only [yE, Nat.reduceEqDiff, Nat.reduceAdd, reduceCtorEq, List.map_append]; rfl, by simp; omega, by omega, ?_⟩
        first
        | (exfalso; have := of_leF h1; omega)
        | (have h2' := of_leF h2; rw [if_pos (by omega)] at hstep; exact hstep)
        | (have h2' := of_leT h2; rw [if_neg (by omega)] at hstep; exact hstep)
      | false =>
        simp -implicitDefEqProofs only [↓yP, yT, Nat.reduceAdd, Nat.reduceMul, Nat.reduceSub, Nat.reduceLeDiff, Nat.reduceEqDiff, reduceCtorEq, Nat.reduceBEq, h1, h2, w1, b1, Nat.reduceLT]
        refine ⟨d - 1, [2], by omega, by decide, pinned_zero _, i + 1, 1, bs ++ [wrapK .u8 (wrapK .u8 (wrapK .i64 (x + 10)) + 48)], by (simp only [yE, Nat.reduceEqDiff, Nat.reduceAdd, reduceCtorEq]; try rfl), by simp only [yE, Nat.reduceEqDiff, Nat.reduceAdd, reduceCtorEq, List.map_append]; rfl, by simp; omega, by omega, ?_⟩
        first
        | (exfalso; have := of_leF h1; omega)
        | (have h2' := of_leF h2; rw [if_pos (by omega)] at hstep; exact hstep)
        | (have h2' := of_leT h2; rw [if_neg (by omega)] at hstep; exact hstep)
  · have t1 : leI ((strOf a).length : Nat) (i : Nat) = true := leI_true (by omega)
    have t2 : leI ((strOf b).length : Nat) (i : Nat) = true := leI_true (by omega)
    have hi : i = (strOf a).length := by have := hinv.le; omega
    have hc0 : c = 0 := by rw [hi] at hinv; exact hinv.end hs
    have t3 : leI c 0 = true := leI_true (by omega)
    simp -implicitDefEqProofs only [↓yP, yT, Nat.reduceAdd, Nat.reduceMul, Nat.reduceSub, Nat.reduceLeDiff, Nat.reduceEqDiff, reduceCtorEq, Nat.reduceBEq, opLen.eq_1, xindex.eq_1, xslice.eq_1, Int.toNat_natCast, t1, t2, t3]
    refine Rl_inv (fun d e s => ∃ n : Nat, e = [.c .top, .c .top, .c .top, .c .top, .c .top, .c .top, .c .top, .c (.own 0 1 0 bs.length), .c .top, .c .top, .c .top, yd (.int .i64 (n : Nat)), .c .top, .c .top, .c .top, .c .top, .c .top, .c .top, .c .top, .c .top, .c .top, .c .top, .c .top, .c .top, .c .top, .c .top, .c .top, .c .top, .c .top, .c .top, .c .top, .c .top, .c .top, .c .top, .c .top, .c .top, .c .top, .c .top, .c .top, .c .top, .c .top, .c .top, .c .top, .c .top, .c .top, .c .top, .c .top, .c .top, .c .top, .c .top, .c .top, .c .top, .c .top, .c .top, .c .top, .c .top, .c .top, .c .top, .c .top, .c .top, .c .top, .c .top, .c .top, .c .top, .c .top, .c .top, .c .top, .c .top, .c .top, .c .top, .c .top, .c .top, .c .top, .c .top, .c .top, .c .top, .c .top, .c .top, .c .top, .c .top, .c .top, .c .top, .c .top, .c .top, .c .top, .c .top, .c .top, .c .top, .c .top, .c .top, .c .top, .c .top] ∧ s = [.row 1 (bs.map eb)] ∧ n = d ∧ n ≤ bs.length) [false, false, false, false, false, false, false, true, false, false, false, true] bs.length [0] (by decide) (pinned_zero _) ⟨bs.length, by (simp only [yE, Nat.reduceEqDiff, Nat.reduceAdd, reduceCtorEq]; try rfl), by (simp only [yE, Nat.reduceEqDiff, Nat.reduceAdd, reduceCtorEq]; try rfl), rfl, by omega⟩ ?_
    rintro d1 e s ⟨n, rfl, rfl, hn1, hn2⟩
    by_cases h1n : 1 < n
    · have t5 : leI (n : Nat) 1 = false := leI_false (by omega)
      have w5 : wrapK .i64 ((n : Int) - 1) = ((n - 1 : Nat) : Int) := wrap_pred (by omega) (by omega)
      have c5 : (0 : Int) ≤ ((n - 1 : Nat) : Int) := by omega
      have c6 : ((n - 1 : Nat) : Int) < (bs.length : Nat) := by omega
      obtain ⟨z, hz⟩ := get_lt (show n - 1 < bs.length by omega)
      cases h5 : eqI z 48 with
      | true =>
        simp -implicitDefEqProofs only [↓yP, yT, Nat.reduceAdd, Nat.reduceMul, Nat.reduceSub, Nat.reduceLeDiff, Nat.reduceEqDiff, reduceCtorEq, Nat.reduceBEq, t5, w5, c5, c6, ebGet hz, h5, nn]
        refine ⟨d1 - 1, [0], by omega, by decide, pinned_zero _, n - 1, by (simp only [yE, Nat.reduceEqDiff, Nat.reduceAdd, reduceCtorEq]; try rfl), by (simp only [yE, Nat.reduceEqDiff, Nat.reduceAdd, reduceCtorEq]; try rfl), by omega, by omega⟩
      | false =>
        simp -implicitDefEqProofs only [↓yP, yT, Nat.reduceAdd, Nat.reduceMul, Nat.reduceSub, Nat.reduceLeDiff, Nat.reduceEqDiff, reduceCtorEq, Nat.reduceBEq, t5, w5, c5, c6, ebGet hz, h5, nn]
        refine Rl_nil 12 1 (by decide) rfl ?_
        refine Rl_inv (fun d e s => ∃ (j : Nat) (os : List Int), e = [.c .top, .c .top, .c .top, .c .top, .c .top, .c .top, .c .top, .c (.own 0 1 0 bs.length), .c .top, .c .top, .c .top, .c .top, .c (.own 1 1 0 os.length), yd (.int .i64 ((j : Int) - 1)), .c .top, .c .top, .c .top, .c .top, .c .top, .c .top, .c .top, .c .top, .c .top, .c .top, .c .top, .c .top, .c .top, .c .top, .c .top, .c .top, .c .top, .c .top, .c .top, .c .top, .c .top, .c .top, .c .top, .c .top, .c .top, .c .top, .c .top, .c .top, .c .top, .c .top, .c .top, .c .top, .c .top, .c .top, .c .top, .c .top, .c .top, .c .top, .c .top, .c .top, .c .top, .c .top, .c .top, .c .top, .c .top, .c .top, .c .top, .c .top, .c .top, .c .top, .c .top, .c .top, .c .top, .c .top, .c .top, .c .top, .c .top, .c .top, .c .top, .c .top, .c .top, .c .top, .c .top, .c .top, .c .top, .c .top, .c .top, .c .top, .c .top, .c .top, .c .top, .c .top, .c .top, .c .top, .c .top, .c .top, .c .top, .c .top] ∧ s = [.row 1 (bs.map eb), .row 1 (os.map eb)] ∧ j = d ∧ j ≤ bs.length ∧ os.length + j = n) [false, false, false, false, false, false, false, true, false, false, false, false, true, true] n [0, 1] (by decide) (pinned_zero _) ⟨n, [], by first | (simp only [yE, Nat.reduceEqDiff, Nat.reduceAdd, reduceCtorEq]; done) | (simp only [yE, Nat.reduceEqDiff, Nat.reduceAdd, reduceCtorEq]; rfl) | (rw [show ((n - 1 : Nat) : Int) = (n : Int) - 1 by omega]; simp only [yE, Nat.reduceEqDiff, Nat.reduceAdd, reduceCtorEq]; rfl), by (simp only [yE, Nat.reduceEqDiff, Nat.reduceAdd, reduceCtorEq]; try rfl), rfl, by omega, by simp⟩ ?_
        rintro d2 e s ⟨j, os, rfl, rfl, hj1, hj2, hj3⟩
        cases j with
        | zero =>
          have t6 : leI 0 (((0 : Nat) : Int) - 1) = false := leI_false (by omega)
          simp -implicitDefEqProofs only [↓yP, yT, Nat.reduceAdd, Nat.reduceMul, Nat.reduceSub, Nat.reduceLeDiff, Nat.reduceEqDiff, reduceCtorEq, Nat.reduceBEq, t6, ybytes_eb, bytesOf_u8]
          exact ⟨bstr os, rfl, by rw [bstr_len]; omega⟩
        | succ j =>
          have e7 : ((j + 1 : Nat) : Int) - 1 = (j : Nat) := by omega
          have t6 : leI 0 (j : Nat) = true := leI_true (by omega)
          have c7 : (0 : Int) ≤ (j : Nat) := by omega
          have c8 : ((j : Nat) : Int) < (bs.length : Nat) := by omega
          have w8 : wrapK .i64 ((j : Int) - 1) = (j : Int) - 1 := wrap_int (by omega) (by omega)
          have b8 : (os.length + 1) * 1 ≤ 70368744177664 := by omega
          obtain ⟨z8, hz8⟩ := get_lt (show j < bs.length by omega)
          rw [e7]
          simp -implicitDefEqProofs only [↓yP, yT, Nat.reduceAdd, Nat.reduceMul, Nat.reduceSub, Nat.reduceLeDiff, Nat.reduceEqDiff, reduceCtorEq, Nat.reduceBEq, t6, c7, c8, w8, b8, ebGet hz8, nn]
          refine ⟨d2 - 1, [0, 3], by omega, by decide, pinned_zero _, j, os ++ [z8], by (simp only [yE, Nat.reduceEqDiff, Nat.reduceAdd, reduceCtorEq]; try rfl), ?_, by omega, by omega, by simp; omega⟩
          simp only [yE, Nat.reduceEqDiff, Nat.reduceAdd, reduceCtorEq, List.map_append]; rfl
    · have t5 : leI (n : Nat) 1 = true := leI_true (by omega)
      have w5 : wrapK .i64 ((n : Int) - 1) = (n : Int) - 1 := wrap_int (by omega) (by omega)
      simp -implicitDefEqProofs only [↓yP, yT, Nat.reduceAdd, Nat.reduceMul, Nat.reduceSub, Nat.reduceLeDiff, Nat.reduceEqDiff, reduceCtorEq, Nat.reduceBEq, t5, w5]
      refine Rl_nil 12 1 (by decide) rfl ?_
      refine Rl_inv (fun d e s => ∃ (j : Nat) (os : List Int), e = [.c .top, .c .top, .c .top, .c .top, .c .top, .c .top, .c .top, .c (.own 0 1 0 bs.length), .c .top, .c .top, .c .top, .c .top, .c (.own 1 1 0 os.length), yd (.int .i64 ((j : Int) - 1)), .c .top, .c .top, .c .top, .c .top, .c .top, .c .top, .c .top, .c .top, .c .top, .c .top, .c .top, .c .top, .c .top, .c .top, .c .top, .c .top, .c .top, .c .top, .c .top, .c .top, .c .top, .c .top, .c .top, .c .top, .c .top, .c .top, .c .top, .c .top, .c .top, .c .top, .c .top, .c .top, .c .top, .c .top, .c .top, .c .top, .c .top, .c .top, .c .top, .c .top, .c .top, .c .top, .c .top, .c .top, .c .top, .c .top, .c .top, .c .top, .c .top, .c .top, .c .top, .c .top, .c .top, .c .top, .c .top, .c .top, .c .top, .c .top, .c .top, .c .top, .c .top, .c .top, .c .top, .c .top, .c .top, .c .top, .c .top, .c .top, .c .top, .c .top, .c .top, .c .top, .c .top, .c .top, .c .top, .c .top, .c .top, .c .top] ∧ s = [.row 1 (bs.map eb), .row 1 (os.map eb)] ∧ j = d ∧ j ≤ bs.length ∧ os.length + j = n) [false, false, false, false, false, false, false, true, false, false, false, false, true, true] n [0, 1] (by decide) (pinned_zero _) ⟨n, [], by first | (simp only [yE, Nat.reduceEqDiff, Nat.reduceAdd, reduceCtorEq]; done) | (simp only [yE, Nat.reduceEqDiff, Nat.reduceAdd, reduceCtorEq]; rfl) | (rw [show ((n - 1 : Nat) : Int) = (n : Int) - 1 by omega]; simp only [yE, Nat.reduceEqDiff, Nat.reduceAdd, reduceCtorEq]; rfl), by (simp only [yE, Nat.reduceEqDiff, Nat.reduceAdd, reduceCtorEq]; try rfl), rfl, by omega, by simp⟩ ?_
      rintro d2 e s ⟨j, os, rfl, rfl, hj1, hj2, hj3⟩
      cases j with
      | zero =>
        have t6 : leI 0 (((0 : Nat) : Int) - 1) = false := leI_false (by omega)
        simp -implicitDefEqProofs only [↓yP, yT, Nat.reduceAdd, Nat.reduceMul, Nat.reduceSub, Nat.reduceLeDiff, Nat.reduceEqDiff, reduceCtorEq, Nat.reduceBEq, t6, ybytes_eb, bytesOf_u8]
        exact ⟨bstr os, rfl, by rw [bstr_len]; omega⟩
      | succ j =>
        have e7 : ((j + 1 : Nat) : Int) - 1 = (j : Nat) := by omega
        have t6 : leI 0 (j : Nat) = true := leI_true (by omega)
        have c7 : (0 : Int) ≤ (j : Nat) := by omega
        have c8 : ((j : Nat) : Int) < (bs.length : Nat) := by omega
        have w8 : wrapK .i64 ((j : Int) - 1) = (j : Int) - 1 := wrap_int (by omega) (by omega)
        have b8 : (os.length + 1) * 1 ≤ 70368744177664 := by omega
        obtain ⟨z8, hz8⟩ := get_lt (show j < bs.length by omega)
        rw [e7]
        simp -implicitDefEqProofs only [↓yP, yT, Nat.reduceAdd, Nat.reduceMul, Nat.reduceSub, Nat.reduceLeDiff, Nat.reduceEqDiff, reduceCtorEq, Nat.reduceBEq, t6, c7, c8, w8, b8, ebGet hz8, nn]
        refine ⟨d2 - 1, [0, 3], by omega, by decide, pinned_zero _, j, os ++ [z8], by (simp only [yE, Nat.reduceEqDiff, Nat.reduceAdd, reduceCtorEq]; try rfl), ?_, by omega, by omega, by simp; omega⟩
        simp only [yE, Nat.reduceEqDiff, Nat.reduceAdd, reduceCtorEq, List.map_append]; rfl
end Go.Vx.Seat
end
/- Sums of decimals. -/
section
open Go Go.Vx Go.Proofs
set_option linter.unusedSimpArgs false
set_option linter.unusedVariables false
set_option maxRecDepth 10000
set_option maxHeartbeats 4000000
namespace Go.Vx.Seat
attribute [local congr] Rg_at Rt_at Ro_at Ri_at Rc_at Rto_at Rtk_at Rtf_at Rti_at
attribute [local irreducible] Rg Rt Ro Ri Rc Rto Rtk Rtf Rti Rw Rl Rd Rcall Rtcall kf
theorem fn97 : nth C1.P.funcs.toList 97 = some Try.f97 := by kernel_rfl
theorem lessBytes_asymm : ∀ {p q : List UInt8}, lessBytes p q = true → lessBytes q p = false
  | [], [], h => by cases h
  | [], _ :: _, _ => rfl
  | _ :: _, [], h => by cases h
  | a :: p, b :: q, h => by
    simp only [lessBytes, Bool.or_eq_true, Bool.and_eq_true, decide_eq_true_eq, beq_iff_eq] at h
    simp only [lessBytes, Bool.or_eq_false_iff, Bool.and_eq_false_iff, decide_eq_false_iff_not, beq_eq_false_iff_ne]
    rcases h with h | ⟨h1, h2⟩
    · have h' := UInt8.lt_iff_toNat_lt.mp h
      refine ⟨fun k => ?_, .inl fun k => ?_⟩
      · have := UInt8.lt_iff_toNat_lt.mp k; omega
      · subst k; omega
    · subst h1
      refine ⟨fun k => ?_, .inr (lessBytes_asymm h2)⟩
      have := UInt8.lt_iff_toNat_lt.mp k; omega
theorem smB_asymm {p q : List UInt8} (h : smB p q = true) : smB q p = false := by
  simp only [smB, Bool.or_eq_true, Bool.and_eq_true, decide_eq_true_eq] at h
  simp only [smB, Bool.or_eq_false_iff, Bool.and_eq_false_iff, decide_eq_false_iff_not]
  rcases h with h | ⟨h1, h2⟩
  · exact ⟨by omega, .inl (by omega)⟩
  · exact ⟨by omega, .inr (lessBytes_asymm h2)⟩
theorem unsg_len (l : List UInt8) : (unsg l).length ≤ l.length := by
  unfold unsg; split <;> simp
theorem beq_ft : (false == true) = false := rfl
theorem beq_tf : (true == false) = false := rfl
theorem under4b : Try.prog.underlying 4 = some .bool := by kernel_rfl
theorem add_spec (a b : ByteArray) (ha : (strOf a).length ≤ 50000000) (hb : (strOf b).length ≤ 50000000) : PCall C1 97 [yd (.string a), yd (.string b)] fun y => ∃ (s : ByteArray) (ok : Bool), y = .tup [yd (.string s), yd (.bool ok)] := by
  refine Pf (by rfl) (by rfl) fn97 (by rfl) ?_
  simp only [Try.f97, List.length_cons, List.length_nil, List.replicate, List.cons_append, List.nil_append]
  simp -implicitDefEqProofs only [↓yP, yT, Nat.reduceAdd, Nat.reduceMul, Nat.reduceSub, Nat.reduceLeDiff, Nat.reduceEqDiff, reduceCtorEq, Nat.reduceBEq]
  refine Rcall_pure (rightDec_spec a (by omega)) (by rfl) fun y hy => ?_
  obtain ⟨r1, rfl, hr1⟩ := hy
  cases r1 with
  | false =>
    simp -implicitDefEqProofs only [↓yP, yT, Nat.reduceAdd, Nat.reduceMul, Nat.reduceSub, Nat.reduceLeDiff, Nat.reduceEqDiff, reduceCtorEq, Nat.reduceBEq]
    exact ⟨_, _, rfl⟩
  | true =>
  obtain ⟨an, aD, aZ⟩ := hr1 rfl
  simp -implicitDefEqProofs only [↓yP, yT, Nat.reduceAdd, Nat.reduceMul, Nat.reduceSub, Nat.reduceLeDiff, Nat.reduceEqDiff, reduceCtorEq, Nat.reduceBEq]
  refine Rcall_pure (rightDec_spec b (by omega)) (by rfl) fun y hy => ?_
  obtain ⟨r2, rfl, hr2⟩ := hy
  cases r2 with
  | false =>
    simp -implicitDefEqProofs only [↓yP, yT, Nat.reduceAdd, Nat.reduceMul, Nat.reduceSub, Nat.reduceLeDiff, Nat.reduceEqDiff, reduceCtorEq, Nat.reduceBEq]
    exact ⟨_, _, rfl⟩
  | true =>
  obtain ⟨bn, bD, bZ⟩ := hr2 rfl
  simp -implicitDefEqProofs only [↓yP, yT, Nat.reduceAdd, Nat.reduceMul, Nat.reduceSub, Nat.reduceLeDiff, Nat.reduceEqDiff, reduceCtorEq, Nat.reduceBEq]
  refine Rcall_pure (sign_spec a an) (by rfl) fun y hy => ?_
  obtain ⟨x, p, rfl, hp⟩ := hy
  simp -implicitDefEqProofs only [↓yP, yT, Nat.reduceAdd, Nat.reduceMul, Nat.reduceSub, Nat.reduceLeDiff, Nat.reduceEqDiff, reduceCtorEq, Nat.reduceBEq]
  refine Rcall_pure (sign_spec b bn) (by rfl) fun y hy => ?_
  obtain ⟨z, q, rfl, hq⟩ := hy
  rw [← hp] at aD aZ
  rw [← hq] at bD bZ
  have lp : (strOf p).length ≤ 50000000 := by rw [hp]; have := unsg_len (strOf a); omega
  have lq : (strOf q).length ≤ 50000000 := by rw [hq]; have := unsg_len (strOf b); omega
  cases x <;> cases z
  · simp -implicitDefEqProofs only [↓yP, yT, Nat.reduceAdd, Nat.reduceMul, Nat.reduceSub, Nat.reduceLeDiff, Nat.reduceEqDiff, reduceCtorEq, Nat.reduceBEq, under4b, beq_self_eq_true]
    refine Rcall_pure (reckonAdd_spec p q 50000000 lp lq (by omega)) (by rfl) fun y hy => ?_
    obtain ⟨s, rfl, hs⟩ := hy
    cases hq : (strOf s == strOf ⟨#[48]⟩) with
    | true =>
      simp -implicitDefEqProofs only [↓yP, yT, Nat.reduceAdd, Nat.reduceMul, Nat.reduceSub, Nat.reduceLeDiff, Nat.reduceEqDiff, reduceCtorEq, Nat.reduceBEq, xstr_neq, hq]
      exact ⟨_, _, rfl⟩
    | false =>
      have b1 : (strOf ⟨#[45]⟩).length + (strOf s).length ≤ 140737488355328 := by
        have : (strOf ⟨#[45]⟩).length = 1 := rfl
        omega
      simp -implicitDefEqProofs only [↓yP, yT, Nat.reduceAdd, Nat.reduceMul, Nat.reduceSub, Nat.reduceLeDiff, Nat.reduceEqDiff, reduceCtorEq, Nat.reduceBEq, xstr_neq, xstr_add, hq, b1]
      exact ⟨_, _, rfl⟩
  · simp -implicitDefEqProofs only [↓yP, yT, Nat.reduceAdd, Nat.reduceMul, Nat.reduceSub, Nat.reduceLeDiff, Nat.reduceEqDiff, reduceCtorEq, Nat.reduceBEq, under4b, beq_ft]
    refine Rcall_pure (smaller_spec p q) (by rfl) fun y hy => ?_
    subst hy
    cases hsm : smB (strOf p) (strOf q) with
    | true =>
      simp -implicitDefEqProofs only [↓yP, yT, Nat.reduceAdd, Nat.reduceMul, Nat.reduceSub, Nat.reduceLeDiff, Nat.reduceEqDiff, reduceCtorEq, Nat.reduceBEq]
      refine Rcall_pure (reckonSub_spec q p (by omega) bD aD bZ (smB_asymm hsm)) (by rfl) fun y hy => ?_
      obtain ⟨s, rfl, hs⟩ := hy
      cases hq : (strOf s == strOf ⟨#[48]⟩) with
      | true =>
        simp -implicitDefEqProofs only [↓yP, yT, Nat.reduceAdd, Nat.reduceMul, Nat.reduceSub, Nat.reduceLeDiff, Nat.reduceEqDiff, reduceCtorEq, Nat.reduceBEq, xstr_neq, hq]
        exact ⟨_, _, rfl⟩
      | false =>
        have b1 : (strOf ⟨#[45]⟩).length + (strOf s).length ≤ 140737488355328 := by
          have : (strOf ⟨#[45]⟩).length = 1 := rfl
          omega
        simp -implicitDefEqProofs only [↓yP, yT, Nat.reduceAdd, Nat.reduceMul, Nat.reduceSub, Nat.reduceLeDiff, Nat.reduceEqDiff, reduceCtorEq, Nat.reduceBEq, xstr_neq, xstr_add, hq, b1]
        exact ⟨_, _, rfl⟩
    | false =>
      simp -implicitDefEqProofs only [↓yP, yT, Nat.reduceAdd, Nat.reduceMul, Nat.reduceSub, Nat.reduceLeDiff, Nat.reduceEqDiff, reduceCtorEq, Nat.reduceBEq]
      refine Rcall_pure (reckonSub_spec p q (by omega) aD bD aZ hsm) (by rfl) fun y hy => ?_
      obtain ⟨s, rfl, hs⟩ := hy
      cases hq : (strOf s == strOf ⟨#[48]⟩) with
      | true =>
        simp -implicitDefEqProofs only [↓yP, yT, Nat.reduceAdd, Nat.reduceMul, Nat.reduceSub, Nat.reduceLeDiff, Nat.reduceEqDiff, reduceCtorEq, Nat.reduceBEq, xstr_neq, hq]
        exact ⟨_, _, rfl⟩
      | false =>
        have b1 : (strOf ⟨#[45]⟩).length + (strOf s).length ≤ 140737488355328 := by
          have : (strOf ⟨#[45]⟩).length = 1 := rfl
          omega
        simp -implicitDefEqProofs only [↓yP, yT, Nat.reduceAdd, Nat.reduceMul, Nat.reduceSub, Nat.reduceLeDiff, Nat.reduceEqDiff, reduceCtorEq, Nat.reduceBEq, xstr_neq, xstr_add, hq, b1]
        exact ⟨_, _, rfl⟩
  · simp -implicitDefEqProofs only [↓yP, yT, Nat.reduceAdd, Nat.reduceMul, Nat.reduceSub, Nat.reduceLeDiff, Nat.reduceEqDiff, reduceCtorEq, Nat.reduceBEq, under4b, beq_tf]
    refine Rcall_pure (smaller_spec p q) (by rfl) fun y hy => ?_
    subst hy
    cases hsm : smB (strOf p) (strOf q) with
    | true =>
      simp -implicitDefEqProofs only [↓yP, yT, Nat.reduceAdd, Nat.reduceMul, Nat.reduceSub, Nat.reduceLeDiff, Nat.reduceEqDiff, reduceCtorEq, Nat.reduceBEq]
      refine Rcall_pure (reckonSub_spec q p (by omega) bD aD bZ (smB_asymm hsm)) (by rfl) fun y hy => ?_
      obtain ⟨s, rfl, hs⟩ := hy
      cases hq : (strOf s == strOf ⟨#[48]⟩) with
      | true =>
        simp -implicitDefEqProofs only [↓yP, yT, Nat.reduceAdd, Nat.reduceMul, Nat.reduceSub, Nat.reduceLeDiff, Nat.reduceEqDiff, reduceCtorEq, Nat.reduceBEq, xstr_neq, hq]
        exact ⟨_, _, rfl⟩
      | false =>
        have b1 : (strOf ⟨#[45]⟩).length + (strOf s).length ≤ 140737488355328 := by
          have : (strOf ⟨#[45]⟩).length = 1 := rfl
          omega
        simp -implicitDefEqProofs only [↓yP, yT, Nat.reduceAdd, Nat.reduceMul, Nat.reduceSub, Nat.reduceLeDiff, Nat.reduceEqDiff, reduceCtorEq, Nat.reduceBEq, xstr_neq, xstr_add, hq, b1]
        exact ⟨_, _, rfl⟩
    | false =>
      simp -implicitDefEqProofs only [↓yP, yT, Nat.reduceAdd, Nat.reduceMul, Nat.reduceSub, Nat.reduceLeDiff, Nat.reduceEqDiff, reduceCtorEq, Nat.reduceBEq]
      refine Rcall_pure (reckonSub_spec p q (by omega) aD bD aZ hsm) (by rfl) fun y hy => ?_
      obtain ⟨s, rfl, hs⟩ := hy
      cases hq : (strOf s == strOf ⟨#[48]⟩) with
      | true =>
        simp -implicitDefEqProofs only [↓yP, yT, Nat.reduceAdd, Nat.reduceMul, Nat.reduceSub, Nat.reduceLeDiff, Nat.reduceEqDiff, reduceCtorEq, Nat.reduceBEq, xstr_neq, hq]
        exact ⟨_, _, rfl⟩
      | false =>
        have b1 : (strOf ⟨#[45]⟩).length + (strOf s).length ≤ 140737488355328 := by
          have : (strOf ⟨#[45]⟩).length = 1 := rfl
          omega
        simp -implicitDefEqProofs only [↓yP, yT, Nat.reduceAdd, Nat.reduceMul, Nat.reduceSub, Nat.reduceLeDiff, Nat.reduceEqDiff, reduceCtorEq, Nat.reduceBEq, xstr_neq, xstr_add, hq, b1]
        exact ⟨_, _, rfl⟩
  · simp -implicitDefEqProofs only [↓yP, yT, Nat.reduceAdd, Nat.reduceMul, Nat.reduceSub, Nat.reduceLeDiff, Nat.reduceEqDiff, reduceCtorEq, Nat.reduceBEq, under4b, beq_self_eq_true]
    refine Rcall_pure (reckonAdd_spec p q 50000000 lp lq (by omega)) (by rfl) fun y hy => ?_
    obtain ⟨s, rfl, hs⟩ := hy
    cases hq : (strOf s == strOf ⟨#[48]⟩) with
    | true =>
      simp -implicitDefEqProofs only [↓yP, yT, Nat.reduceAdd, Nat.reduceMul, Nat.reduceSub, Nat.reduceLeDiff, Nat.reduceEqDiff, reduceCtorEq, Nat.reduceBEq, xstr_neq, hq]
      exact ⟨_, _, rfl⟩
    | false =>
      have b1 : (strOf ⟨#[45]⟩).length + (strOf s).length ≤ 140737488355328 := by
        have : (strOf ⟨#[45]⟩).length = 1 := rfl
        omega
      simp -implicitDefEqProofs only [↓yP, yT, Nat.reduceAdd, Nat.reduceMul, Nat.reduceSub, Nat.reduceLeDiff, Nat.reduceEqDiff, reduceCtorEq, Nat.reduceBEq, xstr_neq, xstr_add, hq, b1]
      exact ⟨_, _, rfl⟩
end Go.Vx.Seat
end
