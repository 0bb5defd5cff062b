/- Texts joined: VyW1 VyW3 VyN5 VyLj VyLk VyLl VyLm VyLn VyLo VyM6 VyM7 VyN6 VyC7 VyC8. -/
import Derived.Test.YtbndpenalacjaaaVm39
import Derived.Test.YtbndpenalacjaaaVm38
import Derived.Test.YtbndpenalacjaaaVyFrame
set_option linter.unusedSimpArgs false
set_option linter.unusedVariables false
section
open Go Go.Vx Go.Proofs
set_option maxRecDepth 10000
set_option maxHeartbeats 4000000
namespace Go.Vx.Seat
attribute [local irreducible] Rg Rt Ro Ri Rc Rto Rtk Rtf Rti Rw Rl Rd Rcall Rtcall kf
theorem fn31 : nth C1.P.funcs.toList 31 = some Try.f31 := by kernel_rfl
theorem beforeN_spec (l : List Tok) (cs : List Int) : PCall C1 50 [.c (.p (rT l)), .c (.p (rI cs)), yd (.int .i64 (-1))] fun y => y = yd (.bool true) := by
  have t0 : leI 0 (-1) = false := rfl
  refine Pf (by rfl) (by rfl) fn50 (by rfl) ?_
  simp only [Try.f50, List.length_cons, List.length_nil, List.replicate, List.cons_append, List.nil_append]
  simp -implicitDefEqProofs only [↓yP, yT, reduceCtorEq, t0]
def valueD (ts : List Tok) : List Tok := valF ts (colonsTo ts ts.length) 0
theorem valueX_spec (l : List Tok) (hl : l.length ≤ 900000) (htx : ∀ t, t ∈ l → (strOf t.text).length ≤ 100000000) : PCall C1 31 [.c (.p (rT l))] fun y => y = .c (.p (rT (valueD l))) := by
  have hcl := colonsTo_length l l.length
  unfold valueD
  generalize hcols : colonsTo l l.length = cols at hcl
  refine Pf (by rfl) (by rfl) fn31 (by rfl) ?_
  simp only [Try.f31, List.length_cons, List.length_nil, List.replicate, List.cons_append, List.nil_append]
  simp -implicitDefEqProofs only [↓yP, yT]
  refine Rcall_pure (colons_spec l (by omega)) (by rfl) fun y hy => ?_
  subst hy
  rw [hcols]
  simp -implicitDefEqProofs only [↓yP, yT]
  refine Rl_nil 4 13 (by decide) rfl ?_
  refine Rl_inv (fun d e s => ∃ (i : Nat) (out : List Tok) (la : Int), e = ([.c (.p (rT l)), Tp, Tp, .c (.p (rI cols)), .c (.own 0 13 0 out.length), yd (.int .i64 la), yd (.int .i64 (i : Nat)), Tp, Tp, Tp, Tp, Tp, Tp, Tp, Tp, Tp, Tp, Tp, Tp, Tp, Tp, Tp, Tp, Tp, Tp, Tp, Tp, Tp, Tp, Tp, Tp, Tp, Tp, Tp, Tp, Tp, Tp, Tp, Tp, Tp, Tp, Tp, Tp, Tp, Tp, Tp, Tp, Tp, Tp, Tp, Tp, Tp, Tp, Tp, Tp, Tp, Tp, Tp, Tp, Tp, Tp, Tp, Tp, Tp, Tp, Tp, Tp, Tp, Tp, Tp, Tp, Tp, Tp, Tp, Tp, Tp, Tp, Tp, Tp, Tp, Tp, Tp, Tp, Tp, Tp, Tp, Tp, Tp, Tp, Tp, Tp, Tp, Tp, Tp, Tp, Tp, Tp, Tp, Tp, Tp, Tp, Tp, Tp, Tp, Tp, Tp, Tp, Tp, Tp, Tp, Tp, Tp, Tp, Tp, Tp, Tp, Tp, Tp, Tp, Tp, Tp, Tp, Tp, Tp, Tp, Tp, Tp, Tp, Tp, Tp, Tp, Tp, Tp, Tp, Tp, Tp, Tp]) ∧ s = [.row 13 (out.map Tok.pc)] ∧ i + d = l.length ∧ (la = (i : Int) - 1 ∨ ∀ t, l[i]? = some t → quiet t.kind = false) ∧ i ≤ l.length ∧ out.length ≤ i ∧ out ++ valF l cols i = valF l cols 0)
    [true, false, false, true, true, true, true] l.length [0] (by decide) (pinned_zero _) ⟨0, [], -1, by (simp only [yE]; try rfl), by (simp only [yE]; try rfl), by omega, .inl (by omega), by omega, by simp, by simp⟩ ?_
  rintro d e s ⟨i, out, la, rfl, rfl, hd, hla, hil, hol, hval⟩
  by_cases hi : i < l.length
  · obtain ⟨t, ht⟩ := get_lt hi
    have t1 : leI (l.length : Nat) (i : Nat) = false := leI_false (by omega)
    have w1 : wrapK .i64 ((i : Int) + 1) = ((i + 1 : Nat) : Int) := wrap_succ (by omega)
    have b1 : (out.length + 1) * 128 ≤ 70368744177664 := bytes_le _ 1 (by omega) (by omega)
    simp -implicitDefEqProofs only [↓yP, yT, Nat.reduceAdd, reduceCtorEq, t1, get_map ht, Tok.pc]
    refine Rcall_pure (quiet_spec t) (by rfl) fun y hy => ?_
    subst hy
    cases hqt : quiet t.kind with
    | false =>
      rw [valF_one ht hqt] at hval
      simp -implicitDefEqProofs only [↓yP, yT, Nat.reduceAdd, Nat.reduceMul, Nat.reduceLeDiff, reduceCtorEq, get_map ht, Tok.pc, b1, w1]
      refine ⟨d - 1, [2], by omega, by decide, pinned_zero _, i + 1, out ++ [t], (i : Nat), by (simp only [yE]; try rfl), ?_, by omega, .inl (by omega), by omega, by simp; omega, by rw [List.append_assoc]; exact hval⟩
      simp only [yE, List.map_append]; rfl
    | true =>
      have hla : la = (i : Int) - 1 := by
        rcases hla with h | h
        · exact h
        · rw [h t ht] at hqt; cases hqt
      simp -implicitDefEqProofs only [↓yP, yT]
      refine Rl_nil 9 13 (by decide) rfl ?_
      refine Rl_inv (fun d' e s => ∃ (m : Nat), e = ([.c (.p (rT l)), Tp, Tp, .c (.p (rI cols)), .c (.own 0 13 0 out.length), yd (.int .i64 la), Tp, yd (.int .i64 ((i + m : Nat) : Int)), yd (.int .i64 (encS (spaceN l i m))), .c (.own 1 13 0 (keptN l i m).length), Tp, Tp, Tp, Tp, Tp, Tp, Tp, Tp, Tp, Tp, Tp, Tp, Tp, Tp, Tp, Tp, Tp, Tp, Tp, Tp, Tp, Tp, Tp, Tp, Tp, Tp, Tp, Tp, Tp, Tp, Tp, Tp, Tp, Tp, Tp, Tp, Tp, Tp, Tp, Tp, Tp, Tp, Tp, Tp, Tp, Tp, Tp, Tp, Tp, Tp, Tp, Tp, Tp, Tp, Tp, Tp, Tp, Tp, Tp, Tp, Tp, Tp, Tp, Tp, Tp, Tp, Tp, Tp, Tp, Tp, Tp, Tp, Tp, Tp, Tp, Tp, Tp, Tp, Tp, Tp, Tp, Tp, Tp, Tp, Tp, Tp, Tp, Tp, Tp, Tp, Tp, Tp, Tp, Tp, Tp, Tp, Tp, Tp, Tp, Tp, Tp, Tp, Tp, Tp, Tp, Tp, Tp, Tp, Tp, Tp, Tp, Tp, Tp, Tp, Tp, Tp, Tp, Tp, Tp, Tp, Tp, Tp, Tp, Tp, Tp, Tp, Tp]) ∧ s = [.row 13 (out.map Tok.pc), .row 13 ((keptN l i m).map Tok.pc)] ∧ i + m + d' = l.length ∧ ∀ j, j < m → quiet (kindAt l (i + j)) = true)
        [true, false, false, true, true, true, false, true, true, true] (l.length - i) [0, 1] (by decide) (pinned_zero _) ⟨0, by (simp only [yE]; try rfl), by (simp only [yE]; try rfl), by omega, fun j hj => absurd hj (Nat.not_lt_zero j)⟩ ?_
      rintro d' e s ⟨m, rfl, rfl, hd', hq⟩
      by_cases hk : i + m < l.length
      · obtain ⟨u, hu⟩ := get_lt hk
        have hks1 : keptN l i (m + 1) = keptN l i m ++ (if kp u then [u] else []) := by rw [keptN, hu]
        have hsp1 : spaceN l i (m + 1) = (match spaceN l i m with | some k => some k | none => if eqI u.kind 13 then some (i + m) else none) := by rw [spaceN, hu]; cases spaceN l i m <;> rfl
        have t2 : leI (l.length : Nat) ((i + m : Nat) : Int) = false := leI_false (by omega)
        have v1 : wrapK .i64 (((i + m : Nat) : Int) + 1) = ((i + m + 1 : Nat) : Int) := wrap_succ (by omega)
        have hkl1 := kept_le l i m
        have kb1 : ((keptN l i m).length + 1) * 128 ≤ 70368744177664 := bytes_le _ 1 (by omega) (by omega)
        simp -implicitDefEqProofs only [↓yP, yT, Nat.reduceAdd, reduceCtorEq, t2, get_map hu, Tok.pc]
        refine Rcall_pure (quiet_spec u) (by rfl) fun y hy => ?_
        subst hy
        cases hqu : quiet u.kind with
        | true =>
          have hqn : ∀ j, j < m + 1 → quiet (kindAt l (i + j)) = true := fun j hj => by
            by_cases e : j = m
            · subst e; rw [kindAt_some hu]; exact hqu
            · exact hq j (by omega)
          cases q1 : eqI u.kind 13 with
          | true =>
            have q2 : eqI u.kind 25 = false := eqI_false (by have : u.kind = 13 := by rw [eqI_eq, decide_eq_true_eq] at q1; exact q1
                                                             omega)
            have hkp : kp u = false := by rw [kp, q2]; rfl
            rw [hkp] at hks1
            rw [q1] at hsp1
            simp only [Bool.false_eq_true, if_false, List.append_nil] at hks1
            cases hsn : spaceN l i m with
            | none =>
              rw [hsn] at hsp1
              have s0 : leI 0 (-1) = false := rfl
              simp only [encS]
              simp -implicitDefEqProofs only [↓yP, yT, Nat.reduceAdd, reduceCtorEq, get_map hu, Tok.pc, q1, q2, s0, v1]
              refine ⟨d' - 1, [0, 1], by omega, by decide, pinned_zero _, m + 1, ?_, ?_, by omega, hqn⟩
              · simp only [hks1, hsp1, if_true]; (simp only [yE, reduceCtorEq]; try rfl)
              · simp only [hks1]; (simp only [yE]; try rfl)
            | some n =>
              rw [hsn] at hsp1
              have s0 : leI 0 ((n : Nat) : Int) = true := leI_true (by omega)
              simp only [encS]
              simp -implicitDefEqProofs only [↓yP, yT, Nat.reduceAdd, reduceCtorEq, get_map hu, Tok.pc, q1, q2, s0, v1]
              refine ⟨d' - 1, [0, 1], by omega, by decide, pinned_zero _, m + 1, ?_, ?_, by omega, hqn⟩
              · simp only [hks1, hsp1]; (simp only [yE, reduceCtorEq]; try rfl)
              · simp only [hks1]; (simp only [yE]; try rfl)
          | false =>
            rw [q1] at hsp1
            have hsp2 : spaceN l i (m + 1) = spaceN l i m := by rw [hsp1]; cases spaceN l i m <;> rfl
            cases q2 : eqI u.kind 25 with
            | true =>
              simp -implicitDefEqProofs only [↓yP, yT, Nat.reduceAdd, Nat.reduceLeDiff, reduceCtorEq, get_map hu, Tok.pc, q1, q2]
              refine Rcall_pure (keepsR_spec u.text (htx u (List.mem_of_getElem? hu))) (by rfl) fun y hy => ?_
              subst hy
              cases hkb : keepB u.text with
              | true =>
                have hkp : kp u = true := by rw [kp, q2, hkb]; rfl
                rw [hkp] at hks1
                simp only [if_true] at hks1
                simp -implicitDefEqProofs only [↓yP, yT, Nat.reduceAdd, Nat.reduceMul, Nat.reduceLeDiff, reduceCtorEq, get_map hu, Tok.pc, kb1, v1]
                refine ⟨d' - 1, [0, 3], by omega, by decide, pinned_zero _, m + 1, ?_, ?_, by omega, hqn⟩
                · simp only [hks1, hsp2, List.length_append, List.length_cons, List.length_nil]; (simp only [yE, reduceCtorEq]; try rfl)
                · simp only [hks1, List.map_append, List.map_cons, List.map_nil]; (simp only [yE]; try rfl)
              | false =>
                have hkp : kp u = false := by rw [kp, q2, hkb]; rfl
                rw [hkp] at hks1
                simp only [Bool.false_eq_true, if_false, List.append_nil] at hks1
                simp -implicitDefEqProofs only [↓yP, yT, v1]
                refine ⟨d' - 1, [0, 1], by omega, by decide, pinned_zero _, m + 1, ?_, ?_, by omega, hqn⟩
                · simp only [hks1, hsp2]; (simp only [yE, reduceCtorEq]; try rfl)
                · simp only [hks1]; (simp only [yE]; try rfl)
            | false =>
              have hkp : kp u = false := by rw [kp, q2]; rfl
              rw [hkp] at hks1
              simp only [Bool.false_eq_true, if_false, List.append_nil] at hks1
              simp -implicitDefEqProofs only [↓yP, yT, Nat.reduceAdd, reduceCtorEq, get_map hu, Tok.pc, q1, q2, v1]
              refine ⟨d' - 1, [0, 1], by omega, by decide, pinned_zero _, m + 1, ?_, ?_, by omega, hqn⟩
              · simp only [hks1, hsp2]; (simp only [yE, reduceCtorEq]; try rfl)
              · simp only [hks1]; (simp only [yE]; try rfl)
        | false =>
          have hm0 : 0 < m := by
            rcases Nat.eq_zero_or_pos m with h | h
            · subst h; rw [Nat.add_zero] at hu; rw [ht] at hu; cases hu; rw [hqt] at hqu; cases hqu
            · exact h
          have hend : i + m = l.length ∨ quiet (kindAt l (i + m)) = false := .inr (by rw [kindAt_some hu]; exact hqu)
          simp -implicitDefEqProofs only [↓yP, yT, Nat.reduceAdd, Nat.reduceLeDiff, reduceCtorEq]
          have hrun := valF_run (cols := cols) (ts := l) (i := i) (m := m) hm0 (by omega) hq hend
          have hkl := kept_length l i m
          have hkl1 := kept_le l i m
          have hlaN : la = ((i + m : Nat) : Int) - 1 ∨ ∀ t, l[i + m]? = some t → quiet t.kind = false := .inr fun u hu => by
            rcases hend with h | h
            · rw [List.getElem?_eq_none (by omega)] at hu; cases hu
            · rw [kindAt_some hu] at h; exact h
          have vb1 : (out.length + (keptN l i m).length) * 128 ≤ 70368744177664 := bytes_le _ _ (by omega) (by omega)
          cases hsn : spaceN l i m with
          | none =>
            rw [hsn] at hkl
            simp only at hkl
            have hro : runOut l cols i (i + m) = keptN l i m := by rw [runOut, Nat.add_sub_cancel_left, hsn]
            have s0 : leI 0 (-1) = false := rfl
            simp only [encS]
            simp -implicitDefEqProofs only [↓yP, yT, Nat.reduceAdd, reduceCtorEq, s0, vb1]
            refine ⟨l.length - (i + m), [3], by omega, by decide, pinned_zero _, i + m, out ++ keptN l (i) m, la, by (simp only [yE]; try rfl), ?_, by omega, hlaN, by omega, by simp; omega, ?_⟩
            · simp only [yE, List.map_append]; try rfl
            · rw [List.append_assoc, ← hro, ← hrun]; exact hval
          | some n =>
            rw [hsn] at hkl
            simp only at hkl
            obtain ⟨n1, n2, n3, n4⟩ := space_lt hsn
            have s0 : leI 0 ((n : Nat) : Int) = true := leI_true (by omega)
            obtain ⟨tn, htn⟩ := get_lt n3
            have hfr : fromAt l n = tn.start := by rw [fromAt, htn]
            have vb2 : (out.length + 1) * 128 ≤ 70368744177664 := bytes_le _ 1 (by omega) (by omega)
            have vb3 : (out.length + 1 + (keptN l i m).length) * 128 ≤ 70368744177664 := bytes_le _ _ (by omega) (by omega)
            have vb4 : (out.length + (keptN l i m).length + 1) * 128 ≤ 70368744177664 := bytes_le _ 1 (by omega) (by omega)
            simp only [encS]
            cases i with
            | zero =>
              obtain rfl : la = -1 := by rw [hla]; rfl
              have s1 : leI 0 (-1) = false := rfl
              have hro : runOut l cols 0 (0 + m) = keptN l 0 m := by rw [runOut, Nat.add_sub_cancel_left, hsn]; rfl
              simp -implicitDefEqProofs only [↓yP, yT, Nat.reduceAdd, Nat.reduceLeDiff, reduceCtorEq, s0, s1, get_map htn, Tok.pc]
              refine Rcall_pure (beforeN_spec l cols) (by rfl) fun y hy => ?_
              subst hy
              simp -implicitDefEqProofs only [↓yP, yT, Nat.reduceAdd, reduceCtorEq, vb1]
              refine ⟨l.length - (0 + m), [3], by omega, by decide, pinned_zero _, 0 + m, out ++ keptN l (0) m, -1, by (simp only [yE]; try rfl), ?_, by omega, hlaN, by omega, by simp; omega, ?_⟩
              · simp only [yE, List.map_append]; try rfl
              · rw [List.append_assoc, ← hro, ← hrun]; exact hval
            | succ j =>
              obtain rfl : la = ((j : Nat) : Int) := by rw [hla]; omega
              have s1 : leI 0 ((j : Nat) : Int) = true := leI_true (by omega)
              obtain ⟨tj, htj⟩ := get_lt (l := l) (i := j) (by omega)
              simp -implicitDefEqProofs only [↓yP, yT, Nat.reduceAdd, Nat.reduceLeDiff, reduceCtorEq, s0, s1, get_map htn, get_map htj, Tok.pc]
              refine Rcall_pure (lineX_spec tj) (by rfl) fun y hy => ?_
              subst hy
              cases hlb : lineB tj with
              | true =>
                have hro : runOut l cols (j + 1) (j + 1 + m) = blankTok ⟨#[10]⟩ tn.start :: keptN l (j + 1) m := by rw [runOut, Nat.add_sub_cancel_left, hsn]; simp only [lineAt, htj, hlb, if_true, hfr]
                simp -implicitDefEqProofs only [↓yP, yT, Nat.reduceAdd, Nat.reduceMul, Nat.reduceLeDiff, reduceCtorEq, vb2, vb3]
                refine ⟨l.length - (j + 1 + m), [5], by omega, by decide, pinned_zero _, j + 1 + m, out ++ [blankTok ⟨#[10]⟩ tn.start] ++ keptN l (j + 1) m, ((j : Nat) : Int), by (simp only [yE]; try rfl), ?_, by omega, hlaN, by omega, by simp; omega, ?_⟩
                · simp only [yE, List.map_append, List.append_assoc, List.cons_append, List.nil_append]; try rfl
                · rw [show out ++ [blankTok ⟨#[10]⟩ tn.start] ++ keptN l (j + 1) m = out ++ (blankTok ⟨#[10]⟩ tn.start :: keptN l (j + 1) m) by simp, List.append_assoc, ← hro, ← hrun]; exact hval
              | false =>
                have hln : lineAt l (j + 1) = false := by simp only [lineAt, htj, hlb]
                simp -implicitDefEqProofs only [↓yP, yT, s0]
                refine Rcall_pure (beforeX_spec l cols j (by omega) (by omega)) (by rfl) fun y hy => ?_
                subst hy
                cases hg1 : befB l cols j with
                | true =>
                  have hro : runOut l cols (j + 1) (j + 1 + m) = keptN l (j + 1) m := by rw [runOut, Nat.add_sub_cancel_left, hsn]; simp only [hln, goBef, hg1, Bool.true_or, if_true, Bool.false_eq_true, if_false]
                  simp -implicitDefEqProofs only [↓yP, yT, Nat.reduceAdd, reduceCtorEq, vb1]
                  refine ⟨l.length - (j + 1 + m), [3], by omega, by decide, pinned_zero _, j + 1 + m, out ++ keptN l (j + 1) m, ((j : Nat) : Int), by (simp only [yE]; try rfl), ?_, by omega, hlaN, by omega, by simp; omega, ?_⟩
                  · simp only [yE, List.map_append]; try rfl
                  · rw [List.append_assoc, ← hro, ← hrun]; exact hval
                | false =>
                  simp -implicitDefEqProofs only [yT]
                  refine Rcall_pure (afterX_spec l cols (j + 1 + m) (by omega)) (by rfl) fun y hy => ?_
                  subst hy
                  cases hga : aftB l cols (j + 1 + m) with
                  | true =>
                    have hro : runOut l cols (j + 1) (j + 1 + m) = keptN l (j + 1) m := by rw [runOut, Nat.add_sub_cancel_left, hsn]; simp only [hln, goBef, hg1, hga, Bool.or_true, if_true, Bool.false_eq_true, if_false]
                    simp -implicitDefEqProofs only [↓yP, yT, Nat.reduceAdd, reduceCtorEq, vb1]
                    refine ⟨l.length - (j + 1 + m), [3], by omega, by decide, pinned_zero _, j + 1 + m, out ++ keptN l (j + 1) m, ((j : Nat) : Int), by (simp only [yE]; try rfl), ?_, by omega, hlaN, by omega, by simp; omega, ?_⟩
                    · simp only [yE, List.map_append]; try rfl
                    · rw [List.append_assoc, ← hro, ← hrun]; exact hval
                  | false =>
                    have hro : runOut l cols (j + 1) (j + 1 + m) = keptN l (j + 1) m ++ [blankTok ⟨#[32]⟩ tn.start] := by rw [runOut, Nat.add_sub_cancel_left, hsn]; simp only [hln, goBef, hg1, hga, Bool.or_self, hfr, Bool.false_eq_true, if_false]
                    simp -implicitDefEqProofs only [↓yP, yT]
                    refine Rd_trace ?_
                    have tk1 : (out.map Tok.pc ++ (keptN l (j + 1) m).map Tok.pc).length = out.length + (keptN l (j + 1) m).length := by simp
                    have tk2 : (out.map Tok.pc ++ (keptN l (j + 1) m).map Tok.pc).take (out.length + (keptN l (j + 1) m).length) = out.map Tok.pc ++ (keptN l (j + 1) m).map Tok.pc := List.take_of_length_le (by simp)
                    simp -implicitDefEqProofs only [↓yP, yT, Nat.reduceAdd, Nat.reduceMul, Nat.reduceLeDiff, reduceCtorEq, vb1, vb4, tk1, tk2]
                    refine ⟨l.length - (j + 1 + m), [5], by omega, by decide, pinned_zero _, j + 1 + m, out ++ (keptN l (j + 1) m ++ [blankTok ⟨#[32]⟩ tn.start]), ((j : Nat) : Int), by (simp only [yE]; try rfl), ?_, by omega, hlaN, by omega, by simp; omega, ?_⟩
                    · simp only [yE, List.map_append, List.append_assoc]; try rfl
                    · rw [List.append_assoc, ← hro, ← hrun]; exact hval
      · have t2 : leI (l.length : Nat) ((i + m : Nat) : Int) = true := leI_true (by omega)
        have hm0 : 0 < m := by omega
        have hend : i + m = l.length ∨ quiet (kindAt l (i + m)) = false := .inl (by omega)
        simp -implicitDefEqProofs only [↓yP, yT, Nat.reduceAdd, Nat.reduceLeDiff, reduceCtorEq, t2]
        have hrun := valF_run (cols := cols) (ts := l) (i := i) (m := m) hm0 (by omega) hq hend
        have hkl := kept_length l i m
        have hkl1 := kept_le l i m
        have hlaN : la = ((i + m : Nat) : Int) - 1 ∨ ∀ t, l[i + m]? = some t → quiet t.kind = false := .inr fun u hu => by
          rcases hend with h | h
          · rw [List.getElem?_eq_none (by omega)] at hu; cases hu
          · rw [kindAt_some hu] at h; exact h
        have vb1 : (out.length + (keptN l i m).length) * 128 ≤ 70368744177664 := bytes_le _ _ (by omega) (by omega)
        cases hsn : spaceN l i m with
        | none =>
          rw [hsn] at hkl
          simp only at hkl
          have hro : runOut l cols i (i + m) = keptN l i m := by rw [runOut, Nat.add_sub_cancel_left, hsn]
          have s0 : leI 0 (-1) = false := rfl
          simp only [encS]
          simp -implicitDefEqProofs only [↓yP, yT, Nat.reduceAdd, reduceCtorEq, s0, vb1]
          refine ⟨l.length - (i + m), [3], by omega, by decide, pinned_zero _, i + m, out ++ keptN l (i) m, la, by (simp only [yE]; try rfl), ?_, by omega, hlaN, by omega, by simp; omega, ?_⟩
          · simp only [yE, List.map_append]; try rfl
          · rw [List.append_assoc, ← hro, ← hrun]; exact hval
        | some n =>
          rw [hsn] at hkl
          simp only at hkl
          obtain ⟨n1, n2, n3, n4⟩ := space_lt hsn
          have s0 : leI 0 ((n : Nat) : Int) = true := leI_true (by omega)
          obtain ⟨tn, htn⟩ := get_lt n3
          have hfr : fromAt l n = tn.start := by rw [fromAt, htn]
          have vb2 : (out.length + 1) * 128 ≤ 70368744177664 := bytes_le _ 1 (by omega) (by omega)
          have vb3 : (out.length + 1 + (keptN l i m).length) * 128 ≤ 70368744177664 := bytes_le _ _ (by omega) (by omega)
          have vb4 : (out.length + (keptN l i m).length + 1) * 128 ≤ 70368744177664 := bytes_le _ 1 (by omega) (by omega)
          simp only [encS]
          cases i with
          | zero =>
            obtain rfl : la = -1 := by rw [hla]; rfl
            have s1 : leI 0 (-1) = false := rfl
            have hro : runOut l cols 0 (0 + m) = keptN l 0 m := by rw [runOut, Nat.add_sub_cancel_left, hsn]; rfl
            simp -implicitDefEqProofs only [↓yP, yT, Nat.reduceAdd, Nat.reduceLeDiff, reduceCtorEq, s0, s1, get_map htn, Tok.pc]
            refine Rcall_pure (beforeN_spec l cols) (by rfl) fun y hy => ?_
            subst hy
            simp -implicitDefEqProofs only [↓yP, yT, Nat.reduceAdd, reduceCtorEq, vb1]
            refine ⟨l.length - (0 + m), [3], by omega, by decide, pinned_zero _, 0 + m, out ++ keptN l (0) m, -1, by (simp only [yE]; try rfl), ?_, by omega, hlaN, by omega, by simp; omega, ?_⟩
            · simp only [yE, List.map_append]; try rfl
            · rw [List.append_assoc, ← hro, ← hrun]; exact hval
          | succ j =>
            obtain rfl : la = ((j : Nat) : Int) := by rw [hla]; omega
            have s1 : leI 0 ((j : Nat) : Int) = true := leI_true (by omega)
            obtain ⟨tj, htj⟩ := get_lt (l := l) (i := j) (by omega)
            simp -implicitDefEqProofs only [↓yP, yT, Nat.reduceAdd, Nat.reduceLeDiff, reduceCtorEq, s0, s1, get_map htn, get_map htj, Tok.pc]
            refine Rcall_pure (lineX_spec tj) (by rfl) fun y hy => ?_
            subst hy
            cases hlb : lineB tj with
            | true =>
              have hro : runOut l cols (j + 1) (j + 1 + m) = blankTok ⟨#[10]⟩ tn.start :: keptN l (j + 1) m := by rw [runOut, Nat.add_sub_cancel_left, hsn]; simp only [lineAt, htj, hlb, if_true, hfr]
              simp -implicitDefEqProofs only [↓yP, yT, Nat.reduceAdd, Nat.reduceMul, Nat.reduceLeDiff, reduceCtorEq, vb2, vb3]
              refine ⟨l.length - (j + 1 + m), [5], by omega, by decide, pinned_zero _, j + 1 + m, out ++ [blankTok ⟨#[10]⟩ tn.start] ++ keptN l (j + 1) m, ((j : Nat) : Int), by (simp only [yE]; try rfl), ?_, by omega, hlaN, by omega, by simp; omega, ?_⟩
              · simp only [yE, List.map_append, List.append_assoc, List.cons_append, List.nil_append]; try rfl
              · rw [show out ++ [blankTok ⟨#[10]⟩ tn.start] ++ keptN l (j + 1) m = out ++ (blankTok ⟨#[10]⟩ tn.start :: keptN l (j + 1) m) by simp, List.append_assoc, ← hro, ← hrun]; exact hval
            | false =>
              have hln : lineAt l (j + 1) = false := by simp only [lineAt, htj, hlb]
              simp -implicitDefEqProofs only [↓yP, yT, s0]
              refine Rcall_pure (beforeX_spec l cols j (by omega) (by omega)) (by rfl) fun y hy => ?_
              subst hy
              cases hg1 : befB l cols j with
              | true =>
                have hro : runOut l cols (j + 1) (j + 1 + m) = keptN l (j + 1) m := by rw [runOut, Nat.add_sub_cancel_left, hsn]; simp only [hln, goBef, hg1, Bool.true_or, if_true, Bool.false_eq_true, if_false]
                simp -implicitDefEqProofs only [↓yP, yT, Nat.reduceAdd, reduceCtorEq, vb1]
                refine ⟨l.length - (j + 1 + m), [3], by omega, by decide, pinned_zero _, j + 1 + m, out ++ keptN l (j + 1) m, ((j : Nat) : Int), by (simp only [yE]; try rfl), ?_, by omega, hlaN, by omega, by simp; omega, ?_⟩
                · simp only [yE, List.map_append]; try rfl
                · rw [List.append_assoc, ← hro, ← hrun]; exact hval
              | false =>
                simp -implicitDefEqProofs only [yT]
                refine Rcall_pure (afterX_spec l cols (j + 1 + m) (by omega)) (by rfl) fun y hy => ?_
                subst hy
                cases hga : aftB l cols (j + 1 + m) with
                | true =>
                  have hro : runOut l cols (j + 1) (j + 1 + m) = keptN l (j + 1) m := by rw [runOut, Nat.add_sub_cancel_left, hsn]; simp only [hln, goBef, hg1, hga, Bool.or_true, if_true, Bool.false_eq_true, if_false]
                  simp -implicitDefEqProofs only [↓yP, yT, Nat.reduceAdd, reduceCtorEq, vb1]
                  refine ⟨l.length - (j + 1 + m), [3], by omega, by decide, pinned_zero _, j + 1 + m, out ++ keptN l (j + 1) m, ((j : Nat) : Int), by (simp only [yE]; try rfl), ?_, by omega, hlaN, by omega, by simp; omega, ?_⟩
                  · simp only [yE, List.map_append]; try rfl
                  · rw [List.append_assoc, ← hro, ← hrun]; exact hval
                | false =>
                  have hro : runOut l cols (j + 1) (j + 1 + m) = keptN l (j + 1) m ++ [blankTok ⟨#[32]⟩ tn.start] := by rw [runOut, Nat.add_sub_cancel_left, hsn]; simp only [hln, goBef, hg1, hga, Bool.or_self, hfr, Bool.false_eq_true, if_false]
                  simp -implicitDefEqProofs only [↓yP, yT]
                  refine Rd_trace ?_
                  have tk1 : (out.map Tok.pc ++ (keptN l (j + 1) m).map Tok.pc).length = out.length + (keptN l (j + 1) m).length := by simp
                  have tk2 : (out.map Tok.pc ++ (keptN l (j + 1) m).map Tok.pc).take (out.length + (keptN l (j + 1) m).length) = out.map Tok.pc ++ (keptN l (j + 1) m).map Tok.pc := List.take_of_length_le (by simp)
                  simp -implicitDefEqProofs only [↓yP, yT, Nat.reduceAdd, Nat.reduceMul, Nat.reduceLeDiff, reduceCtorEq, vb1, vb4, tk1, tk2]
                  refine ⟨l.length - (j + 1 + m), [5], by omega, by decide, pinned_zero _, j + 1 + m, out ++ (keptN l (j + 1) m ++ [blankTok ⟨#[32]⟩ tn.start]), ((j : Nat) : Int), by (simp only [yE]; try rfl), ?_, by omega, hlaN, by omega, by simp; omega, ?_⟩
                  · simp only [yE, List.map_append, List.append_assoc]; try rfl
                  · rw [List.append_assoc, ← hro, ← hrun]; exact hval
  · have t1 : leI (l.length : Nat) (i : Nat) = true := leI_true (by omega)
    rw [valF_end (by omega), List.append_nil] at hval
    subst hval
    simp -implicitDefEqProofs only [↓yP, yT, reduceCtorEq, t1]
end Go.Vx.Seat
end
section
open Go Go.Vx Go.Proofs
namespace Go.Vx.Seat
theorem kept_eq (ts : List Tok) (i : Nat) : ∀ m, keptN ts i m = ((ts.drop i).take m).filter kp
  | 0 => by simp [keptN]
  | m + 1 => by
    rw [keptN, kept_eq ts i m, List.take_add_one, List.filter_append, List.getElem?_drop]
    congr 1
    cases h : ts[i + m]? with
    | none => simp
    | some t => by_cases hk : kp t <;> simp [hk]
theorem run_cut (l : List Tok) : ∃ run rest, l = run ++ rest ∧ (∀ t, t ∈ run → quiet t.kind = true) ∧ (∀ u r, rest = u :: r → quiet u.kind = false) :=
  ⟨l.takeWhile qt, l.dropWhile qt, (List.takeWhile_append_dropWhile).symm, fun t ht => by
    induction l with
    | nil => simp at ht
    | cons a l ih =>
      by_cases ha : qt a
      · rw [List.takeWhile_cons_of_pos ha] at ht
        rcases List.mem_cons.mp ht with rfl | ht
        · exact ha
        · exact ih ht
      · rw [List.takeWhile_cons_of_neg ha] at ht; simp at ht, fun u r he => by
    induction l with
    | nil => cases he
    | cons a l ih =>
      by_cases ha : qt a
      · rw [List.dropWhile_cons_of_pos ha] at he; exact ih he
      · rw [List.dropWhile_cons_of_neg ha] at he; cases he; simpa [qt] using ha⟩
theorem kp_q {t : Tok} (h : kp t = true) : quiet t.kind = true := by
  simp only [kp, Bool.and_eq_true, eqI_eq, decide_eq_true_eq] at h
  rw [h.1]; rfl
theorem kept_q (run : List Tok) : ∀ t, t ∈ run.filter kp → quiet t.kind = true := fun t ht => kp_q (List.mem_filter.mp ht).2
theorem out_q (pre run rest : List Tok) : ∀ t, t ∈ runR pre run rest → quiet t.kind = true := by
  intro t ht
  have h1 := kept_q run t
  unfold runR at ht
  split at ht
  · exact h1 ht
  · split at ht
    · rcases List.mem_cons.mp ht with rfl | ht
      · rfl
      · exact h1 ht
    · split at ht
      · exact h1 ht
      · rcases List.mem_append.mp ht with ht | ht
        · exact h1 ht
        · rw [List.mem_singleton.mp ht]; rfl
theorem filter_q {l : List Tok} (h : ∀ t, t ∈ l → quiet t.kind = true) : l.filter nqt = [] := by
  rw [List.filter_eq_nil_iff]; intro t ht; simp [nqt, h t ht]
theorem valL_nq : ∀ (n : Nat) (pre suf : List Tok), suf.length ≤ n → (valL pre suf).filter nqt = suf.filter nqt
  | n, pre, [], h => by rw [valL_nil]
  | 0, pre, t :: suf, h => by simp at h
  | n + 1, pre, t :: suf, h => by
    cases hq : quiet t.kind with
    | false =>
      rw [valL_one pre suf hq, List.filter_cons, List.filter_cons, valL_nq n _ suf (by simpa using h)]
    | true =>
      obtain ⟨run, rest, e, h1, h2⟩ := run_cut suf
      have e' : t :: suf = (t :: run) ++ rest := by rw [e]; rfl
      have hall : ∀ u, u ∈ t :: run → quiet u.kind = true := fun u hu => by rcases List.mem_cons.mp hu with rfl | hu; exact hq; exact h1 u hu
      rw [e', valL_run pre (by simp) hall h2, List.filter_append, List.filter_append, filter_q (out_q _ _ _), filter_q hall, valL_nq n _ rest (by rw [e] at h; simp at h ⊢; omega)]
theorem space_find (ts : List Tok) (i : Nat) : ∀ m, (match spaceN ts i m with | none => ((ts.drop i).take m).find? isSp = none | some n => ∃ t, ts[n]? = some t ∧ ((ts.drop i).take m).find? isSp = some t)
  | 0 => by simp [spaceN]
  | m + 1 => by
    have ih := space_find ts i m
    have hd : (ts.drop i).take (m + 1) = (ts.drop i).take m ++ (ts[i + m]?).toList := by rw [List.take_add_one, List.getElem?_drop]
    rw [spaceN, hd, List.find?_append]
    cases hs : spaceN ts i m with
    | some n =>
      rw [hs] at ih
      obtain ⟨t, h1, h2⟩ := ih
      simp only
      exact ⟨t, h1, by rw [h2]; rfl⟩
    | none =>
      rw [hs] at ih
      simp only at ih ⊢
      rw [ih]
      cases ht : ts[i + m]? with
      | none => simp
      | some t =>
        cases hk : eqI t.kind 13 with
        | true => simp [isSp, hk, ht]
        | false => simp [isSp, hk]
theorem line_take (ts : List Tok) : ∀ i, i ≤ ts.length → lineAt ts i = lineL (ts.take i)
  | 0, _ => rfl
  | i + 1, h => by
    obtain ⟨t, ht⟩ := get_lt (l := ts) (i := i) (by omega)
    rw [lineAt, lineL, List.take_add_one, ht]
    simp
theorem contains_colon {ts : List Tok} {j : Nat} (hj : j < ts.length) : (colonsP ts ts.length).contains ((j : Nat) : Int) = isColon ts j := by
  rw [Bool.eq_iff_iff, List.contains_iff_mem, colonsP, List.mem_map]
  constructor
  · rintro ⟨a, ha, e⟩
    have : a = j := by omega
    subst this
    exact (List.mem_filter.mp ha).2
  · intro h
    exact ⟨j, List.mem_filter.mpr ⟨by simpa using hj, h⟩, rfl⟩
theorem bef_take (ts : List Tok) : ∀ i, i ≤ ts.length → goBef ts (colonsP ts ts.length) i = goB (ts.take i) (ts.drop i)
  | 0, _ => rfl
  | i + 1, h => by
    obtain ⟨t, ht⟩ := get_lt (l := ts) (i := i) (by omega)
    have hd : (ts.take (i + 1)).dropLast = ts.take i := by rw [List.take_add_one, ht]; simp
    have hg : (ts.take (i + 1)).getLast? = some t := by rw [List.take_add_one, ht]; simp
    rw [goBef, befB, ht, goB, hg]
    simp only
    rw [contains_colon (by omega), colon_at ht, hd]
theorem aft_drop (ts : List Tok) (k : Nat) : aftB ts (colonsP ts ts.length) k = goA (ts.take k) (ts.drop k) := by
  cases hk : ts[k]? with
  | none => rw [aftB, hk, List.drop_eq_nil_of_le (by simpa using hk)]; rfl
  | some t => rw [aftB, hk, drop_at hk]; simp only [goA]; rw [contains_colon (List.getElem?_eq_some_iff.mp hk).1, colon_at hk]
theorem run_take (ts : List Tok) {i m : Nat} (h : i + m ≤ ts.length) : runOut ts (colonsP ts ts.length) i (i + m) = runR (ts.take i) ((ts.drop i).take m) (ts.drop (i + m)) := by
  have h1 := space_find ts i m
  have hta : ts.take i ++ (ts.drop i).take m = ts.take (i + m) := by rw [List.take_add]
  have htb : (ts.drop i).take m ++ ts.drop (i + m) = ts.drop i := by rw [← List.drop_drop, List.take_append_drop]
  rw [runOut, runR, Nat.add_sub_cancel_left, kept_eq]
  cases hs : spaceN ts i m with
  | none => rw [hs] at h1; rw [h1]
  | some n =>
    rw [hs] at h1
    obtain ⟨t, h2, h3⟩ := h1
    have hf : fromAt ts n = t.start := by rw [fromAt, h2]
    rw [h3]
    simp only [hf, line_take ts i (by omega), bef_take ts i (by omega), aft_drop ts (i + m), hta, htb]
theorem val_take (ts : List Tok) : ∀ (n i : Nat), ts.length - i ≤ n → valF ts (colonsP ts ts.length) i = valL (ts.take i) (ts.drop i)
  | 0, i, h => by rw [valF_end (by omega), List.drop_eq_nil_of_le (by omega), valL_nil]
  | n + 1, i, h => by
    by_cases hi : i < ts.length
    · obtain ⟨t, ht⟩ := get_lt hi
      have htk : ts.take (i + 1) = ts.take i ++ [t] := by rw [List.take_add_one, ht]; rfl
      cases hq : quiet t.kind with
      | false => rw [valF_one ht hq, drop_at ht, valL_one _ _ hq, val_take ts n (i + 1) (by omega), htk]
      | true =>
        obtain ⟨run, rest, e, h1, h2⟩ := run_cut (ts.drop i)
        have hrn : run ≠ [] := by
          intro hr; rw [hr, List.nil_append] at e
          have := h2 t (ts.drop (i + 1)) (by rw [← e, drop_at ht])
          rw [hq] at this; cases this
        have hm : 0 < run.length := List.length_pos_iff.mpr hrn
        have hlen : i + run.length + rest.length = ts.length := by
          have := congrArg List.length e
          simp at this; omega
        have hrun : (ts.drop i).take run.length = run := by rw [e]; simp
        have hrest : ts.drop (i + run.length) = rest := by rw [← List.drop_drop, e]; simp
        have hkq : ∀ j, j < run.length → quiet (kindAt ts (i + j)) = true := fun j hj => by
          obtain ⟨u, hu⟩ := get_lt hj
          have h3 : (ts.drop i)[j]? = some u := by rw [e, List.getElem?_append_left hj]; exact hu
          rw [List.getElem?_drop] at h3
          rw [kindAt_some h3]; exact h1 u (List.mem_of_getElem? hu)
        have hend : i + run.length = ts.length ∨ quiet (kindAt ts (i + run.length)) = false := by
          cases hre : rest with
          | nil => rw [hre] at hlen; exact .inl (by simpa using hlen)
          | cons u r =>
            right
            have h3 : ts[i + run.length]? = some u := by
              have : (ts.drop (i + run.length))[0]? = some u := by rw [hrest, hre]; rfl
              rw [List.getElem?_drop] at this; simpa using this
            rw [kindAt_some h3]; exact h2 u r hre
        rw [valF_run hm (by omega) hkq hend, val_take ts n _ (by omega), run_take ts (by omega), hrun, hrest, e, valL_run _ hrn h1 h2]
        congr 2
        rw [List.take_add, hrun]
    · rw [valF_end (by omega), List.drop_eq_nil_of_le (by omega), valL_nil]
theorem value_valL (ts : List Tok) : valueD ts = valL [] ts := by rw [valueD, ← colons_same, val_take ts ts.length 0 (by omega)]; rfl
end Go.Vx.Seat
end
section
open Go Go.Vx Go.Proofs
namespace Go.Vx.Seat
theorem strip_kind (t : Tok) : (strip t).kind = t.kind := rfl
theorem op_strip : ∀ (l : List Tok) (o : List Int), (l.map strip).foldl (fun o t => nestStep o t.kind) o = l.foldl (fun o t => nestStep o t.kind) o
  | [], o => rfl
  | t :: l, o => by rw [List.map_cons, List.foldl_cons, List.foldl_cons]; exact op_strip l _
theorem op_map (l : List Tok) : op (l.map strip) = op l := op_strip l []
theorem sn3_strip : ∀ (l : List Tok) (s : List Int × Nat × Bool), (l.map strip).foldl st3 s = l.foldl st3 s
  | [], s => rfl
  | t :: l, s => by rw [List.map_cons, List.foldl_cons, List.foldl_cons]; exact sn3_strip l _
theorem plainS_strip : ∀ (l : List Tok) (o : List Int) (D : Nat), plainS o D (l.map strip) = plainS o D l
  | [], o, D => rfl
  | t :: l, o, D => by rw [List.map_cons, plainS, plainS, strip_kind, plainS_strip l]
theorem colAt_strip (pre : List Tok) (t : Tok) (post : List Tok) : colAt (pre.map strip) (strip t) (post.map strip) = colAt pre t post := by
  rw [colAt, colAt, op_map, show sn3 (pre.map strip) = sn3 pre from sn3_strip pre _, plainS_strip]; rfl
theorem lineL_strip (pre : List Tok) : lineL (pre.map strip) = lineL pre := by
  rw [lineL, lineL, List.getLast?_map]; cases pre.getLast? <;> rfl
theorem goB_strip (pre post : List Tok) : goB (pre.map strip) (post.map strip) = goB pre post := by
  rw [goB, goB, List.getLast?_map, List.map_dropLast.symm]
  cases pre.getLast? with
  | none => rfl
  | some t => simp only [Option.map_some]; rw [colAt_strip]; rfl
theorem goA_strip (pre post : List Tok) : goA (pre.map strip) (post.map strip) = goA pre post := by
  cases post with
  | nil => rfl
  | cons u r => rw [List.map_cons, goA, goA, colAt_strip]; rfl
theorem runR_strip (pre run rest : List Tok) : runR (pre.map strip) (run.map strip) (rest.map strip) = (runR pre run rest).map strip := by
  have hf : (run.map strip).filter kp = (run.filter kp).map strip := by rw [List.filter_map]; rfl
  have hs : (run.map strip).find? isSp = (run.find? isSp).map strip := by rw [List.find?_map]; rfl
  rw [runR, runR, hs, hf]
  cases run.find? isSp with
  | none => rfl
  | some s =>
    simp only [Option.map_some]
    rw [lineL_strip, ← List.map_append, ← List.map_append, goB_strip, goA_strip]
    split
    · rfl
    · split
      · rfl
      · rw [List.map_append]; rfl
theorem valL_strip : ∀ (n : Nat) (pre suf : List Tok), suf.length ≤ n → valL (pre.map strip) (suf.map strip) = (valL pre suf).map strip
  | n, pre, [], h => by rw [List.map_nil, valL_nil, valL_nil]; rfl
  | 0, pre, t :: suf, h => by simp at h
  | n + 1, pre, t :: suf, h => by
    cases hq : quiet t.kind with
    | false =>
      rw [List.map_cons, valL_one _ _ (show quiet (strip t).kind = false from hq), valL_one _ _ hq, List.map_cons, ← valL_strip n _ suf (by simpa using h), List.map_append]; rfl
    | true =>
      obtain ⟨run, rest, e, h1, h2⟩ := run_cut suf
      have e' : t :: suf = (t :: run) ++ rest := by rw [e]; rfl
      have hall : ∀ u, u ∈ t :: run → quiet u.kind = true := fun u hu => by rcases List.mem_cons.mp hu with rfl | hu; exact hq; exact h1 u hu
      have hall2 : ∀ u, u ∈ (t :: run).map strip → quiet u.kind = true := fun u hu => by
        obtain ⟨v, hv, rfl⟩ := List.mem_map.mp hu; exact hall v hv
      have h3 : ∀ u r, rest.map strip = u :: r → quiet u.kind = false := fun u r he => by
        cases rest with
        | nil => cases he
        | cons v r' => rw [List.map_cons] at he; cases he; exact h2 v r' rfl
      rw [e', List.map_append, valL_run _ (by simp) hall2 h3, valL_run pre (by simp) hall h2, runR_strip, ← List.map_append, valL_strip n _ rest (by rw [e] at h; simp at h ⊢; omega), List.map_append]
def Closed (C : List Tok) : Prop := ∃ P c, C = P ++ [c] ∧ c.kind = 20 ∧ op P = [20]
theorem Closed.op {C : List Tok} (h : Closed C) : op C = [] := by
  obtain ⟨P, c, rfl, hc, hp⟩ := h
  rw [op_snoc, hp, hc]; rfl
theorem Closed.strip {C : List Tok} (h : Closed C) : Closed (C.map strip) := by
  obtain ⟨P, c, rfl, hc, hp⟩ := h
  exact ⟨P.map Seat.strip, Seat.strip c, by simp, hc, by rw [op_map, hp]⟩
theorem op_app {C : List Tok} (h : Closed C) (l : List Tok) : op (C ++ l) = op l := by
  show (C ++ l).foldl _ [] = _
  rw [List.foldl_append, show C.foldl (fun o t => nestStep o t.kind) [] = [] from h.op]; rfl
def Eqv (s s' : List Int × Nat × Bool) : Prop := s.1 = s'.1 ∧ s.2.1 = s'.2.1 ∧ (s.2.1 ≠ 0 → s.2.2 = s'.2.2)
theorem Eqv.step {s s' : List Int × Nat × Bool} (h : Eqv s s') (t : Tok) : Eqv (st3 s t) (st3 s' t) := by
  obtain ⟨h1, h2, h3⟩ := h
  refine ⟨by show nestStep s.1 t.kind = nestStep s'.1 t.kind; rw [h1], ?_⟩
  unfold st3
  simp only
  rw [h1, h2]
  by_cases hq : quiet t.kind = true
  · rw [if_pos hq, if_pos hq]; exact ⟨h2, h3⟩
  · rw [if_neg hq, if_neg hq]
    by_cases hp : partK t.kind = true ∧ (plOf s'.1 t.kind).2.1 = true
    · rw [if_pos hp, if_pos hp]; exact ⟨rfl, fun h => absurd rfl h⟩
    · rw [if_neg hp, if_neg hp]; exact ⟨rfl, fun _ => rfl⟩
theorem Eqv.fold : ∀ (l : List Tok) {s s' : List Int × Nat × Bool}, Eqv s s' → Eqv (l.foldl st3 s) (l.foldl st3 s')
  | [], _, _, h => h
  | t :: l, _, _, h => Eqv.fold l (h.step t)
theorem sn3_shut {C : List Tok} (h : Closed C) : Eqv (sn3 C) ([], 0, false) := by
  obtain ⟨P, c, rfl, hc, hp⟩ := h
  rw [sn3_snoc]
  refine ⟨?_, ?_, ?_⟩
  · show nestStep (sn3 P).1 c.kind = []
    rw [sn3_op, hp, hc]; rfl
  · unfold st3; simp only; rw [sn3_op, hp, hc]; rfl
  · unfold st3; simp only; rw [sn3_op, hp, hc]; intro h; exact absurd rfl h
theorem sn3_app {C : List Tok} (h : Closed C) (l : List Tok) : Eqv (sn3 (C ++ l)) (sn3 l) := by
  show Eqv ((C ++ l).foldl st3 _) _
  rw [List.foldl_append]
  exact Eqv.fold l (sn3_shut h)
theorem colon_ahead {C : List Tok} (h : Closed C) (pre : List Tok) (t : Tok) (post : List Tok) : colAt (C ++ pre) t post = colAt pre t post := by
  obtain ⟨h1, h2, h3⟩ := sn3_app h pre
  rw [colAt, colAt, op_app h, h2]
  by_cases hz : (sn3 pre).2.1 = 1
  · rw [h3 (by rw [h2, hz]; simp)]
  · simp [hz]
theorem plain_front (more : List Tok) : ∀ (post : List Tok) (o : List Int) (D : Nat), (post.foldl (fun o t => nestStep o t.kind) o).length < D → plainS o D (post ++ more) = plainS o D post
  | [], o, D, h => by rw [List.nil_append, plain_low (show o.length < D from h)]; rfl
  | t :: r, o, D, h => by
    rw [List.cons_append, plainS, plainS, plain_front more r _ D (by simpa using h)]
theorem colon_front {C pre post : List Tok} {t : Tok} (h : Closed C) (he : pre ++ t :: post = C) (more : List Tok) : colAt pre t (post ++ more) = colAt pre t post := by
  rw [colAt, colAt]
  by_cases hD : 0 < (plOf (op pre) t.kind).1
  · rw [plain_front more post _ _ ?_]
    have := h.op
    rw [← he] at this
    have e : (pre ++ t :: post).foldl (fun o t => nestStep o t.kind) [] = post.foldl (fun o t => nestStep o t.kind) (nestStep (op pre) t.kind) := by rw [List.foldl_append]; rfl
    rw [show op (pre ++ t :: post) = _ from e] at this
    rw [this]; exact hD
  · simp [hD]
theorem getLast_tail {C pre : List Tok} (h : pre ≠ []) : (C ++ pre).getLast? = pre.getLast? := by
  rcases List.eq_nil_or_concat pre with e | ⟨p, t, e⟩
  · exact absurd e h
  · rw [e, List.concat_eq_append, ← List.append_assoc, List.getLast?_concat, List.getLast?_concat]
theorem runR_ahead {C : List Tok} (h : Closed C) (pre run rest : List Tok) : runR (C ++ pre) run rest = runR pre run rest := by
  unfold runR
  cases run.find? isSp with
  | none => rfl
  | some s =>
    simp only
    by_cases hp : pre = []
    · subst hp
      obtain ⟨P, c, rfl, hc, _⟩ := h
      have e1 : lineL (P ++ [c] ++ []) = false := by rw [List.append_nil, lineL, List.getLast?_concat]; simp only [lineB, hc]; rfl
      have e2 : goB (P ++ [c] ++ []) (run ++ rest) = true := by rw [List.append_nil, goB, List.getLast?_concat]; simp only [hc]; rfl
      rw [e1, e2, show lineL [] = false from rfl, show goB [] (run ++ rest) = true from rfl]
      simp
    · have e1 : lineL (C ++ pre) = lineL pre := by rw [lineL, lineL, getLast_tail hp]
      have e2 : goB (C ++ pre) (run ++ rest) = goB pre (run ++ rest) := by
        rw [goB, goB, getLast_tail hp, List.dropLast_append_of_ne_nil hp]
        cases pre.getLast? with
        | none => rfl
        | some t => simp only; rw [colon_ahead h]
      have e3 : goA (C ++ pre ++ run) rest = goA (pre ++ run) rest := by
        cases rest with
        | nil => rfl
        | cons u r => rw [goA, goA, List.append_assoc, colon_ahead h]
      rw [e1, e2, e3]
theorem valL_ahead {C : List Tok} (h : Closed C) : ∀ (n : Nat) (pre suf : List Tok), suf.length ≤ n → valL (C ++ pre) suf = valL pre suf
  | n, pre, [], _ => by rw [valL_nil, valL_nil]
  | 0, pre, t :: suf, hn => by simp at hn
  | n + 1, pre, t :: suf, hn => by
    cases hq : quiet t.kind with
    | false => rw [valL_one _ _ hq, valL_one _ _ hq, List.append_assoc, valL_ahead h n _ suf (by simpa using hn)]
    | true =>
      obtain ⟨run, rest, e, h1, h2⟩ := run_cut suf
      have e' : t :: suf = (t :: run) ++ rest := by rw [e]; rfl
      have hall : ∀ u, u ∈ t :: run → quiet u.kind = true := fun u hu => by rcases List.mem_cons.mp hu with rfl | hu; exact hq; exact h1 u hu
      rw [e', valL_run _ (by simp) hall h2, valL_run _ (by simp) hall h2, runR_ahead h, List.append_assoc, valL_ahead h n _ rest (by rw [e] at hn; simp at hn ⊢; omega)]
theorem valL_front {C : List Tok} (h : Closed C) : ∀ (n : Nat) (pre S : List Tok), S.length ≤ n → pre ++ S = C → ∃ W, ∀ more, valL pre (S ++ more) = W ++ valL (pre ++ S) more
  | n, pre, [], _, _ => ⟨[], fun more => by simp⟩
  | 0, pre, t :: S, hn, _ => by simp at hn
  | n + 1, pre, t :: S, hn, he => by
    cases hq : quiet t.kind with
    | false =>
      obtain ⟨W, hW⟩ := valL_front h n (pre ++ [t]) S (by simpa using hn) (by rw [← he]; simp)
      exact ⟨t :: W, fun more => by rw [List.cons_append, valL_one _ _ hq, hW more]; simp⟩
    | true =>
      obtain ⟨run, rest, e, h1, h2⟩ := run_cut S
      have e' : t :: S = (t :: run) ++ rest := by rw [e]; rfl
      have hall : ∀ u, u ∈ t :: run → quiet u.kind = true := fun u hu => by rcases List.mem_cons.mp hu with rfl | hu; exact hq; exact h1 u hu
      have hrn : rest ≠ [] := by
        intro hr
        obtain ⟨P, c, hC, hc, _⟩ := h
        rw [e', hr, List.append_nil, hC] at he
        rcases List.eq_nil_or_concat (t :: run) with e2 | ⟨p, u, e2⟩
        · cases e2
        · rw [e2, List.concat_eq_append, ← List.append_assoc] at he
          have := (List.append_inj' he rfl).2
          simp at this
          have hu := hall u (by rw [e2]; simp)
          rw [this, hc] at hu; cases hu
      obtain ⟨W, hW⟩ := valL_front h n (pre ++ (t :: run)) rest (by rw [e] at hn; simp at hn ⊢; omega) (by rw [← he, e']; simp)
      cases rest with
      | nil => exact absurd rfl hrn
      | cons v r =>
        refine ⟨runR pre (t :: run) (v :: r) ++ W, fun more => ?_⟩
        have h3 : ∀ u q, v :: r ++ more = u :: q → quiet u.kind = false := fun u q hh => by
          rw [List.cons_append] at hh; cases hh; exact h2 v r rfl
        have hR : runR pre (t :: run) (v :: r ++ more) = runR pre (t :: run) (v :: r) := by
          have e2 : goB pre ((t :: run) ++ (v :: r ++ more)) = goB pre ((t :: run) ++ (v :: r)) := by
            rcases List.eq_nil_or_concat pre with ep | ⟨p, u, ep⟩
            · rw [ep]; rfl
            · rw [List.concat_eq_append] at ep
              have hg : pre.getLast? = some u := by rw [ep, List.getLast?_concat]
              have hd : pre.dropLast = p := by rw [ep, List.dropLast_concat]
              rw [goB, goB, hg, hd]
              simp only
              rw [← List.append_assoc, colon_front h (pre := p) (t := u) (post := (t :: run) ++ (v :: r)) (by rw [← he, e', ep]; simp) more]
          have e3 : goA (pre ++ (t :: run)) (v :: r ++ more) = goA (pre ++ (t :: run)) (v :: r) := by
            rw [List.cons_append, goA, goA, colon_front h (pre := pre ++ (t :: run)) (t := v) (post := r) (by rw [← he, e']; simp) more]
          unfold runR
          rw [e2, e3]
        rw [e', List.append_assoc, valL_run _ (by simp) hall h3, hR, hW more]
        simp
theorem valL_join {C : List Tok} (h : Closed C) (more : List Tok) : valL [] (C ++ more) = valL [] C ++ valL [] more := by
  obtain ⟨W, hW⟩ := valL_front h C.length [] C (Nat.le_refl _) rfl
  have h1 := hW more
  have h2 := hW []
  rw [List.nil_append, valL_nil, List.append_nil, List.append_nil] at h2
  have h3 := valL_ahead h more.length [] more (Nat.le_refl _)
  rw [List.append_nil] at h3
  rw [h1, List.nil_append, h3, h2]
theorem runR_pre {pre pre' : List Tok} (hf : pre.filter nqt = pre'.filter nqt) (hl : pre.getLast? = pre'.getLast?) (run rest : List Tok) : runR pre run rest = runR pre' run rest := by
  unfold runR
  cases run.find? isSp with
  | none => rfl
  | some s =>
    simp only
    have e1 : lineL pre = lineL pre' := by rw [lineL, lineL, hl]
    have e2 : goB pre (run ++ rest) = goB pre' (run ++ rest) := by
      rw [goB, goB, hl]
      cases hg : pre'.getLast? with
      | none => rfl
      | some t =>
        simp only
        rcases List.eq_nil_or_concat pre with ep | ⟨p, u, ep⟩
        · rw [ep] at hl; rw [← hl] at hg; cases hg
        · rcases List.eq_nil_or_concat pre' with ep' | ⟨p', u', ep'⟩
          · rw [ep'] at hg; cases hg
          · rw [List.concat_eq_append] at ep ep'
            have hu : u = u' := by rw [ep, ep', List.getLast?_concat, List.getLast?_concat] at hl; simpa using hl
            subst hu
            have hpf : p.filter nqt = p'.filter nqt := by
              rw [ep, ep', List.filter_append, List.filter_append] at hf
              exact List.append_cancel_right hf
            rw [ep, ep', List.dropLast_concat, List.dropLast_concat, colon_congr hpf rfl]
    have e3 : goA (pre ++ run) rest = goA (pre' ++ run) rest := by
      cases rest with
      | nil => rfl
      | cons u r => rw [goA, goA, colon_congr (pre := pre ++ run) (pre' := pre' ++ run) (by rw [List.filter_append, List.filter_append, hf]) rfl]
    rw [e1, e2, e3]
theorem valL_pre : ∀ (n : Nat) (pre pre' suf : List Tok), suf.length ≤ n → pre.filter nqt = pre'.filter nqt → (∀ t r, suf = t :: r → quiet t.kind = true → pre.getLast? = pre'.getLast?) → valL pre suf = valL pre' suf
  | n, pre, pre', [], _, _, _ => by rw [valL_nil, valL_nil]
  | 0, pre, pre', t :: suf, hn, _, _ => by simp at hn
  | n + 1, pre, pre', t :: suf, hn, hf, hl => by
    cases hq : quiet t.kind with
    | false =>
      rw [valL_one _ _ hq, valL_one _ _ hq, valL_pre n (pre ++ [t]) (pre' ++ [t]) suf (by simpa using hn) (by rw [List.filter_append, List.filter_append, hf]) (fun _ _ _ _ => by rw [List.getLast?_concat, List.getLast?_concat])]
    | true =>
      have hl := hl t suf rfl hq
      obtain ⟨run, rest, e, h1, h2⟩ := run_cut suf
      have e' : t :: suf = (t :: run) ++ rest := by rw [e]; rfl
      have hall : ∀ u, u ∈ t :: run → quiet u.kind = true := fun u hu => by rcases List.mem_cons.mp hu with rfl | hu; exact hq; exact h1 u hu
      rw [e', valL_run _ (by simp) hall h2, valL_run _ (by simp) hall h2, runR_pre hf hl,
        valL_pre n (pre ++ (t :: run)) (pre' ++ (t :: run)) rest (by rw [e] at hn; simp at hn ⊢; omega) (by rw [List.filter_append, List.filter_append, hf]) (fun u r hu hqu => by rw [h2 u r hu] at hqu; cases hqu)]
theorem valL_quiet {Q : List Tok} (hq : ∀ t, t ∈ Q → quiet t.kind = true) (hk : Q.filter kp = []) (X : List Tok) : valL [] (Q ++ X) = valL [] X := by
  by_cases hQ : Q = []
  · rw [hQ]; rfl
  · obtain ⟨run, rest, e, h1, h2⟩ := run_cut X
    have hR : ∀ R, R ≠ [] → runR [] R rest = R.filter kp := fun R hR => by
      unfold runR
      rw [show lineL [] = false from rfl, show goB [] (R ++ rest) = true from rfl]
      cases R.find? isSp <;> simp
    have hall : ∀ u, u ∈ Q ++ run → quiet u.kind = true := fun u hu => by rcases List.mem_append.mp hu with hu | hu; exact hq u hu; exact h1 u hu
    have hne : Q ++ run ≠ [] := by simp [hQ]
    have hl : valL (Q ++ run) rest = valL run rest := valL_pre rest.length _ _ rest (Nat.le_refl _) (by rw [filter_q hall, filter_q h1]) (fun u r hu hqu => by rw [h2 u r hu] at hqu; cases hqu)
    rw [e, ← List.append_assoc, valL_run [] hne hall h2, hR _ hne, List.filter_append, hk, List.nil_append, List.nil_append, hl]
    by_cases hr : run = []
    · rw [hr]; rfl
    · rw [valL_run [] hr h1 h2, hR _ hr]; rfl
theorem valL_only {Q : List Tok} (hq : ∀ t, t ∈ Q → quiet t.kind = true) : valL [] Q = Q.filter kp := by
  by_cases hQ : Q = []
  · rw [hQ, valL_nil]; rfl
  · have := valL_run [] (run := Q) (rest := []) hQ hq (fun u r h => by cases h)
    rw [List.append_nil, valL_nil, List.append_nil] at this
    rw [this]
    unfold runR
    rw [show lineL [] = false from rfl, show goB [] (Q ++ []) = true from rfl]
    cases Q.find? isSp <;> simp
end Go.Vx.Seat
end
section
open Go Go.Vx Go.Proofs
set_option maxRecDepth 10000
set_option maxHeartbeats 8000000
namespace Go.Vx.Seat
attribute [local irreducible] Rg Rt Ro Ri Rc Rto Rtk Rtf Rti Rw Rl Rd Rcall Rtcall kf
end Go.Vx.Seat
end
section
open Go Go.Vx Go.Proofs
set_option maxRecDepth 10000
set_option maxHeartbeats 2000000
namespace Go.Vx.Seat
attribute [local irreducible] Rg Rt Ro Ri Rc Rto Rtk Rtf Rti Rw Rl Rd Rcall Rtcall kf
end Go.Vx.Seat
end
section
open Go Go.Vx Go.Proofs
set_option maxRecDepth 20000
set_option maxHeartbeats 4000000
namespace Go.Vx.Seat
attribute [local irreducible] Rg Rt Ro Ri Rc Rto Rtk Rtf Rti Rw Rl Rd Rcall Rtcall kf
theorem fn46 : nth C1.P.funcs.toList 46 = some Try.f46 := by kernel_rfl
theorem fn60 : nth C1.P.funcs.toList 60 = some Try.f60 := by kernel_rfl
theorem fn61 : nth C1.P.funcs.toList 61 = some Try.f61 := by kernel_rfl
theorem fn47 : nth C1.P.funcs.toList 47 = some Try.f47 := by kernel_rfl
theorem fn77 : nth C1.P.funcs.toList 77 = some Try.f77 := by kernel_rfl
def es (b : ByteArray) : List PC := [.d (.string b)]
abbrev rS (l : List ByteArray) : PC := .row 1 (l.map es)
theorem esGet {l : List ByteArray} {i : Nat} {c : ByteArray} (h : l[i]? = some c) : (l.map es)[i]? = some [.d (.string c)] := get_map h
theorem coloured_spec (s : ByteArray) (hs : (strOf s).length ≤ 10000000) : PCall C1 46 [yd (.string s)] fun y => ∃ b : Bool, y = yd (.bool b) := by
  refine Pf (by rfl) (by rfl) fn46 (by rfl) ?_
  simp only [Try.f46, List.length_cons, List.length_nil, List.replicate, List.cons_append, List.nil_append]
  simp -implicitDefEqProofs only [↓yP, yT, Nat.reduceAdd, Nat.reduceMul, Nat.reduceLeDiff, Nat.reduceLT]
  refine Rl_inv (fun d e st => ∃ (i : Nat) (ns : List ByteArray), e = ([yd (.string s), Tp, Tp, .c (.own 0 1 0 7), yd (.int .i64 (i : Nat)), Tp, Tp, Tp, Tp, Tp, Tp, Tp, Tp, Tp, Tp, Tp, Tp, Tp, Tp]) ∧ st = [.row 1 (ns.map es)] ∧ ns.length = 7 ∧ i + d = 7) [true, false, false, true, true] 7 [0] (by decide) (pinned_zero _) ⟨0, [_, _, _, _, _, _, _], by (simp only [yE]; try rfl), by (simp only [yE]; try rfl), rfl, rfl⟩ ?_
  rintro d e st ⟨i, ns, rfl, rfl, hn, hd⟩
  by_cases hi : i < 7
  · obtain ⟨c, hc⟩ := get_lt (l := ns) (i := i) (by omega)
    have t1 : leI ((7 : Nat) : Int) (i : Nat) = false := leI_false (by omega)
    have c1 : (0 : Int) ≤ (i : Nat) := by omega
    have c2 : ((i : Nat) : Int) < ((7 : Nat) : Int) := by omega
    have w1 : wrapK .i64 ((i : Int) + 1) = ((i + 1 : Nat) : Int) := wrap_succ (by omega)
    simp -implicitDefEqProofs only [↓yP, yT, t1]
    refine Rd_calm (by rw [C1_P]; kernel_rfl) ?_
    simp -implicitDefEqProofs only [↓yP, yT, c1, c2, esGet hc]
    refine Rcall_pure (lower_spec s hs) (by rfl) fun y hy => ?_
    obtain ⟨z, rfl, hz⟩ := hy
    cases h1 : (strOf c == strOf z) with
    | true =>
      simp -implicitDefEqProofs only [↓yP, yT, reduceCtorEq, xstr_eql, h1]
      exact ⟨_, rfl⟩
    | false =>
      simp -implicitDefEqProofs only [↓yP, yT, xstr_eql, h1, w1]
      refine ⟨d - 1, [0], by omega, by decide, pinned_zero _, i + 1, ns, by (simp only [yE]; try rfl), by (simp only [yE]; try rfl), by omega, by omega⟩
  · have t1 : leI ((7 : Nat) : Int) (i : Nat) = true := leI_true (by omega)
    simp -implicitDefEqProofs only [↓yP, yT, reduceCtorEq, t1]
    exact ⟨_, rfl⟩
theorem hex17_spec (c : Int) : PCall C1 61 [yd (.int .u8 c)] fun y => ∃ d : Int, y = yd (.int .i64 d) := by
  refine Pf (by rfl) (by rfl) fn61 (by rfl) ?_
  simp only [Try.f61, List.length_cons, List.length_nil, List.replicate, List.cons_append, List.nil_append]
  cases h1 : leI 48 c <;> cases h2 : leI c 57 <;> cases h3 : leI 97 c <;> cases h4 : leI c 102 <;> cases h5 : leI 65 c <;> cases h6 : leI c 70
  all_goals
    simp -implicitDefEqProofs only [↓yP, yT, reduceCtorEq, h1, h2, h3, h4, h5, h6]
    exact ⟨_, rfl⟩
end Go.Vx.Seat
end
section
open Go Go.Vx Go.Proofs
set_option maxRecDepth 20000
set_option maxHeartbeats 4000000
namespace Go.Vx.Seat
attribute [local irreducible] Rg Rt Ro Ri Rc Rto Rtk Rtf Rti Rw Rl Rd Rcall Rtcall kf
theorem table_spec : PCall C1 77 [] fun y => ∃ (ns : List ByteArray) (cs : List Int), y = .tup [.c (.p (rS ns)), .c (.p (rI cs))] ∧ ns.length = 38 ∧ cs.length = 38 := by
  refine Pf (by rfl) (by rfl) fn77 (by rfl) ?_
  simp only [Try.f77, List.length_nil, List.replicate, List.nil_append]
  simp -implicitDefEqProofs only [↓yP, yT, Nat.reduceAdd, Nat.reduceMul, Nat.reduceLeDiff, reduceCtorEq, Nat.reduceLT]
  exact ⟨[_, _, _, _, _, _, _, _, _, _, _, _, _, _, _, _, _, _, _, _, _, _, _, _, _, _, _, _, _, _, _, _, _, _, _, _, _, _], [_, _, _, _, _, _, _, _, _, _, _, _, _, _, _, _, _, _, _, _, _, _, _, _, _, _, _, _, _, _, _, _, _, _, _, _, _, _], rfl, rfl, rfl⟩
def c4 (a b c d : Int) : YV := .agg [.p (.d (.int .i64 a)), .p (.d (.int .i64 b)), .p (.d (.int .i64 c)), .p (.d (.int .i64 d))]
def ColR (y : YV) : Prop := ∃ (a b c d : Int) (ok : Bool), y = .tup [c4 a b c d, yd (.bool ok)]
theorem xshr8 (a : Int) : xshift .shr .i64 a 8 = some (.int .i64 (shrI a 8)) := xshr a 8
theorem xshr16 (a : Int) : xshift .shr .i64 a 16 = some (.int .i64 (shrI a 16)) := xshr a 16
theorem named17_spec (s : ByteArray) (hs : (strOf s).length ≤ 10000000) : PCall C1 60 [yd (.string s)] ColR := by
  refine Pf (by rfl) (by rfl) fn60 (by rfl) ?_
  simp only [Try.f60, List.length_cons, List.length_nil, List.replicate, List.cons_append, List.nil_append]
  simp -implicitDefEqProofs only [↓yP, yT, Nat.reduceLeDiff]
  refine Rcall_pure table_spec (by rfl) fun y hy => ?_
  obtain ⟨ns, cs, rfl, hn, hc⟩ := hy
  simp -implicitDefEqProofs only [↓yP, yT]
  refine Rl_inv (fun d e st => ∃ (i : Nat), e = ([yd (.string s), Tp, .c (.ptr 0 0 0 0), Tp, .c (.p (rS ns)), .c (.p (rI cs)), yd (.int .i64 (i : Nat)), Tp, Tp, Tp, Tp, Tp, Tp, Tp, Tp, Tp, Tp, Tp, Tp, Tp, Tp, Tp, Tp, Tp, Tp, Tp, Tp, Tp, Tp, Tp, Tp, Tp, Tp, Tp, Tp, Tp, Tp, Tp, Tp, Tp, Tp, Tp]) ∧ st = [.box [.p (.d (.int .i64 0)), .p (.d (.int .i64 0)), .p (.d (.int .i64 0)), .p (.d (.int .i64 0))]] ∧ i + d = ns.length) [true, false, true, false, true, true, true] ns.length [0] (by decide) (pinned_zero _) ⟨0, by (simp only [yE]; try rfl), by (simp only [yE]; try rfl), by omega⟩ ?_
  rintro d e st ⟨i, rfl, rfl, hd⟩
  by_cases hi : i < ns.length
  · obtain ⟨c, hcc⟩ := get_lt (l := ns) (i := i) (by omega)
    obtain ⟨v, hv⟩ := get_lt (l := cs) (i := i) (by omega)
    have t1 : leI (ns.length : Nat) (i : Nat) = false := leI_false (by omega)
    have w1 : wrapK .i64 ((i : Int) + 1) = ((i + 1 : Nat) : Int) := wrap_succ (by omega)
    simp -implicitDefEqProofs only [↓yP, yT, t1]
    refine Rd_calm (by rw [C1_P]; kernel_rfl) ?_
    simp -implicitDefEqProofs only [↓yP, yT, esGet hcc]
    refine Rcall_pure (lower_spec s hs) (by rfl) fun y hy => ?_
    obtain ⟨z, rfl, hz⟩ := hy
    cases h1 : (strOf c == strOf z) with
    | true =>
      simp -implicitDefEqProofs only [↓yP, yT, xstr_eql, h1]
      refine Rd_trace ?_
      simp -implicitDefEqProofs only [↓yP, yT, Nat.reduceAdd, Nat.reduceMul, Nat.reduceLeDiff, reduceCtorEq, get_map hv, ei, xshr8, xshr16]
      exact ⟨_, _, _, _, _, rfl⟩
    | false =>
      simp -implicitDefEqProofs only [↓yP, yT, xstr_eql, h1, w1]
      refine ⟨d - 1, [0], by omega, by decide, pinned_zero _, i + 1, by (simp only [yE]; try rfl), by (simp only [yE]; try rfl), by omega⟩
  · have t1 : leI (ns.length : Nat) (i : Nat) = true := leI_true (by omega)
    simp -implicitDefEqProofs only [↓yP, yT, Nat.reduceAdd, reduceCtorEq, t1]
    exact ⟨_, _, _, _, _, rfl⟩
end Go.Vx.Seat
end
section
open Go Go.Vx Go.Proofs
set_option maxRecDepth 20000
set_option maxHeartbeats 4000000
namespace Go.Vx.Seat
attribute [local irreducible] Rg Rt Ro Ri Rc Rto Rtk Rtf Rti Rw Rl Rd Rcall Rtcall kf
def ColQ (t : Tok) (y : YV) : Prop := ∃ (a b c d : Int) (ok : Bool), y = .tup [c4 a b c d, yd (.bool ok)] ∧ (ok = true → t.kind = 1 ∨ t.kind = 4)
theorem ColQ.no {t : Tok} {y : YV} {a b c d : Int} (h : y = .tup [c4 a b c d, yd (.bool false)]) : ColQ t y := ⟨a, b, c, d, false, h, fun h => by cases h⟩
end Go.Vx.Seat
end
section
open Go Go.Vx Go.Proofs
set_option maxRecDepth 20000
set_option maxHeartbeats 4000000
namespace Go.Vx.Seat
attribute [local irreducible] Rg Rt Ro Ri Rc Rto Rtk Rtf Rti Rw Rl Rd Rcall Rtcall kf
theorem fn30 : nth C1.P.funcs.toList 30 = some Try.f30 := by kernel_rfl
theorem fn17 : nth C1.P.funcs.toList 17 = some Try.f17 := by kernel_rfl
theorem colonsTo_mem {ts : List Tok} {n : Nat} {c : Int} (h : c ∈ colonsTo ts n) : ∃ k : Nat, c = (k : Nat) ∧ k < n ∧ docColon ts k = true := by
  simp only [colonsTo, List.mem_map, List.mem_filter, List.mem_range] at h
  obtain ⟨k, ⟨h1, h3⟩, h2⟩ := h
  exact ⟨k, h2.symm, h1, h3⟩
def colTok (a b c d f : Int) : Tok := ⟨26, ⟨#[]⟩, ⟨#[]⟩, false, ⟨#[]⟩, ⟨#[]⟩, false, false, a, b, c, d, f⟩
def Marked (l out : List Tok) : Prop := out.length = l.length ∧ ∀ (i : Nat) (t : Tok), l[i]? = some t → ∃ u : Tok, out[i]? = some u ∧ (u = t ∨ ((t.kind = 1 ∨ t.kind = 4) ∧ u.kind = 26 ∧ u.start = t.start ∧ ∃ c, c < i ∧ docColon l c = true))
theorem Marked.refl (l : List Tok) : Marked l l := ⟨rfl, fun i t h => ⟨t, h, .inl rfl⟩⟩
theorem Marked.set {l out : List Tok} (h : Marked l out) {k : Nat} {t : Tok} {a b c d : Int} (ht : l[k]? = some t) (hk : t.kind = 1 ∨ t.kind = 4) (hc : ∃ c, c < k ∧ docColon l c = true) : Marked l (out.set k (colTok a b c d t.start)) := by
  refine ⟨by simp [h.1], fun i v hv => ?_⟩
  by_cases hik : i = k
  · subst hik
    rw [ht] at hv; cases hv
    have : i < out.length := by rw [h.1]; exact (List.getElem?_eq_some_iff.mp ht).1
    exact ⟨colTok a b c d t.start, by rw [List.getElem?_set]; simp [this], .inr ⟨hk, rfl, rfl, hc⟩⟩
  · obtain ⟨u, hu, h2⟩ := h.2 i v hv
    exact ⟨u, by rw [List.getElem?_set, if_neg (Ne.symm hik)]; exact hu, h2⟩
end Go.Vx.Seat
end
section
open Go Go.Vx Go.Proofs
set_option maxRecDepth 20000
set_option maxHeartbeats 4000000
namespace Go.Vx.Seat
attribute [local irreducible] Rg Rt Ro Ri Rc Rto Rtk Rtf Rti Rw Rl Rd Rcall Rtcall kf
theorem coloured_det (s : ByteArray) (hs : (strOf s).length ≤ 10000000) : ∃ b : Bool, PCall C1 46 [yd (.string s)] fun y => y = yd (.bool b) := by
  obtain ⟨y, ⟨b, rfl⟩, h⟩ := (coloured_spec s hs).det good1 toldSh1 rfl
  exact ⟨b, h⟩
noncomputable def colB (s : ByteArray) : Bool := if h : (strOf s).length ≤ 10000000 then Classical.choose (coloured_det s h) else false
theorem colouredX_spec (s : ByteArray) (hs : (strOf s).length ≤ 10000000) : PCall C1 46 [yd (.string s)] fun y => y = yd (.bool (colB s)) := by
  rw [colB, dif_pos hs]; exact Classical.choose_spec (coloured_det s hs)
theorem hex17_det (c : Int) : ∃ d : Int, PCall C1 61 [yd (.int .u8 c)] fun y => y = yd (.int .i64 d) := by
  obtain ⟨y, ⟨b, rfl⟩, h⟩ := (hex17_spec c).det good1 toldSh1 rfl
  exact ⟨b, h⟩
noncomputable def hx17 (c : Int) : Int := Classical.choose (hex17_det c)
theorem hexX_spec (c : Int) : PCall C1 61 [yd (.int .u8 c)] fun y => y = yd (.int .i64 (hx17 c)) := Classical.choose_spec (hex17_det c)
theorem named17_det (s : ByteArray) (hs : (strOf s).length ≤ 10000000) : ∃ q : Int × Int × Int × Int × Bool, PCall C1 60 [yd (.string s)] fun y => y = .tup [c4 q.1 q.2.1 q.2.2.1 q.2.2.2.1, yd (.bool q.2.2.2.2)] := by
  obtain ⟨y, ⟨a, b, c, d, ok, rfl⟩, h⟩ := (named17_spec s hs).det good1 toldSh1 rfl
  exact ⟨(a, b, c, d, ok), h⟩
noncomputable def nm17 (s : ByteArray) : Int × Int × Int × Int × Bool := if h : (strOf s).length ≤ 10000000 then Classical.choose (named17_det s h) else (0, 0, 0, 0, false)
theorem namedX17_spec (s : ByteArray) (hs : (strOf s).length ≤ 10000000) : PCall C1 60 [yd (.string s)] fun y => y = .tup [c4 (nm17 s).1 (nm17 s).2.1 (nm17 s).2.2.1 (nm17 s).2.2.2.1, yd (.bool (nm17 s).2.2.2.2)] := by
  rw [nm17, dif_pos hs]; exact Classical.choose_spec (named17_det s hs)
abbrev Q4 := Int × Int × Int × Int
def colStep (big : Bool) (i : Nat) (h : Int) (q : Q4) : Q4 :=
  match big, i with
  | false, 0 => (wrapK .i64 (17 * h), q.2.1, q.2.2.1, q.2.2.2)
  | false, 1 => (q.1, wrapK .i64 (17 * h), q.2.2.1, q.2.2.2)
  | false, 2 => (q.1, q.2.1, wrapK .i64 (17 * h), q.2.2.2)
  | false, 3 => (q.1, q.2.1, q.2.2.1, wrapK .i64 (17 * h))
  | true, 0 => (wrapK .i64 (16 * h), q.2.1, q.2.2.1, q.2.2.2)
  | true, 1 => (wrapK .i64 (q.1 + h), q.2.1, q.2.2.1, q.2.2.2)
  | true, 2 => (q.1, wrapK .i64 (16 * h), q.2.2.1, q.2.2.2)
  | true, 3 => (q.1, wrapK .i64 (q.2.1 + h), q.2.2.1, q.2.2.2)
  | true, 4 => (q.1, q.2.1, wrapK .i64 (16 * h), q.2.2.2)
  | true, 5 => (q.1, q.2.1, wrapK .i64 (q.2.2.1 + h), q.2.2.2)
  | true, 6 => (q.1, q.2.1, q.2.2.1, wrapK .i64 (16 * h))
  | true, 7 => (q.1, q.2.1, q.2.2.1, wrapK .i64 (q.2.2.2 + h))
  | _, _ => q
noncomputable def colF (big : Bool) : Nat → List UInt8 → Q4 → Option Q4
  | _, [], q => some q
  | i, c :: r, q => if leI 0 (hx17 (c.toNat : Nat)) then colF big (i + 1) r (colStep big i (hx17 (c.toNat : Nat)) q) else none
noncomputable def rcolF (t : Tok) : Option Q4 :=
  if eqI t.kind 1 then (if (nm17 t.text).2.2.2.2 then some ((nm17 t.text).1, (nm17 t.text).2.1, (nm17 t.text).2.2.1, (nm17 t.text).2.2.2.1) else none)
  else if eqI t.kind 4 then
    (if eqI ((strOf t.text).length : Nat) 3 || eqI ((strOf t.text).length : Nat) 4 then colF false 0 (strOf t.text) (0, 0, 0, 255)
    else if eqI ((strOf t.text).length : Nat) 6 || eqI ((strOf t.text).length : Nat) 8 then colF true 0 (strOf t.text) (0, 0, 0, 255) else none)
  else none
def ColX (t : Tok) (y : YV) : Prop := ∃ (a b c d : Int) (ok : Bool), y = .tup [c4 a b c d, yd (.bool ok)] ∧ (ok = true → t.kind = 1 ∨ t.kind = 4) ∧ rcolF t = if ok then some (a, b, c, d) else none
theorem ColX.no {t : Tok} {y : YV} {a b c d : Int} (h : y = .tup [c4 a b c d, yd (.bool false)]) (h2 : rcolF t = none) : ColX t y := ⟨a, b, c, d, false, h, (fun h => by cases h), h2⟩
theorem readColourX_spec (t : Tok) (hs : (strOf t.text).length ≤ 10000000) : PCall C1 47 [t.yv] (ColX t) := by
  cases q1 : eqI t.kind 1 with
  | true =>
    refine Pf (by rfl) (by rfl) fn47 (by rfl) ?_
    simp only [Try.f47, List.length_cons, List.length_nil, List.replicate, List.cons_append, List.nil_append]
    simp only [Tok.yv, Tok.cs, Tok.pc, List.map_cons, List.map_nil]
    simp -implicitDefEqProofs only [↓yP, yT, Nat.reduceLeDiff, q1]
    refine Rcall_pure (namedX17_spec t.text hs) (by rfl) fun y hy => ?_
    subst hy
    simp only [c4]
    simp -implicitDefEqProofs only [↓yP, yT, Nat.reduceAdd, reduceCtorEq]
    exact ⟨_, _, _, _, _, rfl, fun _ => .inl (of_eqT q1), by rw [rcolF, if_pos q1]⟩
  | false =>
  cases q4 : eqI t.kind 4 with
  | false =>
    refine Pf (by rfl) (by rfl) fn47 (by rfl) ?_
    simp only [Try.f47, List.length_cons, List.length_nil, List.replicate, List.cons_append, List.nil_append]
    simp only [Tok.yv, Tok.cs, Tok.pc, List.map_cons, List.map_nil]
    simp -implicitDefEqProofs only [↓yP, yT, Nat.reduceAdd, reduceCtorEq, opLen.eq_1, q1, q4]
    exact .no rfl (by rw [rcolF, if_neg (by rw [q1]; simp), if_neg (by rw [q4]; simp)])
  | true =>
  refine Pf (by rfl) (by rfl) fn47 (by rfl) ?_
  simp only [Try.f47, List.length_cons, List.length_nil, List.replicate, List.cons_append, List.nil_append]
  simp only [Tok.yv, Tok.cs, Tok.pc, List.map_cons, List.map_nil]
  cases n3 : eqI ((strOf t.text).length : Nat) 3 with
  | true =>
    have hn := of_eqT n3
    have hrc : rcolF t = colF false 0 (strOf t.text) (0, 0, 0, 255) := by simp only [rcolF, q1, q4, n3, Bool.false_eq_true, if_false, if_true, Bool.true_or]
    have t6 : leI 6 ((strOf t.text).length : Nat) = false := leI_false (by omega)
    simp -implicitDefEqProofs only [↓yP, yT, Nat.reduceAdd, Nat.reduceMul, Nat.reduceLeDiff, reduceCtorEq, opLen.eq_1, q1, q4, n3]
    refine Rl_inv (fun d e st => ∃ (i : Nat) (a b c dq : Int), e = ([Tp, .c (.ptr 0 0 0 0), .c (.ptr 1 0 0 0), Tp, yd (.int .i64 ((strOf t.text).length : Nat)), .c (.ptr 2 0 0 0), yd (.int .i64 (i : Nat)), Tp, Tp, Tp, Tp, Tp, Tp, Tp, Tp, Tp, Tp, Tp, Tp, Tp, Tp, Tp, Tp, Tp, Tp, Tp, Tp, Tp, Tp, Tp, Tp, Tp, Tp, Tp, Tp, Tp, Tp, Tp, Tp, Tp, Tp, Tp, Tp, Tp, Tp, Tp, Tp, Tp, Tp, Tp, Tp, Tp, Tp, Tp, Tp, Tp, Tp, Tp, Tp, Tp, Tp, Tp, Tp, Tp, Tp, Tp, Tp, Tp, Tp, Tp, Tp, Tp, Tp, Tp, Tp, Tp, Tp, Tp, Tp]) ∧ st = [.box t.cs, .box [.p (.d (.int .i64 0)), .p (.d (.int .i64 0)), .p (.d (.int .i64 0)), .p (.d (.int .i64 0))], .box [.p (.d (.int .i64 a)), .p (.d (.int .i64 b)), .p (.d (.int .i64 c)), .p (.d (.int .i64 dq))]] ∧ i + d = (strOf t.text).length ∧ colF false i ((strOf t.text).drop i) (a, b, c, dq) = rcolF t) [false, true, true, false, true, true, true] (strOf t.text).length [0, 1, 2] (by decide) (pinned_zero _) ⟨0, 0, 0, 0, 255, by (simp only [yE, Nat.reduceEqDiff, Nat.reduceAdd, reduceCtorEq]; try rfl), by (simp only [yE]; try rfl), by omega, by rw [hrc]; rfl⟩ ?_
    rintro dd e st ⟨i, a, b, c, dq, rfl, rfl, hd, hcf⟩
    by_cases hi : i < (strOf t.text).length
    · obtain ⟨ch, hch⟩ := get_lt hi
      have u1 : leI ((strOf t.text).length : Nat) (i : Nat) = false := leI_false (by omega)
      have f1 : (0 : Int) ≤ (i : Nat) := by omega
      simp only [Tok.cs, Tok.pc, List.map_cons, List.map_nil]
      simp -implicitDefEqProofs only [↓yP, yT, xindex.eq_1, u1, f1, hch]
      refine Rcall_pure (hexX_spec _) (by rfl) fun y hy => ?_
      subst hy
      rw [drop_cons hch, colF] at hcf
      generalize hx17 (ch.toNat : Nat) = hx at hcf ⊢
      cases h0 : leI 0 hx with
      | false =>
        rw [if_neg (by rw [h0]; simp)] at hcf
        simp -implicitDefEqProofs only [↓yP, yT, Nat.reduceAdd, reduceCtorEq, h0]
        exact .no rfl hcf.symm
      | true =>
        rw [if_pos h0] at hcf
        have hnx := hcf
        simp -implicitDefEqProofs only [↓yP, yT, h0]
        clear u1 f1 hch h0 hcf
        have hj : i = 0 ∨ i = 1 ∨ i = 2 ∨ i = 3 := by omega
        rcases hj with rfl | rfl | rfl | rfl
        · have f2 : ((0 : Nat) : Int) < ((4 : Nat) : Int) := by omega
          have f1 : (0 : Int) ≤ ((0 : Nat) : Int) := by omega
          have w1 : wrapK .i64 (((0 : Nat) : Int) + 1) = ((0 + 1 : Nat) : Int) := rfl
          simp -implicitDefEqProofs only [↓yP, yT, Nat.reduceAdd, Nat.reduceMul, Nat.reduceLeDiff, t6, f1, f2, w1]
          refine ⟨dd - 1, [0, 1, 2], by omega, by decide, pinned_zero _, 0 + 1, (wrapK .i64 (17 * hx)), b, c, dq, by (simp only [yE, Nat.reduceEqDiff, Nat.reduceAdd, reduceCtorEq]; try rfl), by (simp only [yE]; try rfl), by omega, hnx⟩
        · have f2 : ((1 : Nat) : Int) < ((4 : Nat) : Int) := by omega
          have f1 : (0 : Int) ≤ ((1 : Nat) : Int) := by omega
          have w1 : wrapK .i64 (((1 : Nat) : Int) + 1) = ((1 + 1 : Nat) : Int) := rfl
          simp -implicitDefEqProofs only [↓yP, yT, Nat.reduceAdd, Nat.reduceMul, Nat.reduceLeDiff, t6, f1, f2, w1]
          refine ⟨dd - 1, [0, 1, 2], by omega, by decide, pinned_zero _, 1 + 1, a, (wrapK .i64 (17 * hx)), c, dq, by (simp only [yE, Nat.reduceEqDiff, Nat.reduceAdd, reduceCtorEq]; try rfl), by (simp only [yE]; try rfl), by omega, hnx⟩
        · have f2 : ((2 : Nat) : Int) < ((4 : Nat) : Int) := by omega
          have f1 : (0 : Int) ≤ ((2 : Nat) : Int) := by omega
          have w1 : wrapK .i64 (((2 : Nat) : Int) + 1) = ((2 + 1 : Nat) : Int) := rfl
          simp -implicitDefEqProofs only [↓yP, yT, Nat.reduceAdd, Nat.reduceMul, Nat.reduceLeDiff, t6, f1, f2, w1]
          refine ⟨dd - 1, [0, 1, 2], by omega, by decide, pinned_zero _, 2 + 1, a, b, (wrapK .i64 (17 * hx)), dq, by (simp only [yE, Nat.reduceEqDiff, Nat.reduceAdd, reduceCtorEq]; try rfl), by (simp only [yE]; try rfl), by omega, hnx⟩
        · have f2 : ((3 : Nat) : Int) < ((4 : Nat) : Int) := by omega
          have f1 : (0 : Int) ≤ ((3 : Nat) : Int) := by omega
          have w1 : wrapK .i64 (((3 : Nat) : Int) + 1) = ((3 + 1 : Nat) : Int) := rfl
          simp -implicitDefEqProofs only [↓yP, yT, Nat.reduceAdd, Nat.reduceMul, t6, f1, f2, w1]
          refine ⟨dd - 1, [0, 1, 2], by omega, by decide, pinned_zero _, 3 + 1, a, b, c, (wrapK .i64 (17 * hx)), by (simp only [yE, Nat.reduceEqDiff, Nat.reduceAdd, reduceCtorEq]; try rfl), by (simp only [yE]; try rfl), by omega, hnx⟩
    · have u1 : leI ((strOf t.text).length : Nat) (i : Nat) = true := leI_true (by omega)
      rw [List.drop_eq_nil_of_le (by omega), colF] at hcf
      simp -implicitDefEqProofs only [↓yP, yT, Nat.reduceAdd, reduceCtorEq, u1]
      exact ⟨_, _, _, _, true, rfl, fun _ => .inr (of_eqT q4), hcf.symm⟩
  | false =>
  cases n4 : eqI ((strOf t.text).length : Nat) 4 with
  | true =>
    have hn := of_eqT n4
    have hrc : rcolF t = colF false 0 (strOf t.text) (0, 0, 0, 255) := by simp only [rcolF, q1, q4, n3, n4, Bool.false_eq_true, if_false, if_true, Bool.or_true]
    have t6 : leI 6 ((strOf t.text).length : Nat) = false := leI_false (by omega)
    simp -implicitDefEqProofs only [↓yP, yT, Nat.reduceAdd, Nat.reduceMul, Nat.reduceLeDiff, reduceCtorEq, opLen.eq_1, q1, q4, n3, n4]
    refine Rl_inv (fun d e st => ∃ (i : Nat) (a b c dq : Int), e = ([Tp, .c (.ptr 0 0 0 0), .c (.ptr 1 0 0 0), Tp, yd (.int .i64 ((strOf t.text).length : Nat)), .c (.ptr 2 0 0 0), yd (.int .i64 (i : Nat)), Tp, Tp, Tp, Tp, Tp, Tp, Tp, Tp, Tp, Tp, Tp, Tp, Tp, Tp, Tp, Tp, Tp, Tp, Tp, Tp, Tp, Tp, Tp, Tp, Tp, Tp, Tp, Tp, Tp, Tp, Tp, Tp, Tp, Tp, Tp, Tp, Tp, Tp, Tp, Tp, Tp, Tp, Tp, Tp, Tp, Tp, Tp, Tp, Tp, Tp, Tp, Tp, Tp, Tp, Tp, Tp, Tp, Tp, Tp, Tp, Tp, Tp, Tp, Tp, Tp, Tp, Tp, Tp, Tp, Tp, Tp, Tp]) ∧ st = [.box t.cs, .box [.p (.d (.int .i64 0)), .p (.d (.int .i64 0)), .p (.d (.int .i64 0)), .p (.d (.int .i64 0))], .box [.p (.d (.int .i64 a)), .p (.d (.int .i64 b)), .p (.d (.int .i64 c)), .p (.d (.int .i64 dq))]] ∧ i + d = (strOf t.text).length ∧ colF false i ((strOf t.text).drop i) (a, b, c, dq) = rcolF t) [false, true, true, false, true, true, true] (strOf t.text).length [0, 1, 2] (by decide) (pinned_zero _) ⟨0, 0, 0, 0, 255, by (simp only [yE, Nat.reduceEqDiff, Nat.reduceAdd, reduceCtorEq]; try rfl), by (simp only [yE]; try rfl), by omega, by rw [hrc]; rfl⟩ ?_
    rintro dd e st ⟨i, a, b, c, dq, rfl, rfl, hd, hcf⟩
    by_cases hi : i < (strOf t.text).length
    · obtain ⟨ch, hch⟩ := get_lt hi
      have u1 : leI ((strOf t.text).length : Nat) (i : Nat) = false := leI_false (by omega)
      have f1 : (0 : Int) ≤ (i : Nat) := by omega
      simp only [Tok.cs, Tok.pc, List.map_cons, List.map_nil]
      simp -implicitDefEqProofs only [↓yP, yT, xindex.eq_1, u1, f1, hch]
      refine Rcall_pure (hexX_spec _) (by rfl) fun y hy => ?_
      subst hy
      rw [drop_cons hch, colF] at hcf
      generalize hx17 (ch.toNat : Nat) = hx at hcf ⊢
      cases h0 : leI 0 hx with
      | false =>
        rw [if_neg (by rw [h0]; simp)] at hcf
        simp -implicitDefEqProofs only [↓yP, yT, Nat.reduceAdd, reduceCtorEq, h0]
        exact .no rfl hcf.symm
      | true =>
        rw [if_pos h0] at hcf
        have hnx := hcf
        simp -implicitDefEqProofs only [↓yP, yT, h0]
        clear u1 f1 hch h0 hcf
        have hj : i = 0 ∨ i = 1 ∨ i = 2 ∨ i = 3 := by omega
        rcases hj with rfl | rfl | rfl | rfl
        · have f2 : ((0 : Nat) : Int) < ((4 : Nat) : Int) := by omega
          have f1 : (0 : Int) ≤ ((0 : Nat) : Int) := by omega
          have w1 : wrapK .i64 (((0 : Nat) : Int) + 1) = ((0 + 1 : Nat) : Int) := rfl
          simp -implicitDefEqProofs only [↓yP, yT, Nat.reduceAdd, Nat.reduceMul, Nat.reduceLeDiff, t6, f1, f2, w1]
          refine ⟨dd - 1, [0, 1, 2], by omega, by decide, pinned_zero _, 0 + 1, (wrapK .i64 (17 * hx)), b, c, dq, by (simp only [yE, Nat.reduceEqDiff, Nat.reduceAdd, reduceCtorEq]; try rfl), by (simp only [yE]; try rfl), by omega, hnx⟩
        · have f2 : ((1 : Nat) : Int) < ((4 : Nat) : Int) := by omega
          have f1 : (0 : Int) ≤ ((1 : Nat) : Int) := by omega
          have w1 : wrapK .i64 (((1 : Nat) : Int) + 1) = ((1 + 1 : Nat) : Int) := rfl
          simp -implicitDefEqProofs only [↓yP, yT, Nat.reduceAdd, Nat.reduceMul, Nat.reduceLeDiff, t6, f1, f2, w1]
          refine ⟨dd - 1, [0, 1, 2], by omega, by decide, pinned_zero _, 1 + 1, a, (wrapK .i64 (17 * hx)), c, dq, by (simp only [yE, Nat.reduceEqDiff, Nat.reduceAdd, reduceCtorEq]; try rfl), by (simp only [yE]; try rfl), by omega, hnx⟩
        · have f2 : ((2 : Nat) : Int) < ((4 : Nat) : Int) := by omega
          have f1 : (0 : Int) ≤ ((2 : Nat) : Int) := by omega
          have w1 : wrapK .i64 (((2 : Nat) : Int) + 1) = ((2 + 1 : Nat) : Int) := rfl
          simp -implicitDefEqProofs only [↓yP, yT, Nat.reduceAdd, Nat.reduceMul, Nat.reduceLeDiff, t6, f1, f2, w1]
          refine ⟨dd - 1, [0, 1, 2], by omega, by decide, pinned_zero _, 2 + 1, a, b, (wrapK .i64 (17 * hx)), dq, by (simp only [yE, Nat.reduceEqDiff, Nat.reduceAdd, reduceCtorEq]; try rfl), by (simp only [yE]; try rfl), by omega, hnx⟩
        · have f2 : ((3 : Nat) : Int) < ((4 : Nat) : Int) := by omega
          have f1 : (0 : Int) ≤ ((3 : Nat) : Int) := by omega
          have w1 : wrapK .i64 (((3 : Nat) : Int) + 1) = ((3 + 1 : Nat) : Int) := rfl
          simp -implicitDefEqProofs only [↓yP, yT, Nat.reduceAdd, Nat.reduceMul, t6, f1, f2, w1]
          refine ⟨dd - 1, [0, 1, 2], by omega, by decide, pinned_zero _, 3 + 1, a, b, c, (wrapK .i64 (17 * hx)), by (simp only [yE, Nat.reduceEqDiff, Nat.reduceAdd, reduceCtorEq]; try rfl), by (simp only [yE]; try rfl), by omega, hnx⟩
    · have u1 : leI ((strOf t.text).length : Nat) (i : Nat) = true := leI_true (by omega)
      rw [List.drop_eq_nil_of_le (by omega), colF] at hcf
      simp -implicitDefEqProofs only [↓yP, yT, Nat.reduceAdd, reduceCtorEq, u1]
      exact ⟨_, _, _, _, true, rfl, fun _ => .inr (of_eqT q4), hcf.symm⟩
  | false =>
  cases n6 : eqI ((strOf t.text).length : Nat) 6 with
  | true =>
    have hn := of_eqT n6
    have hrc : rcolF t = colF true 0 (strOf t.text) (0, 0, 0, 255) := by simp only [rcolF, q1, q4, n3, n4, n6, Bool.false_eq_true, if_false, if_true, Bool.true_or, Bool.or_self]
    have t6 : leI 6 ((strOf t.text).length : Nat) = true := leI_true (by omega)
    simp -implicitDefEqProofs only [↓yP, yT, Nat.reduceAdd, Nat.reduceMul, Nat.reduceLeDiff, reduceCtorEq, opLen.eq_1, q1, q4, n3, n4, n6]
    refine Rl_inv (fun d e st => ∃ (i : Nat) (a b c dq : Int), e = ([Tp, .c (.ptr 0 0 0 0), .c (.ptr 1 0 0 0), Tp, yd (.int .i64 ((strOf t.text).length : Nat)), .c (.ptr 2 0 0 0), yd (.int .i64 (i : Nat)), Tp, Tp, Tp, Tp, Tp, Tp, Tp, Tp, Tp, Tp, Tp, Tp, Tp, Tp, Tp, Tp, Tp, Tp, Tp, Tp, Tp, Tp, Tp, Tp, Tp, Tp, Tp, Tp, Tp, Tp, Tp, Tp, Tp, Tp, Tp, Tp, Tp, Tp, Tp, Tp, Tp, Tp, Tp, Tp, Tp, Tp, Tp, Tp, Tp, Tp, Tp, Tp, Tp, Tp, Tp, Tp, Tp, Tp, Tp, Tp, Tp, Tp, Tp, Tp, Tp, Tp, Tp, Tp, Tp, Tp, Tp, Tp]) ∧ st = [.box t.cs, .box [.p (.d (.int .i64 0)), .p (.d (.int .i64 0)), .p (.d (.int .i64 0)), .p (.d (.int .i64 0))], .box [.p (.d (.int .i64 a)), .p (.d (.int .i64 b)), .p (.d (.int .i64 c)), .p (.d (.int .i64 dq))]] ∧ i + d = (strOf t.text).length ∧ colF true i ((strOf t.text).drop i) (a, b, c, dq) = rcolF t) [false, true, true, false, true, true, true] (strOf t.text).length [0, 1, 2] (by decide) (pinned_zero _) ⟨0, 0, 0, 0, 255, by (simp only [yE, Nat.reduceEqDiff, Nat.reduceAdd, reduceCtorEq]; try rfl), by (simp only [yE]; try rfl), by omega, by rw [hrc]; rfl⟩ ?_
    rintro dd e st ⟨i, a, b, c, dq, rfl, rfl, hd, hcf⟩
    by_cases hi : i < (strOf t.text).length
    · obtain ⟨ch, hch⟩ := get_lt hi
      have u1 : leI ((strOf t.text).length : Nat) (i : Nat) = false := leI_false (by omega)
      have f1 : (0 : Int) ≤ (i : Nat) := by omega
      simp only [Tok.cs, Tok.pc, List.map_cons, List.map_nil]
      simp -implicitDefEqProofs only [↓yP, yT, xindex.eq_1, u1, f1, hch]
      refine Rcall_pure (hexX_spec _) (by rfl) fun y hy => ?_
      subst hy
      rw [drop_cons hch, colF] at hcf
      generalize hx17 (ch.toNat : Nat) = hx at hcf ⊢
      cases h0 : leI 0 hx with
      | false =>
        rw [if_neg (by rw [h0]; simp)] at hcf
        simp -implicitDefEqProofs only [↓yP, yT, Nat.reduceAdd, reduceCtorEq, h0]
        exact .no rfl hcf.symm
      | true =>
        rw [if_pos h0] at hcf
        have hnx := hcf
        simp -implicitDefEqProofs only [↓yP, yT, h0]
        clear u1 f1 hch h0 hcf
        have hj : i = 0 ∨ i = 1 ∨ i = 2 ∨ i = 3 ∨ i = 4 ∨ i = 5 ∨ i = 6 ∨ i = 7 := by omega
        rcases hj with rfl | rfl | rfl | rfl | rfl | rfl | rfl | rfl
        · have f1 : (0 : Int) ≤ ((0 : Nat) : Int) := by omega
          have f3 : ((0 : Nat) : Int).tmod 2 = 0 := rfl
          have f4 : IntKind.wrap .i64 (((0 : Nat) : Int).tdiv 2) = ((0 : Nat) : Int) := rfl
          have f5 : (0 : Int) ≤ ((0 : Nat) : Int) := by omega
          have f6 : ((0 : Nat) : Int) < ((4 : Nat) : Int) := by omega
          have f7 : eqI 0 0 = true := rfl
          have z2 : ((2 : Int) = 0) = False := by simp
          have w1 : wrapK .i64 (((0 : Nat) : Int) + 1) = ((0 + 1 : Nat) : Int) := rfl
          simp -implicitDefEqProofs only [↓yP, yT, Nat.reduceAdd, Nat.reduceMul, Nat.reduceLeDiff, t6, f1, f3, f4, f6, f7, z2, w1]
          refine ⟨dd - 1, [0, 1, 2], by omega, by decide, pinned_zero _, 0 + 1, (wrapK .i64 (16 * hx)), b, c, dq, by (simp only [yE, Nat.reduceEqDiff, Nat.reduceAdd, reduceCtorEq]; try rfl), by (simp only [yE]; try rfl), by omega, hnx⟩
        · have f1 : (0 : Int) ≤ ((1 : Nat) : Int) := by omega
          have f3 : ((1 : Nat) : Int).tmod 2 = 1 := rfl
          have f4 : IntKind.wrap .i64 (((1 : Nat) : Int).tdiv 2) = ((0 : Nat) : Int) := rfl
          have f5 : (0 : Int) ≤ ((0 : Nat) : Int) := by omega
          have f6 : ((0 : Nat) : Int) < ((4 : Nat) : Int) := by omega
          have f7 : eqI 1 0 = false := rfl
          have z2 : ((2 : Int) = 0) = False := by simp
          have w1 : wrapK .i64 (((1 : Nat) : Int) + 1) = ((1 + 1 : Nat) : Int) := rfl
          simp -implicitDefEqProofs only [↓yP, yT, Nat.reduceAdd, Nat.reduceMul, Nat.reduceLeDiff, t6, f3, f4, f5, f6, f7, z2, w1]
          refine ⟨dd - 1, [0, 1, 2], by omega, by decide, pinned_zero _, 1 + 1, (wrapK .i64 (a + hx)), b, c, dq, by (simp only [yE, Nat.reduceEqDiff, Nat.reduceAdd, reduceCtorEq]; try rfl), by (simp only [yE]; try rfl), by omega, hnx⟩
        · have f1 : (0 : Int) ≤ ((2 : Nat) : Int) := by omega
          have f3 : ((2 : Nat) : Int).tmod 2 = 0 := rfl
          have f4 : IntKind.wrap .i64 (((2 : Nat) : Int).tdiv 2) = ((1 : Nat) : Int) := rfl
          have f5 : (0 : Int) ≤ ((1 : Nat) : Int) := by omega
          have f6 : ((1 : Nat) : Int) < ((4 : Nat) : Int) := by omega
          have f7 : eqI 0 0 = true := rfl
          have z2 : ((2 : Int) = 0) = False := by simp
          have w1 : wrapK .i64 (((2 : Nat) : Int) + 1) = ((2 + 1 : Nat) : Int) := rfl
          simp -implicitDefEqProofs only [↓yP, yT, Nat.reduceAdd, Nat.reduceMul, Nat.reduceLeDiff, t6, f3, f4, f5, f6, f7, z2, w1]
          refine ⟨dd - 1, [0, 1, 2], by omega, by decide, pinned_zero _, 2 + 1, a, (wrapK .i64 (16 * hx)), c, dq, by (simp only [yE, Nat.reduceEqDiff, Nat.reduceAdd, reduceCtorEq]; try rfl), by (simp only [yE]; try rfl), by omega, hnx⟩
        · have f1 : (0 : Int) ≤ ((3 : Nat) : Int) := by omega
          have f3 : ((3 : Nat) : Int).tmod 2 = 1 := rfl
          have f4 : IntKind.wrap .i64 (((3 : Nat) : Int).tdiv 2) = ((1 : Nat) : Int) := rfl
          have f5 : (0 : Int) ≤ ((1 : Nat) : Int) := by omega
          have f6 : ((1 : Nat) : Int) < ((4 : Nat) : Int) := by omega
          have f7 : eqI 1 0 = false := rfl
          have z2 : ((2 : Int) = 0) = False := by simp
          have w1 : wrapK .i64 (((3 : Nat) : Int) + 1) = ((3 + 1 : Nat) : Int) := rfl
          simp -implicitDefEqProofs only [↓yP, yT, Nat.reduceAdd, Nat.reduceMul, Nat.reduceLeDiff, t6, f3, f4, f5, f6, f7, z2, w1]
          refine ⟨dd - 1, [0, 1, 2], by omega, by decide, pinned_zero _, 3 + 1, a, (wrapK .i64 (b + hx)), c, dq, by (simp only [yE, Nat.reduceEqDiff, Nat.reduceAdd, reduceCtorEq]; try rfl), by (simp only [yE]; try rfl), by omega, hnx⟩
        · have f1 : (0 : Int) ≤ ((4 : Nat) : Int) := by omega
          have f3 : ((4 : Nat) : Int).tmod 2 = 0 := rfl
          have f4 : IntKind.wrap .i64 (((4 : Nat) : Int).tdiv 2) = ((2 : Nat) : Int) := rfl
          have f5 : (0 : Int) ≤ ((2 : Nat) : Int) := by omega
          have f6 : ((2 : Nat) : Int) < ((4 : Nat) : Int) := by omega
          have f7 : eqI 0 0 = true := rfl
          have z2 : ((2 : Int) = 0) = False := by simp
          have w1 : wrapK .i64 (((4 : Nat) : Int) + 1) = ((4 + 1 : Nat) : Int) := rfl
          simp -implicitDefEqProofs only [↓yP, yT, Nat.reduceAdd, Nat.reduceMul, Nat.reduceLeDiff, t6, f3, f4, f5, f6, f7, z2, w1]
          refine ⟨dd - 1, [0, 1, 2], by omega, by decide, pinned_zero _, 4 + 1, a, b, (wrapK .i64 (16 * hx)), dq, by (simp only [yE, Nat.reduceEqDiff, Nat.reduceAdd, reduceCtorEq]; try rfl), by (simp only [yE]; try rfl), by omega, hnx⟩
        · have f1 : (0 : Int) ≤ ((5 : Nat) : Int) := by omega
          have f3 : ((5 : Nat) : Int).tmod 2 = 1 := rfl
          have f4 : IntKind.wrap .i64 (((5 : Nat) : Int).tdiv 2) = ((2 : Nat) : Int) := rfl
          have f5 : (0 : Int) ≤ ((2 : Nat) : Int) := by omega
          have f6 : ((2 : Nat) : Int) < ((4 : Nat) : Int) := by omega
          have f7 : eqI 1 0 = false := rfl
          have z2 : ((2 : Int) = 0) = False := by simp
          have w1 : wrapK .i64 (((5 : Nat) : Int) + 1) = ((5 + 1 : Nat) : Int) := rfl
          simp -implicitDefEqProofs only [↓yP, yT, Nat.reduceAdd, Nat.reduceMul, Nat.reduceLeDiff, t6, f3, f4, f5, f6, f7, z2, w1]
          refine ⟨dd - 1, [0, 1, 2], by omega, by decide, pinned_zero _, 5 + 1, a, b, (wrapK .i64 (c + hx)), dq, by (simp only [yE, Nat.reduceEqDiff, Nat.reduceAdd, reduceCtorEq]; try rfl), by (simp only [yE]; try rfl), by omega, hnx⟩
        · have f1 : (0 : Int) ≤ ((6 : Nat) : Int) := by omega
          have f3 : ((6 : Nat) : Int).tmod 2 = 0 := rfl
          have f4 : IntKind.wrap .i64 (((6 : Nat) : Int).tdiv 2) = ((3 : Nat) : Int) := rfl
          have f5 : (0 : Int) ≤ ((3 : Nat) : Int) := by omega
          have f6 : ((3 : Nat) : Int) < ((4 : Nat) : Int) := by omega
          have f7 : eqI 0 0 = true := rfl
          have z2 : ((2 : Int) = 0) = False := by simp
          have w1 : wrapK .i64 (((6 : Nat) : Int) + 1) = ((6 + 1 : Nat) : Int) := rfl
          simp -implicitDefEqProofs only [↓yP, yT, Nat.reduceAdd, Nat.reduceMul, t6, f3, f4, f5, f6, f7, z2, w1]
          refine ⟨dd - 1, [0, 1, 2], by omega, by decide, pinned_zero _, 6 + 1, a, b, c, (wrapK .i64 (16 * hx)), by (simp only [yE, Nat.reduceEqDiff, Nat.reduceAdd, reduceCtorEq]; try rfl), by (simp only [yE]; try rfl), by omega, hnx⟩
        · have f1 : (0 : Int) ≤ ((7 : Nat) : Int) := by omega
          have f3 : ((7 : Nat) : Int).tmod 2 = 1 := rfl
          have f4 : IntKind.wrap .i64 (((7 : Nat) : Int).tdiv 2) = ((3 : Nat) : Int) := rfl
          have f5 : (0 : Int) ≤ ((3 : Nat) : Int) := by omega
          have f6 : ((3 : Nat) : Int) < ((4 : Nat) : Int) := by omega
          have f7 : eqI 1 0 = false := rfl
          have z2 : ((2 : Int) = 0) = False := by simp
          have w1 : wrapK .i64 (((7 : Nat) : Int) + 1) = ((7 + 1 : Nat) : Int) := rfl
          simp -implicitDefEqProofs only [↓yP, yT, Nat.reduceAdd, Nat.reduceMul, t6, f3, f4, f5, f6, f7, z2, w1]
          refine ⟨dd - 1, [0, 1, 2], by omega, by decide, pinned_zero _, 7 + 1, a, b, c, (wrapK .i64 (dq + hx)), by (simp only [yE, Nat.reduceEqDiff, Nat.reduceAdd, reduceCtorEq]; try rfl), by (simp only [yE]; try rfl), by omega, hnx⟩
    · have u1 : leI ((strOf t.text).length : Nat) (i : Nat) = true := leI_true (by omega)
      rw [List.drop_eq_nil_of_le (by omega), colF] at hcf
      simp -implicitDefEqProofs only [↓yP, yT, Nat.reduceAdd, reduceCtorEq, u1]
      exact ⟨_, _, _, _, true, rfl, fun _ => .inr (of_eqT q4), hcf.symm⟩
  | false =>
  cases n8 : eqI ((strOf t.text).length : Nat) 8 with
  | true =>
    have hn := of_eqT n8
    have hrc : rcolF t = colF true 0 (strOf t.text) (0, 0, 0, 255) := by simp only [rcolF, q1, q4, n3, n4, n6, n8, Bool.false_eq_true, if_false, if_true, Bool.or_true, Bool.or_self]
    have t6 : leI 6 ((strOf t.text).length : Nat) = true := leI_true (by omega)
    simp -implicitDefEqProofs only [↓yP, yT, Nat.reduceAdd, Nat.reduceMul, Nat.reduceLeDiff, reduceCtorEq, opLen.eq_1, q1, q4, n3, n4, n6, n8]
    refine Rl_inv (fun d e st => ∃ (i : Nat) (a b c dq : Int), e = ([Tp, .c (.ptr 0 0 0 0), .c (.ptr 1 0 0 0), Tp, yd (.int .i64 ((strOf t.text).length : Nat)), .c (.ptr 2 0 0 0), yd (.int .i64 (i : Nat)), Tp, Tp, Tp, Tp, Tp, Tp, Tp, Tp, Tp, Tp, Tp, Tp, Tp, Tp, Tp, Tp, Tp, Tp, Tp, Tp, Tp, Tp, Tp, Tp, Tp, Tp, Tp, Tp, Tp, Tp, Tp, Tp, Tp, Tp, Tp, Tp, Tp, Tp, Tp, Tp, Tp, Tp, Tp, Tp, Tp, Tp, Tp, Tp, Tp, Tp, Tp, Tp, Tp, Tp, Tp, Tp, Tp, Tp, Tp, Tp, Tp, Tp, Tp, Tp, Tp, Tp, Tp, Tp, Tp, Tp, Tp, Tp]) ∧ st = [.box t.cs, .box [.p (.d (.int .i64 0)), .p (.d (.int .i64 0)), .p (.d (.int .i64 0)), .p (.d (.int .i64 0))], .box [.p (.d (.int .i64 a)), .p (.d (.int .i64 b)), .p (.d (.int .i64 c)), .p (.d (.int .i64 dq))]] ∧ i + d = (strOf t.text).length ∧ colF true i ((strOf t.text).drop i) (a, b, c, dq) = rcolF t) [false, true, true, false, true, true, true] (strOf t.text).length [0, 1, 2] (by decide) (pinned_zero _) ⟨0, 0, 0, 0, 255, by (simp only [yE, Nat.reduceEqDiff, Nat.reduceAdd, reduceCtorEq]; try rfl), by (simp only [yE]; try rfl), by omega, by rw [hrc]; rfl⟩ ?_
    rintro dd e st ⟨i, a, b, c, dq, rfl, rfl, hd, hcf⟩
    by_cases hi : i < (strOf t.text).length
    · obtain ⟨ch, hch⟩ := get_lt hi
      have u1 : leI ((strOf t.text).length : Nat) (i : Nat) = false := leI_false (by omega)
      have f1 : (0 : Int) ≤ (i : Nat) := by omega
      simp only [Tok.cs, Tok.pc, List.map_cons, List.map_nil]
      simp -implicitDefEqProofs only [↓yP, yT, xindex.eq_1, u1, f1, hch]
      refine Rcall_pure (hexX_spec _) (by rfl) fun y hy => ?_
      subst hy
      rw [drop_cons hch, colF] at hcf
      generalize hx17 (ch.toNat : Nat) = hx at hcf ⊢
      cases h0 : leI 0 hx with
      | false =>
        rw [if_neg (by rw [h0]; simp)] at hcf
        simp -implicitDefEqProofs only [↓yP, yT, Nat.reduceAdd, reduceCtorEq, h0]
        exact .no rfl hcf.symm
      | true =>
        rw [if_pos h0] at hcf
        have hnx := hcf
        simp -implicitDefEqProofs only [↓yP, yT, h0]
        clear u1 f1 hch h0 hcf
        have hj : i = 0 ∨ i = 1 ∨ i = 2 ∨ i = 3 ∨ i = 4 ∨ i = 5 ∨ i = 6 ∨ i = 7 := by omega
        rcases hj with rfl | rfl | rfl | rfl | rfl | rfl | rfl | rfl
        · have f1 : (0 : Int) ≤ ((0 : Nat) : Int) := by omega
          have f3 : ((0 : Nat) : Int).tmod 2 = 0 := rfl
          have f4 : IntKind.wrap .i64 (((0 : Nat) : Int).tdiv 2) = ((0 : Nat) : Int) := rfl
          have f5 : (0 : Int) ≤ ((0 : Nat) : Int) := by omega
          have f6 : ((0 : Nat) : Int) < ((4 : Nat) : Int) := by omega
          have f7 : eqI 0 0 = true := rfl
          have z2 : ((2 : Int) = 0) = False := by simp
          have w1 : wrapK .i64 (((0 : Nat) : Int) + 1) = ((0 + 1 : Nat) : Int) := rfl
          simp -implicitDefEqProofs only [↓yP, yT, Nat.reduceAdd, Nat.reduceMul, Nat.reduceLeDiff, t6, f1, f3, f4, f6, f7, z2, w1]
          refine ⟨dd - 1, [0, 1, 2], by omega, by decide, pinned_zero _, 0 + 1, (wrapK .i64 (16 * hx)), b, c, dq, by (simp only [yE, Nat.reduceEqDiff, Nat.reduceAdd, reduceCtorEq]; try rfl), by (simp only [yE]; try rfl), by omega, hnx⟩
        · have f1 : (0 : Int) ≤ ((1 : Nat) : Int) := by omega
          have f3 : ((1 : Nat) : Int).tmod 2 = 1 := rfl
          have f4 : IntKind.wrap .i64 (((1 : Nat) : Int).tdiv 2) = ((0 : Nat) : Int) := rfl
          have f5 : (0 : Int) ≤ ((0 : Nat) : Int) := by omega
          have f6 : ((0 : Nat) : Int) < ((4 : Nat) : Int) := by omega
          have f7 : eqI 1 0 = false := rfl
          have z2 : ((2 : Int) = 0) = False := by simp
          have w1 : wrapK .i64 (((1 : Nat) : Int) + 1) = ((1 + 1 : Nat) : Int) := rfl
          simp -implicitDefEqProofs only [↓yP, yT, Nat.reduceAdd, Nat.reduceMul, Nat.reduceLeDiff, t6, f3, f4, f5, f6, f7, z2, w1]
          refine ⟨dd - 1, [0, 1, 2], by omega, by decide, pinned_zero _, 1 + 1, (wrapK .i64 (a + hx)), b, c, dq, by (simp only [yE, Nat.reduceEqDiff, Nat.reduceAdd, reduceCtorEq]; try rfl), by (simp only [yE]; try rfl), by omega, hnx⟩
        · have f1 : (0 : Int) ≤ ((2 : Nat) : Int) := by omega
          have f3 : ((2 : Nat) : Int).tmod 2 = 0 := rfl
          have f4 : IntKind.wrap .i64 (((2 : Nat) : Int).tdiv 2) = ((1 : Nat) : Int) := rfl
          have f5 : (0 : Int) ≤ ((1 : Nat) : Int) := by omega
          have f6 : ((1 : Nat) : Int) < ((4 : Nat) : Int) := by omega
          have f7 : eqI 0 0 = true := rfl
          have z2 : ((2 : Int) = 0) = False := by simp
          have w1 : wrapK .i64 (((2 : Nat) : Int) + 1) = ((2 + 1 : Nat) : Int) := rfl
          simp -implicitDefEqProofs only [↓yP, yT, Nat.reduceAdd, Nat.reduceMul, Nat.reduceLeDiff, t6, f3, f4, f5, f6, f7, z2, w1]
          refine ⟨dd - 1, [0, 1, 2], by omega, by decide, pinned_zero _, 2 + 1, a, (wrapK .i64 (16 * hx)), c, dq, by (simp only [yE, Nat.reduceEqDiff, Nat.reduceAdd, reduceCtorEq]; try rfl), by (simp only [yE]; try rfl), by omega, hnx⟩
        · have f1 : (0 : Int) ≤ ((3 : Nat) : Int) := by omega
          have f3 : ((3 : Nat) : Int).tmod 2 = 1 := rfl
          have f4 : IntKind.wrap .i64 (((3 : Nat) : Int).tdiv 2) = ((1 : Nat) : Int) := rfl
          have f5 : (0 : Int) ≤ ((1 : Nat) : Int) := by omega
          have f6 : ((1 : Nat) : Int) < ((4 : Nat) : Int) := by omega
          have f7 : eqI 1 0 = false := rfl
          have z2 : ((2 : Int) = 0) = False := by simp
          have w1 : wrapK .i64 (((3 : Nat) : Int) + 1) = ((3 + 1 : Nat) : Int) := rfl
          simp -implicitDefEqProofs only [↓yP, yT, Nat.reduceAdd, Nat.reduceMul, Nat.reduceLeDiff, t6, f3, f4, f5, f6, f7, z2, w1]
          refine ⟨dd - 1, [0, 1, 2], by omega, by decide, pinned_zero _, 3 + 1, a, (wrapK .i64 (b + hx)), c, dq, by (simp only [yE, Nat.reduceEqDiff, Nat.reduceAdd, reduceCtorEq]; try rfl), by (simp only [yE]; try rfl), by omega, hnx⟩
        · have f1 : (0 : Int) ≤ ((4 : Nat) : Int) := by omega
          have f3 : ((4 : Nat) : Int).tmod 2 = 0 := rfl
          have f4 : IntKind.wrap .i64 (((4 : Nat) : Int).tdiv 2) = ((2 : Nat) : Int) := rfl
          have f5 : (0 : Int) ≤ ((2 : Nat) : Int) := by omega
          have f6 : ((2 : Nat) : Int) < ((4 : Nat) : Int) := by omega
          have f7 : eqI 0 0 = true := rfl
          have z2 : ((2 : Int) = 0) = False := by simp
          have w1 : wrapK .i64 (((4 : Nat) : Int) + 1) = ((4 + 1 : Nat) : Int) := rfl
          simp -implicitDefEqProofs only [↓yP, yT, Nat.reduceAdd, Nat.reduceMul, Nat.reduceLeDiff, t6, f3, f4, f5, f6, f7, z2, w1]
          refine ⟨dd - 1, [0, 1, 2], by omega, by decide, pinned_zero _, 4 + 1, a, b, (wrapK .i64 (16 * hx)), dq, by (simp only [yE, Nat.reduceEqDiff, Nat.reduceAdd, reduceCtorEq]; try rfl), by (simp only [yE]; try rfl), by omega, hnx⟩
        · have f1 : (0 : Int) ≤ ((5 : Nat) : Int) := by omega
          have f3 : ((5 : Nat) : Int).tmod 2 = 1 := rfl
          have f4 : IntKind.wrap .i64 (((5 : Nat) : Int).tdiv 2) = ((2 : Nat) : Int) := rfl
          have f5 : (0 : Int) ≤ ((2 : Nat) : Int) := by omega
          have f6 : ((2 : Nat) : Int) < ((4 : Nat) : Int) := by omega
          have f7 : eqI 1 0 = false := rfl
          have z2 : ((2 : Int) = 0) = False := by simp
          have w1 : wrapK .i64 (((5 : Nat) : Int) + 1) = ((5 + 1 : Nat) : Int) := rfl
          simp -implicitDefEqProofs only [↓yP, yT, Nat.reduceAdd, Nat.reduceMul, Nat.reduceLeDiff, t6, f3, f4, f5, f6, f7, z2, w1]
          refine ⟨dd - 1, [0, 1, 2], by omega, by decide, pinned_zero _, 5 + 1, a, b, (wrapK .i64 (c + hx)), dq, by (simp only [yE, Nat.reduceEqDiff, Nat.reduceAdd, reduceCtorEq]; try rfl), by (simp only [yE]; try rfl), by omega, hnx⟩
        · have f1 : (0 : Int) ≤ ((6 : Nat) : Int) := by omega
          have f3 : ((6 : Nat) : Int).tmod 2 = 0 := rfl
          have f4 : IntKind.wrap .i64 (((6 : Nat) : Int).tdiv 2) = ((3 : Nat) : Int) := rfl
          have f5 : (0 : Int) ≤ ((3 : Nat) : Int) := by omega
          have f6 : ((3 : Nat) : Int) < ((4 : Nat) : Int) := by omega
          have f7 : eqI 0 0 = true := rfl
          have z2 : ((2 : Int) = 0) = False := by simp
          have w1 : wrapK .i64 (((6 : Nat) : Int) + 1) = ((6 + 1 : Nat) : Int) := rfl
          simp -implicitDefEqProofs only [↓yP, yT, Nat.reduceAdd, Nat.reduceMul, t6, f3, f4, f5, f6, f7, z2, w1]
          refine ⟨dd - 1, [0, 1, 2], by omega, by decide, pinned_zero _, 6 + 1, a, b, c, (wrapK .i64 (16 * hx)), by (simp only [yE, Nat.reduceEqDiff, Nat.reduceAdd, reduceCtorEq]; try rfl), by (simp only [yE]; try rfl), by omega, hnx⟩
        · have f1 : (0 : Int) ≤ ((7 : Nat) : Int) := by omega
          have f3 : ((7 : Nat) : Int).tmod 2 = 1 := rfl
          have f4 : IntKind.wrap .i64 (((7 : Nat) : Int).tdiv 2) = ((3 : Nat) : Int) := rfl
          have f5 : (0 : Int) ≤ ((3 : Nat) : Int) := by omega
          have f6 : ((3 : Nat) : Int) < ((4 : Nat) : Int) := by omega
          have f7 : eqI 1 0 = false := rfl
          have z2 : ((2 : Int) = 0) = False := by simp
          have w1 : wrapK .i64 (((7 : Nat) : Int) + 1) = ((7 + 1 : Nat) : Int) := rfl
          simp -implicitDefEqProofs only [↓yP, yT, Nat.reduceAdd, Nat.reduceMul, t6, f3, f4, f5, f6, f7, z2, w1]
          refine ⟨dd - 1, [0, 1, 2], by omega, by decide, pinned_zero _, 7 + 1, a, b, c, (wrapK .i64 (dq + hx)), by (simp only [yE, Nat.reduceEqDiff, Nat.reduceAdd, reduceCtorEq]; try rfl), by (simp only [yE]; try rfl), by omega, hnx⟩
    · have u1 : leI ((strOf t.text).length : Nat) (i : Nat) = true := leI_true (by omega)
      rw [List.drop_eq_nil_of_le (by omega), colF] at hcf
      simp -implicitDefEqProofs only [↓yP, yT, Nat.reduceAdd, reduceCtorEq, u1]
      exact ⟨_, _, _, _, true, rfl, fun _ => .inr (of_eqT q4), hcf.symm⟩
  | false =>
    simp -implicitDefEqProofs only [↓yP, yT, Nat.reduceAdd, reduceCtorEq, opLen.eq_1, q1, q4, n3, n4, n6, n8]
    exact .no rfl (by simp only [rcolF, q1, q4, n3, n4, n6, n8, Bool.false_eq_true, if_false, if_true, Bool.or_self])
end Go.Vx.Seat
end
section
open Go Go.Vx Go.Proofs
set_option maxRecDepth 20000
set_option maxHeartbeats 4000000
namespace Go.Vx.Seat
attribute [local irreducible] Rg Rt Ro Ri Rc Rto Rtk Rtf Rti Rw Rl Rd Rcall Rtcall kf
noncomputable def nameB (l : List Tok) : Nat → Bool
  | 0 => false
  | j + 1 => match l[j]? with | some t => (if quiet t.kind then nameB l j else colB t.text) | none => false
def sameD (l : List Tok) (a k : Nat) : Bool := eqI ((openAt l k).length : Nat) ((openAt l a).length : Nat)
def stopAt (l : List Tok) (a k : Nat) : Bool := sameD l a k && (eqI (kindAt l k) 17 || eqI (kindAt l k) 20)
def freeTo (l : List Tok) (a : Nat) : Nat → Bool
  | 0 => true
  | k + 1 => freeTo l a k && (!decide (a < k) || !stopAt l a k)
noncomputable def reach (l : List Tok) (a k : Nat) : Bool := decide (a < k) && (nameB l a && (freeTo l a k && sameD l a k))
noncomputable def recol (t : Tok) : Tok := match rcolF t with | some q => colTok q.1 q.2.1 q.2.2.1 q.2.2.2 t.start | none => t
noncomputable def markW (l : List Tok) (p : Nat → Bool) : List Tok := l.mapIdx fun k t => if p k then recol t else t
noncomputable def markP (l : List Tok) (cs : List Int) (i m : Nat) : Bool := (cs.take i).any fun c => reach l c.toNat m
theorem markW_get (l : List Tok) (p : Nat → Bool) (m : Nat) : (markW l p)[m]? = l[m]?.map fun t => if p m then recol t else t := by rw [markW, List.getElem?_mapIdx]
theorem markW_length (l : List Tok) (p : Nat → Bool) : (markW l p).length = l.length := by simp [markW]
theorem markW_congr {l : List Tok} {p q : Nat → Bool} (h : ∀ m u, l[m]? = some u → p m = q m ∨ recol u = u) : markW l p = markW l q := by
  refine List.ext_getElem? fun m => ?_
  rw [markW_get, markW_get]
  cases hm : l[m]? with
  | none => rfl
  | some u =>
    simp only [Option.map_some]
    rcases h m u hm with h | h
    · rw [h]
    · rw [h]; simp
theorem markW_none {l : List Tok} {p : Nat → Bool} (h : ∀ m, p m = false) : markW l p = l := by
  refine List.ext_getElem? fun m => ?_
  rw [markW_get, h m]; cases l[m]? <;> rfl
theorem rcolF_kind {t : Tok} (h1 : t.kind ≠ 1) (h4 : t.kind ≠ 4) : rcolF t = none := by
  rw [rcolF, if_neg (by rw [eqI_eq]; simpa using h1), if_neg (by rw [eqI_eq]; simpa using h4)]
theorem recol_none {t : Tok} (h : rcolF t = none) : recol t = t := by rw [recol, h]
theorem freeTo_le {l : List Tok} {a : Nat} : ∀ {k : Nat}, k ≤ a + 1 → freeTo l a k = true
  | 0, _ => rfl
  | k + 1, h => by rw [freeTo, freeTo_le (by omega), decide_eq_false (by omega)]; rfl
theorem freeTo_succ {l : List Tok} {a k : Nat} (h : a < k) : freeTo l a (k + 1) = (freeTo l a k && !stopAt l a k) := by
  rw [freeTo, decide_eq_true h]; rfl
theorem freeTo_mono {l : List Tok} {a k : Nat} : ∀ d, freeTo l a k = false → freeTo l a (k + d) = false
  | 0, h => h
  | d + 1, h => by rw [← Nat.add_assoc, freeTo, freeTo_mono d h]; rfl
theorem mark_low {l : List Tok} {cs : List Int} {i : Nat} (a m : Nat) : markP l cs i m = (markP l cs i m || (reach l a m && decide (m < a + 1))) := by
  by_cases h : m < a + 1
  · rw [reach, decide_eq_false (show ¬ a < m by omega)]; simp
  · rw [decide_eq_false h]; simp
theorem mark_skip {l : List Tok} {cs : List Int} {i a k : Nat} (h : sameD l a k = false) (m : Nat) : (markP l cs i m || (reach l a m && decide (m < k))) = (markP l cs i m || (reach l a m && decide (m < k + 1))) := by
  by_cases hm : m = k
  · subst hm; rw [reach, h]; simp
  · rw [show decide (m < k + 1) = decide (m < k) by rw [Bool.eq_iff_iff]; simp; omega]
theorem markP_succ {l : List Tok} {cs : List Int} {i a : Nat} (h : cs[i]? = some ((a : Nat) : Int)) (m : Nat) : markP l cs (i + 1) m = (markP l cs i m || reach l a m) := by
  rw [markP, markP, List.take_add_one, h, List.any_append]; simp
theorem mark_stop {l : List Tok} {cs : List Int} {i a k : Nat} {t : Tok} (hc : cs[i]? = some ((a : Nat) : Int)) (hak : a < k) (ht : l[k]? = some t) (hs : stopAt l a k = true) (hk : t.kind = 17 ∨ t.kind = 20) :
    markW l (fun m => markP l cs i m || (reach l a m && decide (m < k))) = markW l (markP l cs (i + 1)) := by
  refine markW_congr fun m u hu => ?_
  rw [markP_succ hc]
  by_cases h1 : m < k
  · rw [decide_eq_true h1, Bool.and_true]; exact .inl rfl
  · by_cases h2 : m = k
    · subst h2; rw [ht] at hu; cases hu
      exact .inr (recol_none (rcolF_kind (by omega) (by omega)))
    · have hf : freeTo l a m = false := by
        have := freeTo_mono (l := l) (a := a) (k := k + 1) (m - (k + 1)) (by rw [freeTo_succ hak, hs]; simp)
        rwa [show k + 1 + (m - (k + 1)) = m by omega] at this
      rw [reach, hf]; simp
theorem mark_none {l : List Tok} {a k : Nat} {t : Tok} (ht : l[k]? = some t) (hr : rcolF t = none) (p : Nat → Bool) :
    markW l (fun m => p m || (reach l a m && decide (m < k))) = markW l (fun m => p m || (reach l a m && decide (m < k + 1))) := by
  refine markW_congr fun m u hu => ?_
  by_cases h2 : m = k
  · subst h2; rw [ht] at hu; cases hu
    exact .inr (recol_none hr)
  · rw [show decide (m < k + 1) = decide (m < k) by rw [Bool.eq_iff_iff]; simp; omega]; exact .inl rfl
theorem mark_set {l : List Tok} {cs : List Int} {i a k : Nat} {t : Tok} {x y z w : Int} (ht : l[k]? = some t) (hr : rcolF t = some (x, y, z, w)) (hk : reach l a k = true) :
    (markW l (fun m => markP l cs i m || (reach l a m && decide (m < k)))).set k (colTok x y z w t.start) = markW l (fun m => markP l cs i m || (reach l a m && decide (m < k + 1))) := by
  refine List.ext_getElem? fun m => ?_
  rw [List.getElem?_set, markW_length, markW_get, markW_get]
  by_cases h2 : k = m
  · subst h2
    rw [if_pos rfl, if_pos (List.getElem?_eq_some_iff.mp ht).1, ht, hk]
    simp [recol, hr]
  · rw [if_neg h2, show decide (m < k + 1) = decide (m < k) by rw [Bool.eq_iff_iff]; simp; omega]
theorem mark_end {l : List Tok} {cs : List Int} {i a k : Nat} (hc : cs[i]? = some ((a : Nat) : Int)) (hk : l.length ≤ k) :
    markW l (fun m => markP l cs i m || (reach l a m && decide (m < k))) = markW l (markP l cs (i + 1)) := by
  refine markW_congr fun m u hu => ?_
  have := (List.getElem?_eq_some_iff.mp hu).1
  rw [markP_succ hc, decide_eq_true (by omega), Bool.and_true]; exact .inl rfl
theorem mark_off {l : List Tok} {cs : List Int} {i a : Nat} (hc : cs[i]? = some ((a : Nat) : Int)) (hn : nameB l a = false) : markW l (markP l cs i) = markW l (markP l cs (i + 1)) := by
  refine markW_congr fun m u hu => ?_
  rw [markP_succ hc, reach, hn]; simp
noncomputable def markF (l : List Tok) : List Tok := markW l fun m => (colonsTo l l.length).any fun c => reach l c.toNat m
theorem markX_spec (l : List Tok) (hl : l.length ≤ 1000000) (htx : ∀ t, t ∈ l → (strOf t.text).length ≤ 10000000) : PCall C1 30 [.c (.p (rT l))] fun y => y = .c (.p (rT (markF l))) := by
  have b0 : l.length * 128 ≤ 70368744177664 := by omega
  have hcl := colonsTo_length l l.length
  refine Pf (by rfl) (by rfl) fn30 (by rfl) ?_
  simp only [Try.f30, List.length_cons, List.length_nil, List.replicate, List.cons_append, List.nil_append]
  simp -implicitDefEqProofs only [↓yP, yT, Nat.reduceAdd, reduceCtorEq, b0]
  refine Rcall_pure (colons_spec l hl) (by rfl) fun y hy => ?_
  subst hy
  simp -implicitDefEqProofs only [↓yP, yT]
  refine Rcall_pure (nest_spec l hl) (by rfl) fun y hy => ?_
  subst hy
  have hcm : ∀ c, c ∈ colonsTo l l.length → ∃ k : Nat, c = (k : Nat) ∧ k < l.length ∧ docColon l k = true := fun c hc => colonsTo_mem hc
  unfold markF
  generalize colonsTo l l.length = cs at hcl hcm ⊢
  simp -implicitDefEqProofs only [↓yP, yT]
  refine Rl_inv (fun d e s => ∃ (i : Nat) (out : List Tok), e = ([.c (.p (rT l)), Tp, Tp, .c (.own 0 13 0 l.length), .c (.p (rI cs)), .c (.p (rII (nest l))), yd (.int .i64 (i : Nat)), Tp, Tp, Tp, Tp, Tp, Tp, Tp, Tp, Tp, Tp, Tp, Tp, Tp, Tp, Tp, Tp, Tp, Tp, Tp, Tp, Tp, Tp, Tp, Tp, Tp, Tp, Tp, Tp, Tp, Tp, Tp, Tp, Tp, Tp, Tp, Tp, Tp, Tp, Tp, Tp, Tp, Tp, Tp, Tp, Tp, Tp, Tp, Tp, Tp, Tp, Tp, Tp, Tp, Tp, Tp, Tp, Tp, Tp, Tp, Tp, Tp, Tp, Tp, Tp, Tp, Tp, Tp, Tp, Tp, Tp, Tp, Tp, Tp, Tp, Tp, Tp, Tp, Tp, Tp, Tp, Tp, Tp, Tp, Tp, Tp, Tp, Tp, Tp, Tp, Tp, Tp, Tp, Tp, Tp, Tp, Tp, Tp, Tp]) ∧ s = [.row 13 (out.map Tok.pc)] ∧ i + d = cs.length ∧ out = markW l (markP l cs i)) [true, false, false, true, true, true, true] cs.length [0] (by decide) (pinned_zero _) ⟨0, l, by (simp only [yE]; try rfl), by (simp only [yE]; try rfl), by omega, (markW_none fun m => by simp [markP]).symm⟩ ?_
  rintro d e s ⟨i, out, rfl, rfl, hd, hm⟩
  have hol : out.length = l.length := by rw [hm, markW_length]
  by_cases hi : i < cs.length
  · obtain ⟨c, hc⟩ := get_lt hi
    obtain ⟨at', rfl, hatl, hatd⟩ := hcm c (List.mem_of_getElem? hc)
    have hcc := hc
    have t1 : leI (cs.length : Nat) (i : Nat) = false := leI_false (by omega)
    have w1 : wrapK .i64 ((i : Int) + 1) = ((i + 1 : Nat) : Int) := wrap_succ (by omega)
    have wa : wrapK .i64 ((at' : Int) + 1) = ((at' + 1 : Nat) : Int) := wrap_succ (by omega)
    have wb : wrapK .i64 ((at' : Int) - 1) = (at' : Int) - 1 := wrap_int (by omega) (by omega)
    simp -implicitDefEqProofs only [↓yP, yT, t1, get_map hc, ei, wb]
    refine Rl_inv (fun d1 e s => ∃ (j : Nat), e = ([.c (.p (rT l)), Tp, Tp, .c (.own 0 13 0 l.length), .c (.p (rI cs)), .c (.p (rII (nest l))), yd (.int .i64 (i : Nat)), yd (.int .i64 (at' : Nat)), yd (.int .i64 ((j : Int) - 1)), Tp, Tp, Tp, Tp, Tp, Tp, Tp, Tp, Tp, Tp, Tp, Tp, Tp, Tp, Tp, Tp, Tp, Tp, Tp, Tp, Tp, Tp, Tp, Tp, Tp, Tp, Tp, Tp, Tp, Tp, Tp, Tp, Tp, Tp, Tp, Tp, Tp, Tp, Tp, Tp, Tp, Tp, Tp, Tp, Tp, Tp, Tp, Tp, Tp, Tp, Tp, Tp, Tp, Tp, Tp, Tp, Tp, Tp, Tp, Tp, Tp, Tp, Tp, Tp, Tp, Tp, Tp, Tp, Tp, Tp, Tp, Tp, Tp, Tp, Tp, Tp, Tp, Tp, Tp, Tp, Tp, Tp, Tp, Tp, Tp, Tp, Tp, Tp, Tp, Tp, Tp, Tp, Tp, Tp, Tp, Tp]) ∧ s = [.row 13 (out.map Tok.pc)] ∧ j = d1 ∧ j ≤ at' ∧ nameB l at' = nameB l j) [true, false, false, true, true, true, true, true, true] at' [0] (by decide) (pinned_zero _) ⟨at', by (simp only [yE]; try rfl), by (simp only [yE]; try rfl), rfl, by omega, rfl⟩ ?_
    rintro d1 e s ⟨j, rfl, rfl, hj1, hj2, hnb⟩
    cases j with
    | zero =>
      have t3 : leI 0 (((0 : Nat) : Int) - 1) = false := leI_false (by omega)
      simp -implicitDefEqProofs only [↓yP, yT, t3, w1]
      refine ⟨d - 1, [0], by omega, by decide, pinned_zero _, i + 1, out, by (simp only [yE]; try rfl), by (simp only [yE]; try rfl), by omega, ?_⟩
      rw [hm]
      exact mark_off hcc hnb
    | succ j =>
      have e7 : ((j + 1 : Nat) : Int) - 1 = (j : Nat) := by omega
      have t3 : leI 0 (j : Nat) = true := leI_true (by omega)
      have w8 : wrapK .i64 ((j : Int) - 1) = (j : Int) - 1 := wrap_int (by omega) (by omega)
      obtain ⟨v, hv⟩ := get_lt (show j < l.length by omega)
      rw [e7]
      simp -implicitDefEqProofs only [↓yP, yT, Nat.reduceAdd, reduceCtorEq, t3, get_map hv, Tok.pc]
      refine Rcall_pure (quiet_spec v) (by rfl) fun y hy => ?_
      subst hy
      cases hq : quiet v.kind with
      | true =>
        simp -implicitDefEqProofs only [↓yP, yT, w8]
        refine ⟨d1 - 1, [0], by omega, by decide, pinned_zero _, j, by (simp only [yE]; try rfl), by (simp only [yE]; try rfl), by omega, by omega, by rw [hnb, nameB, hv]; simp only [hq, if_true]⟩
      | false =>
        have hnv : nameB l at' = colB v.text := by rw [hnb, nameB, hv]; simp only [hq, Bool.false_eq_true, if_false]
        simp -implicitDefEqProofs only [↓yP, yT, Nat.reduceAdd, Nat.reduceLeDiff, reduceCtorEq, t3, get_map hv, Tok.pc]
        refine Rcall_pure (colouredX_spec v.text (htx v (List.mem_of_getElem? hv))) (by rfl) fun y hy => ?_
        subst hy
        cases hcb : colB v.text with
        | false =>
          simp -implicitDefEqProofs only [↓yP, yT, w1]
          refine ⟨d - 1, [0], by omega, by decide, pinned_zero _, i + 1, out, by (simp only [yE]; try rfl), by (simp only [yE]; try rfl), by omega, ?_⟩
          rw [hm]
          exact mark_off hcc (by rw [hnv, hcb])
        | true =>
          have hnb : nameB l at' = true := by rw [hnv, hcb]
          simp -implicitDefEqProofs only [↓yP, yT, wa]
          refine Rl_inv (fun d2 e s => ∃ (k : Nat) (out : List Tok), e = ([.c (.p (rT l)), Tp, Tp, .c (.own 0 13 0 l.length), .c (.p (rI cs)), .c (.p (rII (nest l))), yd (.int .i64 (i : Nat)), yd (.int .i64 (at' : Nat)), Tp, yd (.int .i64 (k : Nat)), Tp, Tp, Tp, Tp, Tp, Tp, Tp, Tp, Tp, Tp, Tp, Tp, Tp, Tp, Tp, Tp, Tp, Tp, Tp, Tp, Tp, Tp, Tp, Tp, Tp, Tp, Tp, Tp, Tp, Tp, Tp, Tp, Tp, Tp, Tp, Tp, Tp, Tp, Tp, Tp, Tp, Tp, Tp, Tp, Tp, Tp, Tp, Tp, Tp, Tp, Tp, Tp, Tp, Tp, Tp, Tp, Tp, Tp, Tp, Tp, Tp, Tp, Tp, Tp, Tp, Tp, Tp, Tp, Tp, Tp, Tp, Tp, Tp, Tp, Tp, Tp, Tp, Tp, Tp, Tp, Tp, Tp, Tp, Tp, Tp, Tp, Tp, Tp, Tp, Tp, Tp, Tp, Tp, Tp, Tp]) ∧ s = [.row 13 (out.map Tok.pc)] ∧ k + d2 = l.length ∧ at' < k ∧ freeTo l at' k = true ∧ out = markW l (fun m => markP l cs i m || (reach l at' m && decide (m < k)))) [true, false, false, true, true, true, true, true, false, true] (l.length - (at' + 1)) [0] (by decide) (pinned_zero _) ⟨at' + 1, out, by (simp only [yE]; try rfl), by (simp only [yE]; try rfl), by omega, by omega, freeTo_le (Nat.le_refl _), ?_⟩ ?_
          · rw [hm]; exact markW_congr fun m u hu => .inl (mark_low at' m)
          rintro d2 e s ⟨k, out, rfl, rfl, hk, hak, hfr, hm⟩
          have hol : out.length = l.length := by rw [hm, markW_length]
          by_cases hkl : k < l.length
          · obtain ⟨t, ht⟩ := get_lt hkl
            have hnk := nest_at l hkl
            have hna := nest_at l hatl
            have t2 : leI (l.length : Nat) (k : Nat) = false := leI_false (by omega)
            have v1 : wrapK .i64 ((k : Int) + 1) = ((k + 1 : Nat) : Int) := wrap_succ (by omega)
            simp -implicitDefEqProofs only [↓yP, yT, t2]
            refine Rd_calm (by rw [C1_P]; kernel_rfl) ?_
            cases h5 : eqI ((openAt l k).length : Nat) ((openAt l at').length : Nat) with
            | false =>
              simp -implicitDefEqProofs only [↓yP, yT, get_map hnk, get_map hna, e2, h5, v1]
              refine ⟨d2 - 1, [0], by omega, by decide, pinned_zero _, k + 1, out, by (simp only [yE]; try rfl), by (simp only [yE]; try rfl), by omega, by omega, by rw [freeTo_succ hak, hfr, stopAt, sameD, h5]; rfl, ?_⟩
              rw [hm]; exact markW_congr fun m u hu => .inl (mark_skip (by rw [sameD, h5]) m)
            | true =>
              cases h6 : eqI t.kind 17 with
              | true =>
                simp -implicitDefEqProofs only [↓yP, yT, Nat.reduceAdd, Nat.reduceEqDiff, reduceCtorEq, get_map hnk, get_map hna, e2, h5, get_map ht, Tok.pc, h6, w1]
                refine ⟨d - 1, [0], by omega, by decide, pinned_zero _, i + 1, out, by (simp only [yE]; try rfl), by (simp only [yE]; try rfl), by omega, ?_⟩
                rw [hm]
                exact mark_stop hcc hak ht (by rw [stopAt, sameD, h5, kindAt_some ht, h6]; rfl) (.inl (of_eqT h6))
              | false =>
              cases h7 : eqI t.kind 20 with
              | true =>
                simp -implicitDefEqProofs only [↓yP, yT, Nat.reduceAdd, Nat.reduceEqDiff, reduceCtorEq, get_map hnk, get_map hna, e2, h5, get_map ht, Tok.pc, h6, h7, w1]
                refine ⟨d - 1, [0], by omega, by decide, pinned_zero _, i + 1, out, by (simp only [yE]; try rfl), by (simp only [yE]; try rfl), by omega, ?_⟩
                rw [hm]
                exact mark_stop hcc hak ht (by rw [stopAt, sameD, h5, kindAt_some ht, h6, h7]; rfl) (.inr (of_eqT h7))
              | false =>
                have hfr2 : freeTo l at' (k + 1) = true := by rw [freeTo_succ hak, hfr, stopAt, sameD, h5, kindAt_some ht, h6, h7]; rfl
                have hrk : reach l at' k = true := by rw [reach, hnb, hfr, sameD, h5, decide_eq_true hak]; rfl
                simp -implicitDefEqProofs only [↓yP, yT, Nat.reduceAdd, reduceCtorEq, get_map hnk, get_map hna, e2, h5, get_map ht, Tok.pc, h6, h7]
                refine Rcall_pure (readColourX_spec t (htx t (List.mem_of_getElem? ht))) (by rfl) fun y hy => ?_
                obtain ⟨a, b, c, q, ok, rfl, hok, hrc⟩ := hy
                simp only [c4]
                cases ok with
                | false =>
                  simp -implicitDefEqProofs only [↓yP, yT, Nat.reduceAdd, reduceCtorEq, v1]
                  refine ⟨d2 - 1, [0], by omega, by decide, pinned_zero _, k + 1, out, by (simp only [yE]; try rfl), by (simp only [yE]; try rfl), by omega, by omega, hfr2, ?_⟩
                  rw [hm]; exact mark_none ht (by rw [hrc]; rfl) _
                | true =>
                  have hu : ∃ u, out[k]? = some u := by obtain ⟨u, hu⟩ := get_lt (l := out) (i := k) (by omega); exact ⟨u, hu⟩
                  obtain ⟨u, hu⟩ := hu
                  have c1 : (0 : Int) ≤ (k : Nat) := by omega
                  have c2 : ((k : Nat) : Int) < (l.length : Nat) := by omega
                  simp -implicitDefEqProofs only [↓yP, yT, Nat.reduceAdd, reduceCtorEq]
                  refine Rd_trace ?_
                  simp -implicitDefEqProofs only [↓yP, yT, Nat.reduceAdd, Nat.reduceLeDiff, reduceCtorEq, Nat.reduceBEq, get_map ht, get_map hu, Tok.pc, c1, c2, v1]
                  refine ⟨d2 - 1, [0], by omega, by decide, pinned_zero _, k + 1, out.set k (colTok a b c q t.start), by (simp only [yE]; try rfl), ?_, by omega, by omega, hfr2, ?_⟩
                  · simp only [yE, List.map_set]; rfl
                  · rw [hm]; exact mark_set ht (by rw [hrc]; rfl) hrk
          · have t2 : leI (l.length : Nat) (k : Nat) = true := leI_true (by omega)
            simp -implicitDefEqProofs only [↓yP, yT, t2, w1]
            refine ⟨d - 1, [0], by omega, by decide, pinned_zero _, i + 1, out, by (simp only [yE]; try rfl), by (simp only [yE]; try rfl), by omega, ?_⟩
            rw [hm]
            exact mark_end hcc (by omega)
  · have t1 : leI (cs.length : Nat) (i : Nat) = true := leI_true (by omega)
    have hlt : l.length ≤ out.length := by omega
    have htk : (out.map Tok.pc).take l.length = out.map Tok.pc := List.take_of_length_le (by simp; omega)
    obtain rfl : i = cs.length := by omega
    simp -implicitDefEqProofs only [↓yP, yT, reduceCtorEq, t1, htk, hlt]
    have hfin : markW l (markP l cs cs.length) = markW l fun m => cs.any fun c => reach l c.toNat m := markW_congr fun m u hu => .inl (by rw [markP, List.take_length])
    rw [hm, hfin]
end Go.Vx.Seat
end
section
open Go Go.Vx Go.Proofs
namespace Go.Vx.Seat
theorem get_low {A B : List Tok} {k : Nat} (h : k < A.length) : (A ++ B)[k]? = A[k]? := List.getElem?_append_left h
theorem get_high (A B : List Tok) (k : Nat) : (A ++ B)[A.length + k]? = B[k]? := by rw [List.getElem?_append_right (by omega)]; congr 1; omega
theorem kind_low {A B : List Tok} {k : Nat} (h : k < A.length) : kindAt (A ++ B) k = kindAt A k := by rw [kindAt, kindAt, get_low h]
theorem kind_high (A B : List Tok) (k : Nat) : kindAt (A ++ B) (A.length + k) = kindAt B k := by rw [kindAt, kindAt, get_high]
theorem open_low {A B : List Tok} : ∀ {k : Nat}, k ≤ A.length → openAt (A ++ B) k = openAt A k
  | 0, _ => rfl
  | k + 1, h => by
    obtain ⟨t, ht⟩ := get_lt (l := A) (i := k) (by omega)
    rw [openAt_succ (ht ▸ get_low (by omega)), openAt_succ ht, open_low (by omega)]
theorem open_end (l : List Tok) : openAt l l.length = op l := by rw [open_take l _ (Nat.le_refl _), List.take_length]
theorem open_high {A B : List Tok} (hA : Closed A) : ∀ {k : Nat}, k ≤ B.length → openAt (A ++ B) (A.length + k) = openAt B k
  | 0, _ => by rw [Nat.add_zero, open_low (Nat.le_refl _), open_end, hA.op]; rfl
  | k + 1, h => by
    obtain ⟨t, ht⟩ := get_lt (l := B) (i := k) (by omega)
    rw [← Nat.add_assoc, openAt_succ (by rw [get_high]; exact ht), openAt_succ ht, open_high hA (by omega)]
theorem nest_prefix {s o : List Int} {k : Int} (h : s <+: o) (hs : s ≠ []) (hn : o = s → o.getLast? ≠ some k) : s <+: nestStep o k := by
  obtain ⟨w, rfl⟩ := h
  unfold nestStep
  split
  · rename_i hl
    cases w with
    | nil => exact absurd hl (hn (by simp))
    | cons a w => rw [List.dropLast_append_of_ne_nil (by simp)]; exact List.prefix_append _ _
  · split
    · rw [List.append_assoc]; exact List.prefix_append _ _
    · exact List.prefix_append _ _
theorem ret {l : List Tok} {s : List Int} {i j : Nat} (hi : openAt l i = s) (hs : s ≠ []) (hij : i ≤ j) (hjl : j ≤ l.length) (hj : (openAt l j).length < s.length) :
    ∃ p, i ≤ p ∧ p < j ∧ openAt l p = s ∧ (∀ x, i ≤ x → x ≤ p → s <+: openAt l x) ∧ s.getLast? = some (kindAt l p) ∧ openAt l (p + 1) = s.dropLast := by
  have key : ∀ d x, j - x = d → i ≤ x → x ≤ j → (∀ y, i ≤ y → y ≤ x → s <+: openAt l y) → ∃ p, i ≤ p ∧ p < j ∧ openAt l p = s ∧ (∀ x, i ≤ x → x ≤ p → s <+: openAt l x) ∧ s.getLast? = some (kindAt l p) ∧ openAt l (p + 1) = s.dropLast := by
    intro d
    induction d with
    | zero =>
      intro x hd hx hxj hp
      obtain rfl : x = j := by omega
      have := (hp x hx (Nat.le_refl _)).length_le
      omega
    | succ d ih =>
      intro x hd hx hxj hp
      obtain ⟨t, ht⟩ := get_lt (l := l) (i := x) (by omega)
      by_cases hc : openAt l x = s ∧ s.getLast? = some t.kind
      · refine ⟨x, hx, by omega, hc.1, hp, by rw [kindAt_some ht]; exact hc.2, ?_⟩
        rw [openAt_succ ht, hc.1, nestStep, if_pos hc.2]
      · refine ih (x + 1) (by omega) (by omega) (by omega) fun y hy1 hy2 => ?_
        by_cases hyx : y = x + 1
        · subst hyx
          rw [openAt_succ ht]
          exact nest_prefix (hp x hx (Nat.le_refl _)) hs fun e he => hc ⟨e, by rw [← e]; exact he⟩
        · exact hp y hy1 (by omega)
  exact key (j - i) i rfl (Nat.le_refl _) hij fun y hy1 hy2 => by
    obtain rfl : y = i := by omega
    rw [hi]; exact List.prefix_refl _
theorem colon_lowI {A B : List Tok} (hA : Closed A) {c : Nat} (h : c < A.length) : isColon (A ++ B) c = isColon A c := by
  obtain ⟨t, ht⟩ := get_lt h
  have e : A.take c ++ t :: A.drop (c + 1) = A := by rw [← drop_at ht, List.take_append_drop]
  rw [colon_at (ht ▸ get_low h), colon_at ht, List.take_append_of_le_length (by omega), List.drop_append_of_le_length (by omega), colon_front hA e]
theorem colon_highI {A B : List Tok} (hA : Closed A) {c : Nat} (h : c < B.length) : isColon (A ++ B) (A.length + c) = isColon B c := by
  obtain ⟨t, ht⟩ := get_lt h
  rw [colon_at (ts := A ++ B) (i := A.length + c) (t := t) (by rw [get_high]; exact ht), colon_at ht, List.take_length_add_append, Nat.add_assoc, List.drop_length_add_append, colon_ahead hA]
theorem colon_kind {l : List Tok} {c : Nat} (h : isColon l c = true) : kindAt l c = 16 ∧ openAt l c ≠ [] ∧ (openAt l c).getLast? = some 20 ∧ (since l c).1 = 1 := by
  simp only [isColon, Bool.and_eq_true, decide_eq_true_eq] at h
  obtain ⟨⟨⟨⟨⟨h1, h2⟩, h3⟩, h4⟩, _⟩, _⟩ := h
  have hsh : AllShut (openAt l c) := by
    by_cases hc : c ≤ l.length
    · rw [open_take l c hc]; exact op_shut _
    · exfalso
      rw [kindAt, List.getElem?_eq_none (by omega)] at h1; cases h1
  have h16 : ¬ (openAt l c).getLast? = some (kindAt l c) := fun hl => by
    have := hsh _ (List.mem_of_getLast? hl)
    rw [h1] at this; unfold Shuts at this; omega
  rw [pl, plOf] at h2 h3
  simp only [if_neg h16] at h2 h3
  refine ⟨h1, fun e => by rw [e] at h3; simp at h3, ?_, h4⟩
  rcases List.eq_nil_or_concat (openAt l c) with e | ⟨u, z, e⟩
  · rw [e] at h3; simp at h3
  · rw [List.concat_eq_append] at e
    rw [e, List.getLast?_concat]
    rw [e] at h2
    simp only [allBlocks, List.all_append, Bool.and_eq_true, List.all_cons, List.all_nil] at h2
    have := h2.2.1
    congr 1
    first | exact of_eqT this | simpa using this
theorem markB_iff (l : List Tok) (m : Nat) : ((colonsTo l l.length).any fun c => reach l c.toNat m) = true ↔ ∃ c, c < l.length ∧ isColon l c = true ∧ reach l c m = true := by
  rw [← colons_same, List.any_eq_true]
  constructor
  · rintro ⟨x, hx, hr⟩
    rw [colonsP, List.mem_map] at hx
    obtain ⟨c, hc, rfl⟩ := hx
    obtain ⟨h1, h2⟩ := List.mem_filter.mp hc
    exact ⟨c, by simpa using h1, h2, by simpa using hr⟩
  · rintro ⟨c, h1, h2, h3⟩
    exact ⟨(c : Nat), by rw [colonsP, List.mem_map]; exact ⟨c, List.mem_filter.mpr ⟨by simpa using h1, h2⟩, rfl⟩, by simpa using h3⟩
theorem name_low {A B : List Tok} : ∀ {k : Nat}, k ≤ A.length → nameB (A ++ B) k = nameB A k
  | 0, _ => rfl
  | k + 1, h => by
    rw [nameB, nameB, get_low (by omega), name_low (by omega)]
theorem name_high {A B : List Tok} : ∀ {k : Nat}, k ≤ B.length → (∃ t, t ∈ B.take k ∧ quiet t.kind = false) → nameB (A ++ B) (A.length + k) = nameB B k
  | 0, _, h => by obtain ⟨t, ht, _⟩ := h; simp at ht
  | k + 1, h, hx => by
    obtain ⟨u, hu⟩ := get_lt (l := B) (i := k) (by omega)
    rw [← Nat.add_assoc, nameB, nameB, get_high, hu]
    simp only
    cases hq : quiet u.kind with
    | false => rfl
    | true =>
      simp only [if_true]
      refine name_high (by omega) ?_
      obtain ⟨t, ht, h2⟩ := hx
      rw [List.take_add_one, hu] at ht
      rcases List.mem_append.mp ht with ht | ht
      · exact ⟨t, ht, h2⟩
      · simp at ht; rw [ht, hq] at h2; cases h2
theorem same_low {A B : List Tok} {a k : Nat} (ha : a ≤ A.length) (hk : k ≤ A.length) : sameD (A ++ B) a k = sameD A a k := by rw [sameD, sameD, open_low ha, open_low hk]
theorem same_high {A B : List Tok} (hA : Closed A) {a k : Nat} (ha : a ≤ B.length) (hk : k ≤ B.length) : sameD (A ++ B) (A.length + a) (A.length + k) = sameD B a k := by rw [sameD, sameD, open_high hA ha, open_high hA hk]
theorem stop_low {A B : List Tok} {a k : Nat} (ha : a ≤ A.length) (hk : k < A.length) : stopAt (A ++ B) a k = stopAt A a k := by rw [stopAt, stopAt, same_low ha (by omega), kind_low hk]
theorem stop_high {A B : List Tok} (hA : Closed A) {a k : Nat} (ha : a ≤ B.length) (hk : k ≤ B.length) : stopAt (A ++ B) (A.length + a) (A.length + k) = stopAt B a k := by rw [stopAt, stopAt, same_high hA ha hk, kind_high]
theorem free_low {A B : List Tok} {a : Nat} (ha : a ≤ A.length) : ∀ {k : Nat}, k ≤ A.length → freeTo (A ++ B) a k = freeTo A a k
  | 0, _ => rfl
  | k + 1, h => by rw [freeTo, freeTo, free_low ha (by omega), stop_low ha (by omega)]
theorem free_high {A B : List Tok} (hA : Closed A) {a : Nat} (ha : a ≤ B.length) : ∀ {k : Nat}, k ≤ B.length → freeTo (A ++ B) (A.length + a) (A.length + k) = freeTo B a k
  | 0, _ => by rw [Nat.add_zero, freeTo_le (by omega)]; rfl
  | k + 1, h => by
    rw [← Nat.add_assoc, freeTo, freeTo, free_high hA ha (by omega), stop_high hA ha (by omega)]
    congr 2
    rw [show decide (A.length + a < A.length + k) = decide (a < k) by rw [Bool.eq_iff_iff]; simp]
theorem reach_low {A B : List Tok} {a k : Nat} (ha : a < A.length) (hk : k < A.length) : reach (A ++ B) a k = reach A a k := by
  rw [reach, reach, name_low (by omega), free_low (by omega) (by omega), same_low (by omega) (by omega)]
theorem since_tok {B : List Tok} {c : Nat} (hc : c ≤ B.length) (h : (since B c).1 = 1) : ∃ t, t ∈ B.take c ∧ quiet t.kind = false := by
  rw [since_take B c hc] at h
  by_cases hx : ∃ t, t ∈ B.take c ∧ quiet t.kind = false
  · exact hx
  · exfalso
    have hq : (B.take c).filter nqt = [] := by
      rw [List.filter_eq_nil_iff]
      intro t ht hn
      exact hx ⟨t, ht, by simpa [nqt] using hn⟩
    rw [← sn3_filter, hq] at h
    exact absurd h (by decide)
theorem reach_high {A B : List Tok} (hA : Closed A) {a k : Nat} (ha : a < B.length) (hk : k < B.length) (hc : isColon B a = true) : reach (A ++ B) (A.length + a) (A.length + k) = reach B a k := by
  have h4 := (colon_kind hc).2.2.2
  rw [reach, reach, name_high (by omega) (since_tok (by omega) h4), free_high hA (by omega) (by omega), same_high hA (by omega) (by omega)]
  congr 1
  rw [Bool.eq_iff_iff]; simp
theorem reach_over {A B : List Tok} (hA : Closed A) {a k : Nat} (ha : a < A.length) (hc : isColon A a = true) : reach (A ++ B) a (A.length + k) = false := by
  obtain ⟨h1, h2, h3, _⟩ := colon_kind hc
  obtain ⟨p, p1, p2, p3, _, p5, _⟩ := ret (l := A) (j := A.length) rfl h2 (by omega) (Nat.le_refl _) (by rw [open_end, hA.op]; exact List.length_pos_iff.mpr h2)
  rw [h3] at p5
  have hk20 : kindAt A p = 20 := by simpa using p5.symm
  have hap : a < p := by
    rcases Nat.lt_or_ge a p with h | h
    · exact h
    · have : a = p := by omega
      subst this; rw [h1] at hk20; cases hk20
  have hst : stopAt A a p = true := by
    rw [stopAt, sameD, p3, hk20, eqI_true]; rfl
  have hf : freeTo (A ++ B) a (p + 1) = false := by
    rw [freeTo_succ hap, stop_low (by omega) p2, hst]; simp
  have hf2 := freeTo_mono (l := A ++ B) (a := a) (k := p + 1) (A.length + k - (p + 1)) hf
  rw [show p + 1 + (A.length + k - (p + 1)) = A.length + k by omega] at hf2
  rw [reach, hf2]; simp
theorem mark_join {A : List Tok} (hA : Closed A) (B : List Tok) : markF (A ++ B) = markF A ++ markF B := by
  unfold markF
  refine List.ext_getElem? fun m => ?_
  rw [markW_get]
  by_cases hm : m < A.length
  · rw [get_low hm, List.getElem?_append_left (by rw [markW_length]; exact hm), markW_get]
    congr 2
    funext t
    have e : ((colonsTo (A ++ B) (A ++ B).length).any fun c => reach (A ++ B) c.toNat m) = ((colonsTo A A.length).any fun c => reach A c.toNat m) := by
      rw [Bool.eq_iff_iff, markB_iff, markB_iff]
      constructor
      · rintro ⟨c, h1, h2, h3⟩
        have hcm : c < m := by
          have := h3; rw [reach, Bool.and_eq_true] at this; simpa using this.1
        exact ⟨c, by omega, by rw [← colon_lowI hA (by omega)]; exact h2, by rw [← reach_low (B := B) (by omega) hm]; exact h3⟩
      · rintro ⟨c, h1, h2, h3⟩
        exact ⟨c, by simp; omega, by rw [colon_lowI hA h1]; exact h2, by rw [reach_low h1 hm]; exact h3⟩
    rw [e]
  · obtain ⟨k, rfl⟩ : ∃ k, m = A.length + k := ⟨m - A.length, by omega⟩
    rw [get_high, List.getElem?_append_right (by rw [markW_length]; omega), markW_length, Nat.add_sub_cancel_left, markW_get]
    cases hk : B[k]? with
    | none => rfl
    | some t =>
      have hkl := (List.getElem?_eq_some_iff.mp hk).1
      have e : ((colonsTo (A ++ B) (A ++ B).length).any fun c => reach (A ++ B) c.toNat (A.length + k)) = ((colonsTo B B.length).any fun c => reach B c.toNat k) := by
        rw [Bool.eq_iff_iff, markB_iff, markB_iff]
        constructor
        · rintro ⟨c, h1, h2, h3⟩
          by_cases hc : c < A.length
          · rw [colon_lowI hA hc] at h2
            rw [reach_over hA hc h2] at h3; cases h3
          · obtain ⟨d, rfl⟩ : ∃ d, c = A.length + d := ⟨c - A.length, by omega⟩
            have hd : d < B.length := by simp at h1; omega
            rw [colon_highI hA hd] at h2
            exact ⟨d, hd, h2, by rw [← reach_high hA hd hkl h2]; exact h3⟩
        · rintro ⟨c, h1, h2, h3⟩
          exact ⟨A.length + c, by simp; omega, by rw [colon_highI hA h1]; exact h2, by rw [reach_high hA h1 hkl h2]; exact h3⟩
      rw [e]
theorem kind_strip (l : List Tok) (k : Nat) : kindAt (l.map strip) k = kindAt l k := by
  rw [kindAt, kindAt, List.getElem?_map]; cases l[k]? <;> rfl
theorem open_strip (l : List Tok) : ∀ k, openAt (l.map strip) k = openAt l k
  | 0 => rfl
  | k + 1 => by
    rw [openAt, openAt, List.getElem?_map, open_strip l k]
    cases l[k]? <;> rfl
theorem colon_strip (l : List Tok) (c : Nat) : isColon (l.map strip) c = isColon l c := by
  cases hc : l[c]? with
  | none =>
    have h1 : kindAt l c = 0 := by rw [kindAt, hc]
    have h2 : kindAt (l.map strip) c = 0 := by rw [kind_strip, h1]
    rw [isColon, isColon, h1, h2]; rfl
  | some t =>
    have h1 : (l.map strip)[c]? = some (strip t) := by rw [List.getElem?_map, hc]; rfl
    rw [colon_at h1, colon_at hc, ← List.map_take, ← List.map_drop, colAt_strip]
theorem name_strip (l : List Tok) : ∀ k, nameB (l.map strip) k = nameB l k
  | 0 => rfl
  | k + 1 => by
    rw [nameB, nameB, List.getElem?_map, name_strip l k]
    cases l[k]? <;> rfl
theorem free_strip (l : List Tok) (a : Nat) : ∀ k, freeTo (l.map strip) a k = freeTo l a k
  | 0 => rfl
  | k + 1 => by rw [freeTo, freeTo, free_strip l a k, stopAt, stopAt, sameD, sameD, open_strip, open_strip, kind_strip]
theorem reach_strip (l : List Tok) (a k : Nat) : reach (l.map strip) a k = reach l a k := by
  rw [reach, reach, name_strip, free_strip, sameD, sameD, open_strip, open_strip]
theorem recol_strip (t : Tok) : recol (strip t) = strip (recol t) := by
  have : rcolF (strip t) = rcolF t := rfl
  rw [recol, recol, this]
  cases rcolF t <;> rfl
theorem mark_strip (l : List Tok) : markF (l.map strip) = (markF l).map strip := by
  unfold markF
  refine List.ext_getElem? fun m => ?_
  rw [markW_get, List.getElem?_map, List.getElem?_map, markW_get]
  cases hm : l[m]? with
  | none => rfl
  | some t =>
    have e : ((colonsTo (l.map strip) (l.map strip).length).any fun c => reach (l.map strip) c.toNat m) = ((colonsTo l l.length).any fun c => reach l c.toNat m) := by
      rw [Bool.eq_iff_iff, markB_iff, markB_iff]
      simp only [colon_strip, reach_strip, List.length_map]
    rw [e]
    simp only [Option.map_some]
    cases ((colonsTo l l.length).any fun c => reach l c.toNat m) with
    | true => simp only [if_true]; rw [recol_strip]
    | false => rfl
theorem recol_kind (t : Tok) : (recol t).kind = t.kind ∨ ((t.kind = 1 ∨ t.kind = 4) ∧ (recol t).kind = 26) := by
  rw [recol]
  cases h : rcolF t with
  | none => exact .inl rfl
  | some q =>
    refine .inr ⟨?_, rfl⟩
    by_cases h1 : t.kind = 1
    · exact .inl h1
    · by_cases h4 : t.kind = 4
      · exact .inr h4
      · rw [rcolF_kind h1 h4] at h; cases h
theorem nest_other {o : List Int} (h : AllShut o) {k : Int} (hk : k = 1 ∨ k = 4 ∨ k = 26) : nestStep o k = o := by
  rw [nestStep, if_neg, if_neg]
  · unfold closes
    rw [if_neg (by omega), if_neg (by omega), if_neg (by omega)]; decide
  · intro hl
    have := h _ (List.mem_of_getLast? hl)
    unfold Shuts at this; omega
theorem open_mark (l : List Tok) (p : Nat → Bool) : ∀ k, k ≤ l.length → openAt (markW l p) k = openAt l k
  | 0, _ => rfl
  | k + 1, h => by
    obtain ⟨t, ht⟩ := get_lt (l := l) (i := k) (by omega)
    have hsh : AllShut (openAt l k) := by rw [open_take l k (by omega)]; exact op_shut _
    rw [openAt_succ (t := if p k then recol t else t) (by rw [markW_get, ht]; rfl), openAt_succ ht, open_mark l p k (by omega)]
    cases p k with
    | false => rfl
    | true =>
      simp only [if_true]
      rcases recol_kind t with e | ⟨e1, e2⟩
      · rw [e]
      · rw [e2, nest_other hsh (by omega), nest_other hsh (by omega)]
theorem Closed.of_mark {l : List Tok} (h : Closed (markF l)) : Closed l := by
  obtain ⟨P, c, hP, hc, hp⟩ := h
  have hlen : l.length = P.length + 1 := by
    have : (markF l).length = l.length := markW_length _ _
    rw [hP] at this; simp at this; omega
  rcases List.eq_nil_or_concat l with e | ⟨u, z, e⟩
  · rw [e] at hlen; simp at hlen
  · rw [List.concat_eq_append] at e
    have hul : u.length = P.length := by rw [e] at hlen; simp at hlen; omega
    refine ⟨u, z, e, ?_, ?_⟩
    · have h1 : (markF l)[P.length]? = some c := by rw [hP]; simp
      have h2 : l[P.length]? = some z := by rw [e, ← hul]; simp
      rw [markF, markW_get, h2] at h1
      simp only [Option.map_some, Option.some.injEq] at h1
      revert h1
      refine ite_of (p := fun q : Tok => q = c → z.kind = 20) (fun _ h => ?_) fun _ h => by rw [h]; exact hc
      rcases recol_kind z with e | ⟨e1, e2⟩
      · rw [← e, h]; exact hc
      · rw [h, hc] at e2; cases e2
    · have h1 := open_mark l (fun m => (colonsTo l l.length).any fun c => reach l c.toNat m) P.length (by omega)
      rw [show markW l (fun m => (colonsTo l l.length).any fun c => reach l c.toNat m) = P ++ [c] from hP, open_low (by omega), open_end, hp] at h1
      have h2 : openAt l P.length = Seat.op u := by
        rw [e, open_low (by omega), ← hul, open_end]
      rw [← h2, ← h1]
theorem filter_last {p : Tok → Bool} {c : Tok} : ∀ {l X : List Tok}, l.filter p = X ++ [c] → ∃ l1 l2, l = l1 ++ [c] ++ l2 ∧ l1.filter p = X ∧ l2.filter p = []
  | [], X, h => by simp at h
  | t :: l, X, h => by
    cases hp : p t with
    | false =>
      rw [List.filter_cons_of_neg (by simp [hp])] at h
      obtain ⟨l1, l2, h1, h2, h3⟩ := filter_last h
      exact ⟨t :: l1, l2, by rw [h1]; rfl, by rw [List.filter_cons_of_neg (by simp [hp]), h2], h3⟩
    | true =>
      rw [List.filter_cons_of_pos hp] at h
      cases X with
      | nil =>
        simp only [List.nil_append, List.cons.injEq] at h
        exact ⟨[], l, by rw [h.1]; rfl, rfl, h.2⟩
      | cons x X =>
        simp only [List.cons_append, List.cons.injEq] at h
        obtain ⟨l1, l2, h1, h2, h3⟩ := filter_last h.2
        exact ⟨t :: l1, l2, by rw [h1]; rfl, by rw [List.filter_cons_of_pos hp, h2, h.1], h3⟩
theorem Closed.of_value {l : List Tok} (h : Closed (valL [] l)) : ∃ C Q, l = C ++ Q ∧ Closed C ∧ (∀ t, t ∈ Q → quiet t.kind = true) ∧ Q.filter kp = [] := by
  obtain ⟨P, c, hP, hc, hp⟩ := h
  have h1 := valL_nq l.length [] l (Nat.le_refl _)
  have hcn : nqt c = true := by simp only [nqt, hc]; rfl
  rw [hP, List.filter_append, List.filter_cons_of_pos hcn, List.filter_nil] at h1
  obtain ⟨l1, Q, h2, h3, h4⟩ := filter_last h1.symm
  have hC : Closed (l1 ++ [c]) := ⟨l1, c, rfl, hc, by rw [← op_filter, h3, op_filter, hp]⟩
  have hQ : ∀ t, t ∈ Q → quiet t.kind = true := fun t ht => by
    have := (List.filter_eq_nil_iff.mp h4) t ht
    simpa [nqt] using this
  refine ⟨l1 ++ [c], Q, h2, hC, hQ, ?_⟩
  rw [h2, valL_join hC, valL_only hQ] at hP
  rcases List.eq_nil_or_concat (Q.filter kp) with e | ⟨u, z, e⟩
  · exact e
  · exfalso
    rw [List.concat_eq_append] at e
    rw [e, ← List.append_assoc] at hP
    have hz : z = c := by simpa using (List.append_inj' hP rfl).2
    have hk : kp z = true := (List.mem_filter.mp (show z ∈ Q.filter kp by rw [e]; simp)).2
    rw [kp, hz, hc] at hk
    exact absurd hk (by simp [eqI_eq])
end Go.Vx.Seat
end
section
open Go Go.Vx Go.Proofs
set_option maxRecDepth 10000
set_option maxHeartbeats 4000000
namespace Go.Vx.Seat
attribute [local irreducible] Rg Rt Ro Ri Rc Rto Rtk Rtf Rti Rw Rl Rd Rcall Rtcall kf
theorem fn43 : nth C1.P.funcs.toList 43 = some Try.f43 := by kernel_rfl
theorem fn55 : nth C1.P.funcs.toList 55 = some Try.f55 := by kernel_rfl
theorem fn56 : nth C1.P.funcs.toList 56 = some Try.f56 := by kernel_rfl
def pb (ts : List Tok) (cols : List Int) (i : Nat) : List PC := [rT ts, rP ts, rI cols, .d (.int .i64 i)]
theorem shut_spec (ts : List Tok) (cols : List Int) (i : Nat) (depth : Nat) (hi : i < ts.length) : PCall C1 43 [.c (.rp (pb ts cols i)), yd (.int .i64 depth)] fun y => y = yd (.bool (decide ((pl ts i).1 < depth))) := by
  refine Pf (by rfl) (by rfl) fn43 (by rfl) ?_
  simp only [Try.f43, List.length_cons, List.length_nil, List.replicate, List.cons_append, List.nil_append]
  simp only [pb]
  simp -implicitDefEqProofs only [↓yP, yT]
  refine Rd_calm (by rw [C1_P]; kernel_rfl) ?_
  simp -implicitDefEqProofs only [↓yP, yT, Nat.reduceAdd, Nat.reduceLeDiff, reduceCtorEq, plGet hi, leI_eq]
  congr 4
  rw [Bool.eq_iff_iff]
  simp
theorem tok_dry (l : List Tok) : dryEls (l.map Tok.pc) := fun cs hcs c hc => by
  obtain ⟨t, _, rfl⟩ := List.mem_map.mp hcs
  simp only [Tok.pc, List.mem_cons, List.not_mem_nil, or_false] at hc
  rcases hc with h | h | h | h | h | h | h | h | h | h | h | h | h <;> exact ⟨_, h⟩
theorem clone_spec (ts : List Tok) (cols : List Int) (i : Nat) (a b : Nat) (hab : a ≤ b) (hb : b ≤ ts.length) (hl : ts.length ≤ 1000000) : PCallF C1 55 [.c (.rp (pb ts cols i)), yd (.int .i64 a), yd (.int .i64 b)] fun y => y = .c (.p (rT ((ts.drop a).take (b - a)))) := by
  refine PfF (by rfl) (by rfl) fn55 (by rfl) ?_
  simp only [Try.f55, List.length_cons, List.length_nil, List.replicate, List.cons_append, List.nil_append, pb]
  have h1 : ((a : Nat) : Int) ≤ ((b : Nat) : Int) := by omega
  have h2 : ((b : Nat) : Int) ≤ ((ts.length : Nat) : Int) := by omega
  have h3 : min (b - a) (ts.length - a) = b - a := by omega
  have h4 : (b - a) * 128 ≤ 70368744177664 := by omega
  simp -implicitDefEqProofs only [↓yP, yT, Nat.reduceAdd, reduceCtorEq, h1, h2, List.length_take, List.length_drop, h3, h4]
  refine ⟨0, 13, 0, b - a, ((ts.drop a).take (b - a)).map Tok.pc, rfl, ?_, tok_dry _, rfl⟩
  simp only [nth_zero]
  rw [if_pos (by simp; omega)]
  simp [List.map_take, List.map_drop, List.take_take]
theorem colon_spec (ts : List Tok) (cols : List Int) (i from_ : Nat) (hc : Rising cols) (hl : cols.length ≤ 1000000) : PCall C1 56 [.c (.rp (pb ts cols i)), yd (.int .i64 from_)] fun y =>
    ∃ (k : Nat) (c : Int) (b : Bool), y = .tup [yd (.int .i64 c), yd (.bool b)] ∧ Stands cols from_ k ∧ (b = true ↔ ∃ a, cols[k]? = some a ∧ a < i) ∧ (b = true → cols[k]? = some c) := by
  refine Pf (by rfl) (by rfl) fn56 (by rfl) ?_
  simp only [Try.f56, List.length_cons, List.length_nil, List.replicate, List.cons_append, List.nil_append]
  simp only [pb]
  simp -implicitDefEqProofs only [↓yP, yT, Nat.reduceAdd, Nat.reduceLeDiff]
  refine Rcall_pure (search_spec cols from_ hl hc) (by rfl) fun y hy => ?_
  obtain ⟨k, b, rfl, hk, hb⟩ := hy
  have hkl := hk.1
  simp -implicitDefEqProofs only [↓yP, yT]
  refine Rd_calm (by rw [C1_P]; kernel_rfl) ?_
  by_cases hkk : k < cols.length
  · obtain ⟨a, ha⟩ := get_lt hkk
    have t1 : leI (cols.length : Nat) (k : Nat) = false := leI_false (by omega)
    by_cases hai : a < i
    · have t2 : leI ((i : Nat) : Int) a = false := leI_false (by omega)
      simp -implicitDefEqProofs only [↓yP, yT, Nat.reduceAdd, Nat.reduceLeDiff, reduceCtorEq, t1, t2, get_map ha, ei]
      exact ⟨k, a, true, rfl, hk, by simp [ha, hai], fun _ => ha⟩
    · have t2 : leI ((i : Nat) : Int) a = true := leI_true (by omega)
      simp -implicitDefEqProofs only [↓yP, yT, Nat.reduceAdd, Nat.reduceLeDiff, reduceCtorEq, t1, t2, get_map ha, ei]
      exact ⟨k, 0, false, rfl, hk, by simp [ha, hai], fun h => by cases h⟩
  · have t1 : leI (cols.length : Nat) (k : Nat) = true := leI_true (by omega)
    simp -implicitDefEqProofs only [↓yP, yT, Nat.reduceAdd, Nat.reduceLeDiff, reduceCtorEq, t1]
    exact ⟨k, 0, false, rfl, hk, by simp; intro a ha; have := lt_of_some ha; omega, fun h => by cases h⟩
end Go.Vx.Seat
end
section
open Go Go.Vx Go.Proofs
set_option maxRecDepth 10000
set_option maxHeartbeats 4000000
namespace Go.Vx.Seat
attribute [local irreducible] Rg Rt Ro Ri Rc Rto Rtk Rtf Rti Rw Rl Rd Rcall Rtcall kf
theorem fn54 : nth C1.P.funcs.toList 54 = some Try.f54 := by kernel_rfl
theorem fn44 : nth C1.P.funcs.toList 44 = some Try.f44 := by kernel_rfl
theorem fn27 : nth C1.P.funcs.toList 27 = some Try.f27 := by kernel_rfl
inductive Nd where
  | mk (kind : Int) (head tail : List Tok) (kids : List Nd) (opn shut semi : Bool) (at_ last : Int)
mutual
def Nd.pc : Nd → List PC
  | .mk k h t ks o s m a l => [.d (.int .i64 k), .row 13 (h.map Tok.pc), .row 13 (t.map Tok.pc), .row 9 (Nd.pcs ks), .d (.bool o), .d (.bool s), .d (.bool m), .d (.int .i64 a), .d (.int .i64 l)]
def Nd.pcs : List Nd → List (List PC)
  | [] => []
  | n :: ns => n.pc :: Nd.pcs ns
end
theorem pcs_map : ∀ ns : List Nd, Nd.pcs ns = ns.map Nd.pc
  | [] => by rw [Nd.pcs]; rfl
  | n :: ns => by rw [Nd.pcs, pcs_map ns]; rfl
theorem pc_mk (k : Int) (h t : List Tok) (ks : List Nd) (o s m : Bool) (a l : Int) : Nd.pc (.mk k h t ks o s m a l) = [.d (.int .i64 k), .row 13 (h.map Tok.pc), .row 13 (t.map Tok.pc), .row 9 (ks.map Nd.pc), .d (.bool o), .d (.bool s), .d (.bool m), .d (.int .i64 a), .d (.int .i64 l)] := by
  rw [Nd.pc, pcs_map]
def Nd.cs (n : Nd) : List Ce := n.pc.map .p
abbrev rN (ns : List Nd) : PC := .row 9 (ns.map Nd.pc)
def startAt (ts : List Tok) (i : Nat) : Int := match ts[i]? with | some t => t.start | none => 0
theorem startAt_some {ts : List Tok} {i : Nat} {t : Tok} (h : ts[i]? = some t) : startAt ts i = t.start := by rw [startAt, h]
def slice (ts : List Tok) (a b : Nat) : List Tok := (ts.drop a).take (b - a)
def scanP (ts : List Tok) (depth : Nat) : Nat → Nat → Nat
  | 0, k => k
  | d + 1, k => if (pl ts k).1 < depth then k else if (pl ts k).1 ≤ depth ∧ (kindAt ts k = 19 ∨ kindAt ts k = 17) then k else scanP ts depth d (k + 1)
theorem scanP_le (ts : List Tok) (depth : Nat) : ∀ d k, k ≤ scanP ts depth d k ∧ scanP ts depth d k ≤ k + d
  | 0, k => by simp [scanP]
  | d + 1, k => by
    have := scanP_le ts depth d (k + 1)
    unfold scanP
    split
    · omega
    · split
      · omega
      · omega
def colonAt (cols : List Int) (a b : Nat) : Option Nat := match cols.find? (fun c => decide ((a : Int) ≤ c)) with
  | some c => if c < b then some c.toNat else none
  | none => none
def open_ (ts : List Tok) (depth k : Nat) : Bool := decide (k < ts.length) && !decide ((pl ts k).1 < depth)
def leafP (ts : List Tok) (cols : List Int) (depth i k : Nat) : Nd × Nat :=
  let semi := open_ ts depth k
  (match colonAt cols i k with
  | some c => .mk 2 (slice ts i c) (slice ts (c + 1) k) [] false false semi (startAt ts c) (if semi then startAt ts k else 0)
  | none => .mk 3 (slice ts i k) [] [] false false semi 0 (if semi then startAt ts k else 0), if semi then k + 1 else k)
def ruleP (ts : List Tok) (rec : Nat → Nat → List Nd × Nat) (i k depth : Nat) : Nd × Nat :=
  let r := rec (k + 1) (depth + 1)
  (.mk 1 (slice ts i k) [] r.1 true (decide (r.2 < ts.length)) false (startAt ts k) (if r.2 < ts.length then startAt ts r.2 else 0), if r.2 < ts.length then r.2 + 1 else r.2)
def nodeP (ts : List Tok) (cols : List Int) (rec : Nat → Nat → List Nd × Nat) (i depth : Nat) : Nd × Nat :=
  let k := scanP ts depth (ts.length - i) i
  if open_ ts depth k = true ∧ kindAt ts k = 19 then ruleP ts rec i k depth else leafP ts cols depth i k
def nodesP (ts : List Tok) (cols : List Int) : Nat → Nat → Nat → List Nd × Nat
  | 0, i, _ => ([], i)
  | n + 1, i, depth => if open_ ts depth i = true then
      let x := nodeP ts cols (nodesP ts cols n) i depth
      let r := nodesP ts cols n x.2 depth
      (x.1 :: r.1, r.2)
    else ([], i)
def pbC (ts : List Tok) (cols : List Int) (i : Nat) : List Ce := [.p (rT ts), .p (rP ts), .p (rI cols), .p (.d (.int .i64 i))]
def NodesSpec (ts : List Tok) (cols : List Int) (n : Nat) : Prop := ∀ i depth, depth ≤ i → i ≤ ts.length → ts.length - i ≤ n →
  YC C1 false 27 [.c (.ptr 0 0 0 0), yd (.int .i64 depth)] [.box (pbC ts cols i)] fun y s => y = .c (.p (rN (nodesP ts cols n i depth).1)) ∧ s = [.box (pbC ts cols (nodesP ts cols n i depth).2)]
def In (ts : List Tok) (rec : Nat → Nat → List Nd × Nat) : Prop := ∀ i depth, i ≤ ts.length → i ≤ (rec i depth).2 ∧ (rec i depth).2 ≤ ts.length
theorem rule_spec (ts : List Tok) (cols : List Int) (n : Nat) (hl : ts.length ≤ 1000000) (hn : NodesSpec ts cols n) (hin : In ts (nodesP ts cols n)) (i k depth : Nat) (hik : i ≤ k) (hk : k < ts.length) (hdk : depth ≤ k) (hf : ts.length - (k + 1) ≤ n) :
    YC C1 false 54 [.c (.ptr 0 0 0 0), yd (.int .i64 i), yd (.int .i64 depth)] [.box (pbC ts cols k)] fun y s => y = .agg (ruleP ts (nodesP ts cols n) i k depth).1.cs ∧ s = [.box (pbC ts cols (ruleP ts (nodesP ts cols n) i k depth).2)] := by
  obtain ⟨t, ht⟩ := get_lt hk
  have hst := startAt_some ht
  have w1 : wrapK .i64 ((k : Int) + 1) = ((k + 1 : Nat) : Int) := wrap_succ (by omega)
  have w2 : wrapK .i64 ((depth : Int) + 1) = ((depth + 1 : Nat) : Int) := wrap_succ (by omega)
  refine Yf0 [0, 13, 13, 9, 0, 0, 0, 0, 0] (by rfl) (by rfl) fn54 (by rfl) ?_
  simp only [Try.f54, List.length_cons, List.length_nil, List.replicate, List.cons_append, List.nil_append, pbC]
  simp -implicitDefEqProofs only [↓yP, yT, Nat.reduceLeDiff]
  refine Rd_trace ?_
  simp -implicitDefEqProofs only [↓yP, yT]
  refine Rtcall_lendF rfl (clone_spec ts cols k i k hik (by omega) hl) (by rfl) fun y hy => ?_
  subst hy
  simp -implicitDefEqProofs only [↓yP, yT, Nat.reduceAdd, Nat.reduceLeDiff, reduceCtorEq, Nat.reduceBEq, get_map ht, Tok.pc, w1, w2]
  refine Rcall_hand 1 [.box (pbC ts cols (k + 1))] rfl (hn (k + 1) (depth + 1) (by omega) (by omega) hf) (by simp) rfl (by rfl) fun y s' hy => ?_
  obtain ⟨rfl, rfl⟩ := hy
  refine ⟨rfl, ?_⟩
  obtain ⟨hj1, hj2⟩ := hin (k + 1) (depth + 1) (by omega)
  generalize hr : nodesP ts cols n (k + 1) (depth + 1) = r at hj1 hj2
  obtain ⟨kids, j⟩ := r
  simp only at hj1 hj2
  simp only [pbC]
  simp -implicitDefEqProofs only [↓yP, yT, Nat.reduceAdd, Nat.reduceLeDiff]
  refine Rd_calm (by rw [C1_P]; kernel_rfl) ?_
  by_cases hj : j < ts.length
  · obtain ⟨u, hu⟩ := get_lt hj
    have hsu := startAt_some hu
    have t1 : leI (ts.length : Nat) (j : Nat) = false := leI_false (by omega)
    have w3 : wrapK .i64 ((j : Int) + 1) = ((j + 1 : Nat) : Int) := wrap_succ (by omega)
    simp -implicitDefEqProofs only [↓yP, yT, t1]
    refine Rd_trace ?_
    simp -implicitDefEqProofs only [↓yP, yT, Nat.reduceAdd, Nat.reduceLeDiff, reduceCtorEq, Nat.reduceBEq, get_map hu, Tok.pc, w3]
    refine ⟨[0], by decide, pinned_one _, ?_, ?_⟩
    · simp only [ruleP, hr, if_pos hj, hst, hsu, Nd.cs, pc_mk, List.map_cons, List.map_nil, decide_eq_true hj]
      rfl
    · simp only [ruleP, hr, if_pos hj]
      rfl
  · have t1 : leI (ts.length : Nat) (j : Nat) = true := leI_true (by omega)
    simp -implicitDefEqProofs only [↓yP, yT, Nat.reduceAdd, reduceCtorEq, t1]
    refine ⟨[0], by decide, pinned_one _, ?_, ?_⟩
    · simp only [ruleP, hr, if_neg hj, hst, Nd.cs, pc_mk, List.map_cons, List.map_nil, decide_eq_false hj]
      rfl
    · simp only [ruleP, hr, if_neg hj]
      rfl
end Go.Vx.Seat
end
